/- What the functions of this program compute, told as plain functions, and that the calls come to just that. Printed by this session's program; part 1. -/
import Derived.Test.YtolpimhkpnonnaaProg
import Derived.Test.YtolpimhkpnonnaaSlM
set_option linter.unusedVariables false
set_option linter.unusedSimpArgs false
set_option linter.unnecessarySimpa false
namespace Go.Proofs.Ytolpimhkpnonnaa.Sl
open Go Go.RowKit Go.Proofs.Sl
structure S36 where
  f0 : (List Int)
  f1 : Int
  f2 : Bool
  deriving DecidableEq
def z36 : S36 := ⟨[], (0 : Int), false⟩
def k36 : Kd S36 := kIso (kPair (kRow (kInt .u8) 5) (kPair (kInt .i64) kBool)) (fun x : S36 => (x.f0, (x.f1, x.f2)))
theorem k36qind : k36.Ind := kIso_ind (kPair_ind (kRow_ind (kInt_ind _)) (kPair_ind (kInt_ind _) kBool_ind))
theorem k36qrd {b : Nat} {w0 : World} {R : Frag} {x : S36} {cs : List Value} (h : k36.rd b w0 R x cs) : ∃ (vf0 : Value), cs = [vf0, .int .i64 x.f1, .bool x.f2] ∧ Rds (kInt .u8) b w0 R vf0 x.f0 := by
  obtain ⟨c1q, c2q, rfl, h3q, h4q⟩ := h
  obtain ⟨c5q, c6q, rfl, h7q, h8q⟩ := h4q
  obtain ⟨v9q, rfl, g10q⟩ := h3q
  obtain rfl := h7q
  obtain rfl := h8q
  exact ⟨v9q, rfl, g10q⟩
theorem k36qrep {b : Nat} {w0 : World} {R : Frag} {x : S36} {cs : List Value} {M : Frag} (h : k36.rep b w0 R x cs M) : ∃ (vf0 : Value), ∃ (Mvf0 : Frag), cs = [vf0, .int .i64 x.f1, .bool x.f2] ∧ M = Mvf0 ∧ Row (kInt .u8) 5 b w0 R vf0 x.f0 Mvf0 := by
  obtain ⟨c11q, c12q, M15q, M16q, rfl, rfl, h13q, h14q⟩ := h
  obtain ⟨c17q, c18q, M21q, M22q, rfl, rfl, h19q, h20q⟩ := h14q
  obtain ⟨v23q, rfl, g24q⟩ := h13q
  obtain ⟨rfl, rfl⟩ := h19q
  obtain ⟨rfl, rfl⟩ := h20q
  exact ⟨v23q, _, rfl, by simp, g24q⟩
theorem k36qmk {b : Nat} {w0 : World} {R : Frag} {x : S36} {vf0 : Value} {Mvf0 : Frag} (gvf0 : Row (kInt .u8) 5 b w0 R vf0 x.f0 Mvf0) : ∃ M, k36.rep b w0 R x [vf0, .int .i64 x.f1, .bool x.f2] M ∧ M = Mvf0 := ⟨_, ⟨_, _, _, _, rfl, rfl, ⟨vf0, rfl, gvf0⟩, ⟨_, _, _, _, rfl, rfl, ⟨rfl, rfl⟩, ⟨rfl, rfl⟩⟩⟩, by simp⟩
/-! ### (*louver/pipe.Pipe).Cut -/
def pipe_Pipe_Cut.f (p0 : S36) : Option (S36) := some (⟨([] : List Int), p0.f1, true⟩ : S36)
set_option maxHeartbeats 2000000 in
set_option maxRecDepth 100000 in
theorem pipe_Pipe_Cut.calls {b : Nat} {w0 W : World} {R : Frag} {Fs : List Frag} {p0 : S36}  {v0 : Value} {M0 : Frag} {r0q : S36} (hp0 : Ptr k36 36 b w0 R v0 p0 M0) (H : pipe_Pipe_Cut.f p0 = some r0q) (hS : St b w0 W R (M0 :: Fs)) :
    Calls Try.prog 11 ([v0] : List Value).toArray W (fun e W' => ∃ (O0q : Frag), e = .returned (.tuple #[]) ∧ Ptr k36 36 b w0 R v0 r0q O0q ∧ St b w0 W' R (O0q :: Fs)) := by
  unfold pipe_Pipe_Cut.f at H
  refine calls_enter Try.func11 rfl 10 rfl (by kernel_rfl) (fun a h => ?_)
  refine wp_seq ?_
  refine WL.start ?_
  refine WL.block (c := 1) (m' := 1) h rfl [(2, v0)] (by kernel_rfl) (fun a75q h76q => ?_)
  obtain ⟨g77q, cs78q, M79q, hv_, hM_, hr80q⟩ := hp0
  obtain ⟨v81q, M82q, rfl, hM2q, hr83q⟩ := k36qrep hr80q
  subst hM2q
  subst hM_
  subst hv_
  replace hr83q : Row (kInt .u8) 5 b w0 R v81q p0.f0 M79q := hr83q
  obtain ⟨A84q, c85q, rfl⟩ := hr83q.form
  have hS86q : St b w0 W R ([(g77q, .cells ([.slice A84q p0.f0.length c85q, .int .i64 p0.f1, .bool p0.f2] : List Value).toArray 36 (0, 0))] :: M79q :: Fs) := hS.assoc (by simp only [List.flatten_cons, List.append_assoc, List.cons_append, List.nil_append, List.append_nil])
  refine WL.block (c := 1) (m' := 2) h76q rfl [(3, .bool true)] (by kernel_rfl) (fun a87q h88q => ?_)
  clear h76q a75q
  refine WL.done (by kernel_rfl) ?_
  refine wp_then h88q rfl ?_
  refine WL.start ?_
  refine WL.block (c := 4) (m' := 4) h88q rfl [(7, .pointer (some ⟨g77q, 0, none⟩)), (6, .pointer (some ⟨g77q, 0, none⟩)), (5, .pointer (some ⟨g77q, 0, none⟩)), (4, .pointer (some ⟨g77q, 0, none⟩))] (by kernel_rfl) (fun a89q h90q => ?_)
  clear h88q a87q
  refine WL.op' (m := 4) h90q rfl rfl ?_
  refine owp_store (i := 0) (vs := ([.slice none 0 0] : List Value)) h90q rfl (by kernel_rfl) rfl rfl rfl rfl (by simp [Value.oneCell']) (by kernel_rfl) hS86q (by simp) (cs' := ([.slice none 0 0, .int .i64 p0.f1, .bool p0.f2] : List Value)) rfl (fun a91q W93q h92q hS94q => ?_)
  clear h90q a89q
  refine WL.block (c := 2) (m' := 7) h92q rfl [(9, .pointer (some ⟨g77q, 2, none⟩)), (8, .pointer (some ⟨g77q, 0, none⟩))] (by kernel_rfl) (fun a95q h96q => ?_)
  clear h92q a91q
  refine WL.op' (m := 7) h96q rfl rfl ?_
  refine owp_store (i := 2) (vs := ([.bool true] : List Value)) h96q rfl (by kernel_rfl) rfl rfl rfl rfl (by simp [Value.oneCell']) (by kernel_rfl) hS94q (by simp) (cs' := ([.slice none 0 0, .int .i64 p0.f1, .bool true] : List Value)) rfl (fun a97q W99q h98q hS100q => ?_)
  clear h96q a95q
  refine WL.done (by kernel_rfl) ?_
  obtain ⟨M102q, hr101q, hM_⟩ := k36qmk (b := b) (w0 := w0) (R := R) (x := (⟨([] : List Int), p0.f1, true⟩ : S36)) (gvf0 := Row.nil)
  have hp103q : Ptr k36 36 b w0 R (.pointer (some ⟨g77q, 0, none⟩)) (⟨([] : List Int), p0.f1, true⟩ : S36) ((g77q, .cells ([.slice none 0 0, .int .i64 p0.f1, .bool true] : List Value).toArray 36 (0, 0)) :: M102q) := ⟨_, _, _, rfl, rfl, hr101q⟩
  rw [hM_] at hp103q
  have hS105q : St b w0 W99q R (((g77q, .cells ([.slice none 0 0, .int .i64 p0.f1, .bool true] : List Value).toArray 36 (0, 0)) :: ([])) :: M79q :: Fs) := hS100q.assoc (by simp only [List.flatten_cons, List.append_assoc, List.cons_append, List.nil_append, List.append_nil])
  obtain ⟨M106q, hM_⟩ : ∃ y : Frag, y = ((g77q, .cells ([.slice none 0 0, .int .i64 p0.f1, .bool true] : List Value).toArray 36 (0, 0)) :: ([])) := ⟨_, rfl⟩
  rw [← hM_] at hp103q hS105q
  clear hM_
  have hS107q : St b w0 W99q R (M79q :: M106q :: Fs) := hS105q.bring 1 rfl rfl
  have hS108q : St b w0 W99q R (M106q :: Fs) := hS107q.drop_
  obtain rfl := Option.some.inj H
  repeat (first | refine then_go ?_ | refine inBlock_go ?_)
  refine body_end (v := .tuple #[]) h98q (by kernel_rfl) (by kernel_rfl) ?_
  exact ⟨M106q, rfl, hp103q, hS108q⟩

/-! ### (*louver/pipe.Pipe).Cut -/
def pipe_Pipe_Cut_nil.f  : Option (Unit) := some ()
set_option maxHeartbeats 2000000 in
set_option maxRecDepth 100000 in
theorem pipe_Pipe_Cut_nil.calls {b : Nat} {w0 W : World} {R : Frag} {Fs : List Frag}     (H : pipe_Pipe_Cut_nil.f = some ()) (hS : St b w0 W R (Fs)) :
    Calls Try.prog 11 ([.pointer none] : List Value).toArray W (fun e W' => e = .returned (.tuple #[]) ∧ St b w0 W' R (Fs)) := by
  unfold pipe_Pipe_Cut_nil.f at H
  refine calls_enter Try.func11 rfl 10 rfl (by kernel_rfl) (fun a h => ?_)
  refine wp_seq ?_
  refine WL.start ?_
  refine WL.block (c := 2) (m' := 2) h rfl [(3, .bool false), (2, .pointer none)] (by kernel_rfl) (fun a111q h112q => ?_)
  refine WL.done (by kernel_rfl) ?_
  refine wp_else h112q rfl ?_
  refine wp_skip ?_
  repeat (first | refine then_go ?_ | refine inBlock_go ?_)
  refine body_end (v := .tuple #[]) h112q (by kernel_rfl) (by kernel_rfl) ?_
  exact ⟨rfl, hS⟩

/-! ### louver/pipe.New -/
def pipe_New.f (p0 : Int) : Option (S36) := some (⟨([] : List Int), mnI (mxI p0 1) 1048576, false⟩ : S36)
set_option maxHeartbeats 2000000 in
set_option maxRecDepth 100000 in
theorem pipe_New.calls {b : Nat} {w0 W : World} {R : Frag} {Fs : List Frag} {p0 : Int}  {r0q : S36}  (H : pipe_New.f p0 = some r0q) (hS : St b w0 W R (Fs)) :
    Calls Try.prog 7 ([.int .i64 p0] : List Value).toArray W (fun e W' => ∃ (u0q : Value) (N0q : Frag), e = .returned (u0q) ∧ Ptr k36 36 b w0 R u0q r0q N0q ∧ St b w0 W' R (N0q :: Fs)) := by
  unfold pipe_New.f at H
  refine calls_enter Try.func7 rfl 8 rfl (by kernel_rfl) (fun a h => ?_)
  refine wp_seq ?_
  refine WL.start ?_
  refine WL.block (c := 1) (m' := 1) h rfl [(2, .pointer none)] (by kernel_rfl) (fun a130q h131q => ?_)
  refine WL.done (by kernel_rfl) ?_
  refine wp_seq ?_
  refine WL.start ?_
  refine WL.block (c := 4) (m' := 4) h131q rfl [(6, .agg #[.slice none 0 0, .int .i64 (mnI (mxI p0 1) 1048576), .bool false]), (5, .int .i64 (mnI (mxI p0 1) 1048576)), (4, .int .i64 (mxI p0 1)), (3, .int .i64 p0)] (by kernel_rfl) (fun a132q h133q => ?_)
  clear h131q a130q
  refine WL.op' (m := 4) h133q rfl rfl ?_
  refine owp_new (fun g_ => .pointer (some ⟨g_, 0, none⟩)) (.cells ([.slice none 0 0, .int .i64 (mnI (mxI p0 1) 1048576), .bool false] : List Value).toArray 36 (0, 0)) h133q rfl (by kernel_rfl) (by kernel_rfl) hS (fun a134q W136q g137q h135q hS138q => ?_)
  clear h133q a132q
  refine WL.block (c := 1) (m' := 6) h135q rfl [(2, .pointer (some ⟨g137q, 0, none⟩))] (by kernel_rfl) (fun a139q h140q => ?_)
  clear h135q a134q
  refine WL.done (by kernel_rfl) ?_
  refine wp_ret ?_
  obtain ⟨M142q, hr141q, hM_⟩ := k36qmk (b := b) (w0 := w0) (R := R) (x := (⟨([] : List Int), mnI (mxI p0 1) 1048576, false⟩ : S36)) (gvf0 := Row.nil)
  have hp143q : Ptr k36 36 b w0 R (.pointer (some ⟨g137q, 0, none⟩)) (⟨([] : List Int), mnI (mxI p0 1) 1048576, false⟩ : S36) ((g137q, .cells ([.slice none 0 0, .int .i64 (mnI (mxI p0 1) 1048576), .bool false] : List Value).toArray 36 (0, 0)) :: M142q) := ⟨_, _, _, rfl, rfl, hr141q⟩
  rw [hM_] at hp143q
  have hS145q : St b w0 W136q R (((g137q, .cells ([.slice none 0 0, .int .i64 (mnI (mxI p0 1) 1048576), .bool false] : List Value).toArray 36 (0, 0)) :: ([])) :: Fs) := hS138q.assoc (by simp only [List.flatten_cons, List.append_assoc, List.cons_append, List.nil_append, List.append_nil])
  obtain ⟨M146q, hM_⟩ : ∃ y : Frag, y = ((g137q, .cells ([.slice none 0 0, .int .i64 (mnI (mxI p0 1) 1048576), .bool false] : List Value).toArray 36 (0, 0)) :: ([])) := ⟨_, rfl⟩
  rw [← hM_] at hp143q hS145q
  clear hM_
  obtain rfl := Option.some.inj H
  repeat (first | refine then_ret ?_ | refine inBlock_ret ?_ | refine inBlock_go ?_)
  refine body_ret (v := .pointer (some ⟨g137q, 0, none⟩)) h140q (by kernel_rfl) (by kernel_rfl) ?_
  exact ⟨.pointer (some ⟨g137q, 0, none⟩), M146q, rfl, hp143q, hS145q⟩

/-! ### (*louver/pipe.Pipe).IsCut -/
def pipe_Pipe_IsCut.f (p0 : S36) : Option (Bool) := some p0.f2
set_option maxHeartbeats 2000000 in
set_option maxRecDepth 100000 in
theorem pipe_Pipe_IsCut.calls {b : Nat} {w0 W : World} {R : Frag} {Fs : List Frag} {p0 : S36}  {v0 : Value} {M0 : Frag} {r0q : Bool} (hp0 : Ptr k36 36 b w0 R v0 p0 M0) (H : pipe_Pipe_IsCut.f p0 = some r0q) (hS : St b w0 W R (M0 :: Fs)) :
    Calls Try.prog 13 ([v0] : List Value).toArray W (fun e W' => ∃ (O0q : Frag), e = .returned (.bool r0q) ∧ Ptr k36 36 b w0 R v0 p0 O0q ∧ St b w0 W' R (O0q :: Fs)) := by
  unfold pipe_Pipe_IsCut.f at H
  refine calls_enter Try.func13 rfl 11 rfl (by kernel_rfl) (fun a h => ?_)
  refine wp_seq ?_
  refine WL.start ?_
  refine WL.block (c := 1) (m' := 1) h rfl [(2, .bool false)] (by kernel_rfl) (fun a181q h182q => ?_)
  refine WL.done (by kernel_rfl) ?_
  refine wp_seq ?_
  refine WL.start ?_
  refine WL.block (c := 1) (m' := 1) h182q rfl [(3, v0)] (by kernel_rfl) (fun a183q h184q => ?_)
  clear h182q a181q
  obtain ⟨g185q, cs186q, M187q, hv_, hM_, hr188q⟩ := hp0
  obtain ⟨v189q, M190q, rfl, hM2q, hr191q⟩ := k36qrep hr188q
  subst hM2q
  subst hM_
  subst hv_
  replace hr191q : Row (kInt .u8) 5 b w0 R v189q p0.f0 M187q := hr191q
  obtain ⟨A192q, c193q, rfl⟩ := hr191q.form
  have hS194q : St b w0 W R ([(g185q, .cells ([.slice A192q p0.f0.length c193q, .int .i64 p0.f1, .bool p0.f2] : List Value).toArray 36 (0, 0))] :: M187q :: Fs) := hS.assoc (by simp only [List.flatten_cons, List.append_assoc, List.cons_append, List.nil_append, List.append_nil])
  refine WL.block (c := 2) (m' := 3) h184q rfl [(5, .bool false), (4, .bool false)] (by kernel_rfl) (fun a195q h196q => ?_)
  clear h184q a183q
  refine WL.op' (m := 3) h196q rfl rfl (owp_run h196q rfl (by kernel_rfl) (v := .pointer (some ⟨g185q, 0, none⟩)) (by kernel_rfl) (fun a197q h198q => ?_))
  clear h196q a195q
  refine WL.op' (m := 4) h198q rfl rfl (owp_run h198q rfl (by kernel_rfl) (v := .pointer (some ⟨g185q, 0, none⟩)) (by kernel_rfl) (fun a199q h200q => ?_))
  clear h198q a197q
  refine WL.op' (m := 5) h200q rfl rfl (owp_run h200q rfl (by kernel_rfl) (v := .pointer (some ⟨g185q, 2, none⟩)) (by kernel_rfl) (fun a201q h202q => ?_))
  clear h200q a199q
  refine WL.op' (m := 6) h202q rfl rfl ?_
  refine owp_run (v := .bool p0.f2) h202q rfl (by kernel_rfl) (run_load1 rfl rfl Try.underlying4 rfl (hS194q.cell (i := 2) rfl)) (fun a203q h204q => ?_)
  clear h202q a201q
  refine WL.block (c := 2) (m' := 9) h204q rfl [(2, .bool p0.f2), (10, .bool p0.f2)] (by kernel_rfl) (fun a205q h206q => ?_)
  clear h204q a203q
  refine WL.done (by kernel_rfl) ?_
  refine wp_ret ?_
  have hS207q : St b w0 W R (M187q :: [(g185q, .cells ([.slice A192q p0.f0.length c193q, .int .i64 p0.f1, .bool p0.f2] : List Value).toArray 36 (0, 0))] :: Fs) := hS194q.bring 1 rfl rfl
  have hS208q : St b w0 W R ([(g185q, .cells ([.slice A192q p0.f0.length c193q, .int .i64 p0.f1, .bool p0.f2] : List Value).toArray 36 (0, 0))] :: M187q :: Fs) := hS207q.bring 1 rfl rfl
  obtain ⟨M210q, hr209q, hM_⟩ := k36qmk (b := b) (w0 := w0) (R := R) (x := (⟨p0.f0, p0.f1, p0.f2⟩ : S36)) (gvf0 := hr191q)
  have hp211q : Ptr k36 36 b w0 R (.pointer (some ⟨g185q, 0, none⟩)) (⟨p0.f0, p0.f1, p0.f2⟩ : S36) ((g185q, .cells ([.slice A192q p0.f0.length c193q, .int .i64 p0.f1, .bool p0.f2] : List Value).toArray 36 (0, 0)) :: M210q) := ⟨_, _, _, rfl, rfl, hr209q⟩
  rw [hM_] at hp211q
  have hS213q : St b w0 W R (((g185q, .cells ([.slice A192q p0.f0.length c193q, .int .i64 p0.f1, .bool p0.f2] : List Value).toArray 36 (0, 0)) :: (M187q)) :: Fs) := hS208q.assoc (by simp only [List.flatten_cons, List.append_assoc, List.cons_append, List.nil_append, List.append_nil])
  obtain ⟨M214q, hM_⟩ : ∃ y : Frag, y = ((g185q, .cells ([.slice A192q p0.f0.length c193q, .int .i64 p0.f1, .bool p0.f2] : List Value).toArray 36 (0, 0)) :: (M187q)) := ⟨_, rfl⟩
  rw [← hM_] at hp211q hS213q
  clear hM_
  obtain rfl := Option.some.inj H
  repeat (first | refine then_ret ?_ | refine inBlock_ret ?_ | refine inBlock_go ?_)
  refine body_ret (v := .bool p0.f2) h206q (by kernel_rfl) (by kernel_rfl) ?_
  exact ⟨M214q, rfl, hp211q, hS213q⟩

/-! ### (*louver/pipe.Pipe).IsCut -/
def pipe_Pipe_IsCut_nil.f  : Option (Bool) := some true
set_option maxHeartbeats 2000000 in
set_option maxRecDepth 100000 in
theorem pipe_Pipe_IsCut_nil.calls {b : Nat} {w0 W : World} {R : Frag} {Fs : List Frag}   {r0q : Bool}  (H : pipe_Pipe_IsCut_nil.f = some r0q) (hS : St b w0 W R (Fs)) :
    Calls Try.prog 13 ([.pointer none] : List Value).toArray W (fun e W' => e = .returned (.bool r0q) ∧ St b w0 W' R (Fs)) := by
  unfold pipe_Pipe_IsCut_nil.f at H
  refine calls_enter Try.func13 rfl 11 rfl (by kernel_rfl) (fun a h => ?_)
  refine wp_seq ?_
  refine WL.start ?_
  refine WL.block (c := 1) (m' := 1) h rfl [(2, .bool false)] (by kernel_rfl) (fun a229q h230q => ?_)
  refine WL.done (by kernel_rfl) ?_
  refine wp_seq ?_
  refine WL.start ?_
  refine WL.block (c := 3) (m' := 3) h230q rfl [(5, .bool true), (4, .bool true), (3, .pointer none)] (by kernel_rfl) (fun a231q h232q => ?_)
  clear h230q a229q
  refine WL.skipped (m := 3) h232q rfl rfl (by kernel_rfl) rfl (fun a233q h234q => ?_)
  clear h232q a231q
  refine WL.skipped (m := 4) h234q rfl rfl (by kernel_rfl) rfl (fun a235q h236q => ?_)
  clear h234q a233q
  refine WL.skipped (m := 5) h236q rfl rfl (by kernel_rfl) rfl (fun a237q h238q => ?_)
  clear h236q a235q
  refine WL.skipped (m := 6) h238q rfl rfl (by kernel_rfl) rfl (fun a239q h240q => ?_)
  clear h238q a237q
  refine WL.block (c := 2) (m' := 9) h240q rfl [(2, .bool true), (10, .bool true)] (by kernel_rfl) (fun a241q h242q => ?_)
  clear h240q a239q
  refine WL.done (by kernel_rfl) ?_
  refine wp_ret ?_
  obtain rfl := Option.some.inj H
  repeat (first | refine then_ret ?_ | refine inBlock_ret ?_ | refine inBlock_go ?_)
  refine body_ret (v := .bool true) h242q (by kernel_rfl) (by kernel_rfl) ?_
  exact ⟨rfl, hS⟩

/-! ### (*louver/pipe.Pipe).Room -/
def pipe_Pipe_Room.f (p0 : S36) : Option (Int) := bnd1 (pipe_Pipe_IsCut.f p0) fun r350q => (if r350q = true then (some 0) else (some (IntKind.i64.wrap (p0.f1 - (p0.f0.length : Int)))))
set_option maxHeartbeats 2000000 in
set_option maxRecDepth 100000 in
theorem pipe_Pipe_Room.calls {b : Nat} {w0 W : World} {R : Frag} {Fs : List Frag} {p0 : S36}  {v0 : Value} {M0 : Frag} {r0q : Int} (hp0 : Ptr k36 36 b w0 R v0 p0 M0) (H : pipe_Pipe_Room.f p0 = some r0q) (hS : St b w0 W R (M0 :: Fs)) :
    Calls Try.prog 12 ([v0] : List Value).toArray W (fun e W' => ∃ (O0q : Frag), e = .returned (.int .i64 r0q) ∧ Ptr k36 36 b w0 R v0 p0 O0q ∧ St b w0 W' R (O0q :: Fs)) := by
  unfold pipe_Pipe_Room.f at H
  refine calls_enter Try.func12 rfl 15 rfl (by kernel_rfl) (fun a h => ?_)
  refine wp_seq ?_
  refine WL.start ?_
  refine WL.block (c := 1) (m' := 1) h rfl [(2, .int .i64 0)] (by kernel_rfl) (fun a345q h346q => ?_)
  refine WL.done (by kernel_rfl) ?_
  refine wp_seq ?_
  refine wp_seq ?_
  refine WL.start ?_
  refine WL.block (c := 1) (m' := 1) h346q rfl [(3, v0)] (by kernel_rfl) (fun a347q h348q => ?_)
  clear h346q a345q
  obtain ⟨r350q, A349q, H⟩ := bind1 H
  refine WL.op' (m := 1) h348q rfl rfl ?_
  refine owp_call [v0] h348q rfl (by kernel_rfl) rfl Try.func13 (by kernel_rfl) rfl (by kernel_rfl) (pipe_Pipe_IsCut.calls hp0 A349q hS) (fun e352q W351q hp353q => ?_)
  obtain ⟨M356q, rfl, hr357q, hS358q⟩ := hp353q
  refine ⟨_, rfl, fun a354q h355q => ?_⟩
  clear h348q a347q
  refine WL.done (by kernel_rfl) ?_
  by_cases c359q : r350q = true
  · rw [if_pos c359q] at H
    have hb_ : r350q = true := c359q
    try rw [hb_] at h355q
    clear hb_
    refine wp_then h355q rfl ?_
    refine wp_seq ?_
    refine WL.start ?_
    refine WL.block (c := 1) (m' := 1) h355q rfl [(2, .int .i64 0)] (by kernel_rfl) (fun a360q h361q => ?_)
    clear h355q a354q
    refine WL.done (by kernel_rfl) ?_
    refine wp_ret ?_
    obtain rfl := Option.some.inj H
    repeat (first | refine then_ret ?_ | refine inBlock_ret ?_ | refine inBlock_go ?_)
    refine body_ret (v := .int .i64 0) h361q (by kernel_rfl) (by kernel_rfl) ?_
    exact ⟨M356q, rfl, hr357q, hS358q⟩
  · rw [if_neg c359q] at H
    have hb_ : r350q = false := (Bool.eq_false_iff.2 c359q)
    try rw [hb_] at h355q
    clear hb_
    refine wp_else h355q rfl ?_
    refine wp_skip ?_
    refine wp_seq ?_
    obtain ⟨g362q, cs363q, M364q, hv_, hM_, hr365q⟩ := hr357q
    obtain ⟨v366q, M367q, rfl, hM2q, hr368q⟩ := k36qrep hr365q
    subst hM2q
    subst hM_
    subst hv_
    replace hr368q : Row (kInt .u8) 5 b w0 R v366q p0.f0 M364q := hr368q
    obtain ⟨A369q, c370q, rfl⟩ := hr368q.form
    have hS371q : St b w0 W351q R ([(g362q, .cells ([.slice A369q p0.f0.length c370q, .int .i64 p0.f1, .bool p0.f2] : List Value).toArray 36 (0, 0))] :: M364q :: Fs) := hS358q.assoc (by simp only [List.flatten_cons, List.append_assoc, List.cons_append, List.nil_append, List.append_nil])
    refine WH.start (fun w_ => (w_.cell? ⟨g362q, 1, none⟩ = some (.int .i64 p0.f1)) ∧ (w_.cell? ⟨g362q, 0, none⟩ = some (.slice A369q p0.f0.length c370q)) ∧ True) (by kernel_rfl) #[false, false, false, false, false, false, false, false, false, false, false] 11 rfl rfl ?_
    have hS416q := hS371q.drew
    refine WH.take 0 (listed' := #[true, false, false, false, false, false, false, false, false, false, false]) h355q rfl rfl (by kernel_rfl) rfl rfl (.pointer (some ⟨g362q, 0, none⟩)) (fun _ _ => by kernel_rfl) ⟨(hS416q.cell (i := 1) rfl), (hS416q.cell (i := 0) rfl), trivial⟩ (fun _ _ _ h_ => h_) (fun a417q h418q => ?_)
    clear h355q a354q
    refine WH.take 1 (listed' := #[true, true, false, false, false, false, false, false, false, false, false]) h418q rfl rfl (by kernel_rfl) rfl rfl (.pointer (some ⟨g362q, 0, none⟩)) (fun _ _ => by kernel_rfl) ⟨(hS416q.cell (i := 1) rfl), (hS416q.cell (i := 0) rfl), trivial⟩ (fun _ _ _ h_ => h_) (fun a419q h420q => ?_)
    clear h418q a417q
    refine WH.take 2 (listed' := #[true, true, true, false, false, false, false, false, false, false, false]) h420q rfl rfl (by kernel_rfl) rfl rfl (.pointer (some ⟨g362q, 1, none⟩)) (fun _ _ => by kernel_rfl) ⟨(hS416q.cell (i := 1) rfl), (hS416q.cell (i := 0) rfl), trivial⟩ (fun _ _ _ h_ => h_) (fun a421q h422q => ?_)
    clear h420q a419q
    refine WH.take 4 (listed' := #[true, true, true, false, true, false, false, false, false, false, false]) h422q rfl rfl (by kernel_rfl) rfl rfl (.pointer (some ⟨g362q, 0, none⟩)) (fun _ _ => by kernel_rfl) ⟨(hS416q.cell (i := 1) rfl), (hS416q.cell (i := 0) rfl), trivial⟩ (fun _ _ _ h_ => h_) (fun a423q h424q => ?_)
    clear h422q a421q
    refine WH.take 5 (listed' := #[true, true, true, false, true, true, false, false, false, false, false]) h424q rfl rfl (by kernel_rfl) rfl rfl (.pointer (some ⟨g362q, 0, none⟩)) (fun _ _ => by kernel_rfl) ⟨(hS416q.cell (i := 1) rfl), (hS416q.cell (i := 0) rfl), trivial⟩ (fun _ _ _ h_ => h_) (fun a425q h426q => ?_)
    clear h424q a423q
    refine WH.take 6 (listed' := #[true, true, true, false, true, true, true, false, false, false, false]) h426q rfl rfl (by kernel_rfl) rfl rfl (.pointer (some ⟨g362q, 0, none⟩)) (fun _ _ => by kernel_rfl) ⟨(hS416q.cell (i := 1) rfl), (hS416q.cell (i := 0) rfl), trivial⟩ (fun _ _ _ h_ => h_) (fun a427q h428q => ?_)
    clear h426q a425q
    refine WH.take 3 (listed' := #[true, true, true, true, true, true, true, false, false, false, false]) h428q rfl rfl (by kernel_rfl) rfl rfl (.int .i64 p0.f1) (fun w_ hs_ => (run_load1 rfl rfl Try.underlying3 rfl hs_.1)) ⟨(hS416q.cell (i := 1) rfl), (hS416q.cell (i := 0) rfl), trivial⟩ (fun _ _ _ h_ => h_) (fun a429q h430q => ?_)
    clear h428q a427q
    refine WH.take 7 (listed' := #[true, true, true, true, true, true, true, true, false, false, false]) h430q rfl rfl (by kernel_rfl) rfl rfl (.slice A369q p0.f0.length c370q) (fun w_ hs_ => (run_load1 rfl rfl Try.underlying22 rfl hs_.2.1)) ⟨(hS416q.cell (i := 1) rfl), (hS416q.cell (i := 0) rfl), trivial⟩ (fun _ _ _ h_ => h_) (fun a431q h432q => ?_)
    clear h430q a429q
    refine WH.take 8 (listed' := #[true, true, true, true, true, true, true, true, true, false, false]) h432q rfl rfl (by kernel_rfl) rfl rfl (.int .i64 (p0.f0.length : Int)) (fun _ _ => by kernel_rfl) ⟨(hS416q.cell (i := 1) rfl), (hS416q.cell (i := 0) rfl), trivial⟩ (fun _ _ _ h_ => h_) (fun a433q h434q => ?_)
    clear h432q a431q
    refine WH.take 9 (listed' := #[true, true, true, true, true, true, true, true, true, true, false]) h434q rfl rfl (by kernel_rfl) rfl rfl (.int .i64 (IntKind.i64.wrap (p0.f1 - (p0.f0.length : Int)))) (fun _ _ => by kernel_rfl) ⟨(hS416q.cell (i := 1) rfl), (hS416q.cell (i := 0) rfl), trivial⟩ (fun _ _ _ h_ => h_) (fun a435q h436q => ?_)
    clear h434q a433q
    refine WH.take 10 (listed' := #[true, true, true, true, true, true, true, true, true, true, true]) h436q rfl rfl (by kernel_rfl) rfl rfl (.int .i64 (IntKind.i64.wrap (p0.f1 - (p0.f0.length : Int)))) (fun _ _ => by kernel_rfl) ⟨(hS416q.cell (i := 1) rfl), (hS416q.cell (i := 0) rfl), trivial⟩ (fun _ _ _ h_ => h_) (fun a437q h438q => ?_)
    clear h436q a435q
    refine WH.done (by kernel_rfl) ?_
    refine wp_ret ?_
    have hS439q : St b w0 W351q.drew R (M364q :: [(g362q, .cells ([.slice A369q p0.f0.length c370q, .int .i64 p0.f1, .bool p0.f2] : List Value).toArray 36 (0, 0))] :: Fs) := hS416q.bring 1 rfl rfl
    have hS440q : St b w0 W351q.drew R ([(g362q, .cells ([.slice A369q p0.f0.length c370q, .int .i64 p0.f1, .bool p0.f2] : List Value).toArray 36 (0, 0))] :: M364q :: Fs) := hS439q.bring 1 rfl rfl
    obtain ⟨M442q, hr441q, hM_⟩ := k36qmk (b := b) (w0 := w0) (R := R) (x := (⟨p0.f0, p0.f1, p0.f2⟩ : S36)) (gvf0 := hr368q)
    have hp443q : Ptr k36 36 b w0 R (.pointer (some ⟨g362q, 0, none⟩)) (⟨p0.f0, p0.f1, p0.f2⟩ : S36) ((g362q, .cells ([.slice A369q p0.f0.length c370q, .int .i64 p0.f1, .bool p0.f2] : List Value).toArray 36 (0, 0)) :: M442q) := ⟨_, _, _, rfl, rfl, hr441q⟩
    rw [hM_] at hp443q
    have hS445q : St b w0 W351q.drew R (((g362q, .cells ([.slice A369q p0.f0.length c370q, .int .i64 p0.f1, .bool p0.f2] : List Value).toArray 36 (0, 0)) :: (M364q)) :: Fs) := hS440q.assoc (by simp only [List.flatten_cons, List.append_assoc, List.cons_append, List.nil_append, List.append_nil])
    obtain ⟨M446q, hM_⟩ : ∃ y : Frag, y = ((g362q, .cells ([.slice A369q p0.f0.length c370q, .int .i64 p0.f1, .bool p0.f2] : List Value).toArray 36 (0, 0)) :: (M364q)) := ⟨_, rfl⟩
    rw [← hM_] at hp443q hS445q
    clear hM_
    obtain rfl := Option.some.inj H
    repeat (first | refine then_ret ?_ | refine inBlock_ret ?_ | refine inBlock_go ?_)
    refine body_ret (v := .int .i64 (IntKind.i64.wrap (p0.f1 - (p0.f0.length : Int)))) h438q (by kernel_rfl) (by kernel_rfl) ?_
    exact ⟨M446q, rfl, hp443q, hS445q⟩

/-! ### (*louver/pipe.Pipe).Room -/
def pipe_Pipe_Room_nil.f  : Option (Int) := bnd1 (pipe_Pipe_IsCut_nil.f) fun r476q => (if r476q = true then (some 0) else (none))
set_option maxHeartbeats 2000000 in
set_option maxRecDepth 100000 in
theorem pipe_Pipe_Room_nil.calls {b : Nat} {w0 W : World} {R : Frag} {Fs : List Frag}   {r0q : Int}  (H : pipe_Pipe_Room_nil.f = some r0q) (hS : St b w0 W R (Fs)) :
    Calls Try.prog 12 ([.pointer none] : List Value).toArray W (fun e W' => e = .returned (.int .i64 r0q) ∧ St b w0 W' R (Fs)) := by
  unfold pipe_Pipe_Room_nil.f at H
  refine calls_enter Try.func12 rfl 15 rfl (by kernel_rfl) (fun a h => ?_)
  refine wp_seq ?_
  refine WL.start ?_
  refine WL.block (c := 1) (m' := 1) h rfl [(2, .int .i64 0)] (by kernel_rfl) (fun a471q h472q => ?_)
  refine WL.done (by kernel_rfl) ?_
  refine wp_seq ?_
  refine wp_seq ?_
  refine WL.start ?_
  refine WL.block (c := 1) (m' := 1) h472q rfl [(3, .pointer none)] (by kernel_rfl) (fun a473q h474q => ?_)
  clear h472q a471q
  obtain ⟨r476q, A475q, H⟩ := bind1 H
  refine WL.op' (m := 1) h474q rfl rfl ?_
  refine owp_call [.pointer none] h474q rfl (by kernel_rfl) rfl Try.func13 (by kernel_rfl) rfl (by kernel_rfl) (pipe_Pipe_IsCut_nil.calls  A475q hS) (fun e478q W477q hp479q => ?_)
  obtain ⟨rfl, hS482q⟩ := hp479q
  refine ⟨_, rfl, fun a480q h481q => ?_⟩
  clear h474q a473q
  refine WL.done (by kernel_rfl) ?_
  by_cases c483q : r476q = true
  · rw [if_pos c483q] at H
    have hb_ : r476q = true := c483q
    try rw [hb_] at h481q
    clear hb_
    refine wp_then h481q rfl ?_
    refine wp_seq ?_
    refine WL.start ?_
    refine WL.block (c := 1) (m' := 1) h481q rfl [(2, .int .i64 0)] (by kernel_rfl) (fun a484q h485q => ?_)
    clear h481q a480q
    refine WL.done (by kernel_rfl) ?_
    refine wp_ret ?_
    obtain rfl := Option.some.inj H
    repeat (first | refine then_ret ?_ | refine inBlock_ret ?_ | refine inBlock_go ?_)
    refine body_ret (v := .int .i64 0) h485q (by kernel_rfl) (by kernel_rfl) ?_
    exact ⟨rfl, hS482q⟩
  · rw [if_neg c483q] at H
    have hb_ : r476q = false := (Bool.eq_false_iff.2 c483q)
    try rw [hb_] at h481q
    clear hb_
    refine wp_else h481q rfl ?_
    refine wp_skip ?_
    refine wp_seq ?_
    refine WH.start (fun w_ => True) (by kernel_rfl) #[false, false, false, false, false, false, false, false, false, false, false] 11 rfl rfl ?_
    have hS490q := hS482q.drew
    refine WH.take 0 (listed' := #[true, false, false, false, false, false, false, false, false, false, false]) h481q rfl rfl (by kernel_rfl) rfl rfl (.pointer none) (fun _ _ => by kernel_rfl) trivial (fun _ _ _ h_ => h_) (fun a491q h492q => ?_)
    clear h481q a480q
    refine WH.take 4 (listed' := #[true, false, false, false, true, false, false, false, false, false, false]) h492q rfl rfl (by kernel_rfl) rfl rfl (.pointer none) (fun _ _ => by kernel_rfl) trivial (fun _ _ _ h_ => h_) (fun a493q h494q => ?_)
    clear h492q a491q
    refine WH.two 1 5 h494q rfl rfl (by kernel_rfl) rfl rfl ?_ ?_
    · cases H
    · cases H

/-! ### (*louver/pipe.Pipe).Write -/
def pipe_Pipe_Write.f (p0 : S36) (p1 : (List Int)) : Option (Int × S36) := bnd1 (pipe_Pipe_Room.f p0) fun r705q => (if (mnI (p1.length : Int) r705q) > 0 then (if 0 ≤ (mnI (p1.length : Int) r705q) then (if (mnI (p1.length : Int) r705q) ≤ (p1.length : Int) then (if p0.f0.length + (p1.take (mnI (p1.length : Int) r705q).toNat).length ≤ 140737488355328 then (lt1 (p0.f0 ++ (p1.take (mnI (p1.length : Int) r705q).toNat) : List Int) fun y808q => (some (mnI (p1.length : Int) r705q, (⟨y808q, p0.f1, p0.f2⟩ : S36)))) else (none)) else (none)) else (none)) else (some (mnI (p1.length : Int) r705q, p0)))
set_option maxHeartbeats 2000000 in
set_option maxRecDepth 100000 in
theorem pipe_Pipe_Write.calls {b : Nat} {w0 W : World} {R : Frag} {Fs : List Frag} {p0 : S36} {p1 : (List Int)} {v1 : Value} {v0 : Value} {M0 : Frag} {r0q : Int} {r1q : S36} (hp0 : Ptr k36 36 b w0 R v0 p0 M0) (hp1 : Rds (kInt .u8) b w0 R v1 p1) (H : pipe_Pipe_Write.f p0 p1 = some (r0q, r1q)) (hS : St b w0 W R (M0 :: Fs)) :
    Calls Try.prog 8 ([v0, v1] : List Value).toArray W (fun e W' => ∃ (O0q : Frag), e = .returned (.int .i64 r0q) ∧ Ptr k36 36 b w0 R v0 r1q O0q ∧ St b w0 W' R (O0q :: Fs)) := by
  obtain ⟨A1, c1, rfl⟩ := hp1.form
  unfold pipe_Pipe_Write.f at H
  refine calls_enter Try.func8 rfl 25 rfl (by kernel_rfl) (fun a h => ?_)
  refine wp_seq ?_
  refine WL.start ?_
  refine WL.block (c := 1) (m' := 1) h rfl [(4, .int .i64 0)] (by kernel_rfl) (fun a700q h701q => ?_)
  refine WL.done (by kernel_rfl) ?_
  refine wp_seq ?_
  refine WL.start ?_
  refine WL.block (c := 3) (m' := 3) h701q rfl [(8, v0), (7, .int .i64 (p1.length : Int)), (6, .slice A1 p1.length c1)] (by kernel_rfl) (fun a702q h703q => ?_)
  clear h701q a700q
  obtain ⟨r705q, A704q, H⟩ := bind1 H
  refine WL.op' (m := 3) h703q rfl rfl ?_
  refine owp_call [v0] h703q rfl (by kernel_rfl) rfl Try.func12 (by kernel_rfl) rfl (by kernel_rfl) (pipe_Pipe_Room.calls hp0 A704q hS) (fun e707q W706q hp708q => ?_)
  obtain ⟨M711q, rfl, hr712q, hS713q⟩ := hp708q
  refine ⟨_, rfl, fun a709q h710q => ?_⟩
  clear h703q a702q
  refine WL.block (c := 2) (m' := 6) h710q rfl [(5, .int .i64 (mnI (p1.length : Int) r705q)), (10, .int .i64 (mnI (p1.length : Int) r705q))] (by kernel_rfl) (fun a714q h715q => ?_)
  clear h710q a709q
  refine WL.done (by kernel_rfl) ?_
  refine wp_seq ?_
  refine wp_seq ?_
  refine WL.start ?_
  refine WL.block (c := 2) (m' := 2) h715q rfl [(12, .bool (decide ((mnI (p1.length : Int) r705q) > 0))), (11, .int .i64 (mnI (p1.length : Int) r705q))] (by kernel_rfl) (fun a716q h717q => ?_)
  clear h715q a714q
  refine WL.done (by kernel_rfl) ?_
  by_cases c718q : (mnI (p1.length : Int) r705q) > 0
  · rw [if_pos c718q] at H
    have hb_ : (decide ((mnI (p1.length : Int) r705q) > 0)) = true := decide_eq_true c718q
    try rw [hb_] at h717q
    clear hb_
    refine wp_then h717q rfl ?_
    obtain ⟨g719q, cs720q, M721q, hv_, hM_, hr722q⟩ := hr712q
    obtain ⟨v723q, M724q, rfl, hM2q, hr725q⟩ := k36qrep hr722q
    subst hM2q
    subst hM_
    subst hv_
    replace hr725q : Row (kInt .u8) 5 b w0 R v723q p0.f0 M721q := hr725q
    obtain ⟨A726q, c727q, rfl⟩ := hr725q.form
    have hS728q : St b w0 W706q R ([(g719q, .cells ([.slice A726q p0.f0.length c727q, .int .i64 p0.f1, .bool p0.f2] : List Value).toArray 36 (0, 0))] :: M721q :: Fs) := hS713q.assoc (by simp only [List.flatten_cons, List.append_assoc, List.cons_append, List.nil_append, List.append_nil])
    refine WH.start (fun w_ => True) (by kernel_rfl) #[false, false, false, false, false, false, false, false, false, false, false, false] 12 rfl rfl ?_
    have hS775q := hS728q.drew
    refine WH.take 0 (listed' := #[true, false, false, false, false, false, false, false, false, false, false, false]) h717q rfl rfl (by kernel_rfl) rfl rfl (.pointer (some ⟨g719q, 0, none⟩)) (fun _ _ => by kernel_rfl) trivial (fun _ _ _ h_ => h_) (fun a776q h777q => ?_)
    clear h717q a716q
    refine WH.take 1 (listed' := #[true, true, false, false, false, false, false, false, false, false, false, false]) h777q rfl rfl (by kernel_rfl) rfl rfl (.pointer (some ⟨g719q, 0, none⟩)) (fun _ _ => by kernel_rfl) trivial (fun _ _ _ h_ => h_) (fun a778q h779q => ?_)
    clear h777q a776q
    refine WH.take 2 (listed' := #[true, true, true, false, false, false, false, false, false, false, false, false]) h779q rfl rfl (by kernel_rfl) rfl rfl (.pointer (some ⟨g719q, 0, none⟩)) (fun _ _ => by kernel_rfl) trivial (fun _ _ _ h_ => h_) (fun a780q h781q => ?_)
    clear h779q a778q
    refine WH.take 3 (listed' := #[true, true, true, true, false, false, false, false, false, false, false, false]) h781q rfl rfl (by kernel_rfl) rfl rfl (.pointer (some ⟨g719q, 0, none⟩)) (fun _ _ => by kernel_rfl) trivial (fun _ _ _ h_ => h_) (fun a782q h783q => ?_)
    clear h781q a780q
    refine WH.take 5 (listed' := #[true, true, true, true, false, true, false, false, false, false, false, false]) h783q rfl rfl (by kernel_rfl) rfl rfl (.slice A1 p1.length c1) (fun _ _ => by kernel_rfl) trivial (fun _ _ _ h_ => h_) (fun a784q h785q => ?_)
    clear h783q a782q
    refine WH.take 6 (listed' := #[true, true, true, true, false, true, true, false, false, false, false, false]) h785q rfl rfl (by kernel_rfl) rfl rfl (.int .i64 (mnI (p1.length : Int) r705q)) (fun _ _ => by kernel_rfl) trivial (fun _ _ _ h_ => h_) (fun a786q h787q => ?_)
    clear h785q a784q
    by_cases c788q : 0 ≤ (mnI (p1.length : Int) r705q)
    · rw [if_pos c788q] at H
      by_cases c789q : (mnI (p1.length : Int) r705q) ≤ (p1.length : Int)
      · rw [if_pos c789q] at H
        refine WH.take 7 (listed' := #[true, true, true, true, false, true, true, true, false, false, false, false]) h787q rfl rfl (by kernel_rfl) rfl rfl (sliced A1 (0 : Int).toNat (mnI (p1.length : Int) r705q).toNat c1 1) (fun w_ hs_ => (run_cut (l := 0) (h := mnI (p1.length : Int) r705q) rfl rfl Try.underlying22 (by kernel_rfl) rfl ⟨_, rfl⟩ (by first | assumption | omega) (by first | assumption | omega) (by have q_ := Rds.cap hp1; omega) (by have q_ := Rds.cap hp1; omega))) trivial (fun _ _ _ h_ => h_) (fun a791q h792q => ?_)
        clear h787q a786q
        have hx790q := Rds.cut hp1 (l := (0 : Int).toNat) (h := (mnI (p1.length : Int) r705q).toNat) (by omega) (by omega)
        obtain ⟨v793q, ev794q⟩ : ∃ y_, y_ = sliced A1 (0 : Int).toNat (mnI (p1.length : Int) r705q).toNat c1 1 := ⟨_, rfl⟩
        have hx_ : Rds (kInt .u8) b w0 R v793q (p1.take (mnI (p1.length : Int) r705q).toNat) := hx790q.as_ ev794q.symm (by simp)
        rw [← ev794q] at h792q; clear ev794q hx790q
        have hx790q := hx_; clear hx_
        obtain ⟨A795q, c796q, rfl⟩ := hx790q.form
        refine WH.op 4 (listed' := #[true, true, true, true, true, true, true, true, false, false, false, false]) h792q rfl (by kernel_rfl) rfl rfl ?_
        refine owp_run (v := .slice A726q p0.f0.length c727q) h792q rfl (by kernel_rfl) (run_load1 rfl rfl Try.underlying22 rfl (hS775q.cell (i := 0) rfl)) (fun a797q h798q => ?_)
        clear h792q a791q
        refine ⟨trivial, ?_⟩
        by_cases c799q : p0.f0.length + (p1.take (mnI (p1.length : Int) r705q).toNat).length ≤ 140737488355328
        · rw [if_pos c799q] at H
          have hS800q : St b w0 W706q.drew R (M721q :: [(g719q, .cells ([.slice A726q p0.f0.length c727q, .int .i64 p0.f1, .bool p0.f2] : List Value).toArray 36 (0, 0))] :: Fs) := hS775q.bring 1 rfl rfl
          refine WH.op 8 (listed' := #[true, true, true, true, true, true, true, true, true, false, false, false]) h798q rfl (by kernel_rfl) rfl rfl ?_
          refine owp_app_rds (z := .int .u8 0) (bytes := 1) (dk := (kInt .u8)) h798q rfl (by kernel_rfl) rfl rfl rfl (kInt_flat _) hr725q hx790q hS800q Try.underlying22 (by kernel_rfl) rfl (by decide) (by decide) (by first | omega | (simp only [List.length_cons, List.length_nil] at *; omega)) (fun a801q W803q v804q M805q h802q hr806q hS807q => ?_)
          clear h798q a797q
          obtain ⟨y808q, hy809q, H⟩ := lete H
          have hr810q : Row (kInt .u8) 5 b w0 R v804q y808q M805q := by rw [hy809q]; exact hr806q
          clear hr806q
          obtain ⟨A811q, c812q, rfl⟩ := hr810q.form
          refine ⟨trivial, ?_⟩
          refine WH.take 9 (listed' := #[true, true, true, true, true, true, true, true, true, true, false, false]) h802q rfl rfl (by kernel_rfl) rfl rfl (.pointer (some ⟨g719q, 0, none⟩)) (fun _ _ => by kernel_rfl) trivial (fun _ _ _ h_ => h_) (fun a813q h814q => ?_)
          clear h802q a801q
          refine WH.take 10 (listed' := #[true, true, true, true, true, true, true, true, true, true, true, false]) h814q rfl rfl (by kernel_rfl) rfl rfl (.pointer (some ⟨g719q, 0, none⟩)) (fun _ _ => by kernel_rfl) trivial (fun _ _ _ h_ => h_) (fun a815q h816q => ?_)
          clear h814q a813q
          have hS817q : St b w0 W803q R ([(g719q, .cells ([.slice A726q p0.f0.length c727q, .int .i64 p0.f1, .bool p0.f2] : List Value).toArray 36 (0, 0))] :: M805q :: Fs) := hS807q.bring 1 rfl rfl
          refine WH.op 11 (listed' := #[true, true, true, true, true, true, true, true, true, true, true, true]) h816q rfl (by kernel_rfl) rfl rfl ?_
          refine owp_store (i := 0) (vs := ([.slice A811q y808q.length c812q] : List Value)) h816q rfl (by kernel_rfl) rfl rfl rfl rfl (by simp [Value.oneCell']) (by kernel_rfl) hS817q (by simp) (cs' := ([.slice A811q y808q.length c812q, .int .i64 p0.f1, .bool p0.f2] : List Value)) rfl (fun a818q W820q h819q hS821q => ?_)
          clear h816q a815q
          refine ⟨trivial, ?_⟩
          refine WH.done (by kernel_rfl) ?_
          refine wp_seq ?_
          refine WL.start ?_
          refine WL.block (c := 2) (m' := 2) h819q rfl [(4, .int .i64 (mnI (p1.length : Int) r705q)), (24, .int .i64 (mnI (p1.length : Int) r705q))] (by kernel_rfl) (fun a822q h823q => ?_)
          clear h819q a818q
          refine WL.done (by kernel_rfl) ?_
          refine wp_ret ?_
          have hS824q : St b w0 W820q R (M805q :: [(g719q, .cells ([.slice A811q y808q.length c812q, .int .i64 p0.f1, .bool p0.f2] : List Value).toArray 36 (0, 0))] :: Fs) := hS821q.bring 1 rfl rfl
          have hS825q : St b w0 W820q R ([(g719q, .cells ([.slice A811q y808q.length c812q, .int .i64 p0.f1, .bool p0.f2] : List Value).toArray 36 (0, 0))] :: M805q :: Fs) := hS824q.bring 1 rfl rfl
          obtain ⟨M827q, hr826q, hM_⟩ := k36qmk (b := b) (w0 := w0) (R := R) (x := (⟨y808q, p0.f1, p0.f2⟩ : S36)) (gvf0 := hr810q)
          have hp828q : Ptr k36 36 b w0 R (.pointer (some ⟨g719q, 0, none⟩)) (⟨y808q, p0.f1, p0.f2⟩ : S36) ((g719q, .cells ([.slice A811q y808q.length c812q, .int .i64 p0.f1, .bool p0.f2] : List Value).toArray 36 (0, 0)) :: M827q) := ⟨_, _, _, rfl, rfl, hr826q⟩
          rw [hM_] at hp828q
          have hS830q : St b w0 W820q R (((g719q, .cells ([.slice A811q y808q.length c812q, .int .i64 p0.f1, .bool p0.f2] : List Value).toArray 36 (0, 0)) :: (M805q)) :: Fs) := hS825q.assoc (by simp only [List.flatten_cons, List.append_assoc, List.cons_append, List.nil_append, List.append_nil])
          obtain ⟨M831q, hM_⟩ : ∃ y : Frag, y = ((g719q, .cells ([.slice A811q y808q.length c812q, .int .i64 p0.f1, .bool p0.f2] : List Value).toArray 36 (0, 0)) :: (M805q)) := ⟨_, rfl⟩
          rw [← hM_] at hp828q hS830q
          clear hM_
          obtain ⟨rfl, rfl⟩ := ret2 H
          repeat (first | refine then_ret ?_ | refine inBlock_ret ?_ | refine inBlock_go ?_)
          refine body_ret (v := .int .i64 (mnI (p1.length : Int) r705q)) h823q (by kernel_rfl) (by kernel_rfl) ?_
          exact ⟨M831q, rfl, hp828q, hS830q⟩
        · rw [if_neg c799q] at H
          cases H
      · rw [if_neg c789q] at H
        cases H
    · rw [if_neg c788q] at H
      cases H
  · rw [if_neg c718q] at H
    have hb_ : (decide ((mnI (p1.length : Int) r705q) > 0)) = false := decide_eq_false c718q
    try rw [hb_] at h717q
    clear hb_
    refine wp_else h717q rfl ?_
    refine wp_skip ?_
    refine wp_seq ?_
    refine WL.start ?_
    refine WL.block (c := 2) (m' := 2) h717q rfl [(4, .int .i64 (mnI (p1.length : Int) r705q)), (24, .int .i64 (mnI (p1.length : Int) r705q))] (by kernel_rfl) (fun a832q h833q => ?_)
    clear h717q a716q
    refine WL.done (by kernel_rfl) ?_
    refine wp_ret ?_
    obtain ⟨rfl, rfl⟩ := ret2 H
    repeat (first | refine then_ret ?_ | refine inBlock_ret ?_ | refine inBlock_go ?_)
    refine body_ret (v := .int .i64 (mnI (p1.length : Int) r705q)) h833q (by kernel_rfl) (by kernel_rfl) ?_
    exact ⟨M711q, rfl, hr712q, hS713q⟩

/-! ### (*louver/pipe.Pipe).Write -/
def pipe_Pipe_Write_nil.f (p1 : (List Int)) : Option (Int) := bnd1 (pipe_Pipe_Room_nil.f) fun r893q => (if (mnI (p1.length : Int) r893q) > 0 then (if 0 ≤ (mnI (p1.length : Int) r893q) then (if (mnI (p1.length : Int) r893q) ≤ (p1.length : Int) then (none) else (none)) else (none)) else (some (mnI (p1.length : Int) r893q)))
set_option maxHeartbeats 2000000 in
set_option maxRecDepth 100000 in
theorem pipe_Pipe_Write_nil.calls {b : Nat} {w0 W : World} {R : Frag} {Fs : List Frag} {p1 : (List Int)} {v1 : Value} {r0q : Int} (hp1 : Rds (kInt .u8) b w0 R v1 p1) (H : pipe_Pipe_Write_nil.f p1 = some r0q) (hS : St b w0 W R (Fs)) :
    Calls Try.prog 8 ([.pointer none, v1] : List Value).toArray W (fun e W' => e = .returned (.int .i64 r0q) ∧ St b w0 W' R (Fs)) := by
  obtain ⟨A1, c1, rfl⟩ := hp1.form
  unfold pipe_Pipe_Write_nil.f at H
  refine calls_enter Try.func8 rfl 25 rfl (by kernel_rfl) (fun a h => ?_)
  refine wp_seq ?_
  refine WL.start ?_
  refine WL.block (c := 1) (m' := 1) h rfl [(4, .int .i64 0)] (by kernel_rfl) (fun a888q h889q => ?_)
  refine WL.done (by kernel_rfl) ?_
  refine wp_seq ?_
  refine WL.start ?_
  refine WL.block (c := 3) (m' := 3) h889q rfl [(8, .pointer none), (7, .int .i64 (p1.length : Int)), (6, .slice A1 p1.length c1)] (by kernel_rfl) (fun a890q h891q => ?_)
  clear h889q a888q
  obtain ⟨r893q, A892q, H⟩ := bind1 H
  refine WL.op' (m := 3) h891q rfl rfl ?_
  refine owp_call [.pointer none] h891q rfl (by kernel_rfl) rfl Try.func12 (by kernel_rfl) rfl (by kernel_rfl) (pipe_Pipe_Room_nil.calls  A892q hS) (fun e895q W894q hp896q => ?_)
  obtain ⟨rfl, hS899q⟩ := hp896q
  refine ⟨_, rfl, fun a897q h898q => ?_⟩
  clear h891q a890q
  refine WL.block (c := 2) (m' := 6) h898q rfl [(5, .int .i64 (mnI (p1.length : Int) r893q)), (10, .int .i64 (mnI (p1.length : Int) r893q))] (by kernel_rfl) (fun a900q h901q => ?_)
  clear h898q a897q
  refine WL.done (by kernel_rfl) ?_
  refine wp_seq ?_
  refine wp_seq ?_
  refine WL.start ?_
  refine WL.block (c := 2) (m' := 2) h901q rfl [(12, .bool (decide ((mnI (p1.length : Int) r893q) > 0))), (11, .int .i64 (mnI (p1.length : Int) r893q))] (by kernel_rfl) (fun a902q h903q => ?_)
  clear h901q a900q
  refine WL.done (by kernel_rfl) ?_
  by_cases c904q : (mnI (p1.length : Int) r893q) > 0
  · rw [if_pos c904q] at H
    have hb_ : (decide ((mnI (p1.length : Int) r893q) > 0)) = true := decide_eq_true c904q
    try rw [hb_] at h903q
    clear hb_
    refine wp_then h903q rfl ?_
    refine WH.start (fun w_ => True) (by kernel_rfl) #[false, false, false, false, false, false, false, false, false, false, false, false] 12 rfl rfl ?_
    have hS922q := hS899q.drew
    refine WH.take 0 (listed' := #[true, false, false, false, false, false, false, false, false, false, false, false]) h903q rfl rfl (by kernel_rfl) rfl rfl (.pointer none) (fun _ _ => by kernel_rfl) trivial (fun _ _ _ h_ => h_) (fun a923q h924q => ?_)
    clear h903q a902q
    refine WH.take 1 (listed' := #[true, true, false, false, false, false, false, false, false, false, false, false]) h924q rfl rfl (by kernel_rfl) rfl rfl (.pointer none) (fun _ _ => by kernel_rfl) trivial (fun _ _ _ h_ => h_) (fun a925q h926q => ?_)
    clear h924q a923q
    refine WH.take 5 (listed' := #[true, true, false, false, false, true, false, false, false, false, false, false]) h926q rfl rfl (by kernel_rfl) rfl rfl (.slice A1 p1.length c1) (fun _ _ => by kernel_rfl) trivial (fun _ _ _ h_ => h_) (fun a927q h928q => ?_)
    clear h926q a925q
    refine WH.take 6 (listed' := #[true, true, false, false, false, true, true, false, false, false, false, false]) h928q rfl rfl (by kernel_rfl) rfl rfl (.int .i64 (mnI (p1.length : Int) r893q)) (fun _ _ => by kernel_rfl) trivial (fun _ _ _ h_ => h_) (fun a929q h930q => ?_)
    clear h928q a927q
    by_cases c931q : 0 ≤ (mnI (p1.length : Int) r893q)
    · rw [if_pos c931q] at H
      by_cases c932q : (mnI (p1.length : Int) r893q) ≤ (p1.length : Int)
      · rw [if_pos c932q] at H
        refine WH.take 7 (listed' := #[true, true, false, false, false, true, true, true, false, false, false, false]) h930q rfl rfl (by kernel_rfl) rfl rfl (sliced A1 (0 : Int).toNat (mnI (p1.length : Int) r893q).toNat c1 1) (fun w_ hs_ => (run_cut (l := 0) (h := mnI (p1.length : Int) r893q) rfl rfl Try.underlying22 (by kernel_rfl) rfl ⟨_, rfl⟩ (by first | assumption | omega) (by first | assumption | omega) (by have q_ := Rds.cap hp1; omega) (by have q_ := Rds.cap hp1; omega))) trivial (fun _ _ _ h_ => h_) (fun a934q h935q => ?_)
        clear h930q a929q
        have hx933q := Rds.cut hp1 (l := (0 : Int).toNat) (h := (mnI (p1.length : Int) r893q).toNat) (by omega) (by omega)
        obtain ⟨v936q, ev937q⟩ : ∃ y_, y_ = sliced A1 (0 : Int).toNat (mnI (p1.length : Int) r893q).toNat c1 1 := ⟨_, rfl⟩
        have hx_ : Rds (kInt .u8) b w0 R v936q (p1.take (mnI (p1.length : Int) r893q).toNat) := hx933q.as_ ev937q.symm (by simp)
        rw [← ev937q] at h935q; clear ev937q hx933q
        have hx933q := hx_; clear hx_
        obtain ⟨A938q, c939q, rfl⟩ := hx933q.form
        cases H
      · rw [if_neg c932q] at H
        cases H
    · rw [if_neg c931q] at H
      cases H
  · rw [if_neg c904q] at H
    have hb_ : (decide ((mnI (p1.length : Int) r893q) > 0)) = false := decide_eq_false c904q
    try rw [hb_] at h903q
    clear hb_
    refine wp_else h903q rfl ?_
    refine wp_skip ?_
    refine wp_seq ?_
    refine WL.start ?_
    refine WL.block (c := 2) (m' := 2) h903q rfl [(4, .int .i64 (mnI (p1.length : Int) r893q)), (24, .int .i64 (mnI (p1.length : Int) r893q))] (by kernel_rfl) (fun a940q h941q => ?_)
    clear h903q a902q
    refine WL.done (by kernel_rfl) ?_
    refine wp_ret ?_
    obtain rfl := Option.some.inj H
    repeat (first | refine then_ret ?_ | refine inBlock_ret ?_ | refine inBlock_go ?_)
    refine body_ret (v := .int .i64 (mnI (p1.length : Int) r893q)) h941q (by kernel_rfl) (by kernel_rfl) ?_
    exact ⟨rfl, hS899q⟩

/-! ### (*louver/pipe.Pipe).Len -/
def pipe_Pipe_Len.f (p0 : S36) : Option (Int) := some (p0.f0.length : Int)
set_option maxHeartbeats 2000000 in
set_option maxRecDepth 100000 in
theorem pipe_Pipe_Len.calls {b : Nat} {w0 W : World} {R : Frag} {Fs : List Frag} {p0 : S36}  {v0 : Value} {M0 : Frag} {r0q : Int} (hp0 : Ptr k36 36 b w0 R v0 p0 M0) (H : pipe_Pipe_Len.f p0 = some r0q) (hS : St b w0 W R (M0 :: Fs)) :
    Calls Try.prog 10 ([v0] : List Value).toArray W (fun e W' => ∃ (O0q : Frag), e = .returned (.int .i64 r0q) ∧ Ptr k36 36 b w0 R v0 p0 O0q ∧ St b w0 W' R (O0q :: Fs)) := by
  unfold pipe_Pipe_Len.f at H
  refine calls_enter Try.func10 rfl 10 rfl (by kernel_rfl) (fun a h => ?_)
  refine wp_seq ?_
  refine WL.start ?_
  refine WL.block (c := 1) (m' := 1) h rfl [(2, .int .i64 0)] (by kernel_rfl) (fun a972q h973q => ?_)
  refine WL.done (by kernel_rfl) ?_
  refine wp_seq ?_
  refine wp_seq ?_
  refine WL.start ?_
  refine WL.block (c := 1) (m' := 1) h973q rfl [(3, v0)] (by kernel_rfl) (fun a974q h975q => ?_)
  clear h973q a972q
  obtain ⟨g976q, cs977q, M978q, hv_, hM_, hr979q⟩ := hp0
  obtain ⟨v980q, M981q, rfl, hM2q, hr982q⟩ := k36qrep hr979q
  subst hM2q
  subst hM_
  subst hv_
  replace hr982q : Row (kInt .u8) 5 b w0 R v980q p0.f0 M978q := hr982q
  obtain ⟨A983q, c984q, rfl⟩ := hr982q.form
  have hS985q : St b w0 W R ([(g976q, .cells ([.slice A983q p0.f0.length c984q, .int .i64 p0.f1, .bool p0.f2] : List Value).toArray 36 (0, 0))] :: M978q :: Fs) := hS.assoc (by simp only [List.flatten_cons, List.append_assoc, List.cons_append, List.nil_append, List.append_nil])
  refine WL.block (c := 1) (m' := 2) h975q rfl [(4, .bool false)] (by kernel_rfl) (fun a986q h987q => ?_)
  clear h975q a974q
  refine WL.done (by kernel_rfl) ?_
  refine wp_else h987q rfl ?_
  refine wp_skip ?_
  refine wp_seq ?_
  refine WL.start ?_
  refine WL.block (c := 3) (m' := 3) h987q rfl [(7, .pointer (some ⟨g976q, 0, none⟩)), (6, .pointer (some ⟨g976q, 0, none⟩)), (5, .pointer (some ⟨g976q, 0, none⟩))] (by kernel_rfl) (fun a988q h989q => ?_)
  clear h987q a986q
  refine WL.op' (m := 3) h989q rfl rfl ?_
  refine owp_run (v := .slice A983q p0.f0.length c984q) h989q rfl (by kernel_rfl) (run_load1 rfl rfl Try.underlying22 rfl (hS985q.cell (i := 0) rfl)) (fun a990q h991q => ?_)
  clear h989q a988q
  refine WL.block (c := 2) (m' := 6) h991q rfl [(2, .int .i64 (p0.f0.length : Int)), (9, .int .i64 (p0.f0.length : Int))] (by kernel_rfl) (fun a992q h993q => ?_)
  clear h991q a990q
  refine WL.done (by kernel_rfl) ?_
  refine wp_ret ?_
  have hS994q : St b w0 W R (M978q :: [(g976q, .cells ([.slice A983q p0.f0.length c984q, .int .i64 p0.f1, .bool p0.f2] : List Value).toArray 36 (0, 0))] :: Fs) := hS985q.bring 1 rfl rfl
  have hS995q : St b w0 W R ([(g976q, .cells ([.slice A983q p0.f0.length c984q, .int .i64 p0.f1, .bool p0.f2] : List Value).toArray 36 (0, 0))] :: M978q :: Fs) := hS994q.bring 1 rfl rfl
  obtain ⟨M997q, hr996q, hM_⟩ := k36qmk (b := b) (w0 := w0) (R := R) (x := (⟨p0.f0, p0.f1, p0.f2⟩ : S36)) (gvf0 := hr982q)
  have hp998q : Ptr k36 36 b w0 R (.pointer (some ⟨g976q, 0, none⟩)) (⟨p0.f0, p0.f1, p0.f2⟩ : S36) ((g976q, .cells ([.slice A983q p0.f0.length c984q, .int .i64 p0.f1, .bool p0.f2] : List Value).toArray 36 (0, 0)) :: M997q) := ⟨_, _, _, rfl, rfl, hr996q⟩
  rw [hM_] at hp998q
  have hS1000q : St b w0 W R (((g976q, .cells ([.slice A983q p0.f0.length c984q, .int .i64 p0.f1, .bool p0.f2] : List Value).toArray 36 (0, 0)) :: (M978q)) :: Fs) := hS995q.assoc (by simp only [List.flatten_cons, List.append_assoc, List.cons_append, List.nil_append, List.append_nil])
  obtain ⟨M1001q, hM_⟩ : ∃ y : Frag, y = ((g976q, .cells ([.slice A983q p0.f0.length c984q, .int .i64 p0.f1, .bool p0.f2] : List Value).toArray 36 (0, 0)) :: (M978q)) := ⟨_, rfl⟩
  rw [← hM_] at hp998q hS1000q
  clear hM_
  obtain rfl := Option.some.inj H
  repeat (first | refine then_ret ?_ | refine inBlock_ret ?_ | refine inBlock_go ?_)
  refine body_ret (v := .int .i64 (p0.f0.length : Int)) h993q (by kernel_rfl) (by kernel_rfl) ?_
  exact ⟨M1001q, rfl, hp998q, hS1000q⟩

/-! ### (*louver/pipe.Pipe).Len -/
def pipe_Pipe_Len_nil.f  : Option (Int) := some 0
set_option maxHeartbeats 2000000 in
set_option maxRecDepth 100000 in
theorem pipe_Pipe_Len_nil.calls {b : Nat} {w0 W : World} {R : Frag} {Fs : List Frag}   {r0q : Int}  (H : pipe_Pipe_Len_nil.f = some r0q) (hS : St b w0 W R (Fs)) :
    Calls Try.prog 10 ([.pointer none] : List Value).toArray W (fun e W' => e = .returned (.int .i64 r0q) ∧ St b w0 W' R (Fs)) := by
  unfold pipe_Pipe_Len_nil.f at H
  refine calls_enter Try.func10 rfl 10 rfl (by kernel_rfl) (fun a h => ?_)
  refine wp_seq ?_
  refine WL.start ?_
  refine WL.block (c := 1) (m' := 1) h rfl [(2, .int .i64 0)] (by kernel_rfl) (fun a1008q h1009q => ?_)
  refine WL.done (by kernel_rfl) ?_
  refine wp_seq ?_
  refine wp_seq ?_
  refine WL.start ?_
  refine WL.block (c := 2) (m' := 2) h1009q rfl [(4, .bool true), (3, .pointer none)] (by kernel_rfl) (fun a1010q h1011q => ?_)
  clear h1009q a1008q
  refine WL.done (by kernel_rfl) ?_
  refine wp_then h1011q rfl ?_
  refine wp_seq ?_
  refine WL.start ?_
  refine WL.block (c := 1) (m' := 1) h1011q rfl [(2, .int .i64 0)] (by kernel_rfl) (fun a1012q h1013q => ?_)
  clear h1011q a1010q
  refine WL.done (by kernel_rfl) ?_
  refine wp_ret ?_
  obtain rfl := Option.some.inj H
  repeat (first | refine then_ret ?_ | refine inBlock_ret ?_ | refine inBlock_go ?_)
  refine body_ret (v := .int .i64 0) h1013q (by kernel_rfl) (by kernel_rfl) ?_
  exact ⟨rfl, hS⟩

/-! ### bytes.Clone -/
def bytes_Clone.f (p0 : (List Int)) : Option ((List Int)) := if ([] : List Int).length + p0.length ≤ 140737488355328 then (lt1 (([] : List Int) ++ p0 : List Int) fun y1061q => (some y1061q)) else (none)
set_option maxHeartbeats 2000000 in
set_option maxRecDepth 100000 in
theorem bytes_Clone.calls {b : Nat} {w0 W : World} {R : Frag} {Fs : List Frag} {p0 : (List Int)} {v0 : Value} {r0q : (List Int)} (hp0 : Rds (kInt .u8) b w0 R v0 p0) (H : bytes_Clone.f p0 = some r0q) (hS : St b w0 W R (Fs)) :
    Calls Try.prog 14 ([v0] : List Value).toArray W (fun e W' => ∃ (u0q : Value) (N0q : Frag), e = .returned (u0q) ∧ Row (kInt .u8) 5 b w0 R u0q r0q N0q ∧ St b w0 W' R (N0q :: Fs)) := by
  obtain ⟨A0, c0, rfl⟩ := hp0.form
  obtain _ | A0 := A0
  · have hn_ : p0 = [] := hp0.nil_of
    subst hn_
    obtain rfl : ([] : (List Int)) = r0q := by simpa [bytes_Clone.f, lt1] using H
    clear H
    have H : some ([] : (List Int)) = some [] := rfl
    refine calls_enter Try.func14 rfl 8 rfl (by kernel_rfl) (fun a h => ?_)
    refine wp_seq ?_
    refine WL.start ?_
    refine WL.block (c := 1) (m' := 1) h rfl [(2, .slice none 0 0)] (by kernel_rfl) (fun a1068q h1069q => ?_)
    refine WL.done (by kernel_rfl) ?_
    refine wp_seq ?_
    refine wp_seq ?_
    refine WL.start ?_
    refine WL.block (c := 2) (m' := 2) h1069q rfl [(4, .bool true), (3, .slice none 0 c0)] (by kernel_rfl) (fun a1070q h1071q => ?_)
    clear h1069q a1068q
    refine WL.done (by kernel_rfl) ?_
    refine wp_then h1071q rfl ?_
    refine wp_seq ?_
    refine WL.start ?_
    refine WL.block (c := 1) (m' := 1) h1071q rfl [(2, .slice none 0 0)] (by kernel_rfl) (fun a1072q h1073q => ?_)
    clear h1071q a1070q
    refine WL.done (by kernel_rfl) ?_
    refine wp_ret ?_
    skip
    repeat (first | refine then_ret ?_ | refine inBlock_ret ?_ | refine inBlock_go ?_)
    refine body_ret (v := .slice none 0 0) h1073q (by kernel_rfl) (by kernel_rfl) ?_
    exact ⟨.slice none 0 0, [], rfl, Row.nil, hS.nil_⟩
  · unfold bytes_Clone.f at H
    refine calls_enter Try.func14 rfl 8 rfl (by kernel_rfl) (fun a h => ?_)
    refine wp_seq ?_
    refine WL.start ?_
    refine WL.block (c := 1) (m' := 1) h rfl [(2, .slice none 0 0)] (by kernel_rfl) (fun a1041q h1042q => ?_)
    refine WL.done (by kernel_rfl) ?_
    refine wp_seq ?_
    refine wp_seq ?_
    refine WL.start ?_
    refine WL.block (c := 2) (m' := 2) h1042q rfl [(4, .bool false), (3, .slice (some A0) p0.length c0)] (by kernel_rfl) (fun a1043q h1044q => ?_)
    clear h1042q a1041q
    refine WL.done (by kernel_rfl) ?_
    refine wp_else h1044q rfl ?_
    refine wp_skip ?_
    refine wp_seq ?_
    refine WL.start ?_
    refine WL.op' (m := 0) h1044q rfl rfl ?_
    refine owp_new (fun g_ => .slice (some ⟨g_, 0, none⟩) 0 0) (.cells ([] : List Value).toArray 5 (0, 0)) h1044q rfl (by kernel_rfl) (by kernel_rfl) hS (fun a1045q W1047q g1048q h1046q hS1049q => ?_)
    clear h1044q a1043q
    have hr1050q : Row (kInt .u8) 5 b w0 R (.slice (some ⟨g1048q, 0, none⟩) 0 0) ([] : List Int) [(g1048q, .cells ([] : List Value).toArray 5 (0, 0))] := Row.lit (xs := ([] : List Int)) (Mi := []) ⟨rfl, rfl⟩ (by simp [maxLen])
    refine WL.block (c := 1) (m' := 2) h1046q rfl [(6, .slice (some A0) p0.length c0)] (by kernel_rfl) (fun a1051q h1052q => ?_)
    clear h1046q a1045q
    by_cases c1053q : ([] : List Int).length + p0.length ≤ 140737488355328
    · rw [if_pos c1053q] at H
      refine WL.op' (m := 2) h1052q rfl rfl ?_
      refine owp_app_rds (z := .int .u8 0) (bytes := 1) (dk := (kInt .u8)) h1052q rfl (by kernel_rfl) rfl rfl rfl (kInt_flat _) hr1050q hp0 hS1049q Try.underlying22 (by kernel_rfl) rfl (by decide) (by decide) (by first | omega | (simp only [List.length_cons, List.length_nil] at *; omega)) (fun a1054q W1056q v1057q M1058q h1055q hr1059q hS1060q => ?_)
      clear h1052q a1051q
      obtain ⟨y1061q, hy1062q, H⟩ := lete H
      have hr1063q : Row (kInt .u8) 5 b w0 R v1057q y1061q M1058q := by rw [hy1062q]; exact hr1059q
      clear hr1059q
      obtain ⟨A1064q, c1065q, rfl⟩ := hr1063q.form
      refine WL.block (c := 1) (m' := 4) h1055q rfl [(2, .slice A1064q y1061q.length c1065q)] (by kernel_rfl) (fun a1066q h1067q => ?_)
      clear h1055q a1054q
      refine WL.done (by kernel_rfl) ?_
      refine wp_ret ?_
      obtain rfl := Option.some.inj H
      repeat (first | refine then_ret ?_ | refine inBlock_ret ?_ | refine inBlock_go ?_)
      refine body_ret (v := .slice A1064q y1061q.length c1065q) h1067q (by kernel_rfl) (by kernel_rfl) ?_
      exact ⟨.slice A1064q y1061q.length c1065q, M1058q, rfl, hr1063q, hS1060q⟩
    · rw [if_neg c1053q] at H
      cases H

/-! ### (*louver/pipe.Pipe).Read -/
def pipe_Pipe_Read.f (p0 : S36) (p1 : Int) : Option ((List Int) × S36) := bnd1 (pipe_Pipe_Len.f p0) fun r1290q => (if (mnI r1290q (mxI p1 1)) = 0 then (some (([] : List Int), p0)) else (if 0 ≤ (mnI r1290q (mxI p1 1)) then (if (mnI r1290q (mxI p1 1)) ≤ (p0.f0.length : Int) then (bnd1 (bytes_Clone.f (p0.f0.take (mnI r1290q (mxI p1 1)).toNat)) fun r1335q => (bnd1 (bytes_Clone.f (p0.f0.drop (mnI r1290q (mxI p1 1)).toNat)) fun r1366q => (some (r1335q, (⟨r1366q, p0.f1, p0.f2⟩ : S36))))) else (none)) else (none)))
set_option maxHeartbeats 2000000 in
set_option maxRecDepth 100000 in
theorem pipe_Pipe_Read.calls {b : Nat} {w0 W : World} {R : Frag} {Fs : List Frag} {p0 : S36} {p1 : Int}  {v0 : Value} {M0 : Frag} {r0q : (List Int)} {r1q : S36} (hp0 : Ptr k36 36 b w0 R v0 p0 M0) (H : pipe_Pipe_Read.f p0 p1 = some (r0q, r1q)) (hS : St b w0 W R (M0 :: Fs)) :
    Calls Try.prog 9 ([v0, .int .i64 p1] : List Value).toArray W (fun e W' => ∃ (u0q : Value) (N0q : Frag) (O0q : Frag), e = .returned (u0q) ∧ Row (kInt .u8) 5 b w0 R u0q r0q N0q ∧ Ptr k36 36 b w0 R v0 r1q O0q ∧ St b w0 W' R (N0q :: O0q :: Fs)) := by
  unfold pipe_Pipe_Read.f at H
  refine calls_enter Try.func9 rfl 32 rfl (by kernel_rfl) (fun a h => ?_)
  refine wp_seq ?_
  refine WL.start ?_
  refine WL.block (c := 1) (m' := 1) h rfl [(4, .slice none 0 0)] (by kernel_rfl) (fun a1285q h1286q => ?_)
  refine WL.done (by kernel_rfl) ?_
  refine wp_seq ?_
  refine WL.start ?_
  refine WL.block (c := 1) (m' := 1) h1286q rfl [(7, v0)] (by kernel_rfl) (fun a1287q h1288q => ?_)
  clear h1286q a1285q
  obtain ⟨r1290q, A1289q, H⟩ := bind1 H
  refine WL.op' (m := 1) h1288q rfl rfl ?_
  refine owp_call [v0] h1288q rfl (by kernel_rfl) rfl Try.func10 (by kernel_rfl) rfl (by kernel_rfl) (pipe_Pipe_Len.calls hp0 A1289q hS) (fun e1292q W1291q hp1293q => ?_)
  obtain ⟨M1296q, rfl, hr1297q, hS1298q⟩ := hp1293q
  refine ⟨_, rfl, fun a1294q h1295q => ?_⟩
  clear h1288q a1287q
  refine WL.block (c := 4) (m' := 6) h1295q rfl [(5, .int .i64 (mnI r1290q (mxI p1 1))), (11, .int .i64 (mnI r1290q (mxI p1 1))), (10, .int .i64 (mxI p1 1)), (9, .int .i64 p1)] (by kernel_rfl) (fun a1299q h1300q => ?_)
  clear h1295q a1294q
  refine WL.done (by kernel_rfl) ?_
  refine wp_seq ?_
  refine wp_seq ?_
  refine WL.start ?_
  refine WL.block (c := 2) (m' := 2) h1300q rfl [(13, .bool (decide ((mnI r1290q (mxI p1 1)) = 0))), (12, .int .i64 (mnI r1290q (mxI p1 1)))] (by kernel_rfl) (fun a1301q h1302q => ?_)
  clear h1300q a1299q
  refine WL.done (by kernel_rfl) ?_
  by_cases c1303q : (mnI r1290q (mxI p1 1)) = 0
  · rw [if_pos c1303q] at H
    have hb_ : (decide ((mnI r1290q (mxI p1 1)) = 0)) = true := decide_eq_true c1303q
    try rw [hb_] at h1302q
    clear hb_
    refine wp_then h1302q rfl ?_
    refine wp_seq ?_
    refine WL.start ?_
    refine WL.block (c := 1) (m' := 1) h1302q rfl [(4, .slice none 0 0)] (by kernel_rfl) (fun a1304q h1305q => ?_)
    clear h1302q a1301q
    refine WL.done (by kernel_rfl) ?_
    refine wp_ret ?_
    obtain ⟨rfl, rfl⟩ := ret2 H
    repeat (first | refine then_ret ?_ | refine inBlock_ret ?_ | refine inBlock_go ?_)
    refine body_ret (v := .slice none 0 0) h1305q (by kernel_rfl) (by kernel_rfl) ?_
    exact ⟨.slice none 0 0, [], M1296q, rfl, Row.nil, hr1297q, hS1298q.nil_⟩
  · rw [if_neg c1303q] at H
    have hb_ : (decide ((mnI r1290q (mxI p1 1)) = 0)) = false := decide_eq_false c1303q
    try rw [hb_] at h1302q
    clear hb_
    refine wp_else h1302q rfl ?_
    refine wp_skip ?_
    refine wp_seq ?_
    refine WL.start ?_
    refine WL.block (c := 1) (m' := 1) h1302q rfl [(14, v0)] (by kernel_rfl) (fun a1306q h1307q => ?_)
    clear h1302q a1301q
    obtain ⟨g1308q, cs1309q, M1310q, hv_, hM_, hr1311q⟩ := hr1297q
    obtain ⟨v1312q, M1313q, rfl, hM2q, hr1314q⟩ := k36qrep hr1311q
    subst hM2q
    subst hM_
    subst hv_
    replace hr1314q : Row (kInt .u8) 5 b w0 R v1312q p0.f0 M1310q := hr1314q
    obtain ⟨A1315q, c1316q, rfl⟩ := hr1314q.form
    have hS1317q : St b w0 W1291q R ([(g1308q, .cells ([.slice A1315q p0.f0.length c1316q, .int .i64 p0.f1, .bool p0.f2] : List Value).toArray 36 (0, 0))] :: M1310q :: Fs) := hS1298q.assoc (by simp only [List.flatten_cons, List.append_assoc, List.cons_append, List.nil_append, List.append_nil])
    refine WL.block (c := 2) (m' := 3) h1307q rfl [(16, .pointer (some ⟨g1308q, 0, none⟩)), (15, .pointer (some ⟨g1308q, 0, none⟩))] (by kernel_rfl) (fun a1318q h1319q => ?_)
    clear h1307q a1306q
    refine WL.op' (m := 3) h1319q rfl rfl ?_
    refine owp_run (v := .slice A1315q p0.f0.length c1316q) h1319q rfl (by kernel_rfl) (run_load1 rfl rfl Try.underlying22 rfl (hS1317q.cell (i := 0) rfl)) (fun a1320q h1321q => ?_)
    clear h1319q a1318q
    refine WL.block (c := 1) (m' := 5) h1321q rfl [(18, .int .i64 (mnI r1290q (mxI p1 1)))] (by kernel_rfl) (fun a1322q h1323q => ?_)
    clear h1321q a1320q
    by_cases c1324q : 0 ≤ (mnI r1290q (mxI p1 1))
    · rw [if_pos c1324q] at H
      by_cases c1325q : (mnI r1290q (mxI p1 1)) ≤ (p0.f0.length : Int)
      · rw [if_pos c1325q] at H
        refine WL.op' (m := 5) h1323q rfl rfl ?_
        refine owp_run (v := sliced A1315q (0 : Int).toNat (mnI r1290q (mxI p1 1)).toNat c1316q 1) h1323q rfl (by kernel_rfl) (run_cut (l := 0) (h := mnI r1290q (mxI p1 1)) rfl rfl Try.underlying22 (by kernel_rfl) rfl ⟨_, rfl⟩ (by first | assumption | omega) (by first | assumption | omega) (by have q_ := Rds.cap hr1314q.rds; omega) (by have q_ := Rds.cap hr1314q.rds; omega)) (fun a1327q h1328q => ?_)
        clear h1323q a1322q
        have hx1326q := Rds.cut hr1314q.rds (l := (0 : Int).toNat) (h := (mnI r1290q (mxI p1 1)).toNat) (by omega) (by omega)
        obtain ⟨v1329q, ev1330q⟩ : ∃ y_, y_ = sliced A1315q (0 : Int).toNat (mnI r1290q (mxI p1 1)).toNat c1316q 1 := ⟨_, rfl⟩
        have hx_ : Rds (kInt .u8) b w0 (M1310q ++ R) v1329q (p0.f0.take (mnI r1290q (mxI p1 1)).toNat) := hx1326q.as_ ev1330q.symm (by simp)
        rw [← ev1330q] at h1328q; clear hx1326q
        have hx1326q := hx_; clear hx_
        obtain ⟨A1331q, c1332q, rfl⟩ := hx1326q.form
        have hS1333q : St b w0 W1291q R (M1310q :: [(g1308q, .cells ([.slice A1315q p0.f0.length c1316q, .int .i64 p0.f1, .bool p0.f2] : List Value).toArray 36 (0, 0))] :: Fs) := hS1317q.bring 1 rfl rfl
        obtain ⟨r1335q, A1334q, H⟩ := bind1 H
        refine WL.op' (m := 6) h1328q rfl rfl ?_
        refine owp_call [.slice A1331q (p0.f0.take (mnI r1290q (mxI p1 1)).toNat).length c1332q] h1328q rfl (by kernel_rfl) rfl Try.func14 (by kernel_rfl) rfl (by kernel_rfl) (bytes_Clone.calls hx1326q A1334q (hS1333q.pool)) (fun e1337q W1336q hp1338q => ?_)
        obtain ⟨v1341q, M1342q, rfl, hr1343q, hS1344q⟩ := hp1338q
        have hS1345q : St b w0 W1336q R (M1310q :: M1342q :: [(g1308q, .cells ([.slice A1315q p0.f0.length c1316q, .int .i64 p0.f1, .bool p0.f2] : List Value).toArray 36 (0, 0))] :: Fs) := hS1344q.unpool
        replace hr1343q : Row (kInt .u8) 5 b w0 R v1341q r1335q M1342q := hr1343q.ind (kInt_ind _)
        refine ⟨_, rfl, fun a1339q h1340q => ?_⟩
        clear h1328q a1327q
        obtain ⟨A1346q, c1347q, rfl⟩ := hr1343q.form
        refine WL.block (c := 1) (m' := 8) h1340q rfl [(6, .slice A1346q r1335q.length c1347q)] (by kernel_rfl) (fun a1348q h1349q => ?_)
        clear h1340q a1339q
        refine WL.done (by kernel_rfl) ?_
        refine wp_seq ?_
        refine WL.start ?_
        refine WL.block (c := 4) (m' := 4) h1349q rfl [(24, .pointer (some ⟨g1308q, 0, none⟩)), (23, .pointer (some ⟨g1308q, 0, none⟩)), (22, .pointer (some ⟨g1308q, 0, none⟩)), (21, .pointer (some ⟨g1308q, 0, none⟩))] (by kernel_rfl) (fun a1350q h1351q => ?_)
        clear h1349q a1348q
        have hS1352q : St b w0 W1336q R ([(g1308q, .cells ([.slice A1315q p0.f0.length c1316q, .int .i64 p0.f1, .bool p0.f2] : List Value).toArray 36 (0, 0))] :: M1310q :: M1342q :: Fs) := hS1345q.bring 2 rfl rfl
        refine WL.op' (m := 4) h1351q rfl rfl ?_
        refine owp_run (v := .slice A1315q p0.f0.length c1316q) h1351q rfl (by kernel_rfl) (run_load1 rfl rfl Try.underlying22 rfl (hS1352q.cell (i := 0) rfl)) (fun a1353q h1354q => ?_)
        clear h1351q a1350q
        refine WL.block (c := 1) (m' := 6) h1354q rfl [(26, .int .i64 (mnI r1290q (mxI p1 1)))] (by kernel_rfl) (fun a1355q h1356q => ?_)
        clear h1354q a1353q
        refine WL.op' (m := 6) h1356q rfl rfl ?_
        refine owp_run (v := sliced A1315q (mnI r1290q (mxI p1 1)).toNat (p0.f0.length : Int).toNat c1316q 1) h1356q rfl (by kernel_rfl) (run_cut (l := mnI r1290q (mxI p1 1)) (h := (p0.f0.length : Int)) rfl rfl Try.underlying22 (by kernel_rfl) ⟨_, rfl⟩ rfl (by first | assumption | omega) (by first | assumption | omega) (by have q_ := Rds.cap hr1314q.rds; omega) (by have q_ := Rds.cap hr1314q.rds; omega)) (fun a1358q h1359q => ?_)
        clear h1356q a1355q
        have hx1357q := Rds.cut hr1314q.rds (l := (mnI r1290q (mxI p1 1)).toNat) (h := (p0.f0.length : Int).toNat) (by omega) (by omega)
        obtain ⟨v1360q, ev1361q⟩ : ∃ y_, y_ = sliced A1315q (mnI r1290q (mxI p1 1)).toNat (p0.f0.length : Int).toNat c1316q 1 := ⟨_, rfl⟩
        have hx_ : Rds (kInt .u8) b w0 (M1310q ++ R) v1360q (p0.f0.drop (mnI r1290q (mxI p1 1)).toNat) := hx1357q.as_ ev1361q.symm (by simp)
        rw [← ev1361q] at h1359q; clear hx1357q
        have hx1357q := hx_; clear hx_
        obtain ⟨A1362q, c1363q, rfl⟩ := hx1357q.form
        have hS1364q : St b w0 W1336q R (M1310q :: [(g1308q, .cells ([.slice A1315q p0.f0.length c1316q, .int .i64 p0.f1, .bool p0.f2] : List Value).toArray 36 (0, 0))] :: M1342q :: Fs) := hS1352q.bring 1 rfl rfl
        obtain ⟨r1366q, A1365q, H⟩ := bind1 H
        refine WL.op' (m := 7) h1359q rfl rfl ?_
        refine owp_call [.slice A1362q (p0.f0.drop (mnI r1290q (mxI p1 1)).toNat).length c1363q] h1359q rfl (by kernel_rfl) rfl Try.func14 (by kernel_rfl) rfl (by kernel_rfl) (bytes_Clone.calls hx1357q A1365q (hS1364q.pool)) (fun e1368q W1367q hp1369q => ?_)
        obtain ⟨v1372q, M1373q, rfl, hr1374q, hS1375q⟩ := hp1369q
        have hS1376q : St b w0 W1367q R (M1310q :: M1373q :: [(g1308q, .cells ([.slice A1315q p0.f0.length c1316q, .int .i64 p0.f1, .bool p0.f2] : List Value).toArray 36 (0, 0))] :: M1342q :: Fs) := hS1375q.unpool
        replace hr1374q : Row (kInt .u8) 5 b w0 R v1372q r1366q M1373q := hr1374q.ind (kInt_ind _)
        refine ⟨_, rfl, fun a1370q h1371q => ?_⟩
        clear h1359q a1358q
        obtain ⟨A1377q, c1378q, rfl⟩ := hr1374q.form
        refine WL.block (c := 2) (m' := 10) h1371q rfl [(30, .pointer (some ⟨g1308q, 0, none⟩)), (29, .pointer (some ⟨g1308q, 0, none⟩))] (by kernel_rfl) (fun a1379q h1380q => ?_)
        clear h1371q a1370q
        have hS1381q : St b w0 W1367q R ([(g1308q, .cells ([.slice A1315q p0.f0.length c1316q, .int .i64 p0.f1, .bool p0.f2] : List Value).toArray 36 (0, 0))] :: M1310q :: M1373q :: M1342q :: Fs) := hS1376q.bring 2 rfl rfl
        refine WL.op' (m := 10) h1380q rfl rfl ?_
        refine owp_store (i := 0) (vs := ([.slice A1377q r1366q.length c1378q] : List Value)) h1380q rfl (by kernel_rfl) rfl rfl rfl rfl (by simp [Value.oneCell']) (by kernel_rfl) hS1381q (by simp) (cs' := ([.slice A1377q r1366q.length c1378q, .int .i64 p0.f1, .bool p0.f2] : List Value)) rfl (fun a1382q W1384q h1383q hS1385q => ?_)
        clear h1380q a1379q
        refine WL.done (by kernel_rfl) ?_
        refine wp_seq ?_
        refine WL.start ?_
        refine WL.block (c := 2) (m' := 2) h1383q rfl [(4, .slice A1346q r1335q.length c1347q), (31, .slice A1346q r1335q.length c1347q)] (by kernel_rfl) (fun a1386q h1387q => ?_)
        clear h1383q a1382q
        refine WL.done (by kernel_rfl) ?_
        refine wp_ret ?_
        have hS1388q : St b w0 W1384q R (M1373q :: [(g1308q, .cells ([.slice A1377q r1366q.length c1378q, .int .i64 p0.f1, .bool p0.f2] : List Value).toArray 36 (0, 0))] :: M1310q :: M1342q :: Fs) := hS1385q.bring 2 rfl rfl
        have hS1389q : St b w0 W1384q R ([(g1308q, .cells ([.slice A1377q r1366q.length c1378q, .int .i64 p0.f1, .bool p0.f2] : List Value).toArray 36 (0, 0))] :: M1373q :: M1310q :: M1342q :: Fs) := hS1388q.bring 1 rfl rfl
        obtain ⟨M1391q, hr1390q, hM_⟩ := k36qmk (b := b) (w0 := w0) (R := R) (x := (⟨r1366q, p0.f1, p0.f2⟩ : S36)) (gvf0 := hr1374q)
        have hp1392q : Ptr k36 36 b w0 R (.pointer (some ⟨g1308q, 0, none⟩)) (⟨r1366q, p0.f1, p0.f2⟩ : S36) ((g1308q, .cells ([.slice A1377q r1366q.length c1378q, .int .i64 p0.f1, .bool p0.f2] : List Value).toArray 36 (0, 0)) :: M1391q) := ⟨_, _, _, rfl, rfl, hr1390q⟩
        rw [hM_] at hp1392q
        have hS1394q : St b w0 W1384q R (((g1308q, .cells ([.slice A1377q r1366q.length c1378q, .int .i64 p0.f1, .bool p0.f2] : List Value).toArray 36 (0, 0)) :: (M1373q)) :: M1310q :: M1342q :: Fs) := hS1389q.assoc (by simp only [List.flatten_cons, List.append_assoc, List.cons_append, List.nil_append, List.append_nil])
        obtain ⟨M1395q, hM_⟩ : ∃ y : Frag, y = ((g1308q, .cells ([.slice A1377q r1366q.length c1378q, .int .i64 p0.f1, .bool p0.f2] : List Value).toArray 36 (0, 0)) :: (M1373q)) := ⟨_, rfl⟩
        rw [← hM_] at hp1392q hS1394q
        clear hM_
        have hS1396q : St b w0 W1384q R (M1310q :: M1395q :: M1342q :: Fs) := hS1394q.bring 1 rfl rfl
        have hS1397q : St b w0 W1384q R (M1395q :: M1342q :: Fs) := hS1396q.drop_
        have hS1398q : St b w0 W1384q R (M1342q :: M1395q :: Fs) := hS1397q.bring 1 rfl rfl
        obtain ⟨rfl, rfl⟩ := ret2 H
        repeat (first | refine then_ret ?_ | refine inBlock_ret ?_ | refine inBlock_go ?_)
        refine body_ret (v := .slice A1346q r1335q.length c1347q) h1387q (by kernel_rfl) (by kernel_rfl) ?_
        exact ⟨.slice A1346q r1335q.length c1347q, M1342q, M1395q, rfl, hr1343q, hp1392q, hS1398q⟩
      · rw [if_neg c1325q] at H
        cases H
    · rw [if_neg c1324q] at H
      cases H

/-! ### (*louver/pipe.Pipe).Read -/
def pipe_Pipe_Read_nil.f (p1 : Int) : Option ((List Int)) := bnd1 (pipe_Pipe_Len_nil.f) fun r1425q => (if (mnI r1425q (mxI p1 1)) = 0 then (some ([] : List Int)) else (none))
set_option maxHeartbeats 2000000 in
set_option maxRecDepth 100000 in
theorem pipe_Pipe_Read_nil.calls {b : Nat} {w0 W : World} {R : Frag} {Fs : List Frag} {p1 : Int}  {r0q : (List Int)}  (H : pipe_Pipe_Read_nil.f p1 = some r0q) (hS : St b w0 W R (Fs)) :
    Calls Try.prog 9 ([.pointer none, .int .i64 p1] : List Value).toArray W (fun e W' => ∃ (u0q : Value) (N0q : Frag), e = .returned (u0q) ∧ Row (kInt .u8) 5 b w0 R u0q r0q N0q ∧ St b w0 W' R (N0q :: Fs)) := by
  unfold pipe_Pipe_Read_nil.f at H
  refine calls_enter Try.func9 rfl 32 rfl (by kernel_rfl) (fun a h => ?_)
  refine wp_seq ?_
  refine WL.start ?_
  refine WL.block (c := 1) (m' := 1) h rfl [(4, .slice none 0 0)] (by kernel_rfl) (fun a1420q h1421q => ?_)
  refine WL.done (by kernel_rfl) ?_
  refine wp_seq ?_
  refine WL.start ?_
  refine WL.block (c := 1) (m' := 1) h1421q rfl [(7, .pointer none)] (by kernel_rfl) (fun a1422q h1423q => ?_)
  clear h1421q a1420q
  obtain ⟨r1425q, A1424q, H⟩ := bind1 H
  refine WL.op' (m := 1) h1423q rfl rfl ?_
  refine owp_call [.pointer none] h1423q rfl (by kernel_rfl) rfl Try.func10 (by kernel_rfl) rfl (by kernel_rfl) (pipe_Pipe_Len_nil.calls  A1424q hS) (fun e1427q W1426q hp1428q => ?_)
  obtain ⟨rfl, hS1431q⟩ := hp1428q
  refine ⟨_, rfl, fun a1429q h1430q => ?_⟩
  clear h1423q a1422q
  refine WL.block (c := 4) (m' := 6) h1430q rfl [(5, .int .i64 (mnI r1425q (mxI p1 1))), (11, .int .i64 (mnI r1425q (mxI p1 1))), (10, .int .i64 (mxI p1 1)), (9, .int .i64 p1)] (by kernel_rfl) (fun a1432q h1433q => ?_)
  clear h1430q a1429q
  refine WL.done (by kernel_rfl) ?_
  refine wp_seq ?_
  refine wp_seq ?_
  refine WL.start ?_
  refine WL.block (c := 2) (m' := 2) h1433q rfl [(13, .bool (decide ((mnI r1425q (mxI p1 1)) = 0))), (12, .int .i64 (mnI r1425q (mxI p1 1)))] (by kernel_rfl) (fun a1434q h1435q => ?_)
  clear h1433q a1432q
  refine WL.done (by kernel_rfl) ?_
  by_cases c1436q : (mnI r1425q (mxI p1 1)) = 0
  · rw [if_pos c1436q] at H
    have hb_ : (decide ((mnI r1425q (mxI p1 1)) = 0)) = true := decide_eq_true c1436q
    try rw [hb_] at h1435q
    clear hb_
    refine wp_then h1435q rfl ?_
    refine wp_seq ?_
    refine WL.start ?_
    refine WL.block (c := 1) (m' := 1) h1435q rfl [(4, .slice none 0 0)] (by kernel_rfl) (fun a1437q h1438q => ?_)
    clear h1435q a1434q
    refine WL.done (by kernel_rfl) ?_
    refine wp_ret ?_
    obtain rfl := Option.some.inj H
    repeat (first | refine then_ret ?_ | refine inBlock_ret ?_ | refine inBlock_go ?_)
    refine body_ret (v := .slice none 0 0) h1438q (by kernel_rfl) (by kernel_rfl) ?_
    exact ⟨.slice none 0 0, [], rfl, Row.nil, hS1431q.nil_⟩
  · rw [if_neg c1436q] at H
    have hb_ : (decide ((mnI r1425q (mxI p1 1)) = 0)) = false := decide_eq_false c1436q
    try rw [hb_] at h1435q
    clear hb_
    refine wp_else h1435q rfl ?_
    refine wp_skip ?_
    refine wp_seq ?_
    refine WL.start ?_
    refine WL.block (c := 1) (m' := 1) h1435q rfl [(14, .pointer none)] (by kernel_rfl) (fun a1439q h1440q => ?_)
    clear h1435q a1434q
    cases H

/-! ### louver/louverlaw26.fixed -/
def louverlaw26qfixed.f  : Option (Bool) := bnd1 (pipe_New.f 3) fun r1603q => (bnd2 (pipe_Pipe_Write.f r1603q ([97, 98, 99, 100] : List Int)) fun r1630q r1631q => (if r1630q = 3 then (bnd2 (pipe_Pipe_Read.f r1631q 2) fun r1646q r1647q => (if (toS r1646q) = ([97, 98] : List UInt8) then (bnd1 (pipe_Pipe_Len.f r1647q) fun r1672q => (if r1672q = 1 then (bnd1 (pipe_Pipe_Room.f r1647q) fun r1689q => (some (decide (r1689q = 2)))) else (some false))) else (some false))) else (some false)))
set_option maxHeartbeats 2000000 in
set_option maxRecDepth 100000 in
theorem louverlaw26qfixed.calls {b : Nat} {w0 W : World} {R : Frag} {Fs : List Frag}   {r0q : Bool}  (H : louverlaw26qfixed.f = some r0q) (hS : St b w0 W R (Fs)) :
    Calls Try.prog 6 ([] : List Value).toArray W (fun e W' => e = .returned (.bool r0q) ∧ St b w0 W' R (Fs)) := by
  unfold louverlaw26qfixed.f at H
  refine calls_enter Try.func6 rfl 24 rfl (by kernel_rfl) (fun a h => ?_)
  refine wp_seq ?_
  refine WL.start ?_
  refine WL.block (c := 1) (m' := 1) h rfl [(0, .bool false)] (by kernel_rfl) (fun a1600q h1601q => ?_)
  refine WL.done (by kernel_rfl) ?_
  refine wp_seq ?_
  refine WL.start ?_
  obtain ⟨r1603q, A1602q, H⟩ := bind1 H
  refine WL.op' (m := 0) h1601q rfl rfl ?_
  refine owp_call [.int .i64 3] h1601q rfl (by kernel_rfl) rfl Try.func7 (by kernel_rfl) rfl (by kernel_rfl) (pipe_New.calls  A1602q hS) (fun e1605q W1604q hp1606q => ?_)
  obtain ⟨v1609q, M1610q, rfl, hr1611q, hS1612q⟩ := hp1606q
  refine ⟨_, rfl, fun a1607q h1608q => ?_⟩
  clear h1601q a1600q
  refine WL.block (c := 1) (m' := 2) h1608q rfl [(1, v1609q)] (by kernel_rfl) (fun a1613q h1614q => ?_)
  clear h1608q a1607q
  refine WL.done (by kernel_rfl) ?_
  refine wp_seq ?_
  refine WL.start ?_
  refine WL.block (c := 1) (m' := 1) h1614q rfl [(3, v1609q)] (by kernel_rfl) (fun a1615q h1616q => ?_)
  clear h1614q a1613q
  refine WL.op' (m := 1) h1616q rfl rfl ?_
  refine owp_new (fun g_ => .slice (some ⟨g_, 0, none⟩) 4 4) (.cells ([.int .u8 97, .int .u8 98, .int .u8 99, .int .u8 100] : List Value).toArray 5 (0, 0)) h1616q rfl (by kernel_rfl) (by kernel_rfl) hS1612q (fun a1617q W1619q g1620q h1618q hS1621q => ?_)
  clear h1616q a1615q
  have hr1622q : Row (kInt .u8) 5 b w0 R (.slice (some ⟨g1620q, 0, none⟩) 4 4) ([97, 98, 99, 100] : List Int) [(g1620q, .cells ([.int .u8 97, .int .u8 98, .int .u8 99, .int .u8 100] : List Value).toArray 5 (0, 0))] := Row.lit (xs := ([97, 98, 99, 100] : List Int)) (Mi := []) ⟨_, _, [], _, rfl, rfl, ⟨rfl, rfl⟩, ⟨_, _, [], _, rfl, rfl, ⟨rfl, rfl⟩, ⟨_, _, [], _, rfl, rfl, ⟨rfl, rfl⟩, ⟨_, _, [], _, rfl, rfl, ⟨rfl, rfl⟩, ⟨rfl, rfl⟩⟩⟩⟩⟩ (by simp [maxLen])
  refine WL.op' (m := 2) h1618q rfl rfl ?_
  refine owp_mark h1618q rfl (by kernel_rfl) rfl rfl Try.underlying22 Try.underlying5 hS1621q (fun a1623q W1625q h1624q hS1626q => ?_)
  clear h1618q a1617q
  have hx1628q := Rds.blk (R := R) (E := 5) (g := g1620q) (fr := (([.int .u8 97, .int .u8 98, .int .u8 99, .int .u8 100] : List Value).length, ([.int .u8 97, .int .u8 98, .int .u8 99, .int .u8 100] : List Value).length + 1)) (xs := ([97, 98, 99, 100] : List Int)) (dk := (kInt .u8)) (b := b) (w0 := w0) (cs := ([.int .u8 97, .int .u8 98, .int .u8 99, .int .u8 100] : List Value)) ⟨_, _, [], _, rfl, rfl, ⟨rfl, rfl⟩, ⟨_, _, [], _, rfl, rfl, ⟨rfl, rfl⟩, ⟨_, _, [], _, rfl, rfl, ⟨rfl, rfl⟩, ⟨_, _, [], _, rfl, rfl, ⟨rfl, rfl⟩, ⟨rfl, rfl⟩⟩⟩⟩⟩ (by simp [maxLen])
  obtain ⟨M1627q, hM_⟩ : ∃ y : Frag, y = [(g1620q, .cells ([.int .u8 97, .int .u8 98, .int .u8 99, .int .u8 100] : List Value).toArray 5 (([.int .u8 97, .int .u8 98, .int .u8 99, .int .u8 100] : List Value).length, ([.int .u8 97, .int .u8 98, .int .u8 99, .int .u8 100] : List Value).length + 1))] := ⟨_, rfl⟩
  rw [← hM_] at hS1626q hx1628q
  clear hM_
  replace hr1611q := Ptr.mono (R' := (M1627q ++ R)) (up (M := M1627q)) hr1611q
  obtain ⟨r1630q, r1631q, A1629q, H⟩ := bind2 H
  refine WL.op' (m := 3) h1624q rfl rfl ?_
  refine owp_call [v1609q, .slice (some ⟨g1620q, 0, none⟩) 4 4] h1624q rfl (by kernel_rfl) rfl Try.func8 (by kernel_rfl) rfl (by kernel_rfl) (pipe_Pipe_Write.calls hr1611q hx1628q A1629q hS1626q) (fun e1633q W1632q hp1634q => ?_)
  obtain ⟨M1637q, rfl, hr1638q, hS1639q⟩ := hp1634q
  refine ⟨_, rfl, fun a1635q h1636q => ?_⟩
  clear h1624q a1623q
  refine WL.block (c := 2) (m' := 6) h1636q rfl [(8, .bool (decide (r1630q = 3))), (7, .bool (decide (r1630q = 3)))] (by kernel_rfl) (fun a1640q h1641q => ?_)
  clear h1636q a1635q
  by_cases c1642q : r1630q = 3
  · rw [if_pos c1642q] at H
    have hb_ : (decide (r1630q = 3)) = true := decide_eq_true c1642q
    try rw [hb_] at h1641q
    clear hb_
    refine WL.op' (m := 6) h1641q rfl rfl (owp_run h1641q rfl (by kernel_rfl) (v := v1609q) (by kernel_rfl) (fun a1643q h1644q => ?_))
    clear h1641q a1640q
    obtain ⟨r1646q, r1647q, A1645q, H⟩ := bind2 H
    refine WL.op' (m := 7) h1644q rfl rfl ?_
    refine owp_call [v1609q, .int .i64 2] h1644q rfl (by kernel_rfl) rfl Try.func9 (by kernel_rfl) rfl (by kernel_rfl) (pipe_Pipe_Read.calls hr1638q A1645q hS1639q) (fun e1649q W1648q hp1650q => ?_)
    obtain ⟨v1653q, M1654q, M1656q, rfl, hr1655q, hr1657q, hS1658q⟩ := hp1650q
    refine ⟨_, rfl, fun a1651q h1652q => ?_⟩
    clear h1644q a1643q
    obtain ⟨A1659q, c1660q, rfl⟩ := hr1655q.form
    refine WL.op' (m := 8) h1652q rfl rfl ?_
    refine owp_run (v := .string (mkS (toS r1646q))) h1652q rfl (by kernel_rfl) (run_tostr rfl rfl hr1655q.rds (fun _ _ hk_ => (hS1658q).pool.kn hk_) Try.underlying22 Try.underlying5 Try.underlying9) (fun a1661q h1662q => ?_)
    clear h1652q a1651q
    refine WL.op' (m := 9) h1662q rfl rfl ?_
    refine owp_run (v := .bool (decide ((toS r1646q) = ([97, 98] : List UInt8)))) h1662q rfl (by kernel_rfl) (run_streq rfl rfl rfl) (fun a1663q h1664q => ?_)
    clear h1662q a1661q
    refine WL.block (c := 2) (m' := 12) h1664q rfl [(14, .bool (decide ((toS r1646q) = ([97, 98] : List UInt8)))), (13, .bool (decide ((toS r1646q) = ([97, 98] : List UInt8))))] (by kernel_rfl) (fun a1665q h1666q => ?_)
    clear h1664q a1663q
    by_cases c1667q : (toS r1646q) = ([97, 98] : List UInt8)
    · rw [if_pos c1667q] at H
      have hb_ : (decide ((toS r1646q) = ([97, 98] : List UInt8))) = true := decide_eq_true c1667q
      try rw [hb_] at h1666q
      clear hb_
      refine WL.op' (m := 12) h1666q rfl rfl (owp_run h1666q rfl (by kernel_rfl) (v := v1609q) (by kernel_rfl) (fun a1668q h1669q => ?_))
      clear h1666q a1665q
      have hS1670q : St b w0 W1648q (M1627q ++ R) (M1656q :: M1654q :: Fs) := hS1658q.bring 1 rfl rfl
      obtain ⟨r1672q, A1671q, H⟩ := bind1 H
      refine WL.op' (m := 13) h1669q rfl rfl ?_
      refine owp_call [v1609q] h1669q rfl (by kernel_rfl) rfl Try.func10 (by kernel_rfl) rfl (by kernel_rfl) (pipe_Pipe_Len.calls hr1657q A1671q hS1670q) (fun e1674q W1673q hp1675q => ?_)
      obtain ⟨M1678q, rfl, hr1679q, hS1680q⟩ := hp1675q
      refine ⟨_, rfl, fun a1676q h1677q => ?_⟩
      clear h1669q a1668q
      refine WL.op' (m := 14) h1677q rfl rfl (owp_run h1677q rfl (by kernel_rfl) (v := .bool (decide (r1672q = 1))) (by kernel_rfl) (fun a1681q h1682q => ?_))
      clear h1677q a1676q
      refine WL.block (c := 2) (m' := 17) h1682q rfl [(19, .bool (decide (r1672q = 1))), (18, .bool (decide (r1672q = 1)))] (by kernel_rfl) (fun a1683q h1684q => ?_)
      clear h1682q a1681q
      by_cases c1685q : r1672q = 1
      · rw [if_pos c1685q] at H
        have hb_ : (decide (r1672q = 1)) = true := decide_eq_true c1685q
        try rw [hb_] at h1684q
        clear hb_
        refine WL.op' (m := 17) h1684q rfl rfl (owp_run h1684q rfl (by kernel_rfl) (v := v1609q) (by kernel_rfl) (fun a1686q h1687q => ?_))
        clear h1684q a1683q
        obtain ⟨r1689q, A1688q, H⟩ := bind1 H
        refine WL.op' (m := 18) h1687q rfl rfl ?_
        refine owp_call [v1609q] h1687q rfl (by kernel_rfl) rfl Try.func12 (by kernel_rfl) rfl (by kernel_rfl) (pipe_Pipe_Room.calls hr1679q A1688q hS1680q) (fun e1691q W1690q hp1692q => ?_)
        obtain ⟨M1695q, rfl, hr1696q, hS1697q⟩ := hp1692q
        refine ⟨_, rfl, fun a1693q h1694q => ?_⟩
        clear h1687q a1686q
        refine WL.op' (m := 19) h1694q rfl rfl (owp_run h1694q rfl (by kernel_rfl) (v := .bool (decide (r1689q = 2))) (by kernel_rfl) (fun a1698q h1699q => ?_))
        clear h1694q a1693q
        refine WL.block (c := 2) (m' := 22) h1699q rfl [(0, .bool (decide (r1689q = 2))), (23, .bool (decide (r1689q = 2)))] (by kernel_rfl) (fun a1700q h1701q => ?_)
        clear h1699q a1698q
        refine WL.done (by kernel_rfl) ?_
        refine wp_ret ?_
        have hS1702q : St b w0 W1690q (M1627q ++ R) (M1654q :: Fs) := hS1697q.drop_
        have hS1703q : St b w0 W1690q (M1627q ++ R) (Fs) := hS1702q.drop_
        obtain rfl := Option.some.inj H
        repeat (first | refine then_ret ?_ | refine inBlock_ret ?_ | refine inBlock_go ?_)
        refine body_ret (v := .bool (decide (r1689q = 2))) h1701q (by kernel_rfl) (by kernel_rfl) ?_
        exact ⟨rfl, hS1703q.shed⟩
      · rw [if_neg c1685q] at H
        have hb_ : (decide (r1672q = 1)) = false := decide_eq_false c1685q
        try rw [hb_] at h1684q
        clear hb_
        refine WL.skipped (m := 17) h1684q rfl rfl (by kernel_rfl) rfl (fun a1704q h1705q => ?_)
        clear h1684q a1683q
        refine WL.skipped (m := 18) h1705q rfl rfl (by kernel_rfl) rfl (fun a1706q h1707q => ?_)
        clear h1705q a1704q
        refine WL.skipped (m := 19) h1707q rfl rfl (by kernel_rfl) rfl (fun a1708q h1709q => ?_)
        clear h1707q a1706q
        refine WL.block (c := 2) (m' := 22) h1709q rfl [(0, .bool false), (23, .bool false)] (by kernel_rfl) (fun a1710q h1711q => ?_)
        clear h1709q a1708q
        refine WL.done (by kernel_rfl) ?_
        refine wp_ret ?_
        have hS1712q : St b w0 W1673q (M1627q ++ R) (M1654q :: Fs) := hS1680q.drop_
        have hS1713q : St b w0 W1673q (M1627q ++ R) (Fs) := hS1712q.drop_
        obtain rfl := Option.some.inj H
        repeat (first | refine then_ret ?_ | refine inBlock_ret ?_ | refine inBlock_go ?_)
        refine body_ret (v := .bool false) h1711q (by kernel_rfl) (by kernel_rfl) ?_
        exact ⟨rfl, hS1713q.shed⟩
    · rw [if_neg c1667q] at H
      have hb_ : (decide ((toS r1646q) = ([97, 98] : List UInt8))) = false := decide_eq_false c1667q
      try rw [hb_] at h1666q
      clear hb_
      refine WL.skipped (m := 12) h1666q rfl rfl (by kernel_rfl) rfl (fun a1714q h1715q => ?_)
      clear h1666q a1665q
      refine WL.skipped (m := 13) h1715q rfl rfl (by kernel_rfl) rfl (fun a1716q h1717q => ?_)
      clear h1715q a1714q
      refine WL.skipped (m := 14) h1717q rfl rfl (by kernel_rfl) rfl (fun a1718q h1719q => ?_)
      clear h1717q a1716q
      refine WL.block (c := 2) (m' := 17) h1719q rfl [(19, .bool false), (18, .bool false)] (by kernel_rfl) (fun a1720q h1721q => ?_)
      clear h1719q a1718q
      refine WL.skipped (m := 17) h1721q rfl rfl (by kernel_rfl) rfl (fun a1722q h1723q => ?_)
      clear h1721q a1720q
      refine WL.skipped (m := 18) h1723q rfl rfl (by kernel_rfl) rfl (fun a1724q h1725q => ?_)
      clear h1723q a1722q
      refine WL.skipped (m := 19) h1725q rfl rfl (by kernel_rfl) rfl (fun a1726q h1727q => ?_)
      clear h1725q a1724q
      refine WL.block (c := 2) (m' := 22) h1727q rfl [(0, .bool false), (23, .bool false)] (by kernel_rfl) (fun a1728q h1729q => ?_)
      clear h1727q a1726q
      refine WL.done (by kernel_rfl) ?_
      refine wp_ret ?_
      have hS1730q : St b w0 W1648q (M1627q ++ R) (M1656q :: Fs) := hS1658q.drop_
      have hS1731q : St b w0 W1648q (M1627q ++ R) (Fs) := hS1730q.drop_
      obtain rfl := Option.some.inj H
      repeat (first | refine then_ret ?_ | refine inBlock_ret ?_ | refine inBlock_go ?_)
      refine body_ret (v := .bool false) h1729q (by kernel_rfl) (by kernel_rfl) ?_
      exact ⟨rfl, hS1731q.shed⟩
  · rw [if_neg c1642q] at H
    have hb_ : (decide (r1630q = 3)) = false := decide_eq_false c1642q
    try rw [hb_] at h1641q
    clear hb_
    refine WL.skipped (m := 6) h1641q rfl rfl (by kernel_rfl) rfl (fun a1732q h1733q => ?_)
    clear h1641q a1640q
    refine WL.skipped (m := 7) h1733q rfl rfl (by kernel_rfl) rfl (fun a1734q h1735q => ?_)
    clear h1733q a1732q
    refine WL.skipped (m := 8) h1735q rfl rfl (by kernel_rfl) rfl (fun a1736q h1737q => ?_)
    clear h1735q a1734q
    refine WL.skipped (m := 9) h1737q rfl rfl (by kernel_rfl) rfl (fun a1738q h1739q => ?_)
    clear h1737q a1736q
    refine WL.block (c := 2) (m' := 12) h1739q rfl [(14, .bool false), (13, .bool false)] (by kernel_rfl) (fun a1740q h1741q => ?_)
    clear h1739q a1738q
    refine WL.skipped (m := 12) h1741q rfl rfl (by kernel_rfl) rfl (fun a1742q h1743q => ?_)
    clear h1741q a1740q
    refine WL.skipped (m := 13) h1743q rfl rfl (by kernel_rfl) rfl (fun a1744q h1745q => ?_)
    clear h1743q a1742q
    refine WL.skipped (m := 14) h1745q rfl rfl (by kernel_rfl) rfl (fun a1746q h1747q => ?_)
    clear h1745q a1744q
    refine WL.block (c := 2) (m' := 17) h1747q rfl [(19, .bool false), (18, .bool false)] (by kernel_rfl) (fun a1748q h1749q => ?_)
    clear h1747q a1746q
    refine WL.skipped (m := 17) h1749q rfl rfl (by kernel_rfl) rfl (fun a1750q h1751q => ?_)
    clear h1749q a1748q
    refine WL.skipped (m := 18) h1751q rfl rfl (by kernel_rfl) rfl (fun a1752q h1753q => ?_)
    clear h1751q a1750q
    refine WL.skipped (m := 19) h1753q rfl rfl (by kernel_rfl) rfl (fun a1754q h1755q => ?_)
    clear h1753q a1752q
    refine WL.block (c := 2) (m' := 22) h1755q rfl [(0, .bool false), (23, .bool false)] (by kernel_rfl) (fun a1756q h1757q => ?_)
    clear h1755q a1754q
    refine WL.done (by kernel_rfl) ?_
    refine wp_ret ?_
    have hS1758q : St b w0 W1632q (M1627q ++ R) (Fs) := hS1639q.drop_
    obtain rfl := Option.some.inj H
    repeat (first | refine then_ret ?_ | refine inBlock_ret ?_ | refine inBlock_go ?_)
    refine body_ret (v := .bool false) h1757q (by kernel_rfl) (by kernel_rfl) ?_
    exact ⟨rfl, hS1758q.shed⟩

/-! ### louver/louverlaw26.PipeNil -/
def louverlaw26qPipeNil.f (p0 : (List Int)) (p1 : Int) : Option (Bool) := bnd1 (pipe_Pipe_Cut_nil.f) fun _ => (bnd1 (louverlaw26qfixed.f) fun r2004q => (if r2004q = true then (bnd1 (pipe_Pipe_Write_nil.f p0) fun r2019q => (if r2019q = 0 then (bnd1 (pipe_Pipe_Read_nil.f p1) fun r2036q => (if (r2036q.length : Int) = 0 then (bnd1 (pipe_Pipe_Len_nil.f) fun r2058q => (if r2058q = 0 then (bnd1 (pipe_Pipe_Room_nil.f) fun r2073q => (if r2073q = 0 then (bnd1 (pipe_Pipe_IsCut_nil.f) fun r2088q => (some r2088q)) else (some false))) else (some false))) else (some false))) else (some false))) else (some false)))
set_option maxHeartbeats 2000000 in
set_option maxRecDepth 100000 in
theorem louverlaw26qPipeNil.calls {b : Nat} {w0 W : World} {R : Frag} {Fs : List Frag} {p0 : (List Int)} {p1 : Int} {v0 : Value} {r0q : Bool} (hp0 : Rds (kInt .u8) b w0 R v0 p0) (H : louverlaw26qPipeNil.f p0 p1 = some r0q) (hS : St b w0 W R (Fs)) :
    Calls Try.prog 5 ([v0, .int .i64 p1] : List Value).toArray W (fun e W' => e = .returned (.bool r0q) ∧ St b w0 W' R (Fs)) := by
  obtain ⟨A0, c0, rfl⟩ := hp0.form
  unfold louverlaw26qPipeNil.f at H
  refine calls_enter Try.func5 rfl 36 rfl (by kernel_rfl) (fun a h => ?_)
  refine wp_seq ?_
  refine WL.start ?_
  refine WL.block (c := 1) (m' := 1) h rfl [(4, .bool false)] (by kernel_rfl) (fun a1990q h1991q => ?_)
  refine WL.done (by kernel_rfl) ?_
  refine wp_seq ?_
  refine WL.start ?_
  refine WL.block (c := 1) (m' := 1) h1991q rfl [(5, .pointer none)] (by kernel_rfl) (fun a1992q h1993q => ?_)
  clear h1991q a1990q
  refine WL.done (by kernel_rfl) ?_
  refine wp_seq ?_
  refine WL.start ?_
  refine WL.block (c := 1) (m' := 1) h1993q rfl [(6, .pointer none)] (by kernel_rfl) (fun a1994q h1995q => ?_)
  clear h1993q a1992q
  obtain ⟨_, A1996q, H⟩ := bind1 H
  refine WL.op' (m := 1) h1995q rfl rfl ?_
  refine owp_call [.pointer none] h1995q rfl (by kernel_rfl) rfl Try.func11 (by kernel_rfl) rfl (by kernel_rfl) (pipe_Pipe_Cut_nil.calls  A1996q hS) (fun e1998q W1997q hp1999q => ?_)
  obtain ⟨rfl, hS2002q⟩ := hp1999q
  refine ⟨_, rfl, fun a2000q h2001q => ?_⟩
  clear h1995q a1994q
  refine WL.done (by kernel_rfl) ?_
  refine wp_seq ?_
  refine WL.start ?_
  obtain ⟨r2004q, A2003q, H⟩ := bind1 H
  refine WL.op' (m := 0) h2001q rfl rfl ?_
  refine owp_call [] h2001q rfl (by kernel_rfl) rfl Try.func6 (by kernel_rfl) rfl (by kernel_rfl) (louverlaw26qfixed.calls  A2003q hS2002q) (fun e2006q W2005q hp2007q => ?_)
  obtain ⟨rfl, hS2010q⟩ := hp2007q
  refine ⟨_, rfl, fun a2008q h2009q => ?_⟩
  clear h2001q a2000q
  refine WL.block (c := 1) (m' := 2) h2009q rfl [(9, .bool r2004q)] (by kernel_rfl) (fun a2011q h2012q => ?_)
  clear h2009q a2008q
  by_cases c2013q : r2004q = true
  · rw [if_pos c2013q] at H
    have hb_ : r2004q = true := c2013q
    try rw [hb_] at h2012q
    clear hb_
    refine WL.op' (m := 2) h2012q rfl rfl (owp_run h2012q rfl (by kernel_rfl) (v := .pointer none) (by kernel_rfl) (fun a2014q h2015q => ?_))
    clear h2012q a2011q
    refine WL.op' (m := 3) h2015q rfl rfl (owp_run h2015q rfl (by kernel_rfl) (v := .slice A0 p0.length c0) (by kernel_rfl) (fun a2016q h2017q => ?_))
    clear h2015q a2014q
    obtain ⟨r2019q, A2018q, H⟩ := bind1 H
    refine WL.op' (m := 4) h2017q rfl rfl ?_
    refine owp_call [.pointer none, .slice A0 p0.length c0] h2017q rfl (by kernel_rfl) rfl Try.func8 (by kernel_rfl) rfl (by kernel_rfl) (pipe_Pipe_Write_nil.calls hp0 A2018q hS2010q) (fun e2021q W2020q hp2022q => ?_)
    obtain ⟨rfl, hS2025q⟩ := hp2022q
    refine ⟨_, rfl, fun a2023q h2024q => ?_⟩
    clear h2017q a2016q
    refine WL.op' (m := 5) h2024q rfl rfl (owp_run h2024q rfl (by kernel_rfl) (v := .bool (decide (r2019q = 0))) (by kernel_rfl) (fun a2026q h2027q => ?_))
    clear h2024q a2023q
    refine WL.block (c := 2) (m' := 8) h2027q rfl [(15, .bool (decide (r2019q = 0))), (14, .bool (decide (r2019q = 0)))] (by kernel_rfl) (fun a2028q h2029q => ?_)
    clear h2027q a2026q
    by_cases c2030q : r2019q = 0
    · rw [if_pos c2030q] at H
      have hb_ : (decide (r2019q = 0)) = true := decide_eq_true c2030q
      try rw [hb_] at h2029q
      clear hb_
      refine WL.op' (m := 8) h2029q rfl rfl (owp_run h2029q rfl (by kernel_rfl) (v := .pointer none) (by kernel_rfl) (fun a2031q h2032q => ?_))
      clear h2029q a2028q
      refine WL.op' (m := 9) h2032q rfl rfl (owp_run h2032q rfl (by kernel_rfl) (v := .int .i64 p1) (by kernel_rfl) (fun a2033q h2034q => ?_))
      clear h2032q a2031q
      obtain ⟨r2036q, A2035q, H⟩ := bind1 H
      refine WL.op' (m := 10) h2034q rfl rfl ?_
      refine owp_call [.pointer none, .int .i64 p1] h2034q rfl (by kernel_rfl) rfl Try.func9 (by kernel_rfl) rfl (by kernel_rfl) (pipe_Pipe_Read_nil.calls  A2035q hS2025q) (fun e2038q W2037q hp2039q => ?_)
      obtain ⟨v2042q, M2043q, rfl, hr2044q, hS2045q⟩ := hp2039q
      refine ⟨_, rfl, fun a2040q h2041q => ?_⟩
      clear h2034q a2033q
      obtain ⟨A2046q, c2047q, rfl⟩ := hr2044q.form
      refine WL.op' (m := 11) h2041q rfl rfl (owp_run h2041q rfl (by kernel_rfl) (v := .int .i64 (r2036q.length : Int)) (by kernel_rfl) (fun a2048q h2049q => ?_))
      clear h2041q a2040q
      refine WL.op' (m := 12) h2049q rfl rfl (owp_run h2049q rfl (by kernel_rfl) (v := .bool (decide ((r2036q.length : Int) = 0))) (by kernel_rfl) (fun a2050q h2051q => ?_))
      clear h2049q a2048q
      refine WL.block (c := 2) (m' := 15) h2051q rfl [(22, .bool (decide ((r2036q.length : Int) = 0))), (21, .bool (decide ((r2036q.length : Int) = 0)))] (by kernel_rfl) (fun a2052q h2053q => ?_)
      clear h2051q a2050q
      by_cases c2054q : (r2036q.length : Int) = 0
      · rw [if_pos c2054q] at H
        have hb_ : (decide ((r2036q.length : Int) = 0)) = true := decide_eq_true c2054q
        try rw [hb_] at h2053q
        clear hb_
        refine WL.op' (m := 15) h2053q rfl rfl (owp_run h2053q rfl (by kernel_rfl) (v := .pointer none) (by kernel_rfl) (fun a2055q h2056q => ?_))
        clear h2053q a2052q
        obtain ⟨r2058q, A2057q, H⟩ := bind1 H
        refine WL.op' (m := 16) h2056q rfl rfl ?_
        refine owp_call [.pointer none] h2056q rfl (by kernel_rfl) rfl Try.func10 (by kernel_rfl) rfl (by kernel_rfl) (pipe_Pipe_Len_nil.calls  A2057q hS2045q) (fun e2060q W2059q hp2061q => ?_)
        obtain ⟨rfl, hS2064q⟩ := hp2061q
        refine ⟨_, rfl, fun a2062q h2063q => ?_⟩
        clear h2056q a2055q
        refine WL.op' (m := 17) h2063q rfl rfl (owp_run h2063q rfl (by kernel_rfl) (v := .bool (decide (r2058q = 0))) (by kernel_rfl) (fun a2065q h2066q => ?_))
        clear h2063q a2062q
        refine WL.block (c := 2) (m' := 20) h2066q rfl [(27, .bool (decide (r2058q = 0))), (26, .bool (decide (r2058q = 0)))] (by kernel_rfl) (fun a2067q h2068q => ?_)
        clear h2066q a2065q
        by_cases c2069q : r2058q = 0
        · rw [if_pos c2069q] at H
          have hb_ : (decide (r2058q = 0)) = true := decide_eq_true c2069q
          try rw [hb_] at h2068q
          clear hb_
          refine WL.op' (m := 20) h2068q rfl rfl (owp_run h2068q rfl (by kernel_rfl) (v := .pointer none) (by kernel_rfl) (fun a2070q h2071q => ?_))
          clear h2068q a2067q
          obtain ⟨r2073q, A2072q, H⟩ := bind1 H
          refine WL.op' (m := 21) h2071q rfl rfl ?_
          refine owp_call [.pointer none] h2071q rfl (by kernel_rfl) rfl Try.func12 (by kernel_rfl) rfl (by kernel_rfl) (pipe_Pipe_Room_nil.calls  A2072q hS2064q) (fun e2075q W2074q hp2076q => ?_)
          obtain ⟨rfl, hS2079q⟩ := hp2076q
          refine ⟨_, rfl, fun a2077q h2078q => ?_⟩
          clear h2071q a2070q
          refine WL.op' (m := 22) h2078q rfl rfl (owp_run h2078q rfl (by kernel_rfl) (v := .bool (decide (r2073q = 0))) (by kernel_rfl) (fun a2080q h2081q => ?_))
          clear h2078q a2077q
          refine WL.block (c := 2) (m' := 25) h2081q rfl [(32, .bool (decide (r2073q = 0))), (31, .bool (decide (r2073q = 0)))] (by kernel_rfl) (fun a2082q h2083q => ?_)
          clear h2081q a2080q
          by_cases c2084q : r2073q = 0
          · rw [if_pos c2084q] at H
            have hb_ : (decide (r2073q = 0)) = true := decide_eq_true c2084q
            try rw [hb_] at h2083q
            clear hb_
            refine WL.op' (m := 25) h2083q rfl rfl (owp_run h2083q rfl (by kernel_rfl) (v := .pointer none) (by kernel_rfl) (fun a2085q h2086q => ?_))
            clear h2083q a2082q
            obtain ⟨r2088q, A2087q, H⟩ := bind1 H
            refine WL.op' (m := 26) h2086q rfl rfl ?_
            refine owp_call [.pointer none] h2086q rfl (by kernel_rfl) rfl Try.func13 (by kernel_rfl) rfl (by kernel_rfl) (pipe_Pipe_IsCut_nil.calls  A2087q hS2079q) (fun e2090q W2089q hp2091q => ?_)
            obtain ⟨rfl, hS2094q⟩ := hp2091q
            refine ⟨_, rfl, fun a2092q h2093q => ?_⟩
            clear h2086q a2085q
            refine WL.block (c := 2) (m' := 29) h2093q rfl [(4, .bool r2088q), (35, .bool r2088q)] (by kernel_rfl) (fun a2095q h2096q => ?_)
            clear h2093q a2092q
            refine WL.done (by kernel_rfl) ?_
            refine wp_ret ?_
            have hS2097q : St b w0 W2089q R (Fs) := hS2094q.drop_
            obtain rfl := Option.some.inj H
            repeat (first | refine then_ret ?_ | refine inBlock_ret ?_ | refine inBlock_go ?_)
            refine body_ret (v := .bool r2088q) h2096q (by kernel_rfl) (by kernel_rfl) ?_
            exact ⟨rfl, hS2097q⟩
          · rw [if_neg c2084q] at H
            have hb_ : (decide (r2073q = 0)) = false := decide_eq_false c2084q
            try rw [hb_] at h2083q
            clear hb_
            refine WL.skipped (m := 25) h2083q rfl rfl (by kernel_rfl) rfl (fun a2098q h2099q => ?_)
            clear h2083q a2082q
            refine WL.skipped (m := 26) h2099q rfl rfl (by kernel_rfl) rfl (fun a2100q h2101q => ?_)
            clear h2099q a2098q
            refine WL.block (c := 2) (m' := 29) h2101q rfl [(4, .bool false), (35, .bool false)] (by kernel_rfl) (fun a2102q h2103q => ?_)
            clear h2101q a2100q
            refine WL.done (by kernel_rfl) ?_
            refine wp_ret ?_
            have hS2104q : St b w0 W2074q R (Fs) := hS2079q.drop_
            obtain rfl := Option.some.inj H
            repeat (first | refine then_ret ?_ | refine inBlock_ret ?_ | refine inBlock_go ?_)
            refine body_ret (v := .bool false) h2103q (by kernel_rfl) (by kernel_rfl) ?_
            exact ⟨rfl, hS2104q⟩
        · rw [if_neg c2069q] at H
          have hb_ : (decide (r2058q = 0)) = false := decide_eq_false c2069q
          try rw [hb_] at h2068q
          clear hb_
          refine WL.skipped (m := 20) h2068q rfl rfl (by kernel_rfl) rfl (fun a2105q h2106q => ?_)
          clear h2068q a2067q
          refine WL.skipped (m := 21) h2106q rfl rfl (by kernel_rfl) rfl (fun a2107q h2108q => ?_)
          clear h2106q a2105q
          refine WL.skipped (m := 22) h2108q rfl rfl (by kernel_rfl) rfl (fun a2109q h2110q => ?_)
          clear h2108q a2107q
          refine WL.block (c := 2) (m' := 25) h2110q rfl [(32, .bool false), (31, .bool false)] (by kernel_rfl) (fun a2111q h2112q => ?_)
          clear h2110q a2109q
          refine WL.skipped (m := 25) h2112q rfl rfl (by kernel_rfl) rfl (fun a2113q h2114q => ?_)
          clear h2112q a2111q
          refine WL.skipped (m := 26) h2114q rfl rfl (by kernel_rfl) rfl (fun a2115q h2116q => ?_)
          clear h2114q a2113q
          refine WL.block (c := 2) (m' := 29) h2116q rfl [(4, .bool false), (35, .bool false)] (by kernel_rfl) (fun a2117q h2118q => ?_)
          clear h2116q a2115q
          refine WL.done (by kernel_rfl) ?_
          refine wp_ret ?_
          have hS2119q : St b w0 W2059q R (Fs) := hS2064q.drop_
          obtain rfl := Option.some.inj H
          repeat (first | refine then_ret ?_ | refine inBlock_ret ?_ | refine inBlock_go ?_)
          refine body_ret (v := .bool false) h2118q (by kernel_rfl) (by kernel_rfl) ?_
          exact ⟨rfl, hS2119q⟩
      · rw [if_neg c2054q] at H
        have hb_ : (decide ((r2036q.length : Int) = 0)) = false := decide_eq_false c2054q
        try rw [hb_] at h2053q
        clear hb_
        refine WL.skipped (m := 15) h2053q rfl rfl (by kernel_rfl) rfl (fun a2120q h2121q => ?_)
        clear h2053q a2052q
        refine WL.skipped (m := 16) h2121q rfl rfl (by kernel_rfl) rfl (fun a2122q h2123q => ?_)
        clear h2121q a2120q
        refine WL.skipped (m := 17) h2123q rfl rfl (by kernel_rfl) rfl (fun a2124q h2125q => ?_)
        clear h2123q a2122q
        refine WL.block (c := 2) (m' := 20) h2125q rfl [(27, .bool false), (26, .bool false)] (by kernel_rfl) (fun a2126q h2127q => ?_)
        clear h2125q a2124q
        refine WL.skipped (m := 20) h2127q rfl rfl (by kernel_rfl) rfl (fun a2128q h2129q => ?_)
        clear h2127q a2126q
        refine WL.skipped (m := 21) h2129q rfl rfl (by kernel_rfl) rfl (fun a2130q h2131q => ?_)
        clear h2129q a2128q
        refine WL.skipped (m := 22) h2131q rfl rfl (by kernel_rfl) rfl (fun a2132q h2133q => ?_)
        clear h2131q a2130q
        refine WL.block (c := 2) (m' := 25) h2133q rfl [(32, .bool false), (31, .bool false)] (by kernel_rfl) (fun a2134q h2135q => ?_)
        clear h2133q a2132q
        refine WL.skipped (m := 25) h2135q rfl rfl (by kernel_rfl) rfl (fun a2136q h2137q => ?_)
        clear h2135q a2134q
        refine WL.skipped (m := 26) h2137q rfl rfl (by kernel_rfl) rfl (fun a2138q h2139q => ?_)
        clear h2137q a2136q
        refine WL.block (c := 2) (m' := 29) h2139q rfl [(4, .bool false), (35, .bool false)] (by kernel_rfl) (fun a2140q h2141q => ?_)
        clear h2139q a2138q
        refine WL.done (by kernel_rfl) ?_
        refine wp_ret ?_
        have hS2142q : St b w0 W2037q R (Fs) := hS2045q.drop_
        obtain rfl := Option.some.inj H
        repeat (first | refine then_ret ?_ | refine inBlock_ret ?_ | refine inBlock_go ?_)
        refine body_ret (v := .bool false) h2141q (by kernel_rfl) (by kernel_rfl) ?_
        exact ⟨rfl, hS2142q⟩
    · rw [if_neg c2030q] at H
      have hb_ : (decide (r2019q = 0)) = false := decide_eq_false c2030q
      try rw [hb_] at h2029q
      clear hb_
      refine WL.skipped (m := 8) h2029q rfl rfl (by kernel_rfl) rfl (fun a2143q h2144q => ?_)
      clear h2029q a2028q
      refine WL.skipped (m := 9) h2144q rfl rfl (by kernel_rfl) rfl (fun a2145q h2146q => ?_)
      clear h2144q a2143q
      refine WL.skipped (m := 10) h2146q rfl rfl (by kernel_rfl) rfl (fun a2147q h2148q => ?_)
      clear h2146q a2145q
      refine WL.skipped (m := 11) h2148q rfl rfl (by kernel_rfl) rfl (fun a2149q h2150q => ?_)
      clear h2148q a2147q
      refine WL.skipped (m := 12) h2150q rfl rfl (by kernel_rfl) rfl (fun a2151q h2152q => ?_)
      clear h2150q a2149q
      refine WL.block (c := 2) (m' := 15) h2152q rfl [(22, .bool false), (21, .bool false)] (by kernel_rfl) (fun a2153q h2154q => ?_)
      clear h2152q a2151q
      refine WL.skipped (m := 15) h2154q rfl rfl (by kernel_rfl) rfl (fun a2155q h2156q => ?_)
      clear h2154q a2153q
      refine WL.skipped (m := 16) h2156q rfl rfl (by kernel_rfl) rfl (fun a2157q h2158q => ?_)
      clear h2156q a2155q
      refine WL.skipped (m := 17) h2158q rfl rfl (by kernel_rfl) rfl (fun a2159q h2160q => ?_)
      clear h2158q a2157q
      refine WL.block (c := 2) (m' := 20) h2160q rfl [(27, .bool false), (26, .bool false)] (by kernel_rfl) (fun a2161q h2162q => ?_)
      clear h2160q a2159q
      refine WL.skipped (m := 20) h2162q rfl rfl (by kernel_rfl) rfl (fun a2163q h2164q => ?_)
      clear h2162q a2161q
      refine WL.skipped (m := 21) h2164q rfl rfl (by kernel_rfl) rfl (fun a2165q h2166q => ?_)
      clear h2164q a2163q
      refine WL.skipped (m := 22) h2166q rfl rfl (by kernel_rfl) rfl (fun a2167q h2168q => ?_)
      clear h2166q a2165q
      refine WL.block (c := 2) (m' := 25) h2168q rfl [(32, .bool false), (31, .bool false)] (by kernel_rfl) (fun a2169q h2170q => ?_)
      clear h2168q a2167q
      refine WL.skipped (m := 25) h2170q rfl rfl (by kernel_rfl) rfl (fun a2171q h2172q => ?_)
      clear h2170q a2169q
      refine WL.skipped (m := 26) h2172q rfl rfl (by kernel_rfl) rfl (fun a2173q h2174q => ?_)
      clear h2172q a2171q
      refine WL.block (c := 2) (m' := 29) h2174q rfl [(4, .bool false), (35, .bool false)] (by kernel_rfl) (fun a2175q h2176q => ?_)
      clear h2174q a2173q
      refine WL.done (by kernel_rfl) ?_
      refine wp_ret ?_
      obtain rfl := Option.some.inj H
      repeat (first | refine then_ret ?_ | refine inBlock_ret ?_ | refine inBlock_go ?_)
      refine body_ret (v := .bool false) h2176q (by kernel_rfl) (by kernel_rfl) ?_
      exact ⟨rfl, hS2025q⟩
  · rw [if_neg c2013q] at H
    have hb_ : r2004q = false := (Bool.eq_false_iff.2 c2013q)
    try rw [hb_] at h2012q
    clear hb_
    refine WL.skipped (m := 2) h2012q rfl rfl (by kernel_rfl) rfl (fun a2177q h2178q => ?_)
    clear h2012q a2011q
    refine WL.skipped (m := 3) h2178q rfl rfl (by kernel_rfl) rfl (fun a2179q h2180q => ?_)
    clear h2178q a2177q
    refine WL.skipped (m := 4) h2180q rfl rfl (by kernel_rfl) rfl (fun a2181q h2182q => ?_)
    clear h2180q a2179q
    refine WL.skipped (m := 5) h2182q rfl rfl (by kernel_rfl) rfl (fun a2183q h2184q => ?_)
    clear h2182q a2181q
    refine WL.block (c := 2) (m' := 8) h2184q rfl [(15, .bool false), (14, .bool false)] (by kernel_rfl) (fun a2185q h2186q => ?_)
    clear h2184q a2183q
    refine WL.skipped (m := 8) h2186q rfl rfl (by kernel_rfl) rfl (fun a2187q h2188q => ?_)
    clear h2186q a2185q
    refine WL.skipped (m := 9) h2188q rfl rfl (by kernel_rfl) rfl (fun a2189q h2190q => ?_)
    clear h2188q a2187q
    refine WL.skipped (m := 10) h2190q rfl rfl (by kernel_rfl) rfl (fun a2191q h2192q => ?_)
    clear h2190q a2189q
    refine WL.skipped (m := 11) h2192q rfl rfl (by kernel_rfl) rfl (fun a2193q h2194q => ?_)
    clear h2192q a2191q
    refine WL.skipped (m := 12) h2194q rfl rfl (by kernel_rfl) rfl (fun a2195q h2196q => ?_)
    clear h2194q a2193q
    refine WL.block (c := 2) (m' := 15) h2196q rfl [(22, .bool false), (21, .bool false)] (by kernel_rfl) (fun a2197q h2198q => ?_)
    clear h2196q a2195q
    refine WL.skipped (m := 15) h2198q rfl rfl (by kernel_rfl) rfl (fun a2199q h2200q => ?_)
    clear h2198q a2197q
    refine WL.skipped (m := 16) h2200q rfl rfl (by kernel_rfl) rfl (fun a2201q h2202q => ?_)
    clear h2200q a2199q
    refine WL.skipped (m := 17) h2202q rfl rfl (by kernel_rfl) rfl (fun a2203q h2204q => ?_)
    clear h2202q a2201q
    refine WL.block (c := 2) (m' := 20) h2204q rfl [(27, .bool false), (26, .bool false)] (by kernel_rfl) (fun a2205q h2206q => ?_)
    clear h2204q a2203q
    refine WL.skipped (m := 20) h2206q rfl rfl (by kernel_rfl) rfl (fun a2207q h2208q => ?_)
    clear h2206q a2205q
    refine WL.skipped (m := 21) h2208q rfl rfl (by kernel_rfl) rfl (fun a2209q h2210q => ?_)
    clear h2208q a2207q
    refine WL.skipped (m := 22) h2210q rfl rfl (by kernel_rfl) rfl (fun a2211q h2212q => ?_)
    clear h2210q a2209q
    refine WL.block (c := 2) (m' := 25) h2212q rfl [(32, .bool false), (31, .bool false)] (by kernel_rfl) (fun a2213q h2214q => ?_)
    clear h2212q a2211q
    refine WL.skipped (m := 25) h2214q rfl rfl (by kernel_rfl) rfl (fun a2215q h2216q => ?_)
    clear h2214q a2213q
    refine WL.skipped (m := 26) h2216q rfl rfl (by kernel_rfl) rfl (fun a2217q h2218q => ?_)
    clear h2216q a2215q
    refine WL.block (c := 2) (m' := 29) h2218q rfl [(4, .bool false), (35, .bool false)] (by kernel_rfl) (fun a2219q h2220q => ?_)
    clear h2218q a2217q
    refine WL.done (by kernel_rfl) ?_
    refine wp_ret ?_
    obtain rfl := Option.some.inj H
    repeat (first | refine then_ret ?_ | refine inBlock_ret ?_ | refine inBlock_go ?_)
    refine body_ret (v := .bool false) h2220q (by kernel_rfl) (by kernel_rfl) ?_
    exact ⟨rfl, hS2010q⟩

structure S32 where
  f0 : Int
  f1 : (List Int)
  f2 : Int
  deriving DecidableEq
def z32 : S32 := ⟨(0 : Int), [], (0 : Int)⟩
def k32 : Kd S32 := kIso (kPair (kInt .i64) (kPair (kRds (kInt .u8)) (kInt .i64))) (fun x : S32 => (x.f0, (x.f1, x.f2)))
theorem k32qflat : k32.Flat := kIso_flat (kPair_flat (kInt_flat _) (kPair_flat kRds_flat (kInt_flat _)))
theorem k32qrd {b : Nat} {w0 : World} {R : Frag} {x : S32} {cs : List Value} (h : k32.rd b w0 R x cs) : ∃ (vf1 : Value), cs = [.int .i64 x.f0, vf1, .int .i64 x.f2] ∧ Rds (kInt .u8) b w0 R vf1 x.f1 := by
  obtain ⟨c2221q, c2222q, rfl, h2223q, h2224q⟩ := h
  obtain ⟨c2225q, c2226q, rfl, h2227q, h2228q⟩ := h2224q
  obtain rfl := h2223q
  obtain ⟨v2229q, rfl, g2230q⟩ := h2227q
  obtain rfl := h2228q
  exact ⟨v2229q, rfl, g2230q⟩
theorem k32qrep {b : Nat} {w0 : World} {R : Frag} {x : S32} {cs : List Value} {M : Frag} (h : k32.rep b w0 R x cs M) : ∃ (vf1 : Value), cs = [.int .i64 x.f0, vf1, .int .i64 x.f2] ∧ M = [] ∧ Rds (kInt .u8) b w0 R vf1 x.f1 := by
  obtain ⟨c2231q, c2232q, M2235q, M2236q, rfl, rfl, h2233q, h2234q⟩ := h
  obtain ⟨c2237q, c2238q, M2241q, M2242q, rfl, rfl, h2239q, h2240q⟩ := h2234q
  obtain ⟨rfl, rfl⟩ := h2233q
  obtain ⟨⟨v2243q, rfl, g2244q⟩, rfl⟩ := h2239q
  obtain ⟨rfl, rfl⟩ := h2240q
  exact ⟨v2243q, rfl, by simp, g2244q⟩
theorem k32qno {b : Nat} {w0 : World} {R : Frag} {x : S32} {cs : List Value} {M : Frag} (h : k32.rep b w0 R x cs M) : M = [] := by
  obtain ⟨_, _, hM_, _⟩ := k32qrep h
  exact hM_
theorem k32qmk {b : Nat} {w0 : World} {R : Frag} {x : S32} {vf1 : Value} (gvf1 : Rds (kInt .u8) b w0 R vf1 x.f1) : ∃ M, k32.rep b w0 R x [.int .i64 x.f0, vf1, .int .i64 x.f2] M ∧ M = [] := ⟨_, ⟨_, _, _, _, rfl, rfl, ⟨rfl, rfl⟩, ⟨_, _, _, _, rfl, rfl, ⟨⟨vf1, rfl, gvf1⟩, rfl⟩, ⟨rfl, rfl⟩⟩⟩, by simp⟩
/-! ### louver/louverlaw26.PipePlays -/
mutual
def louverlaw26qPipePlays.j0 : Nat → Int → Int → (List S32) → Option (Bool)
  | 0, _, _, _ => none
  | k + 1, x5914q, p0, p1 => if x5914q > 1048576 then (louverlaw26qPipePlays.j1 k 1048576 p0 p1) else (louverlaw26qPipePlays.j1 k x5914q p0 p1)
def louverlaw26qPipePlays.j1 : Nat → Int → Int → (List S32) → Option (Bool)
  | 0, _, _, _ => none
  | k + 1, x5929q, p0, p1 => bnd1 (pipe_New.f p0) fun r5937q => (louverlaw26qPipePlays.l2 k r5937q ([] : List UInt8) ([] : List UInt8) ([] : List UInt8) false 0 p1 x5929q)
def louverlaw26qPipePlays.l2 : Nat → S36 → (List UInt8) → (List UInt8) → (List UInt8) → Bool → Int → (List S32) → Int → Option (Bool)
  | 0, _, _, _, _, _, _, _, _ => none
  | k + 1, x5960q, x5963q, x5964q, x5965q, x5966q, x5967q, p1, x5929q => if x5967q < (p1.length : Int) then (if 0 ≤ x5967q then (if (((gt z32 p1 x5967q).f1).length : Int) > 3000 then (bnd1 (louverlaw26qfixed.f) fun r6007q => (some r6007q)) else (if ((gt z32 p1 x5967q).f0) = 0 then (if x5966q = true then (louverlaw26qPipePlays.j4 k true 0 p1 x5929q x5960q x5963q x5964q x5965q x5967q) else (louverlaw26qPipePlays.j4 k false (mnI (((gt z32 p1 x5967q).f1).length : Int) (IntKind.i64.wrap (x5929q - (x5963q.length : Int)))) p1 x5929q x5960q x5963q x5964q x5965q x5967q)) else (if ((gt z32 p1 x5967q).f0) = 1 then (bnd2 (pipe_Pipe_Read.f x5960q ((gt z32 p1 x5967q).f2)) fun r6445q r6446q => (if 0 ≤ (mnI (x5963q.length : Int) (mxI 1 ((gt z32 p1 x5967q).f2))) then (if (mnI (x5963q.length : Int) (mxI 1 ((gt z32 p1 x5967q).f2))) ≤ (x5963q.length : Int) then (if (toS r6445q) = (x5963q.take (mnI (x5963q.length : Int) (mxI 1 ((gt z32 p1 x5967q).f2))).toNat) then (if x5964q.length + (toS r6445q).length ≤ 9223372036854775807 then (lt1 (List.replicate r6445q.length (0 : Int) : List Int) fun y6523q => (louverlaw26qPipePlays.j3 k r6446q (x5963q.drop (mnI (x5963q.length : Int) (mxI 1 ((gt z32 p1 x5967q).f2))).toNat) (x5964q ++ (toS r6445q)) x5965q x5966q x5929q p1 x5967q)) else (none)) else (some false)) else (none)) else (none))) else (bnd1 (pipe_Pipe_Cut.f x5960q) fun r6546q => (louverlaw26qPipePlays.j3 k r6546q ([] : List UInt8) x5964q x5965q true x5929q p1 x5967q))))) else (none)) else (bnd1 (louverlaw26qfixed.f) fun r6803q => (some r6803q))
def louverlaw26qPipePlays.j3 : Nat → S36 → (List UInt8) → (List UInt8) → (List UInt8) → Bool → Int → (List S32) → Int → Option (Bool)
  | 0, _, _, _, _, _, _, _, _ => none
  | k + 1, x6287q, x6290q, x6291q, x6292q, x6293q, x5929q, p1, x5967q => if x6293q = true then (louverlaw26qPipePlays.j5 k true 0 p1 x5929q x5967q x6287q x6290q x6291q x6292q) else (louverlaw26qPipePlays.j5 k false (IntKind.i64.wrap (x5929q - (x6290q.length : Int))) p1 x5929q x5967q x6287q x6290q x6291q x6292q)
def louverlaw26qPipePlays.j4 : Nat → Bool → Int → (List S32) → Int → S36 → (List UInt8) → (List UInt8) → (List UInt8) → Int → Option (Bool)
  | 0, _, _, _, _, _, _, _, _, _ => none
  | k + 1, x6313q, x6314q, p1, x5929q, x5960q, x5963q, x5964q, x5965q, x5967q => if ([] : List Int).length + ((gt z32 p1 x5967q).f1).length ≤ 140737488355328 then (lt1 (([] : List Int) ++ ((gt z32 p1 x5967q).f1) : List Int) fun y6341q => (bnd2 (pipe_Pipe_Write.f x5960q y6341q) fun r6353q r6354q => (if r6353q = x6314q then (lt1 (List.replicate y6341q.length (0 : Int) : List Int) fun y6375q => (if 0 ≤ x6314q then (if x6314q ≤ (((gt z32 p1 x5967q).f1).length : Int) then (if x5963q.length + (toS (((gt z32 p1 x5967q).f1).take x6314q.toNat)).length ≤ 9223372036854775807 then (if x5965q.length + (toS (((gt z32 p1 x5967q).f1).take x6314q.toNat)).length ≤ 9223372036854775807 then (louverlaw26qPipePlays.j3 k r6354q (x5963q ++ (toS (((gt z32 p1 x5967q).f1).take x6314q.toNat))) x5964q (x5965q ++ (toS (((gt z32 p1 x5967q).f1).take x6314q.toNat))) x6313q x5929q p1 x5967q) else (none)) else (none)) else (none)) else (none))) else (some false)))) else (none)
def louverlaw26qPipePlays.j5 : Nat → Bool → Int → (List S32) → Int → Int → S36 → (List UInt8) → (List UInt8) → (List UInt8) → Option (Bool)
  | 0, _, _, _, _, _, _, _, _, _ => none
  | k + 1, x6574q, x6575q, p1, x5929q, x5967q, x6287q, x6290q, x6291q, x6292q => bnd1 (pipe_Pipe_Len.f x6287q) fun r6583q => (if r6583q = (x6290q.length : Int) then (bnd1 (pipe_Pipe_Room.f x6287q) fun r6598q => (if r6598q = x6575q then (bnd1 (pipe_Pipe_IsCut.f x6287q) fun r6617q => (if (r6617q != x6574q) = true then (some false) else (if (x6291q.length : Int) > (x6292q.length : Int) then (some false) else (if 0 ≤ (x6291q.length : Int) then (if (x6291q.length : Int) ≤ (x6292q.length : Int) then (if (x6292q.take (x6291q.length : Int).toNat) = x6291q then (louverlaw26qPipePlays.l2 k x6287q x6290q x6291q x6292q x6574q (IntKind.i64.wrap (x5967q + 1)) p1 x5929q) else (some false)) else (none)) else (none))))) else (some false))) else (some false))
end
def louverlaw26qPipePlays.f (k : Nat) (p0 : Int) (p1 : (List S32)) : Option (Bool) := if (p1.length : Int) > 300 then (bnd1 (louverlaw26qfixed.f) fun r5893q => (some r5893q)) else (if p0 < 1 then (louverlaw26qPipePlays.j0 k 1 p0 p1) else (louverlaw26qPipePlays.j0 k p0 p0 p1))
set_option maxHeartbeats 2000000 in
set_option maxRecDepth 100000 in
theorem louverlaw26qPipePlays.calls (k : Nat) {b : Nat} {w0 W : World} {R : Frag} {Fs : List Frag} {p0 : Int} {p1 : (List S32)} {v1 : Value} {r0q : Bool} (hp1 : Rds k32 b w0 R v1 p1) (H : louverlaw26qPipePlays.f k p0 p1 = some r0q) (hS : St b w0 W R (Fs)) :
    Calls Try.prog 4 ([.int .i64 p0, v1] : List Value).toArray W (fun e W' => e = .returned (.bool r0q) ∧ St b w0 W' R (Fs)) := by
  obtain ⟨A1, c1, rfl⟩ := hp1.form
  unfold louverlaw26qPipePlays.f at H
  refine calls_enter Try.func4 rfl 144 rfl (by kernel_rfl) (fun a h => ?_)
  refine wp_seq ?_
  refine WL.start ?_
  refine WL.block (c := 1) (m' := 1) h rfl [(4, .bool false)] (by kernel_rfl) (fun a5887q h5888q => ?_)
  refine WL.done (by kernel_rfl) ?_
  refine wp_seq ?_
  refine wp_seq ?_
  refine WL.start ?_
  refine WL.block (c := 3) (m' := 3) h5888q rfl [(20, .bool (decide ((p1.length : Int) > 300))), (19, .int .i64 (p1.length : Int)), (18, .slice A1 p1.length c1)] (by kernel_rfl) (fun a5889q h5890q => ?_)
  clear h5888q a5887q
  refine WL.done (by kernel_rfl) ?_
  by_cases c5891q : (p1.length : Int) > 300
  · rw [if_pos c5891q] at H
    have hb_ : (decide ((p1.length : Int) > 300)) = true := decide_eq_true c5891q
    try rw [hb_] at h5890q
    clear hb_
    refine wp_then h5890q rfl ?_
    refine wp_seq ?_
    refine WL.start ?_
    obtain ⟨r5893q, A5892q, H⟩ := bind1 H
    refine WL.op' (m := 0) h5890q rfl rfl ?_
    refine owp_call [] h5890q rfl (by kernel_rfl) rfl Try.func6 (by kernel_rfl) rfl (by kernel_rfl) (louverlaw26qfixed.calls  A5892q hS) (fun e5895q W5894q hp5896q => ?_)
    obtain ⟨rfl, hS5899q⟩ := hp5896q
    refine ⟨_, rfl, fun a5897q h5898q => ?_⟩
    clear h5890q a5889q
    refine WL.block (c := 1) (m' := 2) h5898q rfl [(4, .bool r5893q)] (by kernel_rfl) (fun a5900q h5901q => ?_)
    clear h5898q a5897q
    refine WL.done (by kernel_rfl) ?_
    refine wp_ret ?_
    obtain rfl := Option.some.inj H
    repeat (first | refine then_ret ?_ | refine inBlock_ret ?_ | refine inBlock_go ?_)
    refine body_ret (v := .bool r5893q) h5901q (by kernel_rfl) (by kernel_rfl) ?_
    exact ⟨rfl, hS5899q⟩
  · rw [if_neg c5891q] at H
    have hb_ : (decide ((p1.length : Int) > 300)) = false := decide_eq_false c5891q
    try rw [hb_] at h5890q
    clear hb_
    refine wp_else h5890q rfl ?_
    refine wp_skip ?_
    refine wp_seq ?_
    refine WL.start ?_
    refine WL.block (c := 2) (m' := 2) h5890q rfl [(5, .int .i64 p0), (22, .int .i64 p0)] (by kernel_rfl) (fun a5902q h5903q => ?_)
    clear h5890q a5889q
    refine WL.done (by kernel_rfl) ?_
    refine wp_seq ?_
    refine wp_seq ?_
    refine WL.start ?_
    refine WL.block (c := 2) (m' := 2) h5903q rfl [(24, .bool (decide (p0 < 1))), (23, .int .i64 p0)] (by kernel_rfl) (fun a5904q h5905q => ?_)
    clear h5903q a5902q
    refine WL.done (by kernel_rfl) ?_
    refine wp_meet (I := fun a_ W_ => ∃ kq_, ∃ (x5914q : Int), Hd a_ 144 [(0, .int .i64 p0), (1, .slice A1 p1.length c1), (5, .int .i64 x5914q)] ∧ Asd (louverlaw26qPipePlays.j0 kq_ x5914q p0 p1 = some r0q) ∧ Asd (kq_ ≤ k) ∧ Asd (St b w0 W_ R (Fs))) ?_ ?_
    · by_cases c5915q : p0 < 1
      · rw [if_pos c5915q] at H
        have hb_ : (decide (p0 < 1)) = true := decide_eq_true c5915q
        try rw [hb_] at h5905q
        clear hb_
        refine wp_then h5905q rfl ?_
        refine WL.start ?_
        refine WL.block (c := 1) (m' := 1) h5905q rfl [(5, .int .i64 1)] (by kernel_rfl) (fun a5916q h5917q => ?_)
        clear h5905q a5904q
        refine WL.done (by kernel_rfl) ?_
        exact ⟨k, 1, h5917q.keep ⟨rfl, rfl, rfl, trivial⟩, ⟨H⟩, ⟨by omega⟩, ⟨hS⟩⟩
      · rw [if_neg c5915q] at H
        have hb_ : (decide (p0 < 1)) = false := decide_eq_false c5915q
        try rw [hb_] at h5905q
        clear hb_
        refine wp_else h5905q rfl ?_
        refine wp_skip ?_
        exact ⟨k, p0, h5905q.keep ⟨rfl, rfl, rfl, trivial⟩, ⟨H⟩, ⟨by omega⟩, ⟨hS⟩⟩
    · clear H hS
      rintro a5910q W5911q ⟨k5913q, x5914q, h5909q, ⟨H⟩, ⟨hkk5913q⟩, ⟨hS5912q⟩⟩
      obtain _ | k5918q := k5913q
      · exact absurd H (by simp [louverlaw26qPipePlays.j0])
      simp only [louverlaw26qPipePlays.j0] at H
      refine wp_seq ?_
      refine wp_seq ?_
      refine WL.start ?_
      refine WL.block (c := 2) (m' := 2) h5909q rfl [(26, .bool (decide (x5914q > 1048576))), (25, .int .i64 x5914q)] (by kernel_rfl) (fun a5919q h5920q => ?_)
      clear h5909q a5910q
      refine WL.done (by kernel_rfl) ?_
      refine wp_meet (I := fun a_ W_ => ∃ kq_, ∃ (x5929q : Int), Hd a_ 144 [(0, .int .i64 p0), (1, .slice A1 p1.length c1), (5, .int .i64 x5929q)] ∧ Asd (louverlaw26qPipePlays.j1 kq_ x5929q p0 p1 = some r0q) ∧ Asd (kq_ ≤ k5918q) ∧ Asd (St b w0 W_ R (Fs))) ?_ ?_
      · by_cases c5930q : x5914q > 1048576
        · rw [if_pos c5930q] at H
          have hb_ : (decide (x5914q > 1048576)) = true := decide_eq_true c5930q
          try rw [hb_] at h5920q
          clear hb_
          refine wp_then h5920q rfl ?_
          refine WL.start ?_
          refine WL.block (c := 1) (m' := 1) h5920q rfl [(5, .int .i64 1048576)] (by kernel_rfl) (fun a5931q h5932q => ?_)
          clear h5920q a5919q
          refine WL.done (by kernel_rfl) ?_
          exact ⟨k5918q, 1048576, h5932q.keep ⟨rfl, rfl, rfl, trivial⟩, ⟨H⟩, ⟨by omega⟩, ⟨hS5912q⟩⟩
        · rw [if_neg c5930q] at H
          have hb_ : (decide (x5914q > 1048576)) = false := decide_eq_false c5930q
          try rw [hb_] at h5920q
          clear hb_
          refine wp_else h5920q rfl ?_
          refine wp_skip ?_
          exact ⟨k5918q, x5914q, h5920q.keep ⟨rfl, rfl, rfl, trivial⟩, ⟨H⟩, ⟨by omega⟩, ⟨hS5912q⟩⟩
      · clear H hS5912q
        rintro a5925q W5926q ⟨k5928q, x5929q, h5924q, ⟨H⟩, ⟨hkk5928q⟩, ⟨hS5927q⟩⟩
        obtain _ | k5933q := k5928q
        · exact absurd H (by simp [louverlaw26qPipePlays.j1])
        simp only [louverlaw26qPipePlays.j1] at H
        refine wp_seq ?_
        refine WL.start ?_
        refine WL.block (c := 1) (m' := 1) h5924q rfl [(27, .int .i64 p0)] (by kernel_rfl) (fun a5934q h5935q => ?_)
        clear h5924q a5925q
        obtain ⟨r5937q, A5936q, H⟩ := bind1 H
        refine WL.op' (m := 1) h5935q rfl rfl ?_
        refine owp_call [.int .i64 p0] h5935q rfl (by kernel_rfl) rfl Try.func7 (by kernel_rfl) rfl (by kernel_rfl) (pipe_New.calls  A5936q hS5927q) (fun e5939q W5938q hp5940q => ?_)
        obtain ⟨v5943q, M5944q, rfl, hr5945q, hS5946q⟩ := hp5940q
        refine ⟨_, rfl, fun a5941q h5942q => ?_⟩
        clear h5935q a5934q
        refine WL.block (c := 1) (m' := 3) h5942q rfl [(6, v5943q)] (by kernel_rfl) (fun a5947q h5948q => ?_)
        clear h5942q a5941q
        refine WL.done (by kernel_rfl) ?_
        refine wp_seq ?_
        refine WL.start ?_
        refine WL.block (c := 3) (m' := 3) h5948q rfl [(9, .string (mkS ([] : List UInt8))), (8, .string (mkS ([] : List UInt8))), (7, .string (mkS ([] : List UInt8)))] (by kernel_rfl) (fun a5949q h5950q => ?_)
        clear h5948q a5947q
        refine WL.done (by kernel_rfl) ?_
        refine wp_seq ?_
        refine WL.start ?_
        refine WL.block (c := 1) (m' := 1) h5950q rfl [(10, .bool false)] (by kernel_rfl) (fun a5951q h5952q => ?_)
        clear h5950q a5949q
        refine WL.done (by kernel_rfl) ?_
        refine wp_seq ?_
        refine wp_seq ?_
        refine WL.start ?_
        refine WL.block (c := 3) (m' := 3) h5952q rfl [(31, .int .i64 0), (30, .int .i64 (p1.length : Int)), (29, .slice A1 p1.length c1)] (by kernel_rfl) (fun a5953q h5954q => ?_)
        clear h5952q a5951q
        refine WL.done (by kernel_rfl) ?_
        refine wp_block ?_
        refine wp_loop_ghost (fun kq_ a_ W_ => ∃ (x5960q : S36), ∃ (M5961q : Frag), ∃ (x5963q : (List UInt8)), ∃ (x5964q : (List UInt8)), ∃ (x5965q : (List UInt8)), ∃ (x5966q : Bool), ∃ (x5967q : Int), Hd a_ 144 [(5, .int .i64 x5929q), (6, v5943q), (7, .string (mkS x5963q)), (8, .string (mkS x5964q)), (9, .string (mkS x5965q)), (10, .bool x5966q), (29, .slice A1 p1.length c1), (30, .int .i64 (p1.length : Int)), (31, .int .i64 x5967q)] ∧ Asd (louverlaw26qPipePlays.l2 kq_ x5960q x5963q x5964q x5965q x5966q x5967q p1 x5929q = some r0q) ∧ Asd (kq_ ≤ k5933q) ∧ Asd (St b w0 W_ R (M5961q :: Fs)) ∧ Asd (Ptr k36 36 b w0 R v5943q x5960q M5961q)) k5933q ⟨r5937q, M5944q, ([] : List UInt8), ([] : List UInt8), ([] : List UInt8), false, 0, h5954q.keep ⟨rfl, rfl, rfl, rfl, rfl, rfl, rfl, rfl, rfl, trivial⟩, ⟨H⟩, ⟨Nat.le_refl _⟩, ⟨hS5946q⟩, ⟨hr5945q⟩⟩ ?_
        clear H hS5946q
        rintro k5959q a5956q W5957q ⟨x5960q, M5961q, x5963q, x5964q, x5965q, x5966q, x5967q, h5955q, ⟨H⟩, ⟨hkk5959q⟩, ⟨hS5958q⟩, ⟨hr5962q⟩⟩
        obtain _ | k5968q := k5959q
        · exact absurd H (by simp [louverlaw26qPipePlays.l2])
        simp only [louverlaw26qPipePlays.l2] at H
        refine wp_seq ?_
        refine WL.start ?_
        refine WL.block (c := 1) (m' := 1) h5955q rfl [(32, .bool (decide (x5967q < (p1.length : Int))))] (by kernel_rfl) (fun a5969q h5970q => ?_)
        clear h5955q a5956q
        refine WL.done (by kernel_rfl) ?_
        refine wp_seq ?_
        by_cases c5971q : x5967q < (p1.length : Int)
        · rw [if_pos c5971q] at H
          have hb_ : (decide (x5967q < (p1.length : Int))) = true := decide_eq_true c5971q
          try rw [hb_] at h5970q
          clear hb_
          refine wp_then h5970q rfl ?_
          refine wp_skip ?_
          refine wp_seq ?_
          refine wp_block ?_
          refine wp_seq ?_
          refine WL.start ?_
          by_cases c5972q : 0 ≤ x5967q
          · rw [if_pos c5972q] at H
            have hi5975q : 0 ≤ x5967q := by first | assumption | omega
            have hi5976q : x5967q < (p1.length : Int) := by first | assumption | omega
            obtain ⟨ad5973q, _, ha5974q, -, -⟩ := Rds.elemAny hp1 hi5975q (gt_get (z := z32) hi5975q hi5976q)
            refine WL.op' (m := 0) h5970q rfl rfl ?_
            refine owp_run (v := .pointer (some (ad5973q.add (x5967q.toNat * 3)))) h5970q rfl (by kernel_rfl) (run_idx (ad := ad5973q) (sz := 3) rfl (by rw [← ha5974q]; rfl) rfl Try.underlying30 (by kernel_rfl) hi5975q hi5976q) (fun a5977q h5978q => ?_)
            clear h5970q a5969q
            obtain ⟨ad5979q, cs5980q, ha5981q, hr5983q, hc5982q⟩ := Rds.elemAny hp1 hi5975q (gt_get (z := z32) hi5975q hi5976q)
            rw [ha5974q] at ha5981q; obtain rfl := Option.some.inj ha5981q
            obtain ⟨v5984q, rfl, hx5985q⟩ := k32qrd hr5983q
            obtain ⟨A5986q, c5987q, rfl⟩ := hx5985q.form
            refine WL.op' (m := 1) h5978q rfl rfl ?_
            refine owp_run (v := .agg #[.int .i64 ((gt z32 p1 x5967q).f0), .slice A5986q ((gt z32 p1 x5967q).f1).length c5987q, .int .i64 ((gt z32 p1 x5967q).f2)]) h5978q rfl (by kernel_rfl) (run_loadN rfl rfl Try.underlying32 rfl (cs := ([.int .i64 ((gt z32 p1 x5967q).f0), .slice A5986q ((gt z32 p1 x5967q).f1).length c5987q, .int .i64 ((gt z32 p1 x5967q).f2)] : List Value)) (by kernel_rfl) (hc5982q _ (fun _ _ hk_ => hS5958q.kn hk_))) (fun a5988q h5989q => ?_)
            clear h5978q a5977q
            refine WL.op' (m := 2) h5989q rfl rfl ?_
            refine owp_new (fun g_ => .pointer (some ⟨g_, 0, none⟩)) (.cells ([.int .i64 0, .slice none 0 0, .int .i64 0] : List Value).toArray 32 (0, 0)) h5989q rfl (by kernel_rfl) (by kernel_rfl) hS5958q (fun a5990q W5992q g5993q h5991q hS5994q => ?_)
            clear h5989q a5988q
            refine WL.op' (m := 3) h5991q rfl rfl ?_
            refine owp_store (i := 0) (vs := ([.int .i64 ((gt z32 p1 x5967q).f0), .slice A5986q ((gt z32 p1 x5967q).f1).length c5987q, .int .i64 ((gt z32 p1 x5967q).f2)] : List Value)) h5991q rfl (by kernel_rfl) rfl rfl rfl rfl (by simp [Value.oneCell']) (by kernel_rfl) hS5994q (by simp) (cs' := ([.int .i64 ((gt z32 p1 x5967q).f0), .slice A5986q ((gt z32 p1 x5967q).f1).length c5987q, .int .i64 ((gt z32 p1 x5967q).f2)] : List Value)) rfl (fun a5995q W5997q h5996q hS5998q => ?_)
            clear h5991q a5990q
            refine WL.done (by kernel_rfl) ?_
            refine wp_seq ?_
            refine wp_seq ?_
            refine WL.start ?_
            refine WL.block (c := 1) (m' := 1) h5996q rfl [(35, .pointer (some ⟨g5993q, 1, none⟩))] (by kernel_rfl) (fun a5999q h6000q => ?_)
            clear h5996q a5995q
            refine WL.op' (m := 1) h6000q rfl rfl ?_
            refine owp_run (v := .slice A5986q ((gt z32 p1 x5967q).f1).length c5987q) h6000q rfl (by kernel_rfl) (run_load1 rfl rfl Try.underlying22 rfl (hS5998q.cell (i := 1) rfl)) (fun a6001q h6002q => ?_)
            clear h6000q a5999q
            refine WL.block (c := 2) (m' := 4) h6002q rfl [(38, .bool (decide ((((gt z32 p1 x5967q).f1).length : Int) > 3000))), (37, .int .i64 (((gt z32 p1 x5967q).f1).length : Int))] (by kernel_rfl) (fun a6003q h6004q => ?_)
            clear h6002q a6001q
            refine WL.done (by kernel_rfl) ?_
            by_cases c6005q : (((gt z32 p1 x5967q).f1).length : Int) > 3000
            · rw [if_pos c6005q] at H
              have hb_ : (decide ((((gt z32 p1 x5967q).f1).length : Int) > 3000)) = true := decide_eq_true c6005q
              try rw [hb_] at h6004q
              clear hb_
              refine wp_then h6004q rfl ?_
              refine wp_seq ?_
              refine WL.start ?_
              obtain ⟨r6007q, A6006q, H⟩ := bind1 H
              refine WL.op' (m := 0) h6004q rfl rfl ?_
              refine owp_call [] h6004q rfl (by kernel_rfl) rfl Try.func6 (by kernel_rfl) rfl (by kernel_rfl) (louverlaw26qfixed.calls  A6006q hS5998q) (fun e6009q W6008q hp6010q => ?_)
              obtain ⟨rfl, hS6013q⟩ := hp6010q
              refine ⟨_, rfl, fun a6011q h6012q => ?_⟩
              clear h6004q a6003q
              refine WL.block (c := 1) (m' := 2) h6012q rfl [(4, .bool r6007q)] (by kernel_rfl) (fun a6014q h6015q => ?_)
              clear h6012q a6011q
              refine WL.done (by kernel_rfl) ?_
              refine wp_ret ?_
              have hS6016q : St b w0 W6008q R (M5961q :: Fs) := hS6013q.drop_
              have hS6017q : St b w0 W6008q R (Fs) := hS6016q.drop_
              obtain rfl := Option.some.inj H
              repeat (first | refine then_ret ?_ | refine inBlock_ret ?_ | refine inBlock_go ?_)
              refine body_ret (v := .bool r6007q) h6015q (by kernel_rfl) (by kernel_rfl) ?_
              exact ⟨rfl, hS6017q⟩
            · rw [if_neg c6005q] at H
              have hb_ : (decide ((((gt z32 p1 x5967q).f1).length : Int) > 3000)) = false := decide_eq_false c6005q
              try rw [hb_] at h6004q
              clear hb_
              refine wp_else h6004q rfl ?_
              refine wp_skip ?_
              refine wp_seq ?_
              refine wp_seq ?_
              refine WL.start ?_
              refine WL.block (c := 1) (m' := 1) h6004q rfl [(40, .pointer (some ⟨g5993q, 0, none⟩))] (by kernel_rfl) (fun a6018q h6019q => ?_)
              clear h6004q a6003q
              refine WL.op' (m := 1) h6019q rfl rfl ?_
              refine owp_run (v := .int .i64 ((gt z32 p1 x5967q).f0)) h6019q rfl (by kernel_rfl) (run_load1 rfl rfl Try.underlying3 rfl (hS5998q.cell (i := 0) rfl)) (fun a6020q h6021q => ?_)
              clear h6019q a6018q
              refine WL.done (by kernel_rfl) ?_
              refine wp_meet (I := fun a_ W_ => ∃ kq_, ∃ (x6287q : S36), ∃ (M6288q : Frag), ∃ (x6290q : (List UInt8)), ∃ (x6291q : (List UInt8)), ∃ (x6292q : (List UInt8)), ∃ (x6293q : Bool), Hd a_ 144 [(5, .int .i64 x5929q), (6, v5943q), (7, .string (mkS x6290q)), (8, .string (mkS x6291q)), (9, .string (mkS x6292q)), (10, .bool x6293q), (29, .slice A1 p1.length c1), (30, .int .i64 (p1.length : Int)), (31, .int .i64 x5967q)] ∧ Asd (louverlaw26qPipePlays.j3 kq_ x6287q x6290q x6291q x6292q x6293q x5929q p1 x5967q = some r0q) ∧ Asd (kq_ ≤ k5968q) ∧ Asd (St b w0 W_ R (M6288q :: Fs)) ∧ Asd (Ptr k36 36 b w0 R v5943q x6287q M6288q)) ?_ ?_
              · refine wp_block ?_
                refine wp_seq ?_
                refine WL.start ?_
                refine WL.block (c := 2) (m' := 2) h6021q rfl [(44, .bool (decide (((gt z32 p1 x5967q).f0) = 0))), (45, .bool (decide (((gt z32 p1 x5967q).f0) = 0)))] (by kernel_rfl) (fun a6294q h6295q => ?_)
                clear h6021q a6020q
                refine WL.done (by kernel_rfl) ?_
                by_cases c6296q : ((gt z32 p1 x5967q).f0) = 0
                · rw [if_pos c6296q] at H
                  have hb_ : (decide (((gt z32 p1 x5967q).f0) = 0)) = true := decide_eq_true c6296q
                  try rw [hb_] at h6295q
                  clear hb_
                  refine wp_then h6295q rfl ?_
                  refine wp_seq ?_
                  refine WL.start ?_
                  refine WL.block (c := 1) (m' := 1) h6295q rfl [(46, .pointer (some ⟨g5993q, 1, none⟩))] (by kernel_rfl) (fun a6297q h6298q => ?_)
                  clear h6295q a6294q
                  refine WL.op' (m := 1) h6298q rfl rfl ?_
                  refine owp_run (v := .slice A5986q ((gt z32 p1 x5967q).f1).length c5987q) h6298q rfl (by kernel_rfl) (run_load1 rfl rfl Try.underlying22 rfl (hS5998q.cell (i := 1) rfl)) (fun a6299q h6300q => ?_)
                  clear h6298q a6297q
                  refine WL.block (c := 7) (m' := 9) h6300q rfl [(13, .int .i64 (mnI (((gt z32 p1 x5967q).f1).length : Int) (IntKind.i64.wrap (x5929q - (x5963q.length : Int))))), (53, .int .i64 (mnI (((gt z32 p1 x5967q).f1).length : Int) (IntKind.i64.wrap (x5929q - (x5963q.length : Int))))), (52, .int .i64 (IntKind.i64.wrap (x5929q - (x5963q.length : Int)))), (51, .int .i64 (x5963q.length : Int)), (50, .string (mkS x5963q)), (49, .int .i64 x5929q), (48, .int .i64 (((gt z32 p1 x5967q).f1).length : Int))] (by kernel_rfl) (fun a6301q h6302q => ?_)
                  clear h6300q a6299q
                  refine WL.done (by kernel_rfl) ?_
                  refine wp_seq ?_
                  refine wp_seq ?_
                  refine WL.start ?_
                  refine WL.block (c := 1) (m' := 1) h6302q rfl [(54, .bool x5966q)] (by kernel_rfl) (fun a6303q h6304q => ?_)
                  clear h6302q a6301q
                  refine WL.done (by kernel_rfl) ?_
                  refine wp_meet (I := fun a_ W_ => ∃ kq_, ∃ (x6313q : Bool), ∃ (x6314q : Int), Hd a_ 144 [(5, .int .i64 x5929q), (6, v5943q), (7, .string (mkS x5963q)), (8, .string (mkS x5964q)), (9, .string (mkS x5965q)), (10, .bool x6313q), (12, .pointer (some ⟨g5993q, 0, none⟩)), (13, .int .i64 x6314q), (29, .slice A1 p1.length c1), (30, .int .i64 (p1.length : Int)), (31, .int .i64 x5967q)] ∧ Asd (louverlaw26qPipePlays.j4 kq_ x6313q x6314q p1 x5929q x5960q x5963q x5964q x5965q x5967q = some r0q) ∧ Asd (kq_ ≤ k5968q) ∧ Asd (St b w0 W_ R (M5961q :: [(g5993q, .cells ([.int .i64 ((gt z32 p1 x5967q).f0), .slice A5986q ((gt z32 p1 x5967q).f1).length c5987q, .int .i64 ((gt z32 p1 x5967q).f2)] : List Value).toArray 32 (0, 0))] :: Fs))) ?_ ?_
                  · by_cases c6315q : x5966q = true
                    · rw [if_pos c6315q] at H
                      have hb_ : x5966q = true := c6315q
                      try rw [hb_] at h6304q
                      clear hb_
                      refine wp_then h6304q rfl ?_
                      refine WL.start ?_
                      refine WL.block (c := 1) (m' := 1) h6304q rfl [(13, .int .i64 0)] (by kernel_rfl) (fun a6316q h6317q => ?_)
                      clear h6304q a6303q
                      refine WL.done (by kernel_rfl) ?_
                      have hS6318q : St b w0 W5997q R (M5961q :: [(g5993q, .cells ([.int .i64 ((gt z32 p1 x5967q).f0), .slice A5986q ((gt z32 p1 x5967q).f1).length c5987q, .int .i64 ((gt z32 p1 x5967q).f2)] : List Value).toArray 32 (0, 0))] :: Fs) := hS5998q.bring 1 rfl rfl
                      exact ⟨k5968q, true, 0, h6317q.keep ⟨rfl, rfl, rfl, rfl, rfl, rfl, rfl, rfl, rfl, rfl, rfl, trivial⟩, ⟨H⟩, ⟨by omega⟩, ⟨hS6318q⟩⟩
                    · rw [if_neg c6315q] at H
                      have hb_ : x5966q = false := (Bool.eq_false_iff.2 c6315q)
                      try rw [hb_] at h6304q
                      clear hb_
                      refine wp_else h6304q rfl ?_
                      refine wp_skip ?_
                      have hS6319q : St b w0 W5997q R (M5961q :: [(g5993q, .cells ([.int .i64 ((gt z32 p1 x5967q).f0), .slice A5986q ((gt z32 p1 x5967q).f1).length c5987q, .int .i64 ((gt z32 p1 x5967q).f2)] : List Value).toArray 32 (0, 0))] :: Fs) := hS5998q.bring 1 rfl rfl
                      exact ⟨k5968q, false, mnI (((gt z32 p1 x5967q).f1).length : Int) (IntKind.i64.wrap (x5929q - (x5963q.length : Int))), h6304q.keep ⟨rfl, rfl, rfl, rfl, rfl, rfl, rfl, rfl, rfl, rfl, rfl, trivial⟩, ⟨H⟩, ⟨by omega⟩, ⟨hS6319q⟩⟩
                  · clear H hS5998q
                    rintro a6309q W6310q ⟨k6312q, x6313q, x6314q, h6308q, ⟨H⟩, ⟨hkk6312q⟩, ⟨hS6311q⟩⟩
                    obtain _ | k6320q := k6312q
                    · exact absurd H (by simp [louverlaw26qPipePlays.j4])
                    simp only [louverlaw26qPipePlays.j4] at H
                    refine wp_seq ?_
                    refine WL.start ?_
                    refine WL.op' (m := 0) h6308q rfl rfl ?_
                    refine owp_new (fun g_ => .slice (some ⟨g_, 0, none⟩) 0 0) (.cells ([] : List Value).toArray 5 (0, 0)) h6308q rfl (by kernel_rfl) (by kernel_rfl) hS6311q (fun a6321q W6323q g6324q h6322q hS6325q => ?_)
                    clear h6308q a6309q
                    have hr6326q : Row (kInt .u8) 5 b w0 R (.slice (some ⟨g6324q, 0, none⟩) 0 0) ([] : List Int) [(g6324q, .cells ([] : List Value).toArray 5 (0, 0))] := Row.lit (xs := ([] : List Int)) (Mi := []) ⟨rfl, rfl⟩ (by simp [maxLen])
                    refine WL.block (c := 1) (m' := 2) h6322q rfl [(56, .pointer (some ⟨g5993q, 1, none⟩))] (by kernel_rfl) (fun a6327q h6328q => ?_)
                    clear h6322q a6321q
                    have hS6329q : St b w0 W6323q R ([(g5993q, .cells ([.int .i64 ((gt z32 p1 x5967q).f0), .slice A5986q ((gt z32 p1 x5967q).f1).length c5987q, .int .i64 ((gt z32 p1 x5967q).f2)] : List Value).toArray 32 (0, 0))] :: [(g6324q, .cells ([] : List Value).toArray 5 (0, 0))] :: M5961q :: Fs) := hS6325q.bring 2 rfl rfl
                    refine WL.op' (m := 2) h6328q rfl rfl ?_
                    refine owp_run (v := .slice A5986q ((gt z32 p1 x5967q).f1).length c5987q) h6328q rfl (by kernel_rfl) (run_load1 rfl rfl Try.underlying22 rfl (hS6329q.cell (i := 1) rfl)) (fun a6330q h6331q => ?_)
                    clear h6328q a6327q
                    by_cases c6332q : ([] : List Int).length + ((gt z32 p1 x5967q).f1).length ≤ 140737488355328
                    · rw [if_pos c6332q] at H
                      have hS6333q : St b w0 W6323q R ([(g6324q, .cells ([] : List Value).toArray 5 (0, 0))] :: [(g5993q, .cells ([.int .i64 ((gt z32 p1 x5967q).f0), .slice A5986q ((gt z32 p1 x5967q).f1).length c5987q, .int .i64 ((gt z32 p1 x5967q).f2)] : List Value).toArray 32 (0, 0))] :: M5961q :: Fs) := hS6329q.bring 1 rfl rfl
                      refine WL.op' (m := 3) h6331q rfl rfl ?_
                      refine owp_app_rds (z := .int .u8 0) (bytes := 1) (dk := (kInt .u8)) h6331q rfl (by kernel_rfl) rfl rfl rfl (kInt_flat _) hr6326q hx5985q hS6333q Try.underlying22 (by kernel_rfl) rfl (by decide) (by decide) (by first | omega | (simp only [List.length_cons, List.length_nil] at *; omega)) (fun a6334q W6336q v6337q M6338q h6335q hr6339q hS6340q => ?_)
                      clear h6331q a6330q
                      obtain ⟨y6341q, hy6342q, H⟩ := lete H
                      have hr6343q : Row (kInt .u8) 5 b w0 R v6337q y6341q M6338q := by rw [hy6342q]; exact hr6339q
                      clear hr6339q
                      obtain ⟨A6344q, c6345q, rfl⟩ := hr6343q.form
                      refine WL.block (c := 1) (m' := 5) h6335q rfl [(14, .slice A6344q y6341q.length c6345q)] (by kernel_rfl) (fun a6346q h6347q => ?_)
                      clear h6335q a6334q
                      refine WL.done (by kernel_rfl) ?_
                      refine wp_seq ?_
                      refine wp_seq ?_
                      refine WL.start ?_
                      refine WL.block (c := 2) (m' := 2) h6347q rfl [(60, .slice A6344q y6341q.length c6345q), (59, v5943q)] (by kernel_rfl) (fun a6348q h6349q => ?_)
                      clear h6347q a6346q
                      have hS6350q : St b w0 W6336q R (M5961q :: M6338q :: [(g5993q, .cells ([.int .i64 ((gt z32 p1 x5967q).f0), .slice A5986q ((gt z32 p1 x5967q).f1).length c5987q, .int .i64 ((gt z32 p1 x5967q).f2)] : List Value).toArray 32 (0, 0))] :: Fs) := hS6340q.bring 2 rfl rfl
                      have hS6351q : St b w0 W6336q R (M6338q :: M5961q :: [(g5993q, .cells ([.int .i64 ((gt z32 p1 x5967q).f0), .slice A5986q ((gt z32 p1 x5967q).f1).length c5987q, .int .i64 ((gt z32 p1 x5967q).f2)] : List Value).toArray 32 (0, 0))] :: Fs) := hS6350q.bring 1 rfl rfl
                      obtain ⟨r6353q, r6354q, A6352q, H⟩ := bind2 H
                      refine WL.op' (m := 2) h6349q rfl rfl ?_
                      refine owp_call [v5943q, .slice A6344q y6341q.length c6345q] h6349q rfl (by kernel_rfl) rfl Try.func8 (by kernel_rfl) rfl (by kernel_rfl) (pipe_Pipe_Write.calls (hr5962q.mono (fun _ hp_ => List.mem_append_right _ hp_)) hr6343q.rds A6352q (hS6351q.pool)) (fun e6356q W6355q hp6357q => ?_)
                      obtain ⟨M6360q, rfl, hr6361q, hS6362q⟩ := hp6357q
                      have hS6363q : St b w0 W6355q R (M6338q :: M6360q :: [(g5993q, .cells ([.int .i64 ((gt z32 p1 x5967q).f0), .slice A5986q ((gt z32 p1 x5967q).f1).length c5987q, .int .i64 ((gt z32 p1 x5967q).f2)] : List Value).toArray 32 (0, 0))] :: Fs) := hS6362q.unpool
                      replace hr6361q : Ptr k36 36 b w0 R v5943q r6354q M6360q := hr6361q.ind k36qind
                      refine ⟨_, rfl, fun a6358q h6359q => ?_⟩
                      clear h6349q a6348q
                      refine WL.block (c := 2) (m' := 5) h6359q rfl [(63, .bool (!decide (r6353q = x6314q))), (62, .int .i64 x6314q)] (by kernel_rfl) (fun a6364q h6365q => ?_)
                      clear h6359q a6358q
                      refine WL.done (by kernel_rfl) ?_
                      by_cases c6366q : r6353q = x6314q
                      · rw [if_pos c6366q] at H
                        have hb_ : (decide (r6353q = x6314q)) = true := decide_eq_true c6366q
                        try rw [hb_] at h6365q
                        clear hb_
                        refine wp_else h6365q rfl ?_
                        refine wp_skip ?_
                        refine wp_seq ?_
                        refine WL.start ?_
                        refine WL.block (c := 1) (m' := 1) h6365q rfl [(64, .slice A6344q y6341q.length c6345q)] (by kernel_rfl) (fun a6367q h6368q => ?_)
                        clear h6365q a6364q
                        refine WL.op' (m := 1) h6368q rfl rfl ?_
                        refine owp_clear1 (ty := 0) (z := .int .u8 0) (z0 := (0 : Int)) h6368q rfl (by kernel_rfl) rfl rfl hr6343q hS6363q Try.underlying22 (by kernel_rfl) (fun _ _ _ => ⟨rfl, rfl⟩) rfl rfl (fun a6369q W6371q M6372q h6370q hr6373q hS6374q => ?_)
                        clear h6368q a6367q
                        obtain ⟨y6375q, hy6376q, H⟩ := lete H
                        have hl6377q : y6375q.length = y6341q.length := by simp [hy6376q]
                        have hr6378q : Row (kInt .u8) 5 b w0 R (.slice A6344q y6375q.length c6345q) y6375q M6372q := by rw [hl6377q]; rw [hy6376q]; exact hr6373q
                        have h6379q : Hd a6369q 144 [(5, .int .i64 x5929q), (6, v5943q), (7, .string (mkS x5963q)), (8, .string (mkS x5964q)), (9, .string (mkS x5965q)), (10, .bool x6313q), (12, .pointer (some ⟨g5993q, 0, none⟩)), (13, .int .i64 x6314q), (14, .slice A6344q y6375q.length c6345q), (29, .slice A1 p1.length c1), (30, .int .i64 (p1.length : Int)), (31, .int .i64 x5967q), (55, .slice (some ⟨g6324q, 0, none⟩) 0 0), (56, .pointer (some ⟨g5993q, 1, none⟩)), (57, .slice A5986q ((gt z32 p1 x5967q).f1).length c5987q), (58, .slice A6344q y6375q.length c6345q), (59, v5943q), (60, .slice A6344q y6375q.length c6345q), (61, .int .i64 r6353q), (62, .int .i64 x6314q), (63, .bool false), (64, .slice A6344q y6375q.length c6345q)] := h6370q.keep ⟨rfl, rfl, rfl, rfl, rfl, rfl, rfl, rfl, (by rw [hl6377q] <;> rfl), rfl, rfl, rfl, rfl, rfl, rfl, (by rw [hl6377q] <;> rfl), rfl, (by rw [hl6377q] <;> rfl), rfl, rfl, rfl, (by rw [hl6377q] <;> rfl), trivial⟩
                        clear h6370q
                        refine WL.done (by kernel_rfl) ?_
                        refine wp_seq ?_
                        refine WL.start ?_
                        refine WL.block (c := 2) (m' := 2) h6379q rfl [(66, .pointer (some ⟨g5993q, 1, none⟩)), (65, .string (mkS x5963q))] (by kernel_rfl) (fun a6380q h6381q => ?_)
                        clear h6379q a6369q
                        have hS6382q : St b w0 W6371q R ([(g5993q, .cells ([.int .i64 ((gt z32 p1 x5967q).f0), .slice A5986q ((gt z32 p1 x5967q).f1).length c5987q, .int .i64 ((gt z32 p1 x5967q).f2)] : List Value).toArray 32 (0, 0))] :: M6372q :: M6360q :: Fs) := hS6374q.bring 2 rfl rfl
                        refine WL.op' (m := 2) h6381q rfl rfl ?_
                        refine owp_run (v := .slice A5986q ((gt z32 p1 x5967q).f1).length c5987q) h6381q rfl (by kernel_rfl) (run_load1 rfl rfl Try.underlying22 rfl (hS6382q.cell (i := 1) rfl)) (fun a6383q h6384q => ?_)
                        clear h6381q a6380q
                        refine WL.block (c := 1) (m' := 4) h6384q rfl [(68, .int .i64 x6314q)] (by kernel_rfl) (fun a6385q h6386q => ?_)
                        clear h6384q a6383q
                        by_cases c6387q : 0 ≤ x6314q
                        · rw [if_pos c6387q] at H
                          by_cases c6388q : x6314q ≤ (((gt z32 p1 x5967q).f1).length : Int)
                          · rw [if_pos c6388q] at H
                            refine WL.op' (m := 4) h6386q rfl rfl ?_
                            refine owp_run (v := sliced A5986q (0 : Int).toNat x6314q.toNat c5987q 1) h6386q rfl (by kernel_rfl) (run_cut (l := 0) (h := x6314q) rfl rfl Try.underlying22 (by kernel_rfl) rfl ⟨_, rfl⟩ (by first | assumption | omega) (by first | assumption | omega) (by have q_ := Rds.cap hx5985q; omega) (by have q_ := Rds.cap hx5985q; omega)) (fun a6390q h6391q => ?_)
                            clear h6386q a6385q
                            have hx6389q := Rds.cut hx5985q (l := (0 : Int).toNat) (h := x6314q.toNat) (by omega) (by omega)
                            obtain ⟨v6392q, ev6393q⟩ : ∃ y_, y_ = sliced A5986q (0 : Int).toNat x6314q.toNat c5987q 1 := ⟨_, rfl⟩
                            have hx_ : Rds (kInt .u8) b w0 R v6392q (((gt z32 p1 x5967q).f1).take x6314q.toNat) := hx6389q.as_ ev6393q.symm (by simp)
                            rw [← ev6393q] at h6391q; clear ev6393q hx6389q
                            have hx6389q := hx_; clear hx_
                            obtain ⟨A6394q, c6395q, rfl⟩ := hx6389q.form
                            refine WL.op' (m := 5) h6391q rfl rfl ?_
                            refine owp_run (v := .string (mkS (toS (((gt z32 p1 x5967q).f1).take x6314q.toNat)))) h6391q rfl (by kernel_rfl) (run_tostr rfl rfl hx6389q (fun _ _ hk_ => hS6382q.kn hk_) Try.underlying22 Try.underlying5 Try.underlying9) (fun a6396q h6397q => ?_)
                            clear h6391q a6390q
                            by_cases c6398q : x5963q.length + (toS (((gt z32 p1 x5967q).f1).take x6314q.toNat)).length ≤ 9223372036854775807
                            · rw [if_pos c6398q] at H
                              refine WL.op' (m := 6) h6397q rfl rfl ?_
                              refine owp_run (v := .string (mkS (x5963q ++ (toS (((gt z32 p1 x5967q).f1).take x6314q.toNat))))) h6397q rfl (by kernel_rfl) (run_concat rfl rfl rfl (by assumption)) (fun a6399q h6400q => ?_)
                              clear h6397q a6396q
                              refine WL.block (c := 1) (m' := 8) h6400q rfl [(7, .string (mkS (x5963q ++ (toS (((gt z32 p1 x5967q).f1).take x6314q.toNat)))))] (by kernel_rfl) (fun a6401q h6402q => ?_)
                              clear h6400q a6399q
                              refine WL.done (by kernel_rfl) ?_
                              refine WL.start ?_
                              refine WL.block (c := 2) (m' := 2) h6402q rfl [(73, .pointer (some ⟨g5993q, 1, none⟩)), (72, .string (mkS x5965q))] (by kernel_rfl) (fun a6403q h6404q => ?_)
                              clear h6402q a6401q
                              refine WL.op' (m := 2) h6404q rfl rfl ?_
                              refine owp_run (v := .slice A5986q ((gt z32 p1 x5967q).f1).length c5987q) h6404q rfl (by kernel_rfl) (run_load1 rfl rfl Try.underlying22 rfl (hS6382q.cell (i := 1) rfl)) (fun a6405q h6406q => ?_)
                              clear h6404q a6403q
                              refine WL.block (c := 1) (m' := 4) h6406q rfl [(75, .int .i64 x6314q)] (by kernel_rfl) (fun a6407q h6408q => ?_)
                              clear h6406q a6405q
                              refine WL.op' (m := 4) h6408q rfl rfl ?_
                              refine owp_run (v := sliced A5986q (0 : Int).toNat x6314q.toNat c5987q 1) h6408q rfl (by kernel_rfl) (run_cut (l := 0) (h := x6314q) rfl rfl Try.underlying22 (by kernel_rfl) rfl ⟨_, rfl⟩ (by first | assumption | omega) (by first | assumption | omega) (by have q_ := Rds.cap hx5985q; omega) (by have q_ := Rds.cap hx5985q; omega)) (fun a6410q h6411q => ?_)
                              clear h6408q a6407q
                              have hx6409q := Rds.cut hx5985q (l := (0 : Int).toNat) (h := x6314q.toNat) (by omega) (by omega)
                              obtain ⟨v6412q, ev6413q⟩ : ∃ y_, y_ = sliced A5986q (0 : Int).toNat x6314q.toNat c5987q 1 := ⟨_, rfl⟩
                              have hx_ : Rds (kInt .u8) b w0 R v6412q (((gt z32 p1 x5967q).f1).take x6314q.toNat) := hx6409q.as_ ev6413q.symm (by simp)
                              rw [← ev6413q] at h6411q; clear ev6413q hx6409q
                              have hx6409q := hx_; clear hx_
                              obtain ⟨A6414q, c6415q, rfl⟩ := hx6409q.form
                              refine WL.op' (m := 5) h6411q rfl rfl ?_
                              refine owp_run (v := .string (mkS (toS (((gt z32 p1 x5967q).f1).take x6314q.toNat)))) h6411q rfl (by kernel_rfl) (run_tostr rfl rfl hx6409q (fun _ _ hk_ => hS6382q.kn hk_) Try.underlying22 Try.underlying5 Try.underlying9) (fun a6416q h6417q => ?_)
                              clear h6411q a6410q
                              by_cases c6418q : x5965q.length + (toS (((gt z32 p1 x5967q).f1).take x6314q.toNat)).length ≤ 9223372036854775807
                              · rw [if_pos c6418q] at H
                                refine WL.op' (m := 6) h6417q rfl rfl ?_
                                refine owp_run (v := .string (mkS (x5965q ++ (toS (((gt z32 p1 x5967q).f1).take x6314q.toNat))))) h6417q rfl (by kernel_rfl) (run_concat rfl rfl rfl (by assumption)) (fun a6419q h6420q => ?_)
                                clear h6417q a6416q
                                refine WL.block (c := 1) (m' := 8) h6420q rfl [(9, .string (mkS (x5965q ++ (toS (((gt z32 p1 x5967q).f1).take x6314q.toNat)))))] (by kernel_rfl) (fun a6421q h6422q => ?_)
                                clear h6420q a6419q
                                refine WL.done (by kernel_rfl) ?_
                                have hS6423q : St b w0 W6371q R (M6372q :: M6360q :: Fs) := hS6382q.drop_
                                have hS6424q : St b w0 W6371q R (M6360q :: Fs) := hS6423q.drop_
                                exact ⟨k6320q, r6354q, M6360q, x5963q ++ (toS (((gt z32 p1 x5967q).f1).take x6314q.toNat)), x5964q, x5965q ++ (toS (((gt z32 p1 x5967q).f1).take x6314q.toNat)), x6313q, h6422q.keep ⟨rfl, rfl, rfl, rfl, rfl, rfl, rfl, rfl, rfl, trivial⟩, ⟨H⟩, ⟨by omega⟩, ⟨hS6424q⟩, ⟨hr6361q⟩⟩
                              · rw [if_neg c6418q] at H
                                cases H
                            · rw [if_neg c6398q] at H
                              cases H
                          · rw [if_neg c6388q] at H
                            cases H
                        · rw [if_neg c6387q] at H
                          cases H
                      · rw [if_neg c6366q] at H
                        have hb_ : (decide (r6353q = x6314q)) = false := decide_eq_false c6366q
                        try rw [hb_] at h6365q
                        clear hb_
                        refine wp_then h6365q rfl ?_
                        refine wp_seq ?_
                        refine WL.start ?_
                        refine WL.block (c := 1) (m' := 1) h6365q rfl [(4, .bool false)] (by kernel_rfl) (fun a6425q h6426q => ?_)
                        clear h6365q a6364q
                        refine WL.done (by kernel_rfl) ?_
                        refine wp_ret ?_
                        have hS6427q : St b w0 W6355q R (M6360q :: [(g5993q, .cells ([.int .i64 ((gt z32 p1 x5967q).f0), .slice A5986q ((gt z32 p1 x5967q).f1).length c5987q, .int .i64 ((gt z32 p1 x5967q).f2)] : List Value).toArray 32 (0, 0))] :: Fs) := hS6363q.drop_
                        have hS6428q : St b w0 W6355q R ([(g5993q, .cells ([.int .i64 ((gt z32 p1 x5967q).f0), .slice A5986q ((gt z32 p1 x5967q).f1).length c5987q, .int .i64 ((gt z32 p1 x5967q).f2)] : List Value).toArray 32 (0, 0))] :: Fs) := hS6427q.drop_
                        have hS6429q : St b w0 W6355q R (Fs) := hS6428q.drop_
                        obtain rfl := Option.some.inj H
                        repeat (first | refine then_ret ?_ | refine inBlock_ret ?_ | refine inBlock_go ?_)
                        refine body_ret (v := .bool false) h6426q (by kernel_rfl) (by kernel_rfl) ?_
                        exact ⟨rfl, hS6429q⟩
                    · rw [if_neg c6332q] at H
                      cases H
                · rw [if_neg c6296q] at H
                  have hb_ : (decide (((gt z32 p1 x5967q).f0) = 0)) = false := decide_eq_false c6296q
                  try rw [hb_] at h6295q
                  clear hb_
                  refine wp_else h6295q rfl ?_
                  refine wp_seq ?_
                  refine WL.start ?_
                  refine WL.block (c := 2) (m' := 2) h6295q rfl [(79, .bool (decide (((gt z32 p1 x5967q).f0) = 1))), (80, .bool (decide (((gt z32 p1 x5967q).f0) = 1)))] (by kernel_rfl) (fun a6430q h6431q => ?_)
                  clear h6295q a6294q
                  refine WL.done (by kernel_rfl) ?_
                  by_cases c6432q : ((gt z32 p1 x5967q).f0) = 1
                  · rw [if_pos c6432q] at H
                    have hb_ : (decide (((gt z32 p1 x5967q).f0) = 1)) = true := decide_eq_true c6432q
                    try rw [hb_] at h6431q
                    clear hb_
                    refine wp_then h6431q rfl ?_
                    refine wp_seq ?_
                    refine WL.start ?_
                    refine WL.block (c := 3) (m' := 3) h6431q rfl [(83, .pointer (some ⟨g5993q, 2, none⟩)), (82, .int .i64 (x5963q.length : Int)), (81, .string (mkS x5963q))] (by kernel_rfl) (fun a6433q h6434q => ?_)
                    clear h6431q a6430q
                    refine WL.op' (m := 3) h6434q rfl rfl ?_
                    refine owp_run (v := .int .i64 ((gt z32 p1 x5967q).f2)) h6434q rfl (by kernel_rfl) (run_load1 rfl rfl Try.underlying3 rfl (hS5998q.cell (i := 2) rfl)) (fun a6435q h6436q => ?_)
                    clear h6434q a6433q
                    refine WL.block (c := 3) (m' := 7) h6436q rfl [(15, .int .i64 (mnI (x5963q.length : Int) (mxI 1 ((gt z32 p1 x5967q).f2)))), (86, .int .i64 (mnI (x5963q.length : Int) (mxI 1 ((gt z32 p1 x5967q).f2)))), (85, .int .i64 (mxI 1 ((gt z32 p1 x5967q).f2)))] (by kernel_rfl) (fun a6437q h6438q => ?_)
                    clear h6436q a6435q
                    refine WL.done (by kernel_rfl) ?_
                    refine wp_seq ?_
                    refine WL.start ?_
                    refine WL.block (c := 2) (m' := 2) h6438q rfl [(88, .pointer (some ⟨g5993q, 2, none⟩)), (87, v5943q)] (by kernel_rfl) (fun a6439q h6440q => ?_)
                    clear h6438q a6437q
                    refine WL.op' (m := 2) h6440q rfl rfl ?_
                    refine owp_run (v := .int .i64 ((gt z32 p1 x5967q).f2)) h6440q rfl (by kernel_rfl) (run_load1 rfl rfl Try.underlying3 rfl (hS5998q.cell (i := 2) rfl)) (fun a6441q h6442q => ?_)
                    clear h6440q a6439q
                    have hS6443q : St b w0 W5997q R (M5961q :: [(g5993q, .cells ([.int .i64 ((gt z32 p1 x5967q).f0), .slice A5986q ((gt z32 p1 x5967q).f1).length c5987q, .int .i64 ((gt z32 p1 x5967q).f2)] : List Value).toArray 32 (0, 0))] :: Fs) := hS5998q.bring 1 rfl rfl
                    obtain ⟨r6445q, r6446q, A6444q, H⟩ := bind2 H
                    refine WL.op' (m := 3) h6442q rfl rfl ?_
                    refine owp_call [v5943q, .int .i64 ((gt z32 p1 x5967q).f2)] h6442q rfl (by kernel_rfl) rfl Try.func9 (by kernel_rfl) rfl (by kernel_rfl) (pipe_Pipe_Read.calls hr5962q A6444q hS6443q) (fun e6448q W6447q hp6449q => ?_)
                    obtain ⟨v6452q, M6453q, M6455q, rfl, hr6454q, hr6456q, hS6457q⟩ := hp6449q
                    refine ⟨_, rfl, fun a6450q h6451q => ?_⟩
                    clear h6442q a6441q
                    obtain ⟨A6458q, c6459q, rfl⟩ := hr6454q.form
                    refine WL.block (c := 1) (m' := 5) h6451q rfl [(16, .slice A6458q r6445q.length c6459q)] (by kernel_rfl) (fun a6460q h6461q => ?_)
                    clear h6451q a6450q
                    refine WL.done (by kernel_rfl) ?_
                    refine wp_seq ?_
                    refine wp_seq ?_
                    refine WH.start (fun w_ => (∀ a_ u_, Kn b w0 (M6453q ++ R) a_ u_ → w_.cell? a_ = some u_) ∧ True) (by kernel_rfl) #[false, false, false, false, false, false] 6 rfl rfl ?_
                    have hS6490q := hS6457q.drew
                    refine WH.take 0 (listed' := #[true, false, false, false, false, false]) h6461q rfl rfl (by kernel_rfl) rfl rfl (.slice A6458q r6445q.length c6459q) (fun _ _ => by kernel_rfl) ⟨(fun _ _ hk_ => (hS6490q).pool.kn hk_), trivial⟩ (fun _ _ _ h_ => h_) (fun a6491q h6492q => ?_)
                    clear h6461q a6460q
                    refine WH.take 2 (listed' := #[true, false, true, false, false, false]) h6492q rfl rfl (by kernel_rfl) rfl rfl (.string (mkS x5963q)) (fun _ _ => by kernel_rfl) ⟨(fun _ _ hk_ => (hS6490q).pool.kn hk_), trivial⟩ (fun _ _ _ h_ => h_) (fun a6493q h6494q => ?_)
                    clear h6492q a6491q
                    refine WH.take 3 (listed' := #[true, false, true, true, false, false]) h6494q rfl rfl (by kernel_rfl) rfl rfl (.int .i64 (mnI (x5963q.length : Int) (mxI 1 ((gt z32 p1 x5967q).f2)))) (fun _ _ => by kernel_rfl) ⟨(fun _ _ hk_ => (hS6490q).pool.kn hk_), trivial⟩ (fun _ _ _ h_ => h_) (fun a6495q h6496q => ?_)
                    clear h6494q a6493q
                    refine WH.take 1 (listed' := #[true, true, true, true, false, false]) h6496q rfl rfl (by kernel_rfl) rfl rfl (.string (mkS (toS r6445q))) (fun w_ hs_ => (run_tostr rfl rfl hr6454q.rds hs_.1 Try.underlying22 Try.underlying5 Try.underlying9)) ⟨(fun _ _ hk_ => (hS6490q).pool.kn hk_), trivial⟩ (fun _ _ _ h_ => h_) (fun a6497q h6498q => ?_)
                    clear h6496q a6495q
                    by_cases c6499q : 0 ≤ (mnI (x5963q.length : Int) (mxI 1 ((gt z32 p1 x5967q).f2)))
                    · rw [if_pos c6499q] at H
                      by_cases c6500q : (mnI (x5963q.length : Int) (mxI 1 ((gt z32 p1 x5967q).f2))) ≤ (x5963q.length : Int)
                      · rw [if_pos c6500q] at H
                        refine WH.take 4 (listed' := #[true, true, true, true, true, false]) h6498q rfl rfl (by kernel_rfl) rfl rfl (.string (mkS (x5963q.take (mnI (x5963q.length : Int) (mxI 1 ((gt z32 p1 x5967q).f2))).toNat))) (fun w_ hs_ => (run_strcut' (l := 0) (h := mnI (x5963q.length : Int) (mxI 1 ((gt z32 p1 x5967q).f2))) rfl rfl Try.underlying9 rfl ⟨_, rfl⟩ (by first | assumption | omega) (by first | assumption | omega) (by first | assumption | omega) (by simp))) ⟨(fun _ _ hk_ => (hS6490q).pool.kn hk_), trivial⟩ (fun _ _ _ h_ => h_) (fun a6501q h6502q => ?_)
                        clear h6498q a6497q
                        refine WH.take 5 (listed' := #[true, true, true, true, true, true]) h6502q rfl rfl (by kernel_rfl) rfl rfl (.bool (!decide ((toS r6445q) = (x5963q.take (mnI (x5963q.length : Int) (mxI 1 ((gt z32 p1 x5967q).f2))).toNat)))) (fun w_ hs_ => (run_strne rfl rfl rfl)) ⟨(fun _ _ hk_ => (hS6490q).pool.kn hk_), trivial⟩ (fun _ _ _ h_ => h_) (fun a6503q h6504q => ?_)
                        clear h6502q a6501q
                        refine WH.done (by kernel_rfl) ?_
                        by_cases c6505q : (toS r6445q) = (x5963q.take (mnI (x5963q.length : Int) (mxI 1 ((gt z32 p1 x5967q).f2))).toNat)
                        · rw [if_pos c6505q] at H
                          have hb_ : (decide ((toS r6445q) = (x5963q.take (mnI (x5963q.length : Int) (mxI 1 ((gt z32 p1 x5967q).f2))).toNat))) = true := decide_eq_true c6505q
                          try rw [hb_] at h6504q
                          clear hb_
                          refine wp_else h6504q rfl ?_
                          refine wp_skip ?_
                          refine wp_seq ?_
                          refine WL.start ?_
                          refine WL.block (c := 2) (m' := 2) h6504q rfl [(98, .slice A6458q r6445q.length c6459q), (97, .string (mkS x5964q))] (by kernel_rfl) (fun a6506q h6507q => ?_)
                          clear h6504q a6503q
                          refine WL.op' (m := 2) h6507q rfl rfl ?_
                          refine owp_run (v := .string (mkS (toS r6445q))) h6507q rfl (by kernel_rfl) (run_tostr rfl rfl hr6454q.rds (fun _ _ hk_ => (hS6490q).pool.kn hk_) Try.underlying22 Try.underlying5 Try.underlying9) (fun a6508q h6509q => ?_)
                          clear h6507q a6506q
                          by_cases c6510q : x5964q.length + (toS r6445q).length ≤ 9223372036854775807
                          · rw [if_pos c6510q] at H
                            refine WL.op' (m := 3) h6509q rfl rfl ?_
                            refine owp_run (v := .string (mkS (x5964q ++ (toS r6445q)))) h6509q rfl (by kernel_rfl) (run_concat rfl rfl rfl (by assumption)) (fun a6511q h6512q => ?_)
                            clear h6509q a6508q
                            refine WL.block (c := 1) (m' := 5) h6512q rfl [(8, .string (mkS (x5964q ++ (toS r6445q))))] (by kernel_rfl) (fun a6513q h6514q => ?_)
                            clear h6512q a6511q
                            refine WL.done (by kernel_rfl) ?_
                            refine wp_seq ?_
                            refine WL.start ?_
                            refine WL.block (c := 1) (m' := 1) h6514q rfl [(101, .slice A6458q r6445q.length c6459q)] (by kernel_rfl) (fun a6515q h6516q => ?_)
                            clear h6514q a6513q
                            refine WL.op' (m := 1) h6516q rfl rfl ?_
                            refine owp_clear1 (ty := 0) (z := .int .u8 0) (z0 := (0 : Int)) h6516q rfl (by kernel_rfl) rfl rfl hr6454q hS6490q Try.underlying22 (by kernel_rfl) (fun _ _ _ => ⟨rfl, rfl⟩) rfl rfl (fun a6517q W6519q M6520q h6518q hr6521q hS6522q => ?_)
                            clear h6516q a6515q
                            obtain ⟨y6523q, hy6524q, H⟩ := lete H
                            have hl6525q : y6523q.length = r6445q.length := by simp [hy6524q]
                            have hr6526q : Row (kInt .u8) 5 b w0 R (.slice A6458q y6523q.length c6459q) y6523q M6520q := by rw [hl6525q]; rw [hy6524q]; exact hr6521q
                            have h6527q : Hd a6517q 144 [(5, .int .i64 x5929q), (6, v5943q), (7, .string (mkS x5963q)), (8, .string (mkS (x5964q ++ (toS r6445q)))), (9, .string (mkS x5965q)), (10, .bool x5966q), (12, .pointer (some ⟨g5993q, 0, none⟩)), (15, .int .i64 (mnI (x5963q.length : Int) (mxI 1 ((gt z32 p1 x5967q).f2)))), (16, .slice A6458q y6523q.length c6459q), (29, .slice A1 p1.length c1), (30, .int .i64 (p1.length : Int)), (31, .int .i64 x5967q), (32, .bool true), (33, .pointer (some (ad5973q.add (x5967q.toNat * 3)))), (34, .agg #[.int .i64 ((gt z32 p1 x5967q).f0), .slice A5986q ((gt z32 p1 x5967q).f1).length c5987q, .int .i64 ((gt z32 p1 x5967q).f2)]), (35, .pointer (some ⟨g5993q, 1, none⟩)), (36, .slice A5986q ((gt z32 p1 x5967q).f1).length c5987q), (37, .int .i64 (((gt z32 p1 x5967q).f1).length : Int)), (38, .bool false), (40, .pointer (some ⟨g5993q, 0, none⟩)), (41, .int .i64 ((gt z32 p1 x5967q).f0)), (44, .bool false), (45, .bool false), (79, .bool true), (80, .bool true), (81, .string (mkS x5963q)), (82, .int .i64 (x5963q.length : Int)), (83, .pointer (some ⟨g5993q, 2, none⟩)), (84, .int .i64 ((gt z32 p1 x5967q).f2)), (85, .int .i64 (mxI 1 ((gt z32 p1 x5967q).f2))), (86, .int .i64 (mnI (x5963q.length : Int) (mxI 1 ((gt z32 p1 x5967q).f2)))), (87, v5943q), (88, .pointer (some ⟨g5993q, 2, none⟩)), (89, .int .i64 ((gt z32 p1 x5967q).f2)), (90, .slice A6458q y6523q.length c6459q), (91, .slice A6458q y6523q.length c6459q), (92, .string (mkS (toS r6445q))), (93, .string (mkS x5963q)), (94, .int .i64 (mnI (x5963q.length : Int) (mxI 1 ((gt z32 p1 x5967q).f2)))), (95, .string (mkS (x5963q.take (mnI (x5963q.length : Int) (mxI 1 ((gt z32 p1 x5967q).f2))).toNat))), (96, .bool false), (97, .string (mkS x5964q)), (98, .slice A6458q y6523q.length c6459q), (99, .string (mkS (toS r6445q))), (100, .string (mkS (x5964q ++ (toS r6445q)))), (101, .slice A6458q y6523q.length c6459q)] := h6518q.keep ⟨rfl, rfl, rfl, rfl, rfl, rfl, rfl, rfl, (by rw [hl6525q] <;> rfl), rfl, rfl, rfl, rfl, rfl, rfl, rfl, rfl, rfl, rfl, rfl, rfl, rfl, rfl, rfl, rfl, rfl, rfl, rfl, rfl, rfl, rfl, rfl, rfl, rfl, (by rw [hl6525q] <;> rfl), (by rw [hl6525q] <;> rfl), rfl, rfl, rfl, rfl, rfl, rfl, (by rw [hl6525q] <;> rfl), rfl, rfl, (by rw [hl6525q] <;> rfl), trivial⟩
                            clear h6518q
                            refine WL.done (by kernel_rfl) ?_
                            refine WL.start ?_
                            refine WL.block (c := 2) (m' := 2) h6527q rfl [(103, .int .i64 (mnI (x5963q.length : Int) (mxI 1 ((gt z32 p1 x5967q).f2)))), (102, .string (mkS x5963q))] (by kernel_rfl) (fun a6528q h6529q => ?_)
                            clear h6527q a6517q
                            refine WL.op' (m := 2) h6529q rfl rfl ?_
                            refine owp_run (v := .string (mkS (x5963q.drop (mnI (x5963q.length : Int) (mxI 1 ((gt z32 p1 x5967q).f2))).toNat))) h6529q rfl (by kernel_rfl) (run_strcut' (l := mnI (x5963q.length : Int) (mxI 1 ((gt z32 p1 x5967q).f2))) (h := (x5963q.length : Int)) rfl rfl Try.underlying9 ⟨_, rfl⟩ rfl (by first | assumption | omega) (by first | assumption | omega) (by first | assumption | omega) (by simp)) (fun a6530q h6531q => ?_)
                            clear h6529q a6528q
                            refine WL.block (c := 1) (m' := 4) h6531q rfl [(7, .string (mkS (x5963q.drop (mnI (x5963q.length : Int) (mxI 1 ((gt z32 p1 x5967q).f2))).toNat)))] (by kernel_rfl) (fun a6532q h6533q => ?_)
                            clear h6531q a6530q
                            refine WL.done (by kernel_rfl) ?_
                            have hS6534q : St b w0 W6519q R (M6455q :: [(g5993q, .cells ([.int .i64 ((gt z32 p1 x5967q).f0), .slice A5986q ((gt z32 p1 x5967q).f1).length c5987q, .int .i64 ((gt z32 p1 x5967q).f2)] : List Value).toArray 32 (0, 0))] :: Fs) := hS6522q.drop_
                            have hS6535q : St b w0 W6519q R ([(g5993q, .cells ([.int .i64 ((gt z32 p1 x5967q).f0), .slice A5986q ((gt z32 p1 x5967q).f1).length c5987q, .int .i64 ((gt z32 p1 x5967q).f2)] : List Value).toArray 32 (0, 0))] :: M6455q :: Fs) := hS6534q.bring 1 rfl rfl
                            have hS6536q : St b w0 W6519q R (M6455q :: Fs) := hS6535q.drop_
                            exact ⟨k5968q, r6446q, M6455q, x5963q.drop (mnI (x5963q.length : Int) (mxI 1 ((gt z32 p1 x5967q).f2))).toNat, x5964q ++ (toS r6445q), x5965q, x5966q, h6533q.keep ⟨rfl, rfl, rfl, rfl, rfl, rfl, rfl, rfl, rfl, trivial⟩, ⟨H⟩, ⟨by omega⟩, ⟨hS6536q⟩, ⟨hr6456q⟩⟩
                          · rw [if_neg c6510q] at H
                            cases H
                        · rw [if_neg c6505q] at H
                          have hb_ : (decide ((toS r6445q) = (x5963q.take (mnI (x5963q.length : Int) (mxI 1 ((gt z32 p1 x5967q).f2))).toNat))) = false := decide_eq_false c6505q
                          try rw [hb_] at h6504q
                          clear hb_
                          refine wp_then h6504q rfl ?_
                          refine wp_seq ?_
                          refine WL.start ?_
                          refine WL.block (c := 1) (m' := 1) h6504q rfl [(4, .bool false)] (by kernel_rfl) (fun a6537q h6538q => ?_)
                          clear h6504q a6503q
                          refine WL.done (by kernel_rfl) ?_
                          refine wp_ret ?_
                          have hS6539q : St b w0 W6447q.drew R (M6455q :: [(g5993q, .cells ([.int .i64 ((gt z32 p1 x5967q).f0), .slice A5986q ((gt z32 p1 x5967q).f1).length c5987q, .int .i64 ((gt z32 p1 x5967q).f2)] : List Value).toArray 32 (0, 0))] :: Fs) := hS6490q.drop_
                          have hS6540q : St b w0 W6447q.drew R ([(g5993q, .cells ([.int .i64 ((gt z32 p1 x5967q).f0), .slice A5986q ((gt z32 p1 x5967q).f1).length c5987q, .int .i64 ((gt z32 p1 x5967q).f2)] : List Value).toArray 32 (0, 0))] :: Fs) := hS6539q.drop_
                          have hS6541q : St b w0 W6447q.drew R (Fs) := hS6540q.drop_
                          obtain rfl := Option.some.inj H
                          repeat (first | refine then_ret ?_ | refine inBlock_ret ?_ | refine inBlock_go ?_)
                          refine body_ret (v := .bool false) h6538q (by kernel_rfl) (by kernel_rfl) ?_
                          exact ⟨rfl, hS6541q⟩
                      · rw [if_neg c6500q] at H
                        cases H
                    · rw [if_neg c6499q] at H
                      cases H
                  · rw [if_neg c6432q] at H
                    have hb_ : (decide (((gt z32 p1 x5967q).f0) = 1)) = false := decide_eq_false c6432q
                    try rw [hb_] at h6431q
                    clear hb_
                    refine wp_else h6431q rfl ?_
                    refine wp_seq ?_
                    refine WL.start ?_
                    refine WL.block (c := 1) (m' := 1) h6431q rfl [(42, v5943q)] (by kernel_rfl) (fun a6542q h6543q => ?_)
                    clear h6431q a6430q
                    have hS6544q : St b w0 W5997q R (M5961q :: [(g5993q, .cells ([.int .i64 ((gt z32 p1 x5967q).f0), .slice A5986q ((gt z32 p1 x5967q).f1).length c5987q, .int .i64 ((gt z32 p1 x5967q).f2)] : List Value).toArray 32 (0, 0))] :: Fs) := hS5998q.bring 1 rfl rfl
                    obtain ⟨r6546q, A6545q, H⟩ := bind1 H
                    refine WL.op' (m := 1) h6543q rfl rfl ?_
                    refine owp_call [v5943q] h6543q rfl (by kernel_rfl) rfl Try.func11 (by kernel_rfl) rfl (by kernel_rfl) (pipe_Pipe_Cut.calls hr5962q A6545q hS6544q) (fun e6548q W6547q hp6549q => ?_)
                    obtain ⟨M6552q, rfl, hr6553q, hS6554q⟩ := hp6549q
                    refine ⟨_, rfl, fun a6550q h6551q => ?_⟩
                    clear h6543q a6542q
                    refine WL.done (by kernel_rfl) ?_
                    refine wp_seq ?_
                    refine WL.start ?_
                    refine WL.block (c := 1) (m' := 1) h6551q rfl [(10, .bool true)] (by kernel_rfl) (fun a6555q h6556q => ?_)
                    clear h6551q a6550q
                    refine WL.done (by kernel_rfl) ?_
                    refine WL.start ?_
                    refine WL.block (c := 1) (m' := 1) h6556q rfl [(7, .string (mkS ([] : List UInt8)))] (by kernel_rfl) (fun a6557q h6558q => ?_)
                    clear h6556q a6555q
                    refine WL.done (by kernel_rfl) ?_
                    have hS6559q : St b w0 W6547q R ([(g5993q, .cells ([.int .i64 ((gt z32 p1 x5967q).f0), .slice A5986q ((gt z32 p1 x5967q).f1).length c5987q, .int .i64 ((gt z32 p1 x5967q).f2)] : List Value).toArray 32 (0, 0))] :: M6552q :: Fs) := hS6554q.bring 1 rfl rfl
                    have hS6560q : St b w0 W6547q R (M6552q :: Fs) := hS6559q.drop_
                    exact ⟨k5968q, r6546q, M6552q, ([] : List UInt8), x5964q, x5965q, true, h6558q.keep ⟨rfl, rfl, rfl, rfl, rfl, rfl, rfl, rfl, rfl, trivial⟩, ⟨H⟩, ⟨by omega⟩, ⟨hS6560q⟩, ⟨hr6553q⟩⟩
              · clear H hS5998q
                rintro a6283q W6284q ⟨k6286q, x6287q, M6288q, x6290q, x6291q, x6292q, x6293q, h6282q, ⟨H⟩, ⟨hkk6286q⟩, ⟨hS6285q⟩, ⟨hr6289q⟩⟩
                obtain _ | k6561q := k6286q
                · exact absurd H (by simp [louverlaw26qPipePlays.j3])
                simp only [louverlaw26qPipePlays.j3] at H
                refine wp_seq ?_
                refine WL.start ?_
                refine WL.block (c := 5) (m' := 5) h6282q rfl [(17, .int .i64 (IntKind.i64.wrap (x5929q - (x6290q.length : Int)))), (108, .int .i64 (IntKind.i64.wrap (x5929q - (x6290q.length : Int)))), (107, .int .i64 (x6290q.length : Int)), (106, .string (mkS x6290q)), (105, .int .i64 x5929q)] (by kernel_rfl) (fun a6562q h6563q => ?_)
                clear h6282q a6283q
                refine WL.done (by kernel_rfl) ?_
                refine wp_seq ?_
                refine wp_seq ?_
                refine WL.start ?_
                refine WL.block (c := 1) (m' := 1) h6563q rfl [(109, .bool x6293q)] (by kernel_rfl) (fun a6564q h6565q => ?_)
                clear h6563q a6562q
                refine WL.done (by kernel_rfl) ?_
                refine wp_meet (I := fun a_ W_ => ∃ kq_, ∃ (x6574q : Bool), ∃ (x6575q : Int), Hd a_ 144 [(5, .int .i64 x5929q), (6, v5943q), (7, .string (mkS x6290q)), (8, .string (mkS x6291q)), (9, .string (mkS x6292q)), (10, .bool x6574q), (17, .int .i64 x6575q), (29, .slice A1 p1.length c1), (30, .int .i64 (p1.length : Int)), (31, .int .i64 x5967q)] ∧ Asd (louverlaw26qPipePlays.j5 kq_ x6574q x6575q p1 x5929q x5967q x6287q x6290q x6291q x6292q = some r0q) ∧ Asd (kq_ ≤ k6561q) ∧ Asd (St b w0 W_ R (M6288q :: Fs))) ?_ ?_
                · by_cases c6576q : x6293q = true
                  · rw [if_pos c6576q] at H
                    have hb_ : x6293q = true := c6576q
                    try rw [hb_] at h6565q
                    clear hb_
                    refine wp_then h6565q rfl ?_
                    refine WL.start ?_
                    refine WL.block (c := 1) (m' := 1) h6565q rfl [(17, .int .i64 0)] (by kernel_rfl) (fun a6577q h6578q => ?_)
                    clear h6565q a6564q
                    refine WL.done (by kernel_rfl) ?_
                    exact ⟨k6561q, true, 0, h6578q.keep ⟨rfl, rfl, rfl, rfl, rfl, rfl, rfl, rfl, rfl, rfl, trivial⟩, ⟨H⟩, ⟨by omega⟩, ⟨hS6285q⟩⟩
                  · rw [if_neg c6576q] at H
                    have hb_ : x6293q = false := (Bool.eq_false_iff.2 c6576q)
                    try rw [hb_] at h6565q
                    clear hb_
                    refine wp_else h6565q rfl ?_
                    refine wp_skip ?_
                    exact ⟨k6561q, false, IntKind.i64.wrap (x5929q - (x6290q.length : Int)), h6565q.keep ⟨rfl, rfl, rfl, rfl, rfl, rfl, rfl, rfl, rfl, rfl, trivial⟩, ⟨H⟩, ⟨by omega⟩, ⟨hS6285q⟩⟩
                · clear H hS6285q
                  rintro a6570q W6571q ⟨k6573q, x6574q, x6575q, h6569q, ⟨H⟩, ⟨hkk6573q⟩, ⟨hS6572q⟩⟩
                  obtain _ | k6579q := k6573q
                  · exact absurd H (by simp [louverlaw26qPipePlays.j5])
                  simp only [louverlaw26qPipePlays.j5] at H
                  refine wp_seq ?_
                  refine WL.start ?_
                  refine WL.block (c := 1) (m' := 1) h6569q rfl [(110, v5943q)] (by kernel_rfl) (fun a6580q h6581q => ?_)
                  clear h6569q a6570q
                  obtain ⟨r6583q, A6582q, H⟩ := bind1 H
                  refine WL.op' (m := 1) h6581q rfl rfl ?_
                  refine owp_call [v5943q] h6581q rfl (by kernel_rfl) rfl Try.func10 (by kernel_rfl) rfl (by kernel_rfl) (pipe_Pipe_Len.calls hr6289q A6582q hS6572q) (fun e6585q W6584q hp6586q => ?_)
                  obtain ⟨M6589q, rfl, hr6590q, hS6591q⟩ := hp6586q
                  refine ⟨_, rfl, fun a6587q h6588q => ?_⟩
                  clear h6581q a6580q
                  refine WL.block (c := 4) (m' := 6) h6588q rfl [(115, .bool (!decide (r6583q = (x6290q.length : Int)))), (114, .bool (!decide (r6583q = (x6290q.length : Int)))), (113, .int .i64 (x6290q.length : Int)), (112, .string (mkS x6290q))] (by kernel_rfl) (fun a6592q h6593q => ?_)
                  clear h6588q a6587q
                  by_cases c6594q : r6583q = (x6290q.length : Int)
                  · rw [if_pos c6594q] at H
                    have hb_ : (decide (r6583q = (x6290q.length : Int))) = true := decide_eq_true c6594q
                    try rw [hb_] at h6593q
                    clear hb_
                    refine WL.op' (m := 6) h6593q rfl rfl (owp_run h6593q rfl (by kernel_rfl) (v := v5943q) (by kernel_rfl) (fun a6595q h6596q => ?_))
                    clear h6593q a6592q
                    obtain ⟨r6598q, A6597q, H⟩ := bind1 H
                    refine WL.op' (m := 7) h6596q rfl rfl ?_
                    refine owp_call [v5943q] h6596q rfl (by kernel_rfl) rfl Try.func12 (by kernel_rfl) rfl (by kernel_rfl) (pipe_Pipe_Room.calls hr6590q A6597q hS6591q) (fun e6600q W6599q hp6601q => ?_)
                    obtain ⟨M6604q, rfl, hr6605q, hS6606q⟩ := hp6601q
                    refine ⟨_, rfl, fun a6602q h6603q => ?_⟩
                    clear h6596q a6595q
                    refine WL.op' (m := 8) h6603q rfl rfl (owp_run h6603q rfl (by kernel_rfl) (v := .int .i64 x6575q) (by kernel_rfl) (fun a6607q h6608q => ?_))
                    clear h6603q a6602q
                    refine WL.op' (m := 9) h6608q rfl rfl (owp_run h6608q rfl (by kernel_rfl) (v := .bool (!decide (r6598q = x6575q))) (by kernel_rfl) (fun a6609q h6610q => ?_))
                    clear h6608q a6607q
                    refine WL.block (c := 2) (m' := 12) h6610q rfl [(121, .bool (!decide (r6598q = x6575q))), (120, .bool (!decide (r6598q = x6575q)))] (by kernel_rfl) (fun a6611q h6612q => ?_)
                    clear h6610q a6609q
                    by_cases c6613q : r6598q = x6575q
                    · rw [if_pos c6613q] at H
                      have hb_ : (decide (r6598q = x6575q)) = true := decide_eq_true c6613q
                      try rw [hb_] at h6612q
                      clear hb_
                      refine WL.op' (m := 12) h6612q rfl rfl (owp_run h6612q rfl (by kernel_rfl) (v := v5943q) (by kernel_rfl) (fun a6614q h6615q => ?_))
                      clear h6612q a6611q
                      obtain ⟨r6617q, A6616q, H⟩ := bind1 H
                      refine WL.op' (m := 13) h6615q rfl rfl ?_
                      refine owp_call [v5943q] h6615q rfl (by kernel_rfl) rfl Try.func13 (by kernel_rfl) rfl (by kernel_rfl) (pipe_Pipe_IsCut.calls hr6605q A6616q hS6606q) (fun e6619q W6618q hp6620q => ?_)
                      obtain ⟨M6623q, rfl, hr6624q, hS6625q⟩ := hp6620q
                      refine ⟨_, rfl, fun a6621q h6622q => ?_⟩
                      clear h6615q a6614q
                      refine WL.op' (m := 14) h6622q rfl rfl (owp_run h6622q rfl (by kernel_rfl) (v := .bool x6574q) (by kernel_rfl) (fun a6626q h6627q => ?_))
                      clear h6622q a6621q
                      refine WL.op' (m := 15) h6627q rfl rfl (owp_run h6627q rfl (by kernel_rfl) (v := .bool (r6617q != x6574q)) (by kernel_rfl) (fun a6628q h6629q => ?_))
                      clear h6627q a6626q
                      refine WL.block (c := 2) (m' := 18) h6629q rfl [(127, .bool (r6617q != x6574q)), (126, .bool (r6617q != x6574q))] (by kernel_rfl) (fun a6630q h6631q => ?_)
                      clear h6629q a6628q
                      by_cases c6632q : (r6617q != x6574q) = true
                      · rw [if_pos c6632q] at H
                        have hb_ : (r6617q != x6574q) = true := c6632q
                        try rw [hb_] at h6631q
                        clear hb_
                        refine WL.skipped (m := 18) h6631q rfl rfl (by kernel_rfl) rfl (fun a6633q h6634q => ?_)
                        clear h6631q a6630q
                        refine WL.skipped (m := 19) h6634q rfl rfl (by kernel_rfl) rfl (fun a6635q h6636q => ?_)
                        clear h6634q a6633q
                        refine WL.skipped (m := 20) h6636q rfl rfl (by kernel_rfl) rfl (fun a6637q h6638q => ?_)
                        clear h6636q a6635q
                        refine WL.skipped (m := 21) h6638q rfl rfl (by kernel_rfl) rfl (fun a6639q h6640q => ?_)
                        clear h6638q a6637q
                        refine WL.skipped (m := 22) h6640q rfl rfl (by kernel_rfl) rfl (fun a6641q h6642q => ?_)
                        clear h6640q a6639q
                        refine WL.block (c := 2) (m' := 25) h6642q rfl [(134, .bool true), (133, .bool true)] (by kernel_rfl) (fun a6643q h6644q => ?_)
                        clear h6642q a6641q
                        refine WL.skipped (m := 25) h6644q rfl rfl (by kernel_rfl) rfl (fun a6645q h6646q => ?_)
                        clear h6644q a6643q
                        refine WL.skipped (m := 26) h6646q rfl rfl (by kernel_rfl) rfl (fun a6647q h6648q => ?_)
                        clear h6646q a6645q
                        refine WL.skipped (m := 27) h6648q rfl rfl (by kernel_rfl) rfl (fun a6649q h6650q => ?_)
                        clear h6648q a6647q
                        refine WL.skipped (m := 28) h6650q rfl rfl (by kernel_rfl) rfl (fun a6651q h6652q => ?_)
                        clear h6650q a6649q
                        refine WL.skipped (m := 29) h6652q rfl rfl (by kernel_rfl) rfl (fun a6653q h6654q => ?_)
                        clear h6652q a6651q
                        refine WL.skipped (m := 30) h6654q rfl rfl (by kernel_rfl) rfl (fun a6655q h6656q => ?_)
                        clear h6654q a6653q
                        refine WL.block (c := 1) (m' := 32) h6656q rfl [(141, .bool true)] (by kernel_rfl) (fun a6657q h6658q => ?_)
                        clear h6656q a6655q
                        refine WL.done (by kernel_rfl) ?_
                        refine wp_then h6658q rfl ?_
                        refine wp_seq ?_
                        refine WL.start ?_
                        refine WL.block (c := 1) (m' := 1) h6658q rfl [(4, .bool false)] (by kernel_rfl) (fun a6659q h6660q => ?_)
                        clear h6658q a6657q
                        refine WL.done (by kernel_rfl) ?_
                        refine wp_ret ?_
                        have hS6661q : St b w0 W6618q R (Fs) := hS6625q.drop_
                        obtain rfl := Option.some.inj H
                        repeat (first | refine then_ret ?_ | refine inBlock_ret ?_ | refine inBlock_go ?_)
                        refine body_ret (v := .bool false) h6660q (by kernel_rfl) (by kernel_rfl) ?_
                        exact ⟨rfl, hS6661q⟩
                      · rw [if_neg c6632q] at H
                        have hb_ : (r6617q != x6574q) = false := (Bool.eq_false_iff.2 c6632q)
                        try rw [hb_] at h6631q
                        clear hb_
                        refine WL.op' (m := 18) h6631q rfl rfl (owp_run h6631q rfl (by kernel_rfl) (v := .string (mkS x6291q)) (by kernel_rfl) (fun a6662q h6663q => ?_))
                        clear h6631q a6630q
                        refine WL.op' (m := 19) h6663q rfl rfl (owp_run h6663q rfl (by kernel_rfl) (v := .int .i64 (x6291q.length : Int)) (by kernel_rfl) (fun a6664q h6665q => ?_))
                        clear h6663q a6662q
                        refine WL.op' (m := 20) h6665q rfl rfl (owp_run h6665q rfl (by kernel_rfl) (v := .string (mkS x6292q)) (by kernel_rfl) (fun a6666q h6667q => ?_))
                        clear h6665q a6664q
                        refine WL.op' (m := 21) h6667q rfl rfl (owp_run h6667q rfl (by kernel_rfl) (v := .int .i64 (x6292q.length : Int)) (by kernel_rfl) (fun a6668q h6669q => ?_))
                        clear h6667q a6666q
                        refine WL.op' (m := 22) h6669q rfl rfl (owp_run h6669q rfl (by kernel_rfl) (v := .bool (decide ((x6291q.length : Int) > (x6292q.length : Int)))) (by kernel_rfl) (fun a6670q h6671q => ?_))
                        clear h6669q a6668q
                        refine WL.block (c := 2) (m' := 25) h6671q rfl [(134, .bool (decide ((x6291q.length : Int) > (x6292q.length : Int)))), (133, .bool (decide ((x6291q.length : Int) > (x6292q.length : Int))))] (by kernel_rfl) (fun a6672q h6673q => ?_)
                        clear h6671q a6670q
                        by_cases c6674q : (x6291q.length : Int) > (x6292q.length : Int)
                        · rw [if_pos c6674q] at H
                          have hb_ : (decide ((x6291q.length : Int) > (x6292q.length : Int))) = true := decide_eq_true c6674q
                          try rw [hb_] at h6673q
                          clear hb_
                          refine WL.skipped (m := 25) h6673q rfl rfl (by kernel_rfl) rfl (fun a6675q h6676q => ?_)
                          clear h6673q a6672q
                          refine WL.skipped (m := 26) h6676q rfl rfl (by kernel_rfl) rfl (fun a6677q h6678q => ?_)
                          clear h6676q a6675q
                          refine WL.skipped (m := 27) h6678q rfl rfl (by kernel_rfl) rfl (fun a6679q h6680q => ?_)
                          clear h6678q a6677q
                          refine WL.skipped (m := 28) h6680q rfl rfl (by kernel_rfl) rfl (fun a6681q h6682q => ?_)
                          clear h6680q a6679q
                          refine WL.skipped (m := 29) h6682q rfl rfl (by kernel_rfl) rfl (fun a6683q h6684q => ?_)
                          clear h6682q a6681q
                          refine WL.skipped (m := 30) h6684q rfl rfl (by kernel_rfl) rfl (fun a6685q h6686q => ?_)
                          clear h6684q a6683q
                          refine WL.block (c := 1) (m' := 32) h6686q rfl [(141, .bool true)] (by kernel_rfl) (fun a6687q h6688q => ?_)
                          clear h6686q a6685q
                          refine WL.done (by kernel_rfl) ?_
                          refine wp_then h6688q rfl ?_
                          refine wp_seq ?_
                          refine WL.start ?_
                          refine WL.block (c := 1) (m' := 1) h6688q rfl [(4, .bool false)] (by kernel_rfl) (fun a6689q h6690q => ?_)
                          clear h6688q a6687q
                          refine WL.done (by kernel_rfl) ?_
                          refine wp_ret ?_
                          have hS6691q : St b w0 W6618q R (Fs) := hS6625q.drop_
                          obtain rfl := Option.some.inj H
                          repeat (first | refine then_ret ?_ | refine inBlock_ret ?_ | refine inBlock_go ?_)
                          refine body_ret (v := .bool false) h6690q (by kernel_rfl) (by kernel_rfl) ?_
                          exact ⟨rfl, hS6691q⟩
                        · rw [if_neg c6674q] at H
                          have hb_ : (decide ((x6291q.length : Int) > (x6292q.length : Int))) = false := decide_eq_false c6674q
                          try rw [hb_] at h6673q
                          clear hb_
                          refine WL.op' (m := 25) h6673q rfl rfl (owp_run h6673q rfl (by kernel_rfl) (v := .string (mkS x6292q)) (by kernel_rfl) (fun a6692q h6693q => ?_))
                          clear h6673q a6672q
                          refine WL.op' (m := 26) h6693q rfl rfl (owp_run h6693q rfl (by kernel_rfl) (v := .string (mkS x6291q)) (by kernel_rfl) (fun a6694q h6695q => ?_))
                          clear h6693q a6692q
                          refine WL.op' (m := 27) h6695q rfl rfl (owp_run h6695q rfl (by kernel_rfl) (v := .int .i64 (x6291q.length : Int)) (by kernel_rfl) (fun a6696q h6697q => ?_))
                          clear h6695q a6694q
                          by_cases c6698q : 0 ≤ (x6291q.length : Int)
                          · rw [if_pos c6698q] at H
                            by_cases c6699q : (x6291q.length : Int) ≤ (x6292q.length : Int)
                            · rw [if_pos c6699q] at H
                              refine WL.op' (m := 28) h6697q rfl rfl ?_
                              refine owp_run (v := .string (mkS (x6292q.take (x6291q.length : Int).toNat))) h6697q rfl (by kernel_rfl) (run_strcut' (l := 0) (h := (x6291q.length : Int)) rfl rfl Try.underlying9 rfl ⟨_, rfl⟩ (by first | assumption | omega) (by first | assumption | omega) (by first | assumption | omega) (by simp)) (fun a6700q h6701q => ?_)
                              clear h6697q a6696q
                              refine WL.op' (m := 29) h6701q rfl rfl (owp_run h6701q rfl (by kernel_rfl) (v := .string (mkS x6291q)) (by kernel_rfl) (fun a6702q h6703q => ?_))
                              clear h6701q a6700q
                              refine WL.op' (m := 30) h6703q rfl rfl ?_
                              refine owp_run (v := .bool (!decide ((x6292q.take (x6291q.length : Int).toNat) = x6291q))) h6703q rfl (by kernel_rfl) (run_strne rfl rfl rfl) (fun a6704q h6705q => ?_)
                              clear h6703q a6702q
                              refine WL.block (c := 1) (m' := 32) h6705q rfl [(141, .bool (!decide ((x6292q.take (x6291q.length : Int).toNat) = x6291q)))] (by kernel_rfl) (fun a6706q h6707q => ?_)
                              clear h6705q a6704q
                              refine WL.done (by kernel_rfl) ?_
                              by_cases c6708q : (x6292q.take (x6291q.length : Int).toNat) = x6291q
                              · rw [if_pos c6708q] at H
                                have hb_ : (decide ((x6292q.take (x6291q.length : Int).toNat) = x6291q)) = true := decide_eq_true c6708q
                                try rw [hb_] at h6707q
                                clear hb_
                                refine wp_else h6707q rfl ?_
                                refine wp_skip ?_
                                refine WL.start ?_
                                refine WL.block (c := 2) (m' := 2) h6707q rfl [(31, .int .i64 (IntKind.i64.wrap (x5967q + 1))), (142, .int .i64 (IntKind.i64.wrap (x5967q + 1)))] (by kernel_rfl) (fun a6709q h6710q => ?_)
                                clear h6707q a6706q
                                refine WL.done (by kernel_rfl) ?_
                                exact ⟨k6579q, by omega, x6287q, M6623q, x6290q, x6291q, x6292q, x6574q, IntKind.i64.wrap (x5967q + 1), h6710q.keep ⟨rfl, rfl, rfl, rfl, rfl, rfl, rfl, rfl, rfl, trivial⟩, ⟨H⟩, ⟨by omega⟩, ⟨hS6625q⟩, ⟨hr6624q⟩⟩
                              · rw [if_neg c6708q] at H
                                have hb_ : (decide ((x6292q.take (x6291q.length : Int).toNat) = x6291q)) = false := decide_eq_false c6708q
                                try rw [hb_] at h6707q
                                clear hb_
                                refine wp_then h6707q rfl ?_
                                refine wp_seq ?_
                                refine WL.start ?_
                                refine WL.block (c := 1) (m' := 1) h6707q rfl [(4, .bool false)] (by kernel_rfl) (fun a6711q h6712q => ?_)
                                clear h6707q a6706q
                                refine WL.done (by kernel_rfl) ?_
                                refine wp_ret ?_
                                have hS6713q : St b w0 W6618q R (Fs) := hS6625q.drop_
                                obtain rfl := Option.some.inj H
                                repeat (first | refine then_ret ?_ | refine inBlock_ret ?_ | refine inBlock_go ?_)
                                refine body_ret (v := .bool false) h6712q (by kernel_rfl) (by kernel_rfl) ?_
                                exact ⟨rfl, hS6713q⟩
                            · rw [if_neg c6699q] at H
                              cases H
                          · rw [if_neg c6698q] at H
                            cases H
                    · rw [if_neg c6613q] at H
                      have hb_ : (decide (r6598q = x6575q)) = false := decide_eq_false c6613q
                      try rw [hb_] at h6612q
                      clear hb_
                      refine WL.skipped (m := 12) h6612q rfl rfl (by kernel_rfl) rfl (fun a6714q h6715q => ?_)
                      clear h6612q a6611q
                      refine WL.skipped (m := 13) h6715q rfl rfl (by kernel_rfl) rfl (fun a6716q h6717q => ?_)
                      clear h6715q a6714q
                      refine WL.skipped (m := 14) h6717q rfl rfl (by kernel_rfl) rfl (fun a6718q h6719q => ?_)
                      clear h6717q a6716q
                      refine WL.skipped (m := 15) h6719q rfl rfl (by kernel_rfl) rfl (fun a6720q h6721q => ?_)
                      clear h6719q a6718q
                      refine WL.block (c := 2) (m' := 18) h6721q rfl [(127, .bool true), (126, .bool true)] (by kernel_rfl) (fun a6722q h6723q => ?_)
                      clear h6721q a6720q
                      refine WL.skipped (m := 18) h6723q rfl rfl (by kernel_rfl) rfl (fun a6724q h6725q => ?_)
                      clear h6723q a6722q
                      refine WL.skipped (m := 19) h6725q rfl rfl (by kernel_rfl) rfl (fun a6726q h6727q => ?_)
                      clear h6725q a6724q
                      refine WL.skipped (m := 20) h6727q rfl rfl (by kernel_rfl) rfl (fun a6728q h6729q => ?_)
                      clear h6727q a6726q
                      refine WL.skipped (m := 21) h6729q rfl rfl (by kernel_rfl) rfl (fun a6730q h6731q => ?_)
                      clear h6729q a6728q
                      refine WL.skipped (m := 22) h6731q rfl rfl (by kernel_rfl) rfl (fun a6732q h6733q => ?_)
                      clear h6731q a6730q
                      refine WL.block (c := 2) (m' := 25) h6733q rfl [(134, .bool true), (133, .bool true)] (by kernel_rfl) (fun a6734q h6735q => ?_)
                      clear h6733q a6732q
                      refine WL.skipped (m := 25) h6735q rfl rfl (by kernel_rfl) rfl (fun a6736q h6737q => ?_)
                      clear h6735q a6734q
                      refine WL.skipped (m := 26) h6737q rfl rfl (by kernel_rfl) rfl (fun a6738q h6739q => ?_)
                      clear h6737q a6736q
                      refine WL.skipped (m := 27) h6739q rfl rfl (by kernel_rfl) rfl (fun a6740q h6741q => ?_)
                      clear h6739q a6738q
                      refine WL.skipped (m := 28) h6741q rfl rfl (by kernel_rfl) rfl (fun a6742q h6743q => ?_)
                      clear h6741q a6740q
                      refine WL.skipped (m := 29) h6743q rfl rfl (by kernel_rfl) rfl (fun a6744q h6745q => ?_)
                      clear h6743q a6742q
                      refine WL.skipped (m := 30) h6745q rfl rfl (by kernel_rfl) rfl (fun a6746q h6747q => ?_)
                      clear h6745q a6744q
                      refine WL.block (c := 1) (m' := 32) h6747q rfl [(141, .bool true)] (by kernel_rfl) (fun a6748q h6749q => ?_)
                      clear h6747q a6746q
                      refine WL.done (by kernel_rfl) ?_
                      refine wp_then h6749q rfl ?_
                      refine wp_seq ?_
                      refine WL.start ?_
                      refine WL.block (c := 1) (m' := 1) h6749q rfl [(4, .bool false)] (by kernel_rfl) (fun a6750q h6751q => ?_)
                      clear h6749q a6748q
                      refine WL.done (by kernel_rfl) ?_
                      refine wp_ret ?_
                      have hS6752q : St b w0 W6599q R (Fs) := hS6606q.drop_
                      obtain rfl := Option.some.inj H
                      repeat (first | refine then_ret ?_ | refine inBlock_ret ?_ | refine inBlock_go ?_)
                      refine body_ret (v := .bool false) h6751q (by kernel_rfl) (by kernel_rfl) ?_
                      exact ⟨rfl, hS6752q⟩
                  · rw [if_neg c6594q] at H
                    have hb_ : (decide (r6583q = (x6290q.length : Int))) = false := decide_eq_false c6594q
                    try rw [hb_] at h6593q
                    clear hb_
                    refine WL.skipped (m := 6) h6593q rfl rfl (by kernel_rfl) rfl (fun a6753q h6754q => ?_)
                    clear h6593q a6592q
                    refine WL.skipped (m := 7) h6754q rfl rfl (by kernel_rfl) rfl (fun a6755q h6756q => ?_)
                    clear h6754q a6753q
                    refine WL.skipped (m := 8) h6756q rfl rfl (by kernel_rfl) rfl (fun a6757q h6758q => ?_)
                    clear h6756q a6755q
                    refine WL.skipped (m := 9) h6758q rfl rfl (by kernel_rfl) rfl (fun a6759q h6760q => ?_)
                    clear h6758q a6757q
                    refine WL.block (c := 2) (m' := 12) h6760q rfl [(121, .bool true), (120, .bool true)] (by kernel_rfl) (fun a6761q h6762q => ?_)
                    clear h6760q a6759q
                    refine WL.skipped (m := 12) h6762q rfl rfl (by kernel_rfl) rfl (fun a6763q h6764q => ?_)
                    clear h6762q a6761q
                    refine WL.skipped (m := 13) h6764q rfl rfl (by kernel_rfl) rfl (fun a6765q h6766q => ?_)
                    clear h6764q a6763q
                    refine WL.skipped (m := 14) h6766q rfl rfl (by kernel_rfl) rfl (fun a6767q h6768q => ?_)
                    clear h6766q a6765q
                    refine WL.skipped (m := 15) h6768q rfl rfl (by kernel_rfl) rfl (fun a6769q h6770q => ?_)
                    clear h6768q a6767q
                    refine WL.block (c := 2) (m' := 18) h6770q rfl [(127, .bool true), (126, .bool true)] (by kernel_rfl) (fun a6771q h6772q => ?_)
                    clear h6770q a6769q
                    refine WL.skipped (m := 18) h6772q rfl rfl (by kernel_rfl) rfl (fun a6773q h6774q => ?_)
                    clear h6772q a6771q
                    refine WL.skipped (m := 19) h6774q rfl rfl (by kernel_rfl) rfl (fun a6775q h6776q => ?_)
                    clear h6774q a6773q
                    refine WL.skipped (m := 20) h6776q rfl rfl (by kernel_rfl) rfl (fun a6777q h6778q => ?_)
                    clear h6776q a6775q
                    refine WL.skipped (m := 21) h6778q rfl rfl (by kernel_rfl) rfl (fun a6779q h6780q => ?_)
                    clear h6778q a6777q
                    refine WL.skipped (m := 22) h6780q rfl rfl (by kernel_rfl) rfl (fun a6781q h6782q => ?_)
                    clear h6780q a6779q
                    refine WL.block (c := 2) (m' := 25) h6782q rfl [(134, .bool true), (133, .bool true)] (by kernel_rfl) (fun a6783q h6784q => ?_)
                    clear h6782q a6781q
                    refine WL.skipped (m := 25) h6784q rfl rfl (by kernel_rfl) rfl (fun a6785q h6786q => ?_)
                    clear h6784q a6783q
                    refine WL.skipped (m := 26) h6786q rfl rfl (by kernel_rfl) rfl (fun a6787q h6788q => ?_)
                    clear h6786q a6785q
                    refine WL.skipped (m := 27) h6788q rfl rfl (by kernel_rfl) rfl (fun a6789q h6790q => ?_)
                    clear h6788q a6787q
                    refine WL.skipped (m := 28) h6790q rfl rfl (by kernel_rfl) rfl (fun a6791q h6792q => ?_)
                    clear h6790q a6789q
                    refine WL.skipped (m := 29) h6792q rfl rfl (by kernel_rfl) rfl (fun a6793q h6794q => ?_)
                    clear h6792q a6791q
                    refine WL.skipped (m := 30) h6794q rfl rfl (by kernel_rfl) rfl (fun a6795q h6796q => ?_)
                    clear h6794q a6793q
                    refine WL.block (c := 1) (m' := 32) h6796q rfl [(141, .bool true)] (by kernel_rfl) (fun a6797q h6798q => ?_)
                    clear h6796q a6795q
                    refine WL.done (by kernel_rfl) ?_
                    refine wp_then h6798q rfl ?_
                    refine wp_seq ?_
                    refine WL.start ?_
                    refine WL.block (c := 1) (m' := 1) h6798q rfl [(4, .bool false)] (by kernel_rfl) (fun a6799q h6800q => ?_)
                    clear h6798q a6797q
                    refine WL.done (by kernel_rfl) ?_
                    refine wp_ret ?_
                    have hS6801q : St b w0 W6584q R (Fs) := hS6591q.drop_
                    obtain rfl := Option.some.inj H
                    repeat (first | refine then_ret ?_ | refine inBlock_ret ?_ | refine inBlock_go ?_)
                    refine body_ret (v := .bool false) h6800q (by kernel_rfl) (by kernel_rfl) ?_
                    exact ⟨rfl, hS6801q⟩
          · rw [if_neg c5972q] at H
            cases H
        · rw [if_neg c5971q] at H
          have hb_ : (decide (x5967q < (p1.length : Int))) = false := decide_eq_false c5971q
          try rw [hb_] at h5970q
          clear hb_
          refine wp_else h5970q rfl ?_
          refine wp_exit ?_
          refine wp_seq ?_
          refine WL.start ?_
          obtain ⟨r6803q, A6802q, H⟩ := bind1 H
          refine WL.op' (m := 0) h5970q rfl rfl ?_
          refine owp_call [] h5970q rfl (by kernel_rfl) rfl Try.func6 (by kernel_rfl) rfl (by kernel_rfl) (louverlaw26qfixed.calls  A6802q hS5958q) (fun e6805q W6804q hp6806q => ?_)
          obtain ⟨rfl, hS6809q⟩ := hp6806q
          refine ⟨_, rfl, fun a6807q h6808q => ?_⟩
          clear h5970q a5969q
          refine WL.block (c := 1) (m' := 2) h6808q rfl [(4, .bool r6803q)] (by kernel_rfl) (fun a6810q h6811q => ?_)
          clear h6808q a6807q
          refine WL.done (by kernel_rfl) ?_
          refine wp_ret ?_
          have hS6812q : St b w0 W6804q R (Fs) := hS6809q.drop_
          obtain rfl := Option.some.inj H
          repeat (first | refine then_ret ?_ | refine inBlock_ret ?_ | refine inBlock_go ?_)
          refine body_ret (v := .bool r6803q) h6811q (by kernel_rfl) (by kernel_rfl) ?_
          exact ⟨rfl, hS6812q⟩

/-! ### louver/louverlaw26.PipeThrough -/
mutual
def louverlaw26qPipeThrough.l0 : Nat → S36 → (List UInt8) → (List Int) → Int → (List Int) → Int → Int → Option (Bool)
  | 0, _, _, _, _, _, _, _ => none
  | k + 1, x7588q, x7591q, x7592q, x7596q, p1, p2, p3 => if x7596q < (IntKind.i64.wrap ((IntKind.i64.wrap (2 * (p1.length : Int))) + 2)) then (if 0 ≤ (mnI (x7592q.length : Int) (IntKind.i64.wrap (1 + (IntKind.i64.wrap p2)))) then (if (mnI (x7592q.length : Int) (IntKind.i64.wrap (1 + (IntKind.i64.wrap p2)))) ≤ (x7592q.length : Int) then (bnd2 (pipe_Pipe_Write.f x7588q (x7592q.take (mnI (x7592q.length : Int) (IntKind.i64.wrap (1 + (IntKind.i64.wrap p2)))).toNat)) fun r7613q r7614q => (if 0 ≤ r7613q then (if r7613q ≤ (x7592q.length : Int) then (bnd2 (pipe_Pipe_Read.f r7614q (IntKind.i64.wrap (1 + (IntKind.i64.wrap p3)))) fun r7641q r7642q => (if x7591q.length + (toS r7641q).length ≤ 9223372036854775807 then (louverlaw26qPipeThrough.l0 k r7642q (x7591q ++ (toS r7641q)) (x7592q.drop r7613q.toNat) (IntKind.i64.wrap (x7596q + 1)) p1 p2 p3) else (none))) else (none)) else (none))) else (none)) else (none)) else (louverlaw26qPipeThrough.l1 k x7588q x7591q 0 p1 p3)
def louverlaw26qPipeThrough.l1 : Nat → S36 → (List UInt8) → Int → (List Int) → Int → Option (Bool)
  | 0, _, _, _, _, _ => none
  | k + 1, x7673q, x7676q, x7677q, p1, p3 => if x7677q < (p1.length : Int) then (bnd2 (pipe_Pipe_Read.f x7673q (IntKind.i64.wrap (1 + (IntKind.i64.wrap p3)))) fun r7685q r7686q => (if x7676q.length + (toS r7685q).length ≤ 9223372036854775807 then (louverlaw26qPipeThrough.l1 k r7686q (x7676q ++ (toS r7685q)) (IntKind.i64.wrap (x7677q + 1)) p1 p3) else (none))) else (bnd1 (louverlaw26qfixed.f) fun r7711q => (if r7711q = true then (if x7676q = (toS p1) then (bnd1 (pipe_Pipe_Len.f x7673q) fun r7735q => (some (decide (r7735q = 0)))) else (some false)) else (some false)))
end
def louverlaw26qPipeThrough.f (k : Nat) (p0 : Int) (p1 : (List Int)) (p2 : Int) (p3 : Int) : Option (Bool) := if (p1.length : Int) > 3000 then (bnd1 (louverlaw26qfixed.f) fun r7553q => (some r7553q)) else (bnd1 (pipe_New.f p0) fun r7565q => (louverlaw26qPipeThrough.l0 k r7565q ([] : List UInt8) p1 0 p1 p2 p3))
set_option maxHeartbeats 2000000 in
set_option maxRecDepth 100000 in
theorem louverlaw26qPipeThrough.calls (k : Nat) {b : Nat} {w0 W : World} {R : Frag} {Fs : List Frag} {p0 : Int} {p1 : (List Int)} {p2 : Int} {p3 : Int} {v1 : Value} {r0q : Bool} (hp1 : Rds (kInt .u8) b w0 R v1 p1) (H : louverlaw26qPipeThrough.f k p0 p1 p2 p3 = some r0q) (hS : St b w0 W R (Fs)) :
    Calls Try.prog 3 ([.int .i64 p0, v1, .int .u8 p2, .int .u8 p3] : List Value).toArray W (fun e W' => e = .returned (.bool r0q) ∧ St b w0 W' R (Fs)) := by
  obtain ⟨A1, c1, rfl⟩ := hp1.form
  unfold louverlaw26qPipeThrough.f at H
  refine calls_enter Try.func3 rfl 73 rfl (by kernel_rfl) (fun a h => ?_)
  refine wp_seq ?_
  refine WL.start ?_
  refine WL.block (c := 1) (m' := 1) h rfl [(8, .bool false)] (by kernel_rfl) (fun a7547q h7548q => ?_)
  refine WL.done (by kernel_rfl) ?_
  refine wp_seq ?_
  refine wp_seq ?_
  refine WL.start ?_
  refine WL.block (c := 3) (m' := 3) h7548q rfl [(15, .bool (decide ((p1.length : Int) > 3000))), (14, .int .i64 (p1.length : Int)), (13, .slice A1 p1.length c1)] (by kernel_rfl) (fun a7549q h7550q => ?_)
  clear h7548q a7547q
  refine WL.done (by kernel_rfl) ?_
  by_cases c7551q : (p1.length : Int) > 3000
  · rw [if_pos c7551q] at H
    have hb_ : (decide ((p1.length : Int) > 3000)) = true := decide_eq_true c7551q
    try rw [hb_] at h7550q
    clear hb_
    refine wp_then h7550q rfl ?_
    refine wp_seq ?_
    refine WL.start ?_
    obtain ⟨r7553q, A7552q, H⟩ := bind1 H
    refine WL.op' (m := 0) h7550q rfl rfl ?_
    refine owp_call [] h7550q rfl (by kernel_rfl) rfl Try.func6 (by kernel_rfl) rfl (by kernel_rfl) (louverlaw26qfixed.calls  A7552q hS) (fun e7555q W7554q hp7556q => ?_)
    obtain ⟨rfl, hS7559q⟩ := hp7556q
    refine ⟨_, rfl, fun a7557q h7558q => ?_⟩
    clear h7550q a7549q
    refine WL.block (c := 1) (m' := 2) h7558q rfl [(8, .bool r7553q)] (by kernel_rfl) (fun a7560q h7561q => ?_)
    clear h7558q a7557q
    refine WL.done (by kernel_rfl) ?_
    refine wp_ret ?_
    obtain rfl := Option.some.inj H
    repeat (first | refine then_ret ?_ | refine inBlock_ret ?_ | refine inBlock_go ?_)
    refine body_ret (v := .bool r7553q) h7561q (by kernel_rfl) (by kernel_rfl) ?_
    exact ⟨rfl, hS7559q⟩
  · rw [if_neg c7551q] at H
    have hb_ : (decide ((p1.length : Int) > 3000)) = false := decide_eq_false c7551q
    try rw [hb_] at h7550q
    clear hb_
    refine wp_else h7550q rfl ?_
    refine wp_skip ?_
    refine wp_seq ?_
    refine WL.start ?_
    refine WL.block (c := 1) (m' := 1) h7550q rfl [(17, .int .i64 p0)] (by kernel_rfl) (fun a7562q h7563q => ?_)
    clear h7550q a7549q
    obtain ⟨r7565q, A7564q, H⟩ := bind1 H
    refine WL.op' (m := 1) h7563q rfl rfl ?_
    refine owp_call [.int .i64 p0] h7563q rfl (by kernel_rfl) rfl Try.func7 (by kernel_rfl) rfl (by kernel_rfl) (pipe_New.calls  A7564q hS) (fun e7567q W7566q hp7568q => ?_)
    obtain ⟨v7571q, M7572q, rfl, hr7573q, hS7574q⟩ := hp7568q
    refine ⟨_, rfl, fun a7569q h7570q => ?_⟩
    clear h7563q a7562q
    refine WL.block (c := 1) (m' := 3) h7570q rfl [(9, v7571q)] (by kernel_rfl) (fun a7575q h7576q => ?_)
    clear h7570q a7569q
    refine WL.done (by kernel_rfl) ?_
    refine wp_seq ?_
    refine WL.start ?_
    refine WL.block (c := 1) (m' := 1) h7576q rfl [(10, .string (mkS ([] : List UInt8)))] (by kernel_rfl) (fun a7577q h7578q => ?_)
    clear h7576q a7575q
    refine WL.done (by kernel_rfl) ?_
    refine wp_seq ?_
    refine WL.start ?_
    refine WL.block (c := 2) (m' := 2) h7578q rfl [(11, .slice A1 p1.length c1), (19, .slice A1 p1.length c1)] (by kernel_rfl) (fun a7579q h7580q => ?_)
    clear h7578q a7577q
    refine WL.done (by kernel_rfl) ?_
    refine wp_seq ?_
    refine wp_seq ?_
    refine WL.start ?_
    refine WL.block (c := 5) (m' := 5) h7580q rfl [(24, .int .i64 0), (23, .int .i64 (IntKind.i64.wrap ((IntKind.i64.wrap (2 * (p1.length : Int))) + 2))), (22, .int .i64 (IntKind.i64.wrap (2 * (p1.length : Int)))), (21, .int .i64 (p1.length : Int)), (20, .slice A1 p1.length c1)] (by kernel_rfl) (fun a7581q h7582q => ?_)
    clear h7580q a7579q
    refine WL.done (by kernel_rfl) ?_
    refine wp_block ?_
    refine wp_loop_ghost (fun kq_ a_ W_ => ∃ (x7588q : S36), ∃ (M7589q : Frag), ∃ (x7591q : (List UInt8)), ∃ (x7592q : (List Int)), ∃ (A7593q : Option Addr), ∃ (c7594q : Nat), ∃ (x7596q : Int), Hd a_ 73 [(1, .slice A1 p1.length c1), (2, .int .u8 p2), (3, .int .u8 p3), (9, v7571q), (10, .string (mkS x7591q)), (11, .slice A7593q x7592q.length c7594q), (23, .int .i64 (IntKind.i64.wrap ((IntKind.i64.wrap (2 * (p1.length : Int))) + 2))), (24, .int .i64 x7596q)] ∧ Asd (louverlaw26qPipeThrough.l0 kq_ x7588q x7591q x7592q x7596q p1 p2 p3 = some r0q) ∧ Asd (kq_ ≤ k) ∧ Asd (St b w0 W_ R (M7589q :: Fs)) ∧ Asd (Ptr k36 36 b w0 R v7571q x7588q M7589q) ∧ Asd (Rds (kInt .u8) b w0 R (.slice A7593q x7592q.length c7594q) x7592q)) k ⟨r7565q, M7572q, ([] : List UInt8), p1, A1, c1, 0, h7582q.keep ⟨rfl, rfl, rfl, rfl, rfl, rfl, rfl, rfl, trivial⟩, ⟨H⟩, ⟨Nat.le_refl _⟩, ⟨hS7574q⟩, ⟨hr7573q⟩, ⟨hp1⟩⟩ ?_
    clear H hS7574q
    rintro k7587q a7584q W7585q ⟨x7588q, M7589q, x7591q, x7592q, A7593q, c7594q, x7596q, h7583q, ⟨H⟩, ⟨hkk7587q⟩, ⟨hS7586q⟩, ⟨hr7590q⟩, ⟨hx7595q⟩⟩
    obtain _ | k7597q := k7587q
    · exact absurd H (by simp [louverlaw26qPipeThrough.l0])
    simp only [louverlaw26qPipeThrough.l0] at H
    refine wp_seq ?_
    refine WL.start ?_
    refine WL.block (c := 1) (m' := 1) h7583q rfl [(25, .bool (decide (x7596q < (IntKind.i64.wrap ((IntKind.i64.wrap (2 * (p1.length : Int))) + 2)))))] (by kernel_rfl) (fun a7598q h7599q => ?_)
    clear h7583q a7584q
    refine WL.done (by kernel_rfl) ?_
    refine wp_seq ?_
    by_cases c7600q : x7596q < (IntKind.i64.wrap ((IntKind.i64.wrap (2 * (p1.length : Int))) + 2))
    · rw [if_pos c7600q] at H
      have hb_ : (decide (x7596q < (IntKind.i64.wrap ((IntKind.i64.wrap (2 * (p1.length : Int))) + 2)))) = true := decide_eq_true c7600q
      try rw [hb_] at h7599q
      clear hb_
      refine wp_then h7599q rfl ?_
      refine wp_skip ?_
      refine wp_seq ?_
      refine wp_block ?_
      refine wp_seq ?_
      refine WL.start ?_
      refine WL.block (c := 8) (m' := 8) h7599q rfl [(33, .int .i64 (mnI (x7592q.length : Int) (IntKind.i64.wrap (1 + (IntKind.i64.wrap p2))))), (32, .int .i64 (IntKind.i64.wrap (1 + (IntKind.i64.wrap p2)))), (31, .int .i64 (IntKind.i64.wrap p2)), (30, .int .u8 p2), (29, .int .i64 (x7592q.length : Int)), (28, .slice A7593q x7592q.length c7594q), (27, .slice A7593q x7592q.length c7594q), (26, v7571q)] (by kernel_rfl) (fun a7601q h7602q => ?_)
      clear h7599q a7598q
      by_cases c7603q : 0 ≤ (mnI (x7592q.length : Int) (IntKind.i64.wrap (1 + (IntKind.i64.wrap p2))))
      · rw [if_pos c7603q] at H
        by_cases c7604q : (mnI (x7592q.length : Int) (IntKind.i64.wrap (1 + (IntKind.i64.wrap p2)))) ≤ (x7592q.length : Int)
        · rw [if_pos c7604q] at H
          refine WL.op' (m := 8) h7602q rfl rfl ?_
          refine owp_run (v := sliced A7593q (0 : Int).toNat (mnI (x7592q.length : Int) (IntKind.i64.wrap (1 + (IntKind.i64.wrap p2)))).toNat c7594q 1) h7602q rfl (by kernel_rfl) (run_cut (l := 0) (h := mnI (x7592q.length : Int) (IntKind.i64.wrap (1 + (IntKind.i64.wrap p2)))) rfl rfl Try.underlying22 (by kernel_rfl) rfl ⟨_, rfl⟩ (by first | assumption | omega) (by first | assumption | omega) (by have q_ := Rds.cap hx7595q; omega) (by have q_ := Rds.cap hx7595q; omega)) (fun a7606q h7607q => ?_)
          clear h7602q a7601q
          have hx7605q := Rds.cut hx7595q (l := (0 : Int).toNat) (h := (mnI (x7592q.length : Int) (IntKind.i64.wrap (1 + (IntKind.i64.wrap p2)))).toNat) (by omega) (by omega)
          obtain ⟨v7608q, ev7609q⟩ : ∃ y_, y_ = sliced A7593q (0 : Int).toNat (mnI (x7592q.length : Int) (IntKind.i64.wrap (1 + (IntKind.i64.wrap p2)))).toNat c7594q 1 := ⟨_, rfl⟩
          have hx_ : Rds (kInt .u8) b w0 R v7608q (x7592q.take (mnI (x7592q.length : Int) (IntKind.i64.wrap (1 + (IntKind.i64.wrap p2)))).toNat) := hx7605q.as_ ev7609q.symm (by simp)
          rw [← ev7609q] at h7607q; clear ev7609q hx7605q
          have hx7605q := hx_; clear hx_
          obtain ⟨A7610q, c7611q, rfl⟩ := hx7605q.form
          obtain ⟨r7613q, r7614q, A7612q, H⟩ := bind2 H
          refine WL.op' (m := 9) h7607q rfl rfl ?_
          refine owp_call [v7571q, .slice A7610q (x7592q.take (mnI (x7592q.length : Int) (IntKind.i64.wrap (1 + (IntKind.i64.wrap p2)))).toNat).length c7611q] h7607q rfl (by kernel_rfl) rfl Try.func8 (by kernel_rfl) rfl (by kernel_rfl) (pipe_Pipe_Write.calls hr7590q hx7605q A7612q hS7586q) (fun e7616q W7615q hp7617q => ?_)
          obtain ⟨M7620q, rfl, hr7621q, hS7622q⟩ := hp7617q
          refine ⟨_, rfl, fun a7618q h7619q => ?_⟩
          clear h7607q a7606q
          refine WL.block (c := 1) (m' := 11) h7619q rfl [(12, .int .i64 r7613q)] (by kernel_rfl) (fun a7623q h7624q => ?_)
          clear h7619q a7618q
          refine WL.done (by kernel_rfl) ?_
          refine wp_seq ?_
          refine WL.start ?_
          refine WL.block (c := 2) (m' := 2) h7624q rfl [(37, .int .i64 r7613q), (36, .slice A7593q x7592q.length c7594q)] (by kernel_rfl) (fun a7625q h7626q => ?_)
          clear h7624q a7623q
          by_cases c7627q : 0 ≤ r7613q
          · rw [if_pos c7627q] at H
            by_cases c7628q : r7613q ≤ (x7592q.length : Int)
            · rw [if_pos c7628q] at H
              refine WL.op' (m := 2) h7626q rfl rfl ?_
              refine owp_run (v := sliced A7593q r7613q.toNat (x7592q.length : Int).toNat c7594q 1) h7626q rfl (by kernel_rfl) (run_cut (l := r7613q) (h := (x7592q.length : Int)) rfl rfl Try.underlying22 (by kernel_rfl) ⟨_, rfl⟩ rfl (by first | assumption | omega) (by first | assumption | omega) (by have q_ := Rds.cap hx7595q; omega) (by have q_ := Rds.cap hx7595q; omega)) (fun a7630q h7631q => ?_)
              clear h7626q a7625q
              have hx7629q := Rds.cut hx7595q (l := r7613q.toNat) (h := (x7592q.length : Int).toNat) (by omega) (by omega)
              obtain ⟨v7632q, ev7633q⟩ : ∃ y_, y_ = sliced A7593q r7613q.toNat (x7592q.length : Int).toNat c7594q 1 := ⟨_, rfl⟩
              have hx_ : Rds (kInt .u8) b w0 R v7632q (x7592q.drop r7613q.toNat) := hx7629q.as_ ev7633q.symm (by simp)
              rw [← ev7633q] at h7631q; clear ev7633q hx7629q
              have hx7629q := hx_; clear hx_
              obtain ⟨A7634q, c7635q, rfl⟩ := hx7629q.form
              refine WL.block (c := 1) (m' := 4) h7631q rfl [(11, .slice A7634q (x7592q.drop r7613q.toNat).length c7635q)] (by kernel_rfl) (fun a7636q h7637q => ?_)
              clear h7631q a7630q
              refine WL.done (by kernel_rfl) ?_
              refine WL.start ?_
              refine WL.block (c := 5) (m' := 5) h7637q rfl [(43, .int .i64 (IntKind.i64.wrap (1 + (IntKind.i64.wrap p3)))), (42, .int .i64 (IntKind.i64.wrap p3)), (41, .int .u8 p3), (40, v7571q), (39, .string (mkS x7591q))] (by kernel_rfl) (fun a7638q h7639q => ?_)
              clear h7637q a7636q
              obtain ⟨r7641q, r7642q, A7640q, H⟩ := bind2 H
              refine WL.op' (m := 5) h7639q rfl rfl ?_
              refine owp_call [v7571q, .int .i64 (IntKind.i64.wrap (1 + (IntKind.i64.wrap p3)))] h7639q rfl (by kernel_rfl) rfl Try.func9 (by kernel_rfl) rfl (by kernel_rfl) (pipe_Pipe_Read.calls hr7621q A7640q hS7622q) (fun e7644q W7643q hp7645q => ?_)
              obtain ⟨v7648q, M7649q, M7651q, rfl, hr7650q, hr7652q, hS7653q⟩ := hp7645q
              refine ⟨_, rfl, fun a7646q h7647q => ?_⟩
              clear h7639q a7638q
              obtain ⟨A7654q, c7655q, rfl⟩ := hr7650q.form
              refine WL.op' (m := 6) h7647q rfl rfl ?_
              refine owp_run (v := .string (mkS (toS r7641q))) h7647q rfl (by kernel_rfl) (run_tostr rfl rfl hr7650q.rds (fun _ _ hk_ => (hS7653q).pool.kn hk_) Try.underlying22 Try.underlying5 Try.underlying9) (fun a7656q h7657q => ?_)
              clear h7647q a7646q
              by_cases c7658q : x7591q.length + (toS r7641q).length ≤ 9223372036854775807
              · rw [if_pos c7658q] at H
                refine WL.op' (m := 7) h7657q rfl rfl ?_
                refine owp_run (v := .string (mkS (x7591q ++ (toS r7641q)))) h7657q rfl (by kernel_rfl) (run_concat rfl rfl rfl (by assumption)) (fun a7659q h7660q => ?_)
                clear h7657q a7656q
                refine WL.block (c := 1) (m' := 9) h7660q rfl [(10, .string (mkS (x7591q ++ (toS r7641q))))] (by kernel_rfl) (fun a7661q h7662q => ?_)
                clear h7660q a7659q
                refine WL.done (by kernel_rfl) ?_
                refine WL.start ?_
                refine WL.block (c := 2) (m' := 2) h7662q rfl [(24, .int .i64 (IntKind.i64.wrap (x7596q + 1))), (47, .int .i64 (IntKind.i64.wrap (x7596q + 1)))] (by kernel_rfl) (fun a7663q h7664q => ?_)
                clear h7662q a7661q
                refine WL.done (by kernel_rfl) ?_
                have hS7665q : St b w0 W7643q R (M7651q :: Fs) := hS7653q.drop_
                exact ⟨k7597q, by omega, r7642q, M7651q, x7591q ++ (toS r7641q), x7592q.drop r7613q.toNat, A7634q, c7635q, IntKind.i64.wrap (x7596q + 1), h7664q.keep ⟨rfl, rfl, rfl, rfl, rfl, rfl, rfl, rfl, trivial⟩, ⟨H⟩, ⟨by omega⟩, ⟨hS7665q⟩, ⟨hr7652q⟩, ⟨hx7629q⟩⟩
              · rw [if_neg c7658q] at H
                cases H
            · rw [if_neg c7628q] at H
              cases H
          · rw [if_neg c7627q] at H
            cases H
        · rw [if_neg c7604q] at H
          cases H
      · rw [if_neg c7603q] at H
        cases H
    · rw [if_neg c7600q] at H
      have hb_ : (decide (x7596q < (IntKind.i64.wrap ((IntKind.i64.wrap (2 * (p1.length : Int))) + 2)))) = false := decide_eq_false c7600q
      try rw [hb_] at h7599q
      clear hb_
      refine wp_else h7599q rfl ?_
      refine wp_exit ?_
      refine wp_seq ?_
      refine wp_seq ?_
      refine WL.start ?_
      refine WL.block (c := 3) (m' := 3) h7599q rfl [(50, .int .i64 0), (49, .int .i64 (p1.length : Int)), (48, .slice A1 p1.length c1)] (by kernel_rfl) (fun a7666q h7667q => ?_)
      clear h7599q a7598q
      refine WL.done (by kernel_rfl) ?_
      refine wp_block ?_
      refine wp_loop_ghost (fun kq_ a_ W_ => ∃ (x7673q : S36), ∃ (M7674q : Frag), ∃ (x7676q : (List UInt8)), ∃ (x7677q : Int), Hd a_ 73 [(1, .slice A1 p1.length c1), (3, .int .u8 p3), (9, v7571q), (10, .string (mkS x7676q)), (49, .int .i64 (p1.length : Int)), (50, .int .i64 x7677q)] ∧ Asd (louverlaw26qPipeThrough.l1 kq_ x7673q x7676q x7677q p1 p3 = some r0q) ∧ Asd (kq_ ≤ k7597q) ∧ Asd (St b w0 W_ R (M7674q :: Fs)) ∧ Asd (Ptr k36 36 b w0 R v7571q x7673q M7674q)) k7597q ⟨x7588q, M7589q, x7591q, 0, h7667q.keep ⟨rfl, rfl, rfl, rfl, rfl, rfl, trivial⟩, ⟨H⟩, ⟨Nat.le_refl _⟩, ⟨hS7586q⟩, ⟨hr7590q⟩⟩ ?_
      clear H hS7586q
      rintro k7672q a7669q W7670q ⟨x7673q, M7674q, x7676q, x7677q, h7668q, ⟨H⟩, ⟨hkk7672q⟩, ⟨hS7671q⟩, ⟨hr7675q⟩⟩
      obtain _ | k7678q := k7672q
      · exact absurd H (by simp [louverlaw26qPipeThrough.l1])
      simp only [louverlaw26qPipeThrough.l1] at H
      refine wp_seq ?_
      refine WL.start ?_
      refine WL.block (c := 1) (m' := 1) h7668q rfl [(51, .bool (decide (x7677q < (p1.length : Int))))] (by kernel_rfl) (fun a7679q h7680q => ?_)
      clear h7668q a7669q
      refine WL.done (by kernel_rfl) ?_
      refine wp_seq ?_
      by_cases c7681q : x7677q < (p1.length : Int)
      · rw [if_pos c7681q] at H
        have hb_ : (decide (x7677q < (p1.length : Int))) = true := decide_eq_true c7681q
        try rw [hb_] at h7680q
        clear hb_
        refine wp_then h7680q rfl ?_
        refine wp_skip ?_
        refine wp_seq ?_
        refine wp_block ?_
        refine WL.start ?_
        refine WL.block (c := 5) (m' := 5) h7680q rfl [(56, .int .i64 (IntKind.i64.wrap (1 + (IntKind.i64.wrap p3)))), (55, .int .i64 (IntKind.i64.wrap p3)), (54, .int .u8 p3), (53, v7571q), (52, .string (mkS x7676q))] (by kernel_rfl) (fun a7682q h7683q => ?_)
        clear h7680q a7679q
        obtain ⟨r7685q, r7686q, A7684q, H⟩ := bind2 H
        refine WL.op' (m := 5) h7683q rfl rfl ?_
        refine owp_call [v7571q, .int .i64 (IntKind.i64.wrap (1 + (IntKind.i64.wrap p3)))] h7683q rfl (by kernel_rfl) rfl Try.func9 (by kernel_rfl) rfl (by kernel_rfl) (pipe_Pipe_Read.calls hr7675q A7684q hS7671q) (fun e7688q W7687q hp7689q => ?_)
        obtain ⟨v7692q, M7693q, M7695q, rfl, hr7694q, hr7696q, hS7697q⟩ := hp7689q
        refine ⟨_, rfl, fun a7690q h7691q => ?_⟩
        clear h7683q a7682q
        obtain ⟨A7698q, c7699q, rfl⟩ := hr7694q.form
        refine WL.op' (m := 6) h7691q rfl rfl ?_
        refine owp_run (v := .string (mkS (toS r7685q))) h7691q rfl (by kernel_rfl) (run_tostr rfl rfl hr7694q.rds (fun _ _ hk_ => (hS7697q).pool.kn hk_) Try.underlying22 Try.underlying5 Try.underlying9) (fun a7700q h7701q => ?_)
        clear h7691q a7690q
        by_cases c7702q : x7676q.length + (toS r7685q).length ≤ 9223372036854775807
        · rw [if_pos c7702q] at H
          refine WL.op' (m := 7) h7701q rfl rfl ?_
          refine owp_run (v := .string (mkS (x7676q ++ (toS r7685q)))) h7701q rfl (by kernel_rfl) (run_concat rfl rfl rfl (by assumption)) (fun a7703q h7704q => ?_)
          clear h7701q a7700q
          refine WL.block (c := 1) (m' := 9) h7704q rfl [(10, .string (mkS (x7676q ++ (toS r7685q))))] (by kernel_rfl) (fun a7705q h7706q => ?_)
          clear h7704q a7703q
          refine WL.done (by kernel_rfl) ?_
          refine WL.start ?_
          refine WL.block (c := 2) (m' := 2) h7706q rfl [(50, .int .i64 (IntKind.i64.wrap (x7677q + 1))), (60, .int .i64 (IntKind.i64.wrap (x7677q + 1)))] (by kernel_rfl) (fun a7707q h7708q => ?_)
          clear h7706q a7705q
          refine WL.done (by kernel_rfl) ?_
          have hS7709q : St b w0 W7687q R (M7695q :: Fs) := hS7697q.drop_
          exact ⟨k7678q, by omega, r7686q, M7695q, x7676q ++ (toS r7685q), IntKind.i64.wrap (x7677q + 1), h7708q.keep ⟨rfl, rfl, rfl, rfl, rfl, rfl, trivial⟩, ⟨H⟩, ⟨by omega⟩, ⟨hS7709q⟩, ⟨hr7696q⟩⟩
        · rw [if_neg c7702q] at H
          cases H
      · rw [if_neg c7681q] at H
        have hb_ : (decide (x7677q < (p1.length : Int))) = false := decide_eq_false c7681q
        try rw [hb_] at h7680q
        clear hb_
        refine wp_else h7680q rfl ?_
        refine wp_exit ?_
        refine wp_seq ?_
        refine WL.start ?_
        obtain ⟨r7711q, A7710q, H⟩ := bind1 H
        refine WL.op' (m := 0) h7680q rfl rfl ?_
        refine owp_call [] h7680q rfl (by kernel_rfl) rfl Try.func6 (by kernel_rfl) rfl (by kernel_rfl) (louverlaw26qfixed.calls  A7710q hS7671q) (fun e7713q W7712q hp7714q => ?_)
        obtain ⟨rfl, hS7717q⟩ := hp7714q
        refine ⟨_, rfl, fun a7715q h7716q => ?_⟩
        clear h7680q a7679q
        refine WL.block (c := 1) (m' := 2) h7716q rfl [(62, .bool r7711q)] (by kernel_rfl) (fun a7718q h7719q => ?_)
        clear h7716q a7715q
        by_cases c7720q : r7711q = true
        · rw [if_pos c7720q] at H
          have hb_ : r7711q = true := c7720q
          try rw [hb_] at h7719q
          clear hb_
          refine WL.op' (m := 2) h7719q rfl rfl (owp_run h7719q rfl (by kernel_rfl) (v := .string (mkS x7676q)) (by kernel_rfl) (fun a7721q h7722q => ?_))
          clear h7719q a7718q
          refine WL.op' (m := 3) h7722q rfl rfl (owp_run h7722q rfl (by kernel_rfl) (v := .slice A1 p1.length c1) (by kernel_rfl) (fun a7723q h7724q => ?_))
          clear h7722q a7721q
          refine WL.op' (m := 4) h7724q rfl rfl ?_
          refine owp_run (v := .string (mkS (toS p1))) h7724q rfl (by kernel_rfl) (run_tostr rfl rfl hp1 (fun _ _ hk_ => hS7717q.kn hk_) Try.underlying22 Try.underlying5 Try.underlying9) (fun a7725q h7726q => ?_)
          clear h7724q a7723q
          refine WL.op' (m := 5) h7726q rfl rfl ?_
          refine owp_run (v := .bool (decide (x7676q = (toS p1)))) h7726q rfl (by kernel_rfl) (run_streq rfl rfl rfl) (fun a7727q h7728q => ?_)
          clear h7726q a7725q
          refine WL.block (c := 2) (m' := 8) h7728q rfl [(68, .bool (decide (x7676q = (toS p1)))), (67, .bool (decide (x7676q = (toS p1))))] (by kernel_rfl) (fun a7729q h7730q => ?_)
          clear h7728q a7727q
          by_cases c7731q : x7676q = (toS p1)
          · rw [if_pos c7731q] at H
            have hb_ : (decide (x7676q = (toS p1))) = true := decide_eq_true c7731q
            try rw [hb_] at h7730q
            clear hb_
            refine WL.op' (m := 8) h7730q rfl rfl (owp_run h7730q rfl (by kernel_rfl) (v := v7571q) (by kernel_rfl) (fun a7732q h7733q => ?_))
            clear h7730q a7729q
            obtain ⟨r7735q, A7734q, H⟩ := bind1 H
            refine WL.op' (m := 9) h7733q rfl rfl ?_
            refine owp_call [v7571q] h7733q rfl (by kernel_rfl) rfl Try.func10 (by kernel_rfl) rfl (by kernel_rfl) (pipe_Pipe_Len.calls hr7675q A7734q hS7717q) (fun e7737q W7736q hp7738q => ?_)
            obtain ⟨M7741q, rfl, hr7742q, hS7743q⟩ := hp7738q
            refine ⟨_, rfl, fun a7739q h7740q => ?_⟩
            clear h7733q a7732q
            refine WL.op' (m := 10) h7740q rfl rfl (owp_run h7740q rfl (by kernel_rfl) (v := .bool (decide (r7735q = 0))) (by kernel_rfl) (fun a7744q h7745q => ?_))
            clear h7740q a7739q
            refine WL.block (c := 2) (m' := 13) h7745q rfl [(8, .bool (decide (r7735q = 0))), (72, .bool (decide (r7735q = 0)))] (by kernel_rfl) (fun a7746q h7747q => ?_)
            clear h7745q a7744q
            refine WL.done (by kernel_rfl) ?_
            refine wp_ret ?_
            have hS7748q : St b w0 W7736q R (Fs) := hS7743q.drop_
            obtain rfl := Option.some.inj H
            repeat (first | refine then_ret ?_ | refine inBlock_ret ?_ | refine inBlock_go ?_)
            refine body_ret (v := .bool (decide (r7735q = 0))) h7747q (by kernel_rfl) (by kernel_rfl) ?_
            exact ⟨rfl, hS7748q⟩
          · rw [if_neg c7731q] at H
            have hb_ : (decide (x7676q = (toS p1))) = false := decide_eq_false c7731q
            try rw [hb_] at h7730q
            clear hb_
            refine WL.skipped (m := 8) h7730q rfl rfl (by kernel_rfl) rfl (fun a7749q h7750q => ?_)
            clear h7730q a7729q
            refine WL.skipped (m := 9) h7750q rfl rfl (by kernel_rfl) rfl (fun a7751q h7752q => ?_)
            clear h7750q a7749q
            refine WL.skipped (m := 10) h7752q rfl rfl (by kernel_rfl) rfl (fun a7753q h7754q => ?_)
            clear h7752q a7751q
            refine WL.block (c := 2) (m' := 13) h7754q rfl [(8, .bool false), (72, .bool false)] (by kernel_rfl) (fun a7755q h7756q => ?_)
            clear h7754q a7753q
            refine WL.done (by kernel_rfl) ?_
            refine wp_ret ?_
            have hS7757q : St b w0 W7712q R (Fs) := hS7717q.drop_
            obtain rfl := Option.some.inj H
            repeat (first | refine then_ret ?_ | refine inBlock_ret ?_ | refine inBlock_go ?_)
            refine body_ret (v := .bool false) h7756q (by kernel_rfl) (by kernel_rfl) ?_
            exact ⟨rfl, hS7757q⟩
        · rw [if_neg c7720q] at H
          have hb_ : r7711q = false := (Bool.eq_false_iff.2 c7720q)
          try rw [hb_] at h7719q
          clear hb_
          refine WL.skipped (m := 2) h7719q rfl rfl (by kernel_rfl) rfl (fun a7758q h7759q => ?_)
          clear h7719q a7718q
          refine WL.skipped (m := 3) h7759q rfl rfl (by kernel_rfl) rfl (fun a7760q h7761q => ?_)
          clear h7759q a7758q
          refine WL.skipped (m := 4) h7761q rfl rfl (by kernel_rfl) rfl (fun a7762q h7763q => ?_)
          clear h7761q a7760q
          refine WL.skipped (m := 5) h7763q rfl rfl (by kernel_rfl) rfl (fun a7764q h7765q => ?_)
          clear h7763q a7762q
          refine WL.block (c := 2) (m' := 8) h7765q rfl [(68, .bool false), (67, .bool false)] (by kernel_rfl) (fun a7766q h7767q => ?_)
          clear h7765q a7764q
          refine WL.skipped (m := 8) h7767q rfl rfl (by kernel_rfl) rfl (fun a7768q h7769q => ?_)
          clear h7767q a7766q
          refine WL.skipped (m := 9) h7769q rfl rfl (by kernel_rfl) rfl (fun a7770q h7771q => ?_)
          clear h7769q a7768q
          refine WL.skipped (m := 10) h7771q rfl rfl (by kernel_rfl) rfl (fun a7772q h7773q => ?_)
          clear h7771q a7770q
          refine WL.block (c := 2) (m' := 13) h7773q rfl [(8, .bool false), (72, .bool false)] (by kernel_rfl) (fun a7774q h7775q => ?_)
          clear h7773q a7772q
          refine WL.done (by kernel_rfl) ?_
          refine wp_ret ?_
          have hS7776q : St b w0 W7712q R (Fs) := hS7717q.drop_
          obtain rfl := Option.some.inj H
          repeat (first | refine then_ret ?_ | refine inBlock_ret ?_ | refine inBlock_go ?_)
          refine body_ret (v := .bool false) h7775q (by kernel_rfl) (by kernel_rfl) ?_
          exact ⟨rfl, hS7776q⟩
end Go.Proofs.Ytolpimhkpnonnaa.Sl
