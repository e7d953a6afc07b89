/- What the functions of this program compute, told as plain functions, and that the calls come to just that. Printed by this session's program; part 1. -/
import Derived.Test.YtfpeagbbbgeeeaaProg
import Derived.Test.YtfpeagbbbgeeeaaSlN
set_option linter.unusedVariables false
set_option linter.unusedSimpArgs false
set_option linter.unnecessarySimpa false
namespace Go.Proofs.Ytfpeagbbbgeeeaa.Sl
open Go Go.RowKit Go.Proofs.Sl
structure S44 where
  f0 : (List (List Int))
  f1 : Int
  f2 : Int
  f3 : Int
  deriving DecidableEq
def z44 : S44 := ⟨[], (0 : Int), (0 : Int), (0 : Int)⟩
def k44 : Kd S44 := kIso (kPair (kRow (kRow (kInt .u8) 5) 26) (kPair (kInt .i64) (kPair (kInt .i64) (kInt .i64)))) (fun x : S44 => (x.f0, (x.f1, (x.f2, x.f3))))
theorem k44qind : k44.Ind := kIso_ind (kPair_ind (kRow_ind (kRow_ind (kInt_ind _))) (kPair_ind (kInt_ind _) (kPair_ind (kInt_ind _) (kInt_ind _))))
theorem k44qrd {b : Nat} {w0 : World} {R : Frag} {x : S44} {cs : List Value} (h : k44.rd b w0 R x cs) : ∃ (vf0 : Value), cs = [vf0, .int .i64 x.f1, .int .i64 x.f2, .int .i64 x.f3] ∧ Rds (kRow (kInt .u8) 5) b w0 R vf0 x.f0 := by
  obtain ⟨c1q, c2q, rfl, h3q, h4q⟩ := h
  obtain ⟨c5q, c6q, rfl, h7q, h8q⟩ := h4q
  obtain ⟨c9q, c10q, rfl, h11q, h12q⟩ := h8q
  obtain ⟨v13q, rfl, g14q⟩ := h3q
  obtain rfl := h7q
  obtain rfl := h11q
  obtain rfl := h12q
  exact ⟨v13q, rfl, g14q⟩
theorem k44qrep {b : Nat} {w0 : World} {R : Frag} {x : S44} {cs : List Value} {M : Frag} (h : k44.rep b w0 R x cs M) : ∃ (vf0 : Value), ∃ (Mvf0 : Frag), cs = [vf0, .int .i64 x.f1, .int .i64 x.f2, .int .i64 x.f3] ∧ M = Mvf0 ∧ Row (kRow (kInt .u8) 5) 26 b w0 R vf0 x.f0 Mvf0 := by
  obtain ⟨c15q, c16q, M19q, M20q, rfl, rfl, h17q, h18q⟩ := h
  obtain ⟨c21q, c22q, M25q, M26q, rfl, rfl, h23q, h24q⟩ := h18q
  obtain ⟨c27q, c28q, M31q, M32q, rfl, rfl, h29q, h30q⟩ := h24q
  obtain ⟨v33q, rfl, g34q⟩ := h17q
  obtain ⟨rfl, rfl⟩ := h23q
  obtain ⟨rfl, rfl⟩ := h29q
  obtain ⟨rfl, rfl⟩ := h30q
  exact ⟨v33q, _, rfl, by simp, g34q⟩
theorem k44qmk {b : Nat} {w0 : World} {R : Frag} {x : S44} {vf0 : Value} {Mvf0 : Frag} (gvf0 : Row (kRow (kInt .u8) 5) 26 b w0 R vf0 x.f0 Mvf0) : ∃ M, k44.rep b w0 R x [vf0, .int .i64 x.f1, .int .i64 x.f2, .int .i64 x.f3] M ∧ M = Mvf0 := ⟨_, ⟨_, _, _, _, rfl, rfl, ⟨vf0, rfl, gvf0⟩, ⟨_, _, _, _, rfl, rfl, ⟨rfl, rfl⟩, ⟨_, _, _, _, rfl, rfl, ⟨rfl, rfl⟩, ⟨rfl, rfl⟩⟩⟩⟩, by simp⟩
/-! ### (*louver/queue.Queue).Len -/
def queue_Queue_Len.f (p0 : S44) : Option (Int) := some (p0.f0.length : Int)
set_option maxHeartbeats 2000000 in
set_option maxRecDepth 100000 in
theorem queue_Queue_Len.calls {b : Nat} {w0 W : World} {R : Frag} {Fs : List Frag} {p0 : S44}  {v0 : Value} {M0 : Frag} {r0q : Int} (hp0 : Ptr k44 44 b w0 R v0 p0 M0) (H : queue_Queue_Len.f p0 = some r0q) (hS : St b w0 W R (M0 :: Fs)) :
    Calls Try.prog 15 ([v0] : List Value).toArray W (fun e W' => ∃ (O0q : Frag), e = .returned (.int .i64 r0q) ∧ Ptr k44 44 b w0 R v0 p0 O0q ∧ St b w0 W' R (O0q :: Fs)) := by
  unfold queue_Queue_Len.f at H
  refine calls_enter Try.func15 rfl 10 rfl (by kernel_rfl) (fun a h => ?_)
  refine wp_seq ?_
  refine WL.start ?_
  refine WL.block (c := 1) (m' := 1) h rfl [(2, .int .i64 0)] (by kernel_rfl) (fun a65q h66q => ?_)
  refine WL.done (by kernel_rfl) ?_
  refine wp_seq ?_
  refine wp_seq ?_
  refine WL.start ?_
  refine WL.block (c := 1) (m' := 1) h66q rfl [(3, v0)] (by kernel_rfl) (fun a67q h68q => ?_)
  clear h66q a65q
  obtain ⟨g69q, cs70q, M71q, hv_, hM_, hr72q⟩ := hp0
  obtain ⟨v73q, M74q, rfl, hM2q, hr75q⟩ := k44qrep hr72q
  subst hM2q
  subst hM_
  subst hv_
  replace hr75q : Row (kRow (kInt .u8) 5) 26 b w0 R v73q p0.f0 M71q := hr75q
  obtain ⟨A76q, c77q, rfl⟩ := hr75q.form
  have hS78q : St b w0 W R ([(g69q, .cells ([.slice A76q p0.f0.length c77q, .int .i64 p0.f1, .int .i64 p0.f2, .int .i64 p0.f3] : List Value).toArray 44 (0, 0))] :: M71q :: Fs) := hS.assoc (by simp only [List.flatten_cons, List.append_assoc, List.cons_append, List.nil_append, List.append_nil])
  refine WL.block (c := 1) (m' := 2) h68q rfl [(4, .bool false)] (by kernel_rfl) (fun a79q h80q => ?_)
  clear h68q a67q
  refine WL.done (by kernel_rfl) ?_
  refine wp_else h80q rfl ?_
  refine wp_skip ?_
  refine wp_seq ?_
  refine WL.start ?_
  refine WL.block (c := 3) (m' := 3) h80q rfl [(7, .pointer (some ⟨g69q, 0, none⟩)), (6, .pointer (some ⟨g69q, 0, none⟩)), (5, .pointer (some ⟨g69q, 0, none⟩))] (by kernel_rfl) (fun a81q h82q => ?_)
  clear h80q a79q
  refine WL.op' (m := 3) h82q rfl rfl ?_
  refine owp_run (v := .slice A76q p0.f0.length c77q) h82q rfl (by kernel_rfl) (run_load1 rfl rfl Try.underlying22 rfl (hS78q.cell (i := 0) rfl)) (fun a83q h84q => ?_)
  clear h82q a81q
  refine WL.block (c := 2) (m' := 6) h84q rfl [(2, .int .i64 (p0.f0.length : Int)), (9, .int .i64 (p0.f0.length : Int))] (by kernel_rfl) (fun a85q h86q => ?_)
  clear h84q a83q
  refine WL.done (by kernel_rfl) ?_
  refine wp_ret ?_
  have hS87q : St b w0 W R (M71q :: [(g69q, .cells ([.slice A76q p0.f0.length c77q, .int .i64 p0.f1, .int .i64 p0.f2, .int .i64 p0.f3] : List Value).toArray 44 (0, 0))] :: Fs) := hS78q.bring 1 rfl rfl
  have hS88q : St b w0 W R ([(g69q, .cells ([.slice A76q p0.f0.length c77q, .int .i64 p0.f1, .int .i64 p0.f2, .int .i64 p0.f3] : List Value).toArray 44 (0, 0))] :: M71q :: Fs) := hS87q.bring 1 rfl rfl
  obtain ⟨M90q, hr89q, hM_⟩ := k44qmk (b := b) (w0 := w0) (R := R) (x := (⟨p0.f0, p0.f1, p0.f2, p0.f3⟩ : S44)) (gvf0 := hr75q)
  have hp91q : Ptr k44 44 b w0 R (.pointer (some ⟨g69q, 0, none⟩)) (⟨p0.f0, p0.f1, p0.f2, p0.f3⟩ : S44) ((g69q, .cells ([.slice A76q p0.f0.length c77q, .int .i64 p0.f1, .int .i64 p0.f2, .int .i64 p0.f3] : List Value).toArray 44 (0, 0)) :: M90q) := ⟨_, _, _, rfl, rfl, hr89q⟩
  rw [hM_] at hp91q
  have hS93q : St b w0 W R (((g69q, .cells ([.slice A76q p0.f0.length c77q, .int .i64 p0.f1, .int .i64 p0.f2, .int .i64 p0.f3] : List Value).toArray 44 (0, 0)) :: (M71q)) :: Fs) := hS88q.assoc (by simp only [List.flatten_cons, List.append_assoc, List.cons_append, List.nil_append, List.append_nil])
  obtain ⟨M94q, hM_⟩ : ∃ y : Frag, y = ((g69q, .cells ([.slice A76q p0.f0.length c77q, .int .i64 p0.f1, .int .i64 p0.f2, .int .i64 p0.f3] : List Value).toArray 44 (0, 0)) :: (M71q)) := ⟨_, rfl⟩
  rw [← hM_] at hp91q hS93q
  clear hM_
  obtain rfl := Option.some.inj H
  repeat (first | refine then_ret ?_ | refine inBlock_ret ?_ | refine inBlock_go ?_)
  refine body_ret (v := .int .i64 (p0.f0.length : Int)) h86q (by kernel_rfl) (by kernel_rfl) ?_
  exact ⟨M94q, rfl, hp91q, hS93q⟩

/-! ### (*louver/queue.Queue).Len -/
def queue_Queue_Len_nil.f  : Option (Int) := some 0
set_option maxHeartbeats 2000000 in
set_option maxRecDepth 100000 in
theorem queue_Queue_Len_nil.calls {b : Nat} {w0 W : World} {R : Frag} {Fs : List Frag}   {r0q : Int}  (H : queue_Queue_Len_nil.f = some r0q) (hS : St b w0 W R (Fs)) :
    Calls Try.prog 15 ([.pointer none] : List Value).toArray W (fun e W' => e = .returned (.int .i64 r0q) ∧ St b w0 W' R (Fs)) := by
  unfold queue_Queue_Len_nil.f at H
  refine calls_enter Try.func15 rfl 10 rfl (by kernel_rfl) (fun a h => ?_)
  refine wp_seq ?_
  refine WL.start ?_
  refine WL.block (c := 1) (m' := 1) h rfl [(2, .int .i64 0)] (by kernel_rfl) (fun a7q h8q => ?_)
  refine WL.done (by kernel_rfl) ?_
  refine wp_seq ?_
  refine wp_seq ?_
  refine WL.start ?_
  refine WL.block (c := 2) (m' := 2) h8q rfl [(4, .bool true), (3, .pointer none)] (by kernel_rfl) (fun a9q h10q => ?_)
  clear h8q a7q
  refine WL.done (by kernel_rfl) ?_
  refine wp_then h10q rfl ?_
  refine wp_seq ?_
  refine WL.start ?_
  refine WL.block (c := 1) (m' := 1) h10q rfl [(2, .int .i64 0)] (by kernel_rfl) (fun a11q h12q => ?_)
  clear h10q a9q
  refine WL.done (by kernel_rfl) ?_
  refine wp_ret ?_
  obtain rfl := Option.some.inj H
  repeat (first | refine then_ret ?_ | refine inBlock_ret ?_ | refine inBlock_go ?_)
  refine body_ret (v := .int .i64 0) h12q (by kernel_rfl) (by kernel_rfl) ?_
  exact ⟨rfl, hS⟩

/-! ### (*louver/queue.Queue).Pop -/
def queue_Queue_Pop.f (p0 : S44) : Option ((List Int) × Bool × S44) := bnd1 (queue_Queue_Len.f p0) fun r213q => (if r213q = 0 then (some (([] : List Int), false, p0)) else (if 0 < (p0.f0.length : Int) then (lt1 (p0.f0.set (0 : Int).toNat [] : List (List Int)) fun y285q => (if 1 ≤ (y285q.length : Int) then (some ((gt [] p0.f0 (0 : Int)), true, (⟨y285q.drop (1 : Int).toNat, IntKind.i64.wrap (p0.f1 - ((gt [] p0.f0 (0 : Int)).length : Int)), p0.f2, p0.f3⟩ : S44))) else (none))) else (none)))
set_option maxHeartbeats 2000000 in
set_option maxRecDepth 100000 in
theorem queue_Queue_Pop.calls {b : Nat} {w0 W : World} {R : Frag} {Fs : List Frag} {p0 : S44}  {v0 : Value} {M0 : Frag} {r0q : (List Int)} {r1q : Bool} {r2q : S44} (hp0 : Ptr k44 44 b w0 R v0 p0 M0) (H : queue_Queue_Pop.f p0 = some (r0q, r1q, r2q)) (hS : St b w0 W R (M0 :: Fs)) :
    Calls Try.prog 10 ([v0] : List Value).toArray W (fun e W' => ∃ (u0q : Value) (N0q : Frag) (O0q : Frag), e = .returned (.tuple #[u0q, .bool r1q]) ∧ Row (kInt .u8) 5 b w0 R u0q r0q N0q ∧ Ptr k44 44 b w0 R v0 r2q O0q ∧ St b w0 W' R (N0q :: O0q :: Fs)) := by
  unfold queue_Queue_Pop.f at H
  refine calls_enter Try.func10 rfl 37 rfl (by kernel_rfl) (fun a h => ?_)
  refine wp_seq ?_
  refine WL.start ?_
  refine WL.block (c := 2) (m' := 2) h rfl [(3, .bool false), (2, .slice none 0 0)] (by kernel_rfl) (fun a208q h209q => ?_)
  refine WL.done (by kernel_rfl) ?_
  refine wp_seq ?_
  refine wp_seq ?_
  refine WL.start ?_
  refine WL.block (c := 1) (m' := 1) h209q rfl [(5, v0)] (by kernel_rfl) (fun a210q h211q => ?_)
  clear h209q a208q
  obtain ⟨r213q, A212q, H⟩ := bind1 H
  refine WL.op' (m := 1) h211q rfl rfl ?_
  refine owp_call [v0] h211q rfl (by kernel_rfl) rfl Try.func15 (by kernel_rfl) rfl (by kernel_rfl) (queue_Queue_Len.calls hp0 A212q hS) (fun e215q W214q hp216q => ?_)
  obtain ⟨M219q, rfl, hr220q, hS221q⟩ := hp216q
  refine ⟨_, rfl, fun a217q h218q => ?_⟩
  clear h211q a210q
  refine WL.block (c := 1) (m' := 3) h218q rfl [(7, .bool (decide (r213q = 0)))] (by kernel_rfl) (fun a222q h223q => ?_)
  clear h218q a217q
  refine WL.done (by kernel_rfl) ?_
  by_cases c224q : r213q = 0
  · rw [if_pos c224q] at H
    have hb_ : (decide (r213q = 0)) = true := decide_eq_true c224q
    try rw [hb_] at h223q
    clear hb_
    refine wp_then h223q rfl ?_
    refine wp_seq ?_
    refine WL.start ?_
    refine WL.block (c := 2) (m' := 2) h223q rfl [(3, .bool false), (2, .slice none 0 0)] (by kernel_rfl) (fun a225q h226q => ?_)
    clear h223q a222q
    refine WL.done (by kernel_rfl) ?_
    refine wp_ret ?_
    obtain ⟨rfl, rfl, rfl⟩ := ret3 H
    repeat (first | refine then_ret ?_ | refine inBlock_ret ?_ | refine inBlock_go ?_)
    refine body_ret (v := .tuple #[.slice none 0 0, .bool false]) h226q (by kernel_rfl) (by kernel_rfl) ?_
    exact ⟨.slice none 0 0, [], M219q, rfl, Row.nil, hr220q, hS221q.nil_⟩
  · rw [if_neg c224q] at H
    have hb_ : (decide (r213q = 0)) = false := decide_eq_false c224q
    try rw [hb_] at h223q
    clear hb_
    refine wp_else h223q rfl ?_
    refine wp_skip ?_
    refine wp_seq ?_
    refine WL.start ?_
    refine WL.block (c := 1) (m' := 1) h223q rfl [(8, v0)] (by kernel_rfl) (fun a227q h228q => ?_)
    clear h223q a222q
    obtain ⟨g229q, cs230q, M231q, hv_, hM_, hr232q⟩ := hr220q
    obtain ⟨v233q, M234q, rfl, hM2q, hr235q⟩ := k44qrep hr232q
    subst hM2q
    subst hM_
    subst hv_
    replace hr235q : Row (kRow (kInt .u8) 5) 26 b w0 R v233q p0.f0 M231q := hr235q
    obtain ⟨A236q, c237q, rfl⟩ := hr235q.form
    have hS238q : St b w0 W214q R ([(g229q, .cells ([.slice A236q p0.f0.length c237q, .int .i64 p0.f1, .int .i64 p0.f2, .int .i64 p0.f3] : List Value).toArray 44 (0, 0))] :: M231q :: Fs) := hS221q.assoc (by simp only [List.flatten_cons, List.append_assoc, List.cons_append, List.nil_append, List.append_nil])
    refine WL.block (c := 2) (m' := 3) h228q rfl [(10, .pointer (some ⟨g229q, 0, none⟩)), (9, .pointer (some ⟨g229q, 0, none⟩))] (by kernel_rfl) (fun a239q h240q => ?_)
    clear h228q a227q
    refine WL.op' (m := 3) h240q rfl rfl ?_
    refine owp_run (v := .slice A236q p0.f0.length c237q) h240q rfl (by kernel_rfl) (run_load1 rfl rfl Try.underlying22 rfl (hS238q.cell (i := 0) rfl)) (fun a241q h242q => ?_)
    clear h240q a239q
    by_cases c243q : 0 < (p0.f0.length : Int)
    · rw [if_pos c243q] at H
      have hi246q : 0 ≤ (0 : Int) := by first | assumption | omega
      have hi247q : 0 < (p0.f0.length : Int) := by first | assumption | omega
      obtain ⟨ad244q, _, ha245q, -, -⟩ := Rds.elemAny hr235q.rds hi246q (gt_get (z := []) hi246q hi247q)
      refine WL.op' (m := 4) h242q rfl rfl ?_
      refine owp_run (v := .pointer (some (ad244q.add ((0 : Int).toNat * 1)))) h242q rfl (by kernel_rfl) (run_idx (ad := ad244q) (sz := 1) rfl (by rw [← ha245q]; rfl) rfl Try.underlying22 (by kernel_rfl) hi246q hi247q) (fun a248q h249q => ?_)
      clear h242q a241q
      have hS250q : St b w0 W214q R (M231q :: [(g229q, .cells ([.slice A236q p0.f0.length c237q, .int .i64 p0.f1, .int .i64 p0.f2, .int .i64 p0.f3] : List Value).toArray 44 (0, 0))] :: Fs) := hS238q.bring 1 rfl rfl
      obtain ⟨ad251q, cs252q, ha253q, hr255q, hc254q⟩ := Rds.elemAny hr235q.rds hi246q (gt_get (z := []) hi246q hi247q)
      rw [ha245q] at ha253q; obtain rfl := Option.some.inj ha253q
      obtain ⟨v256q, rfl, hx257q⟩ := hr255q
      obtain ⟨A258q, c259q, rfl⟩ := hx257q.form
      refine WL.op' (m := 5) h249q rfl rfl ?_
      refine owp_run (v := .slice A258q (gt [] p0.f0 (0 : Int)).length c259q) h249q rfl (by kernel_rfl) (run_load1 rfl rfl Try.underlying26 rfl (cell0 (hc254q _ (fun _ _ hk_ => (hS250q).pool.kn hk_)))) (fun a260q h261q => ?_)
      clear h249q a248q
      refine WL.block (c := 1) (m' := 7) h261q rfl [(4, .slice A258q (gt [] p0.f0 (0 : Int)).length c259q)] (by kernel_rfl) (fun a262q h263q => ?_)
      clear h261q a260q
      refine WL.done (by kernel_rfl) ?_
      refine wp_seq ?_
      refine WL.start ?_
      refine WL.block (c := 3) (m' := 3) h263q rfl [(16, .pointer (some ⟨g229q, 0, none⟩)), (15, .pointer (some ⟨g229q, 0, none⟩)), (14, .pointer (some ⟨g229q, 0, none⟩))] (by kernel_rfl) (fun a264q h265q => ?_)
      clear h263q a262q
      have hS266q : St b w0 W214q R ([(g229q, .cells ([.slice A236q p0.f0.length c237q, .int .i64 p0.f1, .int .i64 p0.f2, .int .i64 p0.f3] : List Value).toArray 44 (0, 0))] :: M231q :: Fs) := hS250q.bring 1 rfl rfl
      refine WL.op' (m := 3) h265q rfl rfl ?_
      refine owp_run (v := .slice A236q p0.f0.length c237q) h265q rfl (by kernel_rfl) (run_load1 rfl rfl Try.underlying22 rfl (hS266q.cell (i := 0) rfl)) (fun a267q h268q => ?_)
      clear h265q a264q
      have hi271q : 0 ≤ (0 : Int) := by first | assumption | omega
      have hi272q : 0 < (p0.f0.length : Int) := by first | assumption | omega
      obtain ⟨ad269q, _, ha270q, -, -⟩ := Rds.elemAny hr235q.rds hi271q (gt_get (z := []) hi271q hi272q)
      refine WL.op' (m := 4) h268q rfl rfl ?_
      refine owp_run (v := .pointer (some (ad269q.add ((0 : Int).toNat * 1)))) h268q rfl (by kernel_rfl) (run_idx (ad := ad269q) (sz := 1) rfl (by rw [← ha270q]; rfl) rfl Try.underlying22 (by kernel_rfl) hi271q hi272q) (fun a273q h274q => ?_)
      clear h268q a267q
      have hS275q : St b w0 W214q R (M231q :: [(g229q, .cells ([.slice A236q p0.f0.length c237q, .int .i64 p0.f1, .int .i64 p0.f2, .int .i64 p0.f3] : List Value).toArray 44 (0, 0))] :: Fs) := hS266q.bring 1 rfl rfl
      have had_ : ad269q = ad244q := Option.some.inj (ha270q.symm.trans ha245q)
      have hc276q : World.cell? W214q (ad269q.add ((0 : Int).toNat * 1)) = some (.slice A258q (gt [] p0.f0 (0 : Int)).length c259q) := by rw [had_]; exact (cell0 (hc254q _ (fun _ _ hk_ => hS275q.pool.kn hk_)))
      clear had_
      refine WL.op' (m := 5) h274q rfl rfl ?_
      refine owp_takeelem (u := .slice A258q (gt [] p0.f0 (0 : Int)).length c259q) h274q rfl (by kernel_rfl) rfl rfl rfl (by kernel_rfl) ha270q hr235q hS275q hi271q (gt_get (z := []) hi271q hi272q) hc276q (fun a277q W279q M280q M281q h278q hr282q hr283q hS284q => ?_)
      clear h274q a273q
      obtain ⟨y285q, hy286q, H⟩ := lete H
      have hl287q : y285q.length = p0.f0.length := by simp [hy286q]
      have hr288q : Row (kRow (kInt .u8) 5) 26 b w0 R (.slice A236q y285q.length c237q) y285q M280q := by rw [hl287q]; rw [hy286q]; exact hr282q
      have h289q : Hd a277q 37 [(0, .pointer (some ⟨g229q, 0, none⟩)), (2, .slice none 0 0), (3, .bool false), (4, .slice A258q (gt [] p0.f0 (0 : Int)).length c259q), (5, .pointer (some ⟨g229q, 0, none⟩)), (6, .int .i64 r213q), (7, .bool false), (8, .pointer (some ⟨g229q, 0, none⟩)), (9, .pointer (some ⟨g229q, 0, none⟩)), (10, .pointer (some ⟨g229q, 0, none⟩)), (11, .slice A236q y285q.length c237q), (12, .pointer (some (ad244q.add ((0 : Int).toNat * 1)))), (13, .slice A258q (gt [] p0.f0 (0 : Int)).length c259q), (14, .pointer (some ⟨g229q, 0, none⟩)), (15, .pointer (some ⟨g229q, 0, none⟩)), (16, .pointer (some ⟨g229q, 0, none⟩)), (17, .slice A236q y285q.length c237q), (18, .pointer (some (ad269q.add ((0 : Int).toNat * 1))))] := h278q.keep ⟨rfl, rfl, rfl, rfl, rfl, rfl, rfl, rfl, rfl, rfl, (by rw [hl287q] <;> rfl), rfl, rfl, rfl, rfl, rfl, (by rw [hl287q] <;> rfl), rfl, trivial⟩
      clear h278q
      have hS290q : St b w0 W279q R (M280q :: M281q :: [(g229q, .cells ([.slice A236q y285q.length c237q, .int .i64 p0.f1, .int .i64 p0.f2, .int .i64 p0.f3] : List Value).toArray 44 (0, 0))] :: Fs) := by simpa only [hl287q] using hS284q
      refine WL.done (by kernel_rfl) ?_
      refine wp_seq ?_
      refine WL.start ?_
      refine WL.block (c := 4) (m' := 4) h289q rfl [(22, .pointer (some ⟨g229q, 0, none⟩)), (21, .pointer (some ⟨g229q, 0, none⟩)), (20, .pointer (some ⟨g229q, 0, none⟩)), (19, .pointer (some ⟨g229q, 0, none⟩))] (by kernel_rfl) (fun a291q h292q => ?_)
      clear h289q a277q
      have hS293q : St b w0 W279q R ([(g229q, .cells ([.slice A236q y285q.length c237q, .int .i64 p0.f1, .int .i64 p0.f2, .int .i64 p0.f3] : List Value).toArray 44 (0, 0))] :: M280q :: M281q :: Fs) := hS290q.bring 2 rfl rfl
      refine WL.op' (m := 4) h292q rfl rfl ?_
      refine owp_run (v := .slice A236q y285q.length c237q) h292q rfl (by kernel_rfl) (run_load1 rfl rfl Try.underlying22 rfl (hS293q.cell (i := 0) rfl)) (fun a294q h295q => ?_)
      clear h292q a291q
      by_cases c296q : 1 ≤ (y285q.length : Int)
      · rw [if_pos c296q] at H
        refine WL.op' (m := 5) h295q rfl rfl ?_
        refine owp_run (v := sliced A236q (1 : Int).toNat (y285q.length : Int).toNat c237q 1) h295q rfl (by kernel_rfl) (run_cut (l := 1) (h := (y285q.length : Int)) rfl rfl Try.underlying22 (by kernel_rfl) ⟨_, rfl⟩ rfl (by first | assumption | omega) (by first | assumption | omega) (by have q_ := Rds.cap hr288q.rds; omega) (by have q_ := Rds.cap hr288q.rds; omega)) (fun a298q h299q => ?_)
        clear h295q a294q
        have hx297q := Rds.cut hr288q.rds (l := (1 : Int).toNat) (h := (y285q.length : Int).toNat) (by omega) (by omega)
        obtain ⟨v300q, ev301q⟩ : ∃ y_, y_ = sliced A236q (1 : Int).toNat (y285q.length : Int).toNat c237q 1 := ⟨_, rfl⟩
        have hx_ : Rds (kRow (kInt .u8) 5) b w0 (M280q ++ R) v300q (y285q.drop (1 : Int).toNat) := hx297q.as_ ev301q.symm (by simp)
        rw [← ev301q] at h299q; clear hx297q
        have hx297q := hx_; clear hx_
        obtain ⟨A302q, c303q, rfl⟩ := hx297q.form
        refine WL.block (c := 2) (m' := 8) h299q rfl [(26, .pointer (some ⟨g229q, 0, none⟩)), (25, .pointer (some ⟨g229q, 0, none⟩))] (by kernel_rfl) (fun a304q h305q => ?_)
        clear h299q a298q
        have hS306q : St b w0 W279q R (M280q :: [(g229q, .cells ([.slice A236q y285q.length c237q, .int .i64 p0.f1, .int .i64 p0.f2, .int .i64 p0.f3] : List Value).toArray 44 (0, 0))] :: M281q :: Fs) := hS293q.bring 1 rfl rfl
        obtain ⟨M307q, hr308q, hm_⟩ := Row.cut (l := (1 : Int).toNat) (h := (y285q.length : Int).toNat) hr288q (by omega) (by omega)
        replace hr308q : Row (kRow (kInt .u8) 5) 26 b w0 R (.slice A302q (y285q.drop (1 : Int).toNat).length c303q) (y285q.drop (1 : Int).toNat) M307q := hr308q.as_ ev301q.symm (by simp)
        have hS309q : St b w0 W279q R (M307q :: [(g229q, .cells ([.slice A236q y285q.length c237q, .int .i64 p0.f1, .int .i64 p0.f2, .int .i64 p0.f3] : List Value).toArray 44 (0, 0))] :: M281q :: Fs) := hm_ _ _ hS306q
        clear hm_
        have hS310q : St b w0 W279q R ([(g229q, .cells ([.slice A236q y285q.length c237q, .int .i64 p0.f1, .int .i64 p0.f2, .int .i64 p0.f3] : List Value).toArray 44 (0, 0))] :: M307q :: M281q :: Fs) := hS309q.bring 1 rfl rfl
        refine WL.op' (m := 8) h305q rfl rfl ?_
        refine owp_store (i := 0) (vs := ([.slice A302q (y285q.drop (1 : Int).toNat).length c303q] : List Value)) h305q rfl (by kernel_rfl) rfl rfl rfl rfl (by simp [Value.oneCell']) (by kernel_rfl) hS310q (by simp) (cs' := ([.slice A302q (y285q.drop (1 : Int).toNat).length c303q, .int .i64 p0.f1, .int .i64 p0.f2, .int .i64 p0.f3] : List Value)) rfl (fun a311q W313q h312q hS314q => ?_)
        clear h305q a304q
        refine WL.done (by kernel_rfl) ?_
        refine wp_seq ?_
        refine WL.start ?_
        refine WL.block (c := 3) (m' := 3) h312q rfl [(29, .pointer (some ⟨g229q, 1, none⟩)), (28, .pointer (some ⟨g229q, 0, none⟩)), (27, .pointer (some ⟨g229q, 0, none⟩))] (by kernel_rfl) (fun a315q h316q => ?_)
        clear h312q a311q
        refine WL.op' (m := 3) h316q rfl rfl ?_
        refine owp_run (v := .int .i64 p0.f1) h316q rfl (by kernel_rfl) (run_load1 rfl rfl Try.underlying3 rfl (hS314q.cell (i := 1) rfl)) (fun a317q h318q => ?_)
        clear h316q a315q
        refine WL.block (c := 5) (m' := 9) h318q rfl [(35, .pointer (some ⟨g229q, 1, none⟩)), (34, .pointer (some ⟨g229q, 0, none⟩)), (33, .int .i64 (IntKind.i64.wrap (p0.f1 - ((gt [] p0.f0 (0 : Int)).length : Int)))), (32, .int .i64 ((gt [] p0.f0 (0 : Int)).length : Int)), (31, .slice A258q (gt [] p0.f0 (0 : Int)).length c259q)] (by kernel_rfl) (fun a319q h320q => ?_)
        clear h318q a317q
        refine WL.op' (m := 9) h320q rfl rfl ?_
        refine owp_store (i := 1) (vs := ([.int .i64 (IntKind.i64.wrap (p0.f1 - ((gt [] p0.f0 (0 : Int)).length : Int)))] : List Value)) h320q rfl (by kernel_rfl) rfl rfl rfl rfl (by simp [Value.oneCell']) (by kernel_rfl) hS314q (by simp) (cs' := ([.slice A302q (y285q.drop (1 : Int).toNat).length c303q, .int .i64 (IntKind.i64.wrap (p0.f1 - ((gt [] p0.f0 (0 : Int)).length : Int))), .int .i64 p0.f2, .int .i64 p0.f3] : List Value)) rfl (fun a321q W323q h322q hS324q => ?_)
        clear h320q a319q
        refine WL.done (by kernel_rfl) ?_
        refine wp_seq ?_
        refine WL.start ?_
        refine WL.block (c := 3) (m' := 3) h322q rfl [(3, .bool true), (2, .slice A258q (gt [] p0.f0 (0 : Int)).length c259q), (36, .slice A258q (gt [] p0.f0 (0 : Int)).length c259q)] (by kernel_rfl) (fun a325q h326q => ?_)
        clear h322q a321q
        refine WL.done (by kernel_rfl) ?_
        refine wp_ret ?_
        have hS327q : St b w0 W323q R (M307q :: [(g229q, .cells ([.slice A302q (y285q.drop (1 : Int).toNat).length c303q, .int .i64 (IntKind.i64.wrap (p0.f1 - ((gt [] p0.f0 (0 : Int)).length : Int))), .int .i64 p0.f2, .int .i64 p0.f3] : List Value).toArray 44 (0, 0))] :: M281q :: Fs) := hS324q.bring 1 rfl rfl
        have hS328q : St b w0 W323q R ([(g229q, .cells ([.slice A302q (y285q.drop (1 : Int).toNat).length c303q, .int .i64 (IntKind.i64.wrap (p0.f1 - ((gt [] p0.f0 (0 : Int)).length : Int))), .int .i64 p0.f2, .int .i64 p0.f3] : List Value).toArray 44 (0, 0))] :: M307q :: M281q :: Fs) := hS327q.bring 1 rfl rfl
        obtain ⟨M330q, hr329q, hM_⟩ := k44qmk (b := b) (w0 := w0) (R := R) (x := (⟨y285q.drop (1 : Int).toNat, IntKind.i64.wrap (p0.f1 - ((gt [] p0.f0 (0 : Int)).length : Int)), p0.f2, p0.f3⟩ : S44)) (gvf0 := hr308q)
        have hp331q : Ptr k44 44 b w0 R (.pointer (some ⟨g229q, 0, none⟩)) (⟨y285q.drop (1 : Int).toNat, IntKind.i64.wrap (p0.f1 - ((gt [] p0.f0 (0 : Int)).length : Int)), p0.f2, p0.f3⟩ : S44) ((g229q, .cells ([.slice A302q (y285q.drop (1 : Int).toNat).length c303q, .int .i64 (IntKind.i64.wrap (p0.f1 - ((gt [] p0.f0 (0 : Int)).length : Int))), .int .i64 p0.f2, .int .i64 p0.f3] : List Value).toArray 44 (0, 0)) :: M330q) := ⟨_, _, _, rfl, rfl, hr329q⟩
        rw [hM_] at hp331q
        have hS333q : St b w0 W323q R (((g229q, .cells ([.slice A302q (y285q.drop (1 : Int).toNat).length c303q, .int .i64 (IntKind.i64.wrap (p0.f1 - ((gt [] p0.f0 (0 : Int)).length : Int))), .int .i64 p0.f2, .int .i64 p0.f3] : List Value).toArray 44 (0, 0)) :: (M307q)) :: M281q :: Fs) := hS328q.assoc (by simp only [List.flatten_cons, List.append_assoc, List.cons_append, List.nil_append, List.append_nil])
        obtain ⟨M334q, hM_⟩ : ∃ y : Frag, y = ((g229q, .cells ([.slice A302q (y285q.drop (1 : Int).toNat).length c303q, .int .i64 (IntKind.i64.wrap (p0.f1 - ((gt [] p0.f0 (0 : Int)).length : Int))), .int .i64 p0.f2, .int .i64 p0.f3] : List Value).toArray 44 (0, 0)) :: (M307q)) := ⟨_, rfl⟩
        rw [← hM_] at hp331q hS333q
        clear hM_
        have hS335q : St b w0 W323q R (M281q :: M334q :: Fs) := hS333q.bring 1 rfl rfl
        obtain ⟨rfl, rfl, rfl⟩ := ret3 H
        repeat (first | refine then_ret ?_ | refine inBlock_ret ?_ | refine inBlock_go ?_)
        refine body_ret (v := .tuple #[.slice A258q (gt [] p0.f0 (0 : Int)).length c259q, .bool true]) h326q (by kernel_rfl) (by kernel_rfl) ?_
        exact ⟨.slice A258q (gt [] p0.f0 (0 : Int)).length c259q, M281q, M334q, rfl, hr283q, hp331q, hS335q⟩
      · rw [if_neg c296q] at H
        cases H
    · rw [if_neg c243q] at H
      cases H

/-! ### (*louver/queue.Queue).Pop -/
def queue_Queue_Pop_nil.f  : Option ((List Int) × Bool) := bnd1 (queue_Queue_Len_nil.f) fun r25q => (if r25q = 0 then (some (([] : List Int), false)) else (none))
set_option maxHeartbeats 2000000 in
set_option maxRecDepth 100000 in
theorem queue_Queue_Pop_nil.calls {b : Nat} {w0 W : World} {R : Frag} {Fs : List Frag}   {r0q : (List Int)} {r1q : Bool}  (H : queue_Queue_Pop_nil.f = some (r0q, r1q)) (hS : St b w0 W R (Fs)) :
    Calls Try.prog 10 ([.pointer none] : List Value).toArray W (fun e W' => ∃ (u0q : Value) (N0q : Frag), e = .returned (.tuple #[u0q, .bool r1q]) ∧ Row (kInt .u8) 5 b w0 R u0q r0q N0q ∧ St b w0 W' R (N0q :: Fs)) := by
  unfold queue_Queue_Pop_nil.f at H
  refine calls_enter Try.func10 rfl 37 rfl (by kernel_rfl) (fun a h => ?_)
  refine wp_seq ?_
  refine WL.start ?_
  refine WL.block (c := 2) (m' := 2) h rfl [(3, .bool false), (2, .slice none 0 0)] (by kernel_rfl) (fun a20q h21q => ?_)
  refine WL.done (by kernel_rfl) ?_
  refine wp_seq ?_
  refine wp_seq ?_
  refine WL.start ?_
  refine WL.block (c := 1) (m' := 1) h21q rfl [(5, .pointer none)] (by kernel_rfl) (fun a22q h23q => ?_)
  clear h21q a20q
  obtain ⟨r25q, A24q, H⟩ := bind1 H
  refine WL.op' (m := 1) h23q rfl rfl ?_
  refine owp_call [.pointer none] h23q rfl (by kernel_rfl) rfl Try.func15 (by kernel_rfl) rfl (by kernel_rfl) (queue_Queue_Len_nil.calls  A24q hS) (fun e27q W26q hp28q => ?_)
  obtain ⟨rfl, hS31q⟩ := hp28q
  refine ⟨_, rfl, fun a29q h30q => ?_⟩
  clear h23q a22q
  refine WL.block (c := 1) (m' := 3) h30q rfl [(7, .bool (decide (r25q = 0)))] (by kernel_rfl) (fun a32q h33q => ?_)
  clear h30q a29q
  refine WL.done (by kernel_rfl) ?_
  by_cases c34q : r25q = 0
  · rw [if_pos c34q] at H
    have hb_ : (decide (r25q = 0)) = true := decide_eq_true c34q
    try rw [hb_] at h33q
    clear hb_
    refine wp_then h33q rfl ?_
    refine wp_seq ?_
    refine WL.start ?_
    refine WL.block (c := 2) (m' := 2) h33q rfl [(3, .bool false), (2, .slice none 0 0)] (by kernel_rfl) (fun a35q h36q => ?_)
    clear h33q a32q
    refine WL.done (by kernel_rfl) ?_
    refine wp_ret ?_
    obtain ⟨rfl, rfl⟩ := ret2 H
    repeat (first | refine then_ret ?_ | refine inBlock_ret ?_ | refine inBlock_go ?_)
    refine body_ret (v := .tuple #[.slice none 0 0, .bool false]) h36q (by kernel_rfl) (by kernel_rfl) ?_
    exact ⟨.slice none 0 0, [], rfl, Row.nil, hS31q.nil_⟩
  · rw [if_neg c34q] at H
    have hb_ : (decide (r25q = 0)) = false := decide_eq_false c34q
    try rw [hb_] at h33q
    clear hb_
    refine wp_else h33q rfl ?_
    refine wp_skip ?_
    refine wp_seq ?_
    refine WL.start ?_
    refine WL.block (c := 1) (m' := 1) h33q rfl [(8, .pointer none)] (by kernel_rfl) (fun a37q h38q => ?_)
    clear h33q a32q
    cases H

/-! ### (*louver/queue.Queue).Clear -/
def queue_Queue_Clear.f (p0 : S44) : Option (S44) := lt1 (List.replicate p0.f0.length [] : List (List Int)) fun y105q => (some (⟨([] : List (List Int)), 0, p0.f2, p0.f3⟩ : S44))
set_option maxHeartbeats 2000000 in
set_option maxRecDepth 100000 in
theorem queue_Queue_Clear.calls {b : Nat} {w0 W : World} {R : Frag} {Fs : List Frag} {p0 : S44}  {v0 : Value} {M0 : Frag} {r0q : S44} (hp0 : Ptr k44 44 b w0 R v0 p0 M0) (H : queue_Queue_Clear.f p0 = some r0q) (hS : St b w0 W R (M0 :: Fs)) :
    Calls Try.prog 14 ([v0] : List Value).toArray W (fun e W' => ∃ (O0q : Frag), e = .returned (.tuple #[]) ∧ Ptr k44 44 b w0 R v0 r0q O0q ∧ St b w0 W' R (O0q :: Fs)) := by
  unfold queue_Queue_Clear.f at H
  refine calls_enter Try.func14 rfl 14 rfl (by kernel_rfl) (fun a h => ?_)
  refine wp_seq ?_
  refine WL.start ?_
  refine WL.block (c := 1) (m' := 1) h rfl [(2, v0)] (by kernel_rfl) (fun a80q h81q => ?_)
  obtain ⟨g82q, cs83q, M84q, hv_, hM_, hr85q⟩ := hp0
  obtain ⟨v86q, M87q, rfl, hM2q, hr88q⟩ := k44qrep hr85q
  subst hM2q
  subst hM_
  subst hv_
  replace hr88q : Row (kRow (kInt .u8) 5) 26 b w0 R v86q p0.f0 M84q := hr88q
  obtain ⟨A89q, c90q, rfl⟩ := hr88q.form
  have hS91q : St b w0 W R ([(g82q, .cells ([.slice A89q p0.f0.length c90q, .int .i64 p0.f1, .int .i64 p0.f2, .int .i64 p0.f3] : List Value).toArray 44 (0, 0))] :: M84q :: Fs) := hS.assoc (by simp only [List.flatten_cons, List.append_assoc, List.cons_append, List.nil_append, List.append_nil])
  refine WL.block (c := 1) (m' := 2) h81q rfl [(3, .bool true)] (by kernel_rfl) (fun a92q h93q => ?_)
  clear h81q a80q
  refine WL.done (by kernel_rfl) ?_
  refine wp_then h93q rfl ?_
  refine wp_seq ?_
  refine WL.start ?_
  refine WL.block (c := 3) (m' := 3) h93q rfl [(6, .pointer (some ⟨g82q, 0, none⟩)), (5, .pointer (some ⟨g82q, 0, none⟩)), (4, .pointer (some ⟨g82q, 0, none⟩))] (by kernel_rfl) (fun a94q h95q => ?_)
  clear h93q a92q
  refine WL.op' (m := 3) h95q rfl rfl ?_
  refine owp_run (v := .slice A89q p0.f0.length c90q) h95q rfl (by kernel_rfl) (run_load1 rfl rfl Try.underlying22 rfl (hS91q.cell (i := 0) rfl)) (fun a96q h97q => ?_)
  clear h95q a94q
  have hS98q : St b w0 W R (M84q :: [(g82q, .cells ([.slice A89q p0.f0.length c90q, .int .i64 p0.f1, .int .i64 p0.f2, .int .i64 p0.f3] : List Value).toArray 44 (0, 0))] :: Fs) := hS91q.bring 1 rfl rfl
  refine WL.op' (m := 4) h97q rfl rfl ?_
  refine owp_clear1 (ty := 0) (z := .slice none 0 0) (z0 := []) h97q rfl (by kernel_rfl) rfl rfl hr88q hS98q Try.underlying22 (by kernel_rfl) (fun _ _ _ => ⟨_, rfl, Row.nil⟩) rfl rfl (fun a99q W101q M102q h100q hr103q hS104q => ?_)
  clear h97q a96q
  obtain ⟨y105q, hy106q, H⟩ := lete H
  have hl107q : y105q.length = p0.f0.length := by simp [hy106q]
  have hr108q : Row (kRow (kInt .u8) 5) 26 b w0 R (.slice A89q y105q.length c90q) y105q M102q := by rw [hl107q]; rw [hy106q]; exact hr103q
  have h109q : Hd a99q 14 [(0, .pointer (some ⟨g82q, 0, none⟩)), (2, .pointer (some ⟨g82q, 0, none⟩)), (3, .bool true), (4, .pointer (some ⟨g82q, 0, none⟩)), (5, .pointer (some ⟨g82q, 0, none⟩)), (6, .pointer (some ⟨g82q, 0, none⟩)), (7, .slice A89q y105q.length c90q)] := h100q.keep ⟨rfl, rfl, rfl, rfl, rfl, rfl, (by rw [hl107q] <;> rfl), trivial⟩
  clear h100q
  have hS110q : St b w0 W101q R (M102q :: [(g82q, .cells ([.slice A89q y105q.length c90q, .int .i64 p0.f1, .int .i64 p0.f2, .int .i64 p0.f3] : List Value).toArray 44 (0, 0))] :: Fs) := by simpa only [hl107q] using hS104q
  refine WL.done (by kernel_rfl) ?_
  refine WL.start ?_
  refine WL.block (c := 4) (m' := 4) h109q rfl [(11, .pointer (some ⟨g82q, 0, none⟩)), (10, .pointer (some ⟨g82q, 0, none⟩)), (9, .pointer (some ⟨g82q, 0, none⟩)), (8, .pointer (some ⟨g82q, 0, none⟩))] (by kernel_rfl) (fun a111q h112q => ?_)
  clear h109q a99q
  have hS113q : St b w0 W101q R ([(g82q, .cells ([.slice A89q y105q.length c90q, .int .i64 p0.f1, .int .i64 p0.f2, .int .i64 p0.f3] : List Value).toArray 44 (0, 0))] :: M102q :: Fs) := hS110q.bring 1 rfl rfl
  refine WL.op' (m := 4) h112q rfl rfl ?_
  refine owp_store (i := 0) (vs := ([.slice none 0 0] : List Value)) h112q rfl (by kernel_rfl) rfl rfl rfl rfl (by simp [Value.oneCell']) (by kernel_rfl) hS113q (by simp) (cs' := ([.slice none 0 0, .int .i64 p0.f1, .int .i64 p0.f2, .int .i64 p0.f3] : List Value)) rfl (fun a114q W116q h115q hS117q => ?_)
  clear h112q a111q
  refine WL.block (c := 2) (m' := 7) h115q rfl [(13, .pointer (some ⟨g82q, 1, none⟩)), (12, .pointer (some ⟨g82q, 0, none⟩))] (by kernel_rfl) (fun a118q h119q => ?_)
  clear h115q a114q
  refine WL.op' (m := 7) h119q rfl rfl ?_
  refine owp_store (i := 1) (vs := ([.int .i64 0] : List Value)) h119q rfl (by kernel_rfl) rfl rfl rfl rfl (by simp [Value.oneCell']) (by kernel_rfl) hS117q (by simp) (cs' := ([.slice none 0 0, .int .i64 0, .int .i64 p0.f2, .int .i64 p0.f3] : List Value)) rfl (fun a120q W122q h121q hS123q => ?_)
  clear h119q a118q
  refine WL.done (by kernel_rfl) ?_
  obtain ⟨M125q, hr124q, hM_⟩ := k44qmk (b := b) (w0 := w0) (R := R) (x := (⟨([] : List (List Int)), 0, p0.f2, p0.f3⟩ : S44)) (gvf0 := Row.nil)
  have hp126q : Ptr k44 44 b w0 R (.pointer (some ⟨g82q, 0, none⟩)) (⟨([] : List (List Int)), 0, p0.f2, p0.f3⟩ : S44) ((g82q, .cells ([.slice none 0 0, .int .i64 0, .int .i64 p0.f2, .int .i64 p0.f3] : List Value).toArray 44 (0, 0)) :: M125q) := ⟨_, _, _, rfl, rfl, hr124q⟩
  rw [hM_] at hp126q
  have hS128q : St b w0 W122q R (((g82q, .cells ([.slice none 0 0, .int .i64 0, .int .i64 p0.f2, .int .i64 p0.f3] : List Value).toArray 44 (0, 0)) :: ([])) :: M102q :: Fs) := hS123q.assoc (by simp only [List.flatten_cons, List.append_assoc, List.cons_append, List.nil_append, List.append_nil])
  obtain ⟨M129q, hM_⟩ : ∃ y : Frag, y = ((g82q, .cells ([.slice none 0 0, .int .i64 0, .int .i64 p0.f2, .int .i64 p0.f3] : List Value).toArray 44 (0, 0)) :: ([])) := ⟨_, rfl⟩
  rw [← hM_] at hp126q hS128q
  clear hM_
  have hS130q : St b w0 W122q R (M102q :: M129q :: Fs) := hS128q.bring 1 rfl rfl
  have hS131q : St b w0 W122q R (M129q :: Fs) := hS130q.drop_
  obtain rfl := Option.some.inj H
  repeat (first | refine then_go ?_ | refine inBlock_go ?_)
  refine body_end (v := .tuple #[]) h121q (by kernel_rfl) (by kernel_rfl) ?_
  exact ⟨M129q, rfl, hp126q, hS131q⟩

/-! ### (*louver/queue.Queue).Clear -/
def queue_Queue_Clear_nil.f  : Option (Unit) := some ()
set_option maxHeartbeats 2000000 in
set_option maxRecDepth 100000 in
theorem queue_Queue_Clear_nil.calls {b : Nat} {w0 W : World} {R : Frag} {Fs : List Frag}     (H : queue_Queue_Clear_nil.f = some ()) (hS : St b w0 W R (Fs)) :
    Calls Try.prog 14 ([.pointer none] : List Value).toArray W (fun e W' => e = .returned (.tuple #[]) ∧ St b w0 W' R (Fs)) := by
  unfold queue_Queue_Clear_nil.f at H
  refine calls_enter Try.func14 rfl 14 rfl (by kernel_rfl) (fun a h => ?_)
  refine wp_seq ?_
  refine WL.start ?_
  refine WL.block (c := 2) (m' := 2) h rfl [(3, .bool false), (2, .pointer none)] (by kernel_rfl) (fun a3q h4q => ?_)
  refine WL.done (by kernel_rfl) ?_
  refine wp_else h4q rfl ?_
  refine wp_skip ?_
  repeat (first | refine then_go ?_ | refine inBlock_go ?_)
  refine body_end (v := .tuple #[]) h4q (by kernel_rfl) (by kernel_rfl) ?_
  exact ⟨rfl, hS⟩

/-! ### louver/queue.New -/
def queue_New.f (p0 : Int) (p1 : Int) : Option (S44) := some (⟨([] : List (List Int)), 0, mxI p0 0, mxI p1 0⟩ : S44)
set_option maxHeartbeats 2000000 in
set_option maxRecDepth 100000 in
theorem queue_New.calls {b : Nat} {w0 W : World} {R : Frag} {Fs : List Frag} {p0 : Int} {p1 : Int}  {r0q : S44}  (H : queue_New.f p0 p1 = some r0q) (hS : St b w0 W R (Fs)) :
    Calls Try.prog 7 ([.int .i64 p0, .int .i64 p1] : List Value).toArray W (fun e W' => ∃ (u0q : Value) (N0q : Frag), e = .returned (u0q) ∧ Ptr k44 44 b w0 R u0q r0q N0q ∧ St b w0 W' R (N0q :: Fs)) := by
  unfold queue_New.f at H
  refine calls_enter Try.func7 rfl 11 rfl (by kernel_rfl) (fun a h => ?_)
  refine wp_seq ?_
  refine WL.start ?_
  refine WL.block (c := 1) (m' := 1) h rfl [(4, .pointer none)] (by kernel_rfl) (fun a18q h19q => ?_)
  refine WL.done (by kernel_rfl) ?_
  refine wp_seq ?_
  refine WL.start ?_
  refine WL.block (c := 5) (m' := 5) h19q rfl [(9, .agg #[.slice none 0 0, .int .i64 0, .int .i64 (mxI p0 0), .int .i64 (mxI p1 0)]), (8, .int .i64 (mxI p1 0)), (7, .int .i64 p1), (6, .int .i64 (mxI p0 0)), (5, .int .i64 p0)] (by kernel_rfl) (fun a20q h21q => ?_)
  clear h19q a18q
  refine WL.op' (m := 5) h21q rfl rfl ?_
  refine owp_new (fun g_ => .pointer (some ⟨g_, 0, none⟩)) (.cells ([.slice none 0 0, .int .i64 0, .int .i64 (mxI p0 0), .int .i64 (mxI p1 0)] : List Value).toArray 44 (0, 0)) h21q rfl (by kernel_rfl) (by kernel_rfl) hS (fun a22q W24q g25q h23q hS26q => ?_)
  clear h21q a20q
  refine WL.block (c := 1) (m' := 7) h23q rfl [(4, .pointer (some ⟨g25q, 0, none⟩))] (by kernel_rfl) (fun a27q h28q => ?_)
  clear h23q a22q
  refine WL.done (by kernel_rfl) ?_
  refine wp_ret ?_
  obtain ⟨M30q, hr29q, hM_⟩ := k44qmk (b := b) (w0 := w0) (R := R) (x := (⟨([] : List (List Int)), 0, mxI p0 0, mxI p1 0⟩ : S44)) (gvf0 := Row.nil)
  have hp31q : Ptr k44 44 b w0 R (.pointer (some ⟨g25q, 0, none⟩)) (⟨([] : List (List Int)), 0, mxI p0 0, mxI p1 0⟩ : S44) ((g25q, .cells ([.slice none 0 0, .int .i64 0, .int .i64 (mxI p0 0), .int .i64 (mxI p1 0)] : List Value).toArray 44 (0, 0)) :: M30q) := ⟨_, _, _, rfl, rfl, hr29q⟩
  rw [hM_] at hp31q
  have hS33q : St b w0 W24q R (((g25q, .cells ([.slice none 0 0, .int .i64 0, .int .i64 (mxI p0 0), .int .i64 (mxI p1 0)] : List Value).toArray 44 (0, 0)) :: ([])) :: Fs) := hS26q.assoc (by simp only [List.flatten_cons, List.append_assoc, List.cons_append, List.nil_append, List.append_nil])
  obtain ⟨M34q, hM_⟩ : ∃ y : Frag, y = ((g25q, .cells ([.slice none 0 0, .int .i64 0, .int .i64 (mxI p0 0), .int .i64 (mxI p1 0)] : List Value).toArray 44 (0, 0)) :: ([])) := ⟨_, rfl⟩
  rw [← hM_] at hp31q hS33q
  clear hM_
  obtain rfl := Option.some.inj H
  repeat (first | refine then_ret ?_ | refine inBlock_ret ?_ | refine inBlock_go ?_)
  refine body_ret (v := .pointer (some ⟨g25q, 0, none⟩)) h28q (by kernel_rfl) (by kernel_rfl) ?_
  exact ⟨.pointer (some ⟨g25q, 0, none⟩), M34q, rfl, hp31q, hS33q⟩

/-! ### (*louver/queue.Queue).Fits -/
def queue_Queue_Fits.f (p0 : S44) (p1 : Int) : Option (Bool) := if (p0.f0.length : Int) < p0.f2 then (some (decide ((mxI p1 0) ≤ (IntKind.i64.wrap (p0.f3 - p0.f1))))) else (some false)
set_option maxHeartbeats 2000000 in
set_option maxRecDepth 100000 in
theorem queue_Queue_Fits.calls {b : Nat} {w0 W : World} {R : Frag} {Fs : List Frag} {p0 : S44} {p1 : Int}  {v0 : Value} {M0 : Frag} {r0q : Bool} (hp0 : Ptr k44 44 b w0 R v0 p0 M0) (H : queue_Queue_Fits.f p0 p1 = some r0q) (hS : St b w0 W R (M0 :: Fs)) :
    Calls Try.prog 8 ([v0, .int .i64 p1] : List Value).toArray W (fun e W' => ∃ (O0q : Frag), e = .returned (.bool r0q) ∧ Ptr k44 44 b w0 R v0 p0 O0q ∧ St b w0 W' R (O0q :: Fs)) := by
  unfold queue_Queue_Fits.f at H
  refine calls_enter Try.func8 rfl 33 rfl (by kernel_rfl) (fun a h => ?_)
  refine wp_seq ?_
  refine WL.start ?_
  refine WL.block (c := 1) (m' := 1) h rfl [(4, .bool false)] (by kernel_rfl) (fun a291q h292q => ?_)
  refine WL.done (by kernel_rfl) ?_
  refine wp_seq ?_
  obtain ⟨g293q, cs294q, M295q, hv_, hM_, hr296q⟩ := hp0
  obtain ⟨v297q, M298q, rfl, hM2q, hr299q⟩ := k44qrep hr296q
  subst hM2q
  subst hM_
  subst hv_
  replace hr299q : Row (kRow (kInt .u8) 5) 26 b w0 R v297q p0.f0 M295q := hr299q
  obtain ⟨A300q, c301q, rfl⟩ := hr299q.form
  have hS302q : St b w0 W R ([(g293q, .cells ([.slice A300q p0.f0.length c301q, .int .i64 p0.f1, .int .i64 p0.f2, .int .i64 p0.f3] : List Value).toArray 44 (0, 0))] :: M295q :: Fs) := hS.assoc (by simp only [List.flatten_cons, List.append_assoc, List.cons_append, List.nil_append, List.append_nil])
  refine WH.start (fun w_ => (w_.cell? ⟨g293q, 0, none⟩ = some (.slice A300q p0.f0.length c301q)) ∧ (w_.cell? ⟨g293q, 2, none⟩ = some (.int .i64 p0.f2)) ∧ (w_.cell? ⟨g293q, 3, none⟩ = some (.int .i64 p0.f3)) ∧ (w_.cell? ⟨g293q, 1, none⟩ = some (.int .i64 p0.f1)) ∧ True) (by kernel_rfl) #[false, false, false, false, false, false, false, false, false, false, false, false, false, false, false, false, false, false, false, false, false, false, false, false, false, false, false, false, false] 29 rfl rfl ?_
  have hS477q := hS302q.drew
  refine WH.take 0 (listed' := #[true, false, false, false, false, false, false, false, false, false, false, false, false, false, false, false, false, false, false, false, false, false, false, false, false, false, false, false, false]) h292q rfl rfl (by kernel_rfl) rfl rfl (.pointer (some ⟨g293q, 0, none⟩)) (fun _ _ => by kernel_rfl) ⟨(hS477q.cell (i := 0) rfl), (hS477q.cell (i := 2) rfl), (hS477q.cell (i := 3) rfl), (hS477q.cell (i := 1) rfl), trivial⟩ (fun _ _ _ h_ => h_) (fun a478q h479q => ?_)
  clear h292q a291q
  refine WH.take 1 (listed' := #[true, true, false, false, false, false, false, false, false, false, false, false, false, false, false, false, false, false, false, false, false, false, false, false, false, false, false, false, false]) h479q rfl rfl (by kernel_rfl) rfl rfl (.bool true) (fun _ _ => by kernel_rfl) ⟨(hS477q.cell (i := 0) rfl), (hS477q.cell (i := 2) rfl), (hS477q.cell (i := 3) rfl), (hS477q.cell (i := 1) rfl), trivial⟩ (fun _ _ _ h_ => h_) (fun a480q h481q => ?_)
  clear h479q a478q
  refine WH.take 2 (listed' := #[true, true, true, false, false, false, false, false, false, false, false, false, false, false, false, false, false, false, false, false, false, false, false, false, false, false, false, false, false]) h481q rfl rfl (by kernel_rfl) rfl rfl (.bool true) (fun _ _ => by kernel_rfl) ⟨(hS477q.cell (i := 0) rfl), (hS477q.cell (i := 2) rfl), (hS477q.cell (i := 3) rfl), (hS477q.cell (i := 1) rfl), trivial⟩ (fun _ _ _ h_ => h_) (fun a482q h483q => ?_)
  clear h481q a480q
  refine WH.take 3 (listed' := #[true, true, true, true, false, false, false, false, false, false, false, false, false, false, false, false, false, false, false, false, false, false, false, false, false, false, false, false, false]) h483q rfl rfl (by kernel_rfl) rfl rfl (.pointer (some ⟨g293q, 0, none⟩)) (fun _ _ => by kernel_rfl) ⟨(hS477q.cell (i := 0) rfl), (hS477q.cell (i := 2) rfl), (hS477q.cell (i := 3) rfl), (hS477q.cell (i := 1) rfl), trivial⟩ (fun _ _ _ h_ => h_) (fun a484q h485q => ?_)
  clear h483q a482q
  refine WH.take 4 (listed' := #[true, true, true, true, true, false, false, false, false, false, false, false, false, false, false, false, false, false, false, false, false, false, false, false, false, false, false, false, false]) h485q rfl rfl (by kernel_rfl) rfl rfl (.pointer (some ⟨g293q, 0, none⟩)) (fun _ _ => by kernel_rfl) ⟨(hS477q.cell (i := 0) rfl), (hS477q.cell (i := 2) rfl), (hS477q.cell (i := 3) rfl), (hS477q.cell (i := 1) rfl), trivial⟩ (fun _ _ _ h_ => h_) (fun a486q h487q => ?_)
  clear h485q a484q
  refine WH.take 5 (listed' := #[true, true, true, true, true, true, false, false, false, false, false, false, false, false, false, false, false, false, false, false, false, false, false, false, false, false, false, false, false]) h487q rfl rfl (by kernel_rfl) rfl rfl (.pointer (some ⟨g293q, 0, none⟩)) (fun _ _ => by kernel_rfl) ⟨(hS477q.cell (i := 0) rfl), (hS477q.cell (i := 2) rfl), (hS477q.cell (i := 3) rfl), (hS477q.cell (i := 1) rfl), trivial⟩ (fun _ _ _ h_ => h_) (fun a488q h489q => ?_)
  clear h487q a486q
  refine WH.take 8 (listed' := #[true, true, true, true, true, true, false, false, true, false, false, false, false, false, false, false, false, false, false, false, false, false, false, false, false, false, false, false, false]) h489q rfl rfl (by kernel_rfl) rfl rfl (.pointer (some ⟨g293q, 0, none⟩)) (fun _ _ => by kernel_rfl) ⟨(hS477q.cell (i := 0) rfl), (hS477q.cell (i := 2) rfl), (hS477q.cell (i := 3) rfl), (hS477q.cell (i := 1) rfl), trivial⟩ (fun _ _ _ h_ => h_) (fun a490q h491q => ?_)
  clear h489q a488q
  refine WH.take 9 (listed' := #[true, true, true, true, true, true, false, false, true, true, false, false, false, false, false, false, false, false, false, false, false, false, false, false, false, false, false, false, false]) h491q rfl rfl (by kernel_rfl) rfl rfl (.pointer (some ⟨g293q, 0, none⟩)) (fun _ _ => by kernel_rfl) ⟨(hS477q.cell (i := 0) rfl), (hS477q.cell (i := 2) rfl), (hS477q.cell (i := 3) rfl), (hS477q.cell (i := 1) rfl), trivial⟩ (fun _ _ _ h_ => h_) (fun a492q h493q => ?_)
  clear h491q a490q
  refine WH.take 10 (listed' := #[true, true, true, true, true, true, false, false, true, true, true, false, false, false, false, false, false, false, false, false, false, false, false, false, false, false, false, false, false]) h493q rfl rfl (by kernel_rfl) rfl rfl (.pointer (some ⟨g293q, 2, none⟩)) (fun _ _ => by kernel_rfl) ⟨(hS477q.cell (i := 0) rfl), (hS477q.cell (i := 2) rfl), (hS477q.cell (i := 3) rfl), (hS477q.cell (i := 1) rfl), trivial⟩ (fun _ _ _ h_ => h_) (fun a494q h495q => ?_)
  clear h493q a492q
  refine WH.take 6 (listed' := #[true, true, true, true, true, true, true, false, true, true, true, false, false, false, false, false, false, false, false, false, false, false, false, false, false, false, false, false, false]) h495q rfl rfl (by kernel_rfl) rfl rfl (.slice A300q p0.f0.length c301q) (fun w_ hs_ => (run_load1 rfl rfl Try.underlying22 rfl hs_.1)) ⟨(hS477q.cell (i := 0) rfl), (hS477q.cell (i := 2) rfl), (hS477q.cell (i := 3) rfl), (hS477q.cell (i := 1) rfl), trivial⟩ (fun _ _ _ h_ => h_) (fun a496q h497q => ?_)
  clear h495q a494q
  refine WH.take 7 (listed' := #[true, true, true, true, true, true, true, true, true, true, true, false, false, false, false, false, false, false, false, false, false, false, false, false, false, false, false, false, false]) h497q rfl rfl (by kernel_rfl) rfl rfl (.int .i64 (p0.f0.length : Int)) (fun _ _ => by kernel_rfl) ⟨(hS477q.cell (i := 0) rfl), (hS477q.cell (i := 2) rfl), (hS477q.cell (i := 3) rfl), (hS477q.cell (i := 1) rfl), trivial⟩ (fun _ _ _ h_ => h_) (fun a498q h499q => ?_)
  clear h497q a496q
  refine WH.take 11 (listed' := #[true, true, true, true, true, true, true, true, true, true, true, true, false, false, false, false, false, false, false, false, false, false, false, false, false, false, false, false, false]) h499q rfl rfl (by kernel_rfl) rfl rfl (.int .i64 p0.f2) (fun w_ hs_ => (run_load1 rfl rfl Try.underlying3 rfl hs_.2.1)) ⟨(hS477q.cell (i := 0) rfl), (hS477q.cell (i := 2) rfl), (hS477q.cell (i := 3) rfl), (hS477q.cell (i := 1) rfl), trivial⟩ (fun _ _ _ h_ => h_) (fun a500q h501q => ?_)
  clear h499q a498q
  refine WH.take 12 (listed' := #[true, true, true, true, true, true, true, true, true, true, true, true, true, false, false, false, false, false, false, false, false, false, false, false, false, false, false, false, false]) h501q rfl rfl (by kernel_rfl) rfl rfl (.bool (decide ((p0.f0.length : Int) < p0.f2))) (fun _ _ => by kernel_rfl) ⟨(hS477q.cell (i := 0) rfl), (hS477q.cell (i := 2) rfl), (hS477q.cell (i := 3) rfl), (hS477q.cell (i := 1) rfl), trivial⟩ (fun _ _ _ h_ => h_) (fun a502q h503q => ?_)
  clear h501q a500q
  refine WH.take 13 (listed' := #[true, true, true, true, true, true, true, true, true, true, true, true, true, true, false, false, false, false, false, false, false, false, false, false, false, false, false, false, false]) h503q rfl rfl (by kernel_rfl) rfl rfl (.bool (decide ((p0.f0.length : Int) < p0.f2))) (fun _ _ => by kernel_rfl) ⟨(hS477q.cell (i := 0) rfl), (hS477q.cell (i := 2) rfl), (hS477q.cell (i := 3) rfl), (hS477q.cell (i := 1) rfl), trivial⟩ (fun _ _ _ h_ => h_) (fun a504q h505q => ?_)
  clear h503q a502q
  refine WH.take 14 (listed' := #[true, true, true, true, true, true, true, true, true, true, true, true, true, true, true, false, false, false, false, false, false, false, false, false, false, false, false, false, false]) h505q rfl rfl (by kernel_rfl) rfl rfl (.bool (decide ((p0.f0.length : Int) < p0.f2))) (fun _ _ => by kernel_rfl) ⟨(hS477q.cell (i := 0) rfl), (hS477q.cell (i := 2) rfl), (hS477q.cell (i := 3) rfl), (hS477q.cell (i := 1) rfl), trivial⟩ (fun _ _ _ h_ => h_) (fun a506q h507q => ?_)
  clear h505q a504q
  by_cases c508q : (p0.f0.length : Int) < p0.f2
  · rw [if_pos c508q] at H
    have hb_ : (decide ((p0.f0.length : Int) < p0.f2)) = true := decide_eq_true c508q
    try rw [hb_] at h507q
    clear hb_
    refine WH.take 15 (listed' := #[true, true, true, true, true, true, true, true, true, true, true, true, true, true, true, true, false, false, false, false, false, false, false, false, false, false, false, false, false]) h507q rfl rfl (by kernel_rfl) rfl rfl (.int .i64 p1) (fun _ _ => by kernel_rfl) ⟨(hS477q.cell (i := 0) rfl), (hS477q.cell (i := 2) rfl), (hS477q.cell (i := 3) rfl), (hS477q.cell (i := 1) rfl), trivial⟩ (fun _ _ _ h_ => h_) (fun a509q h510q => ?_)
    clear h507q a506q
    refine WH.take 16 (listed' := #[true, true, true, true, true, true, true, true, true, true, true, true, true, true, true, true, true, false, false, false, false, false, false, false, false, false, false, false, false]) h510q rfl rfl (by kernel_rfl) rfl rfl (.int .i64 (mxI p1 0)) (fun _ _ => by kernel_rfl) ⟨(hS477q.cell (i := 0) rfl), (hS477q.cell (i := 2) rfl), (hS477q.cell (i := 3) rfl), (hS477q.cell (i := 1) rfl), trivial⟩ (fun _ _ _ h_ => h_) (fun a511q h512q => ?_)
    clear h510q a509q
    refine WH.take 17 (listed' := #[true, true, true, true, true, true, true, true, true, true, true, true, true, true, true, true, true, true, false, false, false, false, false, false, false, false, false, false, false]) h512q rfl rfl (by kernel_rfl) rfl rfl (.pointer (some ⟨g293q, 0, none⟩)) (fun _ _ => by kernel_rfl) ⟨(hS477q.cell (i := 0) rfl), (hS477q.cell (i := 2) rfl), (hS477q.cell (i := 3) rfl), (hS477q.cell (i := 1) rfl), trivial⟩ (fun _ _ _ h_ => h_) (fun a513q h514q => ?_)
    clear h512q a511q
    refine WH.take 18 (listed' := #[true, true, true, true, true, true, true, true, true, true, true, true, true, true, true, true, true, true, true, false, false, false, false, false, false, false, false, false, false]) h514q rfl rfl (by kernel_rfl) rfl rfl (.pointer (some ⟨g293q, 0, none⟩)) (fun _ _ => by kernel_rfl) ⟨(hS477q.cell (i := 0) rfl), (hS477q.cell (i := 2) rfl), (hS477q.cell (i := 3) rfl), (hS477q.cell (i := 1) rfl), trivial⟩ (fun _ _ _ h_ => h_) (fun a515q h516q => ?_)
    clear h514q a513q
    refine WH.take 19 (listed' := #[true, true, true, true, true, true, true, true, true, true, true, true, true, true, true, true, true, true, true, true, false, false, false, false, false, false, false, false, false]) h516q rfl rfl (by kernel_rfl) rfl rfl (.pointer (some ⟨g293q, 3, none⟩)) (fun _ _ => by kernel_rfl) ⟨(hS477q.cell (i := 0) rfl), (hS477q.cell (i := 2) rfl), (hS477q.cell (i := 3) rfl), (hS477q.cell (i := 1) rfl), trivial⟩ (fun _ _ _ h_ => h_) (fun a517q h518q => ?_)
    clear h516q a515q
    refine WH.take 21 (listed' := #[true, true, true, true, true, true, true, true, true, true, true, true, true, true, true, true, true, true, true, true, false, true, false, false, false, false, false, false, false]) h518q rfl rfl (by kernel_rfl) rfl rfl (.pointer (some ⟨g293q, 0, none⟩)) (fun _ _ => by kernel_rfl) ⟨(hS477q.cell (i := 0) rfl), (hS477q.cell (i := 2) rfl), (hS477q.cell (i := 3) rfl), (hS477q.cell (i := 1) rfl), trivial⟩ (fun _ _ _ h_ => h_) (fun a519q h520q => ?_)
    clear h518q a517q
    refine WH.take 22 (listed' := #[true, true, true, true, true, true, true, true, true, true, true, true, true, true, true, true, true, true, true, true, false, true, true, false, false, false, false, false, false]) h520q rfl rfl (by kernel_rfl) rfl rfl (.pointer (some ⟨g293q, 0, none⟩)) (fun _ _ => by kernel_rfl) ⟨(hS477q.cell (i := 0) rfl), (hS477q.cell (i := 2) rfl), (hS477q.cell (i := 3) rfl), (hS477q.cell (i := 1) rfl), trivial⟩ (fun _ _ _ h_ => h_) (fun a521q h522q => ?_)
    clear h520q a519q
    refine WH.take 23 (listed' := #[true, true, true, true, true, true, true, true, true, true, true, true, true, true, true, true, true, true, true, true, false, true, true, true, false, false, false, false, false]) h522q rfl rfl (by kernel_rfl) rfl rfl (.pointer (some ⟨g293q, 1, none⟩)) (fun _ _ => by kernel_rfl) ⟨(hS477q.cell (i := 0) rfl), (hS477q.cell (i := 2) rfl), (hS477q.cell (i := 3) rfl), (hS477q.cell (i := 1) rfl), trivial⟩ (fun _ _ _ h_ => h_) (fun a523q h524q => ?_)
    clear h522q a521q
    refine WH.take 20 (listed' := #[true, true, true, true, true, true, true, true, true, true, true, true, true, true, true, true, true, true, true, true, true, true, true, true, false, false, false, false, false]) h524q rfl rfl (by kernel_rfl) rfl rfl (.int .i64 p0.f3) (fun w_ hs_ => (run_load1 rfl rfl Try.underlying3 rfl hs_.2.2.1)) ⟨(hS477q.cell (i := 0) rfl), (hS477q.cell (i := 2) rfl), (hS477q.cell (i := 3) rfl), (hS477q.cell (i := 1) rfl), trivial⟩ (fun _ _ _ h_ => h_) (fun a525q h526q => ?_)
    clear h524q a523q
    refine WH.take 24 (listed' := #[true, true, true, true, true, true, true, true, true, true, true, true, true, true, true, true, true, true, true, true, true, true, true, true, true, false, false, false, false]) h526q rfl rfl (by kernel_rfl) rfl rfl (.int .i64 p0.f1) (fun w_ hs_ => (run_load1 rfl rfl Try.underlying3 rfl hs_.2.2.2.1)) ⟨(hS477q.cell (i := 0) rfl), (hS477q.cell (i := 2) rfl), (hS477q.cell (i := 3) rfl), (hS477q.cell (i := 1) rfl), trivial⟩ (fun _ _ _ h_ => h_) (fun a527q h528q => ?_)
    clear h526q a525q
    refine WH.take 25 (listed' := #[true, true, true, true, true, true, true, true, true, true, true, true, true, true, true, true, true, true, true, true, true, true, true, true, true, true, false, false, false]) h528q rfl rfl (by kernel_rfl) rfl rfl (.int .i64 (IntKind.i64.wrap (p0.f3 - p0.f1))) (fun _ _ => by kernel_rfl) ⟨(hS477q.cell (i := 0) rfl), (hS477q.cell (i := 2) rfl), (hS477q.cell (i := 3) rfl), (hS477q.cell (i := 1) rfl), trivial⟩ (fun _ _ _ h_ => h_) (fun a529q h530q => ?_)
    clear h528q a527q
    refine WH.take 26 (listed' := #[true, true, true, true, true, true, true, true, true, true, true, true, true, true, true, true, true, true, true, true, true, true, true, true, true, true, true, false, false]) h530q rfl rfl (by kernel_rfl) rfl rfl (.bool (decide ((mxI p1 0) ≤ (IntKind.i64.wrap (p0.f3 - p0.f1))))) (fun _ _ => by kernel_rfl) ⟨(hS477q.cell (i := 0) rfl), (hS477q.cell (i := 2) rfl), (hS477q.cell (i := 3) rfl), (hS477q.cell (i := 1) rfl), trivial⟩ (fun _ _ _ h_ => h_) (fun a531q h532q => ?_)
    clear h530q a529q
    refine WH.take 27 (listed' := #[true, true, true, true, true, true, true, true, true, true, true, true, true, true, true, true, true, true, true, true, true, true, true, true, true, true, true, true, false]) h532q rfl rfl (by kernel_rfl) rfl rfl (.bool (decide ((mxI p1 0) ≤ (IntKind.i64.wrap (p0.f3 - p0.f1))))) (fun _ _ => by kernel_rfl) ⟨(hS477q.cell (i := 0) rfl), (hS477q.cell (i := 2) rfl), (hS477q.cell (i := 3) rfl), (hS477q.cell (i := 1) rfl), trivial⟩ (fun _ _ _ h_ => h_) (fun a533q h534q => ?_)
    clear h532q a531q
    refine WH.take 28 (listed' := #[true, true, true, true, true, true, true, true, true, true, true, true, true, true, true, true, true, true, true, true, true, true, true, true, true, true, true, true, true]) h534q rfl rfl (by kernel_rfl) rfl rfl (.bool (decide ((mxI p1 0) ≤ (IntKind.i64.wrap (p0.f3 - p0.f1))))) (fun _ _ => by kernel_rfl) ⟨(hS477q.cell (i := 0) rfl), (hS477q.cell (i := 2) rfl), (hS477q.cell (i := 3) rfl), (hS477q.cell (i := 1) rfl), trivial⟩ (fun _ _ _ h_ => h_) (fun a535q h536q => ?_)
    clear h534q a533q
    refine WH.done (by kernel_rfl) ?_
    refine wp_ret ?_
    have hS537q : St b w0 W.drew R (M295q :: [(g293q, .cells ([.slice A300q p0.f0.length c301q, .int .i64 p0.f1, .int .i64 p0.f2, .int .i64 p0.f3] : List Value).toArray 44 (0, 0))] :: Fs) := hS477q.bring 1 rfl rfl
    have hS538q : St b w0 W.drew R ([(g293q, .cells ([.slice A300q p0.f0.length c301q, .int .i64 p0.f1, .int .i64 p0.f2, .int .i64 p0.f3] : List Value).toArray 44 (0, 0))] :: M295q :: Fs) := hS537q.bring 1 rfl rfl
    obtain ⟨M540q, hr539q, hM_⟩ := k44qmk (b := b) (w0 := w0) (R := R) (x := (⟨p0.f0, p0.f1, p0.f2, p0.f3⟩ : S44)) (gvf0 := hr299q)
    have hp541q : Ptr k44 44 b w0 R (.pointer (some ⟨g293q, 0, none⟩)) (⟨p0.f0, p0.f1, p0.f2, p0.f3⟩ : S44) ((g293q, .cells ([.slice A300q p0.f0.length c301q, .int .i64 p0.f1, .int .i64 p0.f2, .int .i64 p0.f3] : List Value).toArray 44 (0, 0)) :: M540q) := ⟨_, _, _, rfl, rfl, hr539q⟩
    rw [hM_] at hp541q
    have hS543q : St b w0 W.drew R (((g293q, .cells ([.slice A300q p0.f0.length c301q, .int .i64 p0.f1, .int .i64 p0.f2, .int .i64 p0.f3] : List Value).toArray 44 (0, 0)) :: (M295q)) :: Fs) := hS538q.assoc (by simp only [List.flatten_cons, List.append_assoc, List.cons_append, List.nil_append, List.append_nil])
    obtain ⟨M544q, hM_⟩ : ∃ y : Frag, y = ((g293q, .cells ([.slice A300q p0.f0.length c301q, .int .i64 p0.f1, .int .i64 p0.f2, .int .i64 p0.f3] : List Value).toArray 44 (0, 0)) :: (M295q)) := ⟨_, rfl⟩
    rw [← hM_] at hp541q hS543q
    clear hM_
    obtain rfl := Option.some.inj H
    repeat (first | refine then_ret ?_ | refine inBlock_ret ?_ | refine inBlock_go ?_)
    refine body_ret (v := .bool (decide ((mxI p1 0) ≤ (IntKind.i64.wrap (p0.f3 - p0.f1))))) h536q (by kernel_rfl) (by kernel_rfl) ?_
    exact ⟨M544q, rfl, hp541q, hS543q⟩
  · rw [if_neg c508q] at H
    have hb_ : (decide ((p0.f0.length : Int) < p0.f2)) = false := decide_eq_false c508q
    try rw [hb_] at h507q
    clear hb_
    refine WH.skip 15 (listed' := #[true, true, true, true, true, true, true, true, true, true, true, true, true, true, true, true, false, false, false, false, false, false, false, false, false, false, false, false, false]) h507q rfl rfl (by kernel_rfl) rfl rfl ⟨(hS477q.cell (i := 0) rfl), (hS477q.cell (i := 2) rfl), (hS477q.cell (i := 3) rfl), (hS477q.cell (i := 1) rfl), trivial⟩ (fun _ _ _ h_ => h_) (fun a545q h546q => ?_)
    clear h507q a506q
    refine WH.skip 16 (listed' := #[true, true, true, true, true, true, true, true, true, true, true, true, true, true, true, true, true, false, false, false, false, false, false, false, false, false, false, false, false]) h546q rfl rfl (by kernel_rfl) rfl rfl ⟨(hS477q.cell (i := 0) rfl), (hS477q.cell (i := 2) rfl), (hS477q.cell (i := 3) rfl), (hS477q.cell (i := 1) rfl), trivial⟩ (fun _ _ _ h_ => h_) (fun a547q h548q => ?_)
    clear h546q a545q
    refine WH.skip 17 (listed' := #[true, true, true, true, true, true, true, true, true, true, true, true, true, true, true, true, true, true, false, false, false, false, false, false, false, false, false, false, false]) h548q rfl rfl (by kernel_rfl) rfl rfl ⟨(hS477q.cell (i := 0) rfl), (hS477q.cell (i := 2) rfl), (hS477q.cell (i := 3) rfl), (hS477q.cell (i := 1) rfl), trivial⟩ (fun _ _ _ h_ => h_) (fun a549q h550q => ?_)
    clear h548q a547q
    refine WH.skip 18 (listed' := #[true, true, true, true, true, true, true, true, true, true, true, true, true, true, true, true, true, true, true, false, false, false, false, false, false, false, false, false, false]) h550q rfl rfl (by kernel_rfl) rfl rfl ⟨(hS477q.cell (i := 0) rfl), (hS477q.cell (i := 2) rfl), (hS477q.cell (i := 3) rfl), (hS477q.cell (i := 1) rfl), trivial⟩ (fun _ _ _ h_ => h_) (fun a551q h552q => ?_)
    clear h550q a549q
    refine WH.skip 19 (listed' := #[true, true, true, true, true, true, true, true, true, true, true, true, true, true, true, true, true, true, true, true, false, false, false, false, false, false, false, false, false]) h552q rfl rfl (by kernel_rfl) rfl rfl ⟨(hS477q.cell (i := 0) rfl), (hS477q.cell (i := 2) rfl), (hS477q.cell (i := 3) rfl), (hS477q.cell (i := 1) rfl), trivial⟩ (fun _ _ _ h_ => h_) (fun a553q h554q => ?_)
    clear h552q a551q
    refine WH.skip 20 (listed' := #[true, true, true, true, true, true, true, true, true, true, true, true, true, true, true, true, true, true, true, true, true, false, false, false, false, false, false, false, false]) h554q rfl rfl (by kernel_rfl) rfl rfl ⟨(hS477q.cell (i := 0) rfl), (hS477q.cell (i := 2) rfl), (hS477q.cell (i := 3) rfl), (hS477q.cell (i := 1) rfl), trivial⟩ (fun _ _ _ h_ => h_) (fun a555q h556q => ?_)
    clear h554q a553q
    refine WH.skip 21 (listed' := #[true, true, true, true, true, true, true, true, true, true, true, true, true, true, true, true, true, true, true, true, true, true, false, false, false, false, false, false, false]) h556q rfl rfl (by kernel_rfl) rfl rfl ⟨(hS477q.cell (i := 0) rfl), (hS477q.cell (i := 2) rfl), (hS477q.cell (i := 3) rfl), (hS477q.cell (i := 1) rfl), trivial⟩ (fun _ _ _ h_ => h_) (fun a557q h558q => ?_)
    clear h556q a555q
    refine WH.skip 22 (listed' := #[true, true, true, true, true, true, true, true, true, true, true, true, true, true, true, true, true, true, true, true, true, true, true, false, false, false, false, false, false]) h558q rfl rfl (by kernel_rfl) rfl rfl ⟨(hS477q.cell (i := 0) rfl), (hS477q.cell (i := 2) rfl), (hS477q.cell (i := 3) rfl), (hS477q.cell (i := 1) rfl), trivial⟩ (fun _ _ _ h_ => h_) (fun a559q h560q => ?_)
    clear h558q a557q
    refine WH.skip 23 (listed' := #[true, true, true, true, true, true, true, true, true, true, true, true, true, true, true, true, true, true, true, true, true, true, true, true, false, false, false, false, false]) h560q rfl rfl (by kernel_rfl) rfl rfl ⟨(hS477q.cell (i := 0) rfl), (hS477q.cell (i := 2) rfl), (hS477q.cell (i := 3) rfl), (hS477q.cell (i := 1) rfl), trivial⟩ (fun _ _ _ h_ => h_) (fun a561q h562q => ?_)
    clear h560q a559q
    refine WH.skip 24 (listed' := #[true, true, true, true, true, true, true, true, true, true, true, true, true, true, true, true, true, true, true, true, true, true, true, true, true, false, false, false, false]) h562q rfl rfl (by kernel_rfl) rfl rfl ⟨(hS477q.cell (i := 0) rfl), (hS477q.cell (i := 2) rfl), (hS477q.cell (i := 3) rfl), (hS477q.cell (i := 1) rfl), trivial⟩ (fun _ _ _ h_ => h_) (fun a563q h564q => ?_)
    clear h562q a561q
    refine WH.skip 25 (listed' := #[true, true, true, true, true, true, true, true, true, true, true, true, true, true, true, true, true, true, true, true, true, true, true, true, true, true, false, false, false]) h564q rfl rfl (by kernel_rfl) rfl rfl ⟨(hS477q.cell (i := 0) rfl), (hS477q.cell (i := 2) rfl), (hS477q.cell (i := 3) rfl), (hS477q.cell (i := 1) rfl), trivial⟩ (fun _ _ _ h_ => h_) (fun a565q h566q => ?_)
    clear h564q a563q
    refine WH.skip 26 (listed' := #[true, true, true, true, true, true, true, true, true, true, true, true, true, true, true, true, true, true, true, true, true, true, true, true, true, true, true, false, false]) h566q rfl rfl (by kernel_rfl) rfl rfl ⟨(hS477q.cell (i := 0) rfl), (hS477q.cell (i := 2) rfl), (hS477q.cell (i := 3) rfl), (hS477q.cell (i := 1) rfl), trivial⟩ (fun _ _ _ h_ => h_) (fun a567q h568q => ?_)
    clear h566q a565q
    refine WH.take 27 (listed' := #[true, true, true, true, true, true, true, true, true, true, true, true, true, true, true, true, true, true, true, true, true, true, true, true, true, true, true, true, false]) h568q rfl rfl (by kernel_rfl) rfl rfl (.bool false) (fun _ _ => by kernel_rfl) ⟨(hS477q.cell (i := 0) rfl), (hS477q.cell (i := 2) rfl), (hS477q.cell (i := 3) rfl), (hS477q.cell (i := 1) rfl), trivial⟩ (fun _ _ _ h_ => h_) (fun a569q h570q => ?_)
    clear h568q a567q
    refine WH.take 28 (listed' := #[true, true, true, true, true, true, true, true, true, true, true, true, true, true, true, true, true, true, true, true, true, true, true, true, true, true, true, true, true]) h570q rfl rfl (by kernel_rfl) rfl rfl (.bool false) (fun _ _ => by kernel_rfl) ⟨(hS477q.cell (i := 0) rfl), (hS477q.cell (i := 2) rfl), (hS477q.cell (i := 3) rfl), (hS477q.cell (i := 1) rfl), trivial⟩ (fun _ _ _ h_ => h_) (fun a571q h572q => ?_)
    clear h570q a569q
    refine WH.done (by kernel_rfl) ?_
    refine wp_ret ?_
    have hS573q : St b w0 W.drew R (M295q :: [(g293q, .cells ([.slice A300q p0.f0.length c301q, .int .i64 p0.f1, .int .i64 p0.f2, .int .i64 p0.f3] : List Value).toArray 44 (0, 0))] :: Fs) := hS477q.bring 1 rfl rfl
    have hS574q : St b w0 W.drew R ([(g293q, .cells ([.slice A300q p0.f0.length c301q, .int .i64 p0.f1, .int .i64 p0.f2, .int .i64 p0.f3] : List Value).toArray 44 (0, 0))] :: M295q :: Fs) := hS573q.bring 1 rfl rfl
    obtain ⟨M576q, hr575q, hM_⟩ := k44qmk (b := b) (w0 := w0) (R := R) (x := (⟨p0.f0, p0.f1, p0.f2, p0.f3⟩ : S44)) (gvf0 := hr299q)
    have hp577q : Ptr k44 44 b w0 R (.pointer (some ⟨g293q, 0, none⟩)) (⟨p0.f0, p0.f1, p0.f2, p0.f3⟩ : S44) ((g293q, .cells ([.slice A300q p0.f0.length c301q, .int .i64 p0.f1, .int .i64 p0.f2, .int .i64 p0.f3] : List Value).toArray 44 (0, 0)) :: M576q) := ⟨_, _, _, rfl, rfl, hr575q⟩
    rw [hM_] at hp577q
    have hS579q : St b w0 W.drew R (((g293q, .cells ([.slice A300q p0.f0.length c301q, .int .i64 p0.f1, .int .i64 p0.f2, .int .i64 p0.f3] : List Value).toArray 44 (0, 0)) :: (M295q)) :: Fs) := hS574q.assoc (by simp only [List.flatten_cons, List.append_assoc, List.cons_append, List.nil_append, List.append_nil])
    obtain ⟨M580q, hM_⟩ : ∃ y : Frag, y = ((g293q, .cells ([.slice A300q p0.f0.length c301q, .int .i64 p0.f1, .int .i64 p0.f2, .int .i64 p0.f3] : List Value).toArray 44 (0, 0)) :: (M295q)) := ⟨_, rfl⟩
    rw [← hM_] at hp577q hS579q
    clear hM_
    obtain rfl := Option.some.inj H
    repeat (first | refine then_ret ?_ | refine inBlock_ret ?_ | refine inBlock_go ?_)
    refine body_ret (v := .bool false) h572q (by kernel_rfl) (by kernel_rfl) ?_
    exact ⟨M580q, rfl, hp577q, hS579q⟩

/-! ### (*louver/queue.Queue).Fits -/
def queue_Queue_Fits_nil.f (p1 : Int) : Option (Bool) := some false
set_option maxHeartbeats 2000000 in
set_option maxRecDepth 100000 in
theorem queue_Queue_Fits_nil.calls {b : Nat} {w0 W : World} {R : Frag} {Fs : List Frag} {p1 : Int}  {r0q : Bool}  (H : queue_Queue_Fits_nil.f p1 = some r0q) (hS : St b w0 W R (Fs)) :
    Calls Try.prog 8 ([.pointer none, .int .i64 p1] : List Value).toArray W (fun e W' => e = .returned (.bool r0q) ∧ St b w0 W' R (Fs)) := by
  unfold queue_Queue_Fits_nil.f at H
  refine calls_enter Try.func8 rfl 33 rfl (by kernel_rfl) (fun a h => ?_)
  refine wp_seq ?_
  refine WL.start ?_
  refine WL.block (c := 1) (m' := 1) h rfl [(4, .bool false)] (by kernel_rfl) (fun a120q h121q => ?_)
  refine WL.done (by kernel_rfl) ?_
  refine wp_seq ?_
  refine WH.start (fun w_ => True) (by kernel_rfl) #[false, false, false, false, false, false, false, false, false, false, false, false, false, false, false, false, false, false, false, false, false, false, false, false, false, false, false, false, false] 29 rfl rfl ?_
  have hS180q := hS.drew
  refine WH.take 0 (listed' := #[true, false, false, false, false, false, false, false, false, false, false, false, false, false, false, false, false, false, false, false, false, false, false, false, false, false, false, false, false]) h121q rfl rfl (by kernel_rfl) rfl rfl (.pointer none) (fun _ _ => by kernel_rfl) trivial (fun _ _ _ h_ => h_) (fun a181q h182q => ?_)
  clear h121q a120q
  refine WH.take 1 (listed' := #[true, true, false, false, false, false, false, false, false, false, false, false, false, false, false, false, false, false, false, false, false, false, false, false, false, false, false, false, false]) h182q rfl rfl (by kernel_rfl) rfl rfl (.bool false) (fun _ _ => by kernel_rfl) trivial (fun _ _ _ h_ => h_) (fun a183q h184q => ?_)
  clear h182q a181q
  refine WH.take 2 (listed' := #[true, true, true, false, false, false, false, false, false, false, false, false, false, false, false, false, false, false, false, false, false, false, false, false, false, false, false, false, false]) h184q rfl rfl (by kernel_rfl) rfl rfl (.bool false) (fun _ _ => by kernel_rfl) trivial (fun _ _ _ h_ => h_) (fun a185q h186q => ?_)
  clear h184q a183q
  refine WH.skip 3 (listed' := #[true, true, true, true, false, false, false, false, false, false, false, false, false, false, false, false, false, false, false, false, false, false, false, false, false, false, false, false, false]) h186q rfl rfl (by kernel_rfl) rfl rfl trivial (fun _ _ _ h_ => h_) (fun a187q h188q => ?_)
  clear h186q a185q
  refine WH.skip 4 (listed' := #[true, true, true, true, true, false, false, false, false, false, false, false, false, false, false, false, false, false, false, false, false, false, false, false, false, false, false, false, false]) h188q rfl rfl (by kernel_rfl) rfl rfl trivial (fun _ _ _ h_ => h_) (fun a189q h190q => ?_)
  clear h188q a187q
  refine WH.skip 5 (listed' := #[true, true, true, true, true, true, false, false, false, false, false, false, false, false, false, false, false, false, false, false, false, false, false, false, false, false, false, false, false]) h190q rfl rfl (by kernel_rfl) rfl rfl trivial (fun _ _ _ h_ => h_) (fun a191q h192q => ?_)
  clear h190q a189q
  refine WH.skip 6 (listed' := #[true, true, true, true, true, true, true, false, false, false, false, false, false, false, false, false, false, false, false, false, false, false, false, false, false, false, false, false, false]) h192q rfl rfl (by kernel_rfl) rfl rfl trivial (fun _ _ _ h_ => h_) (fun a193q h194q => ?_)
  clear h192q a191q
  refine WH.skip 7 (listed' := #[true, true, true, true, true, true, true, true, false, false, false, false, false, false, false, false, false, false, false, false, false, false, false, false, false, false, false, false, false]) h194q rfl rfl (by kernel_rfl) rfl rfl trivial (fun _ _ _ h_ => h_) (fun a195q h196q => ?_)
  clear h194q a193q
  refine WH.skip 8 (listed' := #[true, true, true, true, true, true, true, true, true, false, false, false, false, false, false, false, false, false, false, false, false, false, false, false, false, false, false, false, false]) h196q rfl rfl (by kernel_rfl) rfl rfl trivial (fun _ _ _ h_ => h_) (fun a197q h198q => ?_)
  clear h196q a195q
  refine WH.skip 9 (listed' := #[true, true, true, true, true, true, true, true, true, true, false, false, false, false, false, false, false, false, false, false, false, false, false, false, false, false, false, false, false]) h198q rfl rfl (by kernel_rfl) rfl rfl trivial (fun _ _ _ h_ => h_) (fun a199q h200q => ?_)
  clear h198q a197q
  refine WH.skip 10 (listed' := #[true, true, true, true, true, true, true, true, true, true, true, false, false, false, false, false, false, false, false, false, false, false, false, false, false, false, false, false, false]) h200q rfl rfl (by kernel_rfl) rfl rfl trivial (fun _ _ _ h_ => h_) (fun a201q h202q => ?_)
  clear h200q a199q
  refine WH.skip 11 (listed' := #[true, true, true, true, true, true, true, true, true, true, true, true, false, false, false, false, false, false, false, false, false, false, false, false, false, false, false, false, false]) h202q rfl rfl (by kernel_rfl) rfl rfl trivial (fun _ _ _ h_ => h_) (fun a203q h204q => ?_)
  clear h202q a201q
  refine WH.skip 12 (listed' := #[true, true, true, true, true, true, true, true, true, true, true, true, true, false, false, false, false, false, false, false, false, false, false, false, false, false, false, false, false]) h204q rfl rfl (by kernel_rfl) rfl rfl trivial (fun _ _ _ h_ => h_) (fun a205q h206q => ?_)
  clear h204q a203q
  refine WH.take 13 (listed' := #[true, true, true, true, true, true, true, true, true, true, true, true, true, true, false, false, false, false, false, false, false, false, false, false, false, false, false, false, false]) h206q rfl rfl (by kernel_rfl) rfl rfl (.bool false) (fun _ _ => by kernel_rfl) trivial (fun _ _ _ h_ => h_) (fun a207q h208q => ?_)
  clear h206q a205q
  refine WH.take 14 (listed' := #[true, true, true, true, true, true, true, true, true, true, true, true, true, true, true, false, false, false, false, false, false, false, false, false, false, false, false, false, false]) h208q rfl rfl (by kernel_rfl) rfl rfl (.bool false) (fun _ _ => by kernel_rfl) trivial (fun _ _ _ h_ => h_) (fun a209q h210q => ?_)
  clear h208q a207q
  refine WH.skip 15 (listed' := #[true, true, true, true, true, true, true, true, true, true, true, true, true, true, true, true, false, false, false, false, false, false, false, false, false, false, false, false, false]) h210q rfl rfl (by kernel_rfl) rfl rfl trivial (fun _ _ _ h_ => h_) (fun a211q h212q => ?_)
  clear h210q a209q
  refine WH.skip 16 (listed' := #[true, true, true, true, true, true, true, true, true, true, true, true, true, true, true, true, true, false, false, false, false, false, false, false, false, false, false, false, false]) h212q rfl rfl (by kernel_rfl) rfl rfl trivial (fun _ _ _ h_ => h_) (fun a213q h214q => ?_)
  clear h212q a211q
  refine WH.skip 17 (listed' := #[true, true, true, true, true, true, true, true, true, true, true, true, true, true, true, true, true, true, false, false, false, false, false, false, false, false, false, false, false]) h214q rfl rfl (by kernel_rfl) rfl rfl trivial (fun _ _ _ h_ => h_) (fun a215q h216q => ?_)
  clear h214q a213q
  refine WH.skip 18 (listed' := #[true, true, true, true, true, true, true, true, true, true, true, true, true, true, true, true, true, true, true, false, false, false, false, false, false, false, false, false, false]) h216q rfl rfl (by kernel_rfl) rfl rfl trivial (fun _ _ _ h_ => h_) (fun a217q h218q => ?_)
  clear h216q a215q
  refine WH.skip 19 (listed' := #[true, true, true, true, true, true, true, true, true, true, true, true, true, true, true, true, true, true, true, true, false, false, false, false, false, false, false, false, false]) h218q rfl rfl (by kernel_rfl) rfl rfl trivial (fun _ _ _ h_ => h_) (fun a219q h220q => ?_)
  clear h218q a217q
  refine WH.skip 20 (listed' := #[true, true, true, true, true, true, true, true, true, true, true, true, true, true, true, true, true, true, true, true, true, false, false, false, false, false, false, false, false]) h220q rfl rfl (by kernel_rfl) rfl rfl trivial (fun _ _ _ h_ => h_) (fun a221q h222q => ?_)
  clear h220q a219q
  refine WH.skip 21 (listed' := #[true, true, true, true, true, true, true, true, true, true, true, true, true, true, true, true, true, true, true, true, true, true, false, false, false, false, false, false, false]) h222q rfl rfl (by kernel_rfl) rfl rfl trivial (fun _ _ _ h_ => h_) (fun a223q h224q => ?_)
  clear h222q a221q
  refine WH.skip 22 (listed' := #[true, true, true, true, true, true, true, true, true, true, true, true, true, true, true, true, true, true, true, true, true, true, true, false, false, false, false, false, false]) h224q rfl rfl (by kernel_rfl) rfl rfl trivial (fun _ _ _ h_ => h_) (fun a225q h226q => ?_)
  clear h224q a223q
  refine WH.skip 23 (listed' := #[true, true, true, true, true, true, true, true, true, true, true, true, true, true, true, true, true, true, true, true, true, true, true, true, false, false, false, false, false]) h226q rfl rfl (by kernel_rfl) rfl rfl trivial (fun _ _ _ h_ => h_) (fun a227q h228q => ?_)
  clear h226q a225q
  refine WH.skip 24 (listed' := #[true, true, true, true, true, true, true, true, true, true, true, true, true, true, true, true, true, true, true, true, true, true, true, true, true, false, false, false, false]) h228q rfl rfl (by kernel_rfl) rfl rfl trivial (fun _ _ _ h_ => h_) (fun a229q h230q => ?_)
  clear h228q a227q
  refine WH.skip 25 (listed' := #[true, true, true, true, true, true, true, true, true, true, true, true, true, true, true, true, true, true, true, true, true, true, true, true, true, true, false, false, false]) h230q rfl rfl (by kernel_rfl) rfl rfl trivial (fun _ _ _ h_ => h_) (fun a231q h232q => ?_)
  clear h230q a229q
  refine WH.skip 26 (listed' := #[true, true, true, true, true, true, true, true, true, true, true, true, true, true, true, true, true, true, true, true, true, true, true, true, true, true, true, false, false]) h232q rfl rfl (by kernel_rfl) rfl rfl trivial (fun _ _ _ h_ => h_) (fun a233q h234q => ?_)
  clear h232q a231q
  refine WH.take 27 (listed' := #[true, true, true, true, true, true, true, true, true, true, true, true, true, true, true, true, true, true, true, true, true, true, true, true, true, true, true, true, false]) h234q rfl rfl (by kernel_rfl) rfl rfl (.bool false) (fun _ _ => by kernel_rfl) trivial (fun _ _ _ h_ => h_) (fun a235q h236q => ?_)
  clear h234q a233q
  refine WH.take 28 (listed' := #[true, true, true, true, true, true, true, true, true, true, true, true, true, true, true, true, true, true, true, true, true, true, true, true, true, true, true, true, true]) h236q rfl rfl (by kernel_rfl) rfl rfl (.bool false) (fun _ _ => by kernel_rfl) trivial (fun _ _ _ h_ => h_) (fun a237q h238q => ?_)
  clear h236q a235q
  refine WH.done (by kernel_rfl) ?_
  refine wp_ret ?_
  obtain rfl := Option.some.inj H
  repeat (first | refine then_ret ?_ | refine inBlock_ret ?_ | refine inBlock_go ?_)
  refine body_ret (v := .bool false) h238q (by kernel_rfl) (by kernel_rfl) ?_
  exact ⟨rfl, hS180q⟩

/-! ### bytes.Clone -/
def bytes_Clone.f (p0 : (List Int)) : Option ((List Int)) := if ([] : List Int).length + p0.length ≤ 140737488355328 then (lt1 (([] : List Int) ++ p0 : List Int) fun y48q => (some y48q)) else (none)
set_option maxHeartbeats 2000000 in
set_option maxRecDepth 100000 in
theorem bytes_Clone.calls {b : Nat} {w0 W : World} {R : Frag} {Fs : List Frag} {p0 : (List Int)} {v0 : Value} {r0q : (List Int)} (hp0 : Rds (kInt .u8) b w0 R v0 p0) (H : bytes_Clone.f p0 = some r0q) (hS : St b w0 W R (Fs)) :
    Calls Try.prog 17 ([v0] : List Value).toArray W (fun e W' => ∃ (u0q : Value) (N0q : Frag), e = .returned (u0q) ∧ Row (kInt .u8) 5 b w0 R u0q r0q N0q ∧ St b w0 W' R (N0q :: Fs)) := by
  obtain ⟨A0, c0, rfl⟩ := hp0.form
  obtain _ | A0 := A0
  · have hn_ : p0 = [] := hp0.nil_of
    subst hn_
    obtain rfl : ([] : (List Int)) = r0q := by simpa [bytes_Clone.f, lt1] using H
    clear H
    have H : some ([] : (List Int)) = some [] := rfl
    refine calls_enter Try.func17 rfl 8 rfl (by kernel_rfl) (fun a h => ?_)
    refine wp_seq ?_
    refine WL.start ?_
    refine WL.block (c := 1) (m' := 1) h rfl [(2, .slice none 0 0)] (by kernel_rfl) (fun a55q h56q => ?_)
    refine WL.done (by kernel_rfl) ?_
    refine wp_seq ?_
    refine wp_seq ?_
    refine WL.start ?_
    refine WL.block (c := 2) (m' := 2) h56q rfl [(4, .bool true), (3, .slice none 0 c0)] (by kernel_rfl) (fun a57q h58q => ?_)
    clear h56q a55q
    refine WL.done (by kernel_rfl) ?_
    refine wp_then h58q rfl ?_
    refine wp_seq ?_
    refine WL.start ?_
    refine WL.block (c := 1) (m' := 1) h58q rfl [(2, .slice none 0 0)] (by kernel_rfl) (fun a59q h60q => ?_)
    clear h58q a57q
    refine WL.done (by kernel_rfl) ?_
    refine wp_ret ?_
    skip
    repeat (first | refine then_ret ?_ | refine inBlock_ret ?_ | refine inBlock_go ?_)
    refine body_ret (v := .slice none 0 0) h60q (by kernel_rfl) (by kernel_rfl) ?_
    exact ⟨.slice none 0 0, [], rfl, Row.nil, hS.nil_⟩
  · unfold bytes_Clone.f at H
    refine calls_enter Try.func17 rfl 8 rfl (by kernel_rfl) (fun a h => ?_)
    refine wp_seq ?_
    refine WL.start ?_
    refine WL.block (c := 1) (m' := 1) h rfl [(2, .slice none 0 0)] (by kernel_rfl) (fun a28q h29q => ?_)
    refine WL.done (by kernel_rfl) ?_
    refine wp_seq ?_
    refine wp_seq ?_
    refine WL.start ?_
    refine WL.block (c := 2) (m' := 2) h29q rfl [(4, .bool false), (3, .slice (some A0) p0.length c0)] (by kernel_rfl) (fun a30q h31q => ?_)
    clear h29q a28q
    refine WL.done (by kernel_rfl) ?_
    refine wp_else h31q rfl ?_
    refine wp_skip ?_
    refine wp_seq ?_
    refine WL.start ?_
    refine WL.op' (m := 0) h31q rfl rfl ?_
    refine owp_new (fun g_ => .slice (some ⟨g_, 0, none⟩) 0 0) (.cells ([] : List Value).toArray 5 (0, 0)) h31q rfl (by kernel_rfl) (by kernel_rfl) hS (fun a32q W34q g35q h33q hS36q => ?_)
    clear h31q a30q
    have hr37q : Row (kInt .u8) 5 b w0 R (.slice (some ⟨g35q, 0, none⟩) 0 0) ([] : List Int) [(g35q, .cells ([] : List Value).toArray 5 (0, 0))] := Row.lit (xs := ([] : List Int)) (Mi := []) ⟨rfl, rfl⟩ (by simp [maxLen])
    refine WL.block (c := 1) (m' := 2) h33q rfl [(6, .slice (some A0) p0.length c0)] (by kernel_rfl) (fun a38q h39q => ?_)
    clear h33q a32q
    by_cases c40q : ([] : List Int).length + p0.length ≤ 140737488355328
    · rw [if_pos c40q] at H
      refine WL.op' (m := 2) h39q rfl rfl ?_
      refine owp_app_rds (z := .int .u8 0) (bytes := 1) (dk := (kInt .u8)) h39q rfl (by kernel_rfl) rfl rfl rfl (kInt_flat _) hr37q hp0 hS36q Try.underlying26 (by kernel_rfl) rfl (by decide) (by decide) (by first | omega | (simp only [List.length_cons, List.length_nil] at *; omega)) (fun a41q W43q v44q M45q h42q hr46q hS47q => ?_)
      clear h39q a38q
      obtain ⟨y48q, hy49q, H⟩ := lete H
      have hr50q : Row (kInt .u8) 5 b w0 R v44q y48q M45q := by rw [hy49q]; exact hr46q
      clear hr46q
      obtain ⟨A51q, c52q, rfl⟩ := hr50q.form
      refine WL.block (c := 1) (m' := 4) h42q rfl [(2, .slice A51q y48q.length c52q)] (by kernel_rfl) (fun a53q h54q => ?_)
      clear h42q a41q
      refine WL.done (by kernel_rfl) ?_
      refine wp_ret ?_
      obtain rfl := Option.some.inj H
      repeat (first | refine then_ret ?_ | refine inBlock_ret ?_ | refine inBlock_go ?_)
      refine body_ret (v := .slice A51q y48q.length c52q) h54q (by kernel_rfl) (by kernel_rfl) ?_
      exact ⟨.slice A51q y48q.length c52q, M45q, rfl, hr50q, hS47q⟩
    · rw [if_neg c40q] at H
      cases H

/-! ### (*louver/queue.Queue).Push -/
def queue_Queue_Push.f (p0 : S44) (p1 : (List Int)) : Option (Bool × S44) := bnd1 (queue_Queue_Fits.f p0 (p1.length : Int)) fun r453q => (if r453q = true then (bnd1 (bytes_Clone.f p1) fun r628q => (if p0.f0.length + 1 ≤ 5864062014805 then (lt1 (p0.f0 ++ ([r628q] : List (List Int)) : List (List Int)) fun y657q => (some (true, (⟨y657q, IntKind.i64.wrap (p0.f1 + (p1.length : Int)), p0.f2, p0.f3⟩ : S44)))) else (none))) else (some (false, p0)))
set_option maxHeartbeats 2000000 in
set_option maxRecDepth 100000 in
theorem queue_Queue_Push.calls {b : Nat} {w0 W : World} {R : Frag} {Fs : List Frag} {p0 : S44} {p1 : (List Int)} {v1 : Value} {v0 : Value} {M0 : Frag} {r0q : Bool} {r1q : S44} (hp0 : Ptr k44 44 b w0 R v0 p0 M0) (hp1 : Rds (kInt .u8) b w0 R v1 p1) (H : queue_Queue_Push.f p0 p1 = some (r0q, r1q)) (hS : St b w0 W R (M0 :: Fs)) :
    Calls Try.prog 9 ([v0, v1] : List Value).toArray W (fun e W' => ∃ (O0q : Frag), e = .returned (.bool r0q) ∧ Ptr k44 44 b w0 R v0 r1q O0q ∧ St b w0 W' R (O0q :: Fs)) := by
  obtain ⟨A1, c1, rfl⟩ := hp1.form
  unfold queue_Queue_Push.f at H
  refine calls_enter Try.func9 rfl 30 rfl (by kernel_rfl) (fun a h => ?_)
  refine wp_seq ?_
  refine WL.start ?_
  refine WL.block (c := 1) (m' := 1) h rfl [(4, .bool false)] (by kernel_rfl) (fun a448q h449q => ?_)
  refine WL.done (by kernel_rfl) ?_
  refine wp_seq ?_
  refine wp_seq ?_
  refine WL.start ?_
  refine WL.block (c := 3) (m' := 3) h449q rfl [(7, .int .i64 (p1.length : Int)), (6, .slice A1 p1.length c1), (5, v0)] (by kernel_rfl) (fun a450q h451q => ?_)
  clear h449q a448q
  obtain ⟨r453q, A452q, H⟩ := bind1 H
  refine WL.op' (m := 3) h451q rfl rfl ?_
  refine owp_call [v0, .int .i64 (p1.length : Int)] h451q rfl (by kernel_rfl) rfl Try.func8 (by kernel_rfl) rfl (by kernel_rfl) (queue_Queue_Fits.calls hp0 A452q hS) (fun e455q W454q hp456q => ?_)
  obtain ⟨M459q, rfl, hr460q, hS461q⟩ := hp456q
  refine ⟨_, rfl, fun a457q h458q => ?_⟩
  clear h451q a450q
  refine WL.block (c := 1) (m' := 5) h458q rfl [(9, .bool (!r453q))] (by kernel_rfl) (fun a462q h463q => ?_)
  clear h458q a457q
  refine WL.done (by kernel_rfl) ?_
  by_cases c464q : r453q = true
  · rw [if_pos c464q] at H
    have hb_ : r453q = true := c464q
    try rw [hb_] at h463q
    clear hb_
    refine wp_else h463q rfl ?_
    refine wp_skip ?_
    refine wp_seq ?_
    obtain ⟨g465q, cs466q, M467q, hv_, hM_, hr468q⟩ := hr460q
    obtain ⟨v469q, M470q, rfl, hM2q, hr471q⟩ := k44qrep hr468q
    subst hM2q
    subst hM_
    subst hv_
    replace hr471q : Row (kRow (kInt .u8) 5) 26 b w0 R v469q p0.f0 M467q := hr471q
    obtain ⟨A472q, c473q, rfl⟩ := hr471q.form
    have hS474q : St b w0 W454q R ([(g465q, .cells ([.slice A472q p0.f0.length c473q, .int .i64 p0.f1, .int .i64 p0.f2, .int .i64 p0.f3] : List Value).toArray 44 (0, 0))] :: M467q :: Fs) := hS461q.assoc (by simp only [List.flatten_cons, List.append_assoc, List.cons_append, List.nil_append, List.append_nil])
    refine WH.start (fun w_ => True) (by kernel_rfl) #[false, false, false, false, false, false, false, false, false, false, false, false] 12 rfl rfl ?_
    have hS614q := hS474q.drew
    refine WH.take 0 (listed' := #[true, false, false, false, false, false, false, false, false, false, false, false]) h463q rfl rfl (by kernel_rfl) rfl rfl (.pointer (some ⟨g465q, 0, none⟩)) (fun _ _ => by kernel_rfl) trivial (fun _ _ _ h_ => h_) (fun a615q h616q => ?_)
    clear h463q a462q
    refine WH.take 1 (listed' := #[true, true, false, false, false, false, false, false, false, false, false, false]) h616q rfl rfl (by kernel_rfl) rfl rfl (.pointer (some ⟨g465q, 0, none⟩)) (fun _ _ => by kernel_rfl) trivial (fun _ _ _ h_ => h_) (fun a617q h618q => ?_)
    clear h616q a615q
    refine WH.take 2 (listed' := #[true, true, true, false, false, false, false, false, false, false, false, false]) h618q rfl rfl (by kernel_rfl) rfl rfl (.pointer (some ⟨g465q, 0, none⟩)) (fun _ _ => by kernel_rfl) trivial (fun _ _ _ h_ => h_) (fun a619q h620q => ?_)
    clear h618q a617q
    refine WH.take 3 (listed' := #[true, true, true, true, false, false, false, false, false, false, false, false]) h620q rfl rfl (by kernel_rfl) rfl rfl (.pointer (some ⟨g465q, 0, none⟩)) (fun _ _ => by kernel_rfl) trivial (fun _ _ _ h_ => h_) (fun a621q h622q => ?_)
    clear h620q a619q
    refine WH.take 5 (listed' := #[true, true, true, true, false, true, false, false, false, false, false, false]) h622q rfl rfl (by kernel_rfl) rfl rfl (.slice A1 p1.length c1) (fun _ _ => by kernel_rfl) trivial (fun _ _ _ h_ => h_) (fun a623q h624q => ?_)
    clear h622q a621q
    refine WH.two 4 6 h624q rfl rfl (by kernel_rfl) rfl rfl ?_ ?_
    · skip
      refine owp_run (v := .slice A472q p0.f0.length c473q) h624q rfl (by kernel_rfl) (run_load1 rfl rfl Try.underlying22 rfl (hS614q.cell (i := 0) rfl)) (fun a625q h626q => ?_)
      clear h624q a623q
      refine ⟨trivial, ?_⟩
      obtain ⟨r628q, A627q, H⟩ := bind1 H
      refine WH.op 6 (listed' := #[true, true, true, true, true, true, true, false, false, false, false, false]) h626q rfl (by kernel_rfl) rfl rfl ?_
      refine owp_call [.slice A1 p1.length c1] h626q rfl (by kernel_rfl) rfl Try.func17 (by kernel_rfl) rfl (by kernel_rfl) (bytes_Clone.calls hp1 A627q hS614q) (fun e630q W629q hp631q => ?_)
      obtain ⟨v634q, M635q, rfl, hr636q, hS637q⟩ := hp631q
      refine ⟨_, rfl, fun a632q h633q => ?_⟩
      clear h626q a625q
      obtain ⟨A638q, c639q, rfl⟩ := hr636q.form
      refine ⟨trivial, ?_⟩
      refine WH.op 7 (listed' := #[true, true, true, true, true, true, true, true, false, false, false, false]) h633q rfl (by kernel_rfl) rfl rfl ?_
      refine owp_new (fun g_ => .slice (some ⟨g_, 0, none⟩) 1 1) (.cells ([.slice A638q r628q.length c639q] : List Value).toArray 26 (0, 0)) h633q rfl (by kernel_rfl) (by kernel_rfl) hS637q (fun a640q W642q g643q h641q hS644q => ?_)
      clear h633q a632q
      have hr645q : Row (kRow (kInt .u8) 5) 26 b w0 R (.slice (some ⟨g643q, 0, none⟩) 1 1) ([r628q] : List (List Int)) ([(g643q, .cells ([.slice A638q r628q.length c639q] : List Value).toArray 26 (0, 0))] ++ ((M635q) ++ ([] : Frag))) := Row.lit (xs := ([r628q] : List (List Int))) (Mi := ((M635q) ++ ([] : Frag))) ⟨_, _, _, _, rfl, rfl, ⟨_, rfl, hr636q⟩, ⟨rfl, rfl⟩⟩ (by simp [maxLen])
      have hS647q : St b w0 W642q R (([(g643q, .cells ([.slice A638q r628q.length c639q] : List Value).toArray 26 (0, 0))] ++ ((M635q) ++ ([] : Frag))) :: [(g465q, .cells ([.slice A472q p0.f0.length c473q, .int .i64 p0.f1, .int .i64 p0.f2, .int .i64 p0.f3] : List Value).toArray 44 (0, 0))] :: M467q :: Fs) := hS644q.assoc (by simp only [List.flatten_cons, List.append_assoc, List.cons_append, List.nil_append, List.append_nil])
      obtain ⟨M646q, hM_⟩ : ∃ y : Frag, y = ([(g643q, .cells ([.slice A638q r628q.length c639q] : List Value).toArray 26 (0, 0))] ++ ((M635q) ++ ([] : Frag))) := ⟨_, rfl⟩
      rw [← hM_] at hr645q hS647q
      clear hM_
      refine ⟨trivial, ?_⟩
      by_cases c648q : p0.f0.length + 1 ≤ 5864062014805
      · rw [if_pos c648q] at H
        have hS649q : St b w0 W642q R (M467q :: M646q :: [(g465q, .cells ([.slice A472q p0.f0.length c473q, .int .i64 p0.f1, .int .i64 p0.f2, .int .i64 p0.f3] : List Value).toArray 44 (0, 0))] :: Fs) := hS647q.bring 2 rfl rfl
        refine WH.op 8 (listed' := #[true, true, true, true, true, true, true, true, true, false, false, false]) h641q rfl (by kernel_rfl) rfl rfl ?_
        refine owp_app_take (z := .slice none 0 0) (bytes := 24) (dk := (kRow (kInt .u8) 5)) h641q rfl (by kernel_rfl) rfl rfl rfl hr471q hr645q hS649q Try.underlying22 (by kernel_rfl) rfl (by decide) (by decide) (by first | omega | (simp only [List.length_cons, List.length_nil] at *; omega)) (fun a650q W652q v653q M654q h651q hr655q hS656q => ?_)
        clear h641q a640q
        obtain ⟨y657q, hy658q, H⟩ := lete H
        have hr659q : Row (kRow (kInt .u8) 5) 26 b w0 R v653q y657q M654q := by rw [hy658q]; exact hr655q
        clear hr655q
        obtain ⟨A660q, c661q, rfl⟩ := hr659q.form
        refine ⟨trivial, ?_⟩
        refine WH.take 9 (listed' := #[true, true, true, true, true, true, true, true, true, true, false, false]) h651q rfl rfl (by kernel_rfl) rfl rfl (.pointer (some ⟨g465q, 0, none⟩)) (fun _ _ => by kernel_rfl) trivial (fun _ _ _ h_ => h_) (fun a662q h663q => ?_)
        clear h651q a650q
        refine WH.take 10 (listed' := #[true, true, true, true, true, true, true, true, true, true, true, false]) h663q rfl rfl (by kernel_rfl) rfl rfl (.pointer (some ⟨g465q, 0, none⟩)) (fun _ _ => by kernel_rfl) trivial (fun _ _ _ h_ => h_) (fun a664q h665q => ?_)
        clear h663q a662q
        have hS666q : St b w0 W652q R ([(g465q, .cells ([.slice A472q p0.f0.length c473q, .int .i64 p0.f1, .int .i64 p0.f2, .int .i64 p0.f3] : List Value).toArray 44 (0, 0))] :: M654q :: Fs) := hS656q.bring 1 rfl rfl
        refine WH.op 11 (listed' := #[true, true, true, true, true, true, true, true, true, true, true, true]) h665q rfl (by kernel_rfl) rfl rfl ?_
        refine owp_store (i := 0) (vs := ([.slice A660q y657q.length c661q] : List Value)) h665q rfl (by kernel_rfl) rfl rfl rfl rfl (by simp [Value.oneCell']) (by kernel_rfl) hS666q (by simp) (cs' := ([.slice A660q y657q.length c661q, .int .i64 p0.f1, .int .i64 p0.f2, .int .i64 p0.f3] : List Value)) rfl (fun a667q W669q h668q hS670q => ?_)
        clear h665q a664q
        refine ⟨trivial, ?_⟩
        refine WH.done (by kernel_rfl) ?_
        refine wp_seq ?_
        refine WL.start ?_
        refine WL.block (c := 3) (m' := 3) h668q rfl [(23, .pointer (some ⟨g465q, 1, none⟩)), (22, .pointer (some ⟨g465q, 0, none⟩)), (21, .pointer (some ⟨g465q, 0, none⟩))] (by kernel_rfl) (fun a671q h672q => ?_)
        clear h668q a667q
        refine WL.op' (m := 3) h672q rfl rfl ?_
        refine owp_run (v := .int .i64 p0.f1) h672q rfl (by kernel_rfl) (run_load1 rfl rfl Try.underlying3 rfl (hS670q.cell (i := 1) rfl)) (fun a673q h674q => ?_)
        clear h672q a671q
        refine WL.block (c := 5) (m' := 9) h674q rfl [(29, .pointer (some ⟨g465q, 1, none⟩)), (28, .pointer (some ⟨g465q, 0, none⟩)), (27, .int .i64 (IntKind.i64.wrap (p0.f1 + (p1.length : Int)))), (26, .int .i64 (p1.length : Int)), (25, .slice A1 p1.length c1)] (by kernel_rfl) (fun a675q h676q => ?_)
        clear h674q a673q
        refine WL.op' (m := 9) h676q rfl rfl ?_
        refine owp_store (i := 1) (vs := ([.int .i64 (IntKind.i64.wrap (p0.f1 + (p1.length : Int)))] : List Value)) h676q rfl (by kernel_rfl) rfl rfl rfl rfl (by simp [Value.oneCell']) (by kernel_rfl) hS670q (by simp) (cs' := ([.slice A660q y657q.length c661q, .int .i64 (IntKind.i64.wrap (p0.f1 + (p1.length : Int))), .int .i64 p0.f2, .int .i64 p0.f3] : List Value)) rfl (fun a677q W679q h678q hS680q => ?_)
        clear h676q a675q
        refine WL.done (by kernel_rfl) ?_
        refine wp_seq ?_
        refine WL.start ?_
        refine WL.block (c := 1) (m' := 1) h678q rfl [(4, .bool true)] (by kernel_rfl) (fun a681q h682q => ?_)
        clear h678q a677q
        refine WL.done (by kernel_rfl) ?_
        refine wp_ret ?_
        have hS683q : St b w0 W679q R (M654q :: [(g465q, .cells ([.slice A660q y657q.length c661q, .int .i64 (IntKind.i64.wrap (p0.f1 + (p1.length : Int))), .int .i64 p0.f2, .int .i64 p0.f3] : List Value).toArray 44 (0, 0))] :: Fs) := hS680q.bring 1 rfl rfl
        have hS684q : St b w0 W679q R ([(g465q, .cells ([.slice A660q y657q.length c661q, .int .i64 (IntKind.i64.wrap (p0.f1 + (p1.length : Int))), .int .i64 p0.f2, .int .i64 p0.f3] : List Value).toArray 44 (0, 0))] :: M654q :: Fs) := hS683q.bring 1 rfl rfl
        obtain ⟨M686q, hr685q, hM_⟩ := k44qmk (b := b) (w0 := w0) (R := R) (x := (⟨y657q, IntKind.i64.wrap (p0.f1 + (p1.length : Int)), p0.f2, p0.f3⟩ : S44)) (gvf0 := hr659q)
        have hp687q : Ptr k44 44 b w0 R (.pointer (some ⟨g465q, 0, none⟩)) (⟨y657q, IntKind.i64.wrap (p0.f1 + (p1.length : Int)), p0.f2, p0.f3⟩ : S44) ((g465q, .cells ([.slice A660q y657q.length c661q, .int .i64 (IntKind.i64.wrap (p0.f1 + (p1.length : Int))), .int .i64 p0.f2, .int .i64 p0.f3] : List Value).toArray 44 (0, 0)) :: M686q) := ⟨_, _, _, rfl, rfl, hr685q⟩
        rw [hM_] at hp687q
        have hS689q : St b w0 W679q R (((g465q, .cells ([.slice A660q y657q.length c661q, .int .i64 (IntKind.i64.wrap (p0.f1 + (p1.length : Int))), .int .i64 p0.f2, .int .i64 p0.f3] : List Value).toArray 44 (0, 0)) :: (M654q)) :: Fs) := hS684q.assoc (by simp only [List.flatten_cons, List.append_assoc, List.cons_append, List.nil_append, List.append_nil])
        obtain ⟨M690q, hM_⟩ : ∃ y : Frag, y = ((g465q, .cells ([.slice A660q y657q.length c661q, .int .i64 (IntKind.i64.wrap (p0.f1 + (p1.length : Int))), .int .i64 p0.f2, .int .i64 p0.f3] : List Value).toArray 44 (0, 0)) :: (M654q)) := ⟨_, rfl⟩
        rw [← hM_] at hp687q hS689q
        clear hM_
        obtain ⟨rfl, rfl⟩ := ret2 H
        repeat (first | refine then_ret ?_ | refine inBlock_ret ?_ | refine inBlock_go ?_)
        refine body_ret (v := .bool true) h682q (by kernel_rfl) (by kernel_rfl) ?_
        exact ⟨M690q, rfl, hp687q, hS689q⟩
      · rw [if_neg c648q] at H
        cases H
    · obtain ⟨r692q, A691q, H⟩ := bind1 H
      skip
      refine owp_call [.slice A1 p1.length c1] h624q rfl (by kernel_rfl) rfl Try.func17 (by kernel_rfl) rfl (by kernel_rfl) (bytes_Clone.calls hp1 A691q hS614q) (fun e694q W693q hp695q => ?_)
      obtain ⟨v698q, M699q, rfl, hr700q, hS701q⟩ := hp695q
      refine ⟨_, rfl, fun a696q h697q => ?_⟩
      clear h624q a623q
      obtain ⟨A702q, c703q, rfl⟩ := hr700q.form
      refine ⟨trivial, ?_⟩
      refine WH.two 4 7 h697q rfl rfl (by kernel_rfl) rfl rfl ?_ ?_
      · have hS704q : St b w0 W693q R ([(g465q, .cells ([.slice A472q p0.f0.length c473q, .int .i64 p0.f1, .int .i64 p0.f2, .int .i64 p0.f3] : List Value).toArray 44 (0, 0))] :: M699q :: M467q :: Fs) := hS701q.bring 1 rfl rfl
        skip
        refine owp_run (v := .slice A472q p0.f0.length c473q) h697q rfl (by kernel_rfl) (run_load1 rfl rfl Try.underlying22 rfl (hS704q.cell (i := 0) rfl)) (fun a705q h706q => ?_)
        clear h697q a696q
        refine ⟨trivial, ?_⟩
        have hS707q : St b w0 W693q R (M699q :: [(g465q, .cells ([.slice A472q p0.f0.length c473q, .int .i64 p0.f1, .int .i64 p0.f2, .int .i64 p0.f3] : List Value).toArray 44 (0, 0))] :: M467q :: Fs) := hS704q.bring 1 rfl rfl
        refine WH.op 7 (listed' := #[true, true, true, true, true, true, true, true, false, false, false, false]) h706q rfl (by kernel_rfl) rfl rfl ?_
        refine owp_new (fun g_ => .slice (some ⟨g_, 0, none⟩) 1 1) (.cells ([.slice A702q r692q.length c703q] : List Value).toArray 26 (0, 0)) h706q rfl (by kernel_rfl) (by kernel_rfl) hS707q (fun a708q W710q g711q h709q hS712q => ?_)
        clear h706q a705q
        have hr713q : Row (kRow (kInt .u8) 5) 26 b w0 R (.slice (some ⟨g711q, 0, none⟩) 1 1) ([r692q] : List (List Int)) ([(g711q, .cells ([.slice A702q r692q.length c703q] : List Value).toArray 26 (0, 0))] ++ ((M699q) ++ ([] : Frag))) := Row.lit (xs := ([r692q] : List (List Int))) (Mi := ((M699q) ++ ([] : Frag))) ⟨_, _, _, _, rfl, rfl, ⟨_, rfl, hr700q⟩, ⟨rfl, rfl⟩⟩ (by simp [maxLen])
        have hS715q : St b w0 W710q R (([(g711q, .cells ([.slice A702q r692q.length c703q] : List Value).toArray 26 (0, 0))] ++ ((M699q) ++ ([] : Frag))) :: [(g465q, .cells ([.slice A472q p0.f0.length c473q, .int .i64 p0.f1, .int .i64 p0.f2, .int .i64 p0.f3] : List Value).toArray 44 (0, 0))] :: M467q :: Fs) := hS712q.assoc (by simp only [List.flatten_cons, List.append_assoc, List.cons_append, List.nil_append, List.append_nil])
        obtain ⟨M714q, hM_⟩ : ∃ y : Frag, y = ([(g711q, .cells ([.slice A702q r692q.length c703q] : List Value).toArray 26 (0, 0))] ++ ((M699q) ++ ([] : Frag))) := ⟨_, rfl⟩
        rw [← hM_] at hr713q hS715q
        clear hM_
        refine ⟨trivial, ?_⟩
        by_cases c716q : p0.f0.length + 1 ≤ 5864062014805
        · rw [if_pos c716q] at H
          have hS717q : St b w0 W710q R (M467q :: M714q :: [(g465q, .cells ([.slice A472q p0.f0.length c473q, .int .i64 p0.f1, .int .i64 p0.f2, .int .i64 p0.f3] : List Value).toArray 44 (0, 0))] :: Fs) := hS715q.bring 2 rfl rfl
          refine WH.op 8 (listed' := #[true, true, true, true, true, true, true, true, true, false, false, false]) h709q rfl (by kernel_rfl) rfl rfl ?_
          refine owp_app_take (z := .slice none 0 0) (bytes := 24) (dk := (kRow (kInt .u8) 5)) h709q rfl (by kernel_rfl) rfl rfl rfl hr471q hr713q hS717q Try.underlying22 (by kernel_rfl) rfl (by decide) (by decide) (by first | omega | (simp only [List.length_cons, List.length_nil] at *; omega)) (fun a718q W720q v721q M722q h719q hr723q hS724q => ?_)
          clear h709q a708q
          obtain ⟨y725q, hy726q, H⟩ := lete H
          have hr727q : Row (kRow (kInt .u8) 5) 26 b w0 R v721q y725q M722q := by rw [hy726q]; exact hr723q
          clear hr723q
          obtain ⟨A728q, c729q, rfl⟩ := hr727q.form
          refine ⟨trivial, ?_⟩
          refine WH.take 9 (listed' := #[true, true, true, true, true, true, true, true, true, true, false, false]) h719q rfl rfl (by kernel_rfl) rfl rfl (.pointer (some ⟨g465q, 0, none⟩)) (fun _ _ => by kernel_rfl) trivial (fun _ _ _ h_ => h_) (fun a730q h731q => ?_)
          clear h719q a718q
          refine WH.take 10 (listed' := #[true, true, true, true, true, true, true, true, true, true, true, false]) h731q rfl rfl (by kernel_rfl) rfl rfl (.pointer (some ⟨g465q, 0, none⟩)) (fun _ _ => by kernel_rfl) trivial (fun _ _ _ h_ => h_) (fun a732q h733q => ?_)
          clear h731q a730q
          have hS734q : St b w0 W720q R ([(g465q, .cells ([.slice A472q p0.f0.length c473q, .int .i64 p0.f1, .int .i64 p0.f2, .int .i64 p0.f3] : List Value).toArray 44 (0, 0))] :: M722q :: Fs) := hS724q.bring 1 rfl rfl
          refine WH.op 11 (listed' := #[true, true, true, true, true, true, true, true, true, true, true, true]) h733q rfl (by kernel_rfl) rfl rfl ?_
          refine owp_store (i := 0) (vs := ([.slice A728q y725q.length c729q] : List Value)) h733q rfl (by kernel_rfl) rfl rfl rfl rfl (by simp [Value.oneCell']) (by kernel_rfl) hS734q (by simp) (cs' := ([.slice A728q y725q.length c729q, .int .i64 p0.f1, .int .i64 p0.f2, .int .i64 p0.f3] : List Value)) rfl (fun a735q W737q h736q hS738q => ?_)
          clear h733q a732q
          refine ⟨trivial, ?_⟩
          refine WH.done (by kernel_rfl) ?_
          refine wp_seq ?_
          refine WL.start ?_
          refine WL.block (c := 3) (m' := 3) h736q rfl [(23, .pointer (some ⟨g465q, 1, none⟩)), (22, .pointer (some ⟨g465q, 0, none⟩)), (21, .pointer (some ⟨g465q, 0, none⟩))] (by kernel_rfl) (fun a739q h740q => ?_)
          clear h736q a735q
          refine WL.op' (m := 3) h740q rfl rfl ?_
          refine owp_run (v := .int .i64 p0.f1) h740q rfl (by kernel_rfl) (run_load1 rfl rfl Try.underlying3 rfl (hS738q.cell (i := 1) rfl)) (fun a741q h742q => ?_)
          clear h740q a739q
          refine WL.block (c := 5) (m' := 9) h742q rfl [(29, .pointer (some ⟨g465q, 1, none⟩)), (28, .pointer (some ⟨g465q, 0, none⟩)), (27, .int .i64 (IntKind.i64.wrap (p0.f1 + (p1.length : Int)))), (26, .int .i64 (p1.length : Int)), (25, .slice A1 p1.length c1)] (by kernel_rfl) (fun a743q h744q => ?_)
          clear h742q a741q
          refine WL.op' (m := 9) h744q rfl rfl ?_
          refine owp_store (i := 1) (vs := ([.int .i64 (IntKind.i64.wrap (p0.f1 + (p1.length : Int)))] : List Value)) h744q rfl (by kernel_rfl) rfl rfl rfl rfl (by simp [Value.oneCell']) (by kernel_rfl) hS738q (by simp) (cs' := ([.slice A728q y725q.length c729q, .int .i64 (IntKind.i64.wrap (p0.f1 + (p1.length : Int))), .int .i64 p0.f2, .int .i64 p0.f3] : List Value)) rfl (fun a745q W747q h746q hS748q => ?_)
          clear h744q a743q
          refine WL.done (by kernel_rfl) ?_
          refine wp_seq ?_
          refine WL.start ?_
          refine WL.block (c := 1) (m' := 1) h746q rfl [(4, .bool true)] (by kernel_rfl) (fun a749q h750q => ?_)
          clear h746q a745q
          refine WL.done (by kernel_rfl) ?_
          refine wp_ret ?_
          have hS751q : St b w0 W747q R (M722q :: [(g465q, .cells ([.slice A728q y725q.length c729q, .int .i64 (IntKind.i64.wrap (p0.f1 + (p1.length : Int))), .int .i64 p0.f2, .int .i64 p0.f3] : List Value).toArray 44 (0, 0))] :: Fs) := hS748q.bring 1 rfl rfl
          have hS752q : St b w0 W747q R ([(g465q, .cells ([.slice A728q y725q.length c729q, .int .i64 (IntKind.i64.wrap (p0.f1 + (p1.length : Int))), .int .i64 p0.f2, .int .i64 p0.f3] : List Value).toArray 44 (0, 0))] :: M722q :: Fs) := hS751q.bring 1 rfl rfl
          obtain ⟨M754q, hr753q, hM_⟩ := k44qmk (b := b) (w0 := w0) (R := R) (x := (⟨y725q, IntKind.i64.wrap (p0.f1 + (p1.length : Int)), p0.f2, p0.f3⟩ : S44)) (gvf0 := hr727q)
          have hp755q : Ptr k44 44 b w0 R (.pointer (some ⟨g465q, 0, none⟩)) (⟨y725q, IntKind.i64.wrap (p0.f1 + (p1.length : Int)), p0.f2, p0.f3⟩ : S44) ((g465q, .cells ([.slice A728q y725q.length c729q, .int .i64 (IntKind.i64.wrap (p0.f1 + (p1.length : Int))), .int .i64 p0.f2, .int .i64 p0.f3] : List Value).toArray 44 (0, 0)) :: M754q) := ⟨_, _, _, rfl, rfl, hr753q⟩
          rw [hM_] at hp755q
          have hS757q : St b w0 W747q R (((g465q, .cells ([.slice A728q y725q.length c729q, .int .i64 (IntKind.i64.wrap (p0.f1 + (p1.length : Int))), .int .i64 p0.f2, .int .i64 p0.f3] : List Value).toArray 44 (0, 0)) :: (M722q)) :: Fs) := hS752q.assoc (by simp only [List.flatten_cons, List.append_assoc, List.cons_append, List.nil_append, List.append_nil])
          obtain ⟨M758q, hM_⟩ : ∃ y : Frag, y = ((g465q, .cells ([.slice A728q y725q.length c729q, .int .i64 (IntKind.i64.wrap (p0.f1 + (p1.length : Int))), .int .i64 p0.f2, .int .i64 p0.f3] : List Value).toArray 44 (0, 0)) :: (M722q)) := ⟨_, rfl⟩
          rw [← hM_] at hp755q hS757q
          clear hM_
          obtain ⟨rfl, rfl⟩ := ret2 H
          repeat (first | refine then_ret ?_ | refine inBlock_ret ?_ | refine inBlock_go ?_)
          refine body_ret (v := .bool true) h750q (by kernel_rfl) (by kernel_rfl) ?_
          exact ⟨M758q, rfl, hp755q, hS757q⟩
        · rw [if_neg c716q] at H
          cases H
      · skip
        refine owp_new (fun g_ => .slice (some ⟨g_, 0, none⟩) 1 1) (.cells ([.slice A702q r692q.length c703q] : List Value).toArray 26 (0, 0)) h697q rfl (by kernel_rfl) (by kernel_rfl) hS701q (fun a759q W761q g762q h760q hS763q => ?_)
        clear h697q a696q
        have hr764q : Row (kRow (kInt .u8) 5) 26 b w0 R (.slice (some ⟨g762q, 0, none⟩) 1 1) ([r692q] : List (List Int)) ([(g762q, .cells ([.slice A702q r692q.length c703q] : List Value).toArray 26 (0, 0))] ++ ((M699q) ++ ([] : Frag))) := Row.lit (xs := ([r692q] : List (List Int))) (Mi := ((M699q) ++ ([] : Frag))) ⟨_, _, _, _, rfl, rfl, ⟨_, rfl, hr700q⟩, ⟨rfl, rfl⟩⟩ (by simp [maxLen])
        have hS766q : St b w0 W761q R (([(g762q, .cells ([.slice A702q r692q.length c703q] : List Value).toArray 26 (0, 0))] ++ ((M699q) ++ ([] : Frag))) :: [(g465q, .cells ([.slice A472q p0.f0.length c473q, .int .i64 p0.f1, .int .i64 p0.f2, .int .i64 p0.f3] : List Value).toArray 44 (0, 0))] :: M467q :: Fs) := hS763q.assoc (by simp only [List.flatten_cons, List.append_assoc, List.cons_append, List.nil_append, List.append_nil])
        obtain ⟨M765q, hM_⟩ : ∃ y : Frag, y = ([(g762q, .cells ([.slice A702q r692q.length c703q] : List Value).toArray 26 (0, 0))] ++ ((M699q) ++ ([] : Frag))) := ⟨_, rfl⟩
        rw [← hM_] at hr764q hS766q
        clear hM_
        refine ⟨trivial, ?_⟩
        have hS767q : St b w0 W761q R ([(g465q, .cells ([.slice A472q p0.f0.length c473q, .int .i64 p0.f1, .int .i64 p0.f2, .int .i64 p0.f3] : List Value).toArray 44 (0, 0))] :: M765q :: M467q :: Fs) := hS766q.bring 1 rfl rfl
        refine WH.op 4 (listed' := #[true, true, true, true, true, true, true, true, false, false, false, false]) h760q rfl (by kernel_rfl) rfl rfl ?_
        refine owp_run (v := .slice A472q p0.f0.length c473q) h760q rfl (by kernel_rfl) (run_load1 rfl rfl Try.underlying22 rfl (hS767q.cell (i := 0) rfl)) (fun a768q h769q => ?_)
        clear h760q a759q
        refine ⟨trivial, ?_⟩
        by_cases c770q : p0.f0.length + 1 ≤ 5864062014805
        · rw [if_pos c770q] at H
          have hS771q : St b w0 W761q R (M765q :: [(g465q, .cells ([.slice A472q p0.f0.length c473q, .int .i64 p0.f1, .int .i64 p0.f2, .int .i64 p0.f3] : List Value).toArray 44 (0, 0))] :: M467q :: Fs) := hS767q.bring 1 rfl rfl
          have hS772q : St b w0 W761q R (M467q :: M765q :: [(g465q, .cells ([.slice A472q p0.f0.length c473q, .int .i64 p0.f1, .int .i64 p0.f2, .int .i64 p0.f3] : List Value).toArray 44 (0, 0))] :: Fs) := hS771q.bring 2 rfl rfl
          refine WH.op 8 (listed' := #[true, true, true, true, true, true, true, true, true, false, false, false]) h769q rfl (by kernel_rfl) rfl rfl ?_
          refine owp_app_take (z := .slice none 0 0) (bytes := 24) (dk := (kRow (kInt .u8) 5)) h769q rfl (by kernel_rfl) rfl rfl rfl hr471q hr764q hS772q Try.underlying22 (by kernel_rfl) rfl (by decide) (by decide) (by first | omega | (simp only [List.length_cons, List.length_nil] at *; omega)) (fun a773q W775q v776q M777q h774q hr778q hS779q => ?_)
          clear h769q a768q
          obtain ⟨y780q, hy781q, H⟩ := lete H
          have hr782q : Row (kRow (kInt .u8) 5) 26 b w0 R v776q y780q M777q := by rw [hy781q]; exact hr778q
          clear hr778q
          obtain ⟨A783q, c784q, rfl⟩ := hr782q.form
          refine ⟨trivial, ?_⟩
          refine WH.take 9 (listed' := #[true, true, true, true, true, true, true, true, true, true, false, false]) h774q rfl rfl (by kernel_rfl) rfl rfl (.pointer (some ⟨g465q, 0, none⟩)) (fun _ _ => by kernel_rfl) trivial (fun _ _ _ h_ => h_) (fun a785q h786q => ?_)
          clear h774q a773q
          refine WH.take 10 (listed' := #[true, true, true, true, true, true, true, true, true, true, true, false]) h786q rfl rfl (by kernel_rfl) rfl rfl (.pointer (some ⟨g465q, 0, none⟩)) (fun _ _ => by kernel_rfl) trivial (fun _ _ _ h_ => h_) (fun a787q h788q => ?_)
          clear h786q a785q
          have hS789q : St b w0 W775q R ([(g465q, .cells ([.slice A472q p0.f0.length c473q, .int .i64 p0.f1, .int .i64 p0.f2, .int .i64 p0.f3] : List Value).toArray 44 (0, 0))] :: M777q :: Fs) := hS779q.bring 1 rfl rfl
          refine WH.op 11 (listed' := #[true, true, true, true, true, true, true, true, true, true, true, true]) h788q rfl (by kernel_rfl) rfl rfl ?_
          refine owp_store (i := 0) (vs := ([.slice A783q y780q.length c784q] : List Value)) h788q rfl (by kernel_rfl) rfl rfl rfl rfl (by simp [Value.oneCell']) (by kernel_rfl) hS789q (by simp) (cs' := ([.slice A783q y780q.length c784q, .int .i64 p0.f1, .int .i64 p0.f2, .int .i64 p0.f3] : List Value)) rfl (fun a790q W792q h791q hS793q => ?_)
          clear h788q a787q
          refine ⟨trivial, ?_⟩
          refine WH.done (by kernel_rfl) ?_
          refine wp_seq ?_
          refine WL.start ?_
          refine WL.block (c := 3) (m' := 3) h791q rfl [(23, .pointer (some ⟨g465q, 1, none⟩)), (22, .pointer (some ⟨g465q, 0, none⟩)), (21, .pointer (some ⟨g465q, 0, none⟩))] (by kernel_rfl) (fun a794q h795q => ?_)
          clear h791q a790q
          refine WL.op' (m := 3) h795q rfl rfl ?_
          refine owp_run (v := .int .i64 p0.f1) h795q rfl (by kernel_rfl) (run_load1 rfl rfl Try.underlying3 rfl (hS793q.cell (i := 1) rfl)) (fun a796q h797q => ?_)
          clear h795q a794q
          refine WL.block (c := 5) (m' := 9) h797q rfl [(29, .pointer (some ⟨g465q, 1, none⟩)), (28, .pointer (some ⟨g465q, 0, none⟩)), (27, .int .i64 (IntKind.i64.wrap (p0.f1 + (p1.length : Int)))), (26, .int .i64 (p1.length : Int)), (25, .slice A1 p1.length c1)] (by kernel_rfl) (fun a798q h799q => ?_)
          clear h797q a796q
          refine WL.op' (m := 9) h799q rfl rfl ?_
          refine owp_store (i := 1) (vs := ([.int .i64 (IntKind.i64.wrap (p0.f1 + (p1.length : Int)))] : List Value)) h799q rfl (by kernel_rfl) rfl rfl rfl rfl (by simp [Value.oneCell']) (by kernel_rfl) hS793q (by simp) (cs' := ([.slice A783q y780q.length c784q, .int .i64 (IntKind.i64.wrap (p0.f1 + (p1.length : Int))), .int .i64 p0.f2, .int .i64 p0.f3] : List Value)) rfl (fun a800q W802q h801q hS803q => ?_)
          clear h799q a798q
          refine WL.done (by kernel_rfl) ?_
          refine wp_seq ?_
          refine WL.start ?_
          refine WL.block (c := 1) (m' := 1) h801q rfl [(4, .bool true)] (by kernel_rfl) (fun a804q h805q => ?_)
          clear h801q a800q
          refine WL.done (by kernel_rfl) ?_
          refine wp_ret ?_
          have hS806q : St b w0 W802q R (M777q :: [(g465q, .cells ([.slice A783q y780q.length c784q, .int .i64 (IntKind.i64.wrap (p0.f1 + (p1.length : Int))), .int .i64 p0.f2, .int .i64 p0.f3] : List Value).toArray 44 (0, 0))] :: Fs) := hS803q.bring 1 rfl rfl
          have hS807q : St b w0 W802q R ([(g465q, .cells ([.slice A783q y780q.length c784q, .int .i64 (IntKind.i64.wrap (p0.f1 + (p1.length : Int))), .int .i64 p0.f2, .int .i64 p0.f3] : List Value).toArray 44 (0, 0))] :: M777q :: Fs) := hS806q.bring 1 rfl rfl
          obtain ⟨M809q, hr808q, hM_⟩ := k44qmk (b := b) (w0 := w0) (R := R) (x := (⟨y780q, IntKind.i64.wrap (p0.f1 + (p1.length : Int)), p0.f2, p0.f3⟩ : S44)) (gvf0 := hr782q)
          have hp810q : Ptr k44 44 b w0 R (.pointer (some ⟨g465q, 0, none⟩)) (⟨y780q, IntKind.i64.wrap (p0.f1 + (p1.length : Int)), p0.f2, p0.f3⟩ : S44) ((g465q, .cells ([.slice A783q y780q.length c784q, .int .i64 (IntKind.i64.wrap (p0.f1 + (p1.length : Int))), .int .i64 p0.f2, .int .i64 p0.f3] : List Value).toArray 44 (0, 0)) :: M809q) := ⟨_, _, _, rfl, rfl, hr808q⟩
          rw [hM_] at hp810q
          have hS812q : St b w0 W802q R (((g465q, .cells ([.slice A783q y780q.length c784q, .int .i64 (IntKind.i64.wrap (p0.f1 + (p1.length : Int))), .int .i64 p0.f2, .int .i64 p0.f3] : List Value).toArray 44 (0, 0)) :: (M777q)) :: Fs) := hS807q.assoc (by simp only [List.flatten_cons, List.append_assoc, List.cons_append, List.nil_append, List.append_nil])
          obtain ⟨M813q, hM_⟩ : ∃ y : Frag, y = ((g465q, .cells ([.slice A783q y780q.length c784q, .int .i64 (IntKind.i64.wrap (p0.f1 + (p1.length : Int))), .int .i64 p0.f2, .int .i64 p0.f3] : List Value).toArray 44 (0, 0)) :: (M777q)) := ⟨_, rfl⟩
          rw [← hM_] at hp810q hS812q
          clear hM_
          obtain ⟨rfl, rfl⟩ := ret2 H
          repeat (first | refine then_ret ?_ | refine inBlock_ret ?_ | refine inBlock_go ?_)
          refine body_ret (v := .bool true) h805q (by kernel_rfl) (by kernel_rfl) ?_
          exact ⟨M813q, rfl, hp810q, hS812q⟩
        · rw [if_neg c770q] at H
          cases H
  · rw [if_neg c464q] at H
    have hb_ : r453q = false := (Bool.eq_false_iff.2 c464q)
    try rw [hb_] at h463q
    clear hb_
    refine wp_then h463q rfl ?_
    refine wp_seq ?_
    refine WL.start ?_
    refine WL.block (c := 1) (m' := 1) h463q rfl [(4, .bool false)] (by kernel_rfl) (fun a814q h815q => ?_)
    clear h463q a462q
    refine WL.done (by kernel_rfl) ?_
    refine wp_ret ?_
    obtain ⟨rfl, rfl⟩ := ret2 H
    repeat (first | refine then_ret ?_ | refine inBlock_ret ?_ | refine inBlock_go ?_)
    refine body_ret (v := .bool false) h815q (by kernel_rfl) (by kernel_rfl) ?_
    exact ⟨M459q, rfl, hr460q, hS461q⟩

/-! ### (*louver/queue.Queue).Push -/
def queue_Queue_Push_nil.f (p1 : (List Int)) : Option (Bool) := bnd1 (queue_Queue_Fits_nil.f (p1.length : Int)) fun r78q => (if r78q = true then (none) else (some false))
set_option maxHeartbeats 2000000 in
set_option maxRecDepth 100000 in
theorem queue_Queue_Push_nil.calls {b : Nat} {w0 W : World} {R : Frag} {Fs : List Frag} {p1 : (List Int)} {v1 : Value} {r0q : Bool} (hp1 : Rds (kInt .u8) b w0 R v1 p1) (H : queue_Queue_Push_nil.f p1 = some r0q) (hS : St b w0 W R (Fs)) :
    Calls Try.prog 9 ([.pointer none, v1] : List Value).toArray W (fun e W' => e = .returned (.bool r0q) ∧ St b w0 W' R (Fs)) := by
  obtain ⟨A1, c1, rfl⟩ := hp1.form
  unfold queue_Queue_Push_nil.f at H
  refine calls_enter Try.func9 rfl 30 rfl (by kernel_rfl) (fun a h => ?_)
  refine wp_seq ?_
  refine WL.start ?_
  refine WL.block (c := 1) (m' := 1) h rfl [(4, .bool false)] (by kernel_rfl) (fun a73q h74q => ?_)
  refine WL.done (by kernel_rfl) ?_
  refine wp_seq ?_
  refine wp_seq ?_
  refine WL.start ?_
  refine WL.block (c := 3) (m' := 3) h74q rfl [(7, .int .i64 (p1.length : Int)), (6, .slice A1 p1.length c1), (5, .pointer none)] (by kernel_rfl) (fun a75q h76q => ?_)
  clear h74q a73q
  obtain ⟨r78q, A77q, H⟩ := bind1 H
  refine WL.op' (m := 3) h76q rfl rfl ?_
  refine owp_call [.pointer none, .int .i64 (p1.length : Int)] h76q rfl (by kernel_rfl) rfl Try.func8 (by kernel_rfl) rfl (by kernel_rfl) (queue_Queue_Fits_nil.calls  A77q hS) (fun e80q W79q hp81q => ?_)
  obtain ⟨rfl, hS84q⟩ := hp81q
  refine ⟨_, rfl, fun a82q h83q => ?_⟩
  clear h76q a75q
  refine WL.block (c := 1) (m' := 5) h83q rfl [(9, .bool (!r78q))] (by kernel_rfl) (fun a85q h86q => ?_)
  clear h83q a82q
  refine WL.done (by kernel_rfl) ?_
  by_cases c87q : r78q = true
  · rw [if_pos c87q] at H
    have hb_ : r78q = true := c87q
    try rw [hb_] at h86q
    clear hb_
    refine wp_else h86q rfl ?_
    refine wp_skip ?_
    refine wp_seq ?_
    refine WH.start (fun w_ => True) (by kernel_rfl) #[false, false, false, false, false, false, false, false, false, false, false, false] 12 rfl rfl ?_
    have hS115q := hS84q.drew
    refine WH.take 0 (listed' := #[true, false, false, false, false, false, false, false, false, false, false, false]) h86q rfl rfl (by kernel_rfl) rfl rfl (.pointer none) (fun _ _ => by kernel_rfl) trivial (fun _ _ _ h_ => h_) (fun a116q h117q => ?_)
    clear h86q a85q
    refine WH.take 1 (listed' := #[true, true, false, false, false, false, false, false, false, false, false, false]) h117q rfl rfl (by kernel_rfl) rfl rfl (.pointer none) (fun _ _ => by kernel_rfl) trivial (fun _ _ _ h_ => h_) (fun a118q h119q => ?_)
    clear h117q a116q
    refine WH.take 5 (listed' := #[true, true, false, false, false, true, false, false, false, false, false, false]) h119q rfl rfl (by kernel_rfl) rfl rfl (.slice A1 p1.length c1) (fun _ _ => by kernel_rfl) trivial (fun _ _ _ h_ => h_) (fun a120q h121q => ?_)
    clear h119q a118q
    cases H
  · rw [if_neg c87q] at H
    have hb_ : r78q = false := (Bool.eq_false_iff.2 c87q)
    try rw [hb_] at h86q
    clear hb_
    refine wp_then h86q rfl ?_
    refine wp_seq ?_
    refine WL.start ?_
    refine WL.block (c := 1) (m' := 1) h86q rfl [(4, .bool false)] (by kernel_rfl) (fun a143q h144q => ?_)
    clear h86q a85q
    refine WL.done (by kernel_rfl) ?_
    refine wp_ret ?_
    obtain rfl := Option.some.inj H
    repeat (first | refine then_ret ?_ | refine inBlock_ret ?_ | refine inBlock_go ?_)
    refine body_ret (v := .bool false) h144q (by kernel_rfl) (by kernel_rfl) ?_
    exact ⟨rfl, hS84q⟩

/-! ### (*louver/queue.Queue).Bytes -/
def queue_Queue_Bytes.f (p0 : S44) : Option (Int) := some p0.f1
set_option maxHeartbeats 2000000 in
set_option maxRecDepth 100000 in
theorem queue_Queue_Bytes.calls {b : Nat} {w0 W : World} {R : Frag} {Fs : List Frag} {p0 : S44}  {v0 : Value} {M0 : Frag} {r0q : Int} (hp0 : Ptr k44 44 b w0 R v0 p0 M0) (H : queue_Queue_Bytes.f p0 = some r0q) (hS : St b w0 W R (M0 :: Fs)) :
    Calls Try.prog 11 ([v0] : List Value).toArray W (fun e W' => ∃ (O0q : Frag), e = .returned (.int .i64 r0q) ∧ Ptr k44 44 b w0 R v0 p0 O0q ∧ St b w0 W' R (O0q :: Fs)) := by
  unfold queue_Queue_Bytes.f at H
  refine calls_enter Try.func11 rfl 9 rfl (by kernel_rfl) (fun a h => ?_)
  refine wp_seq ?_
  refine WL.start ?_
  refine WL.block (c := 1) (m' := 1) h rfl [(2, .int .i64 0)] (by kernel_rfl) (fun a31q h32q => ?_)
  refine WL.done (by kernel_rfl) ?_
  refine wp_seq ?_
  refine wp_seq ?_
  refine WL.start ?_
  refine WL.block (c := 1) (m' := 1) h32q rfl [(3, v0)] (by kernel_rfl) (fun a33q h34q => ?_)
  clear h32q a31q
  obtain ⟨g35q, cs36q, M37q, hv_, hM_, hr38q⟩ := hp0
  obtain ⟨v39q, M40q, rfl, hM2q, hr41q⟩ := k44qrep hr38q
  subst hM2q
  subst hM_
  subst hv_
  replace hr41q : Row (kRow (kInt .u8) 5) 26 b w0 R v39q p0.f0 M37q := hr41q
  obtain ⟨A42q, c43q, rfl⟩ := hr41q.form
  have hS44q : St b w0 W R ([(g35q, .cells ([.slice A42q p0.f0.length c43q, .int .i64 p0.f1, .int .i64 p0.f2, .int .i64 p0.f3] : List Value).toArray 44 (0, 0))] :: M37q :: Fs) := hS.assoc (by simp only [List.flatten_cons, List.append_assoc, List.cons_append, List.nil_append, List.append_nil])
  refine WL.block (c := 1) (m' := 2) h34q rfl [(4, .bool false)] (by kernel_rfl) (fun a45q h46q => ?_)
  clear h34q a33q
  refine WL.done (by kernel_rfl) ?_
  refine wp_else h46q rfl ?_
  refine wp_skip ?_
  refine wp_seq ?_
  refine WL.start ?_
  refine WL.block (c := 3) (m' := 3) h46q rfl [(7, .pointer (some ⟨g35q, 1, none⟩)), (6, .pointer (some ⟨g35q, 0, none⟩)), (5, .pointer (some ⟨g35q, 0, none⟩))] (by kernel_rfl) (fun a47q h48q => ?_)
  clear h46q a45q
  refine WL.op' (m := 3) h48q rfl rfl ?_
  refine owp_run (v := .int .i64 p0.f1) h48q rfl (by kernel_rfl) (run_load1 rfl rfl Try.underlying3 rfl (hS44q.cell (i := 1) rfl)) (fun a49q h50q => ?_)
  clear h48q a47q
  refine WL.block (c := 1) (m' := 5) h50q rfl [(2, .int .i64 p0.f1)] (by kernel_rfl) (fun a51q h52q => ?_)
  clear h50q a49q
  refine WL.done (by kernel_rfl) ?_
  refine wp_ret ?_
  have hS53q : St b w0 W R (M37q :: [(g35q, .cells ([.slice A42q p0.f0.length c43q, .int .i64 p0.f1, .int .i64 p0.f2, .int .i64 p0.f3] : List Value).toArray 44 (0, 0))] :: Fs) := hS44q.bring 1 rfl rfl
  have hS54q : St b w0 W R ([(g35q, .cells ([.slice A42q p0.f0.length c43q, .int .i64 p0.f1, .int .i64 p0.f2, .int .i64 p0.f3] : List Value).toArray 44 (0, 0))] :: M37q :: Fs) := hS53q.bring 1 rfl rfl
  obtain ⟨M56q, hr55q, hM_⟩ := k44qmk (b := b) (w0 := w0) (R := R) (x := (⟨p0.f0, p0.f1, p0.f2, p0.f3⟩ : S44)) (gvf0 := hr41q)
  have hp57q : Ptr k44 44 b w0 R (.pointer (some ⟨g35q, 0, none⟩)) (⟨p0.f0, p0.f1, p0.f2, p0.f3⟩ : S44) ((g35q, .cells ([.slice A42q p0.f0.length c43q, .int .i64 p0.f1, .int .i64 p0.f2, .int .i64 p0.f3] : List Value).toArray 44 (0, 0)) :: M56q) := ⟨_, _, _, rfl, rfl, hr55q⟩
  rw [hM_] at hp57q
  have hS59q : St b w0 W R (((g35q, .cells ([.slice A42q p0.f0.length c43q, .int .i64 p0.f1, .int .i64 p0.f2, .int .i64 p0.f3] : List Value).toArray 44 (0, 0)) :: (M37q)) :: Fs) := hS54q.assoc (by simp only [List.flatten_cons, List.append_assoc, List.cons_append, List.nil_append, List.append_nil])
  obtain ⟨M60q, hM_⟩ : ∃ y : Frag, y = ((g35q, .cells ([.slice A42q p0.f0.length c43q, .int .i64 p0.f1, .int .i64 p0.f2, .int .i64 p0.f3] : List Value).toArray 44 (0, 0)) :: (M37q)) := ⟨_, rfl⟩
  rw [← hM_] at hp57q hS59q
  clear hM_
  obtain rfl := Option.some.inj H
  repeat (first | refine then_ret ?_ | refine inBlock_ret ?_ | refine inBlock_go ?_)
  refine body_ret (v := .int .i64 p0.f1) h52q (by kernel_rfl) (by kernel_rfl) ?_
  exact ⟨M60q, rfl, hp57q, hS59q⟩

/-! ### (*louver/queue.Queue).Bytes -/
def queue_Queue_Bytes_nil.f  : Option (Int) := some 0
set_option maxHeartbeats 2000000 in
set_option maxRecDepth 100000 in
theorem queue_Queue_Bytes_nil.calls {b : Nat} {w0 W : World} {R : Frag} {Fs : List Frag}   {r0q : Int}  (H : queue_Queue_Bytes_nil.f = some r0q) (hS : St b w0 W R (Fs)) :
    Calls Try.prog 11 ([.pointer none] : List Value).toArray W (fun e W' => e = .returned (.int .i64 r0q) ∧ St b w0 W' R (Fs)) := by
  unfold queue_Queue_Bytes_nil.f at H
  refine calls_enter Try.func11 rfl 9 rfl (by kernel_rfl) (fun a h => ?_)
  refine wp_seq ?_
  refine WL.start ?_
  refine WL.block (c := 1) (m' := 1) h rfl [(2, .int .i64 0)] (by kernel_rfl) (fun a7q h8q => ?_)
  refine WL.done (by kernel_rfl) ?_
  refine wp_seq ?_
  refine wp_seq ?_
  refine WL.start ?_
  refine WL.block (c := 2) (m' := 2) h8q rfl [(4, .bool true), (3, .pointer none)] (by kernel_rfl) (fun a9q h10q => ?_)
  clear h8q a7q
  refine WL.done (by kernel_rfl) ?_
  refine wp_then h10q rfl ?_
  refine wp_seq ?_
  refine WL.start ?_
  refine WL.block (c := 1) (m' := 1) h10q rfl [(2, .int .i64 0)] (by kernel_rfl) (fun a11q h12q => ?_)
  clear h10q a9q
  refine WL.done (by kernel_rfl) ?_
  refine wp_ret ?_
  obtain rfl := Option.some.inj H
  repeat (first | refine then_ret ?_ | refine inBlock_ret ?_ | refine inBlock_go ?_)
  refine body_ret (v := .int .i64 0) h12q (by kernel_rfl) (by kernel_rfl) ?_
  exact ⟨rfl, hS⟩

/-! ### louver/louverlaw23.fixed -/
def louverlaw23qfixed.f  : Option (Bool) := bnd1 (queue_New.f 2 5) fun r213q => (bnd2 (queue_Queue_Push.f r213q ([97, 98, 99] : List Int)) fun r240q r241q => (if r240q = true then (bnd2 (queue_Queue_Push.f r241q ([100, 101] : List Int)) fun r268q r269q => (if r268q = true then (bnd2 (queue_Queue_Push.f r269q ([] : List Int)) fun r284q r285q => (if r284q = true then (some false) else (bnd1 (queue_Queue_Len.f r285q) fun r319q => (if r319q = 2 then (bnd1 (queue_Queue_Bytes.f r285q) fun r336q => (some (decide (r336q = 5)))) else (some false))))) else (some false))) else (some false)))
set_option maxHeartbeats 2000000 in
set_option maxRecDepth 100000 in
theorem louverlaw23qfixed.calls {b : Nat} {w0 W : World} {R : Frag} {Fs : List Frag}   {r0q : Bool}  (H : louverlaw23qfixed.f = some r0q) (hS : St b w0 W R (Fs)) :
    Calls Try.prog 6 ([] : List Value).toArray W (fun e W' => e = .returned (.bool r0q) ∧ St b w0 W' R (Fs)) := by
  unfold louverlaw23qfixed.f at H
  refine calls_enter Try.func6 rfl 28 rfl (by kernel_rfl) (fun a h => ?_)
  refine wp_seq ?_
  refine WL.start ?_
  refine WL.block (c := 1) (m' := 1) h rfl [(0, .bool false)] (by kernel_rfl) (fun a210q h211q => ?_)
  refine WL.done (by kernel_rfl) ?_
  refine wp_seq ?_
  refine WL.start ?_
  obtain ⟨r213q, A212q, H⟩ := bind1 H
  refine WL.op' (m := 0) h211q rfl rfl ?_
  refine owp_call [.int .i64 2, .int .i64 5] h211q rfl (by kernel_rfl) rfl Try.func7 (by kernel_rfl) rfl (by kernel_rfl) (queue_New.calls  A212q hS) (fun e215q W214q hp216q => ?_)
  obtain ⟨v219q, M220q, rfl, hr221q, hS222q⟩ := hp216q
  refine ⟨_, rfl, fun a217q h218q => ?_⟩
  clear h211q a210q
  refine WL.block (c := 1) (m' := 2) h218q rfl [(1, v219q)] (by kernel_rfl) (fun a223q h224q => ?_)
  clear h218q a217q
  refine WL.done (by kernel_rfl) ?_
  refine wp_seq ?_
  refine WL.start ?_
  refine WL.block (c := 1) (m' := 1) h224q rfl [(3, v219q)] (by kernel_rfl) (fun a225q h226q => ?_)
  clear h224q a223q
  refine WL.op' (m := 1) h226q rfl rfl ?_
  refine owp_new (fun g_ => .slice (some ⟨g_, 0, none⟩) 3 3) (.cells ([.int .u8 97, .int .u8 98, .int .u8 99] : List Value).toArray 5 (0, 0)) h226q rfl (by kernel_rfl) (by kernel_rfl) hS222q (fun a227q W229q g230q h228q hS231q => ?_)
  clear h226q a225q
  have hr232q : Row (kInt .u8) 5 b w0 R (.slice (some ⟨g230q, 0, none⟩) 3 3) ([97, 98, 99] : List Int) [(g230q, .cells ([.int .u8 97, .int .u8 98, .int .u8 99] : List Value).toArray 5 (0, 0))] := Row.lit (xs := ([97, 98, 99] : List Int)) (Mi := []) ⟨_, _, [], _, rfl, rfl, ⟨rfl, rfl⟩, ⟨_, _, [], _, rfl, rfl, ⟨rfl, rfl⟩, ⟨_, _, [], _, rfl, rfl, ⟨rfl, rfl⟩, ⟨rfl, rfl⟩⟩⟩⟩ (by simp [maxLen])
  refine WL.op' (m := 2) h228q rfl rfl ?_
  refine owp_mark h228q rfl (by kernel_rfl) rfl rfl Try.underlying26 Try.underlying5 hS231q (fun a233q W235q h234q hS236q => ?_)
  clear h228q a227q
  have hx238q := Rds.blk (R := R) (E := 5) (g := g230q) (fr := (([.int .u8 97, .int .u8 98, .int .u8 99] : List Value).length, ([.int .u8 97, .int .u8 98, .int .u8 99] : List Value).length + 1)) (xs := ([97, 98, 99] : List Int)) (dk := (kInt .u8)) (b := b) (w0 := w0) (cs := ([.int .u8 97, .int .u8 98, .int .u8 99] : List Value)) ⟨_, _, [], _, rfl, rfl, ⟨rfl, rfl⟩, ⟨_, _, [], _, rfl, rfl, ⟨rfl, rfl⟩, ⟨_, _, [], _, rfl, rfl, ⟨rfl, rfl⟩, ⟨rfl, rfl⟩⟩⟩⟩ (by simp [maxLen])
  obtain ⟨M237q, hM_⟩ : ∃ y : Frag, y = [(g230q, .cells ([.int .u8 97, .int .u8 98, .int .u8 99] : List Value).toArray 5 (([.int .u8 97, .int .u8 98, .int .u8 99] : List Value).length, ([.int .u8 97, .int .u8 98, .int .u8 99] : List Value).length + 1))] := ⟨_, rfl⟩
  rw [← hM_] at hS236q hx238q
  clear hM_
  replace hr221q := Ptr.mono (R' := (M237q ++ R)) (up (M := M237q)) hr221q
  obtain ⟨r240q, r241q, A239q, H⟩ := bind2 H
  refine WL.op' (m := 3) h234q rfl rfl ?_
  refine owp_call [v219q, .slice (some ⟨g230q, 0, none⟩) 3 3] h234q rfl (by kernel_rfl) rfl Try.func9 (by kernel_rfl) rfl (by kernel_rfl) (queue_Queue_Push.calls hr221q hx238q A239q hS236q) (fun e243q W242q hp244q => ?_)
  obtain ⟨M247q, rfl, hr248q, hS249q⟩ := hp244q
  refine ⟨_, rfl, fun a245q h246q => ?_⟩
  clear h234q a233q
  refine WL.block (c := 1) (m' := 5) h246q rfl [(7, .bool r240q)] (by kernel_rfl) (fun a250q h251q => ?_)
  clear h246q a245q
  by_cases c252q : r240q = true
  · rw [if_pos c252q] at H
    have hb_ : r240q = true := c252q
    try rw [hb_] at h251q
    clear hb_
    refine WL.op' (m := 5) h251q rfl rfl (owp_run h251q rfl (by kernel_rfl) (v := v219q) (by kernel_rfl) (fun a253q h254q => ?_))
    clear h251q a250q
    refine WL.op' (m := 6) h254q rfl rfl ?_
    refine owp_new (fun g_ => .slice (some ⟨g_, 0, none⟩) 2 2) (.cells ([.int .u8 100, .int .u8 101] : List Value).toArray 5 (0, 0)) h254q rfl (by kernel_rfl) (by kernel_rfl) hS249q (fun a255q W257q g258q h256q hS259q => ?_)
    clear h254q a253q
    have hr260q : Row (kInt .u8) 5 b w0 (M237q ++ R) (.slice (some ⟨g258q, 0, none⟩) 2 2) ([100, 101] : List Int) [(g258q, .cells ([.int .u8 100, .int .u8 101] : List Value).toArray 5 (0, 0))] := Row.lit (xs := ([100, 101] : List Int)) (Mi := []) ⟨_, _, [], _, rfl, rfl, ⟨rfl, rfl⟩, ⟨_, _, [], _, rfl, rfl, ⟨rfl, rfl⟩, ⟨rfl, rfl⟩⟩⟩ (by simp [maxLen])
    refine WL.op' (m := 7) h256q rfl rfl ?_
    refine owp_mark h256q rfl (by kernel_rfl) rfl rfl Try.underlying26 Try.underlying5 hS259q (fun a261q W263q h262q hS264q => ?_)
    clear h256q a255q
    have hx266q := Rds.blk (R := (M237q ++ R)) (E := 5) (g := g258q) (fr := (([.int .u8 100, .int .u8 101] : List Value).length, ([.int .u8 100, .int .u8 101] : List Value).length + 1)) (xs := ([100, 101] : List Int)) (dk := (kInt .u8)) (b := b) (w0 := w0) (cs := ([.int .u8 100, .int .u8 101] : List Value)) ⟨_, _, [], _, rfl, rfl, ⟨rfl, rfl⟩, ⟨_, _, [], _, rfl, rfl, ⟨rfl, rfl⟩, ⟨rfl, rfl⟩⟩⟩ (by simp [maxLen])
    obtain ⟨M265q, hM_⟩ : ∃ y : Frag, y = [(g258q, .cells ([.int .u8 100, .int .u8 101] : List Value).toArray 5 (([.int .u8 100, .int .u8 101] : List Value).length, ([.int .u8 100, .int .u8 101] : List Value).length + 1))] := ⟨_, rfl⟩
    rw [← hM_] at hS264q hx266q
    clear hM_
    replace hr248q := Ptr.mono (R' := (M265q ++ (M237q ++ R))) (up (M := M265q)) hr248q
    replace hx238q := Rds.mono (R' := (M265q ++ (M237q ++ R))) (up (M := M265q)) hx238q
    obtain ⟨r268q, r269q, A267q, H⟩ := bind2 H
    refine WL.op' (m := 8) h262q rfl rfl ?_
    refine owp_call [v219q, .slice (some ⟨g258q, 0, none⟩) 2 2] h262q rfl (by kernel_rfl) rfl Try.func9 (by kernel_rfl) rfl (by kernel_rfl) (queue_Queue_Push.calls hr248q hx266q A267q hS264q) (fun e271q W270q hp272q => ?_)
    obtain ⟨M275q, rfl, hr276q, hS277q⟩ := hp272q
    refine ⟨_, rfl, fun a273q h274q => ?_⟩
    clear h262q a261q
    refine WL.block (c := 2) (m' := 11) h274q rfl [(13, .bool r268q), (12, .bool r268q)] (by kernel_rfl) (fun a278q h279q => ?_)
    clear h274q a273q
    by_cases c280q : r268q = true
    · rw [if_pos c280q] at H
      have hb_ : r268q = true := c280q
      try rw [hb_] at h279q
      clear hb_
      refine WL.op' (m := 11) h279q rfl rfl (owp_run h279q rfl (by kernel_rfl) (v := v219q) (by kernel_rfl) (fun a281q h282q => ?_))
      clear h279q a278q
      obtain ⟨r284q, r285q, A283q, H⟩ := bind2 H
      refine WL.op' (m := 12) h282q rfl rfl ?_
      refine owp_call [v219q, .slice none 0 0] h282q rfl (by kernel_rfl) rfl Try.func9 (by kernel_rfl) rfl (by kernel_rfl) (queue_Queue_Push.calls hr276q (Rds.nil (dk := (kInt .u8)) (R := (M265q ++ (M237q ++ R)))) A283q hS277q) (fun e287q W286q hp288q => ?_)
      obtain ⟨M291q, rfl, hr292q, hS293q⟩ := hp288q
      refine ⟨_, rfl, fun a289q h290q => ?_⟩
      clear h282q a281q
      refine WL.op' (m := 13) h290q rfl rfl (owp_run h290q rfl (by kernel_rfl) (v := .bool (!r284q)) (by kernel_rfl) (fun a294q h295q => ?_))
      clear h290q a289q
      refine WL.block (c := 2) (m' := 16) h295q rfl [(18, .bool (!r284q)), (17, .bool (!r284q))] (by kernel_rfl) (fun a296q h297q => ?_)
      clear h295q a294q
      by_cases c298q : r284q = true
      · rw [if_pos c298q] at H
        have hb_ : r284q = true := c298q
        try rw [hb_] at h297q
        clear hb_
        refine WL.skipped (m := 16) h297q rfl rfl (by kernel_rfl) rfl (fun a299q h300q => ?_)
        clear h297q a296q
        refine WL.skipped (m := 17) h300q rfl rfl (by kernel_rfl) rfl (fun a301q h302q => ?_)
        clear h300q a299q
        refine WL.skipped (m := 18) h302q rfl rfl (by kernel_rfl) rfl (fun a303q h304q => ?_)
        clear h302q a301q
        refine WL.block (c := 2) (m' := 21) h304q rfl [(23, .bool false), (22, .bool false)] (by kernel_rfl) (fun a305q h306q => ?_)
        clear h304q a303q
        refine WL.skipped (m := 21) h306q rfl rfl (by kernel_rfl) rfl (fun a307q h308q => ?_)
        clear h306q a305q
        refine WL.skipped (m := 22) h308q rfl rfl (by kernel_rfl) rfl (fun a309q h310q => ?_)
        clear h308q a307q
        refine WL.skipped (m := 23) h310q rfl rfl (by kernel_rfl) rfl (fun a311q h312q => ?_)
        clear h310q a309q
        refine WL.block (c := 2) (m' := 26) h312q rfl [(0, .bool false), (27, .bool false)] (by kernel_rfl) (fun a313q h314q => ?_)
        clear h312q a311q
        refine WL.done (by kernel_rfl) ?_
        refine wp_ret ?_
        have hS315q : St b w0 W286q (M265q ++ (M237q ++ R)) (Fs) := hS293q.drop_
        obtain rfl := Option.some.inj H
        repeat (first | refine then_ret ?_ | refine inBlock_ret ?_ | refine inBlock_go ?_)
        refine body_ret (v := .bool false) h314q (by kernel_rfl) (by kernel_rfl) ?_
        exact ⟨rfl, hS315q.shed.shed⟩
      · rw [if_neg c298q] at H
        have hb_ : r284q = false := (Bool.eq_false_iff.2 c298q)
        try rw [hb_] at h297q
        clear hb_
        refine WL.op' (m := 16) h297q rfl rfl (owp_run h297q rfl (by kernel_rfl) (v := v219q) (by kernel_rfl) (fun a316q h317q => ?_))
        clear h297q a296q
        obtain ⟨r319q, A318q, H⟩ := bind1 H
        refine WL.op' (m := 17) h317q rfl rfl ?_
        refine owp_call [v219q] h317q rfl (by kernel_rfl) rfl Try.func15 (by kernel_rfl) rfl (by kernel_rfl) (queue_Queue_Len.calls hr292q A318q hS293q) (fun e321q W320q hp322q => ?_)
        obtain ⟨M325q, rfl, hr326q, hS327q⟩ := hp322q
        refine ⟨_, rfl, fun a323q h324q => ?_⟩
        clear h317q a316q
        refine WL.op' (m := 18) h324q rfl rfl (owp_run h324q rfl (by kernel_rfl) (v := .bool (decide (r319q = 2))) (by kernel_rfl) (fun a328q h329q => ?_))
        clear h324q a323q
        refine WL.block (c := 2) (m' := 21) h329q rfl [(23, .bool (decide (r319q = 2))), (22, .bool (decide (r319q = 2)))] (by kernel_rfl) (fun a330q h331q => ?_)
        clear h329q a328q
        by_cases c332q : r319q = 2
        · rw [if_pos c332q] at H
          have hb_ : (decide (r319q = 2)) = true := decide_eq_true c332q
          try rw [hb_] at h331q
          clear hb_
          refine WL.op' (m := 21) h331q rfl rfl (owp_run h331q rfl (by kernel_rfl) (v := v219q) (by kernel_rfl) (fun a333q h334q => ?_))
          clear h331q a330q
          obtain ⟨r336q, A335q, H⟩ := bind1 H
          refine WL.op' (m := 22) h334q rfl rfl ?_
          refine owp_call [v219q] h334q rfl (by kernel_rfl) rfl Try.func11 (by kernel_rfl) rfl (by kernel_rfl) (queue_Queue_Bytes.calls hr326q A335q hS327q) (fun e338q W337q hp339q => ?_)
          obtain ⟨M342q, rfl, hr343q, hS344q⟩ := hp339q
          refine ⟨_, rfl, fun a340q h341q => ?_⟩
          clear h334q a333q
          refine WL.op' (m := 23) h341q rfl rfl (owp_run h341q rfl (by kernel_rfl) (v := .bool (decide (r336q = 5))) (by kernel_rfl) (fun a345q h346q => ?_))
          clear h341q a340q
          refine WL.block (c := 2) (m' := 26) h346q rfl [(0, .bool (decide (r336q = 5))), (27, .bool (decide (r336q = 5)))] (by kernel_rfl) (fun a347q h348q => ?_)
          clear h346q a345q
          refine WL.done (by kernel_rfl) ?_
          refine wp_ret ?_
          have hS349q : St b w0 W337q (M265q ++ (M237q ++ R)) (Fs) := hS344q.drop_
          obtain rfl := Option.some.inj H
          repeat (first | refine then_ret ?_ | refine inBlock_ret ?_ | refine inBlock_go ?_)
          refine body_ret (v := .bool (decide (r336q = 5))) h348q (by kernel_rfl) (by kernel_rfl) ?_
          exact ⟨rfl, hS349q.shed.shed⟩
        · rw [if_neg c332q] at H
          have hb_ : (decide (r319q = 2)) = false := decide_eq_false c332q
          try rw [hb_] at h331q
          clear hb_
          refine WL.skipped (m := 21) h331q rfl rfl (by kernel_rfl) rfl (fun a350q h351q => ?_)
          clear h331q a330q
          refine WL.skipped (m := 22) h351q rfl rfl (by kernel_rfl) rfl (fun a352q h353q => ?_)
          clear h351q a350q
          refine WL.skipped (m := 23) h353q rfl rfl (by kernel_rfl) rfl (fun a354q h355q => ?_)
          clear h353q a352q
          refine WL.block (c := 2) (m' := 26) h355q rfl [(0, .bool false), (27, .bool false)] (by kernel_rfl) (fun a356q h357q => ?_)
          clear h355q a354q
          refine WL.done (by kernel_rfl) ?_
          refine wp_ret ?_
          have hS358q : St b w0 W320q (M265q ++ (M237q ++ R)) (Fs) := hS327q.drop_
          obtain rfl := Option.some.inj H
          repeat (first | refine then_ret ?_ | refine inBlock_ret ?_ | refine inBlock_go ?_)
          refine body_ret (v := .bool false) h357q (by kernel_rfl) (by kernel_rfl) ?_
          exact ⟨rfl, hS358q.shed.shed⟩
    · rw [if_neg c280q] at H
      have hb_ : r268q = false := (Bool.eq_false_iff.2 c280q)
      try rw [hb_] at h279q
      clear hb_
      refine WL.skipped (m := 11) h279q rfl rfl (by kernel_rfl) rfl (fun a359q h360q => ?_)
      clear h279q a278q
      refine WL.skipped (m := 12) h360q rfl rfl (by kernel_rfl) rfl (fun a361q h362q => ?_)
      clear h360q a359q
      refine WL.skipped (m := 13) h362q rfl rfl (by kernel_rfl) rfl (fun a363q h364q => ?_)
      clear h362q a361q
      refine WL.block (c := 2) (m' := 16) h364q rfl [(18, .bool false), (17, .bool false)] (by kernel_rfl) (fun a365q h366q => ?_)
      clear h364q a363q
      refine WL.skipped (m := 16) h366q rfl rfl (by kernel_rfl) rfl (fun a367q h368q => ?_)
      clear h366q a365q
      refine WL.skipped (m := 17) h368q rfl rfl (by kernel_rfl) rfl (fun a369q h370q => ?_)
      clear h368q a367q
      refine WL.skipped (m := 18) h370q rfl rfl (by kernel_rfl) rfl (fun a371q h372q => ?_)
      clear h370q a369q
      refine WL.block (c := 2) (m' := 21) h372q rfl [(23, .bool false), (22, .bool false)] (by kernel_rfl) (fun a373q h374q => ?_)
      clear h372q a371q
      refine WL.skipped (m := 21) h374q rfl rfl (by kernel_rfl) rfl (fun a375q h376q => ?_)
      clear h374q a373q
      refine WL.skipped (m := 22) h376q rfl rfl (by kernel_rfl) rfl (fun a377q h378q => ?_)
      clear h376q a375q
      refine WL.skipped (m := 23) h378q rfl rfl (by kernel_rfl) rfl (fun a379q h380q => ?_)
      clear h378q a377q
      refine WL.block (c := 2) (m' := 26) h380q rfl [(0, .bool false), (27, .bool false)] (by kernel_rfl) (fun a381q h382q => ?_)
      clear h380q a379q
      refine WL.done (by kernel_rfl) ?_
      refine wp_ret ?_
      have hS383q : St b w0 W270q (M265q ++ (M237q ++ R)) (Fs) := hS277q.drop_
      obtain rfl := Option.some.inj H
      repeat (first | refine then_ret ?_ | refine inBlock_ret ?_ | refine inBlock_go ?_)
      refine body_ret (v := .bool false) h382q (by kernel_rfl) (by kernel_rfl) ?_
      exact ⟨rfl, hS383q.shed.shed⟩
  · rw [if_neg c252q] at H
    have hb_ : r240q = false := (Bool.eq_false_iff.2 c252q)
    try rw [hb_] at h251q
    clear hb_
    refine WL.skipped (m := 5) h251q rfl rfl (by kernel_rfl) rfl (fun a384q h385q => ?_)
    clear h251q a250q
    refine WL.skipped (m := 6) h385q rfl rfl (by kernel_rfl) rfl (fun a386q h387q => ?_)
    clear h385q a384q
    refine WL.skipped (m := 7) h387q rfl rfl (by kernel_rfl) rfl (fun a388q h389q => ?_)
    clear h387q a386q
    refine WL.skipped (m := 8) h389q rfl rfl (by kernel_rfl) rfl (fun a390q h391q => ?_)
    clear h389q a388q
    refine WL.block (c := 2) (m' := 11) h391q rfl [(13, .bool false), (12, .bool false)] (by kernel_rfl) (fun a392q h393q => ?_)
    clear h391q a390q
    refine WL.skipped (m := 11) h393q rfl rfl (by kernel_rfl) rfl (fun a394q h395q => ?_)
    clear h393q a392q
    refine WL.skipped (m := 12) h395q rfl rfl (by kernel_rfl) rfl (fun a396q h397q => ?_)
    clear h395q a394q
    refine WL.skipped (m := 13) h397q rfl rfl (by kernel_rfl) rfl (fun a398q h399q => ?_)
    clear h397q a396q
    refine WL.block (c := 2) (m' := 16) h399q rfl [(18, .bool false), (17, .bool false)] (by kernel_rfl) (fun a400q h401q => ?_)
    clear h399q a398q
    refine WL.skipped (m := 16) h401q rfl rfl (by kernel_rfl) rfl (fun a402q h403q => ?_)
    clear h401q a400q
    refine WL.skipped (m := 17) h403q rfl rfl (by kernel_rfl) rfl (fun a404q h405q => ?_)
    clear h403q a402q
    refine WL.skipped (m := 18) h405q rfl rfl (by kernel_rfl) rfl (fun a406q h407q => ?_)
    clear h405q a404q
    refine WL.block (c := 2) (m' := 21) h407q rfl [(23, .bool false), (22, .bool false)] (by kernel_rfl) (fun a408q h409q => ?_)
    clear h407q a406q
    refine WL.skipped (m := 21) h409q rfl rfl (by kernel_rfl) rfl (fun a410q h411q => ?_)
    clear h409q a408q
    refine WL.skipped (m := 22) h411q rfl rfl (by kernel_rfl) rfl (fun a412q h413q => ?_)
    clear h411q a410q
    refine WL.skipped (m := 23) h413q rfl rfl (by kernel_rfl) rfl (fun a414q h415q => ?_)
    clear h413q a412q
    refine WL.block (c := 2) (m' := 26) h415q rfl [(0, .bool false), (27, .bool false)] (by kernel_rfl) (fun a416q h417q => ?_)
    clear h415q a414q
    refine WL.done (by kernel_rfl) ?_
    refine wp_ret ?_
    have hS418q : St b w0 W242q (M237q ++ R) (Fs) := hS249q.drop_
    obtain rfl := Option.some.inj H
    repeat (first | refine then_ret ?_ | refine inBlock_ret ?_ | refine inBlock_go ?_)
    refine body_ret (v := .bool false) h417q (by kernel_rfl) (by kernel_rfl) ?_
    exact ⟨rfl, hS418q.shed⟩

/-! ### louver/louverlaw23.QueueNil -/
def louverlaw23qQueueNil.f (p0 : (List Int)) (p1 : Int) : Option (Bool) := bnd2 (queue_Queue_Pop_nil.f) fun r304q r305q => (bnd1 (queue_Queue_Clear_nil.f) fun _ => (bnd1 (louverlaw23qfixed.f) fun r329q => (if r329q = true then (bnd1 (queue_Queue_Push_nil.f p0) fun r344q => (if r344q = true then (some false) else (bnd1 (queue_Queue_Fits_nil.f p1) fun r402q => (if r402q = true then (some false) else (if r305q = true then (some false) else (if (r304q.length : Int) = 0 then (bnd1 (queue_Queue_Len_nil.f) fun r489q => (if r489q = 0 then (bnd1 (queue_Queue_Bytes_nil.f) fun r504q => (some (decide (r504q = 0)))) else (some false))) else (some false))))))) else (some false))))
set_option maxHeartbeats 2000000 in
set_option maxRecDepth 100000 in
theorem louverlaw23qQueueNil.calls {b : Nat} {w0 W : World} {R : Frag} {Fs : List Frag} {p0 : (List Int)} {p1 : Int} {v0 : Value} {r0q : Bool} (hp0 : Rds (kInt .u8) b w0 R v0 p0) (H : louverlaw23qQueueNil.f p0 p1 = some r0q) (hS : St b w0 W R (Fs)) :
    Calls Try.prog 5 ([v0, .int .i64 p1] : List Value).toArray W (fun e W' => e = .returned (.bool r0q) ∧ St b w0 W' R (Fs)) := by
  obtain ⟨A0, c0, rfl⟩ := hp0.form
  unfold louverlaw23qQueueNil.f at H
  refine calls_enter Try.func5 rfl 47 rfl (by kernel_rfl) (fun a h => ?_)
  refine wp_seq ?_
  refine WL.start ?_
  refine WL.block (c := 1) (m' := 1) h rfl [(4, .bool false)] (by kernel_rfl) (fun a297q h298q => ?_)
  refine WL.done (by kernel_rfl) ?_
  refine wp_seq ?_
  refine WL.start ?_
  refine WL.block (c := 1) (m' := 1) h298q rfl [(5, .pointer none)] (by kernel_rfl) (fun a299q h300q => ?_)
  clear h298q a297q
  refine WL.done (by kernel_rfl) ?_
  refine wp_seq ?_
  refine WL.start ?_
  refine WL.block (c := 1) (m' := 1) h300q rfl [(9, .pointer none)] (by kernel_rfl) (fun a301q h302q => ?_)
  clear h300q a299q
  obtain ⟨r304q, r305q, A303q, H⟩ := bind2 H
  refine WL.op' (m := 1) h302q rfl rfl ?_
  refine owp_call [.pointer none] h302q rfl (by kernel_rfl) rfl Try.func10 (by kernel_rfl) rfl (by kernel_rfl) (queue_Queue_Pop_nil.calls  A303q hS) (fun e307q W306q hp308q => ?_)
  obtain ⟨v311q, M312q, rfl, hr313q, hS314q⟩ := hp308q
  refine ⟨_, rfl, fun a309q h310q => ?_⟩
  clear h302q a301q
  obtain ⟨A315q, c316q, rfl⟩ := hr313q.form
  refine WL.block (c := 5) (m' := 7) h310q rfl [(7, .bool r305q), (6, .slice A315q r304q.length c316q), (12, .bool r305q), (11, .slice A315q r304q.length c316q), (8, .tuple #[.slice A315q r304q.length c316q, .bool r305q])] (by kernel_rfl) (fun a317q h318q => ?_)
  clear h310q a309q
  refine WL.done (by kernel_rfl) ?_
  refine wp_seq ?_
  refine WL.start ?_
  refine WL.block (c := 1) (m' := 1) h318q rfl [(13, .pointer none)] (by kernel_rfl) (fun a319q h320q => ?_)
  clear h318q a317q
  obtain ⟨_, A321q, H⟩ := bind1 H
  refine WL.op' (m := 1) h320q rfl rfl ?_
  refine owp_call [.pointer none] h320q rfl (by kernel_rfl) rfl Try.func14 (by kernel_rfl) rfl (by kernel_rfl) (queue_Queue_Clear_nil.calls  A321q hS314q) (fun e323q W322q hp324q => ?_)
  obtain ⟨rfl, hS327q⟩ := hp324q
  refine ⟨_, rfl, fun a325q h326q => ?_⟩
  clear h320q a319q
  refine WL.done (by kernel_rfl) ?_
  refine wp_seq ?_
  refine WL.start ?_
  obtain ⟨r329q, A328q, H⟩ := bind1 H
  refine WL.op' (m := 0) h326q rfl rfl ?_
  refine owp_call [] h326q rfl (by kernel_rfl) rfl Try.func6 (by kernel_rfl) rfl (by kernel_rfl) (louverlaw23qfixed.calls  A328q hS327q) (fun e331q W330q hp332q => ?_)
  obtain ⟨rfl, hS335q⟩ := hp332q
  refine ⟨_, rfl, fun a333q h334q => ?_⟩
  clear h326q a325q
  refine WL.block (c := 1) (m' := 2) h334q rfl [(16, .bool r329q)] (by kernel_rfl) (fun a336q h337q => ?_)
  clear h334q a333q
  by_cases c338q : r329q = true
  · rw [if_pos c338q] at H
    have hb_ : r329q = true := c338q
    try rw [hb_] at h337q
    clear hb_
    refine WL.op' (m := 2) h337q rfl rfl (owp_run h337q rfl (by kernel_rfl) (v := .pointer none) (by kernel_rfl) (fun a339q h340q => ?_))
    clear h337q a336q
    refine WL.op' (m := 3) h340q rfl rfl (owp_run h340q rfl (by kernel_rfl) (v := .slice A0 p0.length c0) (by kernel_rfl) (fun a341q h342q => ?_))
    clear h340q a339q
    obtain ⟨r344q, A343q, H⟩ := bind1 H
    refine WL.op' (m := 4) h342q rfl rfl ?_
    refine owp_call [.pointer none, .slice A0 p0.length c0] h342q rfl (by kernel_rfl) rfl Try.func9 (by kernel_rfl) rfl (by kernel_rfl) (queue_Queue_Push_nil.calls hp0 A343q hS335q) (fun e346q W345q hp347q => ?_)
    obtain ⟨rfl, hS350q⟩ := hp347q
    refine ⟨_, rfl, fun a348q h349q => ?_⟩
    clear h342q a341q
    refine WL.op' (m := 5) h349q rfl rfl (owp_run h349q rfl (by kernel_rfl) (v := .bool (!r344q)) (by kernel_rfl) (fun a351q h352q => ?_))
    clear h349q a348q
    refine WL.block (c := 2) (m' := 8) h352q rfl [(22, .bool (!r344q)), (21, .bool (!r344q))] (by kernel_rfl) (fun a353q h354q => ?_)
    clear h352q a351q
    by_cases c355q : r344q = true
    · rw [if_pos c355q] at H
      have hb_ : r344q = true := c355q
      try rw [hb_] at h354q
      clear hb_
      refine WL.skipped (m := 8) h354q rfl rfl (by kernel_rfl) rfl (fun a356q h357q => ?_)
      clear h354q a353q
      refine WL.skipped (m := 9) h357q rfl rfl (by kernel_rfl) rfl (fun a358q h359q => ?_)
      clear h357q a356q
      refine WL.skipped (m := 10) h359q rfl rfl (by kernel_rfl) rfl (fun a360q h361q => ?_)
      clear h359q a358q
      refine WL.skipped (m := 11) h361q rfl rfl (by kernel_rfl) rfl (fun a362q h363q => ?_)
      clear h361q a360q
      refine WL.block (c := 2) (m' := 14) h363q rfl [(28, .bool false), (27, .bool false)] (by kernel_rfl) (fun a364q h365q => ?_)
      clear h363q a362q
      refine WL.skipped (m := 14) h365q rfl rfl (by kernel_rfl) rfl (fun a366q h367q => ?_)
      clear h365q a364q
      refine WL.skipped (m := 15) h367q rfl rfl (by kernel_rfl) rfl (fun a368q h369q => ?_)
      clear h367q a366q
      refine WL.block (c := 2) (m' := 18) h369q rfl [(32, .bool false), (31, .bool false)] (by kernel_rfl) (fun a370q h371q => ?_)
      clear h369q a368q
      refine WL.skipped (m := 18) h371q rfl rfl (by kernel_rfl) rfl (fun a372q h373q => ?_)
      clear h371q a370q
      refine WL.skipped (m := 19) h373q rfl rfl (by kernel_rfl) rfl (fun a374q h375q => ?_)
      clear h373q a372q
      refine WL.skipped (m := 20) h375q rfl rfl (by kernel_rfl) rfl (fun a376q h377q => ?_)
      clear h375q a374q
      refine WL.block (c := 2) (m' := 23) h377q rfl [(37, .bool false), (36, .bool false)] (by kernel_rfl) (fun a378q h379q => ?_)
      clear h377q a376q
      refine WL.skipped (m := 23) h379q rfl rfl (by kernel_rfl) rfl (fun a380q h381q => ?_)
      clear h379q a378q
      refine WL.skipped (m := 24) h381q rfl rfl (by kernel_rfl) rfl (fun a382q h383q => ?_)
      clear h381q a380q
      refine WL.skipped (m := 25) h383q rfl rfl (by kernel_rfl) rfl (fun a384q h385q => ?_)
      clear h383q a382q
      refine WL.block (c := 2) (m' := 28) h385q rfl [(42, .bool false), (41, .bool false)] (by kernel_rfl) (fun a386q h387q => ?_)
      clear h385q a384q
      refine WL.skipped (m := 28) h387q rfl rfl (by kernel_rfl) rfl (fun a388q h389q => ?_)
      clear h387q a386q
      refine WL.skipped (m := 29) h389q rfl rfl (by kernel_rfl) rfl (fun a390q h391q => ?_)
      clear h389q a388q
      refine WL.skipped (m := 30) h391q rfl rfl (by kernel_rfl) rfl (fun a392q h393q => ?_)
      clear h391q a390q
      refine WL.block (c := 2) (m' := 33) h393q rfl [(4, .bool false), (46, .bool false)] (by kernel_rfl) (fun a394q h395q => ?_)
      clear h393q a392q
      refine WL.done (by kernel_rfl) ?_
      refine wp_ret ?_
      have hS396q : St b w0 W345q R (Fs) := hS350q.drop_
      obtain rfl := Option.some.inj H
      repeat (first | refine then_ret ?_ | refine inBlock_ret ?_ | refine inBlock_go ?_)
      refine body_ret (v := .bool false) h395q (by kernel_rfl) (by kernel_rfl) ?_
      exact ⟨rfl, hS396q⟩
    · rw [if_neg c355q] at H
      have hb_ : r344q = false := (Bool.eq_false_iff.2 c355q)
      try rw [hb_] at h354q
      clear hb_
      refine WL.op' (m := 8) h354q rfl rfl (owp_run h354q rfl (by kernel_rfl) (v := .pointer none) (by kernel_rfl) (fun a397q h398q => ?_))
      clear h354q a353q
      refine WL.op' (m := 9) h398q rfl rfl (owp_run h398q rfl (by kernel_rfl) (v := .int .i64 p1) (by kernel_rfl) (fun a399q h400q => ?_))
      clear h398q a397q
      obtain ⟨r402q, A401q, H⟩ := bind1 H
      refine WL.op' (m := 10) h400q rfl rfl ?_
      refine owp_call [.pointer none, .int .i64 p1] h400q rfl (by kernel_rfl) rfl Try.func8 (by kernel_rfl) rfl (by kernel_rfl) (queue_Queue_Fits_nil.calls  A401q hS350q) (fun e404q W403q hp405q => ?_)
      obtain ⟨rfl, hS408q⟩ := hp405q
      refine ⟨_, rfl, fun a406q h407q => ?_⟩
      clear h400q a399q
      refine WL.op' (m := 11) h407q rfl rfl (owp_run h407q rfl (by kernel_rfl) (v := .bool (!r402q)) (by kernel_rfl) (fun a409q h410q => ?_))
      clear h407q a406q
      refine WL.block (c := 2) (m' := 14) h410q rfl [(28, .bool (!r402q)), (27, .bool (!r402q))] (by kernel_rfl) (fun a411q h412q => ?_)
      clear h410q a409q
      by_cases c413q : r402q = true
      · rw [if_pos c413q] at H
        have hb_ : r402q = true := c413q
        try rw [hb_] at h412q
        clear hb_
        refine WL.skipped (m := 14) h412q rfl rfl (by kernel_rfl) rfl (fun a414q h415q => ?_)
        clear h412q a411q
        refine WL.skipped (m := 15) h415q rfl rfl (by kernel_rfl) rfl (fun a416q h417q => ?_)
        clear h415q a414q
        refine WL.block (c := 2) (m' := 18) h417q rfl [(32, .bool false), (31, .bool false)] (by kernel_rfl) (fun a418q h419q => ?_)
        clear h417q a416q
        refine WL.skipped (m := 18) h419q rfl rfl (by kernel_rfl) rfl (fun a420q h421q => ?_)
        clear h419q a418q
        refine WL.skipped (m := 19) h421q rfl rfl (by kernel_rfl) rfl (fun a422q h423q => ?_)
        clear h421q a420q
        refine WL.skipped (m := 20) h423q rfl rfl (by kernel_rfl) rfl (fun a424q h425q => ?_)
        clear h423q a422q
        refine WL.block (c := 2) (m' := 23) h425q rfl [(37, .bool false), (36, .bool false)] (by kernel_rfl) (fun a426q h427q => ?_)
        clear h425q a424q
        refine WL.skipped (m := 23) h427q rfl rfl (by kernel_rfl) rfl (fun a428q h429q => ?_)
        clear h427q a426q
        refine WL.skipped (m := 24) h429q rfl rfl (by kernel_rfl) rfl (fun a430q h431q => ?_)
        clear h429q a428q
        refine WL.skipped (m := 25) h431q rfl rfl (by kernel_rfl) rfl (fun a432q h433q => ?_)
        clear h431q a430q
        refine WL.block (c := 2) (m' := 28) h433q rfl [(42, .bool false), (41, .bool false)] (by kernel_rfl) (fun a434q h435q => ?_)
        clear h433q a432q
        refine WL.skipped (m := 28) h435q rfl rfl (by kernel_rfl) rfl (fun a436q h437q => ?_)
        clear h435q a434q
        refine WL.skipped (m := 29) h437q rfl rfl (by kernel_rfl) rfl (fun a438q h439q => ?_)
        clear h437q a436q
        refine WL.skipped (m := 30) h439q rfl rfl (by kernel_rfl) rfl (fun a440q h441q => ?_)
        clear h439q a438q
        refine WL.block (c := 2) (m' := 33) h441q rfl [(4, .bool false), (46, .bool false)] (by kernel_rfl) (fun a442q h443q => ?_)
        clear h441q a440q
        refine WL.done (by kernel_rfl) ?_
        refine wp_ret ?_
        have hS444q : St b w0 W403q R (Fs) := hS408q.drop_
        obtain rfl := Option.some.inj H
        repeat (first | refine then_ret ?_ | refine inBlock_ret ?_ | refine inBlock_go ?_)
        refine body_ret (v := .bool false) h443q (by kernel_rfl) (by kernel_rfl) ?_
        exact ⟨rfl, hS444q⟩
      · rw [if_neg c413q] at H
        have hb_ : r402q = false := (Bool.eq_false_iff.2 c413q)
        try rw [hb_] at h412q
        clear hb_
        refine WL.op' (m := 14) h412q rfl rfl (owp_run h412q rfl (by kernel_rfl) (v := .bool r305q) (by kernel_rfl) (fun a445q h446q => ?_))
        clear h412q a411q
        refine WL.op' (m := 15) h446q rfl rfl (owp_run h446q rfl (by kernel_rfl) (v := .bool (!r305q)) (by kernel_rfl) (fun a447q h448q => ?_))
        clear h446q a445q
        refine WL.block (c := 2) (m' := 18) h448q rfl [(32, .bool (!r305q)), (31, .bool (!r305q))] (by kernel_rfl) (fun a449q h450q => ?_)
        clear h448q a447q
        by_cases c451q : r305q = true
        · rw [if_pos c451q] at H
          have hb_ : r305q = true := c451q
          try rw [hb_] at h450q
          clear hb_
          refine WL.skipped (m := 18) h450q rfl rfl (by kernel_rfl) rfl (fun a452q h453q => ?_)
          clear h450q a449q
          refine WL.skipped (m := 19) h453q rfl rfl (by kernel_rfl) rfl (fun a454q h455q => ?_)
          clear h453q a452q
          refine WL.skipped (m := 20) h455q rfl rfl (by kernel_rfl) rfl (fun a456q h457q => ?_)
          clear h455q a454q
          refine WL.block (c := 2) (m' := 23) h457q rfl [(37, .bool false), (36, .bool false)] (by kernel_rfl) (fun a458q h459q => ?_)
          clear h457q a456q
          refine WL.skipped (m := 23) h459q rfl rfl (by kernel_rfl) rfl (fun a460q h461q => ?_)
          clear h459q a458q
          refine WL.skipped (m := 24) h461q rfl rfl (by kernel_rfl) rfl (fun a462q h463q => ?_)
          clear h461q a460q
          refine WL.skipped (m := 25) h463q rfl rfl (by kernel_rfl) rfl (fun a464q h465q => ?_)
          clear h463q a462q
          refine WL.block (c := 2) (m' := 28) h465q rfl [(42, .bool false), (41, .bool false)] (by kernel_rfl) (fun a466q h467q => ?_)
          clear h465q a464q
          refine WL.skipped (m := 28) h467q rfl rfl (by kernel_rfl) rfl (fun a468q h469q => ?_)
          clear h467q a466q
          refine WL.skipped (m := 29) h469q rfl rfl (by kernel_rfl) rfl (fun a470q h471q => ?_)
          clear h469q a468q
          refine WL.skipped (m := 30) h471q rfl rfl (by kernel_rfl) rfl (fun a472q h473q => ?_)
          clear h471q a470q
          refine WL.block (c := 2) (m' := 33) h473q rfl [(4, .bool false), (46, .bool false)] (by kernel_rfl) (fun a474q h475q => ?_)
          clear h473q a472q
          refine WL.done (by kernel_rfl) ?_
          refine wp_ret ?_
          have hS476q : St b w0 W403q R (Fs) := hS408q.drop_
          obtain rfl := Option.some.inj H
          repeat (first | refine then_ret ?_ | refine inBlock_ret ?_ | refine inBlock_go ?_)
          refine body_ret (v := .bool false) h475q (by kernel_rfl) (by kernel_rfl) ?_
          exact ⟨rfl, hS476q⟩
        · rw [if_neg c451q] at H
          have hb_ : r305q = false := (Bool.eq_false_iff.2 c451q)
          try rw [hb_] at h450q
          clear hb_
          refine WL.op' (m := 18) h450q rfl rfl (owp_run h450q rfl (by kernel_rfl) (v := .slice A315q r304q.length c316q) (by kernel_rfl) (fun a477q h478q => ?_))
          clear h450q a449q
          refine WL.op' (m := 19) h478q rfl rfl (owp_run h478q rfl (by kernel_rfl) (v := .int .i64 (r304q.length : Int)) (by kernel_rfl) (fun a479q h480q => ?_))
          clear h478q a477q
          refine WL.op' (m := 20) h480q rfl rfl (owp_run h480q rfl (by kernel_rfl) (v := .bool (decide ((r304q.length : Int) = 0))) (by kernel_rfl) (fun a481q h482q => ?_))
          clear h480q a479q
          refine WL.block (c := 2) (m' := 23) h482q rfl [(37, .bool (decide ((r304q.length : Int) = 0))), (36, .bool (decide ((r304q.length : Int) = 0)))] (by kernel_rfl) (fun a483q h484q => ?_)
          clear h482q a481q
          by_cases c485q : (r304q.length : Int) = 0
          · rw [if_pos c485q] at H
            have hb_ : (decide ((r304q.length : Int) = 0)) = true := decide_eq_true c485q
            try rw [hb_] at h484q
            clear hb_
            refine WL.op' (m := 23) h484q rfl rfl (owp_run h484q rfl (by kernel_rfl) (v := .pointer none) (by kernel_rfl) (fun a486q h487q => ?_))
            clear h484q a483q
            obtain ⟨r489q, A488q, H⟩ := bind1 H
            refine WL.op' (m := 24) h487q rfl rfl ?_
            refine owp_call [.pointer none] h487q rfl (by kernel_rfl) rfl Try.func15 (by kernel_rfl) rfl (by kernel_rfl) (queue_Queue_Len_nil.calls  A488q hS408q) (fun e491q W490q hp492q => ?_)
            obtain ⟨rfl, hS495q⟩ := hp492q
            refine ⟨_, rfl, fun a493q h494q => ?_⟩
            clear h487q a486q
            refine WL.op' (m := 25) h494q rfl rfl (owp_run h494q rfl (by kernel_rfl) (v := .bool (decide (r489q = 0))) (by kernel_rfl) (fun a496q h497q => ?_))
            clear h494q a493q
            refine WL.block (c := 2) (m' := 28) h497q rfl [(42, .bool (decide (r489q = 0))), (41, .bool (decide (r489q = 0)))] (by kernel_rfl) (fun a498q h499q => ?_)
            clear h497q a496q
            by_cases c500q : r489q = 0
            · rw [if_pos c500q] at H
              have hb_ : (decide (r489q = 0)) = true := decide_eq_true c500q
              try rw [hb_] at h499q
              clear hb_
              refine WL.op' (m := 28) h499q rfl rfl (owp_run h499q rfl (by kernel_rfl) (v := .pointer none) (by kernel_rfl) (fun a501q h502q => ?_))
              clear h499q a498q
              obtain ⟨r504q, A503q, H⟩ := bind1 H
              refine WL.op' (m := 29) h502q rfl rfl ?_
              refine owp_call [.pointer none] h502q rfl (by kernel_rfl) rfl Try.func11 (by kernel_rfl) rfl (by kernel_rfl) (queue_Queue_Bytes_nil.calls  A503q hS495q) (fun e506q W505q hp507q => ?_)
              obtain ⟨rfl, hS510q⟩ := hp507q
              refine ⟨_, rfl, fun a508q h509q => ?_⟩
              clear h502q a501q
              refine WL.op' (m := 30) h509q rfl rfl (owp_run h509q rfl (by kernel_rfl) (v := .bool (decide (r504q = 0))) (by kernel_rfl) (fun a511q h512q => ?_))
              clear h509q a508q
              refine WL.block (c := 2) (m' := 33) h512q rfl [(4, .bool (decide (r504q = 0))), (46, .bool (decide (r504q = 0)))] (by kernel_rfl) (fun a513q h514q => ?_)
              clear h512q a511q
              refine WL.done (by kernel_rfl) ?_
              refine wp_ret ?_
              have hS515q : St b w0 W505q R (Fs) := hS510q.drop_
              obtain rfl := Option.some.inj H
              repeat (first | refine then_ret ?_ | refine inBlock_ret ?_ | refine inBlock_go ?_)
              refine body_ret (v := .bool (decide (r504q = 0))) h514q (by kernel_rfl) (by kernel_rfl) ?_
              exact ⟨rfl, hS515q⟩
            · rw [if_neg c500q] at H
              have hb_ : (decide (r489q = 0)) = false := decide_eq_false c500q
              try rw [hb_] at h499q
              clear hb_
              refine WL.skipped (m := 28) h499q rfl rfl (by kernel_rfl) rfl (fun a516q h517q => ?_)
              clear h499q a498q
              refine WL.skipped (m := 29) h517q rfl rfl (by kernel_rfl) rfl (fun a518q h519q => ?_)
              clear h517q a516q
              refine WL.skipped (m := 30) h519q rfl rfl (by kernel_rfl) rfl (fun a520q h521q => ?_)
              clear h519q a518q
              refine WL.block (c := 2) (m' := 33) h521q rfl [(4, .bool false), (46, .bool false)] (by kernel_rfl) (fun a522q h523q => ?_)
              clear h521q a520q
              refine WL.done (by kernel_rfl) ?_
              refine wp_ret ?_
              have hS524q : St b w0 W490q R (Fs) := hS495q.drop_
              obtain rfl := Option.some.inj H
              repeat (first | refine then_ret ?_ | refine inBlock_ret ?_ | refine inBlock_go ?_)
              refine body_ret (v := .bool false) h523q (by kernel_rfl) (by kernel_rfl) ?_
              exact ⟨rfl, hS524q⟩
          · rw [if_neg c485q] at H
            have hb_ : (decide ((r304q.length : Int) = 0)) = false := decide_eq_false c485q
            try rw [hb_] at h484q
            clear hb_
            refine WL.skipped (m := 23) h484q rfl rfl (by kernel_rfl) rfl (fun a525q h526q => ?_)
            clear h484q a483q
            refine WL.skipped (m := 24) h526q rfl rfl (by kernel_rfl) rfl (fun a527q h528q => ?_)
            clear h526q a525q
            refine WL.skipped (m := 25) h528q rfl rfl (by kernel_rfl) rfl (fun a529q h530q => ?_)
            clear h528q a527q
            refine WL.block (c := 2) (m' := 28) h530q rfl [(42, .bool false), (41, .bool false)] (by kernel_rfl) (fun a531q h532q => ?_)
            clear h530q a529q
            refine WL.skipped (m := 28) h532q rfl rfl (by kernel_rfl) rfl (fun a533q h534q => ?_)
            clear h532q a531q
            refine WL.skipped (m := 29) h534q rfl rfl (by kernel_rfl) rfl (fun a535q h536q => ?_)
            clear h534q a533q
            refine WL.skipped (m := 30) h536q rfl rfl (by kernel_rfl) rfl (fun a537q h538q => ?_)
            clear h536q a535q
            refine WL.block (c := 2) (m' := 33) h538q rfl [(4, .bool false), (46, .bool false)] (by kernel_rfl) (fun a539q h540q => ?_)
            clear h538q a537q
            refine WL.done (by kernel_rfl) ?_
            refine wp_ret ?_
            have hS541q : St b w0 W403q R (Fs) := hS408q.drop_
            obtain rfl := Option.some.inj H
            repeat (first | refine then_ret ?_ | refine inBlock_ret ?_ | refine inBlock_go ?_)
            refine body_ret (v := .bool false) h540q (by kernel_rfl) (by kernel_rfl) ?_
            exact ⟨rfl, hS541q⟩
  · rw [if_neg c338q] at H
    have hb_ : r329q = false := (Bool.eq_false_iff.2 c338q)
    try rw [hb_] at h337q
    clear hb_
    refine WL.skipped (m := 2) h337q rfl rfl (by kernel_rfl) rfl (fun a542q h543q => ?_)
    clear h337q a336q
    refine WL.skipped (m := 3) h543q rfl rfl (by kernel_rfl) rfl (fun a544q h545q => ?_)
    clear h543q a542q
    refine WL.skipped (m := 4) h545q rfl rfl (by kernel_rfl) rfl (fun a546q h547q => ?_)
    clear h545q a544q
    refine WL.skipped (m := 5) h547q rfl rfl (by kernel_rfl) rfl (fun a548q h549q => ?_)
    clear h547q a546q
    refine WL.block (c := 2) (m' := 8) h549q rfl [(22, .bool false), (21, .bool false)] (by kernel_rfl) (fun a550q h551q => ?_)
    clear h549q a548q
    refine WL.skipped (m := 8) h551q rfl rfl (by kernel_rfl) rfl (fun a552q h553q => ?_)
    clear h551q a550q
    refine WL.skipped (m := 9) h553q rfl rfl (by kernel_rfl) rfl (fun a554q h555q => ?_)
    clear h553q a552q
    refine WL.skipped (m := 10) h555q rfl rfl (by kernel_rfl) rfl (fun a556q h557q => ?_)
    clear h555q a554q
    refine WL.skipped (m := 11) h557q rfl rfl (by kernel_rfl) rfl (fun a558q h559q => ?_)
    clear h557q a556q
    refine WL.block (c := 2) (m' := 14) h559q rfl [(28, .bool false), (27, .bool false)] (by kernel_rfl) (fun a560q h561q => ?_)
    clear h559q a558q
    refine WL.skipped (m := 14) h561q rfl rfl (by kernel_rfl) rfl (fun a562q h563q => ?_)
    clear h561q a560q
    refine WL.skipped (m := 15) h563q rfl rfl (by kernel_rfl) rfl (fun a564q h565q => ?_)
    clear h563q a562q
    refine WL.block (c := 2) (m' := 18) h565q rfl [(32, .bool false), (31, .bool false)] (by kernel_rfl) (fun a566q h567q => ?_)
    clear h565q a564q
    refine WL.skipped (m := 18) h567q rfl rfl (by kernel_rfl) rfl (fun a568q h569q => ?_)
    clear h567q a566q
    refine WL.skipped (m := 19) h569q rfl rfl (by kernel_rfl) rfl (fun a570q h571q => ?_)
    clear h569q a568q
    refine WL.skipped (m := 20) h571q rfl rfl (by kernel_rfl) rfl (fun a572q h573q => ?_)
    clear h571q a570q
    refine WL.block (c := 2) (m' := 23) h573q rfl [(37, .bool false), (36, .bool false)] (by kernel_rfl) (fun a574q h575q => ?_)
    clear h573q a572q
    refine WL.skipped (m := 23) h575q rfl rfl (by kernel_rfl) rfl (fun a576q h577q => ?_)
    clear h575q a574q
    refine WL.skipped (m := 24) h577q rfl rfl (by kernel_rfl) rfl (fun a578q h579q => ?_)
    clear h577q a576q
    refine WL.skipped (m := 25) h579q rfl rfl (by kernel_rfl) rfl (fun a580q h581q => ?_)
    clear h579q a578q
    refine WL.block (c := 2) (m' := 28) h581q rfl [(42, .bool false), (41, .bool false)] (by kernel_rfl) (fun a582q h583q => ?_)
    clear h581q a580q
    refine WL.skipped (m := 28) h583q rfl rfl (by kernel_rfl) rfl (fun a584q h585q => ?_)
    clear h583q a582q
    refine WL.skipped (m := 29) h585q rfl rfl (by kernel_rfl) rfl (fun a586q h587q => ?_)
    clear h585q a584q
    refine WL.skipped (m := 30) h587q rfl rfl (by kernel_rfl) rfl (fun a588q h589q => ?_)
    clear h587q a586q
    refine WL.block (c := 2) (m' := 33) h589q rfl [(4, .bool false), (46, .bool false)] (by kernel_rfl) (fun a590q h591q => ?_)
    clear h589q a588q
    refine WL.done (by kernel_rfl) ?_
    refine wp_ret ?_
    have hS592q : St b w0 W330q R (Fs) := hS335q.drop_
    obtain rfl := Option.some.inj H
    repeat (first | refine then_ret ?_ | refine inBlock_ret ?_ | refine inBlock_go ?_)
    refine body_ret (v := .bool false) h591q (by kernel_rfl) (by kernel_rfl) ?_
    exact ⟨rfl, hS592q⟩

/-! ### louver/louverlaw23.QueueAll -/
mutual
def louverlaw23qQueueAll.l0 : Nat → S44 → (List (List Int)) → Int → Int → Int → Int → (List (List Int)) → Option (Bool)
  | 0, _, _, _, _, _, _, _ => none
  | k + 1, x1889q, x1892q, x1897q, x1898q, p0, p1, p2 => if x1898q < (p2.length : Int) then (if 0 ≤ x1898q then (if ((gt [] p2 x1898q).length : Int) > 1000 then (bnd1 (louverlaw23qfixed.f) fun r1929q => (some r1929q)) else (if (x1892q.length : Int) < (IntKind.i64.wrap p0) then (bnd1 (queue_Queue_Fits.f x1889q ((gt [] p2 x1898q).length : Int)) fun r1964q => (if (r1964q != (decide ((IntKind.i64.wrap (x1897q + ((gt [] p2 x1898q).length : Int))) ≤ (IntKind.i64.wrap ((IntKind.i64.wrap p1) * 8))))) = true then (some false) else (bnd2 (queue_Queue_Push.f x1889q (gt [] p2 x1898q)) fun r1997q r1998q => (if (r1997q != (decide ((IntKind.i64.wrap (x1897q + ((gt [] p2 x1898q).length : Int))) ≤ (IntKind.i64.wrap ((IntKind.i64.wrap p1) * 8))))) = true then (some false) else (if (IntKind.i64.wrap (x1897q + ((gt [] p2 x1898q).length : Int))) ≤ (IntKind.i64.wrap ((IntKind.i64.wrap p1) * 8)) then (if x1892q.length + 1 ≤ 5864062014805 then (lt1 (x1892q ++ ([(gt [] p2 x1898q)] : List (List Int)) : List (List Int)) fun y2038q => (louverlaw23qQueueAll.l0 k r1998q y2038q (IntKind.i64.wrap (x1897q + ((gt [] p2 x1898q).length : Int))) (IntKind.i64.wrap (x1898q + 1)) p0 p1 p2)) else (none)) else (louverlaw23qQueueAll.l0 k r1998q x1892q x1897q (IntKind.i64.wrap (x1898q + 1)) p0 p1 p2)))))) else (bnd1 (queue_Queue_Fits.f x1889q ((gt [] p2 x1898q).length : Int)) fun r2073q => (if (r2073q != false) = true then (some false) else (bnd2 (queue_Queue_Push.f x1889q (gt [] p2 x1898q)) fun r2106q r2107q => (if (r2106q != false) = true then (some false) else (louverlaw23qQueueAll.l0 k r2107q x1892q x1897q (IntKind.i64.wrap (x1898q + 1)) p0 p1 p2))))))) else (none)) else (louverlaw23qQueueAll.l1 k x1889q 0 p0 p1 x1892q)
def louverlaw23qQueueAll.l1 : Nat → S44 → Int → Int → Int → (List (List Int)) → Option (Bool)
  | 0, _, _, _, _, _ => none
  | k + 1, x2138q, x2141q, p0, p1, x1892q => if x2141q < (x1892q.length : Int) then (if 0 ≤ x2141q then (bnd3 (queue_Queue_Pop.f x2138q) fun r2171q r2172q r2173q => (if r2172q = true then (if (toS r2171q) = (toS (gt [] x1892q x2141q)) then (louverlaw23qQueueAll.l1 k r2173q (IntKind.i64.wrap (x2141q + 1)) p0 p1 x1892q) else (some false)) else (some false))) else (none)) else (bnd3 (queue_Queue_Pop.f x2138q) fun r2236q r2237q r2238q => (bnd1 (louverlaw23qfixed.f) fun r2255q => (if r2255q = true then (if r2237q = true then (some false) else (bnd1 (queue_Queue_Bytes.f r2238q) fun r2305q => (if r2305q = 0 then (bnd1 (queue_Queue_Fits.f r2238q (IntKind.i64.wrap ((IntKind.i64.wrap p1) * 8))) fun r2328q => (some (r2328q == (decide (p0 > 0))))) else (some false)))) else (some false))))
end
def louverlaw23qQueueAll.f (k : Nat) (p0 : Int) (p1 : Int) (p2 : (List (List Int))) : Option (Bool) := if (p2.length : Int) > 300 then (bnd1 (louverlaw23qfixed.f) fun r1854q => (some r1854q)) else (bnd1 (queue_New.f (IntKind.i64.wrap p0) (IntKind.i64.wrap ((IntKind.i64.wrap p1) * 8))) fun r1866q => (louverlaw23qQueueAll.l0 k r1866q ([] : List (List Int)) 0 0 p0 p1 p2))
set_option maxHeartbeats 2000000 in
set_option maxRecDepth 100000 in
theorem louverlaw23qQueueAll.calls (k : Nat) {b : Nat} {w0 W : World} {R : Frag} {Fs : List Frag} {p0 : Int} {p1 : Int} {p2 : (List (List Int))} {v2 : Value} {r0q : Bool} (hp2 : Rds (kRds (kInt .u8)) b w0 R v2 p2) (H : louverlaw23qQueueAll.f k p0 p1 p2 = some r0q) (hS : St b w0 W R (Fs)) :
    Calls Try.prog 3 ([.int .u8 p0, .int .u8 p1, v2] : List Value).toArray W (fun e W' => e = .returned (.bool r0q) ∧ St b w0 W' R (Fs)) := by
  obtain ⟨A2, c2, rfl⟩ := hp2.form
  unfold louverlaw23qQueueAll.f at H
  refine calls_enter Try.func3 rfl 123 rfl (by kernel_rfl) (fun a h => ?_)
  refine wp_seq ?_
  refine WL.start ?_
  refine WL.block (c := 1) (m' := 1) h rfl [(6, .bool false)] (by kernel_rfl) (fun a1848q h1849q => ?_)
  refine WL.done (by kernel_rfl) ?_
  refine wp_seq ?_
  refine wp_seq ?_
  refine WL.start ?_
  refine WL.block (c := 3) (m' := 3) h1849q rfl [(21, .bool (decide ((p2.length : Int) > 300))), (20, .int .i64 (p2.length : Int)), (19, .slice A2 p2.length c2)] (by kernel_rfl) (fun a1850q h1851q => ?_)
  clear h1849q a1848q
  refine WL.done (by kernel_rfl) ?_
  by_cases c1852q : (p2.length : Int) > 300
  · rw [if_pos c1852q] at H
    have hb_ : (decide ((p2.length : Int) > 300)) = true := decide_eq_true c1852q
    try rw [hb_] at h1851q
    clear hb_
    refine wp_then h1851q rfl ?_
    refine wp_seq ?_
    refine WL.start ?_
    obtain ⟨r1854q, A1853q, H⟩ := bind1 H
    refine WL.op' (m := 0) h1851q rfl rfl ?_
    refine owp_call [] h1851q rfl (by kernel_rfl) rfl Try.func6 (by kernel_rfl) rfl (by kernel_rfl) (louverlaw23qfixed.calls  A1853q hS) (fun e1856q W1855q hp1857q => ?_)
    obtain ⟨rfl, hS1860q⟩ := hp1857q
    refine ⟨_, rfl, fun a1858q h1859q => ?_⟩
    clear h1851q a1850q
    refine WL.block (c := 1) (m' := 2) h1859q rfl [(6, .bool r1854q)] (by kernel_rfl) (fun a1861q h1862q => ?_)
    clear h1859q a1858q
    refine WL.done (by kernel_rfl) ?_
    refine wp_ret ?_
    obtain rfl := Option.some.inj H
    repeat (first | refine then_ret ?_ | refine inBlock_ret ?_ | refine inBlock_go ?_)
    refine body_ret (v := .bool r1854q) h1862q (by kernel_rfl) (by kernel_rfl) ?_
    exact ⟨rfl, hS1860q⟩
  · rw [if_neg c1852q] at H
    have hb_ : (decide ((p2.length : Int) > 300)) = false := decide_eq_false c1852q
    try rw [hb_] at h1851q
    clear hb_
    refine wp_else h1851q rfl ?_
    refine wp_skip ?_
    refine wp_seq ?_
    refine WL.start ?_
    refine WL.block (c := 5) (m' := 5) h1851q rfl [(27, .int .i64 (IntKind.i64.wrap ((IntKind.i64.wrap p1) * 8))), (26, .int .i64 (IntKind.i64.wrap p1)), (25, .int .u8 p1), (24, .int .i64 (IntKind.i64.wrap p0)), (23, .int .u8 p0)] (by kernel_rfl) (fun a1863q h1864q => ?_)
    clear h1851q a1850q
    obtain ⟨r1866q, A1865q, H⟩ := bind1 H
    refine WL.op' (m := 5) h1864q rfl rfl ?_
    refine owp_call [.int .i64 (IntKind.i64.wrap p0), .int .i64 (IntKind.i64.wrap ((IntKind.i64.wrap p1) * 8))] h1864q rfl (by kernel_rfl) rfl Try.func7 (by kernel_rfl) rfl (by kernel_rfl) (queue_New.calls  A1865q hS) (fun e1868q W1867q hp1869q => ?_)
    obtain ⟨v1872q, M1873q, rfl, hr1874q, hS1875q⟩ := hp1869q
    refine ⟨_, rfl, fun a1870q h1871q => ?_⟩
    clear h1864q a1863q
    refine WL.block (c := 1) (m' := 7) h1871q rfl [(7, v1872q)] (by kernel_rfl) (fun a1876q h1877q => ?_)
    clear h1871q a1870q
    refine WL.done (by kernel_rfl) ?_
    refine wp_seq ?_
    refine WL.start ?_
    refine WL.block (c := 1) (m' := 1) h1877q rfl [(8, .slice none 0 0)] (by kernel_rfl) (fun a1878q h1879q => ?_)
    clear h1877q a1876q
    refine WL.done (by kernel_rfl) ?_
    refine wp_seq ?_
    refine WL.start ?_
    refine WL.block (c := 1) (m' := 1) h1879q rfl [(9, .int .i64 0)] (by kernel_rfl) (fun a1880q h1881q => ?_)
    clear h1879q a1878q
    refine WL.done (by kernel_rfl) ?_
    refine wp_seq ?_
    refine wp_seq ?_
    refine WL.start ?_
    refine WL.block (c := 3) (m' := 3) h1881q rfl [(31, .int .i64 0), (30, .int .i64 (p2.length : Int)), (29, .slice A2 p2.length c2)] (by kernel_rfl) (fun a1882q h1883q => ?_)
    clear h1881q a1880q
    refine WL.done (by kernel_rfl) ?_
    refine wp_block ?_
    have hS1899q : St b w0 W1867q R (([] : Frag) :: M1873q :: Fs) := hS1875q.nil_
    have hS1900q : St b w0 W1867q R (M1873q :: ([] : Frag) :: Fs) := hS1899q.bring 1 rfl rfl
    refine wp_loop_ghost (fun kq_ a_ W_ => ∃ (x1889q : S44), ∃ (M1890q : Frag), ∃ (x1892q : (List (List Int))), ∃ (A1893q : Option Addr), ∃ (c1894q : Nat), ∃ (M1895q : Frag), ∃ (x1897q : Int), ∃ (x1898q : Int), Hd a_ 123 [(0, .int .u8 p0), (1, .int .u8 p1), (7, v1872q), (8, .slice A1893q x1892q.length c1894q), (9, .int .i64 x1897q), (29, .slice A2 p2.length c2), (30, .int .i64 (p2.length : Int)), (31, .int .i64 x1898q)] ∧ Asd (louverlaw23qQueueAll.l0 kq_ x1889q x1892q x1897q x1898q p0 p1 p2 = some r0q) ∧ Asd (kq_ ≤ k) ∧ Asd (St b w0 W_ R (M1890q :: M1895q :: Fs)) ∧ Asd (Ptr k44 44 b w0 R v1872q x1889q M1890q) ∧ Asd (Row (kRds (kInt .u8)) 26 b w0 R (.slice A1893q x1892q.length c1894q) x1892q M1895q)) k ⟨r1866q, M1873q, ([] : List (List Int)), none, 0, ([] : Frag), 0, 0, h1883q.keep ⟨rfl, rfl, rfl, rfl, rfl, rfl, rfl, rfl, trivial⟩, ⟨H⟩, ⟨Nat.le_refl _⟩, ⟨hS1900q⟩, ⟨hr1874q⟩, ⟨Row.nil⟩⟩ ?_
    clear H hS1900q
    rintro k1888q a1885q W1886q ⟨x1889q, M1890q, x1892q, A1893q, c1894q, M1895q, x1897q, x1898q, h1884q, ⟨H⟩, ⟨hkk1888q⟩, ⟨hS1887q⟩, ⟨hr1891q⟩, ⟨hr1896q⟩⟩
    obtain _ | k1901q := k1888q
    · exact absurd H (by simp [louverlaw23qQueueAll.l0])
    simp only [louverlaw23qQueueAll.l0] at H
    refine wp_seq ?_
    refine WL.start ?_
    refine WL.block (c := 1) (m' := 1) h1884q rfl [(32, .bool (decide (x1898q < (p2.length : Int))))] (by kernel_rfl) (fun a1902q h1903q => ?_)
    clear h1884q a1885q
    refine WL.done (by kernel_rfl) ?_
    refine wp_seq ?_
    by_cases c1904q : x1898q < (p2.length : Int)
    · rw [if_pos c1904q] at H
      have hb_ : (decide (x1898q < (p2.length : Int))) = true := decide_eq_true c1904q
      try rw [hb_] at h1903q
      clear hb_
      refine wp_then h1903q rfl ?_
      refine wp_skip ?_
      refine wp_seq ?_
      refine wp_block ?_
      refine wp_seq ?_
      refine WL.start ?_
      by_cases c1905q : 0 ≤ x1898q
      · rw [if_pos c1905q] at H
        have hi1908q : 0 ≤ x1898q := by first | assumption | omega
        have hi1909q : x1898q < (p2.length : Int) := by first | assumption | omega
        obtain ⟨ad1906q, _, ha1907q, -, -⟩ := Rds.elemAny hp2 hi1908q (gt_get (z := []) hi1908q hi1909q)
        refine WL.op' (m := 0) h1903q rfl rfl ?_
        refine owp_run (v := .pointer (some (ad1906q.add (x1898q.toNat * 1)))) h1903q rfl (by kernel_rfl) (run_idx (ad := ad1906q) (sz := 1) rfl (by rw [← ha1907q]; rfl) rfl Try.underlying22 (by kernel_rfl) hi1908q hi1909q) (fun a1910q h1911q => ?_)
        clear h1903q a1902q
        obtain ⟨ad1912q, cs1913q, ha1914q, hr1916q, hc1915q⟩ := Rds.elemAny hp2 hi1908q (gt_get (z := []) hi1908q hi1909q)
        rw [ha1907q] at ha1914q; obtain rfl := Option.some.inj ha1914q
        obtain ⟨v1917q, rfl, hx1918q⟩ := hr1916q
        obtain ⟨A1919q, c1920q, rfl⟩ := hx1918q.form
        refine WL.op' (m := 1) h1911q rfl rfl ?_
        refine owp_run (v := .slice A1919q (gt [] p2 x1898q).length c1920q) h1911q rfl (by kernel_rfl) (run_load1 rfl rfl Try.underlying26 rfl (cell0 (hc1915q _ (fun _ _ hk_ => hS1887q.kn hk_)))) (fun a1921q h1922q => ?_)
        clear h1911q a1910q
        refine WL.block (c := 1) (m' := 3) h1922q rfl [(11, .slice A1919q (gt [] p2 x1898q).length c1920q)] (by kernel_rfl) (fun a1923q h1924q => ?_)
        clear h1922q a1921q
        refine WL.done (by kernel_rfl) ?_
        refine wp_seq ?_
        refine wp_seq ?_
        refine WL.start ?_
        refine WL.block (c := 3) (m' := 3) h1924q rfl [(37, .bool (decide (((gt [] p2 x1898q).length : Int) > 1000))), (36, .int .i64 ((gt [] p2 x1898q).length : Int)), (35, .slice A1919q (gt [] p2 x1898q).length c1920q)] (by kernel_rfl) (fun a1925q h1926q => ?_)
        clear h1924q a1923q
        refine WL.done (by kernel_rfl) ?_
        by_cases c1927q : ((gt [] p2 x1898q).length : Int) > 1000
        · rw [if_pos c1927q] at H
          have hb_ : (decide (((gt [] p2 x1898q).length : Int) > 1000)) = true := decide_eq_true c1927q
          try rw [hb_] at h1926q
          clear hb_
          refine wp_then h1926q rfl ?_
          refine wp_seq ?_
          refine WL.start ?_
          obtain ⟨r1929q, A1928q, H⟩ := bind1 H
          refine WL.op' (m := 0) h1926q rfl rfl ?_
          refine owp_call [] h1926q rfl (by kernel_rfl) rfl Try.func6 (by kernel_rfl) rfl (by kernel_rfl) (louverlaw23qfixed.calls  A1928q hS1887q) (fun e1931q W1930q hp1932q => ?_)
          obtain ⟨rfl, hS1935q⟩ := hp1932q
          refine ⟨_, rfl, fun a1933q h1934q => ?_⟩
          clear h1926q a1925q
          refine WL.block (c := 1) (m' := 2) h1934q rfl [(6, .bool r1929q)] (by kernel_rfl) (fun a1936q h1937q => ?_)
          clear h1934q a1933q
          refine WL.done (by kernel_rfl) ?_
          refine wp_ret ?_
          have hS1938q : St b w0 W1930q R (M1895q :: Fs) := hS1935q.drop_
          have hS1939q : St b w0 W1930q R (Fs) := hS1938q.drop_
          obtain rfl := Option.some.inj H
          repeat (first | refine then_ret ?_ | refine inBlock_ret ?_ | refine inBlock_go ?_)
          refine body_ret (v := .bool r1929q) h1937q (by kernel_rfl) (by kernel_rfl) ?_
          exact ⟨rfl, hS1939q⟩
        · rw [if_neg c1927q] at H
          have hb_ : (decide (((gt [] p2 x1898q).length : Int) > 1000)) = false := decide_eq_false c1927q
          try rw [hb_] at h1926q
          clear hb_
          refine wp_else h1926q rfl ?_
          refine wp_skip ?_
          refine wp_seq ?_
          refine WL.start ?_
          refine WL.block (c := 6) (m' := 6) h1926q rfl [(44, .bool (decide ((x1892q.length : Int) < (IntKind.i64.wrap p0)))), (43, .bool (decide ((x1892q.length : Int) < (IntKind.i64.wrap p0)))), (42, .int .i64 (IntKind.i64.wrap p0)), (41, .int .u8 p0), (40, .int .i64 (x1892q.length : Int)), (39, .slice A1893q x1892q.length c1894q)] (by kernel_rfl) (fun a1940q h1941q => ?_)
          clear h1926q a1925q
          by_cases c1942q : (x1892q.length : Int) < (IntKind.i64.wrap p0)
          · rw [if_pos c1942q] at H
            have hb_ : (decide ((x1892q.length : Int) < (IntKind.i64.wrap p0))) = true := decide_eq_true c1942q
            try rw [hb_] at h1941q
            clear hb_
            refine WL.op' (m := 6) h1941q rfl rfl (owp_run h1941q rfl (by kernel_rfl) (v := .int .i64 x1897q) (by kernel_rfl) (fun a1943q h1944q => ?_))
            clear h1941q a1940q
            refine WL.op' (m := 7) h1944q rfl rfl (owp_run h1944q rfl (by kernel_rfl) (v := .slice A1919q (gt [] p2 x1898q).length c1920q) (by kernel_rfl) (fun a1945q h1946q => ?_))
            clear h1944q a1943q
            refine WL.op' (m := 8) h1946q rfl rfl (owp_run h1946q rfl (by kernel_rfl) (v := .int .i64 ((gt [] p2 x1898q).length : Int)) (by kernel_rfl) (fun a1947q h1948q => ?_))
            clear h1946q a1945q
            refine WL.op' (m := 9) h1948q rfl rfl (owp_run h1948q rfl (by kernel_rfl) (v := .int .i64 (IntKind.i64.wrap (x1897q + ((gt [] p2 x1898q).length : Int)))) (by kernel_rfl) (fun a1949q h1950q => ?_))
            clear h1948q a1947q
            refine WL.op' (m := 10) h1950q rfl rfl (owp_run h1950q rfl (by kernel_rfl) (v := .int .u8 p1) (by kernel_rfl) (fun a1951q h1952q => ?_))
            clear h1950q a1949q
            refine WL.op' (m := 11) h1952q rfl rfl (owp_run h1952q rfl (by kernel_rfl) (v := .int .i64 (IntKind.i64.wrap p1)) (by kernel_rfl) (fun a1953q h1954q => ?_))
            clear h1952q a1951q
            refine WL.op' (m := 12) h1954q rfl rfl (owp_run h1954q rfl (by kernel_rfl) (v := .int .i64 (IntKind.i64.wrap ((IntKind.i64.wrap p1) * 8))) (by kernel_rfl) (fun a1955q h1956q => ?_))
            clear h1954q a1953q
            refine WL.op' (m := 13) h1956q rfl rfl (owp_run h1956q rfl (by kernel_rfl) (v := .bool (decide ((IntKind.i64.wrap (x1897q + ((gt [] p2 x1898q).length : Int))) ≤ (IntKind.i64.wrap ((IntKind.i64.wrap p1) * 8))))) (by kernel_rfl) (fun a1957q h1958q => ?_))
            clear h1956q a1955q
            refine WL.block (c := 2) (m' := 16) h1958q rfl [(12, .bool (decide ((IntKind.i64.wrap (x1897q + ((gt [] p2 x1898q).length : Int))) ≤ (IntKind.i64.wrap ((IntKind.i64.wrap p1) * 8))))), (53, .bool (decide ((IntKind.i64.wrap (x1897q + ((gt [] p2 x1898q).length : Int))) ≤ (IntKind.i64.wrap ((IntKind.i64.wrap p1) * 8)))))] (by kernel_rfl) (fun a1959q h1960q => ?_)
            clear h1958q a1957q
            refine WL.done (by kernel_rfl) ?_
            refine wp_seq ?_
            refine wp_seq ?_
            refine WL.start ?_
            refine WL.block (c := 3) (m' := 3) h1960q rfl [(56, .int .i64 ((gt [] p2 x1898q).length : Int)), (55, .slice A1919q (gt [] p2 x1898q).length c1920q), (54, v1872q)] (by kernel_rfl) (fun a1961q h1962q => ?_)
            clear h1960q a1959q
            obtain ⟨r1964q, A1963q, H⟩ := bind1 H
            refine WL.op' (m := 3) h1962q rfl rfl ?_
            refine owp_call [v1872q, .int .i64 ((gt [] p2 x1898q).length : Int)] h1962q rfl (by kernel_rfl) rfl Try.func8 (by kernel_rfl) rfl (by kernel_rfl) (queue_Queue_Fits.calls hr1891q A1963q hS1887q) (fun e1966q W1965q hp1967q => ?_)
            obtain ⟨M1970q, rfl, hr1971q, hS1972q⟩ := hp1967q
            refine ⟨_, rfl, fun a1968q h1969q => ?_⟩
            clear h1962q a1961q
            refine WL.block (c := 3) (m' := 7) h1969q rfl [(60, .bool (r1964q != (decide ((IntKind.i64.wrap (x1897q + ((gt [] p2 x1898q).length : Int))) ≤ (IntKind.i64.wrap ((IntKind.i64.wrap p1) * 8)))))), (59, .bool (r1964q != (decide ((IntKind.i64.wrap (x1897q + ((gt [] p2 x1898q).length : Int))) ≤ (IntKind.i64.wrap ((IntKind.i64.wrap p1) * 8)))))), (58, .bool (decide ((IntKind.i64.wrap (x1897q + ((gt [] p2 x1898q).length : Int))) ≤ (IntKind.i64.wrap ((IntKind.i64.wrap p1) * 8)))))] (by kernel_rfl) (fun a1973q h1974q => ?_)
            clear h1969q a1968q
            by_cases c1975q : (r1964q != (decide ((IntKind.i64.wrap (x1897q + ((gt [] p2 x1898q).length : Int))) ≤ (IntKind.i64.wrap ((IntKind.i64.wrap p1) * 8))))) = true
            · rw [if_pos c1975q] at H
              have hb_ : (r1964q != (decide ((IntKind.i64.wrap (x1897q + ((gt [] p2 x1898q).length : Int))) ≤ (IntKind.i64.wrap ((IntKind.i64.wrap p1) * 8))))) = true := c1975q
              try rw [hb_] at h1974q
              clear hb_
              refine WL.skipped (m := 7) h1974q rfl rfl (by kernel_rfl) rfl (fun a1976q h1977q => ?_)
              clear h1974q a1973q
              refine WL.skipped (m := 8) h1977q rfl rfl (by kernel_rfl) rfl (fun a1978q h1979q => ?_)
              clear h1977q a1976q
              refine WL.skipped (m := 9) h1979q rfl rfl (by kernel_rfl) rfl (fun a1980q h1981q => ?_)
              clear h1979q a1978q
              refine WL.skipped (m := 10) h1981q rfl rfl (by kernel_rfl) rfl (fun a1982q h1983q => ?_)
              clear h1981q a1980q
              refine WL.skipped (m := 11) h1983q rfl rfl (by kernel_rfl) rfl (fun a1984q h1985q => ?_)
              clear h1983q a1982q
              refine WL.block (c := 1) (m' := 13) h1985q rfl [(66, .bool true)] (by kernel_rfl) (fun a1986q h1987q => ?_)
              clear h1985q a1984q
              refine WL.done (by kernel_rfl) ?_
              refine wp_then h1987q rfl ?_
              refine wp_seq ?_
              refine WL.start ?_
              refine WL.block (c := 1) (m' := 1) h1987q rfl [(6, .bool false)] (by kernel_rfl) (fun a1988q h1989q => ?_)
              clear h1987q a1986q
              refine WL.done (by kernel_rfl) ?_
              refine wp_ret ?_
              have hS1990q : St b w0 W1965q R (M1895q :: Fs) := hS1972q.drop_
              have hS1991q : St b w0 W1965q R (Fs) := hS1990q.drop_
              obtain rfl := Option.some.inj H
              repeat (first | refine then_ret ?_ | refine inBlock_ret ?_ | refine inBlock_go ?_)
              refine body_ret (v := .bool false) h1989q (by kernel_rfl) (by kernel_rfl) ?_
              exact ⟨rfl, hS1991q⟩
            · rw [if_neg c1975q] at H
              have hb_ : (r1964q != (decide ((IntKind.i64.wrap (x1897q + ((gt [] p2 x1898q).length : Int))) ≤ (IntKind.i64.wrap ((IntKind.i64.wrap p1) * 8))))) = false := (Bool.eq_false_iff.2 c1975q)
              try rw [hb_] at h1974q
              clear hb_
              refine WL.op' (m := 7) h1974q rfl rfl (owp_run h1974q rfl (by kernel_rfl) (v := v1872q) (by kernel_rfl) (fun a1992q h1993q => ?_))
              clear h1974q a1973q
              refine WL.op' (m := 8) h1993q rfl rfl (owp_run h1993q rfl (by kernel_rfl) (v := .slice A1919q (gt [] p2 x1898q).length c1920q) (by kernel_rfl) (fun a1994q h1995q => ?_))
              clear h1993q a1992q
              obtain ⟨r1997q, r1998q, A1996q, H⟩ := bind2 H
              refine WL.op' (m := 9) h1995q rfl rfl ?_
              refine owp_call [v1872q, .slice A1919q (gt [] p2 x1898q).length c1920q] h1995q rfl (by kernel_rfl) rfl Try.func9 (by kernel_rfl) rfl (by kernel_rfl) (queue_Queue_Push.calls hr1971q hx1918q A1996q hS1972q) (fun e2000q W1999q hp2001q => ?_)
              obtain ⟨M2004q, rfl, hr2005q, hS2006q⟩ := hp2001q
              refine ⟨_, rfl, fun a2002q h2003q => ?_⟩
              clear h1995q a1994q
              refine WL.op' (m := 10) h2003q rfl rfl (owp_run h2003q rfl (by kernel_rfl) (v := .bool (decide ((IntKind.i64.wrap (x1897q + ((gt [] p2 x1898q).length : Int))) ≤ (IntKind.i64.wrap ((IntKind.i64.wrap p1) * 8))))) (by kernel_rfl) (fun a2007q h2008q => ?_))
              clear h2003q a2002q
              refine WL.op' (m := 11) h2008q rfl rfl (owp_run h2008q rfl (by kernel_rfl) (v := .bool (r1997q != (decide ((IntKind.i64.wrap (x1897q + ((gt [] p2 x1898q).length : Int))) ≤ (IntKind.i64.wrap ((IntKind.i64.wrap p1) * 8)))))) (by kernel_rfl) (fun a2009q h2010q => ?_))
              clear h2008q a2007q
              refine WL.block (c := 1) (m' := 13) h2010q rfl [(66, .bool (r1997q != (decide ((IntKind.i64.wrap (x1897q + ((gt [] p2 x1898q).length : Int))) ≤ (IntKind.i64.wrap ((IntKind.i64.wrap p1) * 8))))))] (by kernel_rfl) (fun a2011q h2012q => ?_)
              clear h2010q a2009q
              refine WL.done (by kernel_rfl) ?_
              by_cases c2013q : (r1997q != (decide ((IntKind.i64.wrap (x1897q + ((gt [] p2 x1898q).length : Int))) ≤ (IntKind.i64.wrap ((IntKind.i64.wrap p1) * 8))))) = true
              · rw [if_pos c2013q] at H
                have hb_ : (r1997q != (decide ((IntKind.i64.wrap (x1897q + ((gt [] p2 x1898q).length : Int))) ≤ (IntKind.i64.wrap ((IntKind.i64.wrap p1) * 8))))) = true := c2013q
                try rw [hb_] at h2012q
                clear hb_
                refine wp_then h2012q rfl ?_
                refine wp_seq ?_
                refine WL.start ?_
                refine WL.block (c := 1) (m' := 1) h2012q rfl [(6, .bool false)] (by kernel_rfl) (fun a2014q h2015q => ?_)
                clear h2012q a2011q
                refine WL.done (by kernel_rfl) ?_
                refine wp_ret ?_
                have hS2016q : St b w0 W1999q R (M1895q :: Fs) := hS2006q.drop_
                have hS2017q : St b w0 W1999q R (Fs) := hS2016q.drop_
                obtain rfl := Option.some.inj H
                repeat (first | refine then_ret ?_ | refine inBlock_ret ?_ | refine inBlock_go ?_)
                refine body_ret (v := .bool false) h2015q (by kernel_rfl) (by kernel_rfl) ?_
                exact ⟨rfl, hS2017q⟩
              · rw [if_neg c2013q] at H
                have hb_ : (r1997q != (decide ((IntKind.i64.wrap (x1897q + ((gt [] p2 x1898q).length : Int))) ≤ (IntKind.i64.wrap ((IntKind.i64.wrap p1) * 8))))) = false := (Bool.eq_false_iff.2 c2013q)
                try rw [hb_] at h2012q
                clear hb_
                refine wp_else h2012q rfl ?_
                refine wp_skip ?_
                refine wp_seq ?_
                refine WL.start ?_
                refine WL.block (c := 1) (m' := 1) h2012q rfl [(67, .bool (decide ((IntKind.i64.wrap (x1897q + ((gt [] p2 x1898q).length : Int))) ≤ (IntKind.i64.wrap ((IntKind.i64.wrap p1) * 8)))))] (by kernel_rfl) (fun a2018q h2019q => ?_)
                clear h2012q a2011q
                refine WL.done (by kernel_rfl) ?_
                by_cases c2020q : (IntKind.i64.wrap (x1897q + ((gt [] p2 x1898q).length : Int))) ≤ (IntKind.i64.wrap ((IntKind.i64.wrap p1) * 8))
                · rw [if_pos c2020q] at H
                  have hb_ : (decide ((IntKind.i64.wrap (x1897q + ((gt [] p2 x1898q).length : Int))) ≤ (IntKind.i64.wrap ((IntKind.i64.wrap p1) * 8)))) = true := decide_eq_true c2020q
                  try rw [hb_] at h2019q
                  clear hb_
                  refine wp_then h2019q rfl ?_
                  refine wp_seq ?_
                  refine WL.start ?_
                  refine WL.block (c := 2) (m' := 2) h2019q rfl [(69, .slice A1919q (gt [] p2 x1898q).length c1920q), (68, .slice A1893q x1892q.length c1894q)] (by kernel_rfl) (fun a2021q h2022q => ?_)
                  clear h2019q a2018q
                  refine WL.op' (m := 2) h2022q rfl rfl ?_
                  refine owp_new (fun g_ => .slice (some ⟨g_, 0, none⟩) 1 1) (.cells ([.slice A1919q (gt [] p2 x1898q).length c1920q] : List Value).toArray 26 (0, 0)) h2022q rfl (by kernel_rfl) (by kernel_rfl) hS2006q (fun a2023q W2025q g2026q h2024q hS2027q => ?_)
                  clear h2022q a2021q
                  have hr2028q : Row (kRds (kInt .u8)) 26 b w0 R (.slice (some ⟨g2026q, 0, none⟩) 1 1) ([(gt [] p2 x1898q)] : List (List Int)) [(g2026q, .cells ([.slice A1919q (gt [] p2 x1898q).length c1920q] : List Value).toArray 26 (0, 0))] := Row.lit (xs := ([(gt [] p2 x1898q)] : List (List Int))) (Mi := []) ⟨_, _, [], _, rfl, rfl, ⟨⟨_, rfl, hx1918q⟩, rfl⟩, ⟨rfl, rfl⟩⟩ (by simp [maxLen])
                  by_cases c2029q : x1892q.length + 1 ≤ 5864062014805
                  · rw [if_pos c2029q] at H
                    have hS2030q : St b w0 W2025q R (M1895q :: [(g2026q, .cells ([.slice A1919q (gt [] p2 x1898q).length c1920q] : List Value).toArray 26 (0, 0))] :: M2004q :: Fs) := hS2027q.bring 2 rfl rfl
                    refine WL.op' (m := 3) h2024q rfl rfl ?_
                    refine owp_app_take (z := .slice none 0 0) (bytes := 24) (dk := (kRds (kInt .u8))) h2024q rfl (by kernel_rfl) rfl rfl rfl hr1896q hr2028q hS2030q Try.underlying22 (by kernel_rfl) rfl (by decide) (by decide) (by first | omega | (simp only [List.length_cons, List.length_nil] at *; omega)) (fun a2031q W2033q v2034q M2035q h2032q hr2036q hS2037q => ?_)
                    clear h2024q a2023q
                    obtain ⟨y2038q, hy2039q, H⟩ := lete H
                    have hr2040q : Row (kRds (kInt .u8)) 26 b w0 R v2034q y2038q M2035q := by rw [hy2039q]; exact hr2036q
                    clear hr2036q
                    obtain ⟨A2041q, c2042q, rfl⟩ := hr2040q.form
                    refine WL.block (c := 1) (m' := 5) h2032q rfl [(8, .slice A2041q y2038q.length c2042q)] (by kernel_rfl) (fun a2043q h2044q => ?_)
                    clear h2032q a2031q
                    refine WL.done (by kernel_rfl) ?_
                    refine WL.start ?_
                    refine WL.block (c := 5) (m' := 5) h2044q rfl [(9, .int .i64 (IntKind.i64.wrap (x1897q + ((gt [] p2 x1898q).length : Int)))), (75, .int .i64 (IntKind.i64.wrap (x1897q + ((gt [] p2 x1898q).length : Int)))), (74, .int .i64 ((gt [] p2 x1898q).length : Int)), (73, .slice A1919q (gt [] p2 x1898q).length c1920q), (72, .int .i64 x1897q)] (by kernel_rfl) (fun a2045q h2046q => ?_)
                    clear h2044q a2043q
                    refine WL.done (by kernel_rfl) ?_
                    refine WL.start ?_
                    refine WL.block (c := 2) (m' := 2) h2046q rfl [(31, .int .i64 (IntKind.i64.wrap (x1898q + 1))), (76, .int .i64 (IntKind.i64.wrap (x1898q + 1)))] (by kernel_rfl) (fun a2047q h2048q => ?_)
                    clear h2046q a2045q
                    refine WL.done (by kernel_rfl) ?_
                    have hS2049q : St b w0 W2033q R (M2004q :: M2035q :: Fs) := hS2037q.bring 1 rfl rfl
                    exact ⟨k1901q, by omega, r1998q, M2004q, y2038q, A2041q, c2042q, M2035q, IntKind.i64.wrap (x1897q + ((gt [] p2 x1898q).length : Int)), IntKind.i64.wrap (x1898q + 1), h2048q.keep ⟨rfl, rfl, rfl, rfl, rfl, rfl, rfl, rfl, trivial⟩, ⟨H⟩, ⟨by omega⟩, ⟨hS2049q⟩, ⟨hr2005q⟩, ⟨hr2040q⟩⟩
                  · rw [if_neg c2029q] at H
                    cases H
                · rw [if_neg c2020q] at H
                  have hb_ : (decide ((IntKind.i64.wrap (x1897q + ((gt [] p2 x1898q).length : Int))) ≤ (IntKind.i64.wrap ((IntKind.i64.wrap p1) * 8)))) = false := decide_eq_false c2020q
                  try rw [hb_] at h2019q
                  clear hb_
                  refine wp_else h2019q rfl ?_
                  refine wp_skip ?_
                  refine WL.start ?_
                  refine WL.block (c := 2) (m' := 2) h2019q rfl [(31, .int .i64 (IntKind.i64.wrap (x1898q + 1))), (76, .int .i64 (IntKind.i64.wrap (x1898q + 1)))] (by kernel_rfl) (fun a2050q h2051q => ?_)
                  clear h2019q a2018q
                  refine WL.done (by kernel_rfl) ?_
                  exact ⟨k1901q, by omega, r1998q, M2004q, x1892q, A1893q, c1894q, M1895q, x1897q, IntKind.i64.wrap (x1898q + 1), h2051q.keep ⟨rfl, rfl, rfl, rfl, rfl, rfl, rfl, rfl, trivial⟩, ⟨H⟩, ⟨by omega⟩, ⟨hS2006q⟩, ⟨hr2005q⟩, ⟨hr1896q⟩⟩
          · rw [if_neg c1942q] at H
            have hb_ : (decide ((x1892q.length : Int) < (IntKind.i64.wrap p0))) = false := decide_eq_false c1942q
            try rw [hb_] at h1941q
            clear hb_
            refine WL.skipped (m := 6) h1941q rfl rfl (by kernel_rfl) rfl (fun a2052q h2053q => ?_)
            clear h1941q a1940q
            refine WL.skipped (m := 7) h2053q rfl rfl (by kernel_rfl) rfl (fun a2054q h2055q => ?_)
            clear h2053q a2052q
            refine WL.skipped (m := 8) h2055q rfl rfl (by kernel_rfl) rfl (fun a2056q h2057q => ?_)
            clear h2055q a2054q
            refine WL.skipped (m := 9) h2057q rfl rfl (by kernel_rfl) rfl (fun a2058q h2059q => ?_)
            clear h2057q a2056q
            refine WL.skipped (m := 10) h2059q rfl rfl (by kernel_rfl) rfl (fun a2060q h2061q => ?_)
            clear h2059q a2058q
            refine WL.skipped (m := 11) h2061q rfl rfl (by kernel_rfl) rfl (fun a2062q h2063q => ?_)
            clear h2061q a2060q
            refine WL.skipped (m := 12) h2063q rfl rfl (by kernel_rfl) rfl (fun a2064q h2065q => ?_)
            clear h2063q a2062q
            refine WL.skipped (m := 13) h2065q rfl rfl (by kernel_rfl) rfl (fun a2066q h2067q => ?_)
            clear h2065q a2064q
            refine WL.block (c := 2) (m' := 16) h2067q rfl [(12, .bool false), (53, .bool false)] (by kernel_rfl) (fun a2068q h2069q => ?_)
            clear h2067q a2066q
            refine WL.done (by kernel_rfl) ?_
            refine wp_seq ?_
            refine wp_seq ?_
            refine WL.start ?_
            refine WL.block (c := 3) (m' := 3) h2069q rfl [(56, .int .i64 ((gt [] p2 x1898q).length : Int)), (55, .slice A1919q (gt [] p2 x1898q).length c1920q), (54, v1872q)] (by kernel_rfl) (fun a2070q h2071q => ?_)
            clear h2069q a2068q
            obtain ⟨r2073q, A2072q, H⟩ := bind1 H
            refine WL.op' (m := 3) h2071q rfl rfl ?_
            refine owp_call [v1872q, .int .i64 ((gt [] p2 x1898q).length : Int)] h2071q rfl (by kernel_rfl) rfl Try.func8 (by kernel_rfl) rfl (by kernel_rfl) (queue_Queue_Fits.calls hr1891q A2072q hS1887q) (fun e2075q W2074q hp2076q => ?_)
            obtain ⟨M2079q, rfl, hr2080q, hS2081q⟩ := hp2076q
            refine ⟨_, rfl, fun a2077q h2078q => ?_⟩
            clear h2071q a2070q
            refine WL.block (c := 3) (m' := 7) h2078q rfl [(60, .bool (r2073q != false)), (59, .bool (r2073q != false)), (58, .bool false)] (by kernel_rfl) (fun a2082q h2083q => ?_)
            clear h2078q a2077q
            by_cases c2084q : (r2073q != false) = true
            · rw [if_pos c2084q] at H
              have hb_ : (r2073q != false) = true := c2084q
              try rw [hb_] at h2083q
              clear hb_
              refine WL.skipped (m := 7) h2083q rfl rfl (by kernel_rfl) rfl (fun a2085q h2086q => ?_)
              clear h2083q a2082q
              refine WL.skipped (m := 8) h2086q rfl rfl (by kernel_rfl) rfl (fun a2087q h2088q => ?_)
              clear h2086q a2085q
              refine WL.skipped (m := 9) h2088q rfl rfl (by kernel_rfl) rfl (fun a2089q h2090q => ?_)
              clear h2088q a2087q
              refine WL.skipped (m := 10) h2090q rfl rfl (by kernel_rfl) rfl (fun a2091q h2092q => ?_)
              clear h2090q a2089q
              refine WL.skipped (m := 11) h2092q rfl rfl (by kernel_rfl) rfl (fun a2093q h2094q => ?_)
              clear h2092q a2091q
              refine WL.block (c := 1) (m' := 13) h2094q rfl [(66, .bool true)] (by kernel_rfl) (fun a2095q h2096q => ?_)
              clear h2094q a2093q
              refine WL.done (by kernel_rfl) ?_
              refine wp_then h2096q rfl ?_
              refine wp_seq ?_
              refine WL.start ?_
              refine WL.block (c := 1) (m' := 1) h2096q rfl [(6, .bool false)] (by kernel_rfl) (fun a2097q h2098q => ?_)
              clear h2096q a2095q
              refine WL.done (by kernel_rfl) ?_
              refine wp_ret ?_
              have hS2099q : St b w0 W2074q R (M1895q :: Fs) := hS2081q.drop_
              have hS2100q : St b w0 W2074q R (Fs) := hS2099q.drop_
              obtain rfl := Option.some.inj H
              repeat (first | refine then_ret ?_ | refine inBlock_ret ?_ | refine inBlock_go ?_)
              refine body_ret (v := .bool false) h2098q (by kernel_rfl) (by kernel_rfl) ?_
              exact ⟨rfl, hS2100q⟩
            · rw [if_neg c2084q] at H
              have hb_ : (r2073q != false) = false := (Bool.eq_false_iff.2 c2084q)
              try rw [hb_] at h2083q
              clear hb_
              refine WL.op' (m := 7) h2083q rfl rfl (owp_run h2083q rfl (by kernel_rfl) (v := v1872q) (by kernel_rfl) (fun a2101q h2102q => ?_))
              clear h2083q a2082q
              refine WL.op' (m := 8) h2102q rfl rfl (owp_run h2102q rfl (by kernel_rfl) (v := .slice A1919q (gt [] p2 x1898q).length c1920q) (by kernel_rfl) (fun a2103q h2104q => ?_))
              clear h2102q a2101q
              obtain ⟨r2106q, r2107q, A2105q, H⟩ := bind2 H
              refine WL.op' (m := 9) h2104q rfl rfl ?_
              refine owp_call [v1872q, .slice A1919q (gt [] p2 x1898q).length c1920q] h2104q rfl (by kernel_rfl) rfl Try.func9 (by kernel_rfl) rfl (by kernel_rfl) (queue_Queue_Push.calls hr2080q hx1918q A2105q hS2081q) (fun e2109q W2108q hp2110q => ?_)
              obtain ⟨M2113q, rfl, hr2114q, hS2115q⟩ := hp2110q
              refine ⟨_, rfl, fun a2111q h2112q => ?_⟩
              clear h2104q a2103q
              refine WL.op' (m := 10) h2112q rfl rfl (owp_run h2112q rfl (by kernel_rfl) (v := .bool false) (by kernel_rfl) (fun a2116q h2117q => ?_))
              clear h2112q a2111q
              refine WL.op' (m := 11) h2117q rfl rfl (owp_run h2117q rfl (by kernel_rfl) (v := .bool (r2106q != false)) (by kernel_rfl) (fun a2118q h2119q => ?_))
              clear h2117q a2116q
              refine WL.block (c := 1) (m' := 13) h2119q rfl [(66, .bool (r2106q != false))] (by kernel_rfl) (fun a2120q h2121q => ?_)
              clear h2119q a2118q
              refine WL.done (by kernel_rfl) ?_
              by_cases c2122q : (r2106q != false) = true
              · rw [if_pos c2122q] at H
                have hb_ : (r2106q != false) = true := c2122q
                try rw [hb_] at h2121q
                clear hb_
                refine wp_then h2121q rfl ?_
                refine wp_seq ?_
                refine WL.start ?_
                refine WL.block (c := 1) (m' := 1) h2121q rfl [(6, .bool false)] (by kernel_rfl) (fun a2123q h2124q => ?_)
                clear h2121q a2120q
                refine WL.done (by kernel_rfl) ?_
                refine wp_ret ?_
                have hS2125q : St b w0 W2108q R (M1895q :: Fs) := hS2115q.drop_
                have hS2126q : St b w0 W2108q R (Fs) := hS2125q.drop_
                obtain rfl := Option.some.inj H
                repeat (first | refine then_ret ?_ | refine inBlock_ret ?_ | refine inBlock_go ?_)
                refine body_ret (v := .bool false) h2124q (by kernel_rfl) (by kernel_rfl) ?_
                exact ⟨rfl, hS2126q⟩
              · rw [if_neg c2122q] at H
                have hb_ : (r2106q != false) = false := (Bool.eq_false_iff.2 c2122q)
                try rw [hb_] at h2121q
                clear hb_
                refine wp_else h2121q rfl ?_
                refine wp_skip ?_
                refine wp_seq ?_
                refine WL.start ?_
                refine WL.block (c := 1) (m' := 1) h2121q rfl [(67, .bool false)] (by kernel_rfl) (fun a2127q h2128q => ?_)
                clear h2121q a2120q
                refine WL.done (by kernel_rfl) ?_
                refine wp_else h2128q rfl ?_
                refine wp_skip ?_
                refine WL.start ?_
                refine WL.block (c := 2) (m' := 2) h2128q rfl [(31, .int .i64 (IntKind.i64.wrap (x1898q + 1))), (76, .int .i64 (IntKind.i64.wrap (x1898q + 1)))] (by kernel_rfl) (fun a2129q h2130q => ?_)
                clear h2128q a2127q
                refine WL.done (by kernel_rfl) ?_
                exact ⟨k1901q, by omega, r2107q, M2113q, x1892q, A1893q, c1894q, M1895q, x1897q, IntKind.i64.wrap (x1898q + 1), h2130q.keep ⟨rfl, rfl, rfl, rfl, rfl, rfl, rfl, rfl, trivial⟩, ⟨H⟩, ⟨by omega⟩, ⟨hS2115q⟩, ⟨hr2114q⟩, ⟨hr1896q⟩⟩
      · rw [if_neg c1905q] at H
        cases H
    · rw [if_neg c1904q] at H
      have hb_ : (decide (x1898q < (p2.length : Int))) = false := decide_eq_false c1904q
      try rw [hb_] at h1903q
      clear hb_
      refine wp_else h1903q rfl ?_
      refine wp_exit ?_
      refine wp_seq ?_
      refine wp_seq ?_
      refine WL.start ?_
      refine WL.block (c := 3) (m' := 3) h1903q rfl [(79, .int .i64 0), (78, .int .i64 (x1892q.length : Int)), (77, .slice A1893q x1892q.length c1894q)] (by kernel_rfl) (fun a2131q h2132q => ?_)
      clear h1903q a1902q
      refine WL.done (by kernel_rfl) ?_
      refine wp_block ?_
      refine wp_loop_ghost (fun kq_ a_ W_ => ∃ (x2138q : S44), ∃ (M2139q : Frag), ∃ (x2141q : Int), Hd a_ 123 [(0, .int .u8 p0), (1, .int .u8 p1), (7, v1872q), (77, .slice A1893q x1892q.length c1894q), (78, .int .i64 (x1892q.length : Int)), (79, .int .i64 x2141q)] ∧ Asd (louverlaw23qQueueAll.l1 kq_ x2138q x2141q p0 p1 x1892q = some r0q) ∧ Asd (kq_ ≤ k1901q) ∧ Asd (St b w0 W_ R (M2139q :: M1895q :: Fs)) ∧ Asd (Ptr k44 44 b w0 R v1872q x2138q M2139q)) k1901q ⟨x1889q, M1890q, 0, h2132q.keep ⟨rfl, rfl, rfl, rfl, rfl, rfl, trivial⟩, ⟨H⟩, ⟨Nat.le_refl _⟩, ⟨hS1887q⟩, ⟨hr1891q⟩⟩ ?_
      clear H hS1887q
      rintro k2137q a2134q W2135q ⟨x2138q, M2139q, x2141q, h2133q, ⟨H⟩, ⟨hkk2137q⟩, ⟨hS2136q⟩, ⟨hr2140q⟩⟩
      obtain _ | k2142q := k2137q
      · exact absurd H (by simp [louverlaw23qQueueAll.l1])
      simp only [louverlaw23qQueueAll.l1] at H
      refine wp_seq ?_
      refine WL.start ?_
      refine WL.block (c := 1) (m' := 1) h2133q rfl [(80, .bool (decide (x2141q < (x1892q.length : Int))))] (by kernel_rfl) (fun a2143q h2144q => ?_)
      clear h2133q a2134q
      refine WL.done (by kernel_rfl) ?_
      refine wp_seq ?_
      by_cases c2145q : x2141q < (x1892q.length : Int)
      · rw [if_pos c2145q] at H
        have hb_ : (decide (x2141q < (x1892q.length : Int))) = true := decide_eq_true c2145q
        try rw [hb_] at h2144q
        clear hb_
        refine wp_then h2144q rfl ?_
        refine wp_skip ?_
        refine wp_seq ?_
        refine wp_block ?_
        refine wp_seq ?_
        refine WL.start ?_
        by_cases c2146q : 0 ≤ x2141q
        · rw [if_pos c2146q] at H
          have hi2149q : 0 ≤ x2141q := by first | assumption | omega
          have hi2150q : x2141q < (x1892q.length : Int) := by first | assumption | omega
          obtain ⟨ad2147q, _, ha2148q, -, -⟩ := Rds.elemAny hr1896q.rds hi2149q (gt_get (z := []) hi2149q hi2150q)
          refine WL.op' (m := 0) h2144q rfl rfl ?_
          refine owp_run (v := .pointer (some (ad2147q.add (x2141q.toNat * 1)))) h2144q rfl (by kernel_rfl) (run_idx (ad := ad2147q) (sz := 1) rfl (by rw [← ha2148q]; rfl) rfl Try.underlying22 (by kernel_rfl) hi2149q hi2150q) (fun a2151q h2152q => ?_)
          clear h2144q a2143q
          have hS2153q : St b w0 W2135q R (M1895q :: M2139q :: Fs) := hS2136q.bring 1 rfl rfl
          obtain ⟨ad2154q, cs2155q, ha2156q, hr2158q, hc2157q⟩ := Rds.elemAny hr1896q.rds hi2149q (gt_get (z := []) hi2149q hi2150q)
          rw [ha2148q] at ha2156q; obtain rfl := Option.some.inj ha2156q
          obtain ⟨v2159q, rfl, hx2160q⟩ := hr2158q
          obtain ⟨A2161q, c2162q, rfl⟩ := hx2160q.form
          refine WL.op' (m := 1) h2152q rfl rfl ?_
          refine owp_run (v := .slice A2161q (gt [] x1892q x2141q).length c2162q) h2152q rfl (by kernel_rfl) (run_load1 rfl rfl Try.underlying26 rfl (cell0 (hc2157q _ (fun _ _ hk_ => (hS2153q).pool.kn hk_)))) (fun a2163q h2164q => ?_)
          clear h2152q a2151q
          refine WL.block (c := 1) (m' := 3) h2164q rfl [(14, .slice A2161q (gt [] x1892q x2141q).length c2162q)] (by kernel_rfl) (fun a2165q h2166q => ?_)
          clear h2164q a2163q
          refine WL.done (by kernel_rfl) ?_
          refine wp_seq ?_
          refine WL.start ?_
          refine WL.block (c := 1) (m' := 1) h2166q rfl [(84, v1872q)] (by kernel_rfl) (fun a2167q h2168q => ?_)
          clear h2166q a2165q
          have hS2169q : St b w0 W2135q R (M2139q :: M1895q :: Fs) := hS2153q.bring 1 rfl rfl
          obtain ⟨r2171q, r2172q, r2173q, A2170q, H⟩ := bind3 H
          refine WL.op' (m := 1) h2168q rfl rfl ?_
          refine owp_call [v1872q] h2168q rfl (by kernel_rfl) rfl Try.func10 (by kernel_rfl) rfl (by kernel_rfl) (queue_Queue_Pop.calls hr2140q A2170q hS2169q) (fun e2175q W2174q hp2176q => ?_)
          obtain ⟨v2179q, M2180q, M2182q, rfl, hr2181q, hr2183q, hS2184q⟩ := hp2176q
          refine ⟨_, rfl, fun a2177q h2178q => ?_⟩
          clear h2168q a2167q
          obtain ⟨A2185q, c2186q, rfl⟩ := hr2181q.form
          refine WL.block (c := 5) (m' := 7) h2178q rfl [(16, .bool r2172q), (15, .slice A2185q r2171q.length c2186q), (87, .bool r2172q), (86, .slice A2185q r2171q.length c2186q), (83, .tuple #[.slice A2185q r2171q.length c2186q, .bool r2172q])] (by kernel_rfl) (fun a2187q h2188q => ?_)
          clear h2178q a2177q
          refine WL.done (by kernel_rfl) ?_
          refine wp_seq ?_
          refine WL.start ?_
          refine WL.block (c := 3) (m' := 3) h2188q rfl [(90, .bool (!r2172q)), (89, .bool (!r2172q)), (88, .bool r2172q)] (by kernel_rfl) (fun a2189q h2190q => ?_)
          clear h2188q a2187q
          by_cases c2191q : r2172q = true
          · rw [if_pos c2191q] at H
            have hb_ : r2172q = true := c2191q
            try rw [hb_] at h2190q
            clear hb_
            refine WL.op' (m := 3) h2190q rfl rfl (owp_run h2190q rfl (by kernel_rfl) (v := .slice A2185q r2171q.length c2186q) (by kernel_rfl) (fun a2192q h2193q => ?_))
            clear h2190q a2189q
            refine WL.op' (m := 4) h2193q rfl rfl ?_
            refine owp_run (v := .string (mkS (toS r2171q))) h2193q rfl (by kernel_rfl) (run_tostr rfl rfl hr2181q.rds (fun _ _ hk_ => (hS2184q).pool.kn hk_) Try.underlying26 Try.underlying5 Try.underlying9) (fun a2194q h2195q => ?_)
            clear h2193q a2192q
            refine WL.op' (m := 5) h2195q rfl rfl (owp_run h2195q rfl (by kernel_rfl) (v := .slice A2161q (gt [] x1892q x2141q).length c2162q) (by kernel_rfl) (fun a2196q h2197q => ?_))
            clear h2195q a2194q
            have hS2198q : St b w0 W2174q R (M1895q :: M2180q :: M2182q :: Fs) := hS2184q.bring 2 rfl rfl
            refine WL.op' (m := 6) h2197q rfl rfl ?_
            refine owp_run (v := .string (mkS (toS (gt [] x1892q x2141q)))) h2197q rfl (by kernel_rfl) (run_tostr rfl rfl hx2160q (fun _ _ hk_ => (hS2198q).pool.kn hk_) Try.underlying26 Try.underlying5 Try.underlying9) (fun a2199q h2200q => ?_)
            clear h2197q a2196q
            refine WL.op' (m := 7) h2200q rfl rfl ?_
            refine owp_run (v := .bool (!decide ((toS r2171q) = (toS (gt [] x1892q x2141q))))) h2200q rfl (by kernel_rfl) (run_strne rfl rfl rfl) (fun a2201q h2202q => ?_)
            clear h2200q a2199q
            refine WL.block (c := 1) (m' := 9) h2202q rfl [(96, .bool (!decide ((toS r2171q) = (toS (gt [] x1892q x2141q)))))] (by kernel_rfl) (fun a2203q h2204q => ?_)
            clear h2202q a2201q
            refine WL.done (by kernel_rfl) ?_
            by_cases c2205q : (toS r2171q) = (toS (gt [] x1892q x2141q))
            · rw [if_pos c2205q] at H
              have hb_ : (decide ((toS r2171q) = (toS (gt [] x1892q x2141q)))) = true := decide_eq_true c2205q
              try rw [hb_] at h2204q
              clear hb_
              refine wp_else h2204q rfl ?_
              refine wp_skip ?_
              refine WL.start ?_
              refine WL.block (c := 2) (m' := 2) h2204q rfl [(79, .int .i64 (IntKind.i64.wrap (x2141q + 1))), (97, .int .i64 (IntKind.i64.wrap (x2141q + 1)))] (by kernel_rfl) (fun a2206q h2207q => ?_)
              clear h2204q a2203q
              refine WL.done (by kernel_rfl) ?_
              have hS2208q : St b w0 W2174q R (M2180q :: M1895q :: M2182q :: Fs) := hS2198q.bring 1 rfl rfl
              have hS2209q : St b w0 W2174q R (M1895q :: M2182q :: Fs) := hS2208q.drop_
              have hS2210q : St b w0 W2174q R (M2182q :: M1895q :: Fs) := hS2209q.bring 1 rfl rfl
              exact ⟨k2142q, by omega, r2173q, M2182q, IntKind.i64.wrap (x2141q + 1), h2207q.keep ⟨rfl, rfl, rfl, rfl, rfl, rfl, trivial⟩, ⟨H⟩, ⟨by omega⟩, ⟨hS2210q⟩, ⟨hr2183q⟩⟩
            · rw [if_neg c2205q] at H
              have hb_ : (decide ((toS r2171q) = (toS (gt [] x1892q x2141q)))) = false := decide_eq_false c2205q
              try rw [hb_] at h2204q
              clear hb_
              refine wp_then h2204q rfl ?_
              refine wp_seq ?_
              refine WL.start ?_
              refine WL.block (c := 1) (m' := 1) h2204q rfl [(6, .bool false)] (by kernel_rfl) (fun a2211q h2212q => ?_)
              clear h2204q a2203q
              refine WL.done (by kernel_rfl) ?_
              refine wp_ret ?_
              have hS2213q : St b w0 W2174q R (M2180q :: M2182q :: Fs) := hS2198q.drop_
              have hS2214q : St b w0 W2174q R (M2182q :: Fs) := hS2213q.drop_
              have hS2215q : St b w0 W2174q R (Fs) := hS2214q.drop_
              obtain rfl := Option.some.inj H
              repeat (first | refine then_ret ?_ | refine inBlock_ret ?_ | refine inBlock_go ?_)
              refine body_ret (v := .bool false) h2212q (by kernel_rfl) (by kernel_rfl) ?_
              exact ⟨rfl, hS2215q⟩
          · rw [if_neg c2191q] at H
            have hb_ : r2172q = false := (Bool.eq_false_iff.2 c2191q)
            try rw [hb_] at h2190q
            clear hb_
            refine WL.skipped (m := 3) h2190q rfl rfl (by kernel_rfl) rfl (fun a2216q h2217q => ?_)
            clear h2190q a2189q
            refine WL.skipped (m := 4) h2217q rfl rfl (by kernel_rfl) rfl (fun a2218q h2219q => ?_)
            clear h2217q a2216q
            refine WL.skipped (m := 5) h2219q rfl rfl (by kernel_rfl) rfl (fun a2220q h2221q => ?_)
            clear h2219q a2218q
            refine WL.skipped (m := 6) h2221q rfl rfl (by kernel_rfl) rfl (fun a2222q h2223q => ?_)
            clear h2221q a2220q
            refine WL.skipped (m := 7) h2223q rfl rfl (by kernel_rfl) rfl (fun a2224q h2225q => ?_)
            clear h2223q a2222q
            refine WL.block (c := 1) (m' := 9) h2225q rfl [(96, .bool true)] (by kernel_rfl) (fun a2226q h2227q => ?_)
            clear h2225q a2224q
            refine WL.done (by kernel_rfl) ?_
            refine wp_then h2227q rfl ?_
            refine wp_seq ?_
            refine WL.start ?_
            refine WL.block (c := 1) (m' := 1) h2227q rfl [(6, .bool false)] (by kernel_rfl) (fun a2228q h2229q => ?_)
            clear h2227q a2226q
            refine WL.done (by kernel_rfl) ?_
            refine wp_ret ?_
            have hS2230q : St b w0 W2174q R (M2182q :: M1895q :: Fs) := hS2184q.drop_
            have hS2231q : St b w0 W2174q R (M1895q :: Fs) := hS2230q.drop_
            have hS2232q : St b w0 W2174q R (Fs) := hS2231q.drop_
            obtain rfl := Option.some.inj H
            repeat (first | refine then_ret ?_ | refine inBlock_ret ?_ | refine inBlock_go ?_)
            refine body_ret (v := .bool false) h2229q (by kernel_rfl) (by kernel_rfl) ?_
            exact ⟨rfl, hS2232q⟩
        · rw [if_neg c2146q] at H
          cases H
      · rw [if_neg c2145q] at H
        have hb_ : (decide (x2141q < (x1892q.length : Int))) = false := decide_eq_false c2145q
        try rw [hb_] at h2144q
        clear hb_
        refine wp_else h2144q rfl ?_
        refine wp_exit ?_
        refine wp_seq ?_
        refine WL.start ?_
        refine WL.block (c := 1) (m' := 1) h2144q rfl [(99, v1872q)] (by kernel_rfl) (fun a2233q h2234q => ?_)
        clear h2144q a2143q
        obtain ⟨r2236q, r2237q, r2238q, A2235q, H⟩ := bind3 H
        refine WL.op' (m := 1) h2234q rfl rfl ?_
        refine owp_call [v1872q] h2234q rfl (by kernel_rfl) rfl Try.func10 (by kernel_rfl) rfl (by kernel_rfl) (queue_Queue_Pop.calls hr2140q A2235q hS2136q) (fun e2240q W2239q hp2241q => ?_)
        obtain ⟨v2244q, M2245q, M2247q, rfl, hr2246q, hr2248q, hS2249q⟩ := hp2241q
        refine ⟨_, rfl, fun a2242q h2243q => ?_⟩
        clear h2234q a2233q
        obtain ⟨A2250q, c2251q, rfl⟩ := hr2246q.form
        refine WL.block (c := 5) (m' := 7) h2243q rfl [(18, .bool r2237q), (17, .slice A2250q r2236q.length c2251q), (102, .bool r2237q), (101, .slice A2250q r2236q.length c2251q), (98, .tuple #[.slice A2250q r2236q.length c2251q, .bool r2237q])] (by kernel_rfl) (fun a2252q h2253q => ?_)
        clear h2243q a2242q
        refine WL.done (by kernel_rfl) ?_
        refine wp_seq ?_
        refine WL.start ?_
        obtain ⟨r2255q, A2254q, H⟩ := bind1 H
        refine WL.op' (m := 0) h2253q rfl rfl ?_
        refine owp_call [] h2253q rfl (by kernel_rfl) rfl Try.func6 (by kernel_rfl) rfl (by kernel_rfl) (louverlaw23qfixed.calls  A2254q hS2249q) (fun e2257q W2256q hp2258q => ?_)
        obtain ⟨rfl, hS2261q⟩ := hp2258q
        refine ⟨_, rfl, fun a2259q h2260q => ?_⟩
        clear h2253q a2252q
        refine WL.block (c := 1) (m' := 2) h2260q rfl [(104, .bool r2255q)] (by kernel_rfl) (fun a2262q h2263q => ?_)
        clear h2260q a2259q
        by_cases c2264q : r2255q = true
        · rw [if_pos c2264q] at H
          have hb_ : r2255q = true := c2264q
          try rw [hb_] at h2263q
          clear hb_
          refine WL.op' (m := 2) h2263q rfl rfl (owp_run h2263q rfl (by kernel_rfl) (v := .bool r2237q) (by kernel_rfl) (fun a2265q h2266q => ?_))
          clear h2263q a2262q
          refine WL.op' (m := 3) h2266q rfl rfl (owp_run h2266q rfl (by kernel_rfl) (v := .bool (!r2237q)) (by kernel_rfl) (fun a2267q h2268q => ?_))
          clear h2266q a2265q
          refine WL.block (c := 2) (m' := 6) h2268q rfl [(108, .bool (!r2237q)), (107, .bool (!r2237q))] (by kernel_rfl) (fun a2269q h2270q => ?_)
          clear h2268q a2267q
          by_cases c2271q : r2237q = true
          · rw [if_pos c2271q] at H
            have hb_ : r2237q = true := c2271q
            try rw [hb_] at h2270q
            clear hb_
            refine WL.skipped (m := 6) h2270q rfl rfl (by kernel_rfl) rfl (fun a2272q h2273q => ?_)
            clear h2270q a2269q
            refine WL.skipped (m := 7) h2273q rfl rfl (by kernel_rfl) rfl (fun a2274q h2275q => ?_)
            clear h2273q a2272q
            refine WL.skipped (m := 8) h2275q rfl rfl (by kernel_rfl) rfl (fun a2276q h2277q => ?_)
            clear h2275q a2274q
            refine WL.block (c := 2) (m' := 11) h2277q rfl [(113, .bool false), (112, .bool false)] (by kernel_rfl) (fun a2278q h2279q => ?_)
            clear h2277q a2276q
            refine WL.skipped (m := 11) h2279q rfl rfl (by kernel_rfl) rfl (fun a2280q h2281q => ?_)
            clear h2279q a2278q
            refine WL.skipped (m := 12) h2281q rfl rfl (by kernel_rfl) rfl (fun a2282q h2283q => ?_)
            clear h2281q a2280q
            refine WL.skipped (m := 13) h2283q rfl rfl (by kernel_rfl) rfl (fun a2284q h2285q => ?_)
            clear h2283q a2282q
            refine WL.skipped (m := 14) h2285q rfl rfl (by kernel_rfl) rfl (fun a2286q h2287q => ?_)
            clear h2285q a2284q
            refine WL.skipped (m := 15) h2287q rfl rfl (by kernel_rfl) rfl (fun a2288q h2289q => ?_)
            clear h2287q a2286q
            refine WL.skipped (m := 16) h2289q rfl rfl (by kernel_rfl) rfl (fun a2290q h2291q => ?_)
            clear h2289q a2288q
            refine WL.skipped (m := 17) h2291q rfl rfl (by kernel_rfl) rfl (fun a2292q h2293q => ?_)
            clear h2291q a2290q
            refine WL.skipped (m := 18) h2293q rfl rfl (by kernel_rfl) rfl (fun a2294q h2295q => ?_)
            clear h2293q a2292q
            refine WL.block (c := 2) (m' := 21) h2295q rfl [(6, .bool false), (122, .bool false)] (by kernel_rfl) (fun a2296q h2297q => ?_)
            clear h2295q a2294q
            refine WL.done (by kernel_rfl) ?_
            refine wp_ret ?_
            have hS2298q : St b w0 W2256q R (M2247q :: M1895q :: Fs) := hS2261q.drop_
            have hS2299q : St b w0 W2256q R (M1895q :: Fs) := hS2298q.drop_
            have hS2300q : St b w0 W2256q R (Fs) := hS2299q.drop_
            obtain rfl := Option.some.inj H
            repeat (first | refine then_ret ?_ | refine inBlock_ret ?_ | refine inBlock_go ?_)
            refine body_ret (v := .bool false) h2297q (by kernel_rfl) (by kernel_rfl) ?_
            exact ⟨rfl, hS2300q⟩
          · rw [if_neg c2271q] at H
            have hb_ : r2237q = false := (Bool.eq_false_iff.2 c2271q)
            try rw [hb_] at h2270q
            clear hb_
            refine WL.op' (m := 6) h2270q rfl rfl (owp_run h2270q rfl (by kernel_rfl) (v := v1872q) (by kernel_rfl) (fun a2301q h2302q => ?_))
            clear h2270q a2269q
            have hS2303q : St b w0 W2256q R (M2247q :: M2245q :: M1895q :: Fs) := hS2261q.bring 1 rfl rfl
            obtain ⟨r2305q, A2304q, H⟩ := bind1 H
            refine WL.op' (m := 7) h2302q rfl rfl ?_
            refine owp_call [v1872q] h2302q rfl (by kernel_rfl) rfl Try.func11 (by kernel_rfl) rfl (by kernel_rfl) (queue_Queue_Bytes.calls hr2248q A2304q hS2303q) (fun e2307q W2306q hp2308q => ?_)
            obtain ⟨M2311q, rfl, hr2312q, hS2313q⟩ := hp2308q
            refine ⟨_, rfl, fun a2309q h2310q => ?_⟩
            clear h2302q a2301q
            refine WL.op' (m := 8) h2310q rfl rfl (owp_run h2310q rfl (by kernel_rfl) (v := .bool (decide (r2305q = 0))) (by kernel_rfl) (fun a2314q h2315q => ?_))
            clear h2310q a2309q
            refine WL.block (c := 2) (m' := 11) h2315q rfl [(113, .bool (decide (r2305q = 0))), (112, .bool (decide (r2305q = 0)))] (by kernel_rfl) (fun a2316q h2317q => ?_)
            clear h2315q a2314q
            by_cases c2318q : r2305q = 0
            · rw [if_pos c2318q] at H
              have hb_ : (decide (r2305q = 0)) = true := decide_eq_true c2318q
              try rw [hb_] at h2317q
              clear hb_
              refine WL.op' (m := 11) h2317q rfl rfl (owp_run h2317q rfl (by kernel_rfl) (v := v1872q) (by kernel_rfl) (fun a2319q h2320q => ?_))
              clear h2317q a2316q
              refine WL.op' (m := 12) h2320q rfl rfl (owp_run h2320q rfl (by kernel_rfl) (v := .int .u8 p1) (by kernel_rfl) (fun a2321q h2322q => ?_))
              clear h2320q a2319q
              refine WL.op' (m := 13) h2322q rfl rfl (owp_run h2322q rfl (by kernel_rfl) (v := .int .i64 (IntKind.i64.wrap p1)) (by kernel_rfl) (fun a2323q h2324q => ?_))
              clear h2322q a2321q
              refine WL.op' (m := 14) h2324q rfl rfl (owp_run h2324q rfl (by kernel_rfl) (v := .int .i64 (IntKind.i64.wrap ((IntKind.i64.wrap p1) * 8))) (by kernel_rfl) (fun a2325q h2326q => ?_))
              clear h2324q a2323q
              obtain ⟨r2328q, A2327q, H⟩ := bind1 H
              refine WL.op' (m := 15) h2326q rfl rfl ?_
              refine owp_call [v1872q, .int .i64 (IntKind.i64.wrap ((IntKind.i64.wrap p1) * 8))] h2326q rfl (by kernel_rfl) rfl Try.func8 (by kernel_rfl) rfl (by kernel_rfl) (queue_Queue_Fits.calls hr2312q A2327q hS2313q) (fun e2330q W2329q hp2331q => ?_)
              obtain ⟨M2334q, rfl, hr2335q, hS2336q⟩ := hp2331q
              refine ⟨_, rfl, fun a2332q h2333q => ?_⟩
              clear h2326q a2325q
              refine WL.op' (m := 16) h2333q rfl rfl (owp_run h2333q rfl (by kernel_rfl) (v := .int .u8 p0) (by kernel_rfl) (fun a2337q h2338q => ?_))
              clear h2333q a2332q
              refine WL.op' (m := 17) h2338q rfl rfl (owp_run h2338q rfl (by kernel_rfl) (v := .bool (decide (p0 > 0))) (by kernel_rfl) (fun a2339q h2340q => ?_))
              clear h2338q a2337q
              refine WL.op' (m := 18) h2340q rfl rfl (owp_run h2340q rfl (by kernel_rfl) (v := .bool (r2328q == (decide (p0 > 0)))) (by kernel_rfl) (fun a2341q h2342q => ?_))
              clear h2340q a2339q
              refine WL.block (c := 2) (m' := 21) h2342q rfl [(6, .bool (r2328q == (decide (p0 > 0)))), (122, .bool (r2328q == (decide (p0 > 0))))] (by kernel_rfl) (fun a2343q h2344q => ?_)
              clear h2342q a2341q
              refine WL.done (by kernel_rfl) ?_
              refine wp_ret ?_
              have hS2345q : St b w0 W2329q R (M2245q :: M1895q :: Fs) := hS2336q.drop_
              have hS2346q : St b w0 W2329q R (M1895q :: Fs) := hS2345q.drop_
              have hS2347q : St b w0 W2329q R (Fs) := hS2346q.drop_
              obtain rfl := Option.some.inj H
              repeat (first | refine then_ret ?_ | refine inBlock_ret ?_ | refine inBlock_go ?_)
              refine body_ret (v := .bool (r2328q == (decide (p0 > 0)))) h2344q (by kernel_rfl) (by kernel_rfl) ?_
              exact ⟨rfl, hS2347q⟩
            · rw [if_neg c2318q] at H
              have hb_ : (decide (r2305q = 0)) = false := decide_eq_false c2318q
              try rw [hb_] at h2317q
              clear hb_
              refine WL.skipped (m := 11) h2317q rfl rfl (by kernel_rfl) rfl (fun a2348q h2349q => ?_)
              clear h2317q a2316q
              refine WL.skipped (m := 12) h2349q rfl rfl (by kernel_rfl) rfl (fun a2350q h2351q => ?_)
              clear h2349q a2348q
              refine WL.skipped (m := 13) h2351q rfl rfl (by kernel_rfl) rfl (fun a2352q h2353q => ?_)
              clear h2351q a2350q
              refine WL.skipped (m := 14) h2353q rfl rfl (by kernel_rfl) rfl (fun a2354q h2355q => ?_)
              clear h2353q a2352q
              refine WL.skipped (m := 15) h2355q rfl rfl (by kernel_rfl) rfl (fun a2356q h2357q => ?_)
              clear h2355q a2354q
              refine WL.skipped (m := 16) h2357q rfl rfl (by kernel_rfl) rfl (fun a2358q h2359q => ?_)
              clear h2357q a2356q
              refine WL.skipped (m := 17) h2359q rfl rfl (by kernel_rfl) rfl (fun a2360q h2361q => ?_)
              clear h2359q a2358q
              refine WL.skipped (m := 18) h2361q rfl rfl (by kernel_rfl) rfl (fun a2362q h2363q => ?_)
              clear h2361q a2360q
              refine WL.block (c := 2) (m' := 21) h2363q rfl [(6, .bool false), (122, .bool false)] (by kernel_rfl) (fun a2364q h2365q => ?_)
              clear h2363q a2362q
              refine WL.done (by kernel_rfl) ?_
              refine wp_ret ?_
              have hS2366q : St b w0 W2306q R (M2245q :: M1895q :: Fs) := hS2313q.drop_
              have hS2367q : St b w0 W2306q R (M1895q :: Fs) := hS2366q.drop_
              have hS2368q : St b w0 W2306q R (Fs) := hS2367q.drop_
              obtain rfl := Option.some.inj H
              repeat (first | refine then_ret ?_ | refine inBlock_ret ?_ | refine inBlock_go ?_)
              refine body_ret (v := .bool false) h2365q (by kernel_rfl) (by kernel_rfl) ?_
              exact ⟨rfl, hS2368q⟩
        · rw [if_neg c2264q] at H
          have hb_ : r2255q = false := (Bool.eq_false_iff.2 c2264q)
          try rw [hb_] at h2263q
          clear hb_
          refine WL.skipped (m := 2) h2263q rfl rfl (by kernel_rfl) rfl (fun a2369q h2370q => ?_)
          clear h2263q a2262q
          refine WL.skipped (m := 3) h2370q rfl rfl (by kernel_rfl) rfl (fun a2371q h2372q => ?_)
          clear h2370q a2369q
          refine WL.block (c := 2) (m' := 6) h2372q rfl [(108, .bool false), (107, .bool false)] (by kernel_rfl) (fun a2373q h2374q => ?_)
          clear h2372q a2371q
          refine WL.skipped (m := 6) h2374q rfl rfl (by kernel_rfl) rfl (fun a2375q h2376q => ?_)
          clear h2374q a2373q
          refine WL.skipped (m := 7) h2376q rfl rfl (by kernel_rfl) rfl (fun a2377q h2378q => ?_)
          clear h2376q a2375q
          refine WL.skipped (m := 8) h2378q rfl rfl (by kernel_rfl) rfl (fun a2379q h2380q => ?_)
          clear h2378q a2377q
          refine WL.block (c := 2) (m' := 11) h2380q rfl [(113, .bool false), (112, .bool false)] (by kernel_rfl) (fun a2381q h2382q => ?_)
          clear h2380q a2379q
          refine WL.skipped (m := 11) h2382q rfl rfl (by kernel_rfl) rfl (fun a2383q h2384q => ?_)
          clear h2382q a2381q
          refine WL.skipped (m := 12) h2384q rfl rfl (by kernel_rfl) rfl (fun a2385q h2386q => ?_)
          clear h2384q a2383q
          refine WL.skipped (m := 13) h2386q rfl rfl (by kernel_rfl) rfl (fun a2387q h2388q => ?_)
          clear h2386q a2385q
          refine WL.skipped (m := 14) h2388q rfl rfl (by kernel_rfl) rfl (fun a2389q h2390q => ?_)
          clear h2388q a2387q
          refine WL.skipped (m := 15) h2390q rfl rfl (by kernel_rfl) rfl (fun a2391q h2392q => ?_)
          clear h2390q a2389q
          refine WL.skipped (m := 16) h2392q rfl rfl (by kernel_rfl) rfl (fun a2393q h2394q => ?_)
          clear h2392q a2391q
          refine WL.skipped (m := 17) h2394q rfl rfl (by kernel_rfl) rfl (fun a2395q h2396q => ?_)
          clear h2394q a2393q
          refine WL.skipped (m := 18) h2396q rfl rfl (by kernel_rfl) rfl (fun a2397q h2398q => ?_)
          clear h2396q a2395q
          refine WL.block (c := 2) (m' := 21) h2398q rfl [(6, .bool false), (122, .bool false)] (by kernel_rfl) (fun a2399q h2400q => ?_)
          clear h2398q a2397q
          refine WL.done (by kernel_rfl) ?_
          refine wp_ret ?_
          have hS2401q : St b w0 W2256q R (M2247q :: M1895q :: Fs) := hS2261q.drop_
          have hS2402q : St b w0 W2256q R (M1895q :: Fs) := hS2401q.drop_
          have hS2403q : St b w0 W2256q R (Fs) := hS2402q.drop_
          obtain rfl := Option.some.inj H
          repeat (first | refine then_ret ?_ | refine inBlock_ret ?_ | refine inBlock_go ?_)
          refine body_ret (v := .bool false) h2400q (by kernel_rfl) (by kernel_rfl) ?_
          exact ⟨rfl, hS2403q⟩

structure S36 where
  f0 : (List (List UInt8))
  f1 : Int
  f2 : Int
  deriving DecidableEq
def z36 : S36 := ⟨[], (0 : Int), (0 : Int)⟩
def k36 : Kd S36 := kIso (kPair (kRow kStr 9) (kPair (kInt .i64) (kInt .i64))) (fun x : S36 => (x.f0, (x.f1, x.f2)))
theorem k36qind : k36.Ind := kIso_ind (kPair_ind (kRow_ind kStr_ind) (kPair_ind (kInt_ind _) (kInt_ind _)))
theorem k36qrd {b : Nat} {w0 : World} {R : Frag} {x : S36} {cs : List Value} (h : k36.rd b w0 R x cs) : ∃ (vf0 : Value), cs = [vf0, .int .i64 x.f1, .int .i64 x.f2] ∧ Rds kStr b w0 R vf0 x.f0 := by
  obtain ⟨c1q, c2q, rfl, h3q, h4q⟩ := h
  obtain ⟨c5q, c6q, rfl, h7q, h8q⟩ := h4q
  obtain ⟨v9q, rfl, g10q⟩ := h3q
  obtain rfl := h7q
  obtain rfl := h8q
  exact ⟨v9q, rfl, g10q⟩
theorem k36qrep {b : Nat} {w0 : World} {R : Frag} {x : S36} {cs : List Value} {M : Frag} (h : k36.rep b w0 R x cs M) : ∃ (vf0 : Value), ∃ (Mvf0 : Frag), cs = [vf0, .int .i64 x.f1, .int .i64 x.f2] ∧ M = Mvf0 ∧ Row kStr 9 b w0 R vf0 x.f0 Mvf0 := by
  obtain ⟨c11q, c12q, M15q, M16q, rfl, rfl, h13q, h14q⟩ := h
  obtain ⟨c17q, c18q, M21q, M22q, rfl, rfl, h19q, h20q⟩ := h14q
  obtain ⟨v23q, rfl, g24q⟩ := h13q
  obtain ⟨rfl, rfl⟩ := h19q
  obtain ⟨rfl, rfl⟩ := h20q
  exact ⟨v23q, _, rfl, by simp, g24q⟩
theorem k36qmk {b : Nat} {w0 : World} {R : Frag} {x : S36} {vf0 : Value} {Mvf0 : Frag} (gvf0 : Row kStr 9 b w0 R vf0 x.f0 Mvf0) : ∃ M, k36.rep b w0 R x [vf0, .int .i64 x.f1, .int .i64 x.f2] M ∧ M = Mvf0 := ⟨_, ⟨_, _, _, _, rfl, rfl, ⟨vf0, rfl, gvf0⟩, ⟨_, _, _, _, rfl, rfl, ⟨rfl, rfl⟩, ⟨rfl, rfl⟩⟩⟩, by simp⟩
/-! ### (louver/louverref23.Q).Size -/
def louverref23qQ_Size.l0 : Nat → Int → Int → S36 → Option (Int)
  | 0, _, _, _ => none
  | k + 1, x155q, x156q, p0 => if x156q < (p0.f0.length : Int) then (if 0 ≤ x156q then (louverref23qQ_Size.l0 k (IntKind.i64.wrap (x155q + ((gt [] p0.f0 x156q).length : Int))) (IntKind.i64.wrap (x156q + 1)) p0) else (none)) else (some x155q)
def louverref23qQ_Size.f (k : Nat) (p0 : S36) : Option (Int) := louverref23qQ_Size.l0 k 0 0 p0
set_option maxHeartbeats 2000000 in
set_option maxRecDepth 100000 in
theorem louverref23qQ_Size.calls (k : Nat) {b : Nat} {w0 W : World} {R : Frag} {Fs : List Frag} {p0 : S36} {v0q0 : Value} {r0q : Int} (hp0q0 : Rds kStr b w0 R v0q0 p0.f0) (H : louverref23qQ_Size.f k p0 = some r0q) (hS : St b w0 W R (Fs)) :
    Calls Try.prog 16 ([.agg #[v0q0, .int .i64 p0.f1, .int .i64 p0.f2]] : List Value).toArray W (fun e W' => e = .returned (.int .i64 r0q) ∧ St b w0 W' R (Fs)) := by
  obtain ⟨A0q0, c0q0, rfl⟩ := hp0q0.form
  unfold louverref23qQ_Size.f at H
  refine calls_enter Try.func16 rfl 21 rfl (by kernel_rfl) (fun a h => ?_)
  refine wp_seq ?_
  refine WL.start ?_
  refine WL.op' (m := 0) h rfl rfl ?_
  refine owp_new (fun g_ => .pointer (some ⟨g_, 0, none⟩)) (.cells ([.slice A0q0 p0.f0.length c0q0, .int .i64 p0.f1, .int .i64 p0.f2] : List Value).toArray 36 (0, 0)) h rfl (by kernel_rfl) (by kernel_rfl) hS (fun a135q W137q g138q h136q hS139q => ?_)
  refine WL.block (c := 1) (m' := 2) h136q rfl [(2, .int .i64 0)] (by kernel_rfl) (fun a140q h141q => ?_)
  clear h136q a135q
  refine WL.done (by kernel_rfl) ?_
  refine wp_seq ?_
  refine WL.start ?_
  refine WL.block (c := 1) (m' := 1) h141q rfl [(3, .int .i64 0)] (by kernel_rfl) (fun a142q h143q => ?_)
  clear h141q a140q
  refine WL.done (by kernel_rfl) ?_
  refine wp_seq ?_
  refine wp_seq ?_
  refine WL.start ?_
  refine WL.block (c := 1) (m' := 1) h143q rfl [(5, .pointer (some ⟨g138q, 0, none⟩))] (by kernel_rfl) (fun a144q h145q => ?_)
  clear h143q a142q
  refine WL.op' (m := 1) h145q rfl rfl ?_
  refine owp_run (v := .slice A0q0 p0.f0.length c0q0) h145q rfl (by kernel_rfl) (run_load1 rfl rfl Try.underlying34 rfl (hS139q.cell (i := 0) rfl)) (fun a146q h147q => ?_)
  clear h145q a144q
  refine WL.block (c := 2) (m' := 4) h147q rfl [(8, .int .i64 0), (7, .int .i64 (p0.f0.length : Int))] (by kernel_rfl) (fun a148q h149q => ?_)
  clear h147q a146q
  refine WL.done (by kernel_rfl) ?_
  refine wp_block ?_
  refine wp_loop_ghost (fun kq_ a_ W_ => ∃ (x155q : Int), ∃ (x156q : Int), Hd a_ 21 [(1, .pointer (some ⟨g138q, 0, none⟩)), (3, .int .i64 x155q), (7, .int .i64 (p0.f0.length : Int)), (8, .int .i64 x156q)] ∧ Asd (louverref23qQ_Size.l0 kq_ x155q x156q p0 = some r0q) ∧ Asd (kq_ ≤ k) ∧ Asd (St b w0 W_ R ([(g138q, .cells ([.slice A0q0 p0.f0.length c0q0, .int .i64 p0.f1, .int .i64 p0.f2] : List Value).toArray 36 (0, 0))] :: Fs))) k ⟨0, 0, h149q.keep ⟨rfl, rfl, rfl, rfl, trivial⟩, ⟨H⟩, ⟨Nat.le_refl _⟩, ⟨hS139q⟩⟩ ?_
  clear H hS139q
  rintro k154q a151q W152q ⟨x155q, x156q, h150q, ⟨H⟩, ⟨hkk154q⟩, ⟨hS153q⟩⟩
  obtain _ | k157q := k154q
  · exact absurd H (by simp [louverref23qQ_Size.l0])
  simp only [louverref23qQ_Size.l0] at H
  refine wp_seq ?_
  refine WL.start ?_
  refine WL.block (c := 1) (m' := 1) h150q rfl [(9, .bool (decide (x156q < (p0.f0.length : Int))))] (by kernel_rfl) (fun a158q h159q => ?_)
  clear h150q a151q
  refine WL.done (by kernel_rfl) ?_
  refine wp_seq ?_
  by_cases c160q : x156q < (p0.f0.length : Int)
  · rw [if_pos c160q] at H
    have hb_ : (decide (x156q < (p0.f0.length : Int))) = true := decide_eq_true c160q
    try rw [hb_] at h159q
    clear hb_
    refine wp_then h159q rfl ?_
    refine wp_skip ?_
    refine wp_seq ?_
    refine wp_block ?_
    refine wp_seq ?_
    refine WL.start ?_
    refine WL.block (c := 2) (m' := 2) h159q rfl [(4, .int .i64 x156q), (10, .int .i64 x156q)] (by kernel_rfl) (fun a161q h162q => ?_)
    clear h159q a158q
    refine WL.done (by kernel_rfl) ?_
    refine WL.start ?_
    refine WL.block (c := 2) (m' := 2) h162q rfl [(12, .pointer (some ⟨g138q, 0, none⟩)), (11, .int .i64 x155q)] (by kernel_rfl) (fun a163q h164q => ?_)
    clear h162q a161q
    refine WL.op' (m := 2) h164q rfl rfl ?_
    refine owp_run (v := .slice A0q0 p0.f0.length c0q0) h164q rfl (by kernel_rfl) (run_load1 rfl rfl Try.underlying34 rfl (hS153q.cell (i := 0) rfl)) (fun a165q h166q => ?_)
    clear h164q a163q
    refine WL.block (c := 1) (m' := 4) h166q rfl [(14, .int .i64 x156q)] (by kernel_rfl) (fun a167q h168q => ?_)
    clear h166q a165q
    by_cases c169q : 0 ≤ x156q
    · rw [if_pos c169q] at H
      have hi172q : 0 ≤ x156q := by first | assumption | omega
      have hi173q : x156q < (p0.f0.length : Int) := by first | assumption | omega
      obtain ⟨ad170q, _, ha171q, -, -⟩ := Rds.elemAny hp0q0 hi172q (gt_get (z := []) hi172q hi173q)
      refine WL.op' (m := 4) h168q rfl rfl ?_
      refine owp_run (v := .pointer (some (ad170q.add (x156q.toNat * 1)))) h168q rfl (by kernel_rfl) (run_idx (ad := ad170q) (sz := 1) rfl (by rw [← ha171q]; rfl) rfl Try.underlying34 (by kernel_rfl) hi172q hi173q) (fun a174q h175q => ?_)
      clear h168q a167q
      obtain ⟨ad176q, cs177q, ha178q, hr180q, hc179q⟩ := Rds.elemAny hp0q0 hi172q (gt_get (z := []) hi172q hi173q)
      rw [ha171q] at ha178q; obtain rfl := Option.some.inj ha178q
      obtain rfl : cs177q = [.string (mkS (gt [] p0.f0 x156q))] := hr180q
      refine WL.op' (m := 5) h175q rfl rfl ?_
      refine owp_run (v := .string (mkS (gt [] p0.f0 x156q))) h175q rfl (by kernel_rfl) (run_load1 rfl rfl Try.underlying9 rfl (cell0 (hc179q _ (fun _ _ hk_ => hS153q.kn hk_)))) (fun a181q h182q => ?_)
      clear h175q a174q
      refine WL.block (c := 3) (m' := 9) h182q rfl [(3, .int .i64 (IntKind.i64.wrap (x155q + ((gt [] p0.f0 x156q).length : Int)))), (18, .int .i64 (IntKind.i64.wrap (x155q + ((gt [] p0.f0 x156q).length : Int)))), (17, .int .i64 ((gt [] p0.f0 x156q).length : Int))] (by kernel_rfl) (fun a183q h184q => ?_)
      clear h182q a181q
      refine WL.done (by kernel_rfl) ?_
      refine WL.start ?_
      refine WL.block (c := 2) (m' := 2) h184q rfl [(8, .int .i64 (IntKind.i64.wrap (x156q + 1))), (19, .int .i64 (IntKind.i64.wrap (x156q + 1)))] (by kernel_rfl) (fun a185q h186q => ?_)
      clear h184q a183q
      refine WL.done (by kernel_rfl) ?_
      exact ⟨k157q, by omega, IntKind.i64.wrap (x155q + ((gt [] p0.f0 x156q).length : Int)), IntKind.i64.wrap (x156q + 1), h186q.keep ⟨rfl, rfl, rfl, rfl, trivial⟩, ⟨H⟩, ⟨by omega⟩, ⟨hS153q⟩⟩
    · rw [if_neg c169q] at H
      cases H
  · rw [if_neg c160q] at H
    have hb_ : (decide (x156q < (p0.f0.length : Int))) = false := decide_eq_false c160q
    try rw [hb_] at h159q
    clear hb_
    refine wp_else h159q rfl ?_
    refine wp_exit ?_
    refine wp_seq ?_
    refine WL.start ?_
    refine WL.block (c := 2) (m' := 2) h159q rfl [(2, .int .i64 x155q), (20, .int .i64 x155q)] (by kernel_rfl) (fun a187q h188q => ?_)
    clear h159q a158q
    refine WL.done (by kernel_rfl) ?_
    refine wp_ret ?_
    have hS189q : St b w0 W152q R (Fs) := hS153q.drop_
    obtain rfl := Option.some.inj H
    repeat (first | refine then_ret ?_ | refine inBlock_ret ?_ | refine inBlock_go ?_)
    refine body_ret (v := .int .i64 x155q) h188q (by kernel_rfl) (by kernel_rfl) ?_
    exact ⟨rfl, hS189q⟩
end Go.Proofs.Ytfpeagbbbgeeeaa.Sl
