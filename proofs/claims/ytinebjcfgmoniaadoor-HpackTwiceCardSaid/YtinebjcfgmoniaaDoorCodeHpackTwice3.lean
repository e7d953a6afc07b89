/- What the functions of this program compute, told as plain functions, and that the calls come to just that. Printed by this session's program; part 3. -/
import Derived.Test.YtinebjcfgmoniaaDoorCodeHpackTwice2
set_option linter.unusedVariables false
set_option linter.unusedSimpArgs false
set_option linter.unnecessarySimpa false
namespace Go.Proofs.YtinebjcfgmoniaaDoor.Sl
open Go Go.RowKit Go.Proofs.Sl
/-! ### louver/louverlaw06.HpackTwice -/
def louverlaw06qHpackTwice.l0 : Nat → (List S52) → Int → (List S52) → Option (Bool)
 | 0, _, _, _ => none
 | k + 1, x1hs, x1hx, p0 => if x1hx < (p0.length : Int) then (if 0 ≤ x1hx then (if (IntKind.i64.wrap ((((gt z52 p0 x1hx).f0).length : Int) + (((gt z52 p0 x1hx).f1).length : Int))) > 100 then (bnd1 (louverlaw06qfixed.f k) fun r1j2 => (some r1j2)) else (if x1hs.length + 1 ≤ 3518437208883 then (lt1 (x1hs ++ ([(⟨(gt z52 p0 x1hx).f0, (gt z52 p0 x1hx).f1, false⟩ : S52)] : List S52) : List S52) fun y1k3 => (louverlaw06qHpackTwice.l0 k y1k3 (IntKind.i64.wrap (x1hx + 1)) p0)) else (none))) else (none)) else (bnd1 (hpack_NewEncoder.f 4096) fun r1kf => (bnd1 (hpack_NewDecoder.f 4096) fun r1kr => (bnd2 (hpack_Encoder_Put.f k r1kf x1hs) fun r1l9 r1la => (bnd2 (hpack_Encoder_Put.f k r1la x1hs) fun r1lu r1lv => (bnd3 (hpack_Decoder_Get.f k r1kr r1l9) fun r1mh r1mi r1mj => (bnd3 (hpack_Decoder_Get.f k r1mj r1lu) fun r1ng r1nh r1ni => (bnd1 (louverlaw06qfixed.f k) fun r1ob => (if r1ob = true then (if (r1lu.length : Int) ≤ (IntKind.i64.wrap (2 * (x1hs.length : Int))) then (if (decide (r1mi.f0 = 0) && decide (r1mi.f1 = 0)) = true then (if (decide (r1nh.f0 = 0) && decide (r1nh.f1 = 0)) = true then (bnd1 (louverref06qSame.f k r1mh x1hs) fun r1pr => (if r1pr = true then (bnd1 (louverref06qSame.f k r1ng x1hs) fun r1q9 => (some r1q9)) else (some false))) else (some false)) else (some false)) else (some false)) else (some false)))))))))
def louverlaw06qHpackTwice.f (k : Nat) (p0 : (List S52)) : Option (Bool) := if (p0.length : Int) > 20 then (bnd1 (louverlaw06qfixed.f k) fun r1ha => (some r1ha)) else (louverlaw06qHpackTwice.l0 k ([] : List S52) 0 p0)
set_option maxHeartbeats 20000000 in
set_option maxRecDepth 100000 in
theorem louverlaw06qHpackTwice.calls (k : Nat) {b : Nat} {w0 W : World} {R : Frag} {Fs : List Frag} {p0 : (List S52)} {v0 : Value} {r0q : Bool} (hp0 : Rds k52 b w0 R v0 p0) (hg0 : Rds k52 b w0 [] (.slice (some ⟨0, 0, none⟩) 61 61) G0) (hg1 : Rds (kInt .u8) b w0 [] (.slice (some ⟨1, 0, none⟩) 257 257) G1) (H : louverlaw06qHpackTwice.f k p0 = some r0q) (hS : St b w0 W R (Fs)) :
  Calls Tryd.prog 6 ([v0] : List Value).toArray W (fun e W' => e = .returned (.bool r0q) ∧ St b w0 W' R (Fs)) := by
 obtain ⟨A0, c0, rfl⟩ := hp0.form
 unfold louverlaw06qHpackTwice.f at H
 refine calls_enter Tryd.func6 rfl 88 rfl (by kernel_rfl) (fun a h => ?_)
 refine wp_seq ?_
 refine WL.start ?_
 refine WL.bl 1 1 h [(2, .bool false)] (fun a1h4 h1h5 => ?_)
 refine WL.dn ?_
 refine wp_seq ?_
 refine wp_seq ?_
 refine WL.start ?_
 refine WL.bl 3 3 h1h5 [(16, .bool (decide ((p0.length : Int) > 20))), (15, i6 (p0.length : Int)), (14, .slice A0 p0.length c0)] (fun a1h6 h1h7 => ?_)
 refine WL.dn ?_
 clear h1h5 a1h4
 by_cases c1h8 : (p0.length : Int) > 20
 ·rw [if_pos c1h8] at H
  have hb_ : (decide ((p0.length : Int) > 20)) = true := decide_eq_true c1h8
  try rw [hb_] at h1h7
  clear hb_
  refine wp_then h1h7 rfl ?_
  refine wp_seq ?_
  refine WL.start ?_
  obtain ⟨r1ha, A1h9, H⟩ := bind1 H
  refine WL.oq h1h7 rfl ?_
  refine owp_call [] h1h7 rfl (by kernel_rfl) rfl Tryd.func10 (by kernel_rfl) rfl (by kernel_rfl) (louverlaw06qfixed.calls k hg0 hg1 A1h9 hS) (fun e1hc W1hb hp1hd => ?_)
  obtain ⟨rfl, hS1hg⟩ := hp1hd
  refine ⟨_, rfl, fun a1he h1hf => ?_⟩
  refine WL.bl 1 2 h1hf [(2, .bool r1ha)] (fun a1hh h1hi => ?_)
  refine WL.dn ?_
  refine wp_ret ?_
  obtain rfl := Option.some.inj H
  repeat (first | with_reducible refine t1 ?_ | with_reducible refine t2 ?_ | with_reducible refine t3 ?_)
  refine bret (.bool r1ha) h1hi ?_
  exact ⟨rfl, hS1hg⟩
 ·rw [if_neg c1h8] at H
  have hb_ : (decide ((p0.length : Int) > 20)) = false := decide_eq_false c1h8
  try rw [hb_] at h1h7
  clear hb_
  refine wp_else h1h7 rfl ?_
  refine wp_skip ?_
  refine wp_seq ?_
  refine WL.start ?_
  refine WL.bl 1 1 h1h7 [(3, .slice none 0 0)] (fun a1hj h1hk => ?_)
  refine WL.dn ?_
  refine wp_seq ?_
  refine wp_seq ?_
  refine WL.start ?_
  refine WL.bl 3 3 h1hk [(20, i6 0), (19, i6 (p0.length : Int)), (18, .slice A0 p0.length c0)] (fun a1hl h1hm => ?_)
  refine WL.dn ?_
  refine wp_block ?_
  have hS1hy := hS.nil_
  clear h1h7 a1h6 h1hk a1hj
  refine wp_loop_ghost (fun kq_ a_ W_ => ∃ (x1hs : (List S52)), ∃ (A1ht : Option Addr), ∃ (c1hu : Nat), ∃ (M1hv : Frag), ∃ (x1hx : Int), Hd a_ 88 [(3, .slice A1ht x1hs.length c1hu), (18, .slice A0 p0.length c0), (19, i6 (p0.length : Int)), (20, i6 x1hx)] ∧ Asd (louverlaw06qHpackTwice.l0 kq_ x1hs x1hx p0 = some r0q) ∧ Asd (kq_ ≤ k) ∧ Asd (St b w0 W_ R (M1hv :: Fs)) ∧ Asd (Row k52 52 b w0 R (.slice A1ht x1hs.length c1hu) x1hs M1hv)) k ⟨([] : List S52), none, 0, ([] : Frag), 0, h1hm.keep ⟨rfl, rfl, rfl, rfl, trivial⟩, ⟨H⟩, ⟨Nat.le_refl _⟩, ⟨hS1hy⟩, ⟨Row.nil⟩⟩ ?_
  clear H hS1hy
  rintro kk1hr a1ho W1hp ⟨x1hs, A1ht, c1hu, M1hv, x1hx, h1hn, ⟨H⟩, ⟨hkkk1hr⟩, ⟨hS1hq⟩, ⟨hr1hw⟩⟩
  obtain _ | kk1hz := kk1hr
  ·exact absurd H (by simp [louverlaw06qHpackTwice.l0])
  simp only [louverlaw06qHpackTwice.l0] at H
  refine wp_seq ?_
  refine WL.start ?_
  refine WL.bl 1 1 h1hn [(21, .bool (decide (x1hx < (p0.length : Int))))] (fun a1i0 h1i1 => ?_)
  refine WL.dn ?_
  refine wp_seq ?_
  clear h1hn a1ho
  by_cases c1i2 : x1hx < (p0.length : Int)
  ·rw [if_pos c1i2] at H
   have hb_ : (decide (x1hx < (p0.length : Int))) = true := decide_eq_true c1i2
   try rw [hb_] at h1i1
   clear hb_
   refine wp_then h1i1 rfl ?_
   refine wp_skip ?_
   refine wp_seq ?_
   refine wp_block ?_
   refine wp_seq ?_
   refine WL.start ?_
   by_cases c1i3 : 0 ≤ x1hx
   ·rw [if_pos c1i3] at H
    have hi1i6 : 0 ≤ x1hx := by first | assumption | omega
    have hi1i7 : x1hx < (p0.length : Int) := by first | assumption | omega
    obtain ⟨ad1i4, _, ha1i5, -, -⟩ := Rds.elemAny hp0 hi1i6 (gt_get (z := z52) hi1i6 hi1i7)
    refine WL.oq h1i1 rfl ?_
    refine owp_rn (.pointer (some (ad1i4.add (x1hx.toNat * 3)))) h1i1 rfl (run_idx (ad := ad1i4) (sz := 3) rfl (by rw [← ha1i5]; rfl) rfl Tryd.underlying23 (by kernel_rfl) hi1i6 hi1i7) (fun a1i8 h1i9 => ?_)
    obtain ⟨ad1ia, cs1ib, ha1ic, hr1ie, hc1id⟩ := Rds.elemAny hp0 hi1i6 (gt_get (z := z52) hi1i6 hi1i7)
    rw [ha1i5] at ha1ic; obtain rfl := Option.some.inj ha1ic
    obtain rfl := k52qrd hr1ie
    refine WL.oq h1i9 rfl ?_
    refine owp_rn (.agg #[.string (mkS ((gt z52 p0 x1hx).f0)), .string (mkS ((gt z52 p0 x1hx).f1)), .bool ((gt z52 p0 x1hx).f2)]) h1i9 rfl (run_loadN rfl rfl Tryd.underlying52 rfl (cs := [.string (mkS ((gt z52 p0 x1hx).f0)), .string (mkS ((gt z52 p0 x1hx).f1)), .bool ((gt z52 p0 x1hx).f2)]) (by kernel_rfl) (hc1id _ (fun _ _ hk_ => hS1hq.kn hk_))) (fun a1if h1ig => ?_)
    refine WL.oq h1ig rfl ?_
    refine owp_nw (fun g_ => (pt g_)) (.cells ([.string (mkS []), .string (mkS []), .bool false] : List Value).toArray 52 (0, 0)) h1ig rfl hS1hq (fun a1ih W1ij g1ik h1ii hS1il => ?_)
    refine WL.oq h1ii rfl ?_
    refine owp_st 0 [.string (mkS ((gt z52 p0 x1hx).f0)), .string (mkS ((gt z52 p0 x1hx).f1)), .bool ((gt z52 p0 x1hx).f2)] h1ii rfl rfl rfl hS1il [.string (mkS ((gt z52 p0 x1hx).f0)), .string (mkS ((gt z52 p0 x1hx).f1)), .bool ((gt z52 p0 x1hx).f2)] (fun a1im W1io h1in hS1ip => ?_)
    refine WL.dn ?_
    refine wp_seq ?_
    refine wp_seq ?_
    refine WL.start ?_
    refine WL.bl 1 1 h1in [(24, pt g1ik)] (fun a1iq h1ir => ?_)
    refine WL.oq h1ir rfl ?_
    refine owp_rn (.string (mkS ((gt z52 p0 x1hx).f0))) h1ir rfl (run_load1 rfl rfl Tryd.underlying9 rfl (hS1ip.cell (i := 0) rfl)) (fun a1is h1it => ?_)
    refine WL.bl 2 4 h1it [(27, .pointer (some ⟨g1ik, 1, none⟩)), (26, i6 (((gt z52 p0 x1hx).f0).length : Int))] (fun a1iu h1iv => ?_)
    refine WL.oq h1iv rfl ?_
    refine owp_rn (.string (mkS ((gt z52 p0 x1hx).f1))) h1iv rfl (run_load1 rfl rfl Tryd.underlying9 rfl (hS1ip.cell (i := 1) rfl)) (fun a1iw h1ix => ?_)
    refine WL.bl 3 8 h1ix [(31, .bool (decide ((IntKind.i64.wrap ((((gt z52 p0 x1hx).f0).length : Int) + (((gt z52 p0 x1hx).f1).length : Int))) > 100))), (30, i6 (IntKind.i64.wrap ((((gt z52 p0 x1hx).f0).length : Int) + (((gt z52 p0 x1hx).f1).length : Int)))), (29, i6 (((gt z52 p0 x1hx).f1).length : Int))] (fun a1iy h1iz => ?_)
    refine WL.dn ?_
    clear h1i1 a1i0 h1i9 a1i8 h1ig a1if h1ii a1ih h1in a1im h1ir a1iq h1it a1is h1iv a1iu h1ix a1iw
    by_cases c1j0 : (IntKind.i64.wrap ((((gt z52 p0 x1hx).f0).length : Int) + (((gt z52 p0 x1hx).f1).length : Int))) > 100
    ·rw [if_pos c1j0] at H
     have hb_ : (decide ((IntKind.i64.wrap ((((gt z52 p0 x1hx).f0).length : Int) + (((gt z52 p0 x1hx).f1).length : Int))) > 100)) = true := decide_eq_true c1j0
     try rw [hb_] at h1iz
     clear hb_
     refine wp_then h1iz rfl ?_
     refine wp_seq ?_
     refine WL.start ?_
     obtain ⟨r1j2, A1j1, H⟩ := bind1 H
     refine WL.oq h1iz rfl ?_
     refine owp_call [] h1iz rfl (by kernel_rfl) rfl Tryd.func10 (by kernel_rfl) rfl (by kernel_rfl) (louverlaw06qfixed.calls kk1hz hg0 hg1 A1j1 hS1ip) (fun e1j4 W1j3 hp1j5 => ?_)
     obtain ⟨rfl, hS1j8⟩ := hp1j5
     refine ⟨_, rfl, fun a1j6 h1j7 => ?_⟩
     refine WL.bl 1 2 h1j7 [(2, .bool r1j2)] (fun a1j9 h1ja => ?_)
     refine WL.dn ?_
     refine wp_ret ?_
     have hS1jb := hS1j8.drop_
     have hS1jc := hS1jb.drop_
     obtain rfl := Option.some.inj H
     repeat (first | with_reducible refine t1 ?_ | with_reducible refine t2 ?_ | with_reducible refine t3 ?_)
     refine bret (.bool r1j2) h1ja ?_
     exact ⟨rfl, hS1jc⟩
    ·rw [if_neg c1j0] at H
     have hb_ : (decide ((IntKind.i64.wrap ((((gt z52 p0 x1hx).f0).length : Int) + (((gt z52 p0 x1hx).f1).length : Int))) > 100)) = false := decide_eq_false c1j0
     try rw [hb_] at h1iz
     clear hb_
     refine wp_else h1iz rfl ?_
     refine wp_skip ?_
     refine wp_seq ?_
     refine WL.start ?_
     refine WL.bl 1 1 h1iz [(33, .pointer (some ⟨g1ik, 2, none⟩))] (fun a1jd h1je => ?_)
     refine WL.oq h1je rfl ?_
     refine owp_st 2 [.bool false] h1je rfl rfl rfl hS1ip [.string (mkS ((gt z52 p0 x1hx).f0)), .string (mkS ((gt z52 p0 x1hx).f1)), .bool false] (fun a1jf W1jh h1jg hS1ji => ?_)
     refine WL.dn ?_
     refine WL.start ?_
     refine WL.bl 1 1 h1jg [(34, .slice A1ht x1hs.length c1hu)] (fun a1jj h1jk => ?_)
     refine WL.oq h1jk rfl ?_
     refine owp_rn (.agg #[.string (mkS ((gt z52 p0 x1hx).f0)), .string (mkS ((gt z52 p0 x1hx).f1)), .bool false]) h1jk rfl (run_loadN rfl rfl Tryd.underlying52 rfl (cs := [.string (mkS ((gt z52 p0 x1hx).f0)), .string (mkS ((gt z52 p0 x1hx).f1)), .bool false]) (by kernel_rfl) (hS1ji.cells (vs := [.string (mkS ((gt z52 p0 x1hx).f0)), .string (mkS ((gt z52 p0 x1hx).f1)), .bool false]) rfl)) (fun a1jl h1jm => ?_)
     obtain ⟨_, hrep_, hMe_⟩ := k52qmk (b := b) (w0 := w0) (R := R) (x := (⟨(gt z52 p0 x1hx).f0, (gt z52 p0 x1hx).f1, false⟩ : S52)) 
     subst hMe_
     have hq1jn := hrep_; clear hrep_
     refine WL.oq h1jm rfl ?_
     refine owp_nw (fun g_ => .slice (some ⟨g_, 0, none⟩) 1 1) (.cells ([.string (mkS ((gt z52 p0 x1hx).f0)), .string (mkS ((gt z52 p0 x1hx).f1)), .bool false] : List Value).toArray 52 (0, 0)) h1jm rfl hS1ji (fun a1jo W1jq g1jr h1jp hS1js => ?_)
     have hr1jt : Row k52 52 b w0 R (.slice (some ⟨g1jr, 0, none⟩) 1 1) ([(⟨(gt z52 p0 x1hx).f0, (gt z52 p0 x1hx).f1, false⟩ : S52)] : List S52) (bx g1jr 52 [.string (mkS ((gt z52 p0 x1hx).f0)), .string (mkS ((gt z52 p0 x1hx).f1)), .bool false]) := Row.lit (xs := ([(⟨(gt z52 p0 x1hx).f0, (gt z52 p0 x1hx).f1, false⟩ : S52)] : List S52)) (Mi := []) ⟨_, _, [], _, rfl, rfl, hq1jn, ⟨rfl, rfl⟩⟩ (by simp [maxLen])
     clear h1iz a1iy h1je a1jd h1jg a1jf h1jk a1jj h1jm a1jl
     by_cases c1ju : x1hs.length + 1 ≤ 3518437208883
     ·rw [if_pos c1ju] at H
      have hS1jv := hS1js.b2
      refine WL.oq h1jp rfl ?_
      refine owp_app_take (z := .agg #[.string (mkS []), .string (mkS []), .bool false]) (bytes := 40) (dk := k52) h1jp rfl (by kernel_rfl) rfl rfl rfl hr1hw hr1jt hS1jv Tryd.underlying23 (by kernel_rfl) rfl (by decide) (by decide) (by first | omega | (simp only [List.length_cons, List.length_nil] at *; omega)) (fun a1jw W1jy v1jz M1k0 h1jx hr1k1 hS1k2 => ?_)
      obtain ⟨y1k3, hy1k4, H⟩ := lete H
      have hr1k5 : Row k52 52 b w0 R v1jz y1k3 M1k0 := by rw [hy1k4]; exact hr1k1
      clear hr1k1
      obtain ⟨A1k6, c1k7, rfl⟩ := hr1k5.form
      refine WL.bl 1 5 h1jx [(3, .slice A1k6 y1k3.length c1k7)] (fun a1k8 h1k9 => ?_)
      refine WL.dn ?_
      refine WL.start ?_
      refine WL.bl 2 2 h1k9 [(20, i6 (IntKind.i64.wrap (x1hx + 1))), (38, i6 (IntKind.i64.wrap (x1hx + 1)))] (fun a1ka h1kb => ?_)
      refine WL.dn ?_
      have hS1kc := hS1k2.b1
      have hS1kd := hS1kc.drop_
      exact ⟨kk1hz, by omega, y1k3, A1k6, c1k7, M1k0, IntKind.i64.wrap (x1hx + 1), h1kb.keep ⟨rfl, rfl, rfl, rfl, trivial⟩, ⟨H⟩, ⟨by omega⟩, ⟨hS1kd⟩, ⟨hr1k5⟩⟩
     ·rw [if_neg c1ju] at H
      cases H
   ·rw [if_neg c1i3] at H
    cases H
  ·rw [if_neg c1i2] at H
   have hb_ : (decide (x1hx < (p0.length : Int))) = false := decide_eq_false c1i2
   try rw [hb_] at h1i1
   clear hb_
   refine wp_else h1i1 rfl ?_
   refine wp_exit ?_
   refine wp_seq ?_
   refine WL.start ?_
   obtain ⟨r1kf, A1ke, H⟩ := bind1 H
   refine WL.oq h1i1 rfl ?_
   refine owp_call [.int .u32 4096] h1i1 rfl (by kernel_rfl) rfl Tryd.func17 (by kernel_rfl) rfl (by kernel_rfl) (hpack_NewEncoder.calls  A1ke hS1hq) (fun e1kh W1kg hp1ki => ?_)
   obtain ⟨v1kl, M1km, rfl, hr1kn, hS1ko⟩ := hp1ki
   refine ⟨_, rfl, fun a1kj h1kk => ?_⟩
   obtain ⟨g1kp, rfl⟩ := hr1kn.ptr_form
   obtain ⟨r1kr, A1kq, H⟩ := bind1 H
   refine WL.oq h1kk rfl ?_
   refine owp_call [.int .u32 4096] h1kk rfl (by kernel_rfl) rfl Tryd.func18 (by kernel_rfl) rfl (by kernel_rfl) (hpack_NewDecoder.calls  A1kq hS1ko) (fun e1kt W1ks hp1ku => ?_)
   obtain ⟨v1kx, M1ky, rfl, hr1kz, hS1l0⟩ := hp1ku
   refine ⟨_, rfl, fun a1kv h1kw => ?_⟩
   obtain ⟨g1l1, rfl⟩ := hr1kz.ptr_form
   refine WL.bl 2 4 h1kw [(7, pt g1l1), (6, pt g1kp)] (fun a1l2 h1l3 => ?_)
   refine WL.dn ?_
   refine wp_seq ?_
   refine WL.start ?_
   refine WL.bl 2 2 h1l3 [(42, .slice A1ht x1hs.length c1hu), (41, pt g1kp)] (fun a1l4 h1l5 => ?_)
   have hS1l6 := hS1l0.b1
   have hS1l7 := hS1l6.b2
   obtain ⟨r1l9, r1la, A1l8, H⟩ := bind2 H
   refine WL.oq h1l5 rfl ?_
   refine owp_call [(pt g1kp), .slice A1ht x1hs.length c1hu] h1l5 rfl (by kernel_rfl) rfl Tryd.func13 (by kernel_rfl) rfl (by kernel_rfl) (hpack_Encoder_Put.calls kk1hz (hr1kn.mono (fun _ hp_ => List.mem_append_right _ hp_)) hr1hw.rds hg0 hg1 A1l8 (hS1l7.pool)) (fun e1lc W1lb hp1ld => ?_)
   obtain ⟨v1lg, M1lh, M1lj, rfl, hr1li, hr1lk, hS1ll⟩ := hp1ld
   have hS1lm : St b w0 W1lb R (M1hv :: M1lh :: M1lj :: M1ky :: Fs) := hS1ll.unpool
   replace hr1li : Row (kInt .u8) 5 b w0 R v1lg r1l9 M1lh := hr1li.ind (kInt_ind _)
   replace hr1lk : Ptr k61 61 b w0 R (pt g1kp) r1la M1lj := hr1lk.ind k61qind
   refine ⟨_, rfl, fun a1le h1lf => ?_⟩
   obtain ⟨A1ln, c1lo, rfl⟩ := hr1li.form
   refine WL.bl 2 5 h1lf [(45, .slice A1ht x1hs.length c1hu), (44, pt g1kp)] (fun a1lp h1lq => ?_)
   have hS1lr := hS1lm.b2
   have hS1ls := hS1lr.b1
   obtain ⟨r1lu, r1lv, A1lt, H⟩ := bind2 H
   refine WL.oq h1lq rfl ?_
   refine owp_call [(pt g1kp), .slice A1ht x1hs.length c1hu] h1lq rfl (by kernel_rfl) rfl Tryd.func13 (by kernel_rfl) rfl (by kernel_rfl) (hpack_Encoder_Put.calls kk1hz (hr1lk.mono (fun _ hp_ => List.mem_append_right _ hp_)) hr1hw.rds hg0 hg1 A1lt (hS1ls.pool)) (fun e1lx W1lw hp1ly => ?_)
   obtain ⟨v1m1, M1m2, M1m4, rfl, hr1m3, hr1m5, hS1m6⟩ := hp1ly
   have hS1m7 : St b w0 W1lw R (M1hv :: M1m2 :: M1m4 :: M1lh :: M1ky :: Fs) := hS1m6.unpool
   replace hr1m3 : Row (kInt .u8) 5 b w0 R v1m1 r1lu M1m2 := hr1m3.ind (kInt_ind _)
   replace hr1m5 : Ptr k61 61 b w0 R (pt g1kp) r1lv M1m4 := hr1m5.ind k61qind
   refine ⟨_, rfl, fun a1lz h1m0 => ?_⟩
   obtain ⟨A1m8, c1m9, rfl⟩ := hr1m3.form
   refine WL.bl 2 8 h1m0 [(9, .slice A1m8 r1lu.length c1m9), (8, .slice A1ln r1l9.length c1lo)] (fun a1ma h1mb => ?_)
   refine WL.dn ?_
   refine wp_seq ?_
   refine WL.start ?_
   refine WL.bl 2 2 h1mb [(49, .slice A1ln r1l9.length c1lo), (48, pt g1l1)] (fun a1mc h1md => ?_)
   have hS1me := hS1m7.b4
   have hS1mf := hS1me.b4
   obtain ⟨r1mh, r1mi, r1mj, A1mg, H⟩ := bind3 H
   refine WL.oq h1md rfl ?_
   refine owp_call [(pt g1l1), .slice A1ln r1l9.length c1lo] h1md rfl (by kernel_rfl) rfl Tryd.func12 (by kernel_rfl) rfl (by kernel_rfl) (hpack_Decoder_Get.calls kk1hz (hr1kz.mono (fun _ hp_ => List.mem_append_right _ hp_)) hr1li.rds hg0 hg1 A1mg (hS1mf.pool)) (fun e1ml W1mk hp1mm => ?_)
   obtain ⟨v1mp, M1mq, M1ms, rfl, hr1mr, hr1mt, hS1mu⟩ := hp1mm
   have hS1mv : St b w0 W1mk R (M1lh :: M1mq :: M1ms :: M1hv :: M1m2 :: M1m4 :: Fs) := hS1mu.unpool
   replace hr1mr : Row k52 52 b w0 R v1mp r1mh M1mq := hr1mr.ind k52qind
   replace hr1mt : Ptr k64 64 b w0 R (pt g1l1) r1mj M1ms := hr1mt.ind k64qind
   refine ⟨_, rfl, fun a1mn h1mo => ?_⟩
   obtain ⟨A1mw, c1mx, rfl⟩ := hr1mr.form
   refine WL.bl 3 6 h1mo [(52, .agg #[.int .u8 r1mi.f0, .int .u32 r1mi.f1]), (51, .slice A1mw r1mh.length c1mx), (47, .tuple #[.slice A1mw r1mh.length c1mx, .agg #[.int .u8 r1mi.f0, .int .u32 r1mi.f1]])] (fun a1my h1mz => ?_)
   refine WL.oq h1mz rfl ?_
   refine owp_nw (fun g_ => (pt g_)) (.cells ([.int .u8 0, .int .u32 0] : List Value).toArray 31 (0, 0)) h1mz rfl hS1mv (fun a1n0 W1n2 g1n3 h1n1 hS1n4 => ?_)
   clear h1i1 a1i0 h1kk a1kj h1kw a1kv h1l3 a1l2 h1l5 a1l4 h1lf a1le h1lq a1lp h1m0 a1lz h1mb a1ma h1md a1mc h1mo a1mn h1mz a1my
   refine WL.bl 1 8 h1n1 [(10, .slice A1mw r1mh.length c1mx)] (fun a1n5 h1n6 => ?_)
   refine WL.oq h1n6 rfl ?_
   refine owp_st 0 [.int .u8 r1mi.f0, .int .u32 r1mi.f1] h1n6 rfl rfl rfl hS1n4 [.int .u8 r1mi.f0, .int .u32 r1mi.f1] (fun a1n7 W1n9 h1n8 hS1na => ?_)
   refine WL.dn ?_
   refine wp_seq ?_
   refine WL.start ?_
   refine WL.bl 2 2 h1n8 [(55, .slice A1m8 r1lu.length c1m9), (54, pt g1l1)] (fun a1nb h1nc => ?_)
   have hS1nd := hS1na.b3
   have hS1ne := hS1nd.b5
   obtain ⟨r1ng, r1nh, r1ni, A1nf, H⟩ := bind3 H
   refine WL.oq h1nc rfl ?_
   refine owp_call [(pt g1l1), .slice A1m8 r1lu.length c1m9] h1nc rfl (by kernel_rfl) rfl Tryd.func12 (by kernel_rfl) rfl (by kernel_rfl) (hpack_Decoder_Get.calls kk1hz (hr1mt.mono (fun _ hp_ => List.mem_append_right _ hp_)) hr1m3.rds hg0 hg1 A1nf (hS1ne.pool)) (fun e1nk W1nj hp1nl => ?_)
   obtain ⟨v1no, M1np, M1nr, rfl, hr1nq, hr1ns, hS1nt⟩ := hp1nl
   have hS1nu : St b w0 W1nj R (M1m2 :: M1np :: M1nr :: (bx g1n3 31 [.int .u8 r1mi.f0, .int .u32 r1mi.f1]) :: M1lh :: M1mq :: M1hv :: M1m4 :: Fs) := hS1nt.unpool
   replace hr1nq : Row k52 52 b w0 R v1no r1ng M1np := hr1nq.ind k52qind
   replace hr1ns : Ptr k64 64 b w0 R (pt g1l1) r1ni M1nr := hr1ns.ind k64qind
   refine ⟨_, rfl, fun a1nm h1nn => ?_⟩
   obtain ⟨A1nv, c1nw, rfl⟩ := hr1nq.form
   refine WL.bl 3 6 h1nn [(58, .agg #[.int .u8 r1nh.f0, .int .u32 r1nh.f1]), (57, .slice A1nv r1ng.length c1nw), (53, .tuple #[.slice A1nv r1ng.length c1nw, .agg #[.int .u8 r1nh.f0, .int .u32 r1nh.f1]])] (fun a1nx h1ny => ?_)
   refine WL.oq h1ny rfl ?_
   refine owp_nw (fun g_ => (pt g_)) (.cells ([.int .u8 0, .int .u32 0] : List Value).toArray 31 (0, 0)) h1ny rfl hS1nu (fun a1nz W1o1 g1o2 h1o0 hS1o3 => ?_)
   refine WL.bl 1 8 h1o0 [(12, .slice A1nv r1ng.length c1nw)] (fun a1o4 h1o5 => ?_)
   refine WL.oq h1o5 rfl ?_
   refine owp_st 0 [.int .u8 r1nh.f0, .int .u32 r1nh.f1] h1o5 rfl rfl rfl hS1o3 [.int .u8 r1nh.f0, .int .u32 r1nh.f1] (fun a1o6 W1o8 h1o7 hS1o9 => ?_)
   refine WL.dn ?_
   refine wp_seq ?_
   refine WL.start ?_
   obtain ⟨r1ob, A1oa, H⟩ := bind1 H
   refine WL.oq h1o7 rfl ?_
   refine owp_call [] h1o7 rfl (by kernel_rfl) rfl Tryd.func10 (by kernel_rfl) rfl (by kernel_rfl) (louverlaw06qfixed.calls kk1hz hg0 hg1 A1oa hS1o9) (fun e1od W1oc hp1oe => ?_)
   obtain ⟨rfl, hS1oh⟩ := hp1oe
   refine ⟨_, rfl, fun a1of h1og => ?_⟩
   refine WL.bl 1 2 h1og [(60, .bool r1ob)] (fun a1oi h1oj => ?_)
   clear h1n1 a1n0 h1n6 a1n5 h1n8 a1n7 h1nc a1nb h1nn a1nm h1ny a1nx h1o0 a1nz h1o5 a1o4 h1o7 a1o6 h1og a1of
   by_cases c1ok : r1ob = true
   ·rw [if_pos c1ok] at H
    have hb_ : r1ob = true := c1ok
    try rw [hb_] at h1oj
    clear hb_
    refine WL.oq h1oj rfl (owp_rk (.slice A1m8 r1lu.length c1m9) h1oj rfl (fun a1ol h1om => ?_))
    refine WL.oq h1om rfl (owp_rk (i6 (r1lu.length : Int)) h1om rfl (fun a1on h1oo => ?_))
    refine WL.oq h1oo rfl (owp_rk (.slice A1ht x1hs.length c1hu) h1oo rfl (fun a1op h1oq => ?_))
    refine WL.oq h1oq rfl (owp_rk (i6 (x1hs.length : Int)) h1oq rfl (fun a1or h1os => ?_))
    refine WL.oq h1os rfl (owp_rk (i6 (IntKind.i64.wrap (2 * (x1hs.length : Int)))) h1os rfl (fun a1ot h1ou => ?_))
    refine WL.oq h1ou rfl (owp_rk (.bool (decide ((r1lu.length : Int) ≤ (IntKind.i64.wrap (2 * (x1hs.length : Int)))))) h1ou rfl (fun a1ov h1ow => ?_))
    refine WL.bl 2 10 h1ow [(68, .bool (decide ((r1lu.length : Int) ≤ (IntKind.i64.wrap (2 * (x1hs.length : Int)))))), (67, .bool (decide ((r1lu.length : Int) ≤ (IntKind.i64.wrap (2 * (x1hs.length : Int))))))] (fun a1ox h1oy => ?_)
    clear h1oj a1oi h1om a1ol h1oo a1on h1oq a1op h1os a1or h1ou a1ot h1ow a1ov
    by_cases c1oz : (r1lu.length : Int) ≤ (IntKind.i64.wrap (2 * (x1hs.length : Int)))
    ·rw [if_pos c1oz] at H
     have hb_ : (decide ((r1lu.length : Int) ≤ (IntKind.i64.wrap (2 * (x1hs.length : Int))))) = true := decide_eq_true c1oz
     try rw [hb_] at h1oy
     clear hb_
     have hS1p0 := hS1oh.b4
     refine WL.oq h1oy rfl ?_
     refine owp_rn (.agg #[.int .u8 r1mi.f0, .int .u32 r1mi.f1]) h1oy rfl (run_loadN rfl rfl Tryd.underlying31 rfl (cs := [.int .u8 r1mi.f0, .int .u32 r1mi.f1]) (by kernel_rfl) (hS1p0.cells (vs := [.int .u8 r1mi.f0, .int .u32 r1mi.f1]) rfl)) (fun a1p1 h1p2 => ?_)
     refine WL.oq h1p2 rfl (owp_rk (.agg #[.int .u8 0, .int .u32 0]) h1p2 rfl (fun a1p3 h1p4 => ?_))
     refine WL.oq h1p4 rfl ?_
     refine owp_rn (.bool (decide (r1mi.f0 = 0) && decide (r1mi.f1 = 0))) h1p4 rfl (run_steq (xs := [.int .u8 r1mi.f0, .int .u32 r1mi.f1]) (ys := [.int .u8 0, .int .u32 0]) rfl rfl rfl (by kernel_rfl) (eqs_of Tryd.underlying31 (by kernel_rfl) (eqf_cons rfl (by kernel_rfl) rfl rfl (eqi_int Tryd.underlying5) (eqf_last rfl (by kernel_rfl) rfl rfl (eqi_int Tryd.underlying29))))) (fun a1p5 h1p6 => ?_)
     refine WL.bl 2 15 h1p6 [(73, .bool (decide (r1mi.f0 = 0) && decide (r1mi.f1 = 0))), (72, .bool (decide (r1mi.f0 = 0) && decide (r1mi.f1 = 0)))] (fun a1p7 h1p8 => ?_)
     clear h1oy a1ox h1p2 a1p1 h1p4 a1p3 h1p6 a1p5
     by_cases c1p9 : (decide (r1mi.f0 = 0) && decide (r1mi.f1 = 0)) = true
     ·rw [if_pos c1p9] at H
      have hb_ : (decide (r1mi.f0 = 0) && decide (r1mi.f1 = 0)) = true := c1p9
      try rw [hb_] at h1p8
      clear hb_
      have hS1pa := hS1p0.b1
      refine WL.oq h1p8 rfl ?_
      refine owp_rn (.agg #[.int .u8 r1nh.f0, .int .u32 r1nh.f1]) h1p8 rfl (run_loadN rfl rfl Tryd.underlying31 rfl (cs := [.int .u8 r1nh.f0, .int .u32 r1nh.f1]) (by kernel_rfl) (hS1pa.cells (vs := [.int .u8 r1nh.f0, .int .u32 r1nh.f1]) rfl)) (fun a1pb h1pc => ?_)
      refine WL.oq h1pc rfl (owp_rk (.agg #[.int .u8 0, .int .u32 0]) h1pc rfl (fun a1pd h1pe => ?_))
      refine WL.oq h1pe rfl ?_
      refine owp_rn (.bool (decide (r1nh.f0 = 0) && decide (r1nh.f1 = 0))) h1pe rfl (run_steq (xs := [.int .u8 r1nh.f0, .int .u32 r1nh.f1]) (ys := [.int .u8 0, .int .u32 0]) rfl rfl rfl (by kernel_rfl) (eqs_of Tryd.underlying31 (by kernel_rfl) (eqf_cons rfl (by kernel_rfl) rfl rfl (eqi_int Tryd.underlying5) (eqf_last rfl (by kernel_rfl) rfl rfl (eqi_int Tryd.underlying29))))) (fun a1pf h1pg => ?_)
      refine WL.bl 2 20 h1pg [(78, .bool (decide (r1nh.f0 = 0) && decide (r1nh.f1 = 0))), (77, .bool (decide (r1nh.f0 = 0) && decide (r1nh.f1 = 0)))] (fun a1ph h1pi => ?_)
      clear h1p8 a1p7 h1pc a1pb h1pe a1pd h1pg a1pf
      by_cases c1pj : (decide (r1nh.f0 = 0) && decide (r1nh.f1 = 0)) = true
      ·rw [if_pos c1pj] at H
       have hb_ : (decide (r1nh.f0 = 0) && decide (r1nh.f1 = 0)) = true := c1pj
       try rw [hb_] at h1pi
       clear hb_
       refine WL.oq h1pi rfl (owp_rk (.slice A1mw r1mh.length c1mx) h1pi rfl (fun a1pk h1pl => ?_))
       refine WL.oq h1pl rfl (owp_rk (.slice A1ht x1hs.length c1hu) h1pl rfl (fun a1pm h1pn => ?_))
       have hS1po := hS1pa.b7
       have hS1pp := hS1po.b7
       obtain ⟨r1pr, A1pq, H⟩ := bind1 H
       refine WL.oq h1pn rfl ?_
       refine owp_call [.slice A1mw r1mh.length c1mx, .slice A1ht x1hs.length c1hu] h1pn rfl (by kernel_rfl) rfl Tryd.func21 (by kernel_rfl) rfl (by kernel_rfl) (louverref06qSame.calls kk1hz (Rds.mono (fun _ hp_ => by simp only [List.mem_append] at hp_ ⊢; first | exact hp_ | (rcases hp_ with hp_ | hp_ <;> simp [hp_])) hr1mr.rds) (Rds.mono (fun _ hp_ => by simp only [List.mem_append] at hp_ ⊢; first | exact hp_ | (rcases hp_ with hp_ | hp_ <;> simp [hp_])) hr1hw.rds) A1pq (hS1pp.pool.pool)) (fun e1pt W1ps hp1pu => ?_)
       obtain ⟨rfl, hS1px⟩ := hp1pu
       have hS1py : St b w0 W1ps R (M1mq :: M1hv :: (bx g1o2 31 [.int .u8 r1nh.f0, .int .u32 r1nh.f1]) :: (bx g1n3 31 [.int .u8 r1mi.f0, .int .u32 r1mi.f1]) :: M1m2 :: M1np :: M1nr :: M1lh :: M1m4 :: Fs) := hS1px.unpool.unpool
       refine ⟨_, rfl, fun a1pv h1pw => ?_⟩
       refine WL.bl 2 25 h1pw [(83, .bool r1pr), (82, .bool r1pr)] (fun a1pz h1q0 => ?_)
       clear h1pi a1ph h1pl a1pk h1pn a1pm h1pw a1pv
       by_cases c1q1 : r1pr = true
       ·rw [if_pos c1q1] at H
        have hb_ : r1pr = true := c1q1
        try rw [hb_] at h1q0
        clear hb_
        refine WL.oq h1q0 rfl (owp_rk (.slice A1nv r1ng.length c1nw) h1q0 rfl (fun a1q2 h1q3 => ?_))
        refine WL.oq h1q3 rfl (owp_rk (.slice A1ht x1hs.length c1hu) h1q3 rfl (fun a1q4 h1q5 => ?_))
        have hS1q6 := hS1py.b1
        have hS1q7 := hS1q6.b5
        obtain ⟨r1q9, A1q8, H⟩ := bind1 H
        refine WL.oq h1q5 rfl ?_
        refine owp_call [.slice A1nv r1ng.length c1nw, .slice A1ht x1hs.length c1hu] h1q5 rfl (by kernel_rfl) rfl Tryd.func21 (by kernel_rfl) rfl (by kernel_rfl) (louverref06qSame.calls kk1hz (Rds.mono (fun _ hp_ => by simp only [List.mem_append] at hp_ ⊢; first | exact hp_ | (rcases hp_ with hp_ | hp_ <;> simp [hp_])) hr1nq.rds) (Rds.mono (fun _ hp_ => by simp only [List.mem_append] at hp_ ⊢; first | exact hp_ | (rcases hp_ with hp_ | hp_ <;> simp [hp_])) hr1hw.rds) A1q8 (hS1q7.pool.pool)) (fun e1qb W1qa hp1qc => ?_)
        obtain ⟨rfl, hS1qf⟩ := hp1qc
        have hS1qg : St b w0 W1qa R (M1np :: M1hv :: M1mq :: (bx g1o2 31 [.int .u8 r1nh.f0, .int .u32 r1nh.f1]) :: (bx g1n3 31 [.int .u8 r1mi.f0, .int .u32 r1mi.f1]) :: M1m2 :: M1nr :: M1lh :: M1m4 :: Fs) := hS1qf.unpool.unpool
        refine ⟨_, rfl, fun a1qd h1qe => ?_⟩
        refine WL.bl 2 30 h1qe [(2, .bool r1q9), (87, .bool r1q9)] (fun a1qh h1qi => ?_)
        refine WL.dn ?_
        refine wp_ret ?_
        have hS1qj := hS1qg.drop_
        have hS1qk := hS1qj.drop_
        have hS1ql := hS1qk.drop_
        have hS1qm := hS1ql.drop_
        have hS1qn := hS1qm.drop_
        have hS1qo := hS1qn.drop_
        have hS1qp := hS1qo.drop_
        have hS1qq := hS1qp.drop_
        have hS1qr := hS1qq.drop_
        obtain rfl := Option.some.inj H
        repeat (first | with_reducible refine t1 ?_ | with_reducible refine t2 ?_ | with_reducible refine t3 ?_)
        refine bret (.bool r1q9) h1qi ?_
        exact ⟨rfl, hS1qr⟩
       ·rw [if_neg c1q1] at H
        have hb_ : r1pr = false := (Bool.eq_false_iff.2 c1q1)
        try rw [hb_] at h1q0
        clear hb_
        refine WL.sk h1q0 rfl rfl (fun a1qs h1qt => ?_)
        refine WL.sk h1qt rfl rfl (fun a1qu h1qv => ?_)
        refine WL.sk h1qv rfl rfl (fun a1qw h1qx => ?_)
        refine WL.bl 2 30 h1qx [(2, .bool false), (87, .bool false)] (fun a1qy h1qz => ?_)
        refine WL.dn ?_
        refine wp_ret ?_
        have hS1r0 := hS1py.drop_
        have hS1r1 := hS1r0.drop_
        have hS1r2 := hS1r1.drop_
        have hS1r3 := hS1r2.drop_
        have hS1r4 := hS1r3.drop_
        have hS1r5 := hS1r4.drop_
        have hS1r6 := hS1r5.drop_
        have hS1r7 := hS1r6.drop_
        have hS1r8 := hS1r7.drop_
        obtain rfl := Option.some.inj H
        repeat (first | with_reducible refine t1 ?_ | with_reducible refine t2 ?_ | with_reducible refine t3 ?_)
        refine bret (.bool false) h1qz ?_
        exact ⟨rfl, hS1r8⟩
      ·rw [if_neg c1pj] at H
       have hb_ : (decide (r1nh.f0 = 0) && decide (r1nh.f1 = 0)) = false := (Bool.eq_false_iff.2 c1pj)
       try rw [hb_] at h1pi
       clear hb_
       refine WL.sk h1pi rfl rfl (fun a1r9 h1ra => ?_)
       refine WL.sk h1ra rfl rfl (fun a1rb h1rc => ?_)
       refine WL.sk h1rc rfl rfl (fun a1rd h1re => ?_)
       refine WL.bl 2 25 h1re [(83, .bool false), (82, .bool false)] (fun a1rf h1rg => ?_)
       refine WL.sk h1rg rfl rfl (fun a1rh h1ri => ?_)
       refine WL.sk h1ri rfl rfl (fun a1rj h1rk => ?_)
       refine WL.sk h1rk rfl rfl (fun a1rl h1rm => ?_)
       refine WL.bl 2 30 h1rm [(2, .bool false), (87, .bool false)] (fun a1rn h1ro => ?_)
       refine WL.dn ?_
       refine wp_ret ?_
       have hS1rp := hS1pa.drop_
       have hS1rq := hS1rp.drop_
       have hS1rr := hS1rq.drop_
       have hS1rs := hS1rr.drop_
       have hS1rt := hS1rs.drop_
       have hS1ru := hS1rt.drop_
       have hS1rv := hS1ru.drop_
       have hS1rw := hS1rv.drop_
       have hS1rx := hS1rw.drop_
       obtain rfl := Option.some.inj H
       repeat (first | with_reducible refine t1 ?_ | with_reducible refine t2 ?_ | with_reducible refine t3 ?_)
       refine bret (.bool false) h1ro ?_
       exact ⟨rfl, hS1rx⟩
     ·rw [if_neg c1p9] at H
      have hb_ : (decide (r1mi.f0 = 0) && decide (r1mi.f1 = 0)) = false := (Bool.eq_false_iff.2 c1p9)
      try rw [hb_] at h1p8
      clear hb_
      refine WL.sk h1p8 rfl rfl (fun a1ry h1rz => ?_)
      refine WL.sk h1rz rfl rfl (fun a1s0 h1s1 => ?_)
      refine WL.sk h1s1 rfl rfl (fun a1s2 h1s3 => ?_)
      refine WL.bl 2 20 h1s3 [(78, .bool false), (77, .bool false)] (fun a1s4 h1s5 => ?_)
      refine WL.sk h1s5 rfl rfl (fun a1s6 h1s7 => ?_)
      refine WL.sk h1s7 rfl rfl (fun a1s8 h1s9 => ?_)
      refine WL.sk h1s9 rfl rfl (fun a1sa h1sb => ?_)
      refine WL.bl 2 25 h1sb [(83, .bool false), (82, .bool false)] (fun a1sc h1sd => ?_)
      refine WL.sk h1sd rfl rfl (fun a1se h1sf => ?_)
      refine WL.sk h1sf rfl rfl (fun a1sg h1sh => ?_)
      refine WL.sk h1sh rfl rfl (fun a1si h1sj => ?_)
      refine WL.bl 2 30 h1sj [(2, .bool false), (87, .bool false)] (fun a1sk h1sl => ?_)
      clear h1p8 a1p7 h1rz a1ry h1s1 a1s0 h1s3 a1s2 h1s5 a1s4 h1s7 a1s6 h1s9 a1s8 h1sb a1sa h1sd a1sc h1sf a1se h1sh a1sg h1sj a1si
      refine WL.dn ?_
      refine wp_ret ?_
      have hS1sm := hS1p0.drop_
      have hS1sn := hS1sm.drop_
      have hS1so := hS1sn.drop_
      have hS1sp := hS1so.drop_
      have hS1sq := hS1sp.drop_
      have hS1sr := hS1sq.drop_
      have hS1ss := hS1sr.drop_
      have hS1st := hS1ss.drop_
      have hS1su := hS1st.drop_
      obtain rfl := Option.some.inj H
      repeat (first | with_reducible refine t1 ?_ | with_reducible refine t2 ?_ | with_reducible refine t3 ?_)
      refine bret (.bool false) h1sl ?_
      exact ⟨rfl, hS1su⟩
    ·rw [if_neg c1oz] at H
     have hb_ : (decide ((r1lu.length : Int) ≤ (IntKind.i64.wrap (2 * (x1hs.length : Int))))) = false := decide_eq_false c1oz
     try rw [hb_] at h1oy
     clear hb_
     refine WL.sk h1oy rfl rfl (fun a1sv h1sw => ?_)
     refine WL.sk h1sw rfl rfl (fun a1sx h1sy => ?_)
     refine WL.sk h1sy rfl rfl (fun a1sz h1t0 => ?_)
     refine WL.bl 2 15 h1t0 [(73, .bool false), (72, .bool false)] (fun a1t1 h1t2 => ?_)
     refine WL.sk h1t2 rfl rfl (fun a1t3 h1t4 => ?_)
     refine WL.sk h1t4 rfl rfl (fun a1t5 h1t6 => ?_)
     refine WL.sk h1t6 rfl rfl (fun a1t7 h1t8 => ?_)
     refine WL.bl 2 20 h1t8 [(78, .bool false), (77, .bool false)] (fun a1t9 h1ta => ?_)
     refine WL.sk h1ta rfl rfl (fun a1tb h1tc => ?_)
     refine WL.sk h1tc rfl rfl (fun a1td h1te => ?_)
     refine WL.sk h1te rfl rfl (fun a1tf h1tg => ?_)
     refine WL.bl 2 25 h1tg [(83, .bool false), (82, .bool false)] (fun a1th h1ti => ?_)
     clear h1oy a1ox h1sw a1sv h1sy a1sx h1t0 a1sz h1t2 a1t1 h1t4 a1t3 h1t6 a1t5 h1t8 a1t7 h1ta a1t9 h1tc a1tb h1te a1td h1tg a1tf
     refine WL.sk h1ti rfl rfl (fun a1tj h1tk => ?_)
     refine WL.sk h1tk rfl rfl (fun a1tl h1tm => ?_)
     refine WL.sk h1tm rfl rfl (fun a1tn h1to => ?_)
     refine WL.bl 2 30 h1to [(2, .bool false), (87, .bool false)] (fun a1tp h1tq => ?_)
     refine WL.dn ?_
     refine wp_ret ?_
     have hS1tr := hS1oh.drop_
     have hS1ts := hS1tr.drop_
     have hS1tt := hS1ts.drop_
     have hS1tu := hS1tt.drop_
     have hS1tv := hS1tu.drop_
     have hS1tw := hS1tv.drop_
     have hS1tx := hS1tw.drop_
     have hS1ty := hS1tx.drop_
     have hS1tz := hS1ty.drop_
     obtain rfl := Option.some.inj H
     repeat (first | with_reducible refine t1 ?_ | with_reducible refine t2 ?_ | with_reducible refine t3 ?_)
     refine bret (.bool false) h1tq ?_
     exact ⟨rfl, hS1tz⟩
   ·rw [if_neg c1ok] at H
    have hb_ : r1ob = false := (Bool.eq_false_iff.2 c1ok)
    try rw [hb_] at h1oj
    clear hb_
    refine WL.sk h1oj rfl rfl (fun a1u0 h1u1 => ?_)
    refine WL.sk h1u1 rfl rfl (fun a1u2 h1u3 => ?_)
    refine WL.sk h1u3 rfl rfl (fun a1u4 h1u5 => ?_)
    refine WL.sk h1u5 rfl rfl (fun a1u6 h1u7 => ?_)
    refine WL.sk h1u7 rfl rfl (fun a1u8 h1u9 => ?_)
    refine WL.sk h1u9 rfl rfl (fun a1ua h1ub => ?_)
    refine WL.bl 2 10 h1ub [(68, .bool false), (67, .bool false)] (fun a1uc h1ud => ?_)
    refine WL.sk h1ud rfl rfl (fun a1ue h1uf => ?_)
    refine WL.sk h1uf rfl rfl (fun a1ug h1uh => ?_)
    refine WL.sk h1uh rfl rfl (fun a1ui h1uj => ?_)
    refine WL.bl 2 15 h1uj [(73, .bool false), (72, .bool false)] (fun a1uk h1ul => ?_)
    refine WL.sk h1ul rfl rfl (fun a1um h1un => ?_)
    clear h1oj a1oi h1u1 a1u0 h1u3 a1u2 h1u5 a1u4 h1u7 a1u6 h1u9 a1u8 h1ub a1ua h1ud a1uc h1uf a1ue h1uh a1ug h1uj a1ui h1ul a1uk
    refine WL.sk h1un rfl rfl (fun a1uo h1up => ?_)
    refine WL.sk h1up rfl rfl (fun a1uq h1ur => ?_)
    refine WL.bl 2 20 h1ur [(78, .bool false), (77, .bool false)] (fun a1us h1ut => ?_)
    refine WL.sk h1ut rfl rfl (fun a1uu h1uv => ?_)
    refine WL.sk h1uv rfl rfl (fun a1uw h1ux => ?_)
    refine WL.sk h1ux rfl rfl (fun a1uy h1uz => ?_)
    refine WL.bl 2 25 h1uz [(83, .bool false), (82, .bool false)] (fun a1v0 h1v1 => ?_)
    refine WL.sk h1v1 rfl rfl (fun a1v2 h1v3 => ?_)
    refine WL.sk h1v3 rfl rfl (fun a1v4 h1v5 => ?_)
    refine WL.sk h1v5 rfl rfl (fun a1v6 h1v7 => ?_)
    refine WL.bl 2 30 h1v7 [(2, .bool false), (87, .bool false)] (fun a1v8 h1v9 => ?_)
    refine WL.dn ?_
    refine wp_ret ?_
    have hS1va := hS1oh.drop_
    have hS1vb := hS1va.drop_
    have hS1vc := hS1vb.drop_
    have hS1vd := hS1vc.drop_
    have hS1ve := hS1vd.drop_
    have hS1vf := hS1ve.drop_
    have hS1vg := hS1vf.drop_
    have hS1vh := hS1vg.drop_
    have hS1vi := hS1vh.drop_
    obtain rfl := Option.some.inj H
    repeat (first | with_reducible refine t1 ?_ | with_reducible refine t2 ?_ | with_reducible refine t3 ?_)
    refine bret (.bool false) h1v9 ?_
    exact ⟨rfl, hS1vi⟩
end Go.Proofs.YtinebjcfgmoniaaDoor.Sl
