/- What the functions of this program compute, told as plain functions, and that the calls come to just that. Printed by this session's program; part 3. -/
import Derived.Test.YtikfpmieadfllaaCodeTurnsPlays2
set_option linter.unusedVariables false
set_option linter.unusedSimpArgs false
set_option linter.unnecessarySimpa false
namespace Go.Proofs.Ytikfpmieadfllaa.Sl
open Go Go.RowKit Go.Proofs.Sl
/-! ### (louver/louverref13.R).Drop -/
def louverref13qR_Drop.j0 : Nat → S56 → Int → Option (S56)
 | 0, _, _ => none
 | k + 1, x1ew, r1db => if 0 ≤ r1db then (if r1db ≤ (x1ew.f0.length : Int) then (if ([] : List S61).length + (x1ew.f0.take r1db.toNat).length ≤ 2932031007402 then (lt1 (([] : List S61) ++ (x1ew.f0.take r1db.toNat) : List S61) fun y1gq => (if 0 ≤ (IntKind.i64.wrap (r1db + 1)) then (if (IntKind.i64.wrap (r1db + 1)) ≤ (x1ew.f0.length : Int) then (if y1gq.length + (x1ew.f0.drop (IntKind.i64.wrap (r1db + 1)).toNat).length ≤ 2932031007402 then (lt1 (y1gq ++ (x1ew.f0.drop (IntKind.i64.wrap (r1db + 1)).toNat) : List S61) fun y1hn => (bnd1 (louverref13qR_Last.f (⟨y1hn, x1ew.f1, (⟨x1ew.f2.f0, x1ew.f2.f1⟩ : S41)⟩ : S56)) fun r1i3 => (if r1i3 = 0 then (some (⟨y1hn, 0, (⟨x1ew.f2.f0, x1ew.f2.f1⟩ : S41)⟩ : S56)) else (some (⟨y1hn, x1ew.f1, (⟨x1ew.f2.f0, x1ew.f2.f1⟩ : S41)⟩ : S56))))) else (none)) else (none)) else (none))) else (none)) else (none)) else (none)
def louverref13qR_Drop.f (k : Nat) (p0 : S56) (p1 : Int) : Option (S56) := bnd1 (louverref13qR_Find.f k (⟨p0.f0, p0.f1, (⟨p0.f2.f0, p0.f2.f1⟩ : S41)⟩ : S56) p1) fun r1db => (if r1db < 0 then (some (⟨p0.f0, p0.f1, (⟨p0.f2.f0, p0.f2.f1⟩ : S41)⟩ : S56)) else (bnd1 (louverref13qR_Last.f (⟨p0.f0, p0.f1, (⟨p0.f2.f0, p0.f2.f1⟩ : S41)⟩ : S56)) fun r1e5 => (if r1db ≥ r1e5 then (louverref13qR_Drop.j0 k (⟨p0.f0, IntKind.i64.wrap (p0.f1 - 1), (⟨p0.f2.f0, p0.f2.f1⟩ : S41)⟩ : S56) r1db) else (louverref13qR_Drop.j0 k (⟨p0.f0, p0.f1, (⟨p0.f2.f0, p0.f2.f1⟩ : S41)⟩ : S56) r1db))))
set_option maxHeartbeats 20000000 in
set_option maxRecDepth 100000 in
theorem louverref13qR_Drop.calls (k : Nat) {b : Nat} {w0 W : World} {R : Frag} {Fs : List Frag} {p0 : S56} {p1 : Int} {v0q0 : Value} {M0q0 : Frag} {r0q : S56} (hp0q0 : Row k61 61 b w0 R v0q0 p0.f0 M0q0) (H : louverref13qR_Drop.f k p0 p1 = some r0q) (hS : St b w0 W R (M0q0 :: Fs)) :
  Calls Try.prog 44 ([.agg #[v0q0, i6 p0.f1, i6 p0.f2.f0, .bool p0.f2.f1], .int .u32 p1] : List Value).toArray W (fun e W' => ∃ (u0qv0qf0 : Value) (Nu0qv0qf0 : Frag), e = .returned (.agg #[u0qv0qf0, i6 r0q.f1, i6 r0q.f2.f0, .bool r0q.f2.f1]) ∧ Row k61 61 b w0 R u0qv0qf0 r0q.f0 Nu0qv0qf0 ∧ St b w0 W' R (Nu0qv0qf0 :: Fs)) := by
 obtain ⟨A0q0, c0q0, rfl⟩ := hp0q0.form
 unfold louverref13qR_Drop.f at H
 refine calls_enter Try.func44 rfl 41 rfl (by kernel_rfl) (fun a h => ?_)
 refine wp_seq ?_
 refine WL.start ?_
 refine WL.oq h rfl ?_
 refine owp_nw (fun g_ => (pt g_)) (.cells ([.slice A0q0 p0.f0.length c0q0, i6 p0.f1, i6 p0.f2.f0, .bool p0.f2.f1] : List Value).toArray 56 (0, 0)) h rfl hS (fun a1cu W1cw g1cx h1cv hS1cy => ?_)
 refine WL.oq h1cv rfl ?_
 refine owp_nw (fun g_ => (pt g_)) (.cells ([.slice none 0 0, i6 0, i6 0, .bool false] : List Value).toArray 56 (0, 0)) h1cv rfl hS1cy (fun a1cz W1d1 g1d2 h1d0 hS1d3 => ?_)
 refine WL.dn ?_
 refine wp_seq ?_
 refine WL.start ?_
 have hS1d4 := hS1d3.b1
 refine WL.oq h1d0 rfl ?_
 refine owp_rn (.agg #[.slice A0q0 p0.f0.length c0q0, i6 p0.f1, i6 p0.f2.f0, .bool p0.f2.f1]) h1d0 rfl (run_loadN rfl rfl Try.underlying56 rfl (cs := [.slice A0q0 p0.f0.length c0q0, i6 p0.f1, i6 p0.f2.f0, .bool p0.f2.f1]) (by kernel_rfl) (hS1d4.cells (vs := [.slice A0q0 p0.f0.length c0q0, i6 p0.f1, i6 p0.f2.f0, .bool p0.f2.f1]) rfl)) (fun a1d5 h1d6 => ?_)
 refine WL.bl 1 2 h1d6 [(8, .int .u32 p1)] (fun a1d7 h1d8 => ?_)
 have hS1d9 := hS1d4.b2
 obtain ⟨r1db, A1da, H⟩ := bind1 H
 refine WL.oq h1d8 rfl ?_
 refine owp_call [.agg #[.slice A0q0 p0.f0.length c0q0, i6 p0.f1, i6 p0.f2.f0, .bool p0.f2.f1], .int .u32 p1] h1d8 rfl (by kernel_rfl) rfl Try.func25 (by kernel_rfl) rfl (by kernel_rfl) (louverref13qR_Find.calls (p0 := (⟨p0.f0, p0.f1, (⟨p0.f2.f0, p0.f2.f1⟩ : S41)⟩ : S56)) k hp0q0.rds A1da (hS1d9.pool)) (fun e1dd W1dc hp1de => ?_)
 obtain ⟨rfl, hS1dh⟩ := hp1de
 have hS1di : St b w0 W1dc R (M0q0 :: (bx g1cx 56 [.slice A0q0 p0.f0.length c0q0, i6 p0.f1, i6 p0.f2.f0, .bool p0.f2.f1]) :: (bx g1d2 56 [.slice none 0 0, i6 0, i6 0, .bool false]) :: Fs) := hS1dh.unpool
 refine ⟨_, rfl, fun a1df h1dg => ?_⟩
 refine WL.bl 1 4 h1dg [(5, i6 r1db)] (fun a1dj h1dk => ?_)
 refine WL.dn ?_
 refine wp_seq ?_
 refine wp_seq ?_
 refine WL.start ?_
 refine WL.bl 2 2 h1dk [(11, .bool (decide (r1db < 0))), (10, i6 r1db)] (fun a1dl h1dm => ?_)
 refine WL.dn ?_
 clear h1cv a1cu h1d0 a1cz h1d6 a1d5 h1d8 a1d7 h1dg a1df h1dk a1dj
 by_cases c1dn : r1db < 0
 ·rw [if_pos c1dn] at H
  have hb_ : (decide (r1db < 0)) = true := decide_eq_true c1dn
  try rw [hb_] at h1dm
  clear hb_
  refine wp_then h1dm rfl ?_
  refine wp_seq ?_
  refine WL.start ?_
  have hS1do := hS1di.b1
  refine WL.oq h1dm rfl ?_
  refine owp_rn (.agg #[.slice A0q0 p0.f0.length c0q0, i6 p0.f1, i6 p0.f2.f0, .bool p0.f2.f1]) h1dm rfl (run_loadN rfl rfl Try.underlying56 rfl (cs := [.slice A0q0 p0.f0.length c0q0, i6 p0.f1, i6 p0.f2.f0, .bool p0.f2.f1]) (by kernel_rfl) (hS1do.cells (vs := [.slice A0q0 p0.f0.length c0q0, i6 p0.f1, i6 p0.f2.f0, .bool p0.f2.f1]) rfl)) (fun a1dp h1dq => ?_)
  have hS1dr := hS1do.b2
  refine WL.oq h1dq rfl ?_
  refine owp_st 0 [.slice A0q0 p0.f0.length c0q0, i6 p0.f1, i6 p0.f2.f0, .bool p0.f2.f1] h1dq rfl rfl rfl hS1dr [.slice A0q0 p0.f0.length c0q0, i6 p0.f1, i6 p0.f2.f0, .bool p0.f2.f1] (fun a1ds W1du h1dt hS1dv => ?_)
  refine WL.dn ?_
  refine wp_ret ?_
  have hS1dw := hS1dv.drop_
  have hS1dx := hS1dw.drop_
  obtain rfl := Option.some.inj H
  repeat (first | with_reducible refine t1 ?_ | with_reducible refine t2 ?_ | with_reducible refine t3 ?_)
  refine body_ret (v := .agg #[.slice A0q0 p0.f0.length c0q0, i6 p0.f1, i6 p0.f2.f0, .bool p0.f2.f1]) h1dt (by kernel_rfl) (res_one rfl ⟨_, rfl, loadVarN Try.underlying56 rfl (cs := [.slice A0q0 p0.f0.length c0q0, i6 p0.f1, i6 p0.f2.f0, .bool p0.f2.f1]) (by kernel_rfl) (hS1dv.cells (vs := [.slice A0q0 p0.f0.length c0q0, i6 p0.f1, i6 p0.f2.f0, .bool p0.f2.f1]) rfl)⟩) ?_
  exact ⟨.slice A0q0 p0.f0.length c0q0, M0q0, rfl, hp0q0, hS1dx⟩
 ·rw [if_neg c1dn] at H
  have hb_ : (decide (r1db < 0)) = false := decide_eq_false c1dn
  try rw [hb_] at h1dm
  clear hb_
  refine wp_else h1dm rfl ?_
  refine wp_skip ?_
  refine wp_seq ?_
  refine wp_seq ?_
  refine WL.start ?_
  refine WL.bl 1 1 h1dm [(13, i6 r1db)] (fun a1dy h1dz => ?_)
  have hS1e0 := hS1di.b1
  refine WL.oq h1dz rfl ?_
  refine owp_rn (.agg #[.slice A0q0 p0.f0.length c0q0, i6 p0.f1, i6 p0.f2.f0, .bool p0.f2.f1]) h1dz rfl (run_loadN rfl rfl Try.underlying56 rfl (cs := [.slice A0q0 p0.f0.length c0q0, i6 p0.f1, i6 p0.f2.f0, .bool p0.f2.f1]) (by kernel_rfl) (hS1e0.cells (vs := [.slice A0q0 p0.f0.length c0q0, i6 p0.f1, i6 p0.f2.f0, .bool p0.f2.f1]) rfl)) (fun a1e1 h1e2 => ?_)
  have hS1e3 := hS1e0.b1
  obtain ⟨r1e5, A1e4, H⟩ := bind1 H
  refine WL.oq h1e2 rfl ?_
  refine owp_call [.agg #[.slice A0q0 p0.f0.length c0q0, i6 p0.f1, i6 p0.f2.f0, .bool p0.f2.f1]] h1e2 rfl (by kernel_rfl) rfl Try.func51 (by kernel_rfl) rfl (by kernel_rfl) (louverref13qR_Last.calls (p0 := (⟨p0.f0, p0.f1, (⟨p0.f2.f0, p0.f2.f1⟩ : S41)⟩ : S56)) hp0q0.rds A1e4 (hS1e3.pool)) (fun e1e7 W1e6 hp1e8 => ?_)
  obtain ⟨rfl, hS1eb⟩ := hp1e8
  have hS1ec : St b w0 W1e6 R (M0q0 :: (bx g1cx 56 [.slice A0q0 p0.f0.length c0q0, i6 p0.f1, i6 p0.f2.f0, .bool p0.f2.f1]) :: (bx g1d2 56 [.slice none 0 0, i6 0, i6 0, .bool false]) :: Fs) := hS1eb.unpool
  refine ⟨_, rfl, fun a1e9 h1ea => ?_⟩
  refine WL.bl 1 4 h1ea [(16, .bool (decide (r1db ≥ r1e5)))] (fun a1ed h1ee => ?_)
  refine WL.dn ?_
  clear h1dm a1dl h1dz a1dy h1e2 a1e1 h1ea a1e9
  refine wp_meet (I := fun a_ W_ => ∃ kq_, ∃ (x1ew : S56), ∃ (M1ex : Frag), Hd a_ 41 [(2, pt g1cx), (4, pt g1d2), (5, i6 r1db)] ∧ Asd (louverref13qR_Drop.j0 kq_ x1ew r1db = some r0q) ∧ Asd (kq_ ≤ k) ∧ Asd (St b w0 W_ R (M1ex :: (bx g1d2 56 [.slice none 0 0, i6 0, i6 0, .bool false]) :: Fs)) ∧ Asd (Ptr k56 56 b w0 R (pt g1cx) x1ew M1ex)) ?_ ?_
  ·by_cases c1ez : r1db ≥ r1e5
   ·rw [if_pos c1ez] at H
    have hb_ : (decide (r1db ≥ r1e5)) = true := decide_eq_true c1ez
    try rw [hb_] at h1ee
    clear hb_
    refine wp_then h1ee rfl ?_
    refine WL.start ?_
    refine WL.bl 1 1 h1ee [(17, .pointer (some ⟨g1cx, 1, none⟩))] (fun a1f0 h1f1 => ?_)
    have hS1f2 := hS1ec.b1
    refine WL.oq h1f1 rfl ?_
    refine owp_rn (i6 p0.f1) h1f1 rfl (run_load1 rfl rfl Try.underlying3 rfl (hS1f2.cell (i := 1) rfl)) (fun a1f3 h1f4 => ?_)
    refine WL.bl 2 4 h1f4 [(20, .pointer (some ⟨g1cx, 1, none⟩)), (19, i6 (IntKind.i64.wrap (p0.f1 - 1)))] (fun a1f5 h1f6 => ?_)
    refine WL.oq h1f6 rfl ?_
    refine owp_st 1 [i6 (IntKind.i64.wrap (p0.f1 - 1))] h1f6 rfl rfl rfl hS1f2 [.slice A0q0 p0.f0.length c0q0, i6 (IntKind.i64.wrap (p0.f1 - 1)), i6 p0.f2.f0, .bool p0.f2.f1] (fun a1f7 W1f9 h1f8 hS1fa => ?_)
    refine WL.dn ?_
    have hS1fb := hS1fa.b1
    have hS1fc := hS1fb.b1
    obtain ⟨M1fd, hp1fe, hS1ff⟩ := k56qfo (⟨p0.f0, IntKind.i64.wrap (p0.f1 - 1), (⟨p0.f2.f0, p0.f2.f1⟩ : S41)⟩ : S56) hp0q0 hS1fc
    exact ⟨k, (⟨p0.f0, IntKind.i64.wrap (p0.f1 - 1), (⟨p0.f2.f0, p0.f2.f1⟩ : S41)⟩ : S56), M1fd, h1f8.keep ⟨rfl, rfl, rfl, trivial⟩, ⟨H⟩, ⟨by omega⟩, ⟨hS1ff⟩, ⟨hp1fe⟩⟩
   ·rw [if_neg c1ez] at H
    have hb_ : (decide (r1db ≥ r1e5)) = false := decide_eq_false c1ez
    try rw [hb_] at h1ee
    clear hb_
    refine wp_else h1ee rfl ?_
    refine wp_skip ?_
    have hS1fg := hS1ec.b1
    obtain ⟨M1fh, hp1fi, hS1fj⟩ := k56qfo (⟨p0.f0, p0.f1, (⟨p0.f2.f0, p0.f2.f1⟩ : S41)⟩ : S56) hp0q0 hS1fg
    exact ⟨k, (⟨p0.f0, p0.f1, (⟨p0.f2.f0, p0.f2.f1⟩ : S41)⟩ : S56), M1fh, h1ee.keep ⟨rfl, rfl, rfl, trivial⟩, ⟨H⟩, ⟨by omega⟩, ⟨hS1fj⟩, ⟨hp1fi⟩⟩
  ·clear H hS1ec
   rintro a1es W1et ⟨kk1ev, x1ew, M1ex, h1er, ⟨H⟩, ⟨hkkk1ev⟩, ⟨hS1eu⟩, ⟨hr1ey⟩⟩
   obtain _ | kk1fk := kk1ev
   ·exact absurd H (by simp [louverref13qR_Drop.j0])
   simp only [louverref13qR_Drop.j0] at H
   refine wp_seq ?_
   refine WL.start ?_
   refine WL.oq h1er rfl ?_
   refine owp_nw (fun g_ => .slice (some ⟨g_, 0, none⟩) 0 0) (.cells ([] : List Value).toArray 61 (0, 0)) h1er rfl hS1eu (fun a1fl W1fn g1fo h1fm hS1fp => ?_)
   have hr1fq : Row k61 61 b w0 R (.slice (some ⟨g1fo, 0, none⟩) 0 0) ([] : List S61) (bx g1fo 61 []) := Row.lit (xs := ([] : List S61)) (Mi := []) ⟨rfl, rfl⟩ (by simp [maxLen])
   refine WL.bl 1 2 h1fm [(6, .slice (some ⟨g1fo, 0, none⟩) 0 0)] (fun a1fr h1fs => ?_)
   refine WL.dn ?_
   refine wp_seq ?_
   refine WL.start ?_
   refine WL.bl 1 1 h1fs [(22, .slice (some ⟨g1fo, 0, none⟩) 0 0)] (fun a1ft h1fu => ?_)
   have hS1fv := hS1fp.b1
   obtain ⟨A1fx, c1fy, M1fz, hr1g0, hS1fw⟩ := k56qoq hr1ey hS1fv
   refine WL.bl 1 2 h1fu [(23, pt g1cx)] (fun a1g1 h1g2 => ?_)
   refine WL.oq h1g2 rfl ?_
   refine owp_rn (.slice A1fx x1ew.f0.length c1fy) h1g2 rfl (run_load1 rfl rfl Try.underlying54 rfl (hS1fw.cell (i := 0) rfl)) (fun a1g3 h1g4 => ?_)
   refine WL.bl 1 4 h1g4 [(25, i6 r1db)] (fun a1g5 h1g6 => ?_)
   clear h1er a1es h1fm a1fl h1fs a1fr h1fu a1ft h1g2 a1g1 h1g4 a1g3
   by_cases c1g7 : 0 ≤ r1db
   ·rw [if_pos c1g7] at H
    by_cases c1g8 : r1db ≤ (x1ew.f0.length : Int)
    ·rw [if_pos c1g8] at H
     refine WL.oq h1g6 rfl ?_
     refine owp_rn (sliced A1fx (0 : Int).toNat r1db.toNat c1fy 6) h1g6 rfl (run_cut (l := 0) (h := r1db) rfl rfl Try.underlying54 (by kernel_rfl) rfl ⟨_, rfl⟩ (by first | assumption | omega) (by first | assumption | omega) (by have q_ := Rds.cap hr1g0.rds; omega) (by have q_ := Rds.cap hr1g0.rds; omega)) (fun a1ga h1gb => ?_)
     have hx1g9 := Rds.cut hr1g0.rds (l := (0 : Int).toNat) (h := r1db.toNat) (by omega) (by omega)
     obtain ⟨v1gc, ev1gd⟩ : ∃ y_, y_ = sliced A1fx (0 : Int).toNat r1db.toNat c1fy 6 := ⟨_, rfl⟩
     have hx_ : Rds k61 b w0 (M1fz ++ R) v1gc (x1ew.f0.take r1db.toNat) := hx1g9.as_ ev1gd.symm (by simp)
     rw [← ev1gd] at h1gb; clear hx1g9
     have hx1g9 := hx_; clear hx_
     obtain ⟨A1ge, c1gf, rfl⟩ := hx1g9.form
     clear h1g6 a1g5
     by_cases c1gg : ([] : List S61).length + (x1ew.f0.take r1db.toNat).length ≤ 2932031007402
     ·rw [if_pos c1gg] at H
      have hS1gh := hS1fw.b1
      have hS1gi := hS1gh.b2
      refine WL.oq h1gb rfl ?_
      refine owp_app_rds (z := .agg #[.int .u32 0, .string (mkS []), .bool false, .bool false, i6 0, .bool false]) (bytes := 48) (dk := k61) h1gb rfl (by kernel_rfl) rfl rfl rfl k61qflat (Row.mono (up (M := M1fz)) hr1fq) hx1g9 (hS1gi.bring 1 rfl rfl).pool Try.underlying54 (by kernel_rfl) rfl (by decide) (by decide) (by first | omega | (simp only [List.length_cons, List.length_nil] at *; omega)) (fun a1gj W1gl v1gm M1gn h1gk hr1go hS1gp => ?_)
      replace hr1go := Row.ind (R' := R) k61qind hr1go
      replace hS1gp := hS1gp.unpool.bring 1 rfl rfl
      obtain ⟨y1gq, hy1gr, H⟩ := lete H
      have hr1gs : Row k61 61 b w0 R v1gm y1gq M1gn := by rw [hy1gr]; exact hr1go
      clear hr1go
      obtain ⟨A1gt, c1gu, rfl⟩ := hr1gs.form
      refine WL.bl 1 7 h1gk [(6, .slice A1gt y1gq.length c1gu)] (fun a1gv h1gw => ?_)
      refine WL.dn ?_
      refine wp_seq ?_
      refine WL.start ?_
      refine WL.bl 2 2 h1gw [(29, pt g1cx), (28, .slice A1gt y1gq.length c1gu)] (fun a1gx h1gy => ?_)
      have hS1gz := hS1gp.b2
      refine WL.oq h1gy rfl ?_
      refine owp_rn (.slice A1fx x1ew.f0.length c1fy) h1gy rfl (run_load1 rfl rfl Try.underlying54 rfl (hS1gz.cell (i := 0) rfl)) (fun a1h0 h1h1 => ?_)
      refine WL.bl 2 5 h1h1 [(32, i6 (IntKind.i64.wrap (r1db + 1))), (31, i6 r1db)] (fun a1h2 h1h3 => ?_)
      clear h1gb a1ga h1gk a1gj h1gw a1gv h1gy a1gx h1h1 a1h0
      by_cases c1h4 : 0 ≤ (IntKind.i64.wrap (r1db + 1))
      ·rw [if_pos c1h4] at H
       by_cases c1h5 : (IntKind.i64.wrap (r1db + 1)) ≤ (x1ew.f0.length : Int)
       ·rw [if_pos c1h5] at H
        refine WL.oq h1h3 rfl ?_
        refine owp_rn (sliced A1fx (IntKind.i64.wrap (r1db + 1)).toNat (x1ew.f0.length : Int).toNat c1fy 6) h1h3 rfl (run_cut (l := IntKind.i64.wrap (r1db + 1)) (h := (x1ew.f0.length : Int)) rfl rfl Try.underlying54 (by kernel_rfl) ⟨_, rfl⟩ rfl (by first | assumption | omega) (by first | assumption | omega) (by have q_ := Rds.cap hr1g0.rds; omega) (by have q_ := Rds.cap hr1g0.rds; omega)) (fun a1h7 h1h8 => ?_)
        have hx1h6 := Rds.cut hr1g0.rds (l := (IntKind.i64.wrap (r1db + 1)).toNat) (h := (x1ew.f0.length : Int).toNat) (by omega) (by omega)
        obtain ⟨v1h9, ev1ha⟩ : ∃ y_, y_ = sliced A1fx (IntKind.i64.wrap (r1db + 1)).toNat (x1ew.f0.length : Int).toNat c1fy 6 := ⟨_, rfl⟩
        have hx_ : Rds k61 b w0 (M1fz ++ R) v1h9 (x1ew.f0.drop (IntKind.i64.wrap (r1db + 1)).toNat) := hx1h6.as_ ev1ha.symm (by simp)
        rw [← ev1ha] at h1h8; clear hx1h6
        have hx1h6 := hx_; clear hx_
        obtain ⟨A1hb, c1hc, rfl⟩ := hx1h6.form
        clear h1h3 a1h2
        by_cases c1hd : y1gq.length + (x1ew.f0.drop (IntKind.i64.wrap (r1db + 1)).toNat).length ≤ 2932031007402
        ·rw [if_pos c1hd] at H
         have hS1he := hS1gz.b2
         have hS1hf := hS1he.b2
         refine WL.oq h1h8 rfl ?_
         refine owp_app_rds (z := .agg #[.int .u32 0, .string (mkS []), .bool false, .bool false, i6 0, .bool false]) (bytes := 48) (dk := k61) h1h8 rfl (by kernel_rfl) rfl rfl rfl k61qflat (Row.mono (up (M := M1fz)) hr1gs) hx1h6 (hS1hf.bring 1 rfl rfl).pool Try.underlying54 (by kernel_rfl) rfl (by decide) (by decide) (by first | omega | (simp only [List.length_cons, List.length_nil] at *; omega)) (fun a1hg W1hi v1hj M1hk h1hh hr1hl hS1hm => ?_)
         replace hr1hl := Row.ind (R' := R) k61qind hr1hl
         replace hS1hm := hS1hm.unpool.bring 1 rfl rfl
         obtain ⟨y1hn, hy1ho, H⟩ := lete H
         have hr1hp : Row k61 61 b w0 R v1hj y1hn M1hk := by rw [hy1ho]; exact hr1hl
         clear hr1hl
         obtain ⟨A1hq, c1hr, rfl⟩ := hr1hp.form
         refine WL.bl 1 8 h1hh [(35, pt g1cx)] (fun a1hs h1ht => ?_)
         have hS1hu := hS1hm.b2
         refine WL.oq h1ht rfl ?_
         refine owp_st 0 [.slice A1hq y1hn.length c1hr] h1ht rfl rfl rfl hS1hu [.slice A1hq y1hn.length c1hr, i6 x1ew.f1, i6 x1ew.f2.f0, .bool x1ew.f2.f1] (fun a1hv W1hx h1hw hS1hy => ?_)
         refine WL.dn ?_
         refine wp_seq ?_
         refine wp_seq ?_
         refine WL.start ?_
         refine WL.oq h1hw rfl ?_
         refine owp_rn (.agg #[.slice A1hq y1hn.length c1hr, i6 x1ew.f1, i6 x1ew.f2.f0, .bool x1ew.f2.f1]) h1hw rfl (run_loadN rfl rfl Try.underlying56 rfl (cs := [.slice A1hq y1hn.length c1hr, i6 x1ew.f1, i6 x1ew.f2.f0, .bool x1ew.f2.f1]) (by kernel_rfl) (hS1hy.cells (vs := [.slice A1hq y1hn.length c1hr, i6 x1ew.f1, i6 x1ew.f2.f0, .bool x1ew.f2.f1]) rfl)) (fun a1hz h1i0 => ?_)
         have hS1i1 := hS1hy.b1
         obtain ⟨r1i3, A1i2, H⟩ := bind1 H
         refine WL.oq h1i0 rfl ?_
         refine owp_call [.agg #[.slice A1hq y1hn.length c1hr, i6 x1ew.f1, i6 x1ew.f2.f0, .bool x1ew.f2.f1]] h1i0 rfl (by kernel_rfl) rfl Try.func51 (by kernel_rfl) rfl (by kernel_rfl) (louverref13qR_Last.calls (p0 := (⟨y1hn, x1ew.f1, (⟨x1ew.f2.f0, x1ew.f2.f1⟩ : S41)⟩ : S56)) hr1hp.rds A1i2 (hS1i1.pool)) (fun e1i5 W1i4 hp1i6 => ?_)
         obtain ⟨rfl, hS1i9⟩ := hp1i6
         have hS1ia : St b w0 W1i4 R (M1hk :: (bx g1cx 56 [.slice A1hq y1hn.length c1hr, i6 x1ew.f1, i6 x1ew.f2.f0, .bool x1ew.f2.f1]) :: M1fz :: (bx g1d2 56 [.slice none 0 0, i6 0, i6 0, .bool false]) :: Fs) := hS1i9.unpool
         refine ⟨_, rfl, fun a1i7 h1i8 => ?_⟩
         refine WL.bl 1 3 h1i8 [(38, .bool (decide (r1i3 = 0)))] (fun a1ib h1ic => ?_)
         refine WL.dn ?_
         clear h1h8 a1h7 h1hh a1hg h1ht a1hs h1hw a1hv h1i0 a1hz h1i8 a1i7
         by_cases c1id : r1i3 = 0
         ·rw [if_pos c1id] at H
          have hb_ : (decide (r1i3 = 0)) = true := decide_eq_true c1id
          try rw [hb_] at h1ic
          clear hb_
          refine wp_then h1ic rfl ?_
          refine WL.start ?_
          refine WL.bl 1 1 h1ic [(39, .pointer (some ⟨g1cx, 1, none⟩))] (fun a1ie h1if => ?_)
          have hS1ig := hS1ia.b1
          refine WL.oq h1if rfl ?_
          refine owp_st 1 [i6 0] h1if rfl rfl rfl hS1ig [.slice A1hq y1hn.length c1hr, i6 0, i6 x1ew.f2.f0, .bool x1ew.f2.f1] (fun a1ih W1ij h1ii hS1ik => ?_)
          refine WL.dn ?_
          refine wp_seq ?_
          refine WL.start ?_
          refine WL.oq h1ii rfl ?_
          refine owp_rn (.agg #[.slice A1hq y1hn.length c1hr, i6 0, i6 x1ew.f2.f0, .bool x1ew.f2.f1]) h1ii rfl (run_loadN rfl rfl Try.underlying56 rfl (cs := [.slice A1hq y1hn.length c1hr, i6 0, i6 x1ew.f2.f0, .bool x1ew.f2.f1]) (by kernel_rfl) (hS1ik.cells (vs := [.slice A1hq y1hn.length c1hr, i6 0, i6 x1ew.f2.f0, .bool x1ew.f2.f1]) rfl)) (fun a1il h1im => ?_)
          have hS1in := hS1ik.b3
          refine WL.oq h1im rfl ?_
          refine owp_st 0 [.slice A1hq y1hn.length c1hr, i6 0, i6 x1ew.f2.f0, .bool x1ew.f2.f1] h1im rfl rfl rfl hS1in [.slice A1hq y1hn.length c1hr, i6 0, i6 x1ew.f2.f0, .bool x1ew.f2.f1] (fun a1io W1iq h1ip hS1ir => ?_)
          refine WL.dn ?_
          refine wp_ret ?_
          have hS1is := hS1ir.drop_
          have hS1it := hS1is.drop_
          have hS1iu := hS1it.b1
          have hS1iv := hS1iu.drop_
          obtain rfl := Option.some.inj H
          repeat (first | with_reducible refine t1 ?_ | with_reducible refine t2 ?_ | with_reducible refine t3 ?_)
          refine body_ret (v := .agg #[.slice A1hq y1hn.length c1hr, i6 0, i6 x1ew.f2.f0, .bool x1ew.f2.f1]) h1ip (by kernel_rfl) (res_one rfl ⟨_, rfl, loadVarN Try.underlying56 rfl (cs := [.slice A1hq y1hn.length c1hr, i6 0, i6 x1ew.f2.f0, .bool x1ew.f2.f1]) (by kernel_rfl) (hS1ir.cells (vs := [.slice A1hq y1hn.length c1hr, i6 0, i6 x1ew.f2.f0, .bool x1ew.f2.f1]) rfl)⟩) ?_
          exact ⟨.slice A1hq y1hn.length c1hr, M1hk, rfl, hr1hp, hS1iv⟩
         ·rw [if_neg c1id] at H
          have hb_ : (decide (r1i3 = 0)) = false := decide_eq_false c1id
          try rw [hb_] at h1ic
          clear hb_
          refine wp_else h1ic rfl ?_
          refine wp_skip ?_
          refine wp_seq ?_
          refine WL.start ?_
          have hS1iw := hS1ia.b1
          refine WL.oq h1ic rfl ?_
          refine owp_rn (.agg #[.slice A1hq y1hn.length c1hr, i6 x1ew.f1, i6 x1ew.f2.f0, .bool x1ew.f2.f1]) h1ic rfl (run_loadN rfl rfl Try.underlying56 rfl (cs := [.slice A1hq y1hn.length c1hr, i6 x1ew.f1, i6 x1ew.f2.f0, .bool x1ew.f2.f1]) (by kernel_rfl) (hS1iw.cells (vs := [.slice A1hq y1hn.length c1hr, i6 x1ew.f1, i6 x1ew.f2.f0, .bool x1ew.f2.f1]) rfl)) (fun a1ix h1iy => ?_)
          have hS1iz := hS1iw.b3
          refine WL.oq h1iy rfl ?_
          refine owp_st 0 [.slice A1hq y1hn.length c1hr, i6 x1ew.f1, i6 x1ew.f2.f0, .bool x1ew.f2.f1] h1iy rfl rfl rfl hS1iz [.slice A1hq y1hn.length c1hr, i6 x1ew.f1, i6 x1ew.f2.f0, .bool x1ew.f2.f1] (fun a1j0 W1j2 h1j1 hS1j3 => ?_)
          refine WL.dn ?_
          refine wp_ret ?_
          have hS1j4 := hS1j3.drop_
          have hS1j5 := hS1j4.drop_
          have hS1j6 := hS1j5.b1
          have hS1j7 := hS1j6.drop_
          obtain rfl := Option.some.inj H
          repeat (first | with_reducible refine t1 ?_ | with_reducible refine t2 ?_ | with_reducible refine t3 ?_)
          refine body_ret (v := .agg #[.slice A1hq y1hn.length c1hr, i6 x1ew.f1, i6 x1ew.f2.f0, .bool x1ew.f2.f1]) h1j1 (by kernel_rfl) (res_one rfl ⟨_, rfl, loadVarN Try.underlying56 rfl (cs := [.slice A1hq y1hn.length c1hr, i6 x1ew.f1, i6 x1ew.f2.f0, .bool x1ew.f2.f1]) (by kernel_rfl) (hS1j3.cells (vs := [.slice A1hq y1hn.length c1hr, i6 x1ew.f1, i6 x1ew.f2.f0, .bool x1ew.f2.f1]) rfl)⟩) ?_
          exact ⟨.slice A1hq y1hn.length c1hr, M1hk, rfl, hr1hp, hS1j7⟩
        ·rw [if_neg c1hd] at H
         cases H
       ·rw [if_neg c1h5] at H
        cases H
      ·rw [if_neg c1h4] at H
       cases H
     ·rw [if_neg c1gg] at H
      cases H
    ·rw [if_neg c1g8] at H
     cases H
   ·rw [if_neg c1g7] at H
    cases H

/-! ### louver/louverlaw13.step -/
def louverlaw13qstep.f (k : Nat) (p0 : S69) (p1 : S56) (p2 : S45) : Option (Bool × S56 × S69) := if p2.f0 = 0 then (bnd2 (louverref13qR_Open.f k (⟨p1.f0, p1.f1, (⟨p1.f2.f0, p1.f2.f1⟩ : S41)⟩ : S56) p2.f1 p2.f2) fun r22x r22y => (bnd2 (turns_Ring_Open.f k p0 p2.f1 p2.f2) fun r26r r26s => (some ((r26r == r22y), (⟨r22x.f0, r22x.f1, (⟨r22x.f2.f0, r22x.f2.f1⟩ : S41)⟩ : S56), r26s)))) else (if p2.f0 = 1 then (if ([] : List Int).length + p2.f3.length ≤ 140737488355328 then (lt1 (([] : List Int) ++ p2.f3 : List Int) fun y287 => (bnd2 (louverref13qR_Put.f k (⟨p1.f0, p1.f1, (⟨p1.f2.f0, p1.f2.f1⟩ : S41)⟩ : S56) p2.f1 (toS p2.f3) p2.f4) fun r28y r28z => (bnd2 (turns_Ring_Put.f k p0 p2.f1 y287 p2.f4) fun r2a0 r2a1 => (lt1 (List.replicate y287.length (0 : Int) : List Int) fun y2al => (some ((r2a0 == r28z), (⟨r28y.f0, r28y.f1, (⟨r28y.f2.f0, r28y.f2.f1⟩ : S41)⟩ : S56), r2a1)))))) else (none)) else (if p2.f0 = 2 then (bnd5 (louverref13qR_Next.f k (⟨p1.f0, p1.f1, (⟨p1.f2.f0, p1.f2.f1⟩ : S41)⟩ : S56) p2.f2) fun r2d1 r2d2 r2d3 r2d4 r2d5 => (bnd5 (turns_Ring_Next.f k p0 p2.f2) fun r2e1 r2e2 r2e3 r2e4 r2e5 => (if r2e1 = r2d2 then (if (toS r2e2) = r2d3 then (if (r2e3 == r2d4) = true then (lt1 (List.replicate r2e2.length (0 : Int) : List Int) fun y2fo => (some ((r2e4 == r2d5), (⟨r2d1.f0, r2d1.f1, (⟨r2d1.f2.f0, r2d1.f2.f1⟩ : S41)⟩ : S56), r2e5))) else (lt1 (List.replicate r2e2.length (0 : Int) : List Int) fun y2hp => (some (false, (⟨r2d1.f0, r2d1.f1, (⟨r2d1.f2.f0, r2d1.f2.f1⟩ : S41)⟩ : S56), r2e5)))) else (lt1 (List.replicate r2e2.length (0 : Int) : List Int) fun y2jy => (some (false, (⟨r2d1.f0, r2d1.f1, (⟨r2d1.f2.f0, r2d1.f2.f1⟩ : S41)⟩ : S56), r2e5)))) else (lt1 (List.replicate r2e2.length (0 : Int) : List Int) fun y2mh => (some (false, (⟨r2d1.f0, r2d1.f1, (⟨r2d1.f2.f0, r2d1.f2.f1⟩ : S41)⟩ : S56), r2e5)))))) else (if p2.f0 = 3 then (bnd2 (louverref13qR_Grow.f k (⟨p1.f0, p1.f1, (⟨p1.f2.f0, p1.f2.f1⟩ : S41)⟩ : S56) p2.f1 p2.f5) fun r2oj r2ok => (bnd2 (turns_Ring_Grow.f k p0 p2.f1 p2.f5) fun r2st r2su => (bnd1 (louverlaw13qtold.f r2ok) fun r2t4 => (some ((decide (r2st.f0 = r2t4.f0) && decide (r2st.f1 = r2t4.f1)), (⟨r2oj.f0, r2oj.f1, (⟨r2oj.f2.f0, r2oj.f2.f1⟩ : S41)⟩ : S56), r2su))))) else (if p2.f0 = 4 then (bnd2 (louverref13qR_Shift.f k (⟨p1.f0, p1.f1, (⟨p1.f2.f0, p1.f2.f1⟩ : S41)⟩ : S56) p2.f5 p2.f6) fun r2ub r2uc => (bnd2 (turns_Ring_Shift.f k p0 p2.f5 p2.f6) fun r2yl r2ym => (bnd1 (louverlaw13qtold.f r2uc) fun r2yw => (some ((decide (r2yl.f0 = r2yw.f0) && decide (r2yl.f1 = r2yw.f1)), (⟨r2ub.f0, r2ub.f1, (⟨r2ub.f2.f0, r2ub.f2.f1⟩ : S41)⟩ : S56), r2ym))))) else (bnd1 (turns_Ring_Drop.f k p0 p2.f1) fun r2zs => (bnd1 (louverref13qR_Drop.f k (⟨p1.f0, p1.f1, (⟨p1.f2.f0, p1.f2.f1⟩ : S41)⟩ : S56) p2.f1) fun r30b => (some (true, (⟨r30b.f0, r30b.f1, (⟨r30b.f2.f0, r30b.f2.f1⟩ : S41)⟩ : S56), r2zs))))))))
set_option maxHeartbeats 20000000 in
set_option maxRecDepth 100000 in
theorem louverlaw13qstep.calls (k : Nat) {b : Nat} {w0 W : World} {R : Frag} {Fs : List Frag} {p0 : S69} {p1 : S56} {p2 : S45} {v1q0 : Value} {v2q3 : Value} {v0 : Value} {M0 : Frag} {M1q0 : Frag} {r0q : Bool} {r1q : S56} {r2q : S69} (hp0 : Ptr k69 69 b w0 R v0 p0 M0) (hp1q0 : Row k61 61 b w0 R v1q0 p1.f0 M1q0) (hp2q3 : Rds (kInt .u8) b w0 R v2q3 p2.f3) (H : louverlaw13qstep.f k p0 p1 p2 = some (r0q, r1q, r2q)) (hS : St b w0 W R (M1q0 :: M0 :: Fs)) :
  Calls Try.prog 22 ([v0, .agg #[v1q0, i6 p1.f1, i6 p1.f2.f0, .bool p1.f2.f1], .agg #[i6 p2.f0, .int .u32 p2.f1, i6 p2.f2, v2q3, .bool p2.f4, .int .u32 p2.f5, .int .u32 p2.f6]] : List Value).toArray W (fun e W' => ∃ (u1qv1qf0 : Value) (Nu1qv1qf0 : Frag) (O0q : Frag), e = .returned (.tuple #[.bool r0q, .agg #[u1qv1qf0, i6 r1q.f1, i6 r1q.f2.f0, .bool r1q.f2.f1]]) ∧ Row k61 61 b w0 R u1qv1qf0 r1q.f0 Nu1qv1qf0 ∧ Ptr k69 69 b w0 R v0 r2q O0q ∧ St b w0 W' R (Nu1qv1qf0 :: O0q :: Fs)) := by
 obtain ⟨A1q0, c1q0, rfl⟩ := hp1q0.form
 obtain ⟨A2q3, c2q3, rfl⟩ := hp2q3.form
 unfold louverlaw13qstep.f at H
 refine calls_enter Try.func22 rfl 173 rfl (by kernel_rfl) (fun a h => ?_)
 refine wp_seq ?_
 refine WL.start ?_
 refine WL.oq h rfl ?_
 refine owp_nw (fun g_ => (pt g_)) (.cells ([.slice A1q0 p1.f0.length c1q0, i6 p1.f1, i6 p1.f2.f0, .bool p1.f2.f1] : List Value).toArray 56 (0, 0)) h rfl hS (fun a21u W21w g21x h21v hS21y => ?_)
 refine WL.oq h21v rfl ?_
 refine owp_nw (fun g_ => (pt g_)) (.cells ([i6 p2.f0, .int .u32 p2.f1, i6 p2.f2, .slice A2q3 p2.f3.length c2q3, .bool p2.f4, .int .u32 p2.f5, .int .u32 p2.f6] : List Value).toArray 45 (0, 0)) h21v rfl hS21y (fun a21z W221 g222 h220 hS223 => ?_)
 refine WL.bl 1 3 h220 [(6, .bool false)] (fun a224 h225 => ?_)
 refine WL.oq h225 rfl ?_
 refine owp_nw (fun g_ => (pt g_)) (.cells ([.slice none 0 0, i6 0, i6 0, .bool false] : List Value).toArray 56 (0, 0)) h225 rfl hS223 (fun a226 W228 g229 h227 hS22a => ?_)
 refine WL.dn ?_
 refine wp_seq ?_
 refine wp_seq ?_
 refine WL.start ?_
 refine WL.bl 1 1 h227 [(28, pt g222)] (fun a22b h22c => ?_)
 have hS22d := hS22a.b1
 refine WL.oq h22c rfl ?_
 refine owp_rn (i6 p2.f0) h22c rfl (run_load1 rfl rfl Try.underlying3 rfl (hS22d.cell (i := 0) rfl)) (fun a22e h22f => ?_)
 refine WL.dn ?_
 refine wp_block ?_
 refine wp_seq ?_
 refine WL.start ?_
 refine WL.bl 2 2 h22f [(30, .bool (decide (p2.f0 = 0))), (31, .bool (decide (p2.f0 = 0)))] (fun a22g h22h => ?_)
 refine WL.dn ?_
 clear h21v a21u h220 a21z h225 a224 h227 a226 h22c a22b h22f a22e
 by_cases c22i : p2.f0 = 0
 ·rw [if_pos c22i] at H
  have hb_ : (decide (p2.f0 = 0)) = true := decide_eq_true c22i
  try rw [hb_] at h22h
  clear hb_
  refine wp_then h22h rfl ?_
  refine wp_seq ?_
  refine WL.start ?_
  have hS22j := hS22d.b2
  refine WL.oq h22h rfl ?_
  refine owp_rn (.agg #[.slice A1q0 p1.f0.length c1q0, i6 p1.f1, i6 p1.f2.f0, .bool p1.f2.f1]) h22h rfl (run_loadN rfl rfl Try.underlying56 rfl (cs := [.slice A1q0 p1.f0.length c1q0, i6 p1.f1, i6 p1.f2.f0, .bool p1.f2.f1]) (by kernel_rfl) (hS22j.cells (vs := [.slice A1q0 p1.f0.length c1q0, i6 p1.f1, i6 p1.f2.f0, .bool p1.f2.f1]) rfl)) (fun a22k h22l => ?_)
  refine WL.bl 1 2 h22l [(34, .pointer (some ⟨g222, 1, none⟩))] (fun a22m h22n => ?_)
  have hS22o := hS22j.b1
  refine WL.oq h22n rfl ?_
  refine owp_rn (.int .u32 p2.f1) h22n rfl (run_load1 rfl rfl Try.underlying25 rfl (hS22o.cell (i := 1) rfl)) (fun a22p h22q => ?_)
  refine WL.bl 1 4 h22q [(36, .pointer (some ⟨g222, 2, none⟩))] (fun a22r h22s => ?_)
  refine WL.oq h22s rfl ?_
  refine owp_rn (i6 p2.f2) h22s rfl (run_load1 rfl rfl Try.underlying3 rfl (hS22o.cell (i := 2) rfl)) (fun a22t h22u => ?_)
  have hS22v := hS22o.b3
  obtain ⟨r22x, r22y, A22w, H⟩ := bind2 H
  refine WL.oq h22u rfl ?_
  refine owp_call [.agg #[.slice A1q0 p1.f0.length c1q0, i6 p1.f1, i6 p1.f2.f0, .bool p1.f2.f1], .int .u32 p2.f1, i6 p2.f2] h22u rfl (by kernel_rfl) rfl Try.func38 (by kernel_rfl) rfl (by kernel_rfl) (louverref13qR_Open.calls (p0 := (⟨p1.f0, p1.f1, (⟨p1.f2.f0, p1.f2.f1⟩ : S41)⟩ : S56)) k hp1q0 A22w hS22v) (fun e230 W22z hp231 => ?_)
  obtain ⟨v234, M235, rfl, hr236, hS237⟩ := hp231
  refine ⟨_, rfl, fun a232 h233 => ?_⟩
  obtain ⟨A238, c239, rfl⟩ := hr236.form
  refine WL.bl 3 9 h233 [(40, .bool r22y), (39, .agg #[.slice A238 r22x.f0.length c239, i6 r22x.f1, i6 r22x.f2.f0, .bool r22x.f2.f1]), (32, .tuple #[.agg #[.slice A238 r22x.f0.length c239, i6 r22x.f1, i6 r22x.f2.f0, .bool r22x.f2.f1], .bool r22y])] (fun a23a h23b => ?_)
  refine WL.oq h23b rfl ?_
  refine owp_nw (fun g_ => (pt g_)) (.cells ([.slice none 0 0, i6 0, i6 0, .bool false] : List Value).toArray 56 (0, 0)) h23b rfl hS237 (fun a23c W23e g23f h23d hS23g => ?_)
  refine WL.oq h23d rfl ?_
  refine owp_st 0 [.slice A238 r22x.f0.length c239, i6 r22x.f1, i6 r22x.f2.f0, .bool r22x.f2.f1] h23d rfl rfl rfl hS23g [.slice A238 r22x.f0.length c239, i6 r22x.f1, i6 r22x.f2.f0, .bool r22x.f2.f1] (fun a23h W23j h23i hS23k => ?_)
  refine WL.bl 1 12 h23i [(9, .bool r22y)] (fun a23l h23m => ?_)
  refine WL.dn ?_
  refine wp_seq ?_
  refine WT.start 11 (fun w_ => (w_.cell? ⟨g222, 1, none⟩ = some (.int .u32 p2.f1)) ∧ (w_.cell? ⟨g222, 2, none⟩ = some (i6 p2.f2)) ∧ (∀ j_ u_, ([.slice A238 r22x.f0.length c239, i6 r22x.f1, i6 r22x.f2.f0, .bool r22x.f2.f1] : List Value)[j_]? = some u_ → w_.cell? ((⟨g23f, 0, none⟩ : Addr).add j_) = some u_) ∧ True) (by kernel_rfl) #[false, false, false, false, false, false, false, false, false, false, false] 11 rfl rfl ?_
  have hS263 := hS23k.drew
  refine WT.tk 0 h23m rfl rfl v0 (fun _ _ => by kernel_rfl) ⟨(hS263.b2.cell (i := 1) rfl), (hS263.b2.cell (i := 2) rfl), (hS263.cells (vs := [.slice A238 r22x.f0.length c239, i6 r22x.f1, i6 r22x.f2.f0, .bool r22x.f2.f1]) rfl), trivial⟩ (fun a264 s266 h265 => ?_)
  refine WT.tk 1 h265 rfl rfl (.pointer (some ⟨g222, 1, none⟩)) (fun _ _ => by kernel_rfl) s266 (fun a267 s269 h268 => ?_)
  clear h22h a22g h22l a22k h22n a22m h22q a22p h22s a22r h22u a22t h233 a232 h23b a23a h23d a23c h23i a23h h23m a23l h265 a264
  refine WT.tk 3 h268 rfl rfl (.pointer (some ⟨g222, 2, none⟩)) (fun _ _ => by kernel_rfl) s269 (fun a26a s26c h26b => ?_)
  refine WT.tk 6 h26b rfl rfl (.bool r22y) (fun _ _ => by kernel_rfl) s26c (fun a26d s26f h26e => ?_)
  refine WT.tk 2 h26e rfl rfl (.int .u32 p2.f1) (fun w_ hs_ => (run_load1 rfl rfl Try.underlying25 rfl hs_.1)) s26f (fun a26g s26i h26h => ?_)
  refine WT.tk 4 h26h rfl rfl (i6 p2.f2) (fun w_ hs_ => (run_load1 rfl rfl Try.underlying3 rfl hs_.2.1)) s26i (fun a26j s26l h26k => ?_)
  refine WT.tk 8 h26k rfl rfl (.agg #[.slice A238 r22x.f0.length c239, i6 r22x.f1, i6 r22x.f2.f0, .bool r22x.f2.f1]) (fun w_ hs_ => (run_loadN rfl rfl Try.underlying56 rfl (cs := [.slice A238 r22x.f0.length c239, i6 r22x.f1, i6 r22x.f2.f0, .bool r22x.f2.f1]) (by kernel_rfl) hs_.2.2.1)) s26l (fun a26m s26o h26n => ?_)
  have hS26p := hS263.b5
  obtain ⟨r26r, r26s, A26q, H⟩ := bind2 H
  refine WT.o1 5 h26n rfl ?_
  refine owp_call [v0, .int .u32 p2.f1, i6 p2.f2] h26n rfl (by kernel_rfl) rfl Try.func9 (by kernel_rfl) rfl (by kernel_rfl) (turns_Ring_Open.calls k hp0 A26q hS26p) (fun e26u W26t hp26v => ?_)
  obtain ⟨M26y, rfl, hr26z, hS270⟩ := hp26v
  refine ⟨_, rfl, fun a26w h26x => ?_⟩
  refine ⟨.inr ⟨(hS270.b3.cell (i := 1) rfl), (hS270.b3.cell (i := 2) rfl), (hS270.b1.cells (vs := [.slice A238 r22x.f0.length c239, i6 r22x.f1, i6 r22x.f2.f0, .bool r22x.f2.f1]) rfl), trivial⟩, ?_⟩
  refine WT.tk 7 h26x rfl rfl (.bool (r26r == r22y)) (fun _ _ => by kernel_rfl) ⟨(hS270.b3.cell (i := 1) rfl), (hS270.b3.cell (i := 2) rfl), (hS270.b1.cells (vs := [.slice A238 r22x.f0.length c239, i6 r22x.f1, i6 r22x.f2.f0, .bool r22x.f2.f1]) rfl), trivial⟩ (fun a271 s273 h272 => ?_)
  refine WT.tk 9 h272 rfl rfl (.bool (r26r == r22y)) (fun _ _ => by kernel_rfl) s273 (fun a274 s276 h275 => ?_)
  have hS277 := hS270.b5
  refine WT.o1 10 h275 rfl ?_
  refine owp_st 0 [.slice A238 r22x.f0.length c239, i6 r22x.f1, i6 r22x.f2.f0, .bool r22x.f2.f1] h275 rfl rfl rfl hS277 [.slice A238 r22x.f0.length c239, i6 r22x.f1, i6 r22x.f2.f0, .bool r22x.f2.f1] (fun a278 W27a h279 hS27b => ?_)
  refine ⟨.inr ⟨(hS27b.b4.cell (i := 1) rfl), (hS27b.b4.cell (i := 2) rfl), (hS27b.b2.cells (vs := [.slice A238 r22x.f0.length c239, i6 r22x.f1, i6 r22x.f2.f0, .bool r22x.f2.f1]) rfl), trivial⟩, ?_⟩
  refine WT.dn ?_
  refine wp_ret ?_
  have hS27c := hS27b.drop_
  have hS27d := hS27c.b1
  have hS27e := hS27d.drop_
  have hS27f := hS27e.b2
  have hS27g := hS27f.drop_
  have hS27h := hS27g.b2
  have hS27i := hS27h.drop_
  have hS27j := hS27i.b1
  obtain ⟨rfl, rfl, rfl⟩ := ret3 H
  repeat (first | with_reducible refine t1 ?_ | with_reducible refine t2 ?_ | with_reducible refine t3 ?_)
  refine body_ret (v := .tuple #[.bool (r26r == r22y), .agg #[.slice A238 r22x.f0.length c239, i6 r22x.f1, i6 r22x.f2.f0, .bool r22x.f2.f1]]) h279 (by kernel_rfl) (res_many (xs := [ResultVar.tmp 6, ResultVar.cell 7 56]) rfl ⟨rfl, ⟨_, rfl, loadVarN Try.underlying56 rfl (cs := [.slice A238 r22x.f0.length c239, i6 r22x.f1, i6 r22x.f2.f0, .bool r22x.f2.f1]) (by kernel_rfl) (hS27b.cells (vs := [.slice A238 r22x.f0.length c239, i6 r22x.f1, i6 r22x.f2.f0, .bool r22x.f2.f1]) rfl)⟩, trivial⟩ rfl) ?_
  exact ⟨.slice A238 r22x.f0.length c239, M235, M26y, rfl, hr236, hr26z, hS27j⟩
 ·rw [if_neg c22i] at H
  have hb_ : (decide (p2.f0 = 0)) = false := decide_eq_false c22i
  try rw [hb_] at h22h
  clear hb_
  refine wp_else h22h rfl ?_
  refine wp_seq ?_
  refine WL.start ?_
  refine WL.bl 2 2 h22h [(50, .bool (decide (p2.f0 = 1))), (51, .bool (decide (p2.f0 = 1)))] (fun a27k h27l => ?_)
  refine WL.dn ?_
  clear h22h a22g
  by_cases c27m : p2.f0 = 1
  ·rw [if_pos c27m] at H
   have hb_ : (decide (p2.f0 = 1)) = true := decide_eq_true c27m
   try rw [hb_] at h27l
   clear hb_
   refine wp_then h27l rfl ?_
   refine wp_seq ?_
   refine WL.start ?_
   refine WL.oq h27l rfl ?_
   refine owp_nw (fun g_ => .slice (some ⟨g_, 0, none⟩) 0 0) (.cells ([] : List Value).toArray 5 (0, 0)) h27l rfl hS22d (fun a27n W27p g27q h27o hS27r => ?_)
   have hr27s : Row (kInt .u8) 5 b w0 R (.slice (some ⟨g27q, 0, none⟩) 0 0) ([] : List Int) (bx g27q 5 []) := Row.lit (xs := ([] : List Int)) (Mi := []) ⟨rfl, rfl⟩ (by simp [maxLen])
   refine WL.bl 1 2 h27o [(53, .pointer (some ⟨g222, 3, none⟩))] (fun a27t h27u => ?_)
   have hS27v := hS27r.b1
   refine WL.oq h27u rfl ?_
   refine owp_rn (.slice A2q3 p2.f3.length c2q3) h27u rfl (run_load1 rfl rfl Try.underlying27 rfl (hS27v.cell (i := 3) rfl)) (fun a27w h27x => ?_)
   clear h27l a27k h27o a27n h27u a27t
   by_cases c27y : ([] : List Int).length + p2.f3.length ≤ 140737488355328
   ·rw [if_pos c27y] at H
    have hS27z := hS27v.b1
    refine WL.oq h27x rfl ?_
    refine owp_app_rds (z := .int .u8 0) (bytes := 1) (dk := (kInt .u8)) h27x rfl (by kernel_rfl) rfl rfl rfl (kInt_flat _) hr27s hp2q3 hS27z Try.underlying27 (by kernel_rfl) rfl (by decide) (by decide) (by first | omega | (simp only [List.length_cons, List.length_nil] at *; omega)) (fun a280 W282 v283 M284 h281 hr285 hS286 => ?_)
    obtain ⟨y287, hy288, H⟩ := lete H
    have hr289 : Row (kInt .u8) 5 b w0 R v283 y287 M284 := by rw [hy288]; exact hr285
    clear hr285
    obtain ⟨A28a, c28b, rfl⟩ := hr289.form
    refine WL.bl 1 5 h281 [(10, .slice A28a y287.length c28b)] (fun a28c h28d => ?_)
    refine WL.dn ?_
    refine wp_seq ?_
    refine WL.start ?_
    have hS28e := hS286.b3
    refine WL.oq h28d rfl ?_
    refine owp_rn (.agg #[.slice A1q0 p1.f0.length c1q0, i6 p1.f1, i6 p1.f2.f0, .bool p1.f2.f1]) h28d rfl (run_loadN rfl rfl Try.underlying56 rfl (cs := [.slice A1q0 p1.f0.length c1q0, i6 p1.f1, i6 p1.f2.f0, .bool p1.f2.f1]) (by kernel_rfl) (hS28e.cells (vs := [.slice A1q0 p1.f0.length c1q0, i6 p1.f1, i6 p1.f2.f0, .bool p1.f2.f1]) rfl)) (fun a28f h28g => ?_)
    refine WL.bl 1 2 h28g [(58, .pointer (some ⟨g222, 1, none⟩))] (fun a28h h28i => ?_)
    have hS28j := hS28e.b2
    refine WL.oq h28i rfl ?_
    refine owp_rn (.int .u32 p2.f1) h28i rfl (run_load1 rfl rfl Try.underlying25 rfl (hS28j.cell (i := 1) rfl)) (fun a28k h28l => ?_)
    refine WL.bl 1 4 h28l [(60, .pointer (some ⟨g222, 3, none⟩))] (fun a28m h28n => ?_)
    refine WL.oq h28n rfl ?_
    refine owp_rn (.slice A2q3 p2.f3.length c2q3) h28n rfl (run_load1 rfl rfl Try.underlying27 rfl (hS28j.cell (i := 3) rfl)) (fun a28o h28p => ?_)
    refine WL.oq h28p rfl ?_
    refine owp_rn (.string (mkS (toS p2.f3))) h28p rfl (run_tostr rfl rfl hp2q3 (fun _ _ hk_ => hS28j.kn hk_) Try.underlying27 Try.underlying5 Try.underlying9) (fun a28q h28r => ?_)
    refine WL.bl 1 7 h28r [(63, .pointer (some ⟨g222, 4, none⟩))] (fun a28s h28t => ?_)
    refine WL.oq h28t rfl ?_
    refine owp_rn (.bool p2.f4) h28t rfl (run_load1 rfl rfl Try.underlying4 rfl (hS28j.cell (i := 4) rfl)) (fun a28u h28v => ?_)
    have hS28w := hS28j.b4
    obtain ⟨r28y, r28z, A28x, H⟩ := bind2 H
    refine WL.oq h28v rfl ?_
    refine owp_call [.agg #[.slice A1q0 p1.f0.length c1q0, i6 p1.f1, i6 p1.f2.f0, .bool p1.f2.f1], .int .u32 p2.f1, .string (mkS (toS p2.f3)), .bool p2.f4] h28v rfl (by kernel_rfl) rfl Try.func39 (by kernel_rfl) rfl (by kernel_rfl) (louverref13qR_Put.calls (p0 := (⟨p1.f0, p1.f1, (⟨p1.f2.f0, p1.f2.f1⟩ : S41)⟩ : S56)) k hp1q0 A28x hS28w) (fun e291 W290 hp292 => ?_)
    obtain ⟨v295, M296, rfl, hr297, hS298⟩ := hp292
    refine ⟨_, rfl, fun a293 h294 => ?_⟩
    obtain ⟨A299, c29a, rfl⟩ := hr297.form
    refine WL.bl 3 12 h294 [(67, .bool r28z), (66, .agg #[.slice A299 r28y.f0.length c29a, i6 r28y.f1, i6 r28y.f2.f0, .bool r28y.f2.f1]), (56, .tuple #[.agg #[.slice A299 r28y.f0.length c29a, i6 r28y.f1, i6 r28y.f2.f0, .bool r28y.f2.f1], .bool r28z])] (fun a29b h29c => ?_)
    clear h27x a27w h281 a280 h28d a28c h28g a28f h28i a28h h28l a28k h28n a28m h28p a28o h28r a28q h28t a28s h28v a28u h294 a293
    refine WL.oq h29c rfl ?_
    refine owp_nw (fun g_ => (pt g_)) (.cells ([.slice none 0 0, i6 0, i6 0, .bool false] : List Value).toArray 56 (0, 0)) h29c rfl hS298 (fun a29d W29f g29g h29e hS29h => ?_)
    refine WL.oq h29e rfl ?_
    refine owp_st 0 [.slice A299 r28y.f0.length c29a, i6 r28y.f1, i6 r28y.f2.f0, .bool r28y.f2.f1] h29e rfl rfl rfl hS29h [.slice A299 r28y.f0.length c29a, i6 r28y.f1, i6 r28y.f2.f0, .bool r28y.f2.f1] (fun a29i W29k h29j hS29l => ?_)
    refine WL.bl 1 15 h29j [(12, .bool r28z)] (fun a29m h29n => ?_)
    refine WL.dn ?_
    refine wp_seq ?_
    refine WL.start ?_
    refine WL.bl 2 2 h29n [(69, .pointer (some ⟨g222, 1, none⟩)), (68, v0)] (fun a29o h29p => ?_)
    have hS29q := hS29l.b2
    refine WL.oq h29p rfl ?_
    refine owp_rn (.int .u32 p2.f1) h29p rfl (run_load1 rfl rfl Try.underlying25 rfl (hS29q.cell (i := 1) rfl)) (fun a29r h29s => ?_)
    refine WL.bl 2 5 h29s [(72, .pointer (some ⟨g222, 4, none⟩)), (71, .slice A28a y287.length c28b)] (fun a29t h29u => ?_)
    refine WL.oq h29u rfl ?_
    refine owp_rn (.bool p2.f4) h29u rfl (run_load1 rfl rfl Try.underlying4 rfl (hS29q.cell (i := 4) rfl)) (fun a29v h29w => ?_)
    have hS29x := hS29q.b6
    have hS29y := hS29x.b5
    obtain ⟨r2a0, r2a1, A29z, H⟩ := bind2 H
    refine WL.oq h29w rfl ?_
    refine owp_call [v0, .int .u32 p2.f1, .slice A28a y287.length c28b, .bool p2.f4] h29w rfl (by kernel_rfl) rfl Try.func10 (by kernel_rfl) rfl (by kernel_rfl) (turns_Ring_Put.calls k (hp0.mono (fun _ hp_ => List.mem_append_right _ hp_)) hr289.rds A29z (hS29y.pool)) (fun e2a3 W2a2 hp2a4 => ?_)
    obtain ⟨M2a7, rfl, hr2a8, hS2a9⟩ := hp2a4
    have hS2aa : St b w0 W2a2 R (M284 :: M2a7 :: (bx g222 45 [i6 p2.f0, .int .u32 p2.f1, i6 p2.f2, .slice A2q3 p2.f3.length c2q3, .bool p2.f4, .int .u32 p2.f5, .int .u32 p2.f6]) :: (bx g29g 56 [.slice A299 r28y.f0.length c29a, i6 r28y.f1, i6 r28y.f2.f0, .bool r28y.f2.f1]) :: M296 :: (bx g21x 56 [.slice A1q0 p1.f0.length c1q0, i6 p1.f1, i6 p1.f2.f0, .bool p1.f2.f1]) :: (bx g229 56 [.slice none 0 0, i6 0, i6 0, .bool false]) :: Fs) := hS2a9.unpool
    replace hr2a8 : Ptr k69 69 b w0 R v0 r2a1 M2a7 := hr2a8.ind k69qind
    refine ⟨_, rfl, fun a2a5 h2a6 => ?_⟩
    refine WL.bl 1 8 h2a6 [(13, .bool r2a0)] (fun a2ab h2ac => ?_)
    refine WL.dn ?_
    refine wp_seq ?_
    refine WL.start ?_
    refine WL.bl 1 1 h2ac [(75, .slice A28a y287.length c28b)] (fun a2ad h2ae => ?_)
    refine WL.oq h2ae rfl ?_
    refine owp_clear1 (ty := 0) (z := .int .u8 0) (z0 := (0 : Int)) h2ae rfl (by kernel_rfl) rfl rfl hr289 hS2aa Try.underlying27 (by kernel_rfl) (fun _ _ _ => ⟨rfl, rfl⟩) rfl rfl (fun a2af W2ah M2ai h2ag hr2aj hS2ak => ?_)
    obtain ⟨y2al, hy2am, H⟩ := lete H
    have hl2an : y2al.length = y287.length := by simp [hy2am]
    have hr2ao : Row (kInt .u8) 5 b w0 R (.slice A28a y2al.length c28b) y2al M2ai := by rw [hl2an]; rw [hy2am]; exact hr2aj
    have h2ap : Hd a2af 173 [(0, v0), (1, .agg #[.slice A1q0 p1.f0.length c1q0, i6 p1.f1, i6 p1.f2.f0, .bool p1.f2.f1]), (2, .agg #[i6 p2.f0, .int .u32 p2.f1, i6 p2.f2, .slice A2q3 p2.f3.length c2q3, .bool p2.f4, .int .u32 p2.f5, .int .u32 p2.f6]), (4, pt g21x), (5, pt g222), (6, .bool false), (7, pt g229), (10, .slice A28a y2al.length c28b), (11, pt g29g), (12, .bool r28z), (13, .bool r2a0), (28, pt g222), (29, i6 p2.f0), (30, .bool false), (31, .bool false), (50, .bool true), (51, .bool true), (52, .slice (some ⟨g27q, 0, none⟩) 0 0), (53, .pointer (some ⟨g222, 3, none⟩)), (54, .slice A2q3 p2.f3.length c2q3), (55, .slice A28a y2al.length c28b), (56, .tuple #[.agg #[.slice A299 r28y.f0.length c29a, i6 r28y.f1, i6 r28y.f2.f0, .bool r28y.f2.f1], .bool r28z]), (57, .agg #[.slice A1q0 p1.f0.length c1q0, i6 p1.f1, i6 p1.f2.f0, .bool p1.f2.f1]), (58, .pointer (some ⟨g222, 1, none⟩)), (59, .int .u32 p2.f1), (60, .pointer (some ⟨g222, 3, none⟩)), (61, .slice A2q3 p2.f3.length c2q3), (62, .string (mkS (toS p2.f3))), (63, .pointer (some ⟨g222, 4, none⟩)), (64, .bool p2.f4), (65, .tuple #[.agg #[.slice A299 r28y.f0.length c29a, i6 r28y.f1, i6 r28y.f2.f0, .bool r28y.f2.f1], .bool r28z]), (66, .agg #[.slice A299 r28y.f0.length c29a, i6 r28y.f1, i6 r28y.f2.f0, .bool r28y.f2.f1]), (67, .bool r28z), (68, v0), (69, .pointer (some ⟨g222, 1, none⟩)), (70, .int .u32 p2.f1), (71, .slice A28a y2al.length c28b), (72, .pointer (some ⟨g222, 4, none⟩)), (73, .bool p2.f4), (74, .bool r2a0), (75, .slice A28a y2al.length c28b)] := h2ag.keep ⟨rfl, rfl, rfl, rfl, rfl, rfl, rfl, (by rw [hl2an] <;> rfl), rfl, rfl, rfl, rfl, rfl, rfl, rfl, rfl, rfl, rfl, rfl, rfl, (by rw [hl2an] <;> rfl), rfl, rfl, rfl, rfl, rfl, rfl, rfl, rfl, rfl, rfl, rfl, rfl, rfl, rfl, rfl, (by rw [hl2an] <;> rfl), rfl, rfl, rfl, (by rw [hl2an] <;> rfl), trivial⟩
    clear h2ag
    refine WL.dn ?_
    refine wp_seq ?_
    refine WT.start 6 (fun w_ => (∀ j_ u_, ([.slice A299 r28y.f0.length c29a, i6 r28y.f1, i6 r28y.f2.f0, .bool r28y.f2.f1] : List Value)[j_]? = some u_ → w_.cell? ((⟨g29g, 0, none⟩ : Addr).add j_) = some u_) ∧ True) (by kernel_rfl) #[false, false, false, false, false, false] 6 rfl rfl ?_
    have hS2bu := hS2ak.drew
    refine WT.tk 0 h2ap rfl rfl (.bool r2a0) (fun _ _ => by kernel_rfl) ⟨(hS2bu.b3.cells (vs := [.slice A299 r28y.f0.length c29a, i6 r28y.f1, i6 r28y.f2.f0, .bool r28y.f2.f1]) rfl), trivial⟩ (fun a2bv s2bx h2bw => ?_)
    clear h29c a29b h29e a29d h29j a29i h29n a29m h29p a29o h29s a29r h29u a29t h29w a29v h2a6 a2a5 h2ac a2ab h2ae a2ad h2ap a2af
    refine WT.tk 1 h2bw rfl rfl (.bool r28z) (fun _ _ => by kernel_rfl) s2bx (fun a2by s2c0 h2bz => ?_)
    refine WT.tk 2 h2bz rfl rfl (.bool (r2a0 == r28z)) (fun _ _ => by kernel_rfl) s2c0 (fun a2c1 s2c3 h2c2 => ?_)
    refine WT.tk 4 h2c2 rfl rfl (.bool (r2a0 == r28z)) (fun _ _ => by kernel_rfl) s2c3 (fun a2c4 s2c6 h2c5 => ?_)
    refine WT.tk 3 h2c5 rfl rfl (.agg #[.slice A299 r28y.f0.length c29a, i6 r28y.f1, i6 r28y.f2.f0, .bool r28y.f2.f1]) (fun w_ hs_ => (run_loadN rfl rfl Try.underlying56 rfl (cs := [.slice A299 r28y.f0.length c29a, i6 r28y.f1, i6 r28y.f2.f0, .bool r28y.f2.f1]) (by kernel_rfl) hs_.1)) s2c6 (fun a2c7 s2c9 h2c8 => ?_)
    have hS2ca := hS2bu.b6
    refine WT.o1 5 h2c8 rfl ?_
    refine owp_st 0 [.slice A299 r28y.f0.length c29a, i6 r28y.f1, i6 r28y.f2.f0, .bool r28y.f2.f1] h2c8 rfl rfl rfl hS2ca [.slice A299 r28y.f0.length c29a, i6 r28y.f1, i6 r28y.f2.f0, .bool r28y.f2.f1] (fun a2cb W2cd h2cc hS2ce => ?_)
    refine ⟨.inr ⟨(hS2ce.b4.cells (vs := [.slice A299 r28y.f0.length c29a, i6 r28y.f1, i6 r28y.f2.f0, .bool r28y.f2.f1]) rfl), trivial⟩, ?_⟩
    refine WT.dn ?_
    refine wp_ret ?_
    have hS2cf := hS2ce.drop_
    have hS2cg := hS2cf.drop_
    have hS2ch := hS2cg.b1
    have hS2ci := hS2ch.drop_
    have hS2cj := hS2ci.b1
    have hS2ck := hS2cj.drop_
    have hS2cl := hS2ck.b2
    have hS2cm := hS2cl.drop_
    have hS2cn := hS2cm.b1
    obtain ⟨rfl, rfl, rfl⟩ := ret3 H
    repeat (first | with_reducible refine t1 ?_ | with_reducible refine t2 ?_ | with_reducible refine t3 ?_)
    refine body_ret (v := .tuple #[.bool (r2a0 == r28z), .agg #[.slice A299 r28y.f0.length c29a, i6 r28y.f1, i6 r28y.f2.f0, .bool r28y.f2.f1]]) h2cc (by kernel_rfl) (res_many (xs := [ResultVar.tmp 6, ResultVar.cell 7 56]) rfl ⟨rfl, ⟨_, rfl, loadVarN Try.underlying56 rfl (cs := [.slice A299 r28y.f0.length c29a, i6 r28y.f1, i6 r28y.f2.f0, .bool r28y.f2.f1]) (by kernel_rfl) (hS2ce.cells (vs := [.slice A299 r28y.f0.length c29a, i6 r28y.f1, i6 r28y.f2.f0, .bool r28y.f2.f1]) rfl)⟩, trivial⟩ rfl) ?_
    exact ⟨.slice A299 r28y.f0.length c29a, M296, M2a7, rfl, hr297, hr2a8, hS2cn⟩
   ·rw [if_neg c27y] at H
    cases H
  ·rw [if_neg c27m] at H
   have hb_ : (decide (p2.f0 = 1)) = false := decide_eq_false c27m
   try rw [hb_] at h27l
   clear hb_
   refine wp_else h27l rfl ?_
   refine wp_seq ?_
   refine WL.start ?_
   refine WL.bl 2 2 h27l [(80, .bool (decide (p2.f0 = 2))), (81, .bool (decide (p2.f0 = 2)))] (fun a2co h2cp => ?_)
   refine WL.dn ?_
   clear h27l a27k
   by_cases c2cq : p2.f0 = 2
   ·rw [if_pos c2cq] at H
    have hb_ : (decide (p2.f0 = 2)) = true := decide_eq_true c2cq
    try rw [hb_] at h2cp
    clear hb_
    refine wp_then h2cp rfl ?_
    refine wp_seq ?_
    refine WL.start ?_
    have hS2cr := hS22d.b2
    refine WL.oq h2cp rfl ?_
    refine owp_rn (.agg #[.slice A1q0 p1.f0.length c1q0, i6 p1.f1, i6 p1.f2.f0, .bool p1.f2.f1]) h2cp rfl (run_loadN rfl rfl Try.underlying56 rfl (cs := [.slice A1q0 p1.f0.length c1q0, i6 p1.f1, i6 p1.f2.f0, .bool p1.f2.f1]) (by kernel_rfl) (hS2cr.cells (vs := [.slice A1q0 p1.f0.length c1q0, i6 p1.f1, i6 p1.f2.f0, .bool p1.f2.f1]) rfl)) (fun a2cs h2ct => ?_)
    refine WL.bl 1 2 h2ct [(84, .pointer (some ⟨g222, 2, none⟩))] (fun a2cu h2cv => ?_)
    have hS2cw := hS2cr.b1
    refine WL.oq h2cv rfl ?_
    refine owp_rn (i6 p2.f2) h2cv rfl (run_load1 rfl rfl Try.underlying3 rfl (hS2cw.cell (i := 2) rfl)) (fun a2cx h2cy => ?_)
    have hS2cz := hS2cw.b3
    obtain ⟨r2d1, r2d2, r2d3, r2d4, r2d5, A2d0, H⟩ := bind5 H
    refine WL.oq h2cy rfl ?_
    refine owp_call [.agg #[.slice A1q0 p1.f0.length c1q0, i6 p1.f1, i6 p1.f2.f0, .bool p1.f2.f1], i6 p2.f2] h2cy rfl (by kernel_rfl) rfl Try.func40 (by kernel_rfl) rfl (by kernel_rfl) (louverref13qR_Next.calls (p0 := (⟨p1.f0, p1.f1, (⟨p1.f2.f0, p1.f2.f1⟩ : S41)⟩ : S56)) k hp1q0 A2d0 hS2cz) (fun e2d7 W2d6 hp2d8 => ?_)
    obtain ⟨v2db, M2dc, rfl, hr2dd, hS2de⟩ := hp2d8
    refine ⟨_, rfl, fun a2d9 h2da => ?_⟩
    obtain ⟨A2df, c2dg, rfl⟩ := hr2dd.form
    refine WL.bl 6 10 h2da [(91, .bool r2d5), (90, .bool r2d4), (89, .string (mkS r2d3)), (88, .int .u32 r2d2), (87, .agg #[.slice A2df r2d1.f0.length c2dg, i6 r2d1.f1, i6 r2d1.f2.f0, .bool r2d1.f2.f1]), (82, .tuple #[.agg #[.slice A2df r2d1.f0.length c2dg, i6 r2d1.f1, i6 r2d1.f2.f0, .bool r2d1.f2.f1], .int .u32 r2d2, .string (mkS r2d3), .bool r2d4, .bool r2d5])] (fun a2dh h2di => ?_)
    refine WL.oq h2di rfl ?_
    refine owp_nw (fun g_ => (pt g_)) (.cells ([.slice none 0 0, i6 0, i6 0, .bool false] : List Value).toArray 56 (0, 0)) h2di rfl hS2de (fun a2dj W2dl g2dm h2dk hS2dn => ?_)
    refine WL.oq h2dk rfl ?_
    refine owp_st 0 [.slice A2df r2d1.f0.length c2dg, i6 r2d1.f1, i6 r2d1.f2.f0, .bool r2d1.f2.f1] h2dk rfl rfl rfl hS2dn [.slice A2df r2d1.f0.length c2dg, i6 r2d1.f1, i6 r2d1.f2.f0, .bool r2d1.f2.f1] (fun a2do W2dq h2dp hS2dr => ?_)
    refine WL.bl 4 16 h2dp [(18, .bool r2d5), (17, .bool r2d4), (16, .string (mkS r2d3)), (15, .int .u32 r2d2)] (fun a2ds h2dt => ?_)
    refine WL.dn ?_
    refine wp_seq ?_
    refine WL.start ?_
    refine WL.bl 2 2 h2dt [(94, .pointer (some ⟨g222, 2, none⟩)), (93, v0)] (fun a2du h2dv => ?_)
    have hS2dw := hS2dr.b2
    refine WL.oq h2dv rfl ?_
    refine owp_rn (i6 p2.f2) h2dv rfl (run_load1 rfl rfl Try.underlying3 rfl (hS2dw.cell (i := 2) rfl)) (fun a2dx h2dy => ?_)
    have hS2dz := hS2dw.b5
    obtain ⟨r2e1, r2e2, r2e3, r2e4, r2e5, A2e0, H⟩ := bind5 H
    refine WL.oq h2dy rfl ?_
    refine owp_call [v0, i6 p2.f2] h2dy rfl (by kernel_rfl) rfl Try.func11 (by kernel_rfl) rfl (by kernel_rfl) (turns_Ring_Next.calls k hp0 A2e0 hS2dz) (fun e2e7 W2e6 hp2e8 => ?_)
    obtain ⟨v2eb, M2ec, M2ee, rfl, hr2ed, hr2ef, hS2eg⟩ := hp2e8
    refine ⟨_, rfl, fun a2e9 h2ea => ?_⟩
    obtain ⟨A2eh, c2ei, rfl⟩ := hr2ed.form
    refine WL.bl 9 13 h2ea [(22, .bool r2e4), (21, .bool r2e3), (20, .slice A2eh r2e2.length c2ei), (19, .int .u32 r2e1), (100, .bool r2e4), (99, .bool r2e3), (98, .slice A2eh r2e2.length c2ei), (97, .int .u32 r2e1), (92, .tuple #[.int .u32 r2e1, .slice A2eh r2e2.length c2ei, .bool r2e3, .bool r2e4])] (fun a2ej h2ek => ?_)
    clear h2cp a2co h2ct a2cs h2cv a2cu h2cy a2cx h2da a2d9 h2di a2dh h2dk a2dj h2dp a2do h2dt a2ds h2dv a2du h2dy a2dx h2ea a2e9
    refine WL.dn ?_
    refine wp_seq ?_
    refine WL.start ?_
    refine WL.bl 4 4 h2ek [(104, .bool (decide (r2e1 = r2d2))), (103, .bool (decide (r2e1 = r2d2))), (102, .int .u32 r2d2), (101, .int .u32 r2e1)] (fun a2el h2em => ?_)
    clear h2ek a2ej
    by_cases c2en : r2e1 = r2d2
    ·rw [if_pos c2en] at H
     have hb_ : (decide (r2e1 = r2d2)) = true := decide_eq_true c2en
     try rw [hb_] at h2em
     clear hb_
     refine WL.oq h2em rfl (owp_rk (.slice A2eh r2e2.length c2ei) h2em rfl (fun a2eo h2ep => ?_))
     refine WL.oq h2ep rfl ?_
     refine owp_rn (.string (mkS (toS r2e2))) h2ep rfl (run_tostr rfl rfl hr2ed.rds (fun _ _ hk_ => (hS2eg).pool.kn hk_) Try.underlying27 Try.underlying5 Try.underlying9) (fun a2eq h2er => ?_)
     refine WL.oq h2er rfl (owp_rk (.string (mkS r2d3)) h2er rfl (fun a2es h2et => ?_))
     refine WL.oq h2et rfl ?_
     refine owp_rn (.bool (decide ((toS r2e2) = r2d3))) h2et rfl (run_streq rfl rfl rfl) (fun a2eu h2ev => ?_)
     refine WL.bl 2 10 h2ev [(110, .bool (decide ((toS r2e2) = r2d3))), (109, .bool (decide ((toS r2e2) = r2d3)))] (fun a2ew h2ex => ?_)
     clear h2em a2el h2ep a2eo h2er a2eq h2et a2es h2ev a2eu
     by_cases c2ey : (toS r2e2) = r2d3
     ·rw [if_pos c2ey] at H
      have hb_ : (decide ((toS r2e2) = r2d3)) = true := decide_eq_true c2ey
      try rw [hb_] at h2ex
      clear hb_
      refine WL.oq h2ex rfl (owp_rk (.bool r2e3) h2ex rfl (fun a2ez h2f0 => ?_))
      refine WL.oq h2f0 rfl (owp_rk (.bool r2d4) h2f0 rfl (fun a2f1 h2f2 => ?_))
      refine WL.oq h2f2 rfl (owp_rk (.bool (r2e3 == r2d4)) h2f2 rfl (fun a2f3 h2f4 => ?_))
      refine WL.bl 2 15 h2f4 [(115, .bool (r2e3 == r2d4)), (114, .bool (r2e3 == r2d4))] (fun a2f5 h2f6 => ?_)
      clear h2ex a2ew h2f0 a2ez h2f2 a2f1 h2f4 a2f3
      by_cases c2f7 : (r2e3 == r2d4) = true
      ·rw [if_pos c2f7] at H
       have hb_ : (r2e3 == r2d4) = true := c2f7
       try rw [hb_] at h2f6
       clear hb_
       refine WL.oq h2f6 rfl (owp_rk (.bool r2e4) h2f6 rfl (fun a2f8 h2f9 => ?_))
       refine WL.oq h2f9 rfl (owp_rk (.bool r2d5) h2f9 rfl (fun a2fa h2fb => ?_))
       refine WL.oq h2fb rfl (owp_rk (.bool (r2e4 == r2d5)) h2fb rfl (fun a2fc h2fd => ?_))
       refine WL.bl 2 20 h2fd [(23, .bool (r2e4 == r2d5)), (119, .bool (r2e4 == r2d5))] (fun a2fe h2ff => ?_)
       refine WL.dn ?_
       refine wp_seq ?_
       refine WL.start ?_
       refine WL.bl 1 1 h2ff [(120, .slice A2eh r2e2.length c2ei)] (fun a2fg h2fh => ?_)
       refine WL.oq h2fh rfl ?_
       refine owp_clear1 (ty := 0) (z := .int .u8 0) (z0 := (0 : Int)) h2fh rfl (by kernel_rfl) rfl rfl hr2ed hS2eg Try.underlying27 (by kernel_rfl) (fun _ _ _ => ⟨rfl, rfl⟩) rfl rfl (fun a2fi W2fk M2fl h2fj hr2fm hS2fn => ?_)
       obtain ⟨y2fo, hy2fp, H⟩ := lete H
       have hl2fq : y2fo.length = r2e2.length := by simp [hy2fp]
       have hr2fr : Row (kInt .u8) 5 b w0 R (.slice A2eh y2fo.length c2ei) y2fo M2fl := by rw [hl2fq]; rw [hy2fp]; exact hr2fm
       have h2fs : Hd a2fi 173 [(0, v0), (1, .agg #[.slice A1q0 p1.f0.length c1q0, i6 p1.f1, i6 p1.f2.f0, .bool p1.f2.f1]), (2, .agg #[i6 p2.f0, .int .u32 p2.f1, i6 p2.f2, .slice A2q3 p2.f3.length c2q3, .bool p2.f4, .int .u32 p2.f5, .int .u32 p2.f6]), (4, pt g21x), (5, pt g222), (6, .bool false), (7, pt g229), (14, pt g2dm), (15, .int .u32 r2d2), (16, .string (mkS r2d3)), (17, .bool r2d4), (18, .bool r2d5), (19, .int .u32 r2e1), (20, .slice A2eh y2fo.length c2ei), (21, .bool r2e3), (22, .bool r2e4), (23, .bool (r2e4 == r2d5)), (28, pt g222), (29, i6 p2.f0), (30, .bool false), (31, .bool false), (50, .bool false), (51, .bool false), (80, .bool true), (81, .bool true), (82, .tuple #[.agg #[.slice A2df r2d1.f0.length c2dg, i6 r2d1.f1, i6 r2d1.f2.f0, .bool r2d1.f2.f1], .int .u32 r2d2, .string (mkS r2d3), .bool r2d4, .bool r2d5]), (83, .agg #[.slice A1q0 p1.f0.length c1q0, i6 p1.f1, i6 p1.f2.f0, .bool p1.f2.f1]), (84, .pointer (some ⟨g222, 2, none⟩)), (85, i6 p2.f2), (86, .tuple #[.agg #[.slice A2df r2d1.f0.length c2dg, i6 r2d1.f1, i6 r2d1.f2.f0, .bool r2d1.f2.f1], .int .u32 r2d2, .string (mkS r2d3), .bool r2d4, .bool r2d5]), (87, .agg #[.slice A2df r2d1.f0.length c2dg, i6 r2d1.f1, i6 r2d1.f2.f0, .bool r2d1.f2.f1]), (88, .int .u32 r2d2), (89, .string (mkS r2d3)), (90, .bool r2d4), (91, .bool r2d5), (92, .tuple #[.int .u32 r2e1, .slice A2eh r2e2.length c2ei, .bool r2e3, .bool r2e4]), (93, v0), (94, .pointer (some ⟨g222, 2, none⟩)), (95, i6 p2.f2), (96, .tuple #[.int .u32 r2e1, .slice A2eh r2e2.length c2ei, .bool r2e3, .bool r2e4]), (97, .int .u32 r2e1), (98, .slice A2eh y2fo.length c2ei), (99, .bool r2e3), (100, .bool r2e4), (101, .int .u32 r2e1), (102, .int .u32 r2d2), (103, .bool true), (104, .bool true), (105, .slice A2eh y2fo.length c2ei), (106, .string (mkS (toS r2e2))), (107, .string (mkS r2d3)), (108, .bool true), (109, .bool true), (110, .bool true), (111, .bool r2e3), (112, .bool r2d4), (113, .bool true), (114, .bool true), (115, .bool true), (116, .bool r2e4), (117, .bool r2d5), (118, .bool (r2e4 == r2d5)), (119, .bool (r2e4 == r2d5)), (120, .slice A2eh y2fo.length c2ei)] := h2fj.keep ⟨rfl, rfl, rfl, rfl, rfl, rfl, rfl, rfl, rfl, rfl, rfl, rfl, rfl, (by rw [hl2fq] <;> rfl), rfl, rfl, rfl, rfl, rfl, rfl, rfl, rfl, rfl, rfl, rfl, rfl, rfl, rfl, rfl, rfl, rfl, rfl, rfl, rfl, rfl, rfl, rfl, rfl, rfl, rfl, rfl, (by rw [hl2fq] <;> rfl), rfl, rfl, rfl, rfl, rfl, rfl, (by rw [hl2fq] <;> rfl), rfl, rfl, rfl, rfl, rfl, rfl, rfl, rfl, rfl, rfl, rfl, rfl, rfl, rfl, (by rw [hl2fq] <;> rfl), trivial⟩
       clear h2fj
       refine WL.dn ?_
       refine wp_seq ?_
       refine WT.start 4 (fun w_ => (∀ j_ u_, ([.slice A2df r2d1.f0.length c2dg, i6 r2d1.f1, i6 r2d1.f2.f0, .bool r2d1.f2.f1] : List Value)[j_]? = some u_ → w_.cell? ((⟨g2dm, 0, none⟩ : Addr).add j_) = some u_) ∧ True) (by kernel_rfl) #[false, false, false, false] 4 rfl rfl ?_
       have hS2gl := hS2fn.drew
       refine WT.tk 0 h2fs rfl rfl (.bool (r2e4 == r2d5)) (fun _ _ => by kernel_rfl) ⟨(hS2gl.b3.cells (vs := [.slice A2df r2d1.f0.length c2dg, i6 r2d1.f1, i6 r2d1.f2.f0, .bool r2d1.f2.f1]) rfl), trivial⟩ (fun a2gm s2go h2gn => ?_)
       refine WT.tk 2 h2gn rfl rfl (.bool (r2e4 == r2d5)) (fun _ _ => by kernel_rfl) s2go (fun a2gp s2gr h2gq => ?_)
       refine WT.tk 1 h2gq rfl rfl (.agg #[.slice A2df r2d1.f0.length c2dg, i6 r2d1.f1, i6 r2d1.f2.f0, .bool r2d1.f2.f1]) (fun w_ hs_ => (run_loadN rfl rfl Try.underlying56 rfl (cs := [.slice A2df r2d1.f0.length c2dg, i6 r2d1.f1, i6 r2d1.f2.f0, .bool r2d1.f2.f1]) (by kernel_rfl) hs_.1)) s2gr (fun a2gs s2gu h2gt => ?_)
       have hS2gv := hS2gl.b6
       refine WT.o1 3 h2gt rfl ?_
       refine owp_st 0 [.slice A2df r2d1.f0.length c2dg, i6 r2d1.f1, i6 r2d1.f2.f0, .bool r2d1.f2.f1] h2gt rfl rfl rfl hS2gv [.slice A2df r2d1.f0.length c2dg, i6 r2d1.f1, i6 r2d1.f2.f0, .bool r2d1.f2.f1] (fun a2gw W2gy h2gx hS2gz => ?_)
       refine ⟨.inr ⟨(hS2gz.b4.cells (vs := [.slice A2df r2d1.f0.length c2dg, i6 r2d1.f1, i6 r2d1.f2.f0, .bool r2d1.f2.f1]) rfl), trivial⟩, ?_⟩
       refine WT.dn ?_
       refine wp_ret ?_
       have hS2h0 := hS2gz.drop_
       have hS2h1 := hS2h0.drop_
       have hS2h2 := hS2h1.b1
       have hS2h3 := hS2h2.drop_
       have hS2h4 := hS2h3.b1
       have hS2h5 := hS2h4.drop_
       have hS2h6 := hS2h5.b2
       have hS2h7 := hS2h6.drop_
       have hS2h8 := hS2h7.b1
       obtain ⟨rfl, rfl, rfl⟩ := ret3 H
       repeat (first | with_reducible refine t1 ?_ | with_reducible refine t2 ?_ | with_reducible refine t3 ?_)
       refine body_ret (v := .tuple #[.bool (r2e4 == r2d5), .agg #[.slice A2df r2d1.f0.length c2dg, i6 r2d1.f1, i6 r2d1.f2.f0, .bool r2d1.f2.f1]]) h2gx (by kernel_rfl) (res_many (xs := [ResultVar.tmp 6, ResultVar.cell 7 56]) rfl ⟨rfl, ⟨_, rfl, loadVarN Try.underlying56 rfl (cs := [.slice A2df r2d1.f0.length c2dg, i6 r2d1.f1, i6 r2d1.f2.f0, .bool r2d1.f2.f1]) (by kernel_rfl) (hS2gz.cells (vs := [.slice A2df r2d1.f0.length c2dg, i6 r2d1.f1, i6 r2d1.f2.f0, .bool r2d1.f2.f1]) rfl)⟩, trivial⟩ rfl) ?_
       exact ⟨.slice A2df r2d1.f0.length c2dg, M2dc, M2ee, rfl, hr2dd, hr2ef, hS2h8⟩
      ·rw [if_neg c2f7] at H
       have hb_ : (r2e3 == r2d4) = false := (Bool.eq_false_iff.2 c2f7)
       try rw [hb_] at h2f6
       clear hb_
       refine WL.sk h2f6 rfl rfl (fun a2h9 h2ha => ?_)
       refine WL.sk h2ha rfl rfl (fun a2hb h2hc => ?_)
       refine WL.sk h2hc rfl rfl (fun a2hd h2he => ?_)
       refine WL.bl 2 20 h2he [(23, .bool false), (119, .bool false)] (fun a2hf h2hg => ?_)
       refine WL.dn ?_
       refine wp_seq ?_
       refine WL.start ?_
       refine WL.bl 1 1 h2hg [(120, .slice A2eh r2e2.length c2ei)] (fun a2hh h2hi => ?_)
       refine WL.oq h2hi rfl ?_
       refine owp_clear1 (ty := 0) (z := .int .u8 0) (z0 := (0 : Int)) h2hi rfl (by kernel_rfl) rfl rfl hr2ed hS2eg Try.underlying27 (by kernel_rfl) (fun _ _ _ => ⟨rfl, rfl⟩) rfl rfl (fun a2hj W2hl M2hm h2hk hr2hn hS2ho => ?_)
       obtain ⟨y2hp, hy2hq, H⟩ := lete H
       have hl2hr : y2hp.length = r2e2.length := by simp [hy2hq]
       have hr2hs : Row (kInt .u8) 5 b w0 R (.slice A2eh y2hp.length c2ei) y2hp M2hm := by rw [hl2hr]; rw [hy2hq]; exact hr2hn
       have h2ht : Hd a2hj 173 [(0, v0), (1, .agg #[.slice A1q0 p1.f0.length c1q0, i6 p1.f1, i6 p1.f2.f0, .bool p1.f2.f1]), (2, .agg #[i6 p2.f0, .int .u32 p2.f1, i6 p2.f2, .slice A2q3 p2.f3.length c2q3, .bool p2.f4, .int .u32 p2.f5, .int .u32 p2.f6]), (4, pt g21x), (5, pt g222), (6, .bool false), (7, pt g229), (14, pt g2dm), (15, .int .u32 r2d2), (16, .string (mkS r2d3)), (17, .bool r2d4), (18, .bool r2d5), (19, .int .u32 r2e1), (20, .slice A2eh y2hp.length c2ei), (21, .bool r2e3), (22, .bool r2e4), (23, .bool false), (28, pt g222), (29, i6 p2.f0), (30, .bool false), (31, .bool false), (50, .bool false), (51, .bool false), (80, .bool true), (81, .bool true), (82, .tuple #[.agg #[.slice A2df r2d1.f0.length c2dg, i6 r2d1.f1, i6 r2d1.f2.f0, .bool r2d1.f2.f1], .int .u32 r2d2, .string (mkS r2d3), .bool r2d4, .bool r2d5]), (83, .agg #[.slice A1q0 p1.f0.length c1q0, i6 p1.f1, i6 p1.f2.f0, .bool p1.f2.f1]), (84, .pointer (some ⟨g222, 2, none⟩)), (85, i6 p2.f2), (86, .tuple #[.agg #[.slice A2df r2d1.f0.length c2dg, i6 r2d1.f1, i6 r2d1.f2.f0, .bool r2d1.f2.f1], .int .u32 r2d2, .string (mkS r2d3), .bool r2d4, .bool r2d5]), (87, .agg #[.slice A2df r2d1.f0.length c2dg, i6 r2d1.f1, i6 r2d1.f2.f0, .bool r2d1.f2.f1]), (88, .int .u32 r2d2), (89, .string (mkS r2d3)), (90, .bool r2d4), (91, .bool r2d5), (92, .tuple #[.int .u32 r2e1, .slice A2eh r2e2.length c2ei, .bool r2e3, .bool r2e4]), (93, v0), (94, .pointer (some ⟨g222, 2, none⟩)), (95, i6 p2.f2), (96, .tuple #[.int .u32 r2e1, .slice A2eh r2e2.length c2ei, .bool r2e3, .bool r2e4]), (97, .int .u32 r2e1), (98, .slice A2eh y2hp.length c2ei), (99, .bool r2e3), (100, .bool r2e4), (101, .int .u32 r2e1), (102, .int .u32 r2d2), (103, .bool true), (104, .bool true), (105, .slice A2eh y2hp.length c2ei), (106, .string (mkS (toS r2e2))), (107, .string (mkS r2d3)), (108, .bool true), (109, .bool true), (110, .bool true), (111, .bool r2e3), (112, .bool r2d4), (113, .bool false), (114, .bool false), (115, .bool false), (119, .bool false), (120, .slice A2eh y2hp.length c2ei)] := h2hk.keep ⟨rfl, rfl, rfl, rfl, rfl, rfl, rfl, rfl, rfl, rfl, rfl, rfl, rfl, (by rw [hl2hr] <;> rfl), rfl, rfl, rfl, rfl, rfl, rfl, rfl, rfl, rfl, rfl, rfl, rfl, rfl, rfl, rfl, rfl, rfl, rfl, rfl, rfl, rfl, rfl, rfl, rfl, rfl, rfl, rfl, (by rw [hl2hr] <;> rfl), rfl, rfl, rfl, rfl, rfl, rfl, (by rw [hl2hr] <;> rfl), rfl, rfl, rfl, rfl, rfl, rfl, rfl, rfl, rfl, rfl, rfl, (by rw [hl2hr] <;> rfl), trivial⟩
       clear h2hk
       refine WL.dn ?_
       refine wp_seq ?_
       refine WT.start 4 (fun w_ => (∀ j_ u_, ([.slice A2df r2d1.f0.length c2dg, i6 r2d1.f1, i6 r2d1.f2.f0, .bool r2d1.f2.f1] : List Value)[j_]? = some u_ → w_.cell? ((⟨g2dm, 0, none⟩ : Addr).add j_) = some u_) ∧ True) (by kernel_rfl) #[false, false, false, false] 4 rfl rfl ?_
       have hS2im := hS2ho.drew
       refine WT.tk 0 h2ht rfl rfl (.bool false) (fun _ _ => by kernel_rfl) ⟨(hS2im.b3.cells (vs := [.slice A2df r2d1.f0.length c2dg, i6 r2d1.f1, i6 r2d1.f2.f0, .bool r2d1.f2.f1]) rfl), trivial⟩ (fun a2in s2ip h2io => ?_)
       refine WT.tk 2 h2io rfl rfl (.bool false) (fun _ _ => by kernel_rfl) s2ip (fun a2iq s2is h2ir => ?_)
       refine WT.tk 1 h2ir rfl rfl (.agg #[.slice A2df r2d1.f0.length c2dg, i6 r2d1.f1, i6 r2d1.f2.f0, .bool r2d1.f2.f1]) (fun w_ hs_ => (run_loadN rfl rfl Try.underlying56 rfl (cs := [.slice A2df r2d1.f0.length c2dg, i6 r2d1.f1, i6 r2d1.f2.f0, .bool r2d1.f2.f1]) (by kernel_rfl) hs_.1)) s2is (fun a2it s2iv h2iu => ?_)
       have hS2iw := hS2im.b6
       refine WT.o1 3 h2iu rfl ?_
       refine owp_st 0 [.slice A2df r2d1.f0.length c2dg, i6 r2d1.f1, i6 r2d1.f2.f0, .bool r2d1.f2.f1] h2iu rfl rfl rfl hS2iw [.slice A2df r2d1.f0.length c2dg, i6 r2d1.f1, i6 r2d1.f2.f0, .bool r2d1.f2.f1] (fun a2ix W2iz h2iy hS2j0 => ?_)
       refine ⟨.inr ⟨(hS2j0.b4.cells (vs := [.slice A2df r2d1.f0.length c2dg, i6 r2d1.f1, i6 r2d1.f2.f0, .bool r2d1.f2.f1]) rfl), trivial⟩, ?_⟩
       refine WT.dn ?_
       refine wp_ret ?_
       have hS2j1 := hS2j0.drop_
       have hS2j2 := hS2j1.drop_
       have hS2j3 := hS2j2.b1
       have hS2j4 := hS2j3.drop_
       have hS2j5 := hS2j4.b1
       have hS2j6 := hS2j5.drop_
       have hS2j7 := hS2j6.b2
       have hS2j8 := hS2j7.drop_
       have hS2j9 := hS2j8.b1
       obtain ⟨rfl, rfl, rfl⟩ := ret3 H
       repeat (first | with_reducible refine t1 ?_ | with_reducible refine t2 ?_ | with_reducible refine t3 ?_)
       refine body_ret (v := .tuple #[.bool false, .agg #[.slice A2df r2d1.f0.length c2dg, i6 r2d1.f1, i6 r2d1.f2.f0, .bool r2d1.f2.f1]]) h2iy (by kernel_rfl) (res_many (xs := [ResultVar.tmp 6, ResultVar.cell 7 56]) rfl ⟨rfl, ⟨_, rfl, loadVarN Try.underlying56 rfl (cs := [.slice A2df r2d1.f0.length c2dg, i6 r2d1.f1, i6 r2d1.f2.f0, .bool r2d1.f2.f1]) (by kernel_rfl) (hS2j0.cells (vs := [.slice A2df r2d1.f0.length c2dg, i6 r2d1.f1, i6 r2d1.f2.f0, .bool r2d1.f2.f1]) rfl)⟩, trivial⟩ rfl) ?_
       exact ⟨.slice A2df r2d1.f0.length c2dg, M2dc, M2ee, rfl, hr2dd, hr2ef, hS2j9⟩
     ·rw [if_neg c2ey] at H
      have hb_ : (decide ((toS r2e2) = r2d3)) = false := decide_eq_false c2ey
      try rw [hb_] at h2ex
      clear hb_
      refine WL.sk h2ex rfl rfl (fun a2ja h2jb => ?_)
      refine WL.sk h2jb rfl rfl (fun a2jc h2jd => ?_)
      refine WL.sk h2jd rfl rfl (fun a2je h2jf => ?_)
      refine WL.bl 2 15 h2jf [(115, .bool false), (114, .bool false)] (fun a2jg h2jh => ?_)
      refine WL.sk h2jh rfl rfl (fun a2ji h2jj => ?_)
      refine WL.sk h2jj rfl rfl (fun a2jk h2jl => ?_)
      refine WL.sk h2jl rfl rfl (fun a2jm h2jn => ?_)
      refine WL.bl 2 20 h2jn [(23, .bool false), (119, .bool false)] (fun a2jo h2jp => ?_)
      refine WL.dn ?_
      refine wp_seq ?_
      refine WL.start ?_
      refine WL.bl 1 1 h2jp [(120, .slice A2eh r2e2.length c2ei)] (fun a2jq h2jr => ?_)
      refine WL.oq h2jr rfl ?_
      refine owp_clear1 (ty := 0) (z := .int .u8 0) (z0 := (0 : Int)) h2jr rfl (by kernel_rfl) rfl rfl hr2ed hS2eg Try.underlying27 (by kernel_rfl) (fun _ _ _ => ⟨rfl, rfl⟩) rfl rfl (fun a2js W2ju M2jv h2jt hr2jw hS2jx => ?_)
      obtain ⟨y2jy, hy2jz, H⟩ := lete H
      have hl2k0 : y2jy.length = r2e2.length := by simp [hy2jz]
      have hr2k1 : Row (kInt .u8) 5 b w0 R (.slice A2eh y2jy.length c2ei) y2jy M2jv := by rw [hl2k0]; rw [hy2jz]; exact hr2jw
      have h2k2 : Hd a2js 173 [(0, v0), (1, .agg #[.slice A1q0 p1.f0.length c1q0, i6 p1.f1, i6 p1.f2.f0, .bool p1.f2.f1]), (2, .agg #[i6 p2.f0, .int .u32 p2.f1, i6 p2.f2, .slice A2q3 p2.f3.length c2q3, .bool p2.f4, .int .u32 p2.f5, .int .u32 p2.f6]), (4, pt g21x), (5, pt g222), (6, .bool false), (7, pt g229), (14, pt g2dm), (15, .int .u32 r2d2), (16, .string (mkS r2d3)), (17, .bool r2d4), (18, .bool r2d5), (19, .int .u32 r2e1), (20, .slice A2eh y2jy.length c2ei), (21, .bool r2e3), (22, .bool r2e4), (23, .bool false), (28, pt g222), (29, i6 p2.f0), (30, .bool false), (31, .bool false), (50, .bool false), (51, .bool false), (80, .bool true), (81, .bool true), (82, .tuple #[.agg #[.slice A2df r2d1.f0.length c2dg, i6 r2d1.f1, i6 r2d1.f2.f0, .bool r2d1.f2.f1], .int .u32 r2d2, .string (mkS r2d3), .bool r2d4, .bool r2d5]), (83, .agg #[.slice A1q0 p1.f0.length c1q0, i6 p1.f1, i6 p1.f2.f0, .bool p1.f2.f1]), (84, .pointer (some ⟨g222, 2, none⟩)), (85, i6 p2.f2), (86, .tuple #[.agg #[.slice A2df r2d1.f0.length c2dg, i6 r2d1.f1, i6 r2d1.f2.f0, .bool r2d1.f2.f1], .int .u32 r2d2, .string (mkS r2d3), .bool r2d4, .bool r2d5]), (87, .agg #[.slice A2df r2d1.f0.length c2dg, i6 r2d1.f1, i6 r2d1.f2.f0, .bool r2d1.f2.f1]), (88, .int .u32 r2d2), (89, .string (mkS r2d3)), (90, .bool r2d4), (91, .bool r2d5), (92, .tuple #[.int .u32 r2e1, .slice A2eh r2e2.length c2ei, .bool r2e3, .bool r2e4]), (93, v0), (94, .pointer (some ⟨g222, 2, none⟩)), (95, i6 p2.f2), (96, .tuple #[.int .u32 r2e1, .slice A2eh r2e2.length c2ei, .bool r2e3, .bool r2e4]), (97, .int .u32 r2e1), (98, .slice A2eh y2jy.length c2ei), (99, .bool r2e3), (100, .bool r2e4), (101, .int .u32 r2e1), (102, .int .u32 r2d2), (103, .bool true), (104, .bool true), (105, .slice A2eh y2jy.length c2ei), (106, .string (mkS (toS r2e2))), (107, .string (mkS r2d3)), (108, .bool false), (109, .bool false), (110, .bool false), (114, .bool false), (115, .bool false), (119, .bool false), (120, .slice A2eh y2jy.length c2ei)] := h2jt.keep ⟨rfl, rfl, rfl, rfl, rfl, rfl, rfl, rfl, rfl, rfl, rfl, rfl, rfl, (by rw [hl2k0] <;> rfl), rfl, rfl, rfl, rfl, rfl, rfl, rfl, rfl, rfl, rfl, rfl, rfl, rfl, rfl, rfl, rfl, rfl, rfl, rfl, rfl, rfl, rfl, rfl, rfl, rfl, rfl, rfl, (by rw [hl2k0] <;> rfl), rfl, rfl, rfl, rfl, rfl, rfl, (by rw [hl2k0] <;> rfl), rfl, rfl, rfl, rfl, rfl, rfl, rfl, rfl, (by rw [hl2k0] <;> rfl), trivial⟩
      clear h2jt
      refine WL.dn ?_
      refine wp_seq ?_
      refine WT.start 4 (fun w_ => (∀ j_ u_, ([.slice A2df r2d1.f0.length c2dg, i6 r2d1.f1, i6 r2d1.f2.f0, .bool r2d1.f2.f1] : List Value)[j_]? = some u_ → w_.cell? ((⟨g2dm, 0, none⟩ : Addr).add j_) = some u_) ∧ True) (by kernel_rfl) #[false, false, false, false] 4 rfl rfl ?_
      have hS2kv := hS2jx.drew
      refine WT.tk 0 h2k2 rfl rfl (.bool false) (fun _ _ => by kernel_rfl) ⟨(hS2kv.b3.cells (vs := [.slice A2df r2d1.f0.length c2dg, i6 r2d1.f1, i6 r2d1.f2.f0, .bool r2d1.f2.f1]) rfl), trivial⟩ (fun a2kw s2ky h2kx => ?_)
      refine WT.tk 2 h2kx rfl rfl (.bool false) (fun _ _ => by kernel_rfl) s2ky (fun a2kz s2l1 h2l0 => ?_)
      clear h2ex a2ew h2jb a2ja h2jd a2jc h2jf a2je h2jh a2jg h2jj a2ji h2jl a2jk h2jn a2jm h2jp a2jo h2jr a2jq h2k2 a2js h2kx a2kw
      refine WT.tk 1 h2l0 rfl rfl (.agg #[.slice A2df r2d1.f0.length c2dg, i6 r2d1.f1, i6 r2d1.f2.f0, .bool r2d1.f2.f1]) (fun w_ hs_ => (run_loadN rfl rfl Try.underlying56 rfl (cs := [.slice A2df r2d1.f0.length c2dg, i6 r2d1.f1, i6 r2d1.f2.f0, .bool r2d1.f2.f1]) (by kernel_rfl) hs_.1)) s2l1 (fun a2l2 s2l4 h2l3 => ?_)
      have hS2l5 := hS2kv.b6
      refine WT.o1 3 h2l3 rfl ?_
      refine owp_st 0 [.slice A2df r2d1.f0.length c2dg, i6 r2d1.f1, i6 r2d1.f2.f0, .bool r2d1.f2.f1] h2l3 rfl rfl rfl hS2l5 [.slice A2df r2d1.f0.length c2dg, i6 r2d1.f1, i6 r2d1.f2.f0, .bool r2d1.f2.f1] (fun a2l6 W2l8 h2l7 hS2l9 => ?_)
      refine ⟨.inr ⟨(hS2l9.b4.cells (vs := [.slice A2df r2d1.f0.length c2dg, i6 r2d1.f1, i6 r2d1.f2.f0, .bool r2d1.f2.f1]) rfl), trivial⟩, ?_⟩
      refine WT.dn ?_
      refine wp_ret ?_
      have hS2la := hS2l9.drop_
      have hS2lb := hS2la.drop_
      have hS2lc := hS2lb.b1
      have hS2ld := hS2lc.drop_
      have hS2le := hS2ld.b1
      have hS2lf := hS2le.drop_
      have hS2lg := hS2lf.b2
      have hS2lh := hS2lg.drop_
      have hS2li := hS2lh.b1
      obtain ⟨rfl, rfl, rfl⟩ := ret3 H
      repeat (first | with_reducible refine t1 ?_ | with_reducible refine t2 ?_ | with_reducible refine t3 ?_)
      refine body_ret (v := .tuple #[.bool false, .agg #[.slice A2df r2d1.f0.length c2dg, i6 r2d1.f1, i6 r2d1.f2.f0, .bool r2d1.f2.f1]]) h2l7 (by kernel_rfl) (res_many (xs := [ResultVar.tmp 6, ResultVar.cell 7 56]) rfl ⟨rfl, ⟨_, rfl, loadVarN Try.underlying56 rfl (cs := [.slice A2df r2d1.f0.length c2dg, i6 r2d1.f1, i6 r2d1.f2.f0, .bool r2d1.f2.f1]) (by kernel_rfl) (hS2l9.cells (vs := [.slice A2df r2d1.f0.length c2dg, i6 r2d1.f1, i6 r2d1.f2.f0, .bool r2d1.f2.f1]) rfl)⟩, trivial⟩ rfl) ?_
      exact ⟨.slice A2df r2d1.f0.length c2dg, M2dc, M2ee, rfl, hr2dd, hr2ef, hS2li⟩
    ·rw [if_neg c2en] at H
     have hb_ : (decide (r2e1 = r2d2)) = false := decide_eq_false c2en
     try rw [hb_] at h2em
     clear hb_
     refine WL.sk h2em rfl rfl (fun a2lj h2lk => ?_)
     refine WL.sk h2lk rfl rfl (fun a2ll h2lm => ?_)
     refine WL.sk h2lm rfl rfl (fun a2ln h2lo => ?_)
     refine WL.sk h2lo rfl rfl (fun a2lp h2lq => ?_)
     refine WL.bl 2 10 h2lq [(110, .bool false), (109, .bool false)] (fun a2lr h2ls => ?_)
     refine WL.sk h2ls rfl rfl (fun a2lt h2lu => ?_)
     refine WL.sk h2lu rfl rfl (fun a2lv h2lw => ?_)
     refine WL.sk h2lw rfl rfl (fun a2lx h2ly => ?_)
     refine WL.bl 2 15 h2ly [(115, .bool false), (114, .bool false)] (fun a2lz h2m0 => ?_)
     refine WL.sk h2m0 rfl rfl (fun a2m1 h2m2 => ?_)
     refine WL.sk h2m2 rfl rfl (fun a2m3 h2m4 => ?_)
     refine WL.sk h2m4 rfl rfl (fun a2m5 h2m6 => ?_)
     clear h2em a2el h2lk a2lj h2lm a2ll h2lo a2ln h2lq a2lp h2ls a2lr h2lu a2lt h2lw a2lv h2ly a2lx h2m0 a2lz h2m2 a2m1 h2m4 a2m3
     refine WL.bl 2 20 h2m6 [(23, .bool false), (119, .bool false)] (fun a2m7 h2m8 => ?_)
     refine WL.dn ?_
     refine wp_seq ?_
     refine WL.start ?_
     refine WL.bl 1 1 h2m8 [(120, .slice A2eh r2e2.length c2ei)] (fun a2m9 h2ma => ?_)
     refine WL.oq h2ma rfl ?_
     refine owp_clear1 (ty := 0) (z := .int .u8 0) (z0 := (0 : Int)) h2ma rfl (by kernel_rfl) rfl rfl hr2ed hS2eg Try.underlying27 (by kernel_rfl) (fun _ _ _ => ⟨rfl, rfl⟩) rfl rfl (fun a2mb W2md M2me h2mc hr2mf hS2mg => ?_)
     obtain ⟨y2mh, hy2mi, H⟩ := lete H
     have hl2mj : y2mh.length = r2e2.length := by simp [hy2mi]
     have hr2mk : Row (kInt .u8) 5 b w0 R (.slice A2eh y2mh.length c2ei) y2mh M2me := by rw [hl2mj]; rw [hy2mi]; exact hr2mf
     have h2ml : Hd a2mb 173 [(0, v0), (1, .agg #[.slice A1q0 p1.f0.length c1q0, i6 p1.f1, i6 p1.f2.f0, .bool p1.f2.f1]), (2, .agg #[i6 p2.f0, .int .u32 p2.f1, i6 p2.f2, .slice A2q3 p2.f3.length c2q3, .bool p2.f4, .int .u32 p2.f5, .int .u32 p2.f6]), (4, pt g21x), (5, pt g222), (6, .bool false), (7, pt g229), (14, pt g2dm), (15, .int .u32 r2d2), (16, .string (mkS r2d3)), (17, .bool r2d4), (18, .bool r2d5), (19, .int .u32 r2e1), (20, .slice A2eh y2mh.length c2ei), (21, .bool r2e3), (22, .bool r2e4), (23, .bool false), (28, pt g222), (29, i6 p2.f0), (30, .bool false), (31, .bool false), (50, .bool false), (51, .bool false), (80, .bool true), (81, .bool true), (82, .tuple #[.agg #[.slice A2df r2d1.f0.length c2dg, i6 r2d1.f1, i6 r2d1.f2.f0, .bool r2d1.f2.f1], .int .u32 r2d2, .string (mkS r2d3), .bool r2d4, .bool r2d5]), (83, .agg #[.slice A1q0 p1.f0.length c1q0, i6 p1.f1, i6 p1.f2.f0, .bool p1.f2.f1]), (84, .pointer (some ⟨g222, 2, none⟩)), (85, i6 p2.f2), (86, .tuple #[.agg #[.slice A2df r2d1.f0.length c2dg, i6 r2d1.f1, i6 r2d1.f2.f0, .bool r2d1.f2.f1], .int .u32 r2d2, .string (mkS r2d3), .bool r2d4, .bool r2d5]), (87, .agg #[.slice A2df r2d1.f0.length c2dg, i6 r2d1.f1, i6 r2d1.f2.f0, .bool r2d1.f2.f1]), (88, .int .u32 r2d2), (89, .string (mkS r2d3)), (90, .bool r2d4), (91, .bool r2d5), (92, .tuple #[.int .u32 r2e1, .slice A2eh r2e2.length c2ei, .bool r2e3, .bool r2e4]), (93, v0), (94, .pointer (some ⟨g222, 2, none⟩)), (95, i6 p2.f2), (96, .tuple #[.int .u32 r2e1, .slice A2eh r2e2.length c2ei, .bool r2e3, .bool r2e4]), (97, .int .u32 r2e1), (98, .slice A2eh y2mh.length c2ei), (99, .bool r2e3), (100, .bool r2e4), (101, .int .u32 r2e1), (102, .int .u32 r2d2), (103, .bool false), (104, .bool false), (109, .bool false), (110, .bool false), (114, .bool false), (115, .bool false), (119, .bool false), (120, .slice A2eh y2mh.length c2ei)] := h2mc.keep ⟨rfl, rfl, rfl, rfl, rfl, rfl, rfl, rfl, rfl, rfl, rfl, rfl, rfl, (by rw [hl2mj] <;> rfl), rfl, rfl, rfl, rfl, rfl, rfl, rfl, rfl, rfl, rfl, rfl, rfl, rfl, rfl, rfl, rfl, rfl, rfl, rfl, rfl, rfl, rfl, rfl, rfl, rfl, rfl, rfl, (by rw [hl2mj] <;> rfl), rfl, rfl, rfl, rfl, rfl, rfl, rfl, rfl, rfl, rfl, rfl, (by rw [hl2mj] <;> rfl), trivial⟩
     clear h2mc
     refine WL.dn ?_
     refine wp_seq ?_
     refine WT.start 4 (fun w_ => (∀ j_ u_, ([.slice A2df r2d1.f0.length c2dg, i6 r2d1.f1, i6 r2d1.f2.f0, .bool r2d1.f2.f1] : List Value)[j_]? = some u_ → w_.cell? ((⟨g2dm, 0, none⟩ : Addr).add j_) = some u_) ∧ True) (by kernel_rfl) #[false, false, false, false] 4 rfl rfl ?_
     have hS2ne := hS2mg.drew
     refine WT.tk 0 h2ml rfl rfl (.bool false) (fun _ _ => by kernel_rfl) ⟨(hS2ne.b3.cells (vs := [.slice A2df r2d1.f0.length c2dg, i6 r2d1.f1, i6 r2d1.f2.f0, .bool r2d1.f2.f1]) rfl), trivial⟩ (fun a2nf s2nh h2ng => ?_)
     refine WT.tk 2 h2ng rfl rfl (.bool false) (fun _ _ => by kernel_rfl) s2nh (fun a2ni s2nk h2nj => ?_)
     refine WT.tk 1 h2nj rfl rfl (.agg #[.slice A2df r2d1.f0.length c2dg, i6 r2d1.f1, i6 r2d1.f2.f0, .bool r2d1.f2.f1]) (fun w_ hs_ => (run_loadN rfl rfl Try.underlying56 rfl (cs := [.slice A2df r2d1.f0.length c2dg, i6 r2d1.f1, i6 r2d1.f2.f0, .bool r2d1.f2.f1]) (by kernel_rfl) hs_.1)) s2nk (fun a2nl s2nn h2nm => ?_)
     have hS2no := hS2ne.b6
     refine WT.o1 3 h2nm rfl ?_
     refine owp_st 0 [.slice A2df r2d1.f0.length c2dg, i6 r2d1.f1, i6 r2d1.f2.f0, .bool r2d1.f2.f1] h2nm rfl rfl rfl hS2no [.slice A2df r2d1.f0.length c2dg, i6 r2d1.f1, i6 r2d1.f2.f0, .bool r2d1.f2.f1] (fun a2np W2nr h2nq hS2ns => ?_)
     refine ⟨.inr ⟨(hS2ns.b4.cells (vs := [.slice A2df r2d1.f0.length c2dg, i6 r2d1.f1, i6 r2d1.f2.f0, .bool r2d1.f2.f1]) rfl), trivial⟩, ?_⟩
     refine WT.dn ?_
     refine wp_ret ?_
     have hS2nt := hS2ns.drop_
     have hS2nu := hS2nt.drop_
     have hS2nv := hS2nu.b1
     have hS2nw := hS2nv.drop_
     have hS2nx := hS2nw.b1
     have hS2ny := hS2nx.drop_
     have hS2nz := hS2ny.b2
     have hS2o0 := hS2nz.drop_
     have hS2o1 := hS2o0.b1
     obtain ⟨rfl, rfl, rfl⟩ := ret3 H
     repeat (first | with_reducible refine t1 ?_ | with_reducible refine t2 ?_ | with_reducible refine t3 ?_)
     refine body_ret (v := .tuple #[.bool false, .agg #[.slice A2df r2d1.f0.length c2dg, i6 r2d1.f1, i6 r2d1.f2.f0, .bool r2d1.f2.f1]]) h2nq (by kernel_rfl) (res_many (xs := [ResultVar.tmp 6, ResultVar.cell 7 56]) rfl ⟨rfl, ⟨_, rfl, loadVarN Try.underlying56 rfl (cs := [.slice A2df r2d1.f0.length c2dg, i6 r2d1.f1, i6 r2d1.f2.f0, .bool r2d1.f2.f1]) (by kernel_rfl) (hS2ns.cells (vs := [.slice A2df r2d1.f0.length c2dg, i6 r2d1.f1, i6 r2d1.f2.f0, .bool r2d1.f2.f1]) rfl)⟩, trivial⟩ rfl) ?_
     exact ⟨.slice A2df r2d1.f0.length c2dg, M2dc, M2ee, rfl, hr2dd, hr2ef, hS2o1⟩
   ·rw [if_neg c2cq] at H
    have hb_ : (decide (p2.f0 = 2)) = false := decide_eq_false c2cq
    try rw [hb_] at h2cp
    clear hb_
    refine wp_else h2cp rfl ?_
    refine wp_seq ?_
    refine WL.start ?_
    refine WL.bl 2 2 h2cp [(123, .bool (decide (p2.f0 = 3))), (124, .bool (decide (p2.f0 = 3)))] (fun a2o2 h2o3 => ?_)
    refine WL.dn ?_
    clear h2cp a2co
    by_cases c2o4 : p2.f0 = 3
    ·rw [if_pos c2o4] at H
     have hb_ : (decide (p2.f0 = 3)) = true := decide_eq_true c2o4
     try rw [hb_] at h2o3
     clear hb_
     refine wp_then h2o3 rfl ?_
     refine wp_seq ?_
     refine WL.start ?_
     have hS2o5 := hS22d.b2
     refine WL.oq h2o3 rfl ?_
     refine owp_rn (.agg #[.slice A1q0 p1.f0.length c1q0, i6 p1.f1, i6 p1.f2.f0, .bool p1.f2.f1]) h2o3 rfl (run_loadN rfl rfl Try.underlying56 rfl (cs := [.slice A1q0 p1.f0.length c1q0, i6 p1.f1, i6 p1.f2.f0, .bool p1.f2.f1]) (by kernel_rfl) (hS2o5.cells (vs := [.slice A1q0 p1.f0.length c1q0, i6 p1.f1, i6 p1.f2.f0, .bool p1.f2.f1]) rfl)) (fun a2o6 h2o7 => ?_)
     refine WL.bl 1 2 h2o7 [(127, .pointer (some ⟨g222, 1, none⟩))] (fun a2o8 h2o9 => ?_)
     have hS2oa := hS2o5.b1
     refine WL.oq h2o9 rfl ?_
     refine owp_rn (.int .u32 p2.f1) h2o9 rfl (run_load1 rfl rfl Try.underlying25 rfl (hS2oa.cell (i := 1) rfl)) (fun a2ob h2oc => ?_)
     refine WL.bl 1 4 h2oc [(129, .pointer (some ⟨g222, 5, none⟩))] (fun a2od h2oe => ?_)
     refine WL.oq h2oe rfl ?_
     refine owp_rn (.int .u32 p2.f5) h2oe rfl (run_load1 rfl rfl Try.underlying25 rfl (hS2oa.cell (i := 5) rfl)) (fun a2of h2og => ?_)
     have hS2oh := hS2oa.b3
     obtain ⟨r2oj, r2ok, A2oi, H⟩ := bind2 H
     refine WL.oq h2og rfl ?_
     refine owp_call [.agg #[.slice A1q0 p1.f0.length c1q0, i6 p1.f1, i6 p1.f2.f0, .bool p1.f2.f1], .int .u32 p2.f1, .int .u32 p2.f5] h2og rfl (by kernel_rfl) rfl Try.func41 (by kernel_rfl) rfl (by kernel_rfl) (louverref13qR_Grow.calls (p0 := (⟨p1.f0, p1.f1, (⟨p1.f2.f0, p1.f2.f1⟩ : S41)⟩ : S56)) k hp1q0 A2oi hS2oh) (fun e2om W2ol hp2on => ?_)
     obtain ⟨v2oq, M2or, rfl, hr2os, hS2ot⟩ := hp2on
     refine ⟨_, rfl, fun a2oo h2op => ?_⟩
     obtain ⟨A2ou, c2ov, rfl⟩ := hr2os.form
     refine WL.bl 3 9 h2op [(133, i6 r2ok), (132, .agg #[.slice A2ou r2oj.f0.length c2ov, i6 r2oj.f1, i6 r2oj.f2.f0, .bool r2oj.f2.f1]), (125, .tuple #[.agg #[.slice A2ou r2oj.f0.length c2ov, i6 r2oj.f1, i6 r2oj.f2.f0, .bool r2oj.f2.f1], i6 r2ok])] (fun a2ow h2ox => ?_)
     refine WL.oq h2ox rfl ?_
     refine owp_nw (fun g_ => (pt g_)) (.cells ([.slice none 0 0, i6 0, i6 0, .bool false] : List Value).toArray 56 (0, 0)) h2ox rfl hS2ot (fun a2oy W2p0 g2p1 h2oz hS2p2 => ?_)
     refine WL.oq h2oz rfl ?_
     refine owp_st 0 [.slice A2ou r2oj.f0.length c2ov, i6 r2oj.f1, i6 r2oj.f2.f0, .bool r2oj.f2.f1] h2oz rfl rfl rfl hS2p2 [.slice A2ou r2oj.f0.length c2ov, i6 r2oj.f1, i6 r2oj.f2.f0, .bool r2oj.f2.f1] (fun a2p3 W2p5 h2p4 hS2p6 => ?_)
     refine WL.bl 1 12 h2p4 [(25, i6 r2ok)] (fun a2p7 h2p8 => ?_)
     refine WL.dn ?_
     refine wp_seq ?_
     refine WT.start 12 (fun w_ => (w_.cell? ⟨g222, 1, none⟩ = some (.int .u32 p2.f1)) ∧ (w_.cell? ⟨g222, 5, none⟩ = some (.int .u32 p2.f5)) ∧ (∀ j_ u_, ([.slice A2ou r2oj.f0.length c2ov, i6 r2oj.f1, i6 r2oj.f2.f0, .bool r2oj.f2.f1] : List Value)[j_]? = some u_ → w_.cell? ((⟨g2p1, 0, none⟩ : Addr).add j_) = some u_) ∧ True) (by kernel_rfl) #[false, false, false, false, false, false, false, false, false, false, false, false] 12 rfl rfl ?_
     have hS2s5 := hS2p6.drew
     refine WT.tk 0 h2p8 rfl rfl v0 (fun _ _ => by kernel_rfl) ⟨(hS2s5.b2.cell (i := 1) rfl), (hS2s5.b2.cell (i := 5) rfl), (hS2s5.cells (vs := [.slice A2ou r2oj.f0.length c2ov, i6 r2oj.f1, i6 r2oj.f2.f0, .bool r2oj.f2.f1]) rfl), trivial⟩ (fun a2s6 s2s8 h2s7 => ?_)
     refine WT.tk 1 h2s7 rfl rfl (.pointer (some ⟨g222, 1, none⟩)) (fun _ _ => by kernel_rfl) s2s8 (fun a2s9 s2sb h2sa => ?_)
     clear h2o3 a2o2 h2o7 a2o6 h2o9 a2o8 h2oc a2ob h2oe a2od h2og a2of h2op a2oo h2ox a2ow h2oz a2oy h2p4 a2p3 h2p8 a2p7 h2s7 a2s6
     refine WT.tk 3 h2sa rfl rfl (.pointer (some ⟨g222, 5, none⟩)) (fun _ _ => by kernel_rfl) s2sb (fun a2sc s2se h2sd => ?_)
     refine WT.tk 6 h2sd rfl rfl (i6 r2ok) (fun _ _ => by kernel_rfl) s2se (fun a2sf s2sh h2sg => ?_)
     refine WT.tk 2 h2sg rfl rfl (.int .u32 p2.f1) (fun w_ hs_ => (run_load1 rfl rfl Try.underlying25 rfl hs_.1)) s2sh (fun a2si s2sk h2sj => ?_)
     refine WT.tk 4 h2sj rfl rfl (.int .u32 p2.f5) (fun w_ hs_ => (run_load1 rfl rfl Try.underlying25 rfl hs_.2.1)) s2sk (fun a2sl s2sn h2sm => ?_)
     refine WT.tk 9 h2sm rfl rfl (.agg #[.slice A2ou r2oj.f0.length c2ov, i6 r2oj.f1, i6 r2oj.f2.f0, .bool r2oj.f2.f1]) (fun w_ hs_ => (run_loadN rfl rfl Try.underlying56 rfl (cs := [.slice A2ou r2oj.f0.length c2ov, i6 r2oj.f1, i6 r2oj.f2.f0, .bool r2oj.f2.f1]) (by kernel_rfl) hs_.2.2.1)) s2sn (fun a2so s2sq h2sp => ?_)
     have hS2sr := hS2s5.b5
     obtain ⟨r2st, r2su, A2ss, H⟩ := bind2 H
     refine WT.o1 5 h2sp rfl ?_
     refine owp_call [v0, .int .u32 p2.f1, .int .u32 p2.f5] h2sp rfl (by kernel_rfl) rfl Try.func19 (by kernel_rfl) rfl (by kernel_rfl) (turns_Ring_Grow.calls k hp0 A2ss hS2sr) (fun e2sw W2sv hp2sx => ?_)
     obtain ⟨M2t0, rfl, hr2t1, hS2t2⟩ := hp2sx
     refine ⟨_, rfl, fun a2sy h2sz => ?_⟩
     refine ⟨.inr ⟨(hS2t2.b3.cell (i := 1) rfl), (hS2t2.b3.cell (i := 5) rfl), (hS2t2.b1.cells (vs := [.slice A2ou r2oj.f0.length c2ov, i6 r2oj.f1, i6 r2oj.f2.f0, .bool r2oj.f2.f1]) rfl), trivial⟩, ?_⟩
     obtain ⟨r2t4, A2t3, H⟩ := bind1 H
     refine WT.o1 7 h2sz rfl ?_
     refine owp_call [i6 r2ok] h2sz rfl (by kernel_rfl) rfl Try.func42 (by kernel_rfl) rfl (by kernel_rfl) (louverlaw13qtold.calls  A2t3 hS2t2) (fun e2t6 W2t5 hp2t7 => ?_)
     obtain ⟨rfl, hS2ta⟩ := hp2t7
     refine ⟨_, rfl, fun a2t8 h2t9 => ?_⟩
     refine ⟨.inr ⟨(hS2ta.b3.cell (i := 1) rfl), (hS2ta.b3.cell (i := 5) rfl), (hS2ta.b1.cells (vs := [.slice A2ou r2oj.f0.length c2ov, i6 r2oj.f1, i6 r2oj.f2.f0, .bool r2oj.f2.f1]) rfl), trivial⟩, ?_⟩
     refine WT.tk 8 h2t9 rfl rfl (.bool (decide (r2st.f0 = r2t4.f0) && decide (r2st.f1 = r2t4.f1))) (fun w_ hs_ => (run_steq (xs := [.int .u8 r2st.f0, .int .u32 r2st.f1]) (ys := [.int .u8 r2t4.f0, .int .u32 r2t4.f1]) rfl rfl rfl (by kernel_rfl) (eqs_of Try.underlying50 (by kernel_rfl) (eqf_cons rfl (by kernel_rfl) rfl rfl (eqi_int Try.underlying5) (eqf_last rfl (by kernel_rfl) rfl rfl (eqi_int Try.underlying25)))))) ⟨(hS2ta.b3.cell (i := 1) rfl), (hS2ta.b3.cell (i := 5) rfl), (hS2ta.b1.cells (vs := [.slice A2ou r2oj.f0.length c2ov, i6 r2oj.f1, i6 r2oj.f2.f0, .bool r2oj.f2.f1]) rfl), trivial⟩ (fun a2tb s2td h2tc => ?_)
     refine WT.tk 10 h2tc rfl rfl (.bool (decide (r2st.f0 = r2t4.f0) && decide (r2st.f1 = r2t4.f1))) (fun _ _ => by kernel_rfl) s2td (fun a2te s2tg h2tf => ?_)
     have hS2th := hS2ta.b5
     refine WT.o1 11 h2tf rfl ?_
     refine owp_st 0 [.slice A2ou r2oj.f0.length c2ov, i6 r2oj.f1, i6 r2oj.f2.f0, .bool r2oj.f2.f1] h2tf rfl rfl rfl hS2th [.slice A2ou r2oj.f0.length c2ov, i6 r2oj.f1, i6 r2oj.f2.f0, .bool r2oj.f2.f1] (fun a2ti W2tk h2tj hS2tl => ?_)
     refine ⟨.inr ⟨(hS2tl.b4.cell (i := 1) rfl), (hS2tl.b4.cell (i := 5) rfl), (hS2tl.b2.cells (vs := [.slice A2ou r2oj.f0.length c2ov, i6 r2oj.f1, i6 r2oj.f2.f0, .bool r2oj.f2.f1]) rfl), trivial⟩, ?_⟩
     refine WT.dn ?_
     refine wp_ret ?_
     have hS2tm := hS2tl.drop_
     have hS2tn := hS2tm.b1
     have hS2to := hS2tn.drop_
     have hS2tp := hS2to.b2
     have hS2tq := hS2tp.drop_
     have hS2tr := hS2tq.b2
     have hS2ts := hS2tr.drop_
     have hS2tt := hS2ts.b1
     obtain ⟨rfl, rfl, rfl⟩ := ret3 H
     repeat (first | with_reducible refine t1 ?_ | with_reducible refine t2 ?_ | with_reducible refine t3 ?_)
     refine body_ret (v := .tuple #[.bool (decide (r2st.f0 = r2t4.f0) && decide (r2st.f1 = r2t4.f1)), .agg #[.slice A2ou r2oj.f0.length c2ov, i6 r2oj.f1, i6 r2oj.f2.f0, .bool r2oj.f2.f1]]) h2tj (by kernel_rfl) (res_many (xs := [ResultVar.tmp 6, ResultVar.cell 7 56]) rfl ⟨rfl, ⟨_, rfl, loadVarN Try.underlying56 rfl (cs := [.slice A2ou r2oj.f0.length c2ov, i6 r2oj.f1, i6 r2oj.f2.f0, .bool r2oj.f2.f1]) (by kernel_rfl) (hS2tl.cells (vs := [.slice A2ou r2oj.f0.length c2ov, i6 r2oj.f1, i6 r2oj.f2.f0, .bool r2oj.f2.f1]) rfl)⟩, trivial⟩ rfl) ?_
     exact ⟨.slice A2ou r2oj.f0.length c2ov, M2or, M2t0, rfl, hr2os, hr2t1, hS2tt⟩
    ·rw [if_neg c2o4] at H
     have hb_ : (decide (p2.f0 = 3)) = false := decide_eq_false c2o4
     try rw [hb_] at h2o3
     clear hb_
     refine wp_else h2o3 rfl ?_
     refine wp_seq ?_
     refine WL.start ?_
     refine WL.bl 2 2 h2o3 [(144, .bool (decide (p2.f0 = 4))), (145, .bool (decide (p2.f0 = 4)))] (fun a2tu h2tv => ?_)
     refine WL.dn ?_
     clear h2o3 a2o2
     by_cases c2tw : p2.f0 = 4
     ·rw [if_pos c2tw] at H
      have hb_ : (decide (p2.f0 = 4)) = true := decide_eq_true c2tw
      try rw [hb_] at h2tv
      clear hb_
      refine wp_then h2tv rfl ?_
      refine wp_seq ?_
      refine WL.start ?_
      have hS2tx := hS22d.b2
      refine WL.oq h2tv rfl ?_
      refine owp_rn (.agg #[.slice A1q0 p1.f0.length c1q0, i6 p1.f1, i6 p1.f2.f0, .bool p1.f2.f1]) h2tv rfl (run_loadN rfl rfl Try.underlying56 rfl (cs := [.slice A1q0 p1.f0.length c1q0, i6 p1.f1, i6 p1.f2.f0, .bool p1.f2.f1]) (by kernel_rfl) (hS2tx.cells (vs := [.slice A1q0 p1.f0.length c1q0, i6 p1.f1, i6 p1.f2.f0, .bool p1.f2.f1]) rfl)) (fun a2ty h2tz => ?_)
      refine WL.bl 1 2 h2tz [(148, .pointer (some ⟨g222, 5, none⟩))] (fun a2u0 h2u1 => ?_)
      have hS2u2 := hS2tx.b1
      refine WL.oq h2u1 rfl ?_
      refine owp_rn (.int .u32 p2.f5) h2u1 rfl (run_load1 rfl rfl Try.underlying25 rfl (hS2u2.cell (i := 5) rfl)) (fun a2u3 h2u4 => ?_)
      refine WL.bl 1 4 h2u4 [(150, .pointer (some ⟨g222, 6, none⟩))] (fun a2u5 h2u6 => ?_)
      refine WL.oq h2u6 rfl ?_
      refine owp_rn (.int .u32 p2.f6) h2u6 rfl (run_load1 rfl rfl Try.underlying25 rfl (hS2u2.cell (i := 6) rfl)) (fun a2u7 h2u8 => ?_)
      have hS2u9 := hS2u2.b3
      obtain ⟨r2ub, r2uc, A2ua, H⟩ := bind2 H
      refine WL.oq h2u8 rfl ?_
      refine owp_call [.agg #[.slice A1q0 p1.f0.length c1q0, i6 p1.f1, i6 p1.f2.f0, .bool p1.f2.f1], .int .u32 p2.f5, .int .u32 p2.f6] h2u8 rfl (by kernel_rfl) rfl Try.func43 (by kernel_rfl) rfl (by kernel_rfl) (louverref13qR_Shift.calls (p0 := (⟨p1.f0, p1.f1, (⟨p1.f2.f0, p1.f2.f1⟩ : S41)⟩ : S56)) k hp1q0 A2ua hS2u9) (fun e2ue W2ud hp2uf => ?_)
      obtain ⟨v2ui, M2uj, rfl, hr2uk, hS2ul⟩ := hp2uf
      refine ⟨_, rfl, fun a2ug h2uh => ?_⟩
      obtain ⟨A2um, c2un, rfl⟩ := hr2uk.form
      refine WL.bl 3 9 h2uh [(154, i6 r2uc), (153, .agg #[.slice A2um r2ub.f0.length c2un, i6 r2ub.f1, i6 r2ub.f2.f0, .bool r2ub.f2.f1]), (146, .tuple #[.agg #[.slice A2um r2ub.f0.length c2un, i6 r2ub.f1, i6 r2ub.f2.f0, .bool r2ub.f2.f1], i6 r2uc])] (fun a2uo h2up => ?_)
      refine WL.oq h2up rfl ?_
      refine owp_nw (fun g_ => (pt g_)) (.cells ([.slice none 0 0, i6 0, i6 0, .bool false] : List Value).toArray 56 (0, 0)) h2up rfl hS2ul (fun a2uq W2us g2ut h2ur hS2uu => ?_)
      refine WL.oq h2ur rfl ?_
      refine owp_st 0 [.slice A2um r2ub.f0.length c2un, i6 r2ub.f1, i6 r2ub.f2.f0, .bool r2ub.f2.f1] h2ur rfl rfl rfl hS2uu [.slice A2um r2ub.f0.length c2un, i6 r2ub.f1, i6 r2ub.f2.f0, .bool r2ub.f2.f1] (fun a2uv W2ux h2uw hS2uy => ?_)
      refine WL.bl 1 12 h2uw [(27, i6 r2uc)] (fun a2uz h2v0 => ?_)
      refine WL.dn ?_
      refine wp_seq ?_
      refine WT.start 12 (fun w_ => (w_.cell? ⟨g222, 5, none⟩ = some (.int .u32 p2.f5)) ∧ (w_.cell? ⟨g222, 6, none⟩ = some (.int .u32 p2.f6)) ∧ (∀ j_ u_, ([.slice A2um r2ub.f0.length c2un, i6 r2ub.f1, i6 r2ub.f2.f0, .bool r2ub.f2.f1] : List Value)[j_]? = some u_ → w_.cell? ((⟨g2ut, 0, none⟩ : Addr).add j_) = some u_) ∧ True) (by kernel_rfl) #[false, false, false, false, false, false, false, false, false, false, false, false] 12 rfl rfl ?_
      have hS2xx := hS2uy.drew
      refine WT.tk 0 h2v0 rfl rfl v0 (fun _ _ => by kernel_rfl) ⟨(hS2xx.b2.cell (i := 5) rfl), (hS2xx.b2.cell (i := 6) rfl), (hS2xx.cells (vs := [.slice A2um r2ub.f0.length c2un, i6 r2ub.f1, i6 r2ub.f2.f0, .bool r2ub.f2.f1]) rfl), trivial⟩ (fun a2xy s2y0 h2xz => ?_)
      refine WT.tk 1 h2xz rfl rfl (.pointer (some ⟨g222, 5, none⟩)) (fun _ _ => by kernel_rfl) s2y0 (fun a2y1 s2y3 h2y2 => ?_)
      clear h2tv a2tu h2tz a2ty h2u1 a2u0 h2u4 a2u3 h2u6 a2u5 h2u8 a2u7 h2uh a2ug h2up a2uo h2ur a2uq h2uw a2uv h2v0 a2uz h2xz a2xy
      refine WT.tk 3 h2y2 rfl rfl (.pointer (some ⟨g222, 6, none⟩)) (fun _ _ => by kernel_rfl) s2y3 (fun a2y4 s2y6 h2y5 => ?_)
      refine WT.tk 6 h2y5 rfl rfl (i6 r2uc) (fun _ _ => by kernel_rfl) s2y6 (fun a2y7 s2y9 h2y8 => ?_)
      refine WT.tk 2 h2y8 rfl rfl (.int .u32 p2.f5) (fun w_ hs_ => (run_load1 rfl rfl Try.underlying25 rfl hs_.1)) s2y9 (fun a2ya s2yc h2yb => ?_)
      refine WT.tk 4 h2yb rfl rfl (.int .u32 p2.f6) (fun w_ hs_ => (run_load1 rfl rfl Try.underlying25 rfl hs_.2.1)) s2yc (fun a2yd s2yf h2ye => ?_)
      refine WT.tk 9 h2ye rfl rfl (.agg #[.slice A2um r2ub.f0.length c2un, i6 r2ub.f1, i6 r2ub.f2.f0, .bool r2ub.f2.f1]) (fun w_ hs_ => (run_loadN rfl rfl Try.underlying56 rfl (cs := [.slice A2um r2ub.f0.length c2un, i6 r2ub.f1, i6 r2ub.f2.f0, .bool r2ub.f2.f1]) (by kernel_rfl) hs_.2.2.1)) s2yf (fun a2yg s2yi h2yh => ?_)
      have hS2yj := hS2xx.b5
      obtain ⟨r2yl, r2ym, A2yk, H⟩ := bind2 H
      refine WT.o1 5 h2yh rfl ?_
      refine owp_call [v0, .int .u32 p2.f5, .int .u32 p2.f6] h2yh rfl (by kernel_rfl) rfl Try.func26 (by kernel_rfl) rfl (by kernel_rfl) (turns_Ring_Shift.calls k hp0 A2yk hS2yj) (fun e2yo W2yn hp2yp => ?_)
      obtain ⟨M2ys, rfl, hr2yt, hS2yu⟩ := hp2yp
      refine ⟨_, rfl, fun a2yq h2yr => ?_⟩
      refine ⟨.inr ⟨(hS2yu.b3.cell (i := 5) rfl), (hS2yu.b3.cell (i := 6) rfl), (hS2yu.b1.cells (vs := [.slice A2um r2ub.f0.length c2un, i6 r2ub.f1, i6 r2ub.f2.f0, .bool r2ub.f2.f1]) rfl), trivial⟩, ?_⟩
      obtain ⟨r2yw, A2yv, H⟩ := bind1 H
      refine WT.o1 7 h2yr rfl ?_
      refine owp_call [i6 r2uc] h2yr rfl (by kernel_rfl) rfl Try.func42 (by kernel_rfl) rfl (by kernel_rfl) (louverlaw13qtold.calls  A2yv hS2yu) (fun e2yy W2yx hp2yz => ?_)
      obtain ⟨rfl, hS2z2⟩ := hp2yz
      refine ⟨_, rfl, fun a2z0 h2z1 => ?_⟩
      refine ⟨.inr ⟨(hS2z2.b3.cell (i := 5) rfl), (hS2z2.b3.cell (i := 6) rfl), (hS2z2.b1.cells (vs := [.slice A2um r2ub.f0.length c2un, i6 r2ub.f1, i6 r2ub.f2.f0, .bool r2ub.f2.f1]) rfl), trivial⟩, ?_⟩
      refine WT.tk 8 h2z1 rfl rfl (.bool (decide (r2yl.f0 = r2yw.f0) && decide (r2yl.f1 = r2yw.f1))) (fun w_ hs_ => (run_steq (xs := [.int .u8 r2yl.f0, .int .u32 r2yl.f1]) (ys := [.int .u8 r2yw.f0, .int .u32 r2yw.f1]) rfl rfl rfl (by kernel_rfl) (eqs_of Try.underlying50 (by kernel_rfl) (eqf_cons rfl (by kernel_rfl) rfl rfl (eqi_int Try.underlying5) (eqf_last rfl (by kernel_rfl) rfl rfl (eqi_int Try.underlying25)))))) ⟨(hS2z2.b3.cell (i := 5) rfl), (hS2z2.b3.cell (i := 6) rfl), (hS2z2.b1.cells (vs := [.slice A2um r2ub.f0.length c2un, i6 r2ub.f1, i6 r2ub.f2.f0, .bool r2ub.f2.f1]) rfl), trivial⟩ (fun a2z3 s2z5 h2z4 => ?_)
      refine WT.tk 10 h2z4 rfl rfl (.bool (decide (r2yl.f0 = r2yw.f0) && decide (r2yl.f1 = r2yw.f1))) (fun _ _ => by kernel_rfl) s2z5 (fun a2z6 s2z8 h2z7 => ?_)
      have hS2z9 := hS2z2.b5
      refine WT.o1 11 h2z7 rfl ?_
      refine owp_st 0 [.slice A2um r2ub.f0.length c2un, i6 r2ub.f1, i6 r2ub.f2.f0, .bool r2ub.f2.f1] h2z7 rfl rfl rfl hS2z9 [.slice A2um r2ub.f0.length c2un, i6 r2ub.f1, i6 r2ub.f2.f0, .bool r2ub.f2.f1] (fun a2za W2zc h2zb hS2zd => ?_)
      refine ⟨.inr ⟨(hS2zd.b4.cell (i := 5) rfl), (hS2zd.b4.cell (i := 6) rfl), (hS2zd.b2.cells (vs := [.slice A2um r2ub.f0.length c2un, i6 r2ub.f1, i6 r2ub.f2.f0, .bool r2ub.f2.f1]) rfl), trivial⟩, ?_⟩
      refine WT.dn ?_
      refine wp_ret ?_
      have hS2ze := hS2zd.drop_
      have hS2zf := hS2ze.b1
      have hS2zg := hS2zf.drop_
      have hS2zh := hS2zg.b2
      have hS2zi := hS2zh.drop_
      have hS2zj := hS2zi.b2
      have hS2zk := hS2zj.drop_
      have hS2zl := hS2zk.b1
      obtain ⟨rfl, rfl, rfl⟩ := ret3 H
      repeat (first | with_reducible refine t1 ?_ | with_reducible refine t2 ?_ | with_reducible refine t3 ?_)
      refine body_ret (v := .tuple #[.bool (decide (r2yl.f0 = r2yw.f0) && decide (r2yl.f1 = r2yw.f1)), .agg #[.slice A2um r2ub.f0.length c2un, i6 r2ub.f1, i6 r2ub.f2.f0, .bool r2ub.f2.f1]]) h2zb (by kernel_rfl) (res_many (xs := [ResultVar.tmp 6, ResultVar.cell 7 56]) rfl ⟨rfl, ⟨_, rfl, loadVarN Try.underlying56 rfl (cs := [.slice A2um r2ub.f0.length c2un, i6 r2ub.f1, i6 r2ub.f2.f0, .bool r2ub.f2.f1]) (by kernel_rfl) (hS2zd.cells (vs := [.slice A2um r2ub.f0.length c2un, i6 r2ub.f1, i6 r2ub.f2.f0, .bool r2ub.f2.f1]) rfl)⟩, trivial⟩ rfl) ?_
      exact ⟨.slice A2um r2ub.f0.length c2un, M2uj, M2ys, rfl, hr2uk, hr2yt, hS2zl⟩
     ·rw [if_neg c2tw] at H
      have hb_ : (decide (p2.f0 = 4)) = false := decide_eq_false c2tw
      try rw [hb_] at h2tv
      clear hb_
      refine wp_else h2tv rfl ?_
      refine wp_skip ?_
      refine wp_seq ?_
      refine WL.start ?_
      refine WL.bl 2 2 h2tv [(166, .pointer (some ⟨g222, 1, none⟩)), (165, v0)] (fun a2zm h2zn => ?_)
      refine WL.oq h2zn rfl ?_
      refine owp_rn (.int .u32 p2.f1) h2zn rfl (run_load1 rfl rfl Try.underlying25 rfl (hS22d.cell (i := 1) rfl)) (fun a2zo h2zp => ?_)
      have hS2zq := hS22d.b4
      obtain ⟨r2zs, A2zr, H⟩ := bind1 H
      refine WL.oq h2zp rfl ?_
      refine owp_call [v0, .int .u32 p2.f1] h2zp rfl (by kernel_rfl) rfl Try.func20 (by kernel_rfl) rfl (by kernel_rfl) (turns_Ring_Drop.calls k hp0 A2zr hS2zq) (fun e2zu W2zt hp2zv => ?_)
      obtain ⟨M2zy, rfl, hr2zz, hS300⟩ := hp2zv
      refine ⟨_, rfl, fun a2zw h2zx => ?_⟩
      refine WL.dn ?_
      refine wp_seq ?_
      refine WL.start ?_
      have hS301 := hS300.b3
      refine WL.oq h2zx rfl ?_
      refine owp_rn (.agg #[.slice A1q0 p1.f0.length c1q0, i6 p1.f1, i6 p1.f2.f0, .bool p1.f2.f1]) h2zx rfl (run_loadN rfl rfl Try.underlying56 rfl (cs := [.slice A1q0 p1.f0.length c1q0, i6 p1.f1, i6 p1.f2.f0, .bool p1.f2.f1]) (by kernel_rfl) (hS301.cells (vs := [.slice A1q0 p1.f0.length c1q0, i6 p1.f1, i6 p1.f2.f0, .bool p1.f2.f1]) rfl)) (fun a302 h303 => ?_)
      refine WL.bl 1 2 h303 [(170, .pointer (some ⟨g222, 1, none⟩))] (fun a304 h305 => ?_)
      have hS306 := hS301.b2
      refine WL.oq h305 rfl ?_
      refine owp_rn (.int .u32 p2.f1) h305 rfl (run_load1 rfl rfl Try.underlying25 rfl (hS306.cell (i := 1) rfl)) (fun a307 h308 => ?_)
      have hS309 := hS306.b4
      obtain ⟨r30b, A30a, H⟩ := bind1 H
      refine WL.oq h308 rfl ?_
      refine owp_call [.agg #[.slice A1q0 p1.f0.length c1q0, i6 p1.f1, i6 p1.f2.f0, .bool p1.f2.f1], .int .u32 p2.f1] h308 rfl (by kernel_rfl) rfl Try.func44 (by kernel_rfl) rfl (by kernel_rfl) (louverref13qR_Drop.calls (p0 := (⟨p1.f0, p1.f1, (⟨p1.f2.f0, p1.f2.f1⟩ : S41)⟩ : S56)) k hp1q0 A30a hS309) (fun e30d W30c hp30e => ?_)
      obtain ⟨v30h, M30i, rfl, hr30j, hS30k⟩ := hp30e
      refine ⟨_, rfl, fun a30f h30g => ?_⟩
      obtain ⟨A30l, c30m, rfl⟩ := hr30j.form
      refine WL.bl 1 5 h30g [(6, .bool true)] (fun a30n h30o => ?_)
      have hS30p := hS30k.b4
      refine WL.oq h30o rfl ?_
      refine owp_st 0 [.slice A30l r30b.f0.length c30m, i6 r30b.f1, i6 r30b.f2.f0, .bool r30b.f2.f1] h30o rfl rfl rfl hS30p [.slice A30l r30b.f0.length c30m, i6 r30b.f1, i6 r30b.f2.f0, .bool r30b.f2.f1] (fun a30q W30s h30r hS30t => ?_)
      refine WL.dn ?_
      refine wp_ret ?_
      have hS30u := hS30t.drop_
      have hS30v := hS30u.b1
      have hS30w := hS30v.drop_
      have hS30x := hS30w.b1
      have hS30y := hS30x.drop_
      obtain ⟨rfl, rfl, rfl⟩ := ret3 H
      repeat (first | with_reducible refine t1 ?_ | with_reducible refine t2 ?_ | with_reducible refine t3 ?_)
      refine body_ret (v := .tuple #[.bool true, .agg #[.slice A30l r30b.f0.length c30m, i6 r30b.f1, i6 r30b.f2.f0, .bool r30b.f2.f1]]) h30r (by kernel_rfl) (res_many (xs := [ResultVar.tmp 6, ResultVar.cell 7 56]) rfl ⟨rfl, ⟨_, rfl, loadVarN Try.underlying56 rfl (cs := [.slice A30l r30b.f0.length c30m, i6 r30b.f1, i6 r30b.f2.f0, .bool r30b.f2.f1]) (by kernel_rfl) (hS30t.cells (vs := [.slice A30l r30b.f0.length c30m, i6 r30b.f1, i6 r30b.f2.f0, .bool r30b.f2.f1]) rfl)⟩, trivial⟩ rfl) ?_
      exact ⟨.slice A30l r30b.f0.length c30m, M30i, M2zy, rfl, hr30j, hr2zz, hS30y⟩

/-! ### (*louver/turns.Ring).Waits -/
def turns_Ring_Waits.f (k : Nat) (p0 : S69) (p1 : Int) : Option (Int) := bnd1 (turns_Ring_find.f k p0 p1) fun r12r => (if r12r < 0 then (some 0) else (if 0 ≤ r12r then (if r12r < (p0.f0.length : Int) then (lt1 (gt z72 p0.f0 r12r : S72) fun y144 => (some (y144.f1.length : Int))) else (none)) else (none)))
set_option maxHeartbeats 20000000 in
set_option maxRecDepth 100000 in
theorem turns_Ring_Waits.calls (k : Nat) {b : Nat} {w0 W : World} {R : Frag} {Fs : List Frag} {p0 : S69} {p1 : Int}  {v0 : Value} {M0 : Frag} {r0q : Int} (hp0 : Ptr k69 69 b w0 R v0 p0 M0) (H : turns_Ring_Waits.f k p0 p1 = some r0q) (hS : St b w0 W R (M0 :: Fs)) :
  Calls Try.prog 13 ([v0, .int .u32 p1] : List Value).toArray W (fun e W' => ∃ (O0q : Frag), e = .returned (i6 r0q) ∧ Ptr k69 69 b w0 R v0 p0 O0q ∧ St b w0 W' R (O0q :: Fs)) := by
 unfold turns_Ring_Waits.f at H
 refine calls_enter Try.func13 rfl 22 rfl (by kernel_rfl) (fun a h => ?_)
 refine wp_seq ?_
 refine WL.start ?_
 refine WL.bl 1 1 h [(4, i6 0)] (fun a12m h12n => ?_)
 refine WL.dn ?_
 refine wp_seq ?_
 refine WL.start ?_
 refine WL.bl 2 2 h12n [(7, .int .u32 p1), (6, v0)] (fun a12o h12p => ?_)
 obtain ⟨r12r, A12q, H⟩ := bind1 H
 refine WL.oq h12p rfl ?_
 refine owp_call [v0, .int .u32 p1] h12p rfl (by kernel_rfl) rfl Try.func28 (by kernel_rfl) rfl (by kernel_rfl) (turns_Ring_find.calls k hp0 A12q hS) (fun e12t W12s hp12u => ?_)
 obtain ⟨M12x, rfl, hr12y, hS12z⟩ := hp12u
 refine ⟨_, rfl, fun a12v h12w => ?_⟩
 refine WL.bl 1 4 h12w [(5, i6 r12r)] (fun a130 h131 => ?_)
 refine WL.dn ?_
 refine wp_seq ?_
 refine wp_seq ?_
 refine WL.start ?_
 refine WL.bl 2 2 h131 [(10, .bool (decide (r12r < 0))), (9, i6 r12r)] (fun a132 h133 => ?_)
 refine WL.dn ?_
 clear h12n a12m h12p a12o h12w a12v h131 a130
 by_cases c134 : r12r < 0
 ·rw [if_pos c134] at H
  have hb_ : (decide (r12r < 0)) = true := decide_eq_true c134
  try rw [hb_] at h133
  clear hb_
  refine wp_then h133 rfl ?_
  refine wp_seq ?_
  refine WL.start ?_
  refine WL.bl 1 1 h133 [(4, i6 0)] (fun a135 h136 => ?_)
  refine WL.dn ?_
  refine wp_ret ?_
  obtain rfl := Option.some.inj H
  repeat (first | with_reducible refine t1 ?_ | with_reducible refine t2 ?_ | with_reducible refine t3 ?_)
  refine bret (i6 0) h136 ?_
  exact ⟨M12x, rfl, hr12y, hS12z⟩
 ·rw [if_neg c134] at H
  have hb_ : (decide (r12r < 0)) = false := decide_eq_false c134
  try rw [hb_] at h133
  clear hb_
  refine wp_else h133 rfl ?_
  refine wp_skip ?_
  refine wp_seq ?_
  refine WL.start ?_
  refine WL.bl 1 1 h133 [(11, v0)] (fun a137 h138 => ?_)
  obtain ⟨g13a, A13b, c13c, g13f, M13d, M13g, rfl, hr13e, hr13h, hS139⟩ := k69qop hr12y hS12z
  refine WL.bl 2 3 h138 [(13, pt g13a), (12, pt g13a)] (fun a13i h13j => ?_)
  refine WL.oq h13j rfl ?_
  refine owp_rn (.slice A13b p0.f0.length c13c) h13j rfl (run_load1 rfl rfl Try.underlying67 rfl (hS139.cell (i := 0) rfl)) (fun a13k h13l => ?_)
  refine WL.bl 1 5 h13l [(15, i6 r12r)] (fun a13m h13n => ?_)
  clear h133 a132 h138 a137 h13j a13i h13l a13k
  by_cases c13o : 0 ≤ r12r
  ·rw [if_pos c13o] at H
   by_cases c13p : r12r < (p0.f0.length : Int)
   ·rw [if_pos c13p] at H
    have hi13s : 0 ≤ r12r := by first | assumption | omega
    have hi13t : r12r < (p0.f0.length : Int) := by first | assumption | omega
    obtain ⟨ad13q, _, ha13r, -, -⟩ := Rds.elemAny hr13e.rds hi13s (gt_get (z := z72) hi13s hi13t)
    refine WL.oq h13n rfl ?_
    refine owp_rn (.pointer (some (ad13q.add (r12r.toNat * 1)))) h13n rfl (run_idx (ad := ad13q) (sz := 1) rfl (by rw [← ha13r]; rfl) rfl Try.underlying67 (by kernel_rfl) hi13s hi13t) (fun a13u h13v => ?_)
    have hS13w := hS139.b1
    obtain ⟨g13x, M13y, M13z, hp140, hh141, hm142, hc143⟩ := Row.openp (dk := k72) z72 hr13e ha13r hi13s hi13t
    obtain ⟨y144, hy145, H⟩ := lete H
    have hr146 : Ptr k72 72 b w0 R (pt g13x) y144 M13z := by rw [hy145]; exact hp140
    have hS148 : St b w0 W12s R (M13z :: M13y :: (bx g13a 69 [.slice A13b p0.f0.length c13c, i6 p0.f1, pt g13f]) :: M13g :: Fs) := hm142 _ _ hS13w
    clear hm142 hp140 hr13e
    refine WL.oq h13v rfl ?_
    refine owp_rn (pt g13x) h13v rfl (run_load1 rfl rfl Try.underlying70 rfl (hc143 _ _ hS148.b1)) (fun a149 h14a => ?_)
    obtain ⟨A14c, c14d, g14g, M14e, M14h, hr14f, hr14i, hS14b⟩ := k72qoq hr146 hS148
    refine WL.bl 2 9 h14a [(19, .pointer (some ⟨g13x, 1, none⟩)), (18, pt g13x)] (fun a14j h14k => ?_)
    refine WL.oq h14k rfl ?_
    refine owp_rn (.slice A14c y144.f1.length c14d) h14k rfl (run_load1 rfl rfl Try.underlying27 rfl (hS14b.cell (i := 1) rfl)) (fun a14l h14m => ?_)
    refine WL.bl 2 12 h14m [(4, i6 (y144.f1.length : Int)), (21, i6 (y144.f1.length : Int))] (fun a14n h14o => ?_)
    refine WL.dn ?_
    refine wp_ret ?_
    have hS14p := hS14b.b2
    have hS14q := hS14p.b2
    have hS14r := hS14q.b2
    obtain ⟨M14s, hp14t, hS14u⟩ := k72qfo y144 hr14f hr14i hS14r
    have hS14v := hS14u.b1
    have hS14w := hS14v.b1
    obtain ⟨M14x, hr14y, hm14z⟩ := hh141.same hy145 hi13s hi13t hp14t
    have hS151 : St b w0 W12s R (M14x :: (bx g13a 69 [.slice A13b p0.f0.length c13c, i6 p0.f1, pt g13f]) :: M13g :: Fs) := hm14z _ _ hS14w
    have hS152 := hS151.b2
    have hS153 := hS152.b1
    have hS154 := hS153.b2
    obtain ⟨M155, hp156, hS157⟩ := k69qfo p0 hr14y hr13h hS154
    obtain rfl := Option.some.inj H
    repeat (first | with_reducible refine t1 ?_ | with_reducible refine t2 ?_ | with_reducible refine t3 ?_)
    refine bret (i6 (y144.f1.length : Int)) h14o ?_
    exact ⟨M155, rfl, hp156, hS157⟩
   ·rw [if_neg c13p] at H
    cases H
  ·rw [if_neg c13o] at H
   cases H

/-! ### (*louver/turns.Ring).Waits -/
def turns_Ring_Waits_nil.f (k : Nat) (p1 : Int) : Option (Int) := bnd1 (turns_Ring_find_nil.f p1) fun r10q => (if r10q < 0 then (some 0) else (none))
set_option maxHeartbeats 20000000 in
set_option maxRecDepth 100000 in
theorem turns_Ring_Waits_nil.calls (k : Nat) {b : Nat} {w0 W : World} {R : Frag} {Fs : List Frag} {p1 : Int}  {r0q : Int}  (H : turns_Ring_Waits_nil.f k p1 = some r0q) (hS : St b w0 W R (Fs)) :
  Calls Try.prog 13 ([.pointer none, .int .u32 p1] : List Value).toArray W (fun e W' => e = .returned (i6 r0q) ∧ St b w0 W' R (Fs)) := by
 unfold turns_Ring_Waits_nil.f at H
 refine calls_enter Try.func13 rfl 22 rfl (by kernel_rfl) (fun a h => ?_)
 refine wp_seq ?_
 refine WL.start ?_
 refine WL.bl 1 1 h [(4, i6 0)] (fun a10l h10m => ?_)
 refine WL.dn ?_
 refine wp_seq ?_
 refine WL.start ?_
 refine WL.bl 2 2 h10m [(7, .int .u32 p1), (6, .pointer none)] (fun a10n h10o => ?_)
 obtain ⟨r10q, A10p, H⟩ := bind1 H
 refine WL.oq h10o rfl ?_
 refine owp_call [.pointer none, .int .u32 p1] h10o rfl (by kernel_rfl) rfl Try.func28 (by kernel_rfl) rfl (by kernel_rfl) (turns_Ring_find_nil.calls  A10p hS) (fun e10s W10r hp10t => ?_)
 obtain ⟨rfl, hS10w⟩ := hp10t
 refine ⟨_, rfl, fun a10u h10v => ?_⟩
 refine WL.bl 1 4 h10v [(5, i6 r10q)] (fun a10x h10y => ?_)
 refine WL.dn ?_
 refine wp_seq ?_
 refine wp_seq ?_
 refine WL.start ?_
 refine WL.bl 2 2 h10y [(10, .bool (decide (r10q < 0))), (9, i6 r10q)] (fun a10z h110 => ?_)
 refine WL.dn ?_
 clear h10m a10l h10o a10n h10v a10u h10y a10x
 by_cases c111 : r10q < 0
 ·rw [if_pos c111] at H
  have hb_ : (decide (r10q < 0)) = true := decide_eq_true c111
  try rw [hb_] at h110
  clear hb_
  refine wp_then h110 rfl ?_
  refine wp_seq ?_
  refine WL.start ?_
  refine WL.bl 1 1 h110 [(4, i6 0)] (fun a112 h113 => ?_)
  refine WL.dn ?_
  refine wp_ret ?_
  obtain rfl := Option.some.inj H
  repeat (first | with_reducible refine t1 ?_ | with_reducible refine t2 ?_ | with_reducible refine t3 ?_)
  refine bret (i6 0) h113 ?_
  exact ⟨rfl, hS10w⟩
 ·rw [if_neg c111] at H
  have hb_ : (decide (r10q < 0)) = false := decide_eq_false c111
  try rw [hb_] at h110
  clear hb_
  refine wp_else h110 rfl ?_
  refine wp_skip ?_
  refine wp_seq ?_
  refine WL.start ?_
  refine WL.bl 1 1 h110 [(11, .pointer none)] (fun a114 h115 => ?_)
  cases H

/-! ### (*louver/turns.Ring).Left -/
def turns_Ring_Left.f (k : Nat) (p0 : S69) (p1 : Int) : Option (Int) := bnd1 (turns_Ring_find.f k p0 p1) fun r13y => (if p1 = 0 then (bnd1 (window_Window_Left.f p0.f2) fun r14v => (some r14v)) else (if r13y < 0 then (some 0) else (if 0 ≤ r13y then (if r13y < (p0.f0.length : Int) then (lt1 (gt z72 p0.f0 r13y : S72) fun y168 => (bnd1 (window_Window_Left.f y168.f4) fun r16t => (some r16t))) else (none)) else (none))))
set_option maxHeartbeats 20000000 in
set_option maxRecDepth 100000 in
theorem turns_Ring_Left.calls (k : Nat) {b : Nat} {w0 W : World} {R : Frag} {Fs : List Frag} {p0 : S69} {p1 : Int}  {v0 : Value} {M0 : Frag} {r0q : Int} (hp0 : Ptr k69 69 b w0 R v0 p0 M0) (H : turns_Ring_Left.f k p0 p1 = some r0q) (hS : St b w0 W R (M0 :: Fs)) :
  Calls Try.prog 24 ([v0, .int .u32 p1] : List Value).toArray W (fun e W' => ∃ (O0q : Frag), e = .returned (i6 r0q) ∧ Ptr k69 69 b w0 R v0 p0 O0q ∧ St b w0 W' R (O0q :: Fs)) := by
 unfold turns_Ring_Left.f at H
 refine calls_enter Try.func24 rfl 34 rfl (by kernel_rfl) (fun a h => ?_)
 refine wp_seq ?_
 refine WL.start ?_
 refine WL.bl 1 1 h [(4, i6 0)] (fun a13t h13u => ?_)
 refine WL.dn ?_
 refine wp_seq ?_
 refine WL.start ?_
 refine WL.bl 2 2 h13u [(7, .int .u32 p1), (6, v0)] (fun a13v h13w => ?_)
 obtain ⟨r13y, A13x, H⟩ := bind1 H
 refine WL.oq h13w rfl ?_
 refine owp_call [v0, .int .u32 p1] h13w rfl (by kernel_rfl) rfl Try.func28 (by kernel_rfl) rfl (by kernel_rfl) (turns_Ring_find.calls k hp0 A13x hS) (fun e140 W13z hp141 => ?_)
 obtain ⟨M144, rfl, hr145, hS146⟩ := hp141
 refine ⟨_, rfl, fun a142 h143 => ?_⟩
 refine WL.bl 1 4 h143 [(5, i6 r13y)] (fun a147 h148 => ?_)
 refine WL.dn ?_
 refine wp_seq ?_
 refine wp_block ?_
 refine wp_seq ?_
 refine WL.start ?_
 refine WL.bl 1 1 h148 [(10, v0)] (fun a149 h14a => ?_)
 obtain ⟨g14c, A14d, c14e, g14h, M14f, M14i, rfl, hr14g, hr14j, hS14b⟩ := k69qop hr145 hS146
 refine WL.bl 2 3 h14a [(9, .bool false), (11, .bool false)] (fun a14k h14l => ?_)
 refine WL.dn ?_
 refine wp_else h14l rfl ?_
 refine wp_seq ?_
 refine WL.start ?_
 refine WL.bl 3 3 h14l [(12, .bool (decide (p1 = 0))), (14, .bool (decide (p1 = 0))), (13, .int .u32 p1)] (fun a14m h14n => ?_)
 refine WL.dn ?_
 clear h13u a13t h13w a13v h143 a142 h148 a147 h14a a149 h14l a14k
 by_cases c14o : p1 = 0
 ·rw [if_pos c14o] at H
  have hb_ : (decide (p1 = 0)) = true := decide_eq_true c14o
  try rw [hb_] at h14n
  clear hb_
  refine wp_then h14n rfl ?_
  refine wp_seq ?_
  refine WL.start ?_
  refine WL.bl 3 3 h14n [(17, .pointer (some ⟨g14c, 2, none⟩)), (16, pt g14c), (15, pt g14c)] (fun a14p h14q => ?_)
  refine WL.oq h14q rfl ?_
  refine owp_rn (pt g14h) h14q rfl (run_load1 rfl rfl Try.underlying65 rfl (hS14b.cell (i := 2) rfl)) (fun a14r h14s => ?_)
  have hS14t := hS14b.b2
  obtain ⟨r14v, A14u, H⟩ := bind1 H
  refine WL.oq h14s rfl ?_
  refine owp_call [(pt g14h)] h14s rfl (by kernel_rfl) rfl Try.func30 (by kernel_rfl) rfl (by kernel_rfl) (window_Window_Left.calls hr14j A14u hS14t) (fun e14x W14w hp14y => ?_)
  obtain ⟨M151, rfl, hr152, hS153⟩ := hp14y
  refine ⟨_, rfl, fun a14z h150 => ?_⟩
  refine WL.bl 1 6 h150 [(4, i6 r14v)] (fun a154 h155 => ?_)
  refine WL.dn ?_
  refine wp_ret ?_
  have hS156 := hS153.b2
  have hS157 := hS156.b2
  obtain ⟨M158, hp159, hS15a⟩ := k69qfo p0 hr14g hr152 hS157
  obtain rfl := Option.some.inj H
  repeat (first | with_reducible refine t1 ?_ | with_reducible refine t2 ?_ | with_reducible refine t3 ?_)
  refine bret (i6 r14v) h155 ?_
  exact ⟨M158, rfl, hp159, hS15a⟩
 ·rw [if_neg c14o] at H
  have hb_ : (decide (p1 = 0)) = false := decide_eq_false c14o
  try rw [hb_] at h14n
  clear hb_
  refine wp_else h14n rfl ?_
  refine wp_seq ?_
  refine WL.start ?_
  refine WL.bl 3 3 h14n [(20, .bool (decide (r13y < 0))), (22, .bool (decide (r13y < 0))), (21, i6 r13y)] (fun a15b h15c => ?_)
  refine WL.dn ?_
  clear h14n a14m
  by_cases c15d : r13y < 0
  ·rw [if_pos c15d] at H
   have hb_ : (decide (r13y < 0)) = true := decide_eq_true c15d
   try rw [hb_] at h15c
   clear hb_
   refine wp_then h15c rfl ?_
   refine wp_seq ?_
   refine WL.start ?_
   refine WL.bl 1 1 h15c [(4, i6 0)] (fun a15e h15f => ?_)
   refine WL.dn ?_
   refine wp_ret ?_
   have hS15g := hS14b.b2
   have hS15h := hS15g.b2
   have hS15i := hS15h.b2
   obtain ⟨M15j, hp15k, hS15l⟩ := k69qfo p0 hr14g hr14j hS15i
   obtain rfl := Option.some.inj H
   repeat (first | with_reducible refine t1 ?_ | with_reducible refine t2 ?_ | with_reducible refine t3 ?_)
   refine bret (i6 0) h15f ?_
   exact ⟨M15j, rfl, hp15k, hS15l⟩
  ·rw [if_neg c15d] at H
   have hb_ : (decide (r13y < 0)) = false := decide_eq_false c15d
   try rw [hb_] at h15c
   clear hb_
   refine wp_else h15c rfl ?_
   refine wp_skip ?_
   refine wp_seq ?_
   refine WL.start ?_
   refine WL.bl 3 3 h15c [(25, pt g14c), (24, pt g14c), (23, pt g14c)] (fun a15m h15n => ?_)
   refine WL.oq h15n rfl ?_
   refine owp_rn (.slice A14d p0.f0.length c14e) h15n rfl (run_load1 rfl rfl Try.underlying67 rfl (hS14b.cell (i := 0) rfl)) (fun a15o h15p => ?_)
   refine WL.bl 1 5 h15p [(27, i6 r13y)] (fun a15q h15r => ?_)
   clear h15c a15b h15n a15m h15p a15o
   by_cases c15s : 0 ≤ r13y
   ·rw [if_pos c15s] at H
    by_cases c15t : r13y < (p0.f0.length : Int)
    ·rw [if_pos c15t] at H
     have hi15w : 0 ≤ r13y := by first | assumption | omega
     have hi15x : r13y < (p0.f0.length : Int) := by first | assumption | omega
     obtain ⟨ad15u, _, ha15v, -, -⟩ := Rds.elemAny hr14g.rds hi15w (gt_get (z := z72) hi15w hi15x)
     refine WL.oq h15r rfl ?_
     refine owp_rn (.pointer (some (ad15u.add (r13y.toNat * 1)))) h15r rfl (run_idx (ad := ad15u) (sz := 1) rfl (by rw [← ha15v]; rfl) rfl Try.underlying67 (by kernel_rfl) hi15w hi15x) (fun a15y h15z => ?_)
     have hS160 := hS14b.b1
     obtain ⟨g161, M162, M163, hp164, hh165, hm166, hc167⟩ := Row.openp (dk := k72) z72 hr14g ha15v hi15w hi15x
     obtain ⟨y168, hy169, H⟩ := lete H
     have hr16a : Ptr k72 72 b w0 R (pt g161) y168 M163 := by rw [hy169]; exact hp164
     have hS16c : St b w0 W13z R (M163 :: M162 :: (bx g14c 69 [.slice A14d p0.f0.length c14e, i6 p0.f1, pt g14h]) :: M14i :: Fs) := hm166 _ _ hS160
     clear hm166 hp164 hr14g
     refine WL.oq h15z rfl ?_
     refine owp_rn (pt g161) h15z rfl (run_load1 rfl rfl Try.underlying70 rfl (hc167 _ _ hS16c.b1)) (fun a16d h16e => ?_)
     obtain ⟨A16g, c16h, g16k, M16i, M16l, hr16j, hr16m, hS16f⟩ := k72qoq hr16a hS16c
     refine WL.bl 2 9 h16e [(31, .pointer (some ⟨g161, 4, none⟩)), (30, pt g161)] (fun a16n h16o => ?_)
     refine WL.oq h16o rfl ?_
     refine owp_rn (pt g16k) h16o rfl (run_load1 rfl rfl Try.underlying65 rfl (hS16f.cell (i := 4) rfl)) (fun a16p h16q => ?_)
     have hS16r := hS16f.b2
     obtain ⟨r16t, A16s, H⟩ := bind1 H
     refine WL.oq h16q rfl ?_
     refine owp_call [(pt g16k)] h16q rfl (by kernel_rfl) rfl Try.func30 (by kernel_rfl) rfl (by kernel_rfl) (window_Window_Left.calls hr16m A16s hS16r) (fun e16v W16u hp16w => ?_)
     obtain ⟨M16z, rfl, hr170, hS171⟩ := hp16w
     refine ⟨_, rfl, fun a16x h16y => ?_⟩
     refine WL.bl 1 12 h16y [(4, i6 r16t)] (fun a172 h173 => ?_)
     refine WL.dn ?_
     refine wp_ret ?_
     have hS174 := hS171.b2
     have hS175 := hS174.b2
     obtain ⟨M176, hp177, hS178⟩ := k72qfo y168 hr16j hr170 hS175
     have hS179 := hS178.b1
     have hS17a := hS179.b1
     obtain ⟨M17b, hr17c, hm17d⟩ := hh165.same hy169 hi15w hi15x hp177
     have hS17f : St b w0 W16u R (M17b :: (bx g14c 69 [.slice A14d p0.f0.length c14e, i6 p0.f1, pt g14h]) :: M14i :: Fs) := hm17d _ _ hS17a
     have hS17g := hS17f.b2
     have hS17h := hS17g.b1
     have hS17i := hS17h.b2
     obtain ⟨M17j, hp17k, hS17l⟩ := k69qfo p0 hr17c hr14j hS17i
     obtain rfl := Option.some.inj H
     repeat (first | with_reducible refine t1 ?_ | with_reducible refine t2 ?_ | with_reducible refine t3 ?_)
     refine bret (i6 r16t) h173 ?_
     exact ⟨M17j, rfl, hp17k, hS17l⟩
    ·rw [if_neg c15t] at H
     cases H
   ·rw [if_neg c15s] at H
    cases H

/-! ### (*louver/turns.Ring).Left -/
def turns_Ring_Left_nil.f (k : Nat) (p1 : Int) : Option (Int) := bnd1 (turns_Ring_find_nil.f p1) fun r10n => (some 0)
set_option maxHeartbeats 20000000 in
set_option maxRecDepth 100000 in
theorem turns_Ring_Left_nil.calls (k : Nat) {b : Nat} {w0 W : World} {R : Frag} {Fs : List Frag} {p1 : Int}  {r0q : Int}  (H : turns_Ring_Left_nil.f k p1 = some r0q) (hS : St b w0 W R (Fs)) :
  Calls Try.prog 24 ([.pointer none, .int .u32 p1] : List Value).toArray W (fun e W' => e = .returned (i6 r0q) ∧ St b w0 W' R (Fs)) := by
 unfold turns_Ring_Left_nil.f at H
 refine calls_enter Try.func24 rfl 34 rfl (by kernel_rfl) (fun a h => ?_)
 refine wp_seq ?_
 refine WL.start ?_
 refine WL.bl 1 1 h [(4, i6 0)] (fun a10i h10j => ?_)
 refine WL.dn ?_
 refine wp_seq ?_
 refine WL.start ?_
 refine WL.bl 2 2 h10j [(7, .int .u32 p1), (6, .pointer none)] (fun a10k h10l => ?_)
 obtain ⟨r10n, A10m, H⟩ := bind1 H
 refine WL.oq h10l rfl ?_
 refine owp_call [.pointer none, .int .u32 p1] h10l rfl (by kernel_rfl) rfl Try.func28 (by kernel_rfl) rfl (by kernel_rfl) (turns_Ring_find_nil.calls  A10m hS) (fun e10p W10o hp10q => ?_)
 obtain ⟨rfl, hS10t⟩ := hp10q
 refine ⟨_, rfl, fun a10r h10s => ?_⟩
 refine WL.bl 1 4 h10s [(5, i6 r10n)] (fun a10u h10v => ?_)
 refine WL.dn ?_
 refine wp_seq ?_
 refine wp_block ?_
 refine wp_seq ?_
 refine WL.start ?_
 refine WL.bl 3 3 h10v [(9, .bool true), (11, .bool true), (10, .pointer none)] (fun a10w h10x => ?_)
 refine WL.dn ?_
 refine wp_then h10x rfl ?_
 refine wp_seq ?_
 refine WL.start ?_
 refine WL.bl 1 1 h10x [(4, i6 0)] (fun a10y h10z => ?_)
 refine WL.dn ?_
 refine wp_ret ?_
 obtain rfl := Option.some.inj H
 repeat (first | with_reducible refine t1 ?_ | with_reducible refine t2 ?_ | with_reducible refine t3 ?_)
 refine bret (i6 0) h10z ?_
 exact ⟨rfl, hS10t⟩

/-! ### (*louver/turns.Ring).Can$1 -/
def turns_Ring_Can_1.f (p0 : S72) (p2 : S94) : Option (Bool) := bnd1 (window_Window_Left.f p2) fun r11i => (bnd1 (turns_sender_can.f p0 r11i) fun r11t => (some r11t))
set_option maxHeartbeats 20000000 in
set_option maxRecDepth 100000 in
theorem turns_Ring_Can_1.calls {b : Nat} {w0 W : World} {R : Frag} {Fs : List Frag} {p0 : S72} {p2 : S94}  {v0 : Value} {M0 : Frag} {M2 : Frag} {gc gr gw : Nat} {vl : Value} {p1 : Int} {r0q : Bool} (hp0 : Ptr k72 72 b w0 R v0 p0 M0) (hp2 : Ptr k94 94 b w0 R (pt gw) p2 M2) (H : turns_Ring_Can_1.f p0 p2 = some r0q) (hS : St b w0 W R (M0 :: M2 :: (bx gc 22 [(pt gr)]) :: (bx gr 69 [vl, i6 p1, pt gw]) :: Fs)) :
  Calls Try.prog 34 ([v0, pt gc] : List Value).toArray W (fun e W' => ∃ (O0q : Frag) (O2q : Frag), e = .returned (.bool r0q) ∧ Ptr k72 72 b w0 R v0 p0 O0q ∧ Ptr k94 94 b w0 R (pt gw) p2 O2q ∧ St b w0 W' R (O0q :: O2q :: (bx gc 22 [(pt gr)]) :: (bx gr 69 [vl, i6 p1, pt gw]) :: Fs)) := by
 unfold turns_Ring_Can_1.f at H
 refine calls_enter Try.func34 rfl 11 rfl (by kernel_rfl) (fun a h => ?_)
 refine wp_seq ?_
 refine WL.start ?_
 refine WL.bl 1 1 h [(3, .bool false)] (fun a114 h115 => ?_)
 refine WL.dn ?_
 refine wp_seq ?_
 refine WL.start ?_
 refine WL.bl 1 1 h115 [(4, v0)] (fun a116 h117 => ?_)
 have hS118 := hS.b2
 refine WL.oq h117 rfl ?_
 refine owp_rn (pt gr) h117 rfl (run_load1 rfl rfl Try.underlying22 rfl (hS118.cell (i := 0) rfl)) (fun a119 h11a => ?_)
 refine WL.bl 2 4 h11a [(7, .pointer (some ⟨gr, 2, none⟩)), (6, pt gr)] (fun a11b h11c => ?_)
 have hS11d := hS118.b3
 refine WL.oq h11c rfl ?_
 refine owp_rn (pt gw) h11c rfl (run_load1 rfl rfl Try.underlying65 rfl (hS11d.cell (i := 2) rfl)) (fun a11e h11f => ?_)
 have hS11g := hS11d.b3
 obtain ⟨r11i, A11h, H⟩ := bind1 H
 refine WL.oq h11f rfl ?_
 refine owp_call [(pt gw)] h11f rfl (by kernel_rfl) rfl Try.func30 (by kernel_rfl) rfl (by kernel_rfl) (window_Window_Left.calls hp2 A11h hS11g) (fun e11k W11j hp11l => ?_)
 obtain ⟨M11o, rfl, hr11p, hS11q⟩ := hp11l
 refine ⟨_, rfl, fun a11m h11n => ?_⟩
 have hS11r := hS11q.b3
 obtain ⟨r11t, A11s, H⟩ := bind1 H
 refine WL.oq h11n rfl ?_
 refine owp_call [v0, i6 r11i] h11n rfl (by kernel_rfl) rfl Try.func29 (by kernel_rfl) rfl (by kernel_rfl) (turns_sender_can.calls hp0 A11s hS11r) (fun e11v W11u hp11w => ?_)
 obtain ⟨M11z, rfl, hr120, hS121⟩ := hp11w
 refine ⟨_, rfl, fun a11x h11y => ?_⟩
 refine WL.bl 1 8 h11y [(3, .bool r11t)] (fun a122 h123 => ?_)
 refine WL.dn ?_
 refine wp_ret ?_
 have hS124 := hS121.b2
 have hS125 := hS124.b3
 have hS126 := hS125.b3
 have hS127 := hS126.b3
 obtain rfl := Option.some.inj H
 repeat (first | with_reducible refine t1 ?_ | with_reducible refine t2 ?_ | with_reducible refine t3 ?_)
 refine bret (.bool r11t) h123 ?_
 exact ⟨M11z, M11o, rfl, hr120, hr11p, hS127⟩
def turns_Ring_Can_1.g (p2 : S94) : S72 → Bool := fun p0 => (turns_Ring_Can_1.f p0 p2).getD false
theorem turns_Ring_Can_1.tot (p2 : S94) (p0 : S72) : turns_Ring_Can_1.f p0 p2 = some (turns_Ring_Can_1.g p2 p0) := by
 unfold turns_Ring_Can_1.g turns_Ring_Can_1.f turns_sender_can.f window_Window_Left.f
 by_cases h1 : p0.f1 = [] <;> by_cases h2 : p0.f2 = true <;> by_cases h3 : p0.f4.f0 > 0 <;> simp [h1, h2, h3, bnd1]
theorem turns_Ring_Can_1.clos {b : Nat} {w0 : World} {R : Frag} {gc gr gw : Nat} {vl : Value} {p1 : Int} {p2 : S94} : Clos Try.prog k72 72 b w0 R (.func (.func 34) #[] #[(pt gc)]) (turns_Ring_Can_1.g p2) (fun C => ∃ Mw, Ptr k94 94 b w0 R (pt gw) p2 Mw ∧ C = Mw ++ (bx gc 22 [(pt gr)]) ++ (bx gr 69 [vl, i6 p1, pt gw])) := by
 refine ⟨34, _, _, rfl, Try.func34, by kernel_rfl, rfl, ?_⟩
 rintro W x v Mx C Fs hp ⟨Mw, hw, rfl⟩ hS
 refine Calls.mono (turns_Ring_Can_1.calls (gc := gc) (gr := gr) (vl := vl) (p1 := p1) (Fs := Fs) hp hw (turns_Ring_Can_1.tot p2 x) (hS.assoc (by simp only [List.flatten_cons, List.append_assoc, List.cons_append, List.nil_append, List.append_nil]))) ?_
 rintro e W' ⟨O, O2, rfl, ho, ho2, hS'⟩
 exact ⟨O, _, rfl, ho, ⟨O2, ho2, rfl⟩, hS'.assoc (by simp only [List.flatten_cons, List.append_assoc, List.cons_append, List.nil_append, List.append_nil])⟩

/-! ### slices.ContainsFunc[[]*louver/turns.sender,*louver/turns.sender] -/
def slices_ContainsFunc.f (k : Nat) (p0 : (List S72)) (p1 : S72 → Bool) : Option (Bool) := bnd1 (slices_IndexFunc.f k p0 p1) fun r10r => (some (decide (r10r ≥ 0)))
set_option maxHeartbeats 20000000 in
set_option maxRecDepth 100000 in
theorem slices_ContainsFunc.calls (k : Nat) {b : Nat} {w0 W : World} {R : Frag} {Fs : List Frag} {p0 : (List S72)} {p1 : S72 → Bool} {v0 : Value} {M0 : Frag} {v1 : Value} {M1 : Frag} {Q1 : Frag → Prop} {r0q : Bool} (hp0 : Row (kPtr k72 72) 70 b w0 R v0 p0 M0) (hp1 : Clos Try.prog k72 72 b w0 R v1 p1 Q1) (hq1 : Q1 M1) (H : slices_ContainsFunc.f k p0 p1 = some r0q) (hS : St b w0 W R (M0 :: M1 :: Fs)) :
  Calls Try.prog 33 ([v0, v1] : List Value).toArray W (fun e W' => ∃ (O0q : Frag) (O1q : Frag), e = .returned (.bool r0q) ∧ Row (kPtr k72 72) 70 b w0 R v0 p0 O0q ∧ Q1 O1q ∧ St b w0 W' R (O0q :: O1q :: Fs)) := by
 obtain ⟨A0, c0, rfl⟩ := hp0.form
 unfold slices_ContainsFunc.f at H
 refine calls_enter Try.func33 rfl 9 rfl (by kernel_rfl) (fun a h => ?_)
 refine wp_seq ?_
 refine WL.start ?_
 refine WL.bl 1 1 h [(4, .bool false)] (fun a10k h10l => ?_)
 refine WL.dn ?_
 refine wp_seq ?_
 refine WL.start ?_
 refine WL.bl 2 2 h10l [(6, v1), (5, .slice A0 p0.length c0)] (fun a10m h10n => ?_)
 have hS10o := hS.b1
 have hS10p := hS10o.b1
 obtain ⟨r10r, A10q, H⟩ := bind1 H
 refine WL.oq h10n rfl ?_
 refine owp_call [.slice A0 p0.length c0, v1] h10n rfl (by kernel_rfl) rfl Try.func46 (by kernel_rfl) rfl (by kernel_rfl) (slices_IndexFunc.calls k hp0 hp1 hq1 A10q hS10p) (fun e10t W10s hp10u => ?_)
 obtain ⟨M10x, M10z, rfl, hr10y, hr110, hS111⟩ := hp10u
 refine ⟨_, rfl, fun a10v h10w => ?_⟩
 refine WL.bl 2 5 h10w [(4, .bool (decide (r10r ≥ 0))), (8, .bool (decide (r10r ≥ 0)))] (fun a112 h113 => ?_)
 refine WL.dn ?_
 refine wp_ret ?_
 obtain rfl := Option.some.inj H
 repeat (first | with_reducible refine t1 ?_ | with_reducible refine t2 ?_ | with_reducible refine t3 ?_)
 refine bret (.bool (decide (r10r ≥ 0))) h113 ?_
 exact ⟨M10x, M10z, rfl, hr10y, hr110, hS111⟩

/-! ### (*louver/turns.Ring).Can -/
def turns_Ring_Can.f (k : Nat) (p0 : S69) : Option (Bool) := bnd1 (slices_ContainsFunc.f k p0.f0 (turns_Ring_Can_1.g p0.f2)) fun r12n => (some r12n)
set_option maxHeartbeats 20000000 in
set_option maxRecDepth 100000 in
theorem turns_Ring_Can.calls (k : Nat) {b : Nat} {w0 W : World} {R : Frag} {Fs : List Frag} {p0 : S69}  {v0 : Value} {M0 : Frag} {r0q : Bool} (hp0 : Ptr k69 69 b w0 R v0 p0 M0) (H : turns_Ring_Can.f k p0 = some r0q) (hS : St b w0 W R (M0 :: Fs)) :
  Calls Try.prog 14 ([v0] : List Value).toArray W (fun e W' => ∃ (O0q : Frag), e = .returned (.bool r0q) ∧ Ptr k69 69 b w0 R v0 p0 O0q ∧ St b w0 W' R (O0q :: Fs)) := by
 unfold turns_Ring_Can.f at H
 refine calls_enter Try.func14 rfl 13 rfl (by kernel_rfl) (fun a h => ?_)
 refine wp_seq ?_
 refine WL.start ?_
 obtain ⟨g11o, A11p, c11q, g11t, M11r, M11u, rfl, hr11s, hr11v, hS11n⟩ := k69qop hp0 hS
 refine WL.oq h rfl ?_
 refine owp_nw (fun g_ => (pt g_)) (.cells ([(pt g11o)] : List Value).toArray 22 (0, 0)) h rfl hS11n (fun a11w W11y g11z h11x hS120 => ?_)
 refine WL.bl 1 2 h11x [(2, .bool false)] (fun a121 h122 => ?_)
 refine WL.dn ?_
 refine wp_seq ?_
 refine WL.start ?_
 refine WL.oq h122 rfl ?_
 refine owp_rn (pt g11o) h122 rfl (run_load1 rfl rfl Try.underlying22 rfl (hS120.cell (i := 0) rfl)) (fun a123 h124 => ?_)
 refine WL.bl 2 3 h124 [(5, .bool true), (4, .bool true)] (fun a125 h126 => ?_)
 refine WL.oq h126 rfl ?_
 refine owp_rn (pt g11o) h126 rfl (run_load1 rfl rfl Try.underlying22 rfl (hS120.cell (i := 0) rfl)) (fun a127 h128 => ?_)
 refine WL.oq h128 rfl (owp_rk (pt g11o) h128 rfl (fun a129 h12a => ?_))
 refine WL.oq h12a rfl (owp_rk (pt g11o) h12a rfl (fun a12b h12c => ?_))
 have hS12d := hS120.b1
 refine WL.oq h12c rfl ?_
 refine owp_rn (.slice A11p p0.f0.length c11q) h12c rfl (run_load1 rfl rfl Try.underlying67 rfl (hS12d.cell (i := 0) rfl)) (fun a12e h12f => ?_)
 refine WL.oq h12f rfl (owp_rk (.func (.func 34) #[] #[(pt g11z)]) h12f rfl (fun a12g h12h => ?_))
 have hS12i := hS12d.b1
 have hS12j := hS12i.b3
 have hS12k : St b w0 W11y R ((M11u ++ (bx g11z 22 [(pt g11o)]) ++ (bx g11o 69 [.slice A11p p0.f0.length c11q, i6 p0.f1, pt g11t])) :: M11r :: Fs) := hS12j.assoc (by simp only [List.flatten_cons, List.append_assoc, List.cons_append, List.nil_append, List.append_nil])
 have hS12l := hS12k.b1
 obtain ⟨r12n, A12m, H⟩ := bind1 H
 refine WL.oq h12h rfl ?_
 refine owp_call [.slice A11p p0.f0.length c11q, .func (.func 34) #[] #[(pt g11z)]] h12h rfl (by kernel_rfl) rfl Try.func33 (by kernel_rfl) rfl (by kernel_rfl) (slices_ContainsFunc.calls k hr11s turns_Ring_Can_1.clos ⟨_, hr11v, rfl⟩ A12m hS12l) (fun e12p W12o hp12q => ?_)
 obtain ⟨M12t, M12v, rfl, hr12u, ⟨M12x, hr12w, rfl⟩, hS12y⟩ := hp12q
 have hS12z : St b w0 W12o R (M12t :: M12x :: (bx g11z 22 [(pt g11o)]) :: (bx g11o 69 [.slice A11p p0.f0.length c11q, i6 p0.f1, pt g11t]) :: Fs) := hS12y.assoc (by simp only [List.flatten_cons, List.append_assoc, List.cons_append, List.nil_append, List.append_nil])
 refine ⟨_, rfl, fun a12r h12s => ?_⟩
 refine WL.bl 2 11 h12s [(2, .bool r12n), (12, .bool r12n)] (fun a130 h131 => ?_)
 refine WL.dn ?_
 refine wp_ret ?_
 have hS132 := hS12z.b1
 have hS133 := hS132.b1
 have hS134 := hS133.b3
 obtain ⟨M135, hp136, hS137⟩ := k69qfo p0 hr12u hr12w hS134
 have hS138 := hS137.b1
 have hS139 := hS138.drop_
 obtain rfl := Option.some.inj H
 repeat (first | with_reducible refine t1 ?_ | with_reducible refine t2 ?_ | with_reducible refine t3 ?_)
 refine bret (.bool r12n) h131 ?_
 exact ⟨M135, rfl, hp136, hS139⟩

/-! ### (*louver/turns.Ring).Can -/
def turns_Ring_Can_nil.f  : Option (Bool) := some false
set_option maxHeartbeats 20000000 in
set_option maxRecDepth 100000 in
theorem turns_Ring_Can_nil.calls {b : Nat} {w0 W : World} {R : Frag} {Fs : List Frag}   {r0q : Bool}  (H : turns_Ring_Can_nil.f = some r0q) (hS : St b w0 W R (Fs)) :
  Calls Try.prog 14 ([.pointer none] : List Value).toArray W (fun e W' => e = .returned (.bool r0q) ∧ St b w0 W' R (Fs)) := by
 unfold turns_Ring_Can_nil.f at H
 refine calls_enter Try.func14 rfl 13 rfl (by kernel_rfl) (fun a h => ?_)
 refine wp_seq ?_
 refine WL.start ?_
 refine WL.oq h rfl ?_
 refine owp_nw (fun g_ => (pt g_)) (.cells ([.pointer none] : List Value).toArray 22 (0, 0)) h rfl hS (fun a10q W10s g10t h10r hS10u => ?_)
 refine WL.bl 1 2 h10r [(2, .bool false)] (fun a10v h10w => ?_)
 refine WL.dn ?_
 refine wp_seq ?_
 refine WL.start ?_
 refine WL.oq h10w rfl ?_
 refine owp_rn (.pointer none) h10w rfl (run_load1 rfl rfl Try.underlying22 rfl (hS10u.cell (i := 0) rfl)) (fun a10x h10y => ?_)
 refine WL.bl 2 3 h10y [(5, .bool false), (4, .bool false)] (fun a10z h110 => ?_)
 refine WL.sk h110 rfl rfl (fun a111 h112 => ?_)
 refine WL.sk h112 rfl rfl (fun a113 h114 => ?_)
 refine WL.sk h114 rfl rfl (fun a115 h116 => ?_)
 refine WL.sk h116 rfl rfl (fun a117 h118 => ?_)
 refine WL.sk h118 rfl rfl (fun a119 h11a => ?_)
 refine WL.sk h11a rfl rfl (fun a11b h11c => ?_)
 refine WL.bl 2 11 h11c [(2, .bool false), (12, .bool false)] (fun a11d h11e => ?_)
 refine WL.dn ?_
 refine wp_ret ?_
 have hS11f := hS10u.drop_
 obtain rfl := Option.some.inj H
 repeat (first | with_reducible refine t1 ?_ | with_reducible refine t2 ?_ | with_reducible refine t3 ?_)
 refine bret (.bool false) h11e ?_
 exact ⟨rfl, hS11f⟩

/-! ### louver/louverlaw13.TurnsPlays -/
mutual
def louverlaw13qTurnsPlays.l0 : Nat → S69 → S56 → Int → (List S45) → Option (Bool)
 | 0, _, _, _, _ => none
 | k + 1, x5x2, x5x5, x5x8, p1 => if x5x8 < (p1.length : Int) then (if 0 ≤ x5x8 then (bnd3 (louverlaw13qstep.f k x5x2 (⟨x5x5.f0, x5x5.f1, (⟨x5x5.f2.f0, x5x5.f2.f1⟩ : S41)⟩ : S56) (⟨(gt z45 p1 x5x8).f0, (gt z45 p1 x5x8).f1, (gt z45 p1 x5x8).f2, (gt z45 p1 x5x8).f3, (gt z45 p1 x5x8).f4, (gt z45 p1 x5x8).f5, (gt z45 p1 x5x8).f6⟩ : S45)) fun r5yq r5yr r5ys => (louverlaw13qTurnsPlays.l1 k 0 false 0 p1 r5yq r5yr r5ys x5x8)) else (none)) else (bnd1 (louverlaw13qfixed.f k) fun r7mo => (some r7mo))
def louverlaw13qTurnsPlays.l1 : Nat → Int → Bool → Int → (List S45) → Bool → S56 → S69 → Int → Option (Bool)
 | 0, _, _, _, _, _, _, _, _ => none
 | k + 1, x605, x606, x607, p1, r5yq, r5yr, r5ys, x5x8 => if x607 < (r5yr.f0.length : Int) then (if 0 ≤ x607 then (if x606 = true then (bnd1 (turns_Ring_Waits.f k r5ys ((gt z61 r5yr.f0 x607).f0)) fun r67m => (if r67m = (((gt z61 r5yr.f0 x607).f1).length : Int) then (bnd1 (turns_Ring_Left.f k r5ys ((gt z61 r5yr.f0 x607).f0)) fun r68l => (if r68l = ((gt z61 r5yr.f0 x607).f4.f0) then (louverlaw13qTurnsPlays.l1 k (IntKind.i64.wrap (x605 + (((gt z61 r5yr.f0 x607).f1).length : Int))) true (IntKind.i64.wrap (x607 + 1)) p1 r5yq r5yr r5ys x5x8) else (some false))) else (some false))) else (bnd1 (louverref13qR_Can.f (⟨r5yr.f0, r5yr.f1, (⟨r5yr.f2.f0, r5yr.f2.f1⟩ : S41)⟩ : S56) (⟨(gt z61 r5yr.f0 x607).f0, (gt z61 r5yr.f0 x607).f1, (gt z61 r5yr.f0 x607).f2, (gt z61 r5yr.f0 x607).f3, (⟨(gt z61 r5yr.f0 x607).f4.f0, (gt z61 r5yr.f0 x607).f4.f1⟩ : S41)⟩ : S61)) fun r6am => (bnd1 (turns_Ring_Waits.f k r5ys ((gt z61 r5yr.f0 x607).f0)) fun r6gv => (if r6gv = (((gt z61 r5yr.f0 x607).f1).length : Int) then (bnd1 (turns_Ring_Left.f k r5ys ((gt z61 r5yr.f0 x607).f0)) fun r6hu => (if r6hu = ((gt z61 r5yr.f0 x607).f4.f0) then (louverlaw13qTurnsPlays.l1 k (IntKind.i64.wrap (x605 + (((gt z61 r5yr.f0 x607).f1).length : Int))) r6am (IntKind.i64.wrap (x607 + 1)) p1 r5yq r5yr r5ys x5x8) else (some false))) else (some false))))) else (none)) else (if r5yq = true then (bnd1 (turns_Ring_All.f k r5ys) fun r797 => (if r797 = x605 then (bnd1 (turns_Ring_Can.f k r5ys) fun r79x => (if (r79x != x606) = true then (some false) else (bnd1 (turns_Ring_Left.f k r5ys 0) fun r7cq => (if r7cq = r5yr.f2.f0 then (bnd1 (turns_Ring_Waits.f k r5ys ((gt z45 p1 x5x8).f1)) fun r7dj => (if r7dj = 0 then (louverlaw13qTurnsPlays.l0 k r5ys (⟨r5yr.f0, r5yr.f1, (⟨r5yr.f2.f0, r5yr.f2.f1⟩ : S41)⟩ : S56) (IntKind.i64.wrap (x5x8 + 1)) p1) else (bnd1 (louverref13qR_Find.f k (⟨r5yr.f0, r5yr.f1, (⟨r5yr.f2.f0, r5yr.f2.f1⟩ : S41)⟩ : S56) ((gt z45 p1 x5x8).f1)) fun r7f5 => (if r7f5 < 0 then (some false) else (louverlaw13qTurnsPlays.l0 k r5ys (⟨r5yr.f0, r5yr.f1, (⟨r5yr.f2.f0, r5yr.f2.f1⟩ : S41)⟩ : S56) (IntKind.i64.wrap (x5x8 + 1)) p1))))) else (some false))))) else (some false))) else (some false))
end
def louverlaw13qTurnsPlays.f (k : Nat) (p0 : Int) (p1 : (List S45)) : Option (Bool) := bnd1 (louverlaw13qgreat.f k p1) fun r5v9 => (if r5v9 = true then (bnd1 (louverlaw13qfixed.f k) fun r5vi => (some r5vi)) else (bnd1 (turns_New.f p0) fun r5vu => (bnd1 (louverref13qNew.f p0) fun r5wa => (louverlaw13qTurnsPlays.l0 k r5vu (⟨r5wa.f0, r5wa.f1, (⟨r5wa.f2.f0, r5wa.f2.f1⟩ : S41)⟩ : S56) 0 p1))))
set_option maxHeartbeats 20000000 in
set_option maxRecDepth 100000 in
theorem louverlaw13qTurnsPlays.calls (k : Nat) {b : Nat} {w0 W : World} {R : Frag} {Fs : List Frag} {p0 : Int} {p1 : (List S45)} {v1 : Value} {r0q : Bool} (hp1 : Rds k45 b w0 R v1 p1) (H : louverlaw13qTurnsPlays.f k p0 p1 = some r0q) (hS : St b w0 W R (Fs)) :
  Calls Try.prog 6 ([i6 p0, v1] : List Value).toArray W (fun e W' => e = .returned (.bool r0q) ∧ St b w0 W' R (Fs)) := by
 obtain ⟨A1, c1, rfl⟩ := hp1.form
 unfold louverlaw13qTurnsPlays.f at H
 refine calls_enter Try.func6 rfl 111 rfl (by kernel_rfl) (fun a h => ?_)
 refine wp_seq ?_
 refine WL.start ?_
 refine WL.bl 1 1 h [(4, .bool false)] (fun a5v4 h5v5 => ?_)
 refine WL.dn ?_
 refine wp_seq ?_
 refine wp_seq ?_
 refine WL.start ?_
 refine WL.bl 1 1 h5v5 [(15, .slice A1 p1.length c1)] (fun a5v6 h5v7 => ?_)
 obtain ⟨r5v9, A5v8, H⟩ := bind1 H
 refine WL.oq h5v7 rfl ?_
 refine owp_call [.slice A1 p1.length c1] h5v7 rfl (by kernel_rfl) rfl Try.func16 (by kernel_rfl) rfl (by kernel_rfl) (louverlaw13qgreat.calls k hp1 A5v8 hS) (fun e5vb W5va hp5vc => ?_)
 obtain ⟨rfl, hS5vf⟩ := hp5vc
 refine ⟨_, rfl, fun a5vd h5ve => ?_⟩
 refine WL.dn ?_
 clear h5v5 a5v4 h5v7 a5v6
 by_cases c5vg : r5v9 = true
 ·rw [if_pos c5vg] at H
  have hb_ : r5v9 = true := c5vg
  try rw [hb_] at h5ve
  clear hb_
  refine wp_then h5ve rfl ?_
  refine wp_seq ?_
  refine WL.start ?_
  obtain ⟨r5vi, A5vh, H⟩ := bind1 H
  refine WL.oq h5ve rfl ?_
  refine owp_call [] h5ve rfl (by kernel_rfl) rfl Try.func12 (by kernel_rfl) rfl (by kernel_rfl) (louverlaw13qfixed.calls k  A5vh hS5vf) (fun e5vk W5vj hp5vl => ?_)
  obtain ⟨rfl, hS5vo⟩ := hp5vl
  refine ⟨_, rfl, fun a5vm h5vn => ?_⟩
  refine WL.bl 1 2 h5vn [(4, .bool r5vi)] (fun a5vp h5vq => ?_)
  refine WL.dn ?_
  refine wp_ret ?_
  obtain rfl := Option.some.inj H
  repeat (first | with_reducible refine t1 ?_ | with_reducible refine t2 ?_ | with_reducible refine t3 ?_)
  refine bret (.bool r5vi) h5vq ?_
  exact ⟨rfl, hS5vo⟩
 ·rw [if_neg c5vg] at H
  have hb_ : r5v9 = false := (Bool.eq_false_iff.2 c5vg)
  try rw [hb_] at h5ve
  clear hb_
  refine wp_else h5ve rfl ?_
  refine wp_skip ?_
  refine wp_seq ?_
  refine WL.start ?_
  refine WL.bl 1 1 h5ve [(18, i6 p0)] (fun a5vr h5vs => ?_)
  obtain ⟨r5vu, A5vt, H⟩ := bind1 H
  refine WL.oq h5vs rfl ?_
  refine owp_call [i6 p0] h5vs rfl (by kernel_rfl) rfl Try.func8 (by kernel_rfl) rfl (by kernel_rfl) (turns_New.calls  A5vt hS5vf) (fun e5vw W5vv hp5vx => ?_)
  obtain ⟨v5w0, M5w1, rfl, hr5w2, hS5w3⟩ := hp5vx
  refine ⟨_, rfl, fun a5vy h5vz => ?_⟩
  obtain ⟨g5w4, rfl⟩ := hr5w2.ptr_form
  refine WL.bl 1 3 h5vz [(5, pt g5w4)] (fun a5w5 h5w6 => ?_)
  refine WL.dn ?_
  refine wp_seq ?_
  refine WL.start ?_
  refine WL.bl 1 1 h5w6 [(20, i6 p0)] (fun a5w7 h5w8 => ?_)
  obtain ⟨r5wa, A5w9, H⟩ := bind1 H
  refine WL.oq h5w8 rfl ?_
  refine owp_call [i6 p0] h5w8 rfl (by kernel_rfl) rfl Try.func21 (by kernel_rfl) rfl (by kernel_rfl) (louverref13qNew.calls  A5w9 hS5w3) (fun e5wc W5wb hp5wd => ?_)
  obtain ⟨v5wg, M5wh, rfl, hr5wi, hS5wj⟩ := hp5wd
  refine ⟨_, rfl, fun a5we h5wf => ?_⟩
  obtain ⟨A5wk, c5wl, rfl⟩ := hr5wi.form
  refine WL.oq h5wf rfl ?_
  refine owp_nw (fun g_ => (pt g_)) (.cells ([.slice none 0 0, i6 0, i6 0, .bool false] : List Value).toArray 56 (0, 0)) h5wf rfl hS5wj (fun a5wm W5wo g5wp h5wn hS5wq => ?_)
  refine WL.oq h5wn rfl ?_
  refine owp_st 0 [.slice A5wk r5wa.f0.length c5wl, i6 r5wa.f1, i6 r5wa.f2.f0, .bool r5wa.f2.f1] h5wn rfl rfl rfl hS5wq [.slice A5wk r5wa.f0.length c5wl, i6 r5wa.f1, i6 r5wa.f2.f0, .bool r5wa.f2.f1] (fun a5wr W5wt h5ws hS5wu => ?_)
  refine WL.dn ?_
  refine wp_seq ?_
  refine wp_seq ?_
  refine WL.start ?_
  refine WL.bl 3 3 h5ws [(24, i6 0), (23, i6 (p1.length : Int)), (22, .slice A1 p1.length c1)] (fun a5wv h5ww => ?_)
  refine WL.dn ?_
  refine wp_block ?_
  have hS5x9 := hS5wu.b1
  have hS5xa := hS5x9.b1
  obtain ⟨M5xb, hp5xc, hS5xd⟩ := k56qfo (⟨r5wa.f0, r5wa.f1, (⟨r5wa.f2.f0, r5wa.f2.f1⟩ : S41)⟩ : S56) hr5wi hS5xa
  have hS5xe := hS5xd.b1
  clear h5ve a5vd h5vs a5vr h5vz a5vy h5w6 a5w5 h5w8 a5w7 h5wf a5we h5wn a5wm h5ws a5wr
  refine wp_loop_ghost (fun kq_ a_ W_ => ∃ (x5x2 : S69), ∃ (M5x3 : Frag), ∃ (x5x5 : S56), ∃ (M5x6 : Frag), ∃ (x5x8 : Int), Hd a_ 111 [(5, pt g5w4), (6, pt g5wp), (22, .slice A1 p1.length c1), (23, i6 (p1.length : Int)), (24, i6 x5x8)] ∧ Asd (louverlaw13qTurnsPlays.l0 kq_ x5x2 x5x5 x5x8 p1 = some r0q) ∧ Asd (kq_ ≤ k) ∧ Asd (St b w0 W_ R (M5x3 :: M5x6 :: Fs)) ∧ Asd (Ptr k69 69 b w0 R (pt g5w4) x5x2 M5x3) ∧ Asd (Ptr k56 56 b w0 R (pt g5wp) x5x5 M5x6)) k ⟨r5vu, M5w1, (⟨r5wa.f0, r5wa.f1, (⟨r5wa.f2.f0, r5wa.f2.f1⟩ : S41)⟩ : S56), M5xb, 0, h5ww.keep ⟨rfl, rfl, rfl, rfl, rfl, trivial⟩, ⟨H⟩, ⟨Nat.le_refl _⟩, ⟨hS5xe⟩, ⟨hr5w2⟩, ⟨hp5xc⟩⟩ ?_
  clear H hS5xe
  rintro kk5x1 a5wy W5wz ⟨x5x2, M5x3, x5x5, M5x6, x5x8, h5wx, ⟨H⟩, ⟨hkkk5x1⟩, ⟨hS5x0⟩, ⟨hr5x4⟩, ⟨hr5x7⟩⟩
  obtain _ | kk5xf := kk5x1
  ·exact absurd H (by simp [louverlaw13qTurnsPlays.l0])
  simp only [louverlaw13qTurnsPlays.l0] at H
  refine wp_seq ?_
  refine WL.start ?_
  refine WL.bl 1 1 h5wx [(25, .bool (decide (x5x8 < (p1.length : Int))))] (fun a5xg h5xh => ?_)
  refine WL.dn ?_
  refine wp_seq ?_
  clear h5wx a5wy
  by_cases c5xi : x5x8 < (p1.length : Int)
  ·rw [if_pos c5xi] at H
   have hb_ : (decide (x5x8 < (p1.length : Int))) = true := decide_eq_true c5xi
   try rw [hb_] at h5xh
   clear hb_
   refine wp_then h5xh rfl ?_
   refine wp_skip ?_
   refine wp_seq ?_
   refine wp_block ?_
   refine wp_seq ?_
   refine WL.start ?_
   by_cases c5xj : 0 ≤ x5x8
   ·rw [if_pos c5xj] at H
    have hi5xm : 0 ≤ x5x8 := by first | assumption | omega
    have hi5xn : x5x8 < (p1.length : Int) := by first | assumption | omega
    obtain ⟨ad5xk, _, ha5xl, -, -⟩ := Rds.elemAny hp1 hi5xm (gt_get (z := z45) hi5xm hi5xn)
    refine WL.oq h5xh rfl ?_
    refine owp_rn (.pointer (some (ad5xk.add (x5x8.toNat * 7)))) h5xh rfl (run_idx (ad := ad5xk) (sz := 7) rfl (by rw [← ha5xl]; rfl) rfl Try.underlying38 (by kernel_rfl) hi5xm hi5xn) (fun a5xo h5xp => ?_)
    obtain ⟨ad5xq, cs5xr, ha5xs, hr5xu, hc5xt⟩ := Rds.elemAny hp1 hi5xm (gt_get (z := z45) hi5xm hi5xn)
    rw [ha5xl] at ha5xs; obtain rfl := Option.some.inj ha5xs
    obtain ⟨v5xv, rfl, hx5xw⟩ := k45qrd hr5xu
    obtain ⟨A5xx, c5xy, rfl⟩ := hx5xw.form
    refine WL.oq h5xp rfl ?_
    refine owp_rn (.agg #[i6 ((gt z45 p1 x5x8).f0), .int .u32 ((gt z45 p1 x5x8).f1), i6 ((gt z45 p1 x5x8).f2), .slice A5xx ((gt z45 p1 x5x8).f3).length c5xy, .bool ((gt z45 p1 x5x8).f4), .int .u32 ((gt z45 p1 x5x8).f5), .int .u32 ((gt z45 p1 x5x8).f6)]) h5xp rfl (run_loadN rfl rfl Try.underlying45 rfl (cs := [i6 ((gt z45 p1 x5x8).f0), .int .u32 ((gt z45 p1 x5x8).f1), i6 ((gt z45 p1 x5x8).f2), .slice A5xx ((gt z45 p1 x5x8).f3).length c5xy, .bool ((gt z45 p1 x5x8).f4), .int .u32 ((gt z45 p1 x5x8).f5), .int .u32 ((gt z45 p1 x5x8).f6)]) (by kernel_rfl) (hc5xt _ (fun _ _ hk_ => hS5x0.kn hk_))) (fun a5xz h5y0 => ?_)
    refine WL.oq h5y0 rfl ?_
    refine owp_nw (fun g_ => (pt g_)) (.cells ([i6 0, .int .u32 0, i6 0, .slice none 0 0, .bool false, .int .u32 0, .int .u32 0] : List Value).toArray 45 (0, 0)) h5y0 rfl hS5x0 (fun a5y1 W5y3 g5y4 h5y2 hS5y5 => ?_)
    refine WL.oq h5y2 rfl ?_
    refine owp_st 0 [i6 ((gt z45 p1 x5x8).f0), .int .u32 ((gt z45 p1 x5x8).f1), i6 ((gt z45 p1 x5x8).f2), .slice A5xx ((gt z45 p1 x5x8).f3).length c5xy, .bool ((gt z45 p1 x5x8).f4), .int .u32 ((gt z45 p1 x5x8).f5), .int .u32 ((gt z45 p1 x5x8).f6)] h5y2 rfl rfl rfl hS5y5 [i6 ((gt z45 p1 x5x8).f0), .int .u32 ((gt z45 p1 x5x8).f1), i6 ((gt z45 p1 x5x8).f2), .slice A5xx ((gt z45 p1 x5x8).f3).length c5xy, .bool ((gt z45 p1 x5x8).f4), .int .u32 ((gt z45 p1 x5x8).f5), .int .u32 ((gt z45 p1 x5x8).f6)] (fun a5y6 W5y8 h5y7 hS5y9 => ?_)
    refine WL.dn ?_
    refine wp_seq ?_
    refine WL.start ?_
    refine WL.bl 1 1 h5y7 [(29, pt g5w4)] (fun a5ya h5yb => ?_)
    have hS5yc := hS5y9.b2
    obtain ⟨A5ye, c5yf, M5yg, hr5yh, hS5yd⟩ := k56qoq hr5x7 hS5yc
    refine WL.oq h5yb rfl ?_
    refine owp_rn (.agg #[.slice A5ye x5x5.f0.length c5yf, i6 x5x5.f1, i6 x5x5.f2.f0, .bool x5x5.f2.f1]) h5yb rfl (run_loadN rfl rfl Try.underlying56 rfl (cs := [.slice A5ye x5x5.f0.length c5yf, i6 x5x5.f1, i6 x5x5.f2.f0, .bool x5x5.f2.f1]) (by kernel_rfl) (hS5yd.cells (vs := [.slice A5ye x5x5.f0.length c5yf, i6 x5x5.f1, i6 x5x5.f2.f0, .bool x5x5.f2.f1]) rfl)) (fun a5yi h5yj => ?_)
    have hS5yk := hS5yd.b2
    refine WL.oq h5yj rfl ?_
    refine owp_rn (.agg #[i6 ((gt z45 p1 x5x8).f0), .int .u32 ((gt z45 p1 x5x8).f1), i6 ((gt z45 p1 x5x8).f2), .slice A5xx ((gt z45 p1 x5x8).f3).length c5xy, .bool ((gt z45 p1 x5x8).f4), .int .u32 ((gt z45 p1 x5x8).f5), .int .u32 ((gt z45 p1 x5x8).f6)]) h5yj rfl (run_loadN rfl rfl Try.underlying45 rfl (cs := [i6 ((gt z45 p1 x5x8).f0), .int .u32 ((gt z45 p1 x5x8).f1), i6 ((gt z45 p1 x5x8).f2), .slice A5xx ((gt z45 p1 x5x8).f3).length c5xy, .bool ((gt z45 p1 x5x8).f4), .int .u32 ((gt z45 p1 x5x8).f5), .int .u32 ((gt z45 p1 x5x8).f6)]) (by kernel_rfl) (hS5yk.cells (vs := [i6 ((gt z45 p1 x5x8).f0), .int .u32 ((gt z45 p1 x5x8).f1), i6 ((gt z45 p1 x5x8).f2), .slice A5xx ((gt z45 p1 x5x8).f3).length c5xy, .bool ((gt z45 p1 x5x8).f4), .int .u32 ((gt z45 p1 x5x8).f5), .int .u32 ((gt z45 p1 x5x8).f6)]) rfl)) (fun a5yl h5ym => ?_)
    have hS5yn := hS5yk.b3
    have hS5yo := hS5yn.b3
    obtain ⟨r5yq, r5yr, r5ys, A5yp, H⟩ := bind3 H
    refine WL.oq h5ym rfl ?_
    refine owp_call [(pt g5w4), .agg #[.slice A5ye x5x5.f0.length c5yf, i6 x5x5.f1, i6 x5x5.f2.f0, .bool x5x5.f2.f1], .agg #[i6 ((gt z45 p1 x5x8).f0), .int .u32 ((gt z45 p1 x5x8).f1), i6 ((gt z45 p1 x5x8).f2), .slice A5xx ((gt z45 p1 x5x8).f3).length c5xy, .bool ((gt z45 p1 x5x8).f4), .int .u32 ((gt z45 p1 x5x8).f5), .int .u32 ((gt z45 p1 x5x8).f6)]] h5ym rfl (by kernel_rfl) rfl Try.func22 (by kernel_rfl) rfl (by kernel_rfl) (louverlaw13qstep.calls (p1 := (⟨x5x5.f0, x5x5.f1, (⟨x5x5.f2.f0, x5x5.f2.f1⟩ : S41)⟩ : S56)) (p2 := (⟨(gt z45 p1 x5x8).f0, (gt z45 p1 x5x8).f1, (gt z45 p1 x5x8).f2, (gt z45 p1 x5x8).f3, (gt z45 p1 x5x8).f4, (gt z45 p1 x5x8).f5, (gt z45 p1 x5x8).f6⟩ : S45)) kk5xf hr5x4 hr5yh hx5xw A5yp hS5yo) (fun e5yu W5yt hp5yv => ?_)
    obtain ⟨v5yy, M5yz, M5z1, rfl, hr5z0, hr5z2, hS5z3⟩ := hp5yv
    refine ⟨_, rfl, fun a5yw h5yx => ?_⟩
    obtain ⟨A5z4, c5z5, rfl⟩ := hr5z0.form
    refine WL.bl 3 7 h5yx [(34, .agg #[.slice A5z4 r5yr.f0.length c5z5, i6 r5yr.f1, i6 r5yr.f2.f0, .bool r5yr.f2.f1]), (33, .bool r5yq), (28, .tuple #[.bool r5yq, .agg #[.slice A5z4 r5yr.f0.length c5z5, i6 r5yr.f1, i6 r5yr.f2.f0, .bool r5yr.f2.f1]])] (fun a5z6 h5z7 => ?_)
    refine WL.oq h5z7 rfl ?_
    refine owp_nw (fun g_ => (pt g_)) (.cells ([.slice none 0 0, i6 0, i6 0, .bool false] : List Value).toArray 56 (0, 0)) h5z7 rfl hS5z3 (fun a5z8 W5za g5zb h5z9 hS5zc => ?_)
    refine WL.bl 1 9 h5z9 [(9, .bool r5yq)] (fun a5zd h5ze => ?_)
    refine WL.oq h5ze rfl ?_
    refine owp_st 0 [.slice A5z4 r5yr.f0.length c5z5, i6 r5yr.f1, i6 r5yr.f2.f0, .bool r5yr.f2.f1] h5ze rfl rfl rfl hS5zc [.slice A5z4 r5yr.f0.length c5z5, i6 r5yr.f1, i6 r5yr.f2.f0, .bool r5yr.f2.f1] (fun a5zf W5zh h5zg hS5zi => ?_)
    clear h5xh a5xg h5xp a5xo h5y0 a5xz h5y2 a5y1 h5y7 a5y6 h5yb a5ya h5yj a5yi h5ym a5yl h5yx a5yw h5z7 a5z6 h5z9 a5z8 h5ze a5zd
    refine WL.dn ?_
    refine wp_seq ?_
    refine WL.start ?_
    refine WL.oq h5zg rfl ?_
    refine owp_rn (.agg #[.slice A5z4 r5yr.f0.length c5z5, i6 r5yr.f1, i6 r5yr.f2.f0, .bool r5yr.f2.f1]) h5zg rfl (run_loadN rfl rfl Try.underlying56 rfl (cs := [.slice A5z4 r5yr.f0.length c5z5, i6 r5yr.f1, i6 r5yr.f2.f0, .bool r5yr.f2.f1]) (by kernel_rfl) (hS5zi.cells (vs := [.slice A5z4 r5yr.f0.length c5z5, i6 r5yr.f1, i6 r5yr.f2.f0, .bool r5yr.f2.f1]) rfl)) (fun a5zj h5zk => ?_)
    have hS5zl := hS5zi.b4
    refine WL.oq h5zk rfl ?_
    refine owp_st 0 [.slice A5z4 r5yr.f0.length c5z5, i6 r5yr.f1, i6 r5yr.f2.f0, .bool r5yr.f2.f1] h5zk rfl rfl rfl hS5zl [.slice A5z4 r5yr.f0.length c5z5, i6 r5yr.f1, i6 r5yr.f2.f0, .bool r5yr.f2.f1] (fun a5zm W5zo h5zn hS5zp => ?_)
    refine WL.dn ?_
    refine wp_seq ?_
    refine WL.start ?_
    refine WL.bl 2 2 h5zn [(12, .bool false), (11, i6 0)] (fun a5zq h5zr => ?_)
    refine WL.dn ?_
    refine wp_seq ?_
    refine wp_seq ?_
    refine WL.start ?_
    refine WL.bl 1 1 h5zr [(36, pt g5wp)] (fun a5zs h5zt => ?_)
    refine WL.oq h5zt rfl ?_
    refine owp_rn (.slice A5z4 r5yr.f0.length c5z5) h5zt rfl (run_load1 rfl rfl Try.underlying54 rfl (hS5zp.cell (i := 0) rfl)) (fun a5zu h5zv => ?_)
    refine WL.bl 2 4 h5zv [(39, i6 0), (38, i6 (r5yr.f0.length : Int))] (fun a5zw h5zx => ?_)
    refine WL.dn ?_
    refine wp_block ?_
    have hS608 := hS5zp.b1
    have hS609 := hS608.drop_
    have hS60a := hS609.b3
    have hS60b := hS60a.b2
    have hS60c := hS60b.b2
    have hS60d := hS60c.b3
    clear h5zg a5zf h5zk a5zj h5zn a5zm h5zr a5zq h5zt a5zs h5zv a5zu
    refine wp_loop_ghost (fun kq_ a_ W_ => ∃ (M603 : Frag), ∃ (x605 : Int), ∃ (x606 : Bool), ∃ (x607 : Int), Hd a_ 111 [(5, pt g5w4), (6, pt g5wp), (8, pt g5y4), (9, .bool r5yq), (11, i6 x605), (12, .bool x606), (22, .slice A1 p1.length c1), (23, i6 (p1.length : Int)), (24, i6 x5x8), (37, .slice A5z4 r5yr.f0.length c5z5), (38, i6 (r5yr.f0.length : Int)), (39, i6 x607)] ∧ Asd (louverlaw13qTurnsPlays.l1 kq_ x605 x606 x607 p1 r5yq r5yr r5ys x5x8 = some r0q) ∧ Asd (kq_ ≤ kk5xf) ∧ Asd (St b w0 W_ R (M603 :: (bx g5wp 56 [.slice A5z4 r5yr.f0.length c5z5, i6 r5yr.f1, i6 r5yr.f2.f0, .bool r5yr.f2.f1]) :: M5yz :: (bx g5y4 45 [i6 ((gt z45 p1 x5x8).f0), .int .u32 ((gt z45 p1 x5x8).f1), i6 ((gt z45 p1 x5x8).f2), .slice A5xx ((gt z45 p1 x5x8).f3).length c5xy, .bool ((gt z45 p1 x5x8).f4), .int .u32 ((gt z45 p1 x5x8).f5), .int .u32 ((gt z45 p1 x5x8).f6)]) :: Fs)) ∧ Asd (Ptr k69 69 b w0 R (pt g5w4) r5ys M603)) kk5xf ⟨M5z1, 0, false, 0, h5zx.keep ⟨rfl, rfl, rfl, rfl, rfl, rfl, rfl, rfl, rfl, rfl, rfl, rfl, trivial⟩, ⟨H⟩, ⟨Nat.le_refl _⟩, ⟨hS60d⟩, ⟨hr5z2⟩⟩ ?_
    clear H hS60d
    rintro kk602 a5zz W600 ⟨M603, x605, x606, x607, h5zy, ⟨H⟩, ⟨hkkk602⟩, ⟨hS601⟩, ⟨hr604⟩⟩
    obtain _ | kk60e := kk602
    ·exact absurd H (by simp [louverlaw13qTurnsPlays.l1])
    simp only [louverlaw13qTurnsPlays.l1] at H
    refine wp_seq ?_
    refine WL.start ?_
    refine WL.bl 1 1 h5zy [(40, .bool (decide (x607 < (r5yr.f0.length : Int))))] (fun a60f h60g => ?_)
    refine WL.dn ?_
    refine wp_seq ?_
    clear h5zy a5zz
    by_cases c60h : x607 < (r5yr.f0.length : Int)
    ·rw [if_pos c60h] at H
     have hb_ : (decide (x607 < (r5yr.f0.length : Int))) = true := decide_eq_true c60h
     try rw [hb_] at h60g
     clear hb_
     refine wp_then h60g rfl ?_
     refine wp_skip ?_
     refine wp_seq ?_
     refine wp_block ?_
     refine wp_seq ?_
     refine WL.start ?_
     by_cases c60i : 0 ≤ x607
     ·rw [if_pos c60i] at H
      have hi60l : 0 ≤ x607 := by first | assumption | omega
      have hi60m : x607 < (r5yr.f0.length : Int) := by first | assumption | omega
      obtain ⟨ad60j, _, ha60k, -, -⟩ := Rds.elemAny hr5z0.rds hi60l (gt_get (z := z61) hi60l hi60m)
      refine WL.oq h60g rfl ?_
      refine owp_rn (.pointer (some (ad60j.add (x607.toNat * 6)))) h60g rfl (run_idx (ad := ad60j) (sz := 6) rfl (by rw [← ha60k]; rfl) rfl Try.underlying54 (by kernel_rfl) hi60l hi60m) (fun a60n h60o => ?_)
      have hS60p := hS601.b2
      obtain ⟨ad60q, cs60r, ha60s, hr60u, hc60t⟩ := Rds.elemAny hr5z0.rds hi60l (gt_get (z := z61) hi60l hi60m)
      rw [ha60k] at ha60s; obtain rfl := Option.some.inj ha60s
      obtain rfl := k61qrd hr60u
      refine WL.oq h60o rfl ?_
      refine owp_rn (.agg #[.int .u32 ((gt z61 r5yr.f0 x607).f0), .string (mkS ((gt z61 r5yr.f0 x607).f1)), .bool ((gt z61 r5yr.f0 x607).f2), .bool ((gt z61 r5yr.f0 x607).f3), i6 ((gt z61 r5yr.f0 x607).f4.f0), .bool ((gt z61 r5yr.f0 x607).f4.f1)]) h60o rfl (run_loadN rfl rfl Try.underlying61 rfl (cs := [.int .u32 ((gt z61 r5yr.f0 x607).f0), .string (mkS ((gt z61 r5yr.f0 x607).f1)), .bool ((gt z61 r5yr.f0 x607).f2), .bool ((gt z61 r5yr.f0 x607).f3), i6 ((gt z61 r5yr.f0 x607).f4.f0), .bool ((gt z61 r5yr.f0 x607).f4.f1)]) (by kernel_rfl) (hc60t _ (fun _ _ hk_ => (hS60p).pool.kn hk_))) (fun a60v h60w => ?_)
      refine WL.oq h60w rfl ?_
      refine owp_nw (fun g_ => (pt g_)) (.cells ([.int .u32 0, .string (mkS []), .bool false, .bool false, i6 0, .bool false] : List Value).toArray 61 (0, 0)) h60w rfl hS60p (fun a60x W60z g610 h60y hS611 => ?_)
      refine WL.oq h60y rfl ?_
      refine owp_st 0 [.int .u32 ((gt z61 r5yr.f0 x607).f0), .string (mkS ((gt z61 r5yr.f0 x607).f1)), .bool ((gt z61 r5yr.f0 x607).f2), .bool ((gt z61 r5yr.f0 x607).f3), i6 ((gt z61 r5yr.f0 x607).f4.f0), .bool ((gt z61 r5yr.f0 x607).f4.f1)] h60y rfl rfl rfl hS611 [.int .u32 ((gt z61 r5yr.f0 x607).f0), .string (mkS ((gt z61 r5yr.f0 x607).f1)), .bool ((gt z61 r5yr.f0 x607).f2), .bool ((gt z61 r5yr.f0 x607).f3), i6 ((gt z61 r5yr.f0 x607).f4.f0), .bool ((gt z61 r5yr.f0 x607).f4.f1)] (fun a612 W614 h613 hS615 => ?_)
      refine WL.dn ?_
      refine wp_seq ?_
      refine WL.start ?_
      refine WL.bl 2 2 h613 [(44, .pointer (some ⟨g610, 1, none⟩)), (43, i6 x605)] (fun a616 h617 => ?_)
      refine WL.oq h617 rfl ?_
      refine owp_rn (.string (mkS ((gt z61 r5yr.f0 x607).f1))) h617 rfl (run_load1 rfl rfl Try.underlying9 rfl (hS615.cell (i := 1) rfl)) (fun a618 h619 => ?_)
      refine WL.bl 3 6 h619 [(11, i6 (IntKind.i64.wrap (x605 + (((gt z61 r5yr.f0 x607).f1).length : Int)))), (47, i6 (IntKind.i64.wrap (x605 + (((gt z61 r5yr.f0 x607).f1).length : Int)))), (46, i6 (((gt z61 r5yr.f0 x607).f1).length : Int))] (fun a61a h61b => ?_)
      refine WL.dn ?_
      refine wp_seq ?_
      refine WL.start ?_
      refine WL.bl 2 2 h61b [(49, .bool x606), (48, .bool x606)] (fun a61c h61d => ?_)
      clear h60g a60f h60o a60n h60w a60v h60y a60x h613 a612 h617 a616 h619 a618 h61b a61a
      by_cases c61e : x606 = true
      ·rw [if_pos c61e] at H
       have hb_ : x606 = true := c61e
       try rw [hb_] at h61d
       clear hb_
       refine WL.sk h61d rfl rfl (fun a61f h61g => ?_)
       refine WL.sk h61g rfl rfl (fun a61h h61i => ?_)
       refine WL.sk h61i rfl rfl (fun a61j h61k => ?_)
       refine WL.bl 2 7 h61k [(12, .bool true), (53, .bool true)] (fun a61l h61m => ?_)
       refine WL.dn ?_
       refine wp_seq ?_
       refine WT.start 18 (fun w_ => (w_.cell? ⟨g610, 0, none⟩ = some (.int .u32 ((gt z61 r5yr.f0 x607).f0))) ∧ (w_.cell? ⟨g610, 1, none⟩ = some (.string (mkS ((gt z61 r5yr.f0 x607).f1)))) ∧ (w_.cell? ⟨g610, 4, none⟩ = some (i6 ((gt z61 r5yr.f0 x607).f4.f0))) ∧ True) (by kernel_rfl) #[false, false, false, false, false, false, false, false, false, false, false, false, false, false, false, false, false, false] 18 rfl rfl ?_
       have hS671 := hS615.drew
       refine WT.tk 0 h61m rfl rfl (pt g5w4) (fun _ _ => by kernel_rfl) ⟨(hS671.cell (i := 0) rfl), (hS671.cell (i := 1) rfl), (hS671.cell (i := 4) rfl), trivial⟩ (fun a672 s674 h673 => ?_)
       refine WT.tk 1 h673 rfl rfl (pt g610) (fun _ _ => by kernel_rfl) s674 (fun a675 s677 h676 => ?_)
       refine WT.tk 4 h676 rfl rfl (.pointer (some ⟨g610, 1, none⟩)) (fun _ _ => by kernel_rfl) s677 (fun a678 s67a h679 => ?_)
       refine WT.tk 2 h679 rfl rfl (.int .u32 ((gt z61 r5yr.f0 x607).f0)) (fun w_ hs_ => (run_load1 rfl rfl Try.underlying25 rfl hs_.1)) s67a (fun a67b s67d h67c => ?_)
       refine WT.tk 5 h67c rfl rfl (.string (mkS ((gt z61 r5yr.f0 x607).f1))) (fun w_ hs_ => (run_load1 rfl rfl Try.underlying9 rfl hs_.2.1)) s67d (fun a67e s67g h67f => ?_)
       refine WT.tk 6 h67f rfl rfl (i6 (((gt z61 r5yr.f0 x607).f1).length : Int)) (fun _ _ => by kernel_rfl) s67g (fun a67h s67j h67i => ?_)
       have hS67k := hS671.b2
       obtain ⟨r67m, A67l, H⟩ := bind1 H
       refine WT.o1 3 h67i rfl ?_
       refine owp_call [(pt g5w4), .int .u32 ((gt z61 r5yr.f0 x607).f0)] h67i rfl (by kernel_rfl) rfl Try.func13 (by kernel_rfl) rfl (by kernel_rfl) (turns_Ring_Waits.calls kk60e hr604 A67l hS67k) (fun e67o W67n hp67p => ?_)
       obtain ⟨M67s, rfl, hr67t, hS67u⟩ := hp67p
       refine ⟨_, rfl, fun a67q h67r => ?_⟩
       refine ⟨.inr ⟨(hS67u.b1.cell (i := 0) rfl), (hS67u.b1.cell (i := 1) rfl), (hS67u.b1.cell (i := 4) rfl), trivial⟩, ?_⟩
       refine WT.tk 7 h67r rfl rfl (.bool (!decide (r67m = (((gt z61 r5yr.f0 x607).f1).length : Int)))) (fun _ _ => by kernel_rfl) ⟨(hS67u.b1.cell (i := 0) rfl), (hS67u.b1.cell (i := 1) rfl), (hS67u.b1.cell (i := 4) rfl), trivial⟩ (fun a67v s67x h67w => ?_)
       clear h61d a61c h61g a61f h61i a61h h61k a61j h61m a61l h673 a672 h676 a675 h679 a678 h67c a67b h67f a67e h67i a67h h67r a67q
       refine WT.tk 8 h67w rfl rfl (.bool (!decide (r67m = (((gt z61 r5yr.f0 x607).f1).length : Int)))) (fun _ _ => by kernel_rfl) s67x (fun a67y s680 h67z => ?_)
       clear h67w a67v
       by_cases c681 : r67m = (((gt z61 r5yr.f0 x607).f1).length : Int)
       ·rw [if_pos c681] at H
        have hb_ : (decide (r67m = (((gt z61 r5yr.f0 x607).f1).length : Int))) = true := decide_eq_true c681
        try rw [hb_] at h67z
        clear hb_
        refine WT.tk 9 h67z rfl rfl (pt g5w4) (fun _ _ => by kernel_rfl) s680 (fun a682 s684 h683 => ?_)
        refine WT.tk 10 h683 rfl rfl (pt g610) (fun _ _ => by kernel_rfl) s684 (fun a685 s687 h686 => ?_)
        refine WT.tk 13 h686 rfl rfl (.pointer (some ⟨g610, 4, none⟩)) (fun _ _ => by kernel_rfl) s687 (fun a688 s68a h689 => ?_)
        refine WT.tk 14 h689 rfl rfl (.pointer (some ⟨g610, 4, none⟩)) (fun _ _ => by kernel_rfl) s68a (fun a68b s68d h68c => ?_)
        refine WT.tk 11 h68c rfl rfl (.int .u32 ((gt z61 r5yr.f0 x607).f0)) (fun w_ hs_ => (run_load1 rfl rfl Try.underlying25 rfl hs_.1)) s68d (fun a68e s68g h68f => ?_)
        refine WT.tk 15 h68f rfl rfl (i6 ((gt z61 r5yr.f0 x607).f4.f0)) (fun w_ hs_ => (run_load1 rfl rfl Try.underlying2 rfl hs_.2.2.1)) s68g (fun a68h s68j h68i => ?_)
        obtain ⟨r68l, A68k, H⟩ := bind1 H
        refine WT.o1 12 h68i rfl ?_
        refine owp_call [(pt g5w4), .int .u32 ((gt z61 r5yr.f0 x607).f0)] h68i rfl (by kernel_rfl) rfl Try.func24 (by kernel_rfl) rfl (by kernel_rfl) (turns_Ring_Left.calls kk60e hr67t A68k hS67u) (fun e68n W68m hp68o => ?_)
        obtain ⟨M68r, rfl, hr68s, hS68t⟩ := hp68o
        refine ⟨_, rfl, fun a68p h68q => ?_⟩
        refine ⟨.inr ⟨(hS68t.b1.cell (i := 0) rfl), (hS68t.b1.cell (i := 1) rfl), (hS68t.b1.cell (i := 4) rfl), trivial⟩, ?_⟩
        refine WT.tk 16 h68q rfl rfl (.bool (!decide (r68l = ((gt z61 r5yr.f0 x607).f4.f0)))) (fun _ _ => by kernel_rfl) ⟨(hS68t.b1.cell (i := 0) rfl), (hS68t.b1.cell (i := 1) rfl), (hS68t.b1.cell (i := 4) rfl), trivial⟩ (fun a68u s68w h68v => ?_)
        refine WT.tk 17 h68v rfl rfl (.bool (!decide (r68l = ((gt z61 r5yr.f0 x607).f4.f0)))) (fun _ _ => by kernel_rfl) s68w (fun a68x s68z h68y => ?_)
        refine WT.dn ?_
        clear h67z a67y h683 a682 h686 a685 h689 a688 h68c a68b h68f a68e h68i a68h h68q a68p h68v a68u
        by_cases c690 : r68l = ((gt z61 r5yr.f0 x607).f4.f0)
        ·rw [if_pos c690] at H
         have hb_ : (decide (r68l = ((gt z61 r5yr.f0 x607).f4.f0))) = true := decide_eq_true c690
         try rw [hb_] at h68y
         clear hb_
         refine wp_else h68y rfl ?_
         refine wp_skip ?_
         refine WL.start ?_
         refine WL.bl 2 2 h68y [(39, i6 (IntKind.i64.wrap (x607 + 1))), (72, i6 (IntKind.i64.wrap (x607 + 1)))] (fun a691 h692 => ?_)
         refine WL.dn ?_
         have hS693 := hS68t.b1
         have hS694 := hS693.drop_
         have hS695 := hS694.b3
         have hS696 := hS695.b2
         have hS697 := hS696.b3
         have hS698 := hS697.b3
         exact ⟨kk60e, by omega, M68r, IntKind.i64.wrap (x605 + (((gt z61 r5yr.f0 x607).f1).length : Int)), true, IntKind.i64.wrap (x607 + 1), h692.keep ⟨rfl, rfl, rfl, rfl, rfl, rfl, rfl, rfl, rfl, rfl, rfl, rfl, trivial⟩, ⟨H⟩, ⟨by omega⟩, ⟨hS698⟩, ⟨hr68s⟩⟩
        ·rw [if_neg c690] at H
         have hb_ : (decide (r68l = ((gt z61 r5yr.f0 x607).f4.f0))) = false := decide_eq_false c690
         try rw [hb_] at h68y
         clear hb_
         refine wp_then h68y rfl ?_
         refine wp_seq ?_
         refine WL.start ?_
         refine WL.bl 1 1 h68y [(4, .bool false)] (fun a699 h69a => ?_)
         refine WL.dn ?_
         refine wp_ret ?_
         have hS69b := hS68t.drop_
         have hS69c := hS69b.drop_
         have hS69d := hS69c.drop_
         have hS69e := hS69d.drop_
         have hS69f := hS69e.drop_
         obtain rfl := Option.some.inj H
         repeat (first | with_reducible refine t1 ?_ | with_reducible refine t2 ?_ | with_reducible refine t3 ?_)
         refine bret (.bool false) h69a ?_
         exact ⟨rfl, hS69f⟩
       ·rw [if_neg c681] at H
        have hb_ : (decide (r67m = (((gt z61 r5yr.f0 x607).f1).length : Int))) = false := decide_eq_false c681
        try rw [hb_] at h67z
        clear hb_
        refine WT.sp 9 h67z rfl rfl s680 (fun a69g s69i h69h => ?_)
        refine WT.sp 10 h69h rfl rfl s69i (fun a69j s69l h69k => ?_)
        refine WT.sp 11 h69k rfl rfl s69l (fun a69m s69o h69n => ?_)
        refine WT.sp 12 h69n rfl rfl s69o (fun a69p s69r h69q => ?_)
        refine WT.sp 13 h69q rfl rfl s69r (fun a69s s69u h69t => ?_)
        refine WT.sp 14 h69t rfl rfl s69u (fun a69v s69x h69w => ?_)
        refine WT.sp 15 h69w rfl rfl s69x (fun a69y s6a0 h69z => ?_)
        refine WT.sp 16 h69z rfl rfl s6a0 (fun a6a1 s6a3 h6a2 => ?_)
        refine WT.tk 17 h6a2 rfl rfl (.bool true) (fun _ _ => by kernel_rfl) s6a3 (fun a6a4 s6a6 h6a5 => ?_)
        refine WT.dn ?_
        refine wp_then h6a5 rfl ?_
        refine wp_seq ?_
        refine WL.start ?_
        refine WL.bl 1 1 h6a5 [(4, .bool false)] (fun a6a7 h6a8 => ?_)
        refine WL.dn ?_
        refine wp_ret ?_
        have hS6a9 := hS67u.drop_
        have hS6aa := hS6a9.drop_
        have hS6ab := hS6aa.drop_
        have hS6ac := hS6ab.drop_
        have hS6ad := hS6ac.drop_
        obtain rfl := Option.some.inj H
        repeat (first | with_reducible refine t1 ?_ | with_reducible refine t2 ?_ | with_reducible refine t3 ?_)
        refine bret (.bool false) h6a8 ?_
        exact ⟨rfl, hS6ad⟩
      ·rw [if_neg c61e] at H
       have hb_ : x606 = false := (Bool.eq_false_iff.2 c61e)
       try rw [hb_] at h61d
       clear hb_
       have hS6ae := hS615.b3
       refine WL.oq h61d rfl ?_
       refine owp_rn (.agg #[.slice A5z4 r5yr.f0.length c5z5, i6 r5yr.f1, i6 r5yr.f2.f0, .bool r5yr.f2.f1]) h61d rfl (run_loadN rfl rfl Try.underlying56 rfl (cs := [.slice A5z4 r5yr.f0.length c5z5, i6 r5yr.f1, i6 r5yr.f2.f0, .bool r5yr.f2.f1]) (by kernel_rfl) (hS6ae.cells (vs := [.slice A5z4 r5yr.f0.length c5z5, i6 r5yr.f1, i6 r5yr.f2.f0, .bool r5yr.f2.f1]) rfl)) (fun a6af h6ag => ?_)
       have hS6ah := hS6ae.b1
       refine WL.oq h6ag rfl ?_
       refine owp_rn (.agg #[.int .u32 ((gt z61 r5yr.f0 x607).f0), .string (mkS ((gt z61 r5yr.f0 x607).f1)), .bool ((gt z61 r5yr.f0 x607).f2), .bool ((gt z61 r5yr.f0 x607).f3), i6 ((gt z61 r5yr.f0 x607).f4.f0), .bool ((gt z61 r5yr.f0 x607).f4.f1)]) h6ag rfl (run_loadN rfl rfl Try.underlying61 rfl (cs := [.int .u32 ((gt z61 r5yr.f0 x607).f0), .string (mkS ((gt z61 r5yr.f0 x607).f1)), .bool ((gt z61 r5yr.f0 x607).f2), .bool ((gt z61 r5yr.f0 x607).f3), i6 ((gt z61 r5yr.f0 x607).f4.f0), .bool ((gt z61 r5yr.f0 x607).f4.f1)]) (by kernel_rfl) (hS6ah.cells (vs := [.int .u32 ((gt z61 r5yr.f0 x607).f0), .string (mkS ((gt z61 r5yr.f0 x607).f1)), .bool ((gt z61 r5yr.f0 x607).f2), .bool ((gt z61 r5yr.f0 x607).f3), i6 ((gt z61 r5yr.f0 x607).f4.f0), .bool ((gt z61 r5yr.f0 x607).f4.f1)]) rfl)) (fun a6ai h6aj => ?_)
       have hS6ak := hS6ah.b2
       obtain ⟨r6am, A6al, H⟩ := bind1 H
       refine WL.oq h6aj rfl ?_
       refine owp_call [.agg #[.slice A5z4 r5yr.f0.length c5z5, i6 r5yr.f1, i6 r5yr.f2.f0, .bool r5yr.f2.f1], .agg #[.int .u32 ((gt z61 r5yr.f0 x607).f0), .string (mkS ((gt z61 r5yr.f0 x607).f1)), .bool ((gt z61 r5yr.f0 x607).f2), .bool ((gt z61 r5yr.f0 x607).f3), i6 ((gt z61 r5yr.f0 x607).f4.f0), .bool ((gt z61 r5yr.f0 x607).f4.f1)]] h6aj rfl (by kernel_rfl) rfl Try.func23 (by kernel_rfl) rfl (by kernel_rfl) (louverref13qR_Can.calls (p0 := (⟨r5yr.f0, r5yr.f1, (⟨r5yr.f2.f0, r5yr.f2.f1⟩ : S41)⟩ : S56)) (p1 := (⟨(gt z61 r5yr.f0 x607).f0, (gt z61 r5yr.f0 x607).f1, (gt z61 r5yr.f0 x607).f2, (gt z61 r5yr.f0 x607).f3, (⟨(gt z61 r5yr.f0 x607).f4.f0, (gt z61 r5yr.f0 x607).f4.f1⟩ : S41)⟩ : S61)) hr5z0.rds A6al (hS6ak.pool)) (fun e6ao W6an hp6ap => ?_)
       obtain ⟨rfl, hS6as⟩ := hp6ap
       have hS6at : St b w0 W6an R (M5yz :: (bx g610 61 [.int .u32 ((gt z61 r5yr.f0 x607).f0), .string (mkS ((gt z61 r5yr.f0 x607).f1)), .bool ((gt z61 r5yr.f0 x607).f2), .bool ((gt z61 r5yr.f0 x607).f3), i6 ((gt z61 r5yr.f0 x607).f4.f0), .bool ((gt z61 r5yr.f0 x607).f4.f1)]) :: (bx g5wp 56 [.slice A5z4 r5yr.f0.length c5z5, i6 r5yr.f1, i6 r5yr.f2.f0, .bool r5yr.f2.f1]) :: M603 :: (bx g5y4 45 [i6 ((gt z45 p1 x5x8).f0), .int .u32 ((gt z45 p1 x5x8).f1), i6 ((gt z45 p1 x5x8).f2), .slice A5xx ((gt z45 p1 x5x8).f3).length c5xy, .bool ((gt z45 p1 x5x8).f4), .int .u32 ((gt z45 p1 x5x8).f5), .int .u32 ((gt z45 p1 x5x8).f6)]) :: Fs) := hS6as.unpool
       refine ⟨_, rfl, fun a6aq h6ar => ?_⟩
       refine WL.bl 2 7 h6ar [(12, .bool r6am), (53, .bool r6am)] (fun a6au h6av => ?_)
       refine WL.dn ?_
       refine wp_seq ?_
       refine WT.start 18 (fun w_ => (w_.cell? ⟨g610, 0, none⟩ = some (.int .u32 ((gt z61 r5yr.f0 x607).f0))) ∧ (w_.cell? ⟨g610, 1, none⟩ = some (.string (mkS ((gt z61 r5yr.f0 x607).f1)))) ∧ (w_.cell? ⟨g610, 4, none⟩ = some (i6 ((gt z61 r5yr.f0 x607).f4.f0))) ∧ True) (by kernel_rfl) #[false, false, false, false, false, false, false, false, false, false, false, false, false, false, false, false, false, false] 18 rfl rfl ?_
       have hS6ga := hS6at.drew
       refine WT.tk 0 h6av rfl rfl (pt g5w4) (fun _ _ => by kernel_rfl) ⟨(hS6ga.b1.cell (i := 0) rfl), (hS6ga.b1.cell (i := 1) rfl), (hS6ga.b1.cell (i := 4) rfl), trivial⟩ (fun a6gb s6gd h6gc => ?_)
       refine WT.tk 1 h6gc rfl rfl (pt g610) (fun _ _ => by kernel_rfl) s6gd (fun a6ge s6gg h6gf => ?_)
       refine WT.tk 4 h6gf rfl rfl (.pointer (some ⟨g610, 1, none⟩)) (fun _ _ => by kernel_rfl) s6gg (fun a6gh s6gj h6gi => ?_)
       refine WT.tk 2 h6gi rfl rfl (.int .u32 ((gt z61 r5yr.f0 x607).f0)) (fun w_ hs_ => (run_load1 rfl rfl Try.underlying25 rfl hs_.1)) s6gj (fun a6gk s6gm h6gl => ?_)
       refine WT.tk 5 h6gl rfl rfl (.string (mkS ((gt z61 r5yr.f0 x607).f1))) (fun w_ hs_ => (run_load1 rfl rfl Try.underlying9 rfl hs_.2.1)) s6gm (fun a6gn s6gp h6go => ?_)
       refine WT.tk 6 h6go rfl rfl (i6 (((gt z61 r5yr.f0 x607).f1).length : Int)) (fun _ _ => by kernel_rfl) s6gp (fun a6gq s6gs h6gr => ?_)
       have hS6gt := hS6ga.b3
       obtain ⟨r6gv, A6gu, H⟩ := bind1 H
       refine WT.o1 3 h6gr rfl ?_
       refine owp_call [(pt g5w4), .int .u32 ((gt z61 r5yr.f0 x607).f0)] h6gr rfl (by kernel_rfl) rfl Try.func13 (by kernel_rfl) rfl (by kernel_rfl) (turns_Ring_Waits.calls kk60e hr604 A6gu hS6gt) (fun e6gx W6gw hp6gy => ?_)
       obtain ⟨M6h1, rfl, hr6h2, hS6h3⟩ := hp6gy
       refine ⟨_, rfl, fun a6gz h6h0 => ?_⟩
       refine ⟨.inr ⟨(hS6h3.b2.cell (i := 0) rfl), (hS6h3.b2.cell (i := 1) rfl), (hS6h3.b2.cell (i := 4) rfl), trivial⟩, ?_⟩
       refine WT.tk 7 h6h0 rfl rfl (.bool (!decide (r6gv = (((gt z61 r5yr.f0 x607).f1).length : Int)))) (fun _ _ => by kernel_rfl) ⟨(hS6h3.b2.cell (i := 0) rfl), (hS6h3.b2.cell (i := 1) rfl), (hS6h3.b2.cell (i := 4) rfl), trivial⟩ (fun a6h4 s6h6 h6h5 => ?_)
       clear h61d a61c h6ag a6af h6aj a6ai h6ar a6aq h6av a6au h6gc a6gb h6gf a6ge h6gi a6gh h6gl a6gk h6go a6gn h6gr a6gq h6h0 a6gz
       refine WT.tk 8 h6h5 rfl rfl (.bool (!decide (r6gv = (((gt z61 r5yr.f0 x607).f1).length : Int)))) (fun _ _ => by kernel_rfl) s6h6 (fun a6h7 s6h9 h6h8 => ?_)
       clear h6h5 a6h4
       by_cases c6ha : r6gv = (((gt z61 r5yr.f0 x607).f1).length : Int)
       ·rw [if_pos c6ha] at H
        have hb_ : (decide (r6gv = (((gt z61 r5yr.f0 x607).f1).length : Int))) = true := decide_eq_true c6ha
        try rw [hb_] at h6h8
        clear hb_
        refine WT.tk 9 h6h8 rfl rfl (pt g5w4) (fun _ _ => by kernel_rfl) s6h9 (fun a6hb s6hd h6hc => ?_)
        refine WT.tk 10 h6hc rfl rfl (pt g610) (fun _ _ => by kernel_rfl) s6hd (fun a6he s6hg h6hf => ?_)
        refine WT.tk 13 h6hf rfl rfl (.pointer (some ⟨g610, 4, none⟩)) (fun _ _ => by kernel_rfl) s6hg (fun a6hh s6hj h6hi => ?_)
        refine WT.tk 14 h6hi rfl rfl (.pointer (some ⟨g610, 4, none⟩)) (fun _ _ => by kernel_rfl) s6hj (fun a6hk s6hm h6hl => ?_)
        refine WT.tk 11 h6hl rfl rfl (.int .u32 ((gt z61 r5yr.f0 x607).f0)) (fun w_ hs_ => (run_load1 rfl rfl Try.underlying25 rfl hs_.1)) s6hm (fun a6hn s6hp h6ho => ?_)
        refine WT.tk 15 h6ho rfl rfl (i6 ((gt z61 r5yr.f0 x607).f4.f0)) (fun w_ hs_ => (run_load1 rfl rfl Try.underlying2 rfl hs_.2.2.1)) s6hp (fun a6hq s6hs h6hr => ?_)
        obtain ⟨r6hu, A6ht, H⟩ := bind1 H
        refine WT.o1 12 h6hr rfl ?_
        refine owp_call [(pt g5w4), .int .u32 ((gt z61 r5yr.f0 x607).f0)] h6hr rfl (by kernel_rfl) rfl Try.func24 (by kernel_rfl) rfl (by kernel_rfl) (turns_Ring_Left.calls kk60e hr6h2 A6ht hS6h3) (fun e6hw W6hv hp6hx => ?_)
        obtain ⟨M6i0, rfl, hr6i1, hS6i2⟩ := hp6hx
        refine ⟨_, rfl, fun a6hy h6hz => ?_⟩
        refine ⟨.inr ⟨(hS6i2.b2.cell (i := 0) rfl), (hS6i2.b2.cell (i := 1) rfl), (hS6i2.b2.cell (i := 4) rfl), trivial⟩, ?_⟩
        refine WT.tk 16 h6hz rfl rfl (.bool (!decide (r6hu = ((gt z61 r5yr.f0 x607).f4.f0)))) (fun _ _ => by kernel_rfl) ⟨(hS6i2.b2.cell (i := 0) rfl), (hS6i2.b2.cell (i := 1) rfl), (hS6i2.b2.cell (i := 4) rfl), trivial⟩ (fun a6i3 s6i5 h6i4 => ?_)
        refine WT.tk 17 h6i4 rfl rfl (.bool (!decide (r6hu = ((gt z61 r5yr.f0 x607).f4.f0)))) (fun _ _ => by kernel_rfl) s6i5 (fun a6i6 s6i8 h6i7 => ?_)
        refine WT.dn ?_
        clear h6h8 a6h7 h6hc a6hb h6hf a6he h6hi a6hh h6hl a6hk h6ho a6hn h6hr a6hq h6hz a6hy h6i4 a6i3
        by_cases c6i9 : r6hu = ((gt z61 r5yr.f0 x607).f4.f0)
        ·rw [if_pos c6i9] at H
         have hb_ : (decide (r6hu = ((gt z61 r5yr.f0 x607).f4.f0))) = true := decide_eq_true c6i9
         try rw [hb_] at h6i7
         clear hb_
         refine wp_else h6i7 rfl ?_
         refine wp_skip ?_
         refine WL.start ?_
         refine WL.bl 2 2 h6i7 [(39, i6 (IntKind.i64.wrap (x607 + 1))), (72, i6 (IntKind.i64.wrap (x607 + 1)))] (fun a6ia h6ib => ?_)
         refine WL.dn ?_
         have hS6ic := hS6i2.b2
         have hS6id := hS6ic.drop_
         have hS6ie := hS6id.b3
         have hS6if := hS6ie.b2
         have hS6ig := hS6if.b3
         have hS6ih := hS6ig.b3
         exact ⟨kk60e, by omega, M6i0, IntKind.i64.wrap (x605 + (((gt z61 r5yr.f0 x607).f1).length : Int)), r6am, IntKind.i64.wrap (x607 + 1), h6ib.keep ⟨rfl, rfl, rfl, rfl, rfl, rfl, rfl, rfl, rfl, rfl, rfl, rfl, trivial⟩, ⟨H⟩, ⟨by omega⟩, ⟨hS6ih⟩, ⟨hr6i1⟩⟩
        ·rw [if_neg c6i9] at H
         have hb_ : (decide (r6hu = ((gt z61 r5yr.f0 x607).f4.f0))) = false := decide_eq_false c6i9
         try rw [hb_] at h6i7
         clear hb_
         refine wp_then h6i7 rfl ?_
         refine wp_seq ?_
         refine WL.start ?_
         refine WL.bl 1 1 h6i7 [(4, .bool false)] (fun a6ii h6ij => ?_)
         refine WL.dn ?_
         refine wp_ret ?_
         have hS6ik := hS6i2.drop_
         have hS6il := hS6ik.drop_
         have hS6im := hS6il.drop_
         have hS6in := hS6im.drop_
         have hS6io := hS6in.drop_
         obtain rfl := Option.some.inj H
         repeat (first | with_reducible refine t1 ?_ | with_reducible refine t2 ?_ | with_reducible refine t3 ?_)
         refine bret (.bool false) h6ij ?_
         exact ⟨rfl, hS6io⟩
       ·rw [if_neg c6ha] at H
        have hb_ : (decide (r6gv = (((gt z61 r5yr.f0 x607).f1).length : Int))) = false := decide_eq_false c6ha
        try rw [hb_] at h6h8
        clear hb_
        refine WT.sp 9 h6h8 rfl rfl s6h9 (fun a6ip s6ir h6iq => ?_)
        refine WT.sp 10 h6iq rfl rfl s6ir (fun a6is s6iu h6it => ?_)
        refine WT.sp 11 h6it rfl rfl s6iu (fun a6iv s6ix h6iw => ?_)
        refine WT.sp 12 h6iw rfl rfl s6ix (fun a6iy s6j0 h6iz => ?_)
        refine WT.sp 13 h6iz rfl rfl s6j0 (fun a6j1 s6j3 h6j2 => ?_)
        refine WT.sp 14 h6j2 rfl rfl s6j3 (fun a6j4 s6j6 h6j5 => ?_)
        refine WT.sp 15 h6j5 rfl rfl s6j6 (fun a6j7 s6j9 h6j8 => ?_)
        refine WT.sp 16 h6j8 rfl rfl s6j9 (fun a6ja s6jc h6jb => ?_)
        refine WT.tk 17 h6jb rfl rfl (.bool true) (fun _ _ => by kernel_rfl) s6jc (fun a6jd s6jf h6je => ?_)
        refine WT.dn ?_
        refine wp_then h6je rfl ?_
        refine wp_seq ?_
        refine WL.start ?_
        refine WL.bl 1 1 h6je [(4, .bool false)] (fun a6jg h6jh => ?_)
        refine WL.dn ?_
        refine wp_ret ?_
        have hS6ji := hS6h3.drop_
        have hS6jj := hS6ji.drop_
        have hS6jk := hS6jj.drop_
        have hS6jl := hS6jk.drop_
        have hS6jm := hS6jl.drop_
        obtain rfl := Option.some.inj H
        repeat (first | with_reducible refine t1 ?_ | with_reducible refine t2 ?_ | with_reducible refine t3 ?_)
        refine bret (.bool false) h6jh ?_
        exact ⟨rfl, hS6jm⟩
     ·rw [if_neg c60i] at H
      cases H
    ·rw [if_neg c60h] at H
     have hb_ : (decide (x607 < (r5yr.f0.length : Int))) = false := decide_eq_false c60h
     try rw [hb_] at h60g
     clear hb_
     refine wp_else h60g rfl ?_
     refine wp_exit ?_
     refine wp_seq ?_
     refine WT.start 36 (fun w_ => (w_.cell? ⟨g5wp, 2, none⟩ = some (i6 r5yr.f2.f0)) ∧ (w_.cell? ⟨g5y4, 1, none⟩ = some (.int .u32 ((gt z45 p1 x5x8).f1))) ∧ (∀ j_ u_, ([.slice A5z4 r5yr.f0.length c5z5, i6 r5yr.f1, i6 r5yr.f2.f0, .bool r5yr.f2.f1] : List Value)[j_]? = some u_ → w_.cell? ((⟨g5wp, 0, none⟩ : Addr).add j_) = some u_) ∧ True) (by kernel_rfl) #[false, false, false, false, false, false, false, false, false, false, false, false, false, false, false, false, false, false, false, false, false, false, false, false, false, false, false, false, false, false, false, false, false, false, false, false] 36 rfl rfl ?_
     have hS78p := hS601.drew
     refine WT.tk 0 h60g rfl rfl (.bool r5yq) (fun _ _ => by kernel_rfl) ⟨(hS78p.b1.cell (i := 2) rfl), (hS78p.b3.cell (i := 1) rfl), (hS78p.b1.cells (vs := [.slice A5z4 r5yr.f0.length c5z5, i6 r5yr.f1, i6 r5yr.f2.f0, .bool r5yr.f2.f1]) rfl), trivial⟩ (fun a78q s78s h78r => ?_)
     refine WT.tk 1 h78r rfl rfl (.bool (!r5yq)) (fun _ _ => by kernel_rfl) s78s (fun a78t s78v h78u => ?_)
     refine WT.tk 2 h78u rfl rfl (.bool (!r5yq)) (fun _ _ => by kernel_rfl) s78v (fun a78w s78y h78x => ?_)
     clear h60g a60f h78r a78q h78u a78t
     by_cases c78z : r5yq = true
     ·rw [if_pos c78z] at H
      have hb_ : r5yq = true := c78z
      try rw [hb_] at h78x
      clear hb_
      refine WT.tk 3 h78x rfl rfl (pt g5w4) (fun _ _ => by kernel_rfl) s78y (fun a790 s792 h791 => ?_)
      refine WT.tk 5 h791 rfl rfl (i6 x605) (fun _ _ => by kernel_rfl) s792 (fun a793 s795 h794 => ?_)
      obtain ⟨r797, A796, H⟩ := bind1 H
      refine WT.o1 4 h794 rfl ?_
      refine owp_call [(pt g5w4)] h794 rfl (by kernel_rfl) rfl Try.func15 (by kernel_rfl) rfl (by kernel_rfl) (turns_Ring_All.calls kk60e hr604 A796 hS78p) (fun e799 W798 hp79a => ?_)
      obtain ⟨M79d, rfl, hr79e, hS79f⟩ := hp79a
      refine ⟨_, rfl, fun a79b h79c => ?_⟩
      refine ⟨.inr ⟨(hS79f.b1.cell (i := 2) rfl), (hS79f.b3.cell (i := 1) rfl), (hS79f.b1.cells (vs := [.slice A5z4 r5yr.f0.length c5z5, i6 r5yr.f1, i6 r5yr.f2.f0, .bool r5yr.f2.f1]) rfl), trivial⟩, ?_⟩
      refine WT.tk 6 h79c rfl rfl (.bool (!decide (r797 = x605))) (fun _ _ => by kernel_rfl) ⟨(hS79f.b1.cell (i := 2) rfl), (hS79f.b3.cell (i := 1) rfl), (hS79f.b1.cells (vs := [.slice A5z4 r5yr.f0.length c5z5, i6 r5yr.f1, i6 r5yr.f2.f0, .bool r5yr.f2.f1]) rfl), trivial⟩ (fun a79g s79i h79h => ?_)
      refine WT.tk 7 h79h rfl rfl (.bool (!decide (r797 = x605))) (fun _ _ => by kernel_rfl) s79i (fun a79j s79l h79k => ?_)
      refine WT.tk 8 h79k rfl rfl (.bool (!decide (r797 = x605))) (fun _ _ => by kernel_rfl) s79l (fun a79m s79o h79n => ?_)
      clear h78x a78w h791 a790 h794 a793 h79c a79b h79h a79g h79k a79j
      by_cases c79p : r797 = x605
      ·rw [if_pos c79p] at H
       have hb_ : (decide (r797 = x605)) = true := decide_eq_true c79p
       try rw [hb_] at h79n
       clear hb_
       refine WT.tk 9 h79n rfl rfl (pt g5w4) (fun _ _ => by kernel_rfl) s79o (fun a79q s79s h79r => ?_)
       refine WT.tk 11 h79r rfl rfl (.bool x606) (fun _ _ => by kernel_rfl) s79s (fun a79t s79v h79u => ?_)
       obtain ⟨r79x, A79w, H⟩ := bind1 H
       refine WT.o1 10 h79u rfl ?_
       refine owp_call [(pt g5w4)] h79u rfl (by kernel_rfl) rfl Try.func14 (by kernel_rfl) rfl (by kernel_rfl) (turns_Ring_Can.calls kk60e hr79e A79w hS79f) (fun e79z W79y hp7a0 => ?_)
       obtain ⟨M7a3, rfl, hr7a4, hS7a5⟩ := hp7a0
       refine ⟨_, rfl, fun a7a1 h7a2 => ?_⟩
       refine ⟨.inr ⟨(hS7a5.b1.cell (i := 2) rfl), (hS7a5.b3.cell (i := 1) rfl), (hS7a5.b1.cells (vs := [.slice A5z4 r5yr.f0.length c5z5, i6 r5yr.f1, i6 r5yr.f2.f0, .bool r5yr.f2.f1]) rfl), trivial⟩, ?_⟩
       refine WT.tk 12 h7a2 rfl rfl (.bool (r79x != x606)) (fun _ _ => by kernel_rfl) ⟨(hS7a5.b1.cell (i := 2) rfl), (hS7a5.b3.cell (i := 1) rfl), (hS7a5.b1.cells (vs := [.slice A5z4 r5yr.f0.length c5z5, i6 r5yr.f1, i6 r5yr.f2.f0, .bool r5yr.f2.f1]) rfl), trivial⟩ (fun a7a6 s7a8 h7a7 => ?_)
       refine WT.tk 13 h7a7 rfl rfl (.bool (r79x != x606)) (fun _ _ => by kernel_rfl) s7a8 (fun a7a9 s7ab h7aa => ?_)
       refine WT.tk 14 h7aa rfl rfl (.bool (r79x != x606)) (fun _ _ => by kernel_rfl) s7ab (fun a7ac s7ae h7ad => ?_)
       clear h79n a79m h79r a79q h79u a79t h7a2 a7a1 h7a7 a7a6 h7aa a7a9
       by_cases c7af : (r79x != x606) = true
       ·rw [if_pos c7af] at H
        have hb_ : (r79x != x606) = true := c7af
        try rw [hb_] at h7ad
        clear hb_
        refine WT.sp 15 h7ad rfl rfl s7ae (fun a7ag s7ai h7ah => ?_)
        refine WT.sp 16 h7ah rfl rfl s7ai (fun a7aj s7al h7ak => ?_)
        refine WT.sp 17 h7ak rfl rfl s7al (fun a7am s7ao h7an => ?_)
        refine WT.sp 18 h7an rfl rfl s7ao (fun a7ap s7ar h7aq => ?_)
        refine WT.sp 19 h7aq rfl rfl s7ar (fun a7as s7au h7at => ?_)
        refine WT.sp 20 h7at rfl rfl s7au (fun a7av s7ax h7aw => ?_)
        refine WT.tk 21 h7aw rfl rfl (.bool true) (fun _ _ => by kernel_rfl) s7ax (fun a7ay s7b0 h7az => ?_)
        refine WT.tk 22 h7az rfl rfl (.bool true) (fun _ _ => by kernel_rfl) s7b0 (fun a7b1 s7b3 h7b2 => ?_)
        refine WT.sp 23 h7b2 rfl rfl s7b3 (fun a7b4 s7b6 h7b5 => ?_)
        refine WT.sp 24 h7b5 rfl rfl s7b6 (fun a7b7 s7b9 h7b8 => ?_)
        refine WT.sp 25 h7b8 rfl rfl s7b9 (fun a7ba s7bc h7bb => ?_)
        refine WT.sp 26 h7bb rfl rfl s7bc (fun a7bd s7bf h7be => ?_)
        clear h7ad a7ac h7ah a7ag h7ak a7aj h7an a7am h7aq a7ap h7at a7as h7aw a7av h7az a7ay h7b2 a7b1 h7b5 a7b4 h7b8 a7b7 h7bb a7ba
        refine WT.sp 27 h7be rfl rfl s7bf (fun a7bg s7bi h7bh => ?_)
        refine WT.sp 28 h7bh rfl rfl s7bi (fun a7bj s7bl h7bk => ?_)
        refine WT.sp 29 h7bk rfl rfl s7bl (fun a7bm s7bo h7bn => ?_)
        refine WT.sp 30 h7bn rfl rfl s7bo (fun a7bp s7br h7bq => ?_)
        refine WT.sp 31 h7bq rfl rfl s7br (fun a7bs s7bu h7bt => ?_)
        refine WT.sp 32 h7bt rfl rfl s7bu (fun a7bv s7bx h7bw => ?_)
        refine WT.sp 33 h7bw rfl rfl s7bx (fun a7by s7c0 h7bz => ?_)
        refine WT.sp 34 h7bz rfl rfl s7c0 (fun a7c1 s7c3 h7c2 => ?_)
        refine WT.tk 35 h7c2 rfl rfl (.bool true) (fun _ _ => by kernel_rfl) s7c3 (fun a7c4 s7c6 h7c5 => ?_)
        refine WT.dn ?_
        refine wp_then h7c5 rfl ?_
        refine wp_seq ?_
        refine WL.start ?_
        refine WL.bl 1 1 h7c5 [(4, .bool false)] (fun a7c7 h7c8 => ?_)
        refine WL.dn ?_
        refine wp_ret ?_
        have hS7c9 := hS7a5.drop_
        have hS7ca := hS7c9.drop_
        have hS7cb := hS7ca.drop_
        have hS7cc := hS7cb.drop_
        obtain rfl := Option.some.inj H
        repeat (first | with_reducible refine t1 ?_ | with_reducible refine t2 ?_ | with_reducible refine t3 ?_)
        refine bret (.bool false) h7c8 ?_
        exact ⟨rfl, hS7cc⟩
       ·rw [if_neg c7af] at H
        have hb_ : (r79x != x606) = false := (Bool.eq_false_iff.2 c7af)
        try rw [hb_] at h7ad
        clear hb_
        refine WT.tk 15 h7ad rfl rfl (pt g5w4) (fun _ _ => by kernel_rfl) s7ae (fun a7cd s7cf h7ce => ?_)
        refine WT.tk 17 h7ce rfl rfl (.pointer (some ⟨g5wp, 2, none⟩)) (fun _ _ => by kernel_rfl) s7cf (fun a7cg s7ci h7ch => ?_)
        refine WT.tk 18 h7ch rfl rfl (.pointer (some ⟨g5wp, 2, none⟩)) (fun _ _ => by kernel_rfl) s7ci (fun a7cj s7cl h7ck => ?_)
        refine WT.tk 19 h7ck rfl rfl (i6 r5yr.f2.f0) (fun w_ hs_ => (run_load1 rfl rfl Try.underlying2 rfl hs_.1)) s7cl (fun a7cm s7co h7cn => ?_)
        obtain ⟨r7cq, A7cp, H⟩ := bind1 H
        refine WT.o1 16 h7cn rfl ?_
        refine owp_call [(pt g5w4), .int .u32 0] h7cn rfl (by kernel_rfl) rfl Try.func24 (by kernel_rfl) rfl (by kernel_rfl) (turns_Ring_Left.calls kk60e hr7a4 A7cp hS7a5) (fun e7cs W7cr hp7ct => ?_)
        obtain ⟨M7cw, rfl, hr7cx, hS7cy⟩ := hp7ct
        refine ⟨_, rfl, fun a7cu h7cv => ?_⟩
        refine ⟨.inr ⟨(hS7cy.b1.cell (i := 2) rfl), (hS7cy.b3.cell (i := 1) rfl), (hS7cy.b1.cells (vs := [.slice A5z4 r5yr.f0.length c5z5, i6 r5yr.f1, i6 r5yr.f2.f0, .bool r5yr.f2.f1]) rfl), trivial⟩, ?_⟩
        refine WT.tk 20 h7cv rfl rfl (.bool (!decide (r7cq = r5yr.f2.f0))) (fun _ _ => by kernel_rfl) ⟨(hS7cy.b1.cell (i := 2) rfl), (hS7cy.b3.cell (i := 1) rfl), (hS7cy.b1.cells (vs := [.slice A5z4 r5yr.f0.length c5z5, i6 r5yr.f1, i6 r5yr.f2.f0, .bool r5yr.f2.f1]) rfl), trivial⟩ (fun a7cz s7d1 h7d0 => ?_)
        refine WT.tk 21 h7d0 rfl rfl (.bool (!decide (r7cq = r5yr.f2.f0))) (fun _ _ => by kernel_rfl) s7d1 (fun a7d2 s7d4 h7d3 => ?_)
        refine WT.tk 22 h7d3 rfl rfl (.bool (!decide (r7cq = r5yr.f2.f0))) (fun _ _ => by kernel_rfl) s7d4 (fun a7d5 s7d7 h7d6 => ?_)
        clear h7ad a7ac h7ce a7cd h7ch a7cg h7ck a7cj h7cn a7cm h7cv a7cu h7d0 a7cz h7d3 a7d2
        by_cases c7d8 : r7cq = r5yr.f2.f0
        ·rw [if_pos c7d8] at H
         have hb_ : (decide (r7cq = r5yr.f2.f0)) = true := decide_eq_true c7d8
         try rw [hb_] at h7d6
         clear hb_
         refine WT.tk 23 h7d6 rfl rfl (pt g5w4) (fun _ _ => by kernel_rfl) s7d7 (fun a7d9 s7db h7da => ?_)
         refine WT.tk 24 h7da rfl rfl (.pointer (some ⟨g5y4, 1, none⟩)) (fun _ _ => by kernel_rfl) s7db (fun a7dc s7de h7dd => ?_)
         refine WT.tk 25 h7dd rfl rfl (.int .u32 ((gt z45 p1 x5x8).f1)) (fun w_ hs_ => (run_load1 rfl rfl Try.underlying25 rfl hs_.2.1)) s7de (fun a7df s7dh h7dg => ?_)
         obtain ⟨r7dj, A7di, H⟩ := bind1 H
         refine WT.o1 26 h7dg rfl ?_
         refine owp_call [(pt g5w4), .int .u32 ((gt z45 p1 x5x8).f1)] h7dg rfl (by kernel_rfl) rfl Try.func13 (by kernel_rfl) rfl (by kernel_rfl) (turns_Ring_Waits.calls kk60e hr7cx A7di hS7cy) (fun e7dl W7dk hp7dm => ?_)
         obtain ⟨M7dp, rfl, hr7dq, hS7dr⟩ := hp7dm
         refine ⟨_, rfl, fun a7dn h7do => ?_⟩
         refine ⟨.inr ⟨(hS7dr.b1.cell (i := 2) rfl), (hS7dr.b3.cell (i := 1) rfl), (hS7dr.b1.cells (vs := [.slice A5z4 r5yr.f0.length c5z5, i6 r5yr.f1, i6 r5yr.f2.f0, .bool r5yr.f2.f1]) rfl), trivial⟩, ?_⟩
         refine WT.tk 27 h7do rfl rfl (.bool (!decide (r7dj = 0))) (fun _ _ => by kernel_rfl) ⟨(hS7dr.b1.cell (i := 2) rfl), (hS7dr.b3.cell (i := 1) rfl), (hS7dr.b1.cells (vs := [.slice A5z4 r5yr.f0.length c5z5, i6 r5yr.f1, i6 r5yr.f2.f0, .bool r5yr.f2.f1]) rfl), trivial⟩ (fun a7ds s7du h7dt => ?_)
         refine WT.tk 28 h7dt rfl rfl (.bool (!decide (r7dj = 0))) (fun _ _ => by kernel_rfl) s7du (fun a7dv s7dx h7dw => ?_)
         clear h7d6 a7d5 h7da a7d9 h7dd a7dc h7dg a7df h7do a7dn h7dt a7ds
         by_cases c7dy : r7dj = 0
         ·rw [if_pos c7dy] at H
          have hb_ : (decide (r7dj = 0)) = true := decide_eq_true c7dy
          try rw [hb_] at h7dw
          clear hb_
          refine WT.sp 29 h7dw rfl rfl s7dx (fun a7dz s7e1 h7e0 => ?_)
          refine WT.sp 30 h7e0 rfl rfl s7e1 (fun a7e2 s7e4 h7e3 => ?_)
          refine WT.sp 31 h7e3 rfl rfl s7e4 (fun a7e5 s7e7 h7e6 => ?_)
          refine WT.sp 32 h7e6 rfl rfl s7e7 (fun a7e8 s7ea h7e9 => ?_)
          refine WT.sp 33 h7e9 rfl rfl s7ea (fun a7eb s7ed h7ec => ?_)
          refine WT.tk 34 h7ec rfl rfl (.bool false) (fun _ _ => by kernel_rfl) s7ed (fun a7ee s7eg h7ef => ?_)
          refine WT.tk 35 h7ef rfl rfl (.bool false) (fun _ _ => by kernel_rfl) s7eg (fun a7eh s7ej h7ei => ?_)
          refine WT.dn ?_
          refine wp_else h7ei rfl ?_
          refine wp_skip ?_
          refine WL.start ?_
          refine WL.bl 2 2 h7ei [(24, i6 (IntKind.i64.wrap (x5x8 + 1))), (109, i6 (IntKind.i64.wrap (x5x8 + 1)))] (fun a7ek h7el => ?_)
          refine WL.dn ?_
          have hS7em := hS7dr.b2
          have hS7en := hS7em.b2
          obtain ⟨M7eo, hp7ep, hS7eq⟩ := k56qfo (⟨r5yr.f0, r5yr.f1, (⟨r5yr.f2.f0, r5yr.f2.f1⟩ : S41)⟩ : S56) hr5z0 hS7en
          have hS7er := hS7eq.b2
          have hS7es := hS7er.drop_
          have hS7et := hS7es.b1
          exact ⟨kk60e, by omega, r5ys, M7dp, (⟨r5yr.f0, r5yr.f1, (⟨r5yr.f2.f0, r5yr.f2.f1⟩ : S41)⟩ : S56), M7eo, IntKind.i64.wrap (x5x8 + 1), h7el.keep ⟨rfl, rfl, rfl, rfl, rfl, trivial⟩, ⟨H⟩, ⟨by omega⟩, ⟨hS7et⟩, ⟨hr7dq⟩, ⟨hp7ep⟩⟩
         ·rw [if_neg c7dy] at H
          have hb_ : (decide (r7dj = 0)) = false := decide_eq_false c7dy
          try rw [hb_] at h7dw
          clear hb_
          refine WT.tk 30 h7dw rfl rfl (.pointer (some ⟨g5y4, 1, none⟩)) (fun _ _ => by kernel_rfl) s7dx (fun a7eu s7ew h7ev => ?_)
          refine WT.tk 29 h7ev rfl rfl (.agg #[.slice A5z4 r5yr.f0.length c5z5, i6 r5yr.f1, i6 r5yr.f2.f0, .bool r5yr.f2.f1]) (fun w_ hs_ => (run_loadN rfl rfl Try.underlying56 rfl (cs := [.slice A5z4 r5yr.f0.length c5z5, i6 r5yr.f1, i6 r5yr.f2.f0, .bool r5yr.f2.f1]) (by kernel_rfl) hs_.2.2.1)) s7ew (fun a7ex s7ez h7ey => ?_)
          refine WT.tk 31 h7ey rfl rfl (.int .u32 ((gt z45 p1 x5x8).f1)) (fun w_ hs_ => (run_load1 rfl rfl Try.underlying25 rfl hs_.2.1)) s7ez (fun a7f0 s7f2 h7f1 => ?_)
          have hS7f3 := hS7dr.b2
          obtain ⟨r7f5, A7f4, H⟩ := bind1 H
          refine WT.o1 32 h7f1 rfl ?_
          refine owp_call [.agg #[.slice A5z4 r5yr.f0.length c5z5, i6 r5yr.f1, i6 r5yr.f2.f0, .bool r5yr.f2.f1], .int .u32 ((gt z45 p1 x5x8).f1)] h7f1 rfl (by kernel_rfl) rfl Try.func25 (by kernel_rfl) rfl (by kernel_rfl) (louverref13qR_Find.calls (p0 := (⟨r5yr.f0, r5yr.f1, (⟨r5yr.f2.f0, r5yr.f2.f1⟩ : S41)⟩ : S56)) kk60e hr5z0.rds A7f4 (hS7f3.pool)) (fun e7f7 W7f6 hp7f8 => ?_)
          obtain ⟨rfl, hS7fb⟩ := hp7f8
          have hS7fc : St b w0 W7f6 R (M5yz :: M7dp :: (bx g5wp 56 [.slice A5z4 r5yr.f0.length c5z5, i6 r5yr.f1, i6 r5yr.f2.f0, .bool r5yr.f2.f1]) :: (bx g5y4 45 [i6 ((gt z45 p1 x5x8).f0), .int .u32 ((gt z45 p1 x5x8).f1), i6 ((gt z45 p1 x5x8).f2), .slice A5xx ((gt z45 p1 x5x8).f3).length c5xy, .bool ((gt z45 p1 x5x8).f4), .int .u32 ((gt z45 p1 x5x8).f5), .int .u32 ((gt z45 p1 x5x8).f6)]) :: Fs) := hS7fb.unpool
          refine ⟨_, rfl, fun a7f9 h7fa => ?_⟩
          refine ⟨.inr ⟨(hS7fc.b2.cell (i := 2) rfl), (hS7fc.b3.cell (i := 1) rfl), (hS7fc.b2.cells (vs := [.slice A5z4 r5yr.f0.length c5z5, i6 r5yr.f1, i6 r5yr.f2.f0, .bool r5yr.f2.f1]) rfl), trivial⟩, ?_⟩
          refine WT.tk 33 h7fa rfl rfl (.bool (decide (r7f5 < 0))) (fun _ _ => by kernel_rfl) ⟨(hS7fc.b2.cell (i := 2) rfl), (hS7fc.b3.cell (i := 1) rfl), (hS7fc.b2.cells (vs := [.slice A5z4 r5yr.f0.length c5z5, i6 r5yr.f1, i6 r5yr.f2.f0, .bool r5yr.f2.f1]) rfl), trivial⟩ (fun a7fd s7ff h7fe => ?_)
          refine WT.tk 34 h7fe rfl rfl (.bool (decide (r7f5 < 0))) (fun _ _ => by kernel_rfl) s7ff (fun a7fg s7fi h7fh => ?_)
          refine WT.tk 35 h7fh rfl rfl (.bool (decide (r7f5 < 0))) (fun _ _ => by kernel_rfl) s7fi (fun a7fj s7fl h7fk => ?_)
          refine WT.dn ?_
          clear h7dw a7dv h7ev a7eu h7ey a7ex h7f1 a7f0 h7fa a7f9 h7fe a7fd h7fh a7fg
          by_cases c7fm : r7f5 < 0
          ·rw [if_pos c7fm] at H
           have hb_ : (decide (r7f5 < 0)) = true := decide_eq_true c7fm
           try rw [hb_] at h7fk
           clear hb_
           refine wp_then h7fk rfl ?_
           refine wp_seq ?_
           refine WL.start ?_
           refine WL.bl 1 1 h7fk [(4, .bool false)] (fun a7fn h7fo => ?_)
           refine WL.dn ?_
           refine wp_ret ?_
           have hS7fp := hS7fc.drop_
           have hS7fq := hS7fp.drop_
           have hS7fr := hS7fq.drop_
           have hS7fs := hS7fr.drop_
           obtain rfl := Option.some.inj H
           repeat (first | with_reducible refine t1 ?_ | with_reducible refine t2 ?_ | with_reducible refine t3 ?_)
           refine bret (.bool false) h7fo ?_
           exact ⟨rfl, hS7fs⟩
          ·rw [if_neg c7fm] at H
           have hb_ : (decide (r7f5 < 0)) = false := decide_eq_false c7fm
           try rw [hb_] at h7fk
           clear hb_
           refine wp_else h7fk rfl ?_
           refine wp_skip ?_
           refine WL.start ?_
           refine WL.bl 2 2 h7fk [(24, i6 (IntKind.i64.wrap (x5x8 + 1))), (109, i6 (IntKind.i64.wrap (x5x8 + 1)))] (fun a7ft h7fu => ?_)
           refine WL.dn ?_
           have hS7fv := hS7fc.b2
           obtain ⟨M7fw, hp7fx, hS7fy⟩ := k56qfo (⟨r5yr.f0, r5yr.f1, (⟨r5yr.f2.f0, r5yr.f2.f1⟩ : S41)⟩ : S56) hr5z0 hS7fv
           have hS7fz := hS7fy.b2
           have hS7g0 := hS7fz.drop_
           have hS7g1 := hS7g0.b1
           exact ⟨kk60e, by omega, r5ys, M7dp, (⟨r5yr.f0, r5yr.f1, (⟨r5yr.f2.f0, r5yr.f2.f1⟩ : S41)⟩ : S56), M7fw, IntKind.i64.wrap (x5x8 + 1), h7fu.keep ⟨rfl, rfl, rfl, rfl, rfl, trivial⟩, ⟨H⟩, ⟨by omega⟩, ⟨hS7g1⟩, ⟨hr7dq⟩, ⟨hp7fx⟩⟩
        ·rw [if_neg c7d8] at H
         have hb_ : (decide (r7cq = r5yr.f2.f0)) = false := decide_eq_false c7d8
         try rw [hb_] at h7d6
         clear hb_
         refine WT.sp 23 h7d6 rfl rfl s7d7 (fun a7g2 s7g4 h7g3 => ?_)
         refine WT.sp 24 h7g3 rfl rfl s7g4 (fun a7g5 s7g7 h7g6 => ?_)
         refine WT.sp 25 h7g6 rfl rfl s7g7 (fun a7g8 s7ga h7g9 => ?_)
         refine WT.sp 26 h7g9 rfl rfl s7ga (fun a7gb s7gd h7gc => ?_)
         refine WT.sp 27 h7gc rfl rfl s7gd (fun a7ge s7gg h7gf => ?_)
         refine WT.sp 28 h7gf rfl rfl s7gg (fun a7gh s7gj h7gi => ?_)
         refine WT.sp 29 h7gi rfl rfl s7gj (fun a7gk s7gm h7gl => ?_)
         refine WT.sp 30 h7gl rfl rfl s7gm (fun a7gn s7gp h7go => ?_)
         refine WT.sp 31 h7go rfl rfl s7gp (fun a7gq s7gs h7gr => ?_)
         refine WT.sp 32 h7gr rfl rfl s7gs (fun a7gt s7gv h7gu => ?_)
         refine WT.sp 33 h7gu rfl rfl s7gv (fun a7gw s7gy h7gx => ?_)
         refine WT.sp 34 h7gx rfl rfl s7gy (fun a7gz s7h1 h7h0 => ?_)
         clear h7d6 a7d5 h7g3 a7g2 h7g6 a7g5 h7g9 a7g8 h7gc a7gb h7gf a7ge h7gi a7gh h7gl a7gk h7go a7gn h7gr a7gq h7gu a7gt h7gx a7gw
         refine WT.tk 35 h7h0 rfl rfl (.bool true) (fun _ _ => by kernel_rfl) s7h1 (fun a7h2 s7h4 h7h3 => ?_)
         refine WT.dn ?_
         refine wp_then h7h3 rfl ?_
         refine wp_seq ?_
         refine WL.start ?_
         refine WL.bl 1 1 h7h3 [(4, .bool false)] (fun a7h5 h7h6 => ?_)
         refine WL.dn ?_
         refine wp_ret ?_
         have hS7h7 := hS7cy.drop_
         have hS7h8 := hS7h7.drop_
         have hS7h9 := hS7h8.drop_
         have hS7ha := hS7h9.drop_
         obtain rfl := Option.some.inj H
         repeat (first | with_reducible refine t1 ?_ | with_reducible refine t2 ?_ | with_reducible refine t3 ?_)
         refine bret (.bool false) h7h6 ?_
         exact ⟨rfl, hS7ha⟩
      ·rw [if_neg c79p] at H
       have hb_ : (decide (r797 = x605)) = false := decide_eq_false c79p
       try rw [hb_] at h79n
       clear hb_
       refine WT.sp 9 h79n rfl rfl s79o (fun a7hb s7hd h7hc => ?_)
       refine WT.sp 10 h7hc rfl rfl s7hd (fun a7he s7hg h7hf => ?_)
       refine WT.sp 11 h7hf rfl rfl s7hg (fun a7hh s7hj h7hi => ?_)
       refine WT.sp 12 h7hi rfl rfl s7hj (fun a7hk s7hm h7hl => ?_)
       refine WT.tk 13 h7hl rfl rfl (.bool true) (fun _ _ => by kernel_rfl) s7hm (fun a7hn s7hp h7ho => ?_)
       refine WT.tk 14 h7ho rfl rfl (.bool true) (fun _ _ => by kernel_rfl) s7hp (fun a7hq s7hs h7hr => ?_)
       refine WT.sp 15 h7hr rfl rfl s7hs (fun a7ht s7hv h7hu => ?_)
       refine WT.sp 16 h7hu rfl rfl s7hv (fun a7hw s7hy h7hx => ?_)
       refine WT.sp 17 h7hx rfl rfl s7hy (fun a7hz s7i1 h7i0 => ?_)
       refine WT.sp 18 h7i0 rfl rfl s7i1 (fun a7i2 s7i4 h7i3 => ?_)
       refine WT.sp 19 h7i3 rfl rfl s7i4 (fun a7i5 s7i7 h7i6 => ?_)
       refine WT.sp 20 h7i6 rfl rfl s7i7 (fun a7i8 s7ia h7i9 => ?_)
       clear h79n a79m h7hc a7hb h7hf a7he h7hi a7hh h7hl a7hk h7ho a7hn h7hr a7hq h7hu a7ht h7hx a7hw h7i0 a7hz h7i3 a7i2 h7i6 a7i5
       refine WT.tk 21 h7i9 rfl rfl (.bool true) (fun _ _ => by kernel_rfl) s7ia (fun a7ib s7id h7ic => ?_)
       refine WT.tk 22 h7ic rfl rfl (.bool true) (fun _ _ => by kernel_rfl) s7id (fun a7ie s7ig h7if => ?_)
       refine WT.sp 23 h7if rfl rfl s7ig (fun a7ih s7ij h7ii => ?_)
       refine WT.sp 24 h7ii rfl rfl s7ij (fun a7ik s7im h7il => ?_)
       refine WT.sp 25 h7il rfl rfl s7im (fun a7in s7ip h7io => ?_)
       refine WT.sp 26 h7io rfl rfl s7ip (fun a7iq s7is h7ir => ?_)
       refine WT.sp 27 h7ir rfl rfl s7is (fun a7it s7iv h7iu => ?_)
       refine WT.sp 28 h7iu rfl rfl s7iv (fun a7iw s7iy h7ix => ?_)
       refine WT.sp 29 h7ix rfl rfl s7iy (fun a7iz s7j1 h7j0 => ?_)
       refine WT.sp 30 h7j0 rfl rfl s7j1 (fun a7j2 s7j4 h7j3 => ?_)
       refine WT.sp 31 h7j3 rfl rfl s7j4 (fun a7j5 s7j7 h7j6 => ?_)
       refine WT.sp 32 h7j6 rfl rfl s7j7 (fun a7j8 s7ja h7j9 => ?_)
       clear h7i9 a7i8 h7ic a7ib h7if a7ie h7ii a7ih h7il a7ik h7io a7in h7ir a7iq h7iu a7it h7ix a7iw h7j0 a7iz h7j3 a7j2 h7j6 a7j5
       refine WT.sp 33 h7j9 rfl rfl s7ja (fun a7jb s7jd h7jc => ?_)
       refine WT.sp 34 h7jc rfl rfl s7jd (fun a7je s7jg h7jf => ?_)
       refine WT.tk 35 h7jf rfl rfl (.bool true) (fun _ _ => by kernel_rfl) s7jg (fun a7jh s7jj h7ji => ?_)
       refine WT.dn ?_
       refine wp_then h7ji rfl ?_
       refine wp_seq ?_
       refine WL.start ?_
       refine WL.bl 1 1 h7ji [(4, .bool false)] (fun a7jk h7jl => ?_)
       refine WL.dn ?_
       refine wp_ret ?_
       have hS7jm := hS79f.drop_
       have hS7jn := hS7jm.drop_
       have hS7jo := hS7jn.drop_
       have hS7jp := hS7jo.drop_
       obtain rfl := Option.some.inj H
       repeat (first | with_reducible refine t1 ?_ | with_reducible refine t2 ?_ | with_reducible refine t3 ?_)
       refine bret (.bool false) h7jl ?_
       exact ⟨rfl, hS7jp⟩
     ·rw [if_neg c78z] at H
      have hb_ : r5yq = false := (Bool.eq_false_iff.2 c78z)
      try rw [hb_] at h78x
      clear hb_
      refine WT.sp 3 h78x rfl rfl s78y (fun a7jq s7js h7jr => ?_)
      refine WT.sp 4 h7jr rfl rfl s7js (fun a7jt s7jv h7ju => ?_)
      refine WT.sp 5 h7ju rfl rfl s7jv (fun a7jw s7jy h7jx => ?_)
      refine WT.sp 6 h7jx rfl rfl s7jy (fun a7jz s7k1 h7k0 => ?_)
      refine WT.tk 7 h7k0 rfl rfl (.bool true) (fun _ _ => by kernel_rfl) s7k1 (fun a7k2 s7k4 h7k3 => ?_)
      refine WT.tk 8 h7k3 rfl rfl (.bool true) (fun _ _ => by kernel_rfl) s7k4 (fun a7k5 s7k7 h7k6 => ?_)
      refine WT.sp 9 h7k6 rfl rfl s7k7 (fun a7k8 s7ka h7k9 => ?_)
      refine WT.sp 10 h7k9 rfl rfl s7ka (fun a7kb s7kd h7kc => ?_)
      refine WT.sp 11 h7kc rfl rfl s7kd (fun a7ke s7kg h7kf => ?_)
      refine WT.sp 12 h7kf rfl rfl s7kg (fun a7kh s7kj h7ki => ?_)
      refine WT.tk 13 h7ki rfl rfl (.bool true) (fun _ _ => by kernel_rfl) s7kj (fun a7kk s7km h7kl => ?_)
      refine WT.tk 14 h7kl rfl rfl (.bool true) (fun _ _ => by kernel_rfl) s7km (fun a7kn s7kp h7ko => ?_)
      clear h78x a78w h7jr a7jq h7ju a7jt h7jx a7jw h7k0 a7jz h7k3 a7k2 h7k6 a7k5 h7k9 a7k8 h7kc a7kb h7kf a7ke h7ki a7kh h7kl a7kk
      refine WT.sp 15 h7ko rfl rfl s7kp (fun a7kq s7ks h7kr => ?_)
      refine WT.sp 16 h7kr rfl rfl s7ks (fun a7kt s7kv h7ku => ?_)
      refine WT.sp 17 h7ku rfl rfl s7kv (fun a7kw s7ky h7kx => ?_)
      refine WT.sp 18 h7kx rfl rfl s7ky (fun a7kz s7l1 h7l0 => ?_)
      refine WT.sp 19 h7l0 rfl rfl s7l1 (fun a7l2 s7l4 h7l3 => ?_)
      refine WT.sp 20 h7l3 rfl rfl s7l4 (fun a7l5 s7l7 h7l6 => ?_)
      refine WT.tk 21 h7l6 rfl rfl (.bool true) (fun _ _ => by kernel_rfl) s7l7 (fun a7l8 s7la h7l9 => ?_)
      refine WT.tk 22 h7l9 rfl rfl (.bool true) (fun _ _ => by kernel_rfl) s7la (fun a7lb s7ld h7lc => ?_)
      refine WT.sp 23 h7lc rfl rfl s7ld (fun a7le s7lg h7lf => ?_)
      refine WT.sp 24 h7lf rfl rfl s7lg (fun a7lh s7lj h7li => ?_)
      refine WT.sp 25 h7li rfl rfl s7lj (fun a7lk s7lm h7ll => ?_)
      refine WT.sp 26 h7ll rfl rfl s7lm (fun a7ln s7lp h7lo => ?_)
      clear h7ko a7kn h7kr a7kq h7ku a7kt h7kx a7kw h7l0 a7kz h7l3 a7l2 h7l6 a7l5 h7l9 a7l8 h7lc a7lb h7lf a7le h7li a7lh h7ll a7lk
      refine WT.sp 27 h7lo rfl rfl s7lp (fun a7lq s7ls h7lr => ?_)
      refine WT.sp 28 h7lr rfl rfl s7ls (fun a7lt s7lv h7lu => ?_)
      refine WT.sp 29 h7lu rfl rfl s7lv (fun a7lw s7ly h7lx => ?_)
      refine WT.sp 30 h7lx rfl rfl s7ly (fun a7lz s7m1 h7m0 => ?_)
      refine WT.sp 31 h7m0 rfl rfl s7m1 (fun a7m2 s7m4 h7m3 => ?_)
      refine WT.sp 32 h7m3 rfl rfl s7m4 (fun a7m5 s7m7 h7m6 => ?_)
      refine WT.sp 33 h7m6 rfl rfl s7m7 (fun a7m8 s7ma h7m9 => ?_)
      refine WT.sp 34 h7m9 rfl rfl s7ma (fun a7mb s7md h7mc => ?_)
      refine WT.tk 35 h7mc rfl rfl (.bool true) (fun _ _ => by kernel_rfl) s7md (fun a7me s7mg h7mf => ?_)
      refine WT.dn ?_
      refine wp_then h7mf rfl ?_
      refine wp_seq ?_
      refine WL.start ?_
      refine WL.bl 1 1 h7mf [(4, .bool false)] (fun a7mh h7mi => ?_)
      refine WL.dn ?_
      refine wp_ret ?_
      have hS7mj := hS78p.drop_
      have hS7mk := hS7mj.drop_
      have hS7ml := hS7mk.drop_
      have hS7mm := hS7ml.drop_
      obtain rfl := Option.some.inj H
      repeat (first | with_reducible refine t1 ?_ | with_reducible refine t2 ?_ | with_reducible refine t3 ?_)
      refine bret (.bool false) h7mi ?_
      exact ⟨rfl, hS7mm⟩
   ·rw [if_neg c5xj] at H
    cases H
  ·rw [if_neg c5xi] at H
   have hb_ : (decide (x5x8 < (p1.length : Int))) = false := decide_eq_false c5xi
   try rw [hb_] at h5xh
   clear hb_
   refine wp_else h5xh rfl ?_
   refine wp_exit ?_
   refine wp_seq ?_
   refine WL.start ?_
   obtain ⟨r7mo, A7mn, H⟩ := bind1 H
   refine WL.oq h5xh rfl ?_
   refine owp_call [] h5xh rfl (by kernel_rfl) rfl Try.func12 (by kernel_rfl) rfl (by kernel_rfl) (louverlaw13qfixed.calls kk5xf  A7mn hS5x0) (fun e7mq W7mp hp7mr => ?_)
   obtain ⟨rfl, hS7mu⟩ := hp7mr
   refine ⟨_, rfl, fun a7ms h7mt => ?_⟩
   refine WL.bl 1 2 h7mt [(4, .bool r7mo)] (fun a7mv h7mw => ?_)
   refine WL.dn ?_
   refine wp_ret ?_
   have hS7mx := hS7mu.drop_
   have hS7my := hS7mx.drop_
   obtain rfl := Option.some.inj H
   repeat (first | with_reducible refine t1 ?_ | with_reducible refine t2 ?_ | with_reducible refine t3 ?_)
   refine bret (.bool r7mo) h7mw ?_
   exact ⟨rfl, hS7my⟩
end Go.Proofs.Ytikfpmieadfllaa.Sl
