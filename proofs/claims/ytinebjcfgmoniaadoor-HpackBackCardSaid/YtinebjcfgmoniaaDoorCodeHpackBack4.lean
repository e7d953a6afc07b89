/- What the functions of this program compute, told as plain functions, and that the calls come to just that. Printed by this session's program; part 4. -/
import Derived.Test.YtinebjcfgmoniaaDoorCodeHpackBack3
set_option linter.unusedVariables false
set_option linter.unusedSimpArgs false
set_option linter.unnecessarySimpa false
namespace Go.Proofs.YtinebjcfgmoniaaDoor.Sl
open Go Go.RowKit Go.Proofs.Sl
/-! ### (louver/louverref06.D).field -/
def louverref06qD_field.f (k : Nat) (p0 : S45) (p1 : (List Int)) (p2 : Int) : Option (S52 × Int × S45 × Bool) := if 0 ≤ p2 then (if p2 < (p1.length : Int) then (bnd1 (louverref06qkind.f (gt (0 : Int) p1 p2)) fun r1lm => (if r1lm = 0 then (if p2 ≤ (p1.length : Int) then (bnd3 (louverref02qGet.f k (p1.drop p2.toNat) 7) fun r1m7 r1m8 r1m9 => (bnd2 (louverref05qT_At.f (⟨p0.f0.f0, p0.f0.f1⟩ : S43) (IntKind.i64.wrap r1m7)) fun r1mr r1ms => (if r1ms = true then (some ((⟨r1mr.f0, r1mr.f1, r1mr.f2⟩ : S52), IntKind.i64.wrap (p2 + r1m8), (⟨(⟨p0.f0.f0, p0.f0.f1⟩ : S43), p0.f1⟩ : S45), decide (r1m9 = 0))) else (some ((⟨r1mr.f0, r1mr.f1, r1mr.f2⟩ : S52), IntKind.i64.wrap (p2 + r1m8), (⟨(⟨p0.f0.f0, p0.f0.f1⟩ : S43), p0.f1⟩ : S45), false))))) else (none)) else (if r1lm = 1 then (bnd3 (louverref06qD_literal.f k (⟨(⟨p0.f0.f0, p0.f0.f1⟩ : S43), p0.f1⟩ : S45) p1 p2 6) fun r1ug r1uh r1ui => (if r1ui = true then (bnd1 (louverref05qT_Add.f k (⟨p0.f0.f0, p0.f0.f1⟩ : S43) (⟨r1ug.f0, r1ug.f1, r1ug.f2⟩ : S52)) fun r1vg => (some ((⟨r1ug.f0, r1ug.f1, r1ug.f2⟩ : S52), r1uh, (⟨(⟨r1vg.f0, r1vg.f1⟩ : S43), p0.f1⟩ : S45), true))) else (some ((⟨r1ug.f0, r1ug.f1, r1ug.f2⟩ : S52), r1uh, (⟨(⟨p0.f0.f0, p0.f0.f1⟩ : S43), p0.f1⟩ : S45), false)))) else (bnd3 (louverref06qD_literal.f k (⟨(⟨p0.f0.f0, p0.f0.f1⟩ : S43), p0.f1⟩ : S45) p1 p2 4) fun r218 r219 r21a => (bnd1 (louverref06qkind.f (gt (0 : Int) p1 p2)) fun r22b => (some ((⟨r218.f0, r218.f1, decide (r22b = 3)⟩ : S52), r219, (⟨(⟨p0.f0.f0, p0.f0.f1⟩ : S43), p0.f1⟩ : S45), r21a))))))) else (none)) else (none)
set_option maxHeartbeats 20000000 in
set_option maxRecDepth 100000 in
theorem louverref06qD_field.calls (k : Nat) {b : Nat} {w0 W : World} {R : Frag} {Fs : List Frag} {p0 : S45} {p1 : (List Int)} {p2 : Int} {v0q0 : Value} {v1 : Value} {M0q0 : Frag} {r0q : S52} {r1q : Int} {r2q : S45} {r3q : Bool} (hp0q0 : Row k52 52 b w0 R v0q0 p0.f0.f0 M0q0) (hp1 : Rds (kInt .u8) b w0 R v1 p1) (H : louverref06qD_field.f k p0 p1 p2 = some (r0q, r1q, r2q, r3q)) (hS : St b w0 W R (M0q0 :: Fs)) :
  Calls Tryd.prog 34 ([.agg #[v0q0, i6 p0.f0.f1, i6 p0.f1], v1, i6 p2] : List Value).toArray W (fun e W' => ∃ (u2qv2qf0f0 : Value), e = .returned (.tuple #[.agg #[.string (mkS r0q.f0), .string (mkS r0q.f1), .bool r0q.f2], i6 r1q, .agg #[u2qv2qf0f0, i6 r2q.f0.f1, i6 r2q.f1], .bool r3q]) ∧ ((u2qv2qf0f0 = v0q0 ∧ r2q.f0.f0 = p0.f0.f0 ∧ St b w0 W' R (M0q0 :: Fs)) ∨ ∃ N_ : Frag, Row k52 52 b w0 R u2qv2qf0f0 r2q.f0.f0 N_ ∧ St b w0 W' R (N_ :: M0q0 :: Fs))) := by
 obtain ⟨A0q0, c0q0, rfl⟩ := hp0q0.form
 obtain ⟨A1, c1, rfl⟩ := hp1.form
 unfold louverref06qD_field.f at H
 refine calls_enter Tryd.func34 rfl 93 rfl (by kernel_rfl) (fun a h => ?_)
 refine wp_seq ?_
 refine WL.start ?_
 refine WL.oq h rfl ?_
 refine owp_nw (fun g_ => (pt g_)) (.cells ([.slice A0q0 p0.f0.f0.length c0q0, i6 p0.f0.f1, i6 p0.f1] : List Value).toArray 45 (0, 0)) h rfl hS (fun a1kl W1kn g1ko h1km hS1kp => ?_)
 refine WL.oq h1km rfl ?_
 refine owp_nw (fun g_ => (pt g_)) (.cells ([.string (mkS []), .string (mkS []), .bool false] : List Value).toArray 52 (0, 0)) h1km rfl hS1kp (fun a1kq W1ks g1kt h1kr hS1ku => ?_)
 refine WL.bl 1 3 h1kr [(7, i6 0)] (fun a1kv h1kw => ?_)
 refine WL.oq h1kw rfl ?_
 refine owp_nw (fun g_ => (pt g_)) (.cells ([.slice none 0 0, i6 0, i6 0] : List Value).toArray 45 (0, 0)) h1kw rfl hS1ku (fun a1kx W1kz g1l0 h1ky hS1l1 => ?_)
 refine WL.bl 1 5 h1ky [(9, .bool false)] (fun a1l2 h1l3 => ?_)
 refine WL.dn ?_
 refine wp_seq ?_
 refine wp_seq ?_
 refine WL.start ?_
 refine WL.bl 2 2 h1l3 [(22, i6 p2), (21, .slice A1 p1.length c1)] (fun a1l4 h1l5 => ?_)
 clear h1km a1kl h1kr a1kq h1kw a1kv h1ky a1kx h1l3 a1l2
 by_cases c1l6 : 0 ≤ p2
 ·rw [if_pos c1l6] at H
  by_cases c1l7 : p2 < (p1.length : Int)
  ·rw [if_pos c1l7] at H
   have hi1la : 0 ≤ p2 := by first | assumption | omega
   have hi1lb : p2 < (p1.length : Int) := by first | assumption | omega
   obtain ⟨ad1l8, _, ha1l9, -, -⟩ := Rds.elemAny hp1 hi1la (gt_get (z := (0 : Int)) hi1la hi1lb)
   refine WL.oq h1l5 rfl ?_
   refine owp_rn (.pointer (some (ad1l8.add (p2.toNat * 1)))) h1l5 rfl (run_idx (ad := ad1l8) (sz := 1) rfl (by rw [← ha1l9]; rfl) rfl Tryd.underlying22 (by kernel_rfl) hi1la hi1lb) (fun a1lc h1ld => ?_)
   obtain ⟨ad1le, cs1lf, ha1lg, hr1li, hc1lh⟩ := Rds.elemAny hp1 hi1la (gt_get (z := (0 : Int)) hi1la hi1lb)
   rw [ha1l9] at ha1lg; obtain rfl := Option.some.inj ha1lg
   obtain rfl : cs1lf = [.int .u8 (gt (0 : Int) p1 p2)] := hr1li
   refine WL.oq h1ld rfl ?_
   refine owp_rn (.int .u8 (gt (0 : Int) p1 p2)) h1ld rfl (run_load1 rfl rfl Tryd.underlying5 rfl (cell0 (hc1lh _ (fun _ _ hk_ => hS1l1.kn hk_)))) (fun a1lj h1lk => ?_)
   obtain ⟨r1lm, A1ll, H⟩ := bind1 H
   refine WL.oq h1lk rfl ?_
   refine owp_call [.int .u8 (gt (0 : Int) p1 p2)] h1lk rfl (by kernel_rfl) rfl Tryd.func31 (by kernel_rfl) rfl (by kernel_rfl) (louverref06qkind.calls  A1ll hS1l1) (fun e1lo W1ln hp1lp => ?_)
   obtain ⟨rfl, hS1ls⟩ := hp1lp
   refine ⟨_, rfl, fun a1lq h1lr => ?_⟩
   refine WL.dn ?_
   refine wp_block ?_
   refine wp_seq ?_
   refine WL.start ?_
   refine WL.bl 2 2 h1lr [(26, .bool (decide (r1lm = 0))), (27, .bool (decide (r1lm = 0)))] (fun a1lt h1lu => ?_)
   refine WL.dn ?_
   clear h1l5 a1l4 h1ld a1lc h1lk a1lj h1lr a1lq
   by_cases c1lv : r1lm = 0
   ·rw [if_pos c1lv] at H
    have hb_ : (decide (r1lm = 0)) = true := decide_eq_true c1lv
    try rw [hb_] at h1lu
    clear hb_
    refine wp_then h1lu rfl ?_
    refine wp_seq ?_
    refine WL.start ?_
    refine WL.bl 2 2 h1lu [(30, i6 p2), (29, .slice A1 p1.length c1)] (fun a1lw h1lx => ?_)
    clear h1lu a1lt
    by_cases c1ly : p2 ≤ (p1.length : Int)
    ·rw [if_pos c1ly] at H
     refine WL.oq h1lx rfl ?_
     refine owp_rn (sliced A1 p2.toNat (p1.length : Int).toNat c1 1) h1lx rfl (run_cut (l := p2) (h := (p1.length : Int)) rfl rfl Tryd.underlying22 (by kernel_rfl) ⟨_, rfl⟩ rfl (by first | assumption | omega) (by first | assumption | omega) (by have q_ := Rds.cap hp1; omega) (by have q_ := Rds.cap hp1; omega)) (fun a1m0 h1m1 => ?_)
     have hx1lz := Rds.cut hp1 (l := p2.toNat) (h := (p1.length : Int).toNat) (by omega) (by omega)
     obtain ⟨v1m2, ev1m3⟩ : ∃ y_, y_ = sliced A1 p2.toNat (p1.length : Int).toNat c1 1 := ⟨_, rfl⟩
     have hx_ : Rds (kInt .u8) b w0 R v1m2 (p1.drop p2.toNat) := hx1lz.as_ ev1m3.symm (by simp)
     rw [← ev1m3] at h1m1; clear ev1m3 hx1lz
     have hx1lz := hx_; clear hx_
     obtain ⟨A1m4, c1m5, rfl⟩ := hx1lz.form
     obtain ⟨r1m7, r1m8, r1m9, A1m6, H⟩ := bind3 H
     refine WL.oq h1m1 rfl ?_
     refine owp_call [.slice A1m4 (p1.drop p2.toNat).length c1m5, i6 7] h1m1 rfl (by kernel_rfl) rfl Tryd.func32 (by kernel_rfl) rfl (by kernel_rfl) (louverref02qGet.calls k hx1lz A1m6 hS1ls) (fun e1mb W1ma hp1mc => ?_)
     obtain ⟨rfl, hS1mf⟩ := hp1mc
     refine ⟨_, rfl, fun a1md h1me => ?_⟩
     refine WL.bl 7 11 h1me [(12, i6 r1m9), (11, i6 r1m8), (10, .int .u32 r1m7), (35, i6 r1m9), (34, i6 r1m8), (33, .int .u32 r1m7), (28, .tuple #[.int .u32 r1m7, i6 r1m8, i6 r1m9])] (fun a1mg h1mh => ?_)
     refine WL.dn ?_
     refine wp_seq ?_
     refine WL.start ?_
     refine WL.bl 1 1 h1mh [(37, pt g1ko)] (fun a1mi h1mj => ?_)
     have hS1mk := hS1mf.b2
     refine WL.oq h1mj rfl ?_
     refine owp_rn (.agg #[.slice A0q0 p0.f0.f0.length c0q0, i6 p0.f0.f1]) h1mj rfl (run_loadN rfl rfl Tryd.underlying43 rfl (cs := [.slice A0q0 p0.f0.f0.length c0q0, i6 p0.f0.f1]) (by kernel_rfl) (hS1mk.cells (vs := [.slice A0q0 p0.f0.f0.length c0q0, i6 p0.f0.f1]) rfl)) (fun a1ml h1mm => ?_)
     refine WL.bl 2 4 h1mm [(40, i6 (IntKind.i64.wrap r1m7)), (39, .int .u32 r1m7)] (fun a1mn h1mo => ?_)
     have hS1mp := hS1mk.b3
     obtain ⟨r1mr, r1ms, A1mq, H⟩ := bind2 H
     refine WL.oq h1mo rfl ?_
     refine owp_call [.agg #[.slice A0q0 p0.f0.f0.length c0q0, i6 p0.f0.f1], i6 (IntKind.i64.wrap r1m7)] h1mo rfl (by kernel_rfl) rfl Tryd.func46 (by kernel_rfl) rfl (by kernel_rfl) (louverref05qT_At.calls (p0 := (⟨p0.f0.f0, p0.f0.f1⟩ : S43)) hp0q0.rds A1mq (hS1mp.pool)) (fun e1mu W1mt hp1mv => ?_)
     obtain ⟨rfl, hS1my⟩ := hp1mv
     have hS1mz : St b w0 W1mt R (M0q0 :: (bx g1ko 45 [.slice A0q0 p0.f0.f0.length c0q0, i6 p0.f0.f1, i6 p0.f1]) :: (bx g1l0 45 [.slice none 0 0, i6 0, i6 0]) :: (bx g1kt 52 [.string (mkS []), .string (mkS []), .bool false]) :: Fs) := hS1my.unpool
     refine ⟨_, rfl, fun a1mw h1mx => ?_⟩
     refine WL.bl 3 8 h1mx [(43, .bool r1ms), (42, .agg #[.string (mkS r1mr.f0), .string (mkS r1mr.f1), .bool r1mr.f2]), (36, .tuple #[.agg #[.string (mkS r1mr.f0), .string (mkS r1mr.f1), .bool r1mr.f2], .bool r1ms])] (fun a1n0 h1n1 => ?_)
     refine WL.oq h1n1 rfl ?_
     refine owp_nw (fun g_ => (pt g_)) (.cells ([.string (mkS []), .string (mkS []), .bool false] : List Value).toArray 52 (0, 0)) h1n1 rfl hS1mz (fun a1n2 W1n4 g1n5 h1n3 hS1n6 => ?_)
     refine WL.oq h1n3 rfl ?_
     refine owp_st 0 [.string (mkS r1mr.f0), .string (mkS r1mr.f1), .bool r1mr.f2] h1n3 rfl rfl rfl hS1n6 [.string (mkS r1mr.f0), .string (mkS r1mr.f1), .bool r1mr.f2] (fun a1n7 W1n9 h1n8 hS1na => ?_)
     refine WL.bl 1 11 h1n8 [(14, .bool r1ms)] (fun a1nb h1nc => ?_)
     refine WL.dn ?_
     refine wp_seq ?_
     refine WT.start 14 (fun w_ => (∀ j_ u_, ([.string (mkS r1mr.f0), .string (mkS r1mr.f1), .bool r1mr.f2] : List Value)[j_]? = some u_ → w_.cell? ((⟨g1n5, 0, none⟩ : Addr).add j_) = some u_) ∧ (∀ j_ u_, ([.slice A0q0 p0.f0.f0.length c0q0, i6 p0.f0.f1, i6 p0.f1] : List Value)[j_]? = some u_ → w_.cell? ((⟨g1ko, 0, none⟩ : Addr).add j_) = some u_) ∧ True) (by kernel_rfl) #[false, false, false, false, false, false, false, false, false, false, false, false, false, false] 14 rfl rfl ?_
     have hS1rp := hS1na.drew
     refine WT.tk 1 h1nc rfl rfl (i6 p2) (fun _ _ => by kernel_rfl) ⟨(hS1rp.cells (vs := [.string (mkS r1mr.f0), .string (mkS r1mr.f1), .bool r1mr.f2]) rfl), (hS1rp.b2.cells (vs := [.slice A0q0 p0.f0.f0.length c0q0, i6 p0.f0.f1, i6 p0.f1]) rfl), trivial⟩ (fun a1rq s1rs h1rr => ?_)
     clear h1lx a1lw h1m1 a1m0 h1me a1md h1mh a1mg h1mj a1mi h1mm a1ml h1mo a1mn h1mx a1mw h1n1 a1n0 h1n3 a1n2 h1n8 a1n7 h1nc a1nb
     refine WT.tk 2 h1rr rfl rfl (i6 r1m8) (fun _ _ => by kernel_rfl) s1rs (fun a1rt s1rv h1ru => ?_)
     refine WT.tk 3 h1ru rfl rfl (i6 (IntKind.i64.wrap (p2 + r1m8))) (fun _ _ => by kernel_rfl) s1rv (fun a1rw s1ry h1rx => ?_)
     refine WT.tk 5 h1rx rfl rfl (.bool r1ms) (fun _ _ => by kernel_rfl) s1ry (fun a1rz s1s1 h1s0 => ?_)
     refine WT.tk 6 h1s0 rfl rfl (.bool r1ms) (fun _ _ => by kernel_rfl) s1s1 (fun a1s2 s1s4 h1s3 => ?_)
     clear h1rr a1rq h1ru a1rt h1rx a1rw h1s0 a1rz
     by_cases c1s5 : r1ms = true
     ·rw [if_pos c1s5] at H
      have hb_ : r1ms = true := c1s5
      try rw [hb_] at h1s3
      clear hb_
      refine WT.tk 7 h1s3 rfl rfl (i6 r1m9) (fun _ _ => by kernel_rfl) s1s4 (fun a1s6 s1s8 h1s7 => ?_)
      refine WT.tk 8 h1s7 rfl rfl (.bool (decide (r1m9 = 0))) (fun _ _ => by kernel_rfl) s1s8 (fun a1s9 s1sb h1sa => ?_)
      refine WT.tk 9 h1sa rfl rfl (.bool (decide (r1m9 = 0))) (fun _ _ => by kernel_rfl) s1sb (fun a1sc s1se h1sd => ?_)
      refine WT.tk 0 h1sd rfl rfl (.agg #[.string (mkS r1mr.f0), .string (mkS r1mr.f1), .bool r1mr.f2]) (fun w_ hs_ => (run_loadN rfl rfl Tryd.underlying52 rfl (cs := [.string (mkS r1mr.f0), .string (mkS r1mr.f1), .bool r1mr.f2]) (by kernel_rfl) hs_.1)) s1se (fun a1sf s1sh h1sg => ?_)
      refine WT.tk 4 h1sg rfl rfl (.agg #[.slice A0q0 p0.f0.f0.length c0q0, i6 p0.f0.f1, i6 p0.f1]) (fun w_ hs_ => (run_loadN rfl rfl Tryd.underlying45 rfl (cs := [.slice A0q0 p0.f0.f0.length c0q0, i6 p0.f0.f1, i6 p0.f1]) (by kernel_rfl) hs_.2.1)) s1sh (fun a1si s1sk h1sj => ?_)
      have hS1sl := hS1rp.b4
      refine WT.o1 10 h1sj rfl ?_
      refine owp_st 0 [.string (mkS r1mr.f0), .string (mkS r1mr.f1), .bool r1mr.f2] h1sj rfl rfl rfl hS1sl [.string (mkS r1mr.f0), .string (mkS r1mr.f1), .bool r1mr.f2] (fun a1sm W1so h1sn hS1sp => ?_)
      refine ⟨.inr ⟨(hS1sp.b1.cells (vs := [.string (mkS r1mr.f0), .string (mkS r1mr.f1), .bool r1mr.f2]) rfl), (hS1sp.b3.cells (vs := [.slice A0q0 p0.f0.f0.length c0q0, i6 p0.f0.f1, i6 p0.f1]) rfl), trivial⟩, ?_⟩
      refine WT.tk 11 h1sn rfl rfl (i6 (IntKind.i64.wrap (p2 + r1m8))) (fun _ _ => by kernel_rfl) ⟨(hS1sp.b1.cells (vs := [.string (mkS r1mr.f0), .string (mkS r1mr.f1), .bool r1mr.f2]) rfl), (hS1sp.b3.cells (vs := [.slice A0q0 p0.f0.f0.length c0q0, i6 p0.f0.f1, i6 p0.f1]) rfl), trivial⟩ (fun a1sq s1ss h1sr => ?_)
      have hS1st := hS1sp.b4
      refine WT.o1 12 h1sr rfl ?_
      refine owp_st 0 [.slice A0q0 p0.f0.f0.length c0q0, i6 p0.f0.f1, i6 p0.f1] h1sr rfl rfl rfl hS1st [.slice A0q0 p0.f0.f0.length c0q0, i6 p0.f0.f1, i6 p0.f1] (fun a1su W1sw h1sv hS1sx => ?_)
      refine ⟨.inr ⟨(hS1sx.b2.cells (vs := [.string (mkS r1mr.f0), .string (mkS r1mr.f1), .bool r1mr.f2]) rfl), (hS1sx.b4.cells (vs := [.slice A0q0 p0.f0.f0.length c0q0, i6 p0.f0.f1, i6 p0.f1]) rfl), trivial⟩, ?_⟩
      refine WT.tk 13 h1sv rfl rfl (.bool (decide (r1m9 = 0))) (fun _ _ => by kernel_rfl) ⟨(hS1sx.b2.cells (vs := [.string (mkS r1mr.f0), .string (mkS r1mr.f1), .bool r1mr.f2]) rfl), (hS1sx.b4.cells (vs := [.slice A0q0 p0.f0.f0.length c0q0, i6 p0.f0.f1, i6 p0.f1]) rfl), trivial⟩ (fun a1sy s1t0 h1sz => ?_)
      refine WT.dn ?_
      refine wp_ret ?_
      have hS1t1 := hS1sx.drop_
      have hS1t2 := hS1t1.drop_
      have hS1t3 := hS1t2.drop_
      have hS1t4 := hS1t3.b1
      have hS1t5 := hS1t4.drop_
      obtain ⟨rfl, rfl, rfl, rfl⟩ := ret4 H
      repeat (first | with_reducible refine t1 ?_ | with_reducible refine t2 ?_ | with_reducible refine t3 ?_)
      refine body_ret (v := .tuple #[.agg #[.string (mkS r1mr.f0), .string (mkS r1mr.f1), .bool r1mr.f2], i6 (IntKind.i64.wrap (p2 + r1m8)), .agg #[.slice A0q0 p0.f0.f0.length c0q0, i6 p0.f0.f1, i6 p0.f1], .bool (decide (r1m9 = 0))]) h1sz (by kernel_rfl) (res_many (xs := [ResultVar.cell 6 52, ResultVar.tmp 7, ResultVar.cell 8 45, ResultVar.tmp 9]) rfl ⟨⟨_, rfl, loadVarN Tryd.underlying52 rfl (cs := [.string (mkS r1mr.f0), .string (mkS r1mr.f1), .bool r1mr.f2]) (by kernel_rfl) ((hS1sx.bring 1 rfl rfl).cells (vs := [.string (mkS r1mr.f0), .string (mkS r1mr.f1), .bool r1mr.f2]) rfl)⟩, rfl, ⟨_, rfl, loadVarN Tryd.underlying45 rfl (cs := [.slice A0q0 p0.f0.f0.length c0q0, i6 p0.f0.f1, i6 p0.f1]) (by kernel_rfl) (hS1sx.cells (vs := [.slice A0q0 p0.f0.f0.length c0q0, i6 p0.f0.f1, i6 p0.f1]) rfl)⟩, rfl, trivial⟩ rfl) ?_
      exact ⟨.slice A0q0 p0.f0.f0.length c0q0, rfl, .inl ⟨rfl, rfl, hS1t5⟩⟩
     ·rw [if_neg c1s5] at H
      have hb_ : r1ms = false := (Bool.eq_false_iff.2 c1s5)
      try rw [hb_] at h1s3
      clear hb_
      refine WT.sp 7 h1s3 rfl rfl s1s4 (fun a1t6 s1t8 h1t7 => ?_)
      refine WT.sp 8 h1t7 rfl rfl s1t8 (fun a1t9 s1tb h1ta => ?_)
      refine WT.tk 9 h1ta rfl rfl (.bool false) (fun _ _ => by kernel_rfl) s1tb (fun a1tc s1te h1td => ?_)
      refine WT.tk 0 h1td rfl rfl (.agg #[.string (mkS r1mr.f0), .string (mkS r1mr.f1), .bool r1mr.f2]) (fun w_ hs_ => (run_loadN rfl rfl Tryd.underlying52 rfl (cs := [.string (mkS r1mr.f0), .string (mkS r1mr.f1), .bool r1mr.f2]) (by kernel_rfl) hs_.1)) s1te (fun a1tf s1th h1tg => ?_)
      refine WT.tk 4 h1tg rfl rfl (.agg #[.slice A0q0 p0.f0.f0.length c0q0, i6 p0.f0.f1, i6 p0.f1]) (fun w_ hs_ => (run_loadN rfl rfl Tryd.underlying45 rfl (cs := [.slice A0q0 p0.f0.f0.length c0q0, i6 p0.f0.f1, i6 p0.f1]) (by kernel_rfl) hs_.2.1)) s1th (fun a1ti s1tk h1tj => ?_)
      have hS1tl := hS1rp.b4
      refine WT.o1 10 h1tj rfl ?_
      refine owp_st 0 [.string (mkS r1mr.f0), .string (mkS r1mr.f1), .bool r1mr.f2] h1tj rfl rfl rfl hS1tl [.string (mkS r1mr.f0), .string (mkS r1mr.f1), .bool r1mr.f2] (fun a1tm W1to h1tn hS1tp => ?_)
      refine ⟨.inr ⟨(hS1tp.b1.cells (vs := [.string (mkS r1mr.f0), .string (mkS r1mr.f1), .bool r1mr.f2]) rfl), (hS1tp.b3.cells (vs := [.slice A0q0 p0.f0.f0.length c0q0, i6 p0.f0.f1, i6 p0.f1]) rfl), trivial⟩, ?_⟩
      refine WT.tk 11 h1tn rfl rfl (i6 (IntKind.i64.wrap (p2 + r1m8))) (fun _ _ => by kernel_rfl) ⟨(hS1tp.b1.cells (vs := [.string (mkS r1mr.f0), .string (mkS r1mr.f1), .bool r1mr.f2]) rfl), (hS1tp.b3.cells (vs := [.slice A0q0 p0.f0.f0.length c0q0, i6 p0.f0.f1, i6 p0.f1]) rfl), trivial⟩ (fun a1tq s1ts h1tr => ?_)
      have hS1tt := hS1tp.b4
      refine WT.o1 12 h1tr rfl ?_
      refine owp_st 0 [.slice A0q0 p0.f0.f0.length c0q0, i6 p0.f0.f1, i6 p0.f1] h1tr rfl rfl rfl hS1tt [.slice A0q0 p0.f0.f0.length c0q0, i6 p0.f0.f1, i6 p0.f1] (fun a1tu W1tw h1tv hS1tx => ?_)
      refine ⟨.inr ⟨(hS1tx.b2.cells (vs := [.string (mkS r1mr.f0), .string (mkS r1mr.f1), .bool r1mr.f2]) rfl), (hS1tx.b4.cells (vs := [.slice A0q0 p0.f0.f0.length c0q0, i6 p0.f0.f1, i6 p0.f1]) rfl), trivial⟩, ?_⟩
      refine WT.tk 13 h1tv rfl rfl (.bool false) (fun _ _ => by kernel_rfl) ⟨(hS1tx.b2.cells (vs := [.string (mkS r1mr.f0), .string (mkS r1mr.f1), .bool r1mr.f2]) rfl), (hS1tx.b4.cells (vs := [.slice A0q0 p0.f0.f0.length c0q0, i6 p0.f0.f1, i6 p0.f1]) rfl), trivial⟩ (fun a1ty s1u0 h1tz => ?_)
      refine WT.dn ?_
      refine wp_ret ?_
      have hS1u1 := hS1tx.drop_
      have hS1u2 := hS1u1.drop_
      have hS1u3 := hS1u2.drop_
      have hS1u4 := hS1u3.b1
      have hS1u5 := hS1u4.drop_
      obtain ⟨rfl, rfl, rfl, rfl⟩ := ret4 H
      repeat (first | with_reducible refine t1 ?_ | with_reducible refine t2 ?_ | with_reducible refine t3 ?_)
      refine body_ret (v := .tuple #[.agg #[.string (mkS r1mr.f0), .string (mkS r1mr.f1), .bool r1mr.f2], i6 (IntKind.i64.wrap (p2 + r1m8)), .agg #[.slice A0q0 p0.f0.f0.length c0q0, i6 p0.f0.f1, i6 p0.f1], .bool false]) h1tz (by kernel_rfl) (res_many (xs := [ResultVar.cell 6 52, ResultVar.tmp 7, ResultVar.cell 8 45, ResultVar.tmp 9]) rfl ⟨⟨_, rfl, loadVarN Tryd.underlying52 rfl (cs := [.string (mkS r1mr.f0), .string (mkS r1mr.f1), .bool r1mr.f2]) (by kernel_rfl) ((hS1tx.bring 1 rfl rfl).cells (vs := [.string (mkS r1mr.f0), .string (mkS r1mr.f1), .bool r1mr.f2]) rfl)⟩, rfl, ⟨_, rfl, loadVarN Tryd.underlying45 rfl (cs := [.slice A0q0 p0.f0.f0.length c0q0, i6 p0.f0.f1, i6 p0.f1]) (by kernel_rfl) (hS1tx.cells (vs := [.slice A0q0 p0.f0.f0.length c0q0, i6 p0.f0.f1, i6 p0.f1]) rfl)⟩, rfl, trivial⟩ rfl) ?_
      exact ⟨.slice A0q0 p0.f0.f0.length c0q0, rfl, .inl ⟨rfl, rfl, hS1u5⟩⟩
    ·rw [if_neg c1ly] at H
     cases H
   ·rw [if_neg c1lv] at H
    have hb_ : (decide (r1lm = 0)) = false := decide_eq_false c1lv
    try rw [hb_] at h1lu
    clear hb_
    refine wp_else h1lu rfl ?_
    refine wp_seq ?_
    refine WL.start ?_
    refine WL.bl 2 2 h1lu [(54, .bool (decide (r1lm = 1))), (55, .bool (decide (r1lm = 1)))] (fun a1u6 h1u7 => ?_)
    refine WL.dn ?_
    clear h1lu a1lt
    by_cases c1u8 : r1lm = 1
    ·rw [if_pos c1u8] at H
     have hb_ : (decide (r1lm = 1)) = true := decide_eq_true c1u8
     try rw [hb_] at h1u7
     clear hb_
     refine wp_then h1u7 rfl ?_
     refine wp_seq ?_
     refine WL.start ?_
     have hS1u9 := hS1ls.b2
     refine WL.oq h1u7 rfl ?_
     refine owp_rn (.agg #[.slice A0q0 p0.f0.f0.length c0q0, i6 p0.f0.f1, i6 p0.f1]) h1u7 rfl (run_loadN rfl rfl Tryd.underlying45 rfl (cs := [.slice A0q0 p0.f0.f0.length c0q0, i6 p0.f0.f1, i6 p0.f1]) (by kernel_rfl) (hS1u9.cells (vs := [.slice A0q0 p0.f0.f0.length c0q0, i6 p0.f0.f1, i6 p0.f1]) rfl)) (fun a1ua h1ub => ?_)
     refine WL.bl 2 3 h1ub [(59, i6 p2), (58, .slice A1 p1.length c1)] (fun a1uc h1ud => ?_)
     have hS1ue := hS1u9.b3
     obtain ⟨r1ug, r1uh, r1ui, A1uf, H⟩ := bind3 H
     refine WL.oq h1ud rfl ?_
     refine owp_call [.agg #[.slice A0q0 p0.f0.f0.length c0q0, i6 p0.f0.f1, i6 p0.f1], .slice A1 p1.length c1, i6 p2, i6 6] h1ud rfl (by kernel_rfl) rfl Tryd.func47 (by kernel_rfl) rfl (by kernel_rfl) (louverref06qD_literal.calls (p0 := (⟨(⟨p0.f0.f0, p0.f0.f1⟩ : S43), p0.f1⟩ : S45)) k hp0q0.rds (hp1.mono (fun _ hp_ => List.mem_append_right _ hp_)) A1uf (hS1ue.pool)) (fun e1uk W1uj hp1ul => ?_)
     obtain ⟨rfl, hS1uo⟩ := hp1ul
     have hS1up : St b w0 W1uj R (M0q0 :: (bx g1ko 45 [.slice A0q0 p0.f0.f0.length c0q0, i6 p0.f0.f1, i6 p0.f1]) :: (bx g1l0 45 [.slice none 0 0, i6 0, i6 0]) :: (bx g1kt 52 [.string (mkS []), .string (mkS []), .bool false]) :: Fs) := hS1uo.unpool
     refine ⟨_, rfl, fun a1um h1un => ?_⟩
     refine WL.bl 4 8 h1un [(63, .bool r1ui), (62, i6 r1uh), (61, .agg #[.string (mkS r1ug.f0), .string (mkS r1ug.f1), .bool r1ug.f2]), (56, .tuple #[.agg #[.string (mkS r1ug.f0), .string (mkS r1ug.f1), .bool r1ug.f2], i6 r1uh, .bool r1ui])] (fun a1uq h1ur => ?_)
     refine WL.oq h1ur rfl ?_
     refine owp_nw (fun g_ => (pt g_)) (.cells ([.string (mkS []), .string (mkS []), .bool false] : List Value).toArray 52 (0, 0)) h1ur rfl hS1up (fun a1us W1uu g1uv h1ut hS1uw => ?_)
     refine WL.oq h1ut rfl ?_
     refine owp_st 0 [.string (mkS r1ug.f0), .string (mkS r1ug.f1), .bool r1ug.f2] h1ut rfl rfl rfl hS1uw [.string (mkS r1ug.f0), .string (mkS r1ug.f1), .bool r1ug.f2] (fun a1ux W1uz h1uy hS1v0 => ?_)
     refine WL.bl 2 12 h1uy [(17, .bool r1ui), (16, i6 r1uh)] (fun a1v1 h1v2 => ?_)
     refine WL.dn ?_
     refine wp_seq ?_
     refine wp_seq ?_
     refine WL.start ?_
     refine WL.bl 1 1 h1v2 [(64, .bool r1ui)] (fun a1v3 h1v4 => ?_)
     refine WL.dn ?_
     clear h1u7 a1u6 h1ub a1ua h1ud a1uc h1un a1um h1ur a1uq h1ut a1us h1uy a1ux h1v2 a1v1
     by_cases c1v5 : r1ui = true
     ·rw [if_pos c1v5] at H
      have hb_ : r1ui = true := c1v5
      try rw [hb_] at h1v4
      clear hb_
      refine wp_then h1v4 rfl ?_
      refine WL.start ?_
      refine WL.bl 1 1 h1v4 [(65, pt g1ko)] (fun a1v6 h1v7 => ?_)
      have hS1v8 := hS1v0.b2
      refine WL.oq h1v7 rfl ?_
      refine owp_rn (.agg #[.slice A0q0 p0.f0.f0.length c0q0, i6 p0.f0.f1]) h1v7 rfl (run_loadN rfl rfl Tryd.underlying43 rfl (cs := [.slice A0q0 p0.f0.f0.length c0q0, i6 p0.f0.f1]) (by kernel_rfl) (hS1v8.cells (vs := [.slice A0q0 p0.f0.f0.length c0q0, i6 p0.f0.f1]) rfl)) (fun a1v9 h1va => ?_)
      have hS1vb := hS1v8.b1
      refine WL.oq h1va rfl ?_
      refine owp_rn (.agg #[.string (mkS r1ug.f0), .string (mkS r1ug.f1), .bool r1ug.f2]) h1va rfl (run_loadN rfl rfl Tryd.underlying52 rfl (cs := [.string (mkS r1ug.f0), .string (mkS r1ug.f1), .bool r1ug.f2]) (by kernel_rfl) (hS1vb.cells (vs := [.string (mkS r1ug.f0), .string (mkS r1ug.f1), .bool r1ug.f2]) rfl)) (fun a1vc h1vd => ?_)
      have hS1ve := hS1vb.b2
      obtain ⟨r1vg, A1vf, H⟩ := bind1 H
      refine WL.oq h1vd rfl ?_
      refine owp_call [.agg #[.slice A0q0 p0.f0.f0.length c0q0, i6 p0.f0.f1], .agg #[.string (mkS r1ug.f0), .string (mkS r1ug.f1), .bool r1ug.f2]] h1vd rfl (by kernel_rfl) rfl Tryd.func48 (by kernel_rfl) rfl (by kernel_rfl) (louverref05qT_Add.calls (p0 := (⟨p0.f0.f0, p0.f0.f1⟩ : S43)) (p1 := (⟨r1ug.f0, r1ug.f1, r1ug.f2⟩ : S52)) k hp0q0.rds A1vf (hS1ve.pool)) (fun e1vi W1vh hp1vj => ?_)
      obtain ⟨v1vm, M1vn, rfl, hr1vo, hS1vp⟩ := hp1vj
      have hS1vq : St b w0 W1vh R (M0q0 :: M1vn :: (bx g1uv 52 [.string (mkS r1ug.f0), .string (mkS r1ug.f1), .bool r1ug.f2]) :: (bx g1ko 45 [.slice A0q0 p0.f0.f0.length c0q0, i6 p0.f0.f1, i6 p0.f1]) :: (bx g1l0 45 [.slice none 0 0, i6 0, i6 0]) :: (bx g1kt 52 [.string (mkS []), .string (mkS []), .bool false]) :: Fs) := hS1vp.unpool
      replace hr1vo : Row k52 52 b w0 R v1vm r1vg.f0 M1vn := hr1vo.ind k52qind
      refine ⟨_, rfl, fun a1vk h1vl => ?_⟩
      obtain ⟨A1vr, c1vs, rfl⟩ := hr1vo.form
      refine WL.bl 1 5 h1vl [(69, pt g1ko)] (fun a1vt h1vu => ?_)
      have hS1vv := hS1vq.b3
      refine WL.oq h1vu rfl ?_
      refine owp_st 0 [.slice A1vr r1vg.f0.length c1vs, i6 r1vg.f1] h1vu rfl rfl rfl hS1vv [.slice A1vr r1vg.f0.length c1vs, i6 r1vg.f1, i6 p0.f1] (fun a1vw W1vy h1vx hS1vz => ?_)
      refine WL.dn ?_
      refine wp_seq ?_
      refine WT.start 8 (fun w_ => (∀ j_ u_, ([.string (mkS r1ug.f0), .string (mkS r1ug.f1), .bool r1ug.f2] : List Value)[j_]? = some u_ → w_.cell? ((⟨g1uv, 0, none⟩ : Addr).add j_) = some u_) ∧ (∀ j_ u_, ([.slice A1vr r1vg.f0.length c1vs, i6 r1vg.f1, i6 p0.f1] : List Value)[j_]? = some u_ → w_.cell? ((⟨g1ko, 0, none⟩ : Addr).add j_) = some u_) ∧ True) (by kernel_rfl) #[false, false, false, false, false, false, false, false] 8 rfl rfl ?_
      have hS1xk := hS1vz.drew
      refine WT.tk 1 h1vx rfl rfl (i6 r1uh) (fun _ _ => by kernel_rfl) ⟨(hS1xk.b3.cells (vs := [.string (mkS r1ug.f0), .string (mkS r1ug.f1), .bool r1ug.f2]) rfl), (hS1xk.cells (vs := [.slice A1vr r1vg.f0.length c1vs, i6 r1vg.f1, i6 p0.f1]) rfl), trivial⟩ (fun a1xl s1xn h1xm => ?_)
      refine WT.tk 3 h1xm rfl rfl (.bool true) (fun _ _ => by kernel_rfl) s1xn (fun a1xo s1xq h1xp => ?_)
      refine WT.tk 0 h1xp rfl rfl (.agg #[.string (mkS r1ug.f0), .string (mkS r1ug.f1), .bool r1ug.f2]) (fun w_ hs_ => (run_loadN rfl rfl Tryd.underlying52 rfl (cs := [.string (mkS r1ug.f0), .string (mkS r1ug.f1), .bool r1ug.f2]) (by kernel_rfl) hs_.1)) s1xq (fun a1xr s1xt h1xs => ?_)
      refine WT.tk 2 h1xs rfl rfl (.agg #[.slice A1vr r1vg.f0.length c1vs, i6 r1vg.f1, i6 p0.f1]) (fun w_ hs_ => (run_loadN rfl rfl Tryd.underlying45 rfl (cs := [.slice A1vr r1vg.f0.length c1vs, i6 r1vg.f1, i6 p0.f1]) (by kernel_rfl) hs_.2.1)) s1xt (fun a1xu s1xw h1xv => ?_)
      have hS1xx := hS1xk.b5
      refine WT.o1 4 h1xv rfl ?_
      refine owp_st 0 [.string (mkS r1ug.f0), .string (mkS r1ug.f1), .bool r1ug.f2] h1xv rfl rfl rfl hS1xx [.string (mkS r1ug.f0), .string (mkS r1ug.f1), .bool r1ug.f2] (fun a1xy W1y0 h1xz hS1y1 => ?_)
      refine ⟨.inr ⟨(hS1y1.b4.cells (vs := [.string (mkS r1ug.f0), .string (mkS r1ug.f1), .bool r1ug.f2]) rfl), (hS1y1.b1.cells (vs := [.slice A1vr r1vg.f0.length c1vs, i6 r1vg.f1, i6 p0.f1]) rfl), trivial⟩, ?_⟩
      refine WT.tk 5 h1xz rfl rfl (i6 r1uh) (fun _ _ => by kernel_rfl) ⟨(hS1y1.b4.cells (vs := [.string (mkS r1ug.f0), .string (mkS r1ug.f1), .bool r1ug.f2]) rfl), (hS1y1.b1.cells (vs := [.slice A1vr r1vg.f0.length c1vs, i6 r1vg.f1, i6 p0.f1]) rfl), trivial⟩ (fun a1y2 s1y4 h1y3 => ?_)
      clear h1v4 a1v3 h1v7 a1v6 h1va a1v9 h1vd a1vc h1vl a1vk h1vu a1vt h1vx a1vw h1xm a1xl h1xp a1xo h1xs a1xr h1xv a1xu h1xz a1xy
      have hS1y5 := hS1y1.b5
      refine WT.o1 6 h1y3 rfl ?_
      refine owp_st 0 [.slice A1vr r1vg.f0.length c1vs, i6 r1vg.f1, i6 p0.f1] h1y3 rfl rfl rfl hS1y5 [.slice A1vr r1vg.f0.length c1vs, i6 r1vg.f1, i6 p0.f1] (fun a1y6 W1y8 h1y7 hS1y9 => ?_)
      refine ⟨.inr ⟨(hS1y9.b5.cells (vs := [.string (mkS r1ug.f0), .string (mkS r1ug.f1), .bool r1ug.f2]) rfl), (hS1y9.b2.cells (vs := [.slice A1vr r1vg.f0.length c1vs, i6 r1vg.f1, i6 p0.f1]) rfl), trivial⟩, ?_⟩
      refine WT.tk 7 h1y7 rfl rfl (.bool true) (fun _ _ => by kernel_rfl) ⟨(hS1y9.b5.cells (vs := [.string (mkS r1ug.f0), .string (mkS r1ug.f1), .bool r1ug.f2]) rfl), (hS1y9.b2.cells (vs := [.slice A1vr r1vg.f0.length c1vs, i6 r1vg.f1, i6 p0.f1]) rfl), trivial⟩ (fun a1ya s1yc h1yb => ?_)
      refine WT.dn ?_
      refine wp_ret ?_
      have hS1yd := hS1y9.drop_
      have hS1ye := hS1yd.drop_
      have hS1yf := hS1ye.drop_
      have hS1yg := hS1yf.b2
      have hS1yh := hS1yg.drop_
      have hS1yi := hS1yh.b1
      obtain ⟨rfl, rfl, rfl, rfl⟩ := ret4 H
      repeat (first | with_reducible refine t1 ?_ | with_reducible refine t2 ?_ | with_reducible refine t3 ?_)
      refine body_ret (v := .tuple #[.agg #[.string (mkS r1ug.f0), .string (mkS r1ug.f1), .bool r1ug.f2], i6 r1uh, .agg #[.slice A1vr r1vg.f0.length c1vs, i6 r1vg.f1, i6 p0.f1], .bool true]) h1yb (by kernel_rfl) (res_many (xs := [ResultVar.cell 6 52, ResultVar.tmp 7, ResultVar.cell 8 45, ResultVar.tmp 9]) rfl ⟨⟨_, rfl, loadVarN Tryd.underlying52 rfl (cs := [.string (mkS r1ug.f0), .string (mkS r1ug.f1), .bool r1ug.f2]) (by kernel_rfl) ((hS1y9.bring 1 rfl rfl).cells (vs := [.string (mkS r1ug.f0), .string (mkS r1ug.f1), .bool r1ug.f2]) rfl)⟩, rfl, ⟨_, rfl, loadVarN Tryd.underlying45 rfl (cs := [.slice A1vr r1vg.f0.length c1vs, i6 r1vg.f1, i6 p0.f1]) (by kernel_rfl) (hS1y9.cells (vs := [.slice A1vr r1vg.f0.length c1vs, i6 r1vg.f1, i6 p0.f1]) rfl)⟩, rfl, trivial⟩ rfl) ?_
      exact ⟨.slice A1vr r1vg.f0.length c1vs, rfl, .inr ⟨M1vn, hr1vo, hS1yi⟩⟩
     ·rw [if_neg c1v5] at H
      have hb_ : r1ui = false := (Bool.eq_false_iff.2 c1v5)
      try rw [hb_] at h1v4
      clear hb_
      refine wp_else h1v4 rfl ?_
      refine wp_skip ?_
      refine wp_seq ?_
      refine WT.start 8 (fun w_ => (∀ j_ u_, ([.string (mkS r1ug.f0), .string (mkS r1ug.f1), .bool r1ug.f2] : List Value)[j_]? = some u_ → w_.cell? ((⟨g1uv, 0, none⟩ : Addr).add j_) = some u_) ∧ (∀ j_ u_, ([.slice A0q0 p0.f0.f0.length c0q0, i6 p0.f0.f1, i6 p0.f1] : List Value)[j_]? = some u_ → w_.cell? ((⟨g1ko, 0, none⟩ : Addr).add j_) = some u_) ∧ True) (by kernel_rfl) #[false, false, false, false, false, false, false, false] 8 rfl rfl ?_
      have hS203 := hS1v0.drew
      refine WT.tk 1 h1v4 rfl rfl (i6 r1uh) (fun _ _ => by kernel_rfl) ⟨(hS203.cells (vs := [.string (mkS r1ug.f0), .string (mkS r1ug.f1), .bool r1ug.f2]) rfl), (hS203.b2.cells (vs := [.slice A0q0 p0.f0.f0.length c0q0, i6 p0.f0.f1, i6 p0.f1]) rfl), trivial⟩ (fun a204 s206 h205 => ?_)
      refine WT.tk 3 h205 rfl rfl (.bool false) (fun _ _ => by kernel_rfl) s206 (fun a207 s209 h208 => ?_)
      refine WT.tk 0 h208 rfl rfl (.agg #[.string (mkS r1ug.f0), .string (mkS r1ug.f1), .bool r1ug.f2]) (fun w_ hs_ => (run_loadN rfl rfl Tryd.underlying52 rfl (cs := [.string (mkS r1ug.f0), .string (mkS r1ug.f1), .bool r1ug.f2]) (by kernel_rfl) hs_.1)) s209 (fun a20a s20c h20b => ?_)
      refine WT.tk 2 h20b rfl rfl (.agg #[.slice A0q0 p0.f0.f0.length c0q0, i6 p0.f0.f1, i6 p0.f1]) (fun w_ hs_ => (run_loadN rfl rfl Tryd.underlying45 rfl (cs := [.slice A0q0 p0.f0.f0.length c0q0, i6 p0.f0.f1, i6 p0.f1]) (by kernel_rfl) hs_.2.1)) s20c (fun a20d s20f h20e => ?_)
      have hS20g := hS203.b4
      refine WT.o1 4 h20e rfl ?_
      refine owp_st 0 [.string (mkS r1ug.f0), .string (mkS r1ug.f1), .bool r1ug.f2] h20e rfl rfl rfl hS20g [.string (mkS r1ug.f0), .string (mkS r1ug.f1), .bool r1ug.f2] (fun a20h W20j h20i hS20k => ?_)
      refine ⟨.inr ⟨(hS20k.b1.cells (vs := [.string (mkS r1ug.f0), .string (mkS r1ug.f1), .bool r1ug.f2]) rfl), (hS20k.b3.cells (vs := [.slice A0q0 p0.f0.f0.length c0q0, i6 p0.f0.f1, i6 p0.f1]) rfl), trivial⟩, ?_⟩
      refine WT.tk 5 h20i rfl rfl (i6 r1uh) (fun _ _ => by kernel_rfl) ⟨(hS20k.b1.cells (vs := [.string (mkS r1ug.f0), .string (mkS r1ug.f1), .bool r1ug.f2]) rfl), (hS20k.b3.cells (vs := [.slice A0q0 p0.f0.f0.length c0q0, i6 p0.f0.f1, i6 p0.f1]) rfl), trivial⟩ (fun a20l s20n h20m => ?_)
      have hS20o := hS20k.b4
      refine WT.o1 6 h20m rfl ?_
      refine owp_st 0 [.slice A0q0 p0.f0.f0.length c0q0, i6 p0.f0.f1, i6 p0.f1] h20m rfl rfl rfl hS20o [.slice A0q0 p0.f0.f0.length c0q0, i6 p0.f0.f1, i6 p0.f1] (fun a20p W20r h20q hS20s => ?_)
      refine ⟨.inr ⟨(hS20s.b2.cells (vs := [.string (mkS r1ug.f0), .string (mkS r1ug.f1), .bool r1ug.f2]) rfl), (hS20s.b4.cells (vs := [.slice A0q0 p0.f0.f0.length c0q0, i6 p0.f0.f1, i6 p0.f1]) rfl), trivial⟩, ?_⟩
      refine WT.tk 7 h20q rfl rfl (.bool false) (fun _ _ => by kernel_rfl) ⟨(hS20s.b2.cells (vs := [.string (mkS r1ug.f0), .string (mkS r1ug.f1), .bool r1ug.f2]) rfl), (hS20s.b4.cells (vs := [.slice A0q0 p0.f0.f0.length c0q0, i6 p0.f0.f1, i6 p0.f1]) rfl), trivial⟩ (fun a20t s20v h20u => ?_)
      refine WT.dn ?_
      refine wp_ret ?_
      have hS20w := hS20s.drop_
      have hS20x := hS20w.drop_
      have hS20y := hS20x.drop_
      have hS20z := hS20y.b1
      have hS210 := hS20z.drop_
      obtain ⟨rfl, rfl, rfl, rfl⟩ := ret4 H
      repeat (first | with_reducible refine t1 ?_ | with_reducible refine t2 ?_ | with_reducible refine t3 ?_)
      refine body_ret (v := .tuple #[.agg #[.string (mkS r1ug.f0), .string (mkS r1ug.f1), .bool r1ug.f2], i6 r1uh, .agg #[.slice A0q0 p0.f0.f0.length c0q0, i6 p0.f0.f1, i6 p0.f1], .bool false]) h20u (by kernel_rfl) (res_many (xs := [ResultVar.cell 6 52, ResultVar.tmp 7, ResultVar.cell 8 45, ResultVar.tmp 9]) rfl ⟨⟨_, rfl, loadVarN Tryd.underlying52 rfl (cs := [.string (mkS r1ug.f0), .string (mkS r1ug.f1), .bool r1ug.f2]) (by kernel_rfl) ((hS20s.bring 1 rfl rfl).cells (vs := [.string (mkS r1ug.f0), .string (mkS r1ug.f1), .bool r1ug.f2]) rfl)⟩, rfl, ⟨_, rfl, loadVarN Tryd.underlying45 rfl (cs := [.slice A0q0 p0.f0.f0.length c0q0, i6 p0.f0.f1, i6 p0.f1]) (by kernel_rfl) (hS20s.cells (vs := [.slice A0q0 p0.f0.f0.length c0q0, i6 p0.f0.f1, i6 p0.f1]) rfl)⟩, rfl, trivial⟩ rfl) ?_
      exact ⟨.slice A0q0 p0.f0.f0.length c0q0, rfl, .inl ⟨rfl, rfl, hS210⟩⟩
    ·rw [if_neg c1u8] at H
     have hb_ : (decide (r1lm = 1)) = false := decide_eq_false c1u8
     try rw [hb_] at h1u7
     clear hb_
     refine wp_else h1u7 rfl ?_
     refine wp_skip ?_
     refine wp_seq ?_
     refine WL.start ?_
     have hS211 := hS1ls.b2
     refine WL.oq h1u7 rfl ?_
     refine owp_rn (.agg #[.slice A0q0 p0.f0.f0.length c0q0, i6 p0.f0.f1, i6 p0.f1]) h1u7 rfl (run_loadN rfl rfl Tryd.underlying45 rfl (cs := [.slice A0q0 p0.f0.f0.length c0q0, i6 p0.f0.f1, i6 p0.f1]) (by kernel_rfl) (hS211.cells (vs := [.slice A0q0 p0.f0.f0.length c0q0, i6 p0.f0.f1, i6 p0.f1]) rfl)) (fun a212 h213 => ?_)
     refine WL.bl 2 3 h213 [(77, i6 p2), (76, .slice A1 p1.length c1)] (fun a214 h215 => ?_)
     have hS216 := hS211.b3
     obtain ⟨r218, r219, r21a, A217, H⟩ := bind3 H
     refine WL.oq h215 rfl ?_
     refine owp_call [.agg #[.slice A0q0 p0.f0.f0.length c0q0, i6 p0.f0.f1, i6 p0.f1], .slice A1 p1.length c1, i6 p2, i6 4] h215 rfl (by kernel_rfl) rfl Tryd.func47 (by kernel_rfl) rfl (by kernel_rfl) (louverref06qD_literal.calls (p0 := (⟨(⟨p0.f0.f0, p0.f0.f1⟩ : S43), p0.f1⟩ : S45)) k hp0q0.rds (hp1.mono (fun _ hp_ => List.mem_append_right _ hp_)) A217 (hS216.pool)) (fun e21c W21b hp21d => ?_)
     obtain ⟨rfl, hS21g⟩ := hp21d
     have hS21h : St b w0 W21b R (M0q0 :: (bx g1ko 45 [.slice A0q0 p0.f0.f0.length c0q0, i6 p0.f0.f1, i6 p0.f1]) :: (bx g1l0 45 [.slice none 0 0, i6 0, i6 0]) :: (bx g1kt 52 [.string (mkS []), .string (mkS []), .bool false]) :: Fs) := hS21g.unpool
     refine ⟨_, rfl, fun a21e h21f => ?_⟩
     refine WL.bl 4 8 h21f [(81, .bool r21a), (80, i6 r219), (79, .agg #[.string (mkS r218.f0), .string (mkS r218.f1), .bool r218.f2]), (74, .tuple #[.agg #[.string (mkS r218.f0), .string (mkS r218.f1), .bool r218.f2], i6 r219, .bool r21a])] (fun a21i h21j => ?_)
     refine WL.oq h21j rfl ?_
     refine owp_nw (fun g_ => (pt g_)) (.cells ([.string (mkS []), .string (mkS []), .bool false] : List Value).toArray 52 (0, 0)) h21j rfl hS21h (fun a21k W21m g21n h21l hS21o => ?_)
     refine WL.oq h21l rfl ?_
     refine owp_st 0 [.string (mkS r218.f0), .string (mkS r218.f1), .bool r218.f2] h21l rfl rfl rfl hS21o [.string (mkS r218.f0), .string (mkS r218.f1), .bool r218.f2] (fun a21p W21r h21q hS21s => ?_)
     refine WL.bl 2 12 h21q [(20, .bool r21a), (19, i6 r219)] (fun a21t h21u => ?_)
     refine WL.dn ?_
     refine wp_seq ?_
     refine WL.start ?_
     refine WL.bl 2 2 h21u [(83, i6 p2), (82, .slice A1 p1.length c1)] (fun a21v h21w => ?_)
     have hi21z : 0 ≤ p2 := by first | assumption | omega
     have hi220 : p2 < (p1.length : Int) := by first | assumption | omega
     obtain ⟨ad21x, _, ha21y, -, -⟩ := Rds.elemAny hp1 hi21z (gt_get (z := (0 : Int)) hi21z hi220)
     refine WL.oq h21w rfl ?_
     refine owp_rn (.pointer (some (ad21x.add (p2.toNat * 1)))) h21w rfl (run_idx (ad := ad21x) (sz := 1) rfl (by rw [← ha21y]; rfl) rfl Tryd.underlying22 (by kernel_rfl) hi21z hi220) (fun a221 h222 => ?_)
     obtain ⟨ad223, cs224, ha225, hr227, hc226⟩ := Rds.elemAny hp1 hi21z (gt_get (z := (0 : Int)) hi21z hi220)
     rw [ha21y] at ha225; obtain rfl := Option.some.inj ha225
     obtain rfl : cs224 = [.int .u8 (gt (0 : Int) p1 p2)] := hr227
     refine WL.oq h222 rfl ?_
     refine owp_rn (.int .u8 (gt (0 : Int) p1 p2)) h222 rfl (run_load1 rfl rfl Tryd.underlying5 rfl (cell0 (hc226 _ (fun _ _ hk_ => hS21s.kn hk_)))) (fun a228 h229 => ?_)
     obtain ⟨r22b, A22a, H⟩ := bind1 H
     refine WL.oq h229 rfl ?_
     refine owp_call [.int .u8 (gt (0 : Int) p1 p2)] h229 rfl (by kernel_rfl) rfl Tryd.func31 (by kernel_rfl) rfl (by kernel_rfl) (louverref06qkind.calls  A22a hS21s) (fun e22d W22c hp22e => ?_)
     obtain ⟨rfl, hS22h⟩ := hp22e
     refine ⟨_, rfl, fun a22f h22g => ?_⟩
     refine WL.bl 2 7 h22g [(88, .pointer (some ⟨g21n, 2, none⟩)), (87, .bool (decide (r22b = 3)))] (fun a22i h22j => ?_)
     clear h1u7 a1u6 h213 a212 h215 a214 h21f a21e h21j a21i h21l a21k h21q a21p h21u a21t h21w a21v h222 a221 h229 a228 h22g a22f
     refine WL.oq h22j rfl ?_
     refine owp_st 2 [.bool (decide (r22b = 3))] h22j rfl rfl rfl hS22h [.string (mkS r218.f0), .string (mkS r218.f1), .bool (decide (r22b = 3))] (fun a22k W22m h22l hS22n => ?_)
     refine WL.dn ?_
     refine wp_seq ?_
     refine WT.start 8 (fun w_ => (∀ j_ u_, ([.string (mkS r218.f0), .string (mkS r218.f1), .bool (decide (r22b = 3))] : List Value)[j_]? = some u_ → w_.cell? ((⟨g21n, 0, none⟩ : Addr).add j_) = some u_) ∧ (∀ j_ u_, ([.slice A0q0 p0.f0.f0.length c0q0, i6 p0.f0.f1, i6 p0.f1] : List Value)[j_]? = some u_ → w_.cell? ((⟨g1ko, 0, none⟩ : Addr).add j_) = some u_) ∧ True) (by kernel_rfl) #[false, false, false, false, false, false, false, false] 8 rfl rfl ?_
     have hS248 := hS22n.drew
     refine WT.tk 1 h22l rfl rfl (i6 r219) (fun _ _ => by kernel_rfl) ⟨(hS248.cells (vs := [.string (mkS r218.f0), .string (mkS r218.f1), .bool (decide (r22b = 3))]) rfl), (hS248.b2.cells (vs := [.slice A0q0 p0.f0.f0.length c0q0, i6 p0.f0.f1, i6 p0.f1]) rfl), trivial⟩ (fun a249 s24b h24a => ?_)
     refine WT.tk 3 h24a rfl rfl (.bool r21a) (fun _ _ => by kernel_rfl) s24b (fun a24c s24e h24d => ?_)
     refine WT.tk 0 h24d rfl rfl (.agg #[.string (mkS r218.f0), .string (mkS r218.f1), .bool (decide (r22b = 3))]) (fun w_ hs_ => (run_loadN rfl rfl Tryd.underlying52 rfl (cs := [.string (mkS r218.f0), .string (mkS r218.f1), .bool (decide (r22b = 3))]) (by kernel_rfl) hs_.1)) s24e (fun a24f s24h h24g => ?_)
     refine WT.tk 2 h24g rfl rfl (.agg #[.slice A0q0 p0.f0.f0.length c0q0, i6 p0.f0.f1, i6 p0.f1]) (fun w_ hs_ => (run_loadN rfl rfl Tryd.underlying45 rfl (cs := [.slice A0q0 p0.f0.f0.length c0q0, i6 p0.f0.f1, i6 p0.f1]) (by kernel_rfl) hs_.2.1)) s24h (fun a24i s24k h24j => ?_)
     have hS24l := hS248.b4
     refine WT.o1 4 h24j rfl ?_
     refine owp_st 0 [.string (mkS r218.f0), .string (mkS r218.f1), .bool (decide (r22b = 3))] h24j rfl rfl rfl hS24l [.string (mkS r218.f0), .string (mkS r218.f1), .bool (decide (r22b = 3))] (fun a24m W24o h24n hS24p => ?_)
     refine ⟨.inr ⟨(hS24p.b1.cells (vs := [.string (mkS r218.f0), .string (mkS r218.f1), .bool (decide (r22b = 3))]) rfl), (hS24p.b3.cells (vs := [.slice A0q0 p0.f0.f0.length c0q0, i6 p0.f0.f1, i6 p0.f1]) rfl), trivial⟩, ?_⟩
     refine WT.tk 5 h24n rfl rfl (i6 r219) (fun _ _ => by kernel_rfl) ⟨(hS24p.b1.cells (vs := [.string (mkS r218.f0), .string (mkS r218.f1), .bool (decide (r22b = 3))]) rfl), (hS24p.b3.cells (vs := [.slice A0q0 p0.f0.f0.length c0q0, i6 p0.f0.f1, i6 p0.f1]) rfl), trivial⟩ (fun a24q s24s h24r => ?_)
     have hS24t := hS24p.b4
     refine WT.o1 6 h24r rfl ?_
     refine owp_st 0 [.slice A0q0 p0.f0.f0.length c0q0, i6 p0.f0.f1, i6 p0.f1] h24r rfl rfl rfl hS24t [.slice A0q0 p0.f0.f0.length c0q0, i6 p0.f0.f1, i6 p0.f1] (fun a24u W24w h24v hS24x => ?_)
     refine ⟨.inr ⟨(hS24x.b2.cells (vs := [.string (mkS r218.f0), .string (mkS r218.f1), .bool (decide (r22b = 3))]) rfl), (hS24x.b4.cells (vs := [.slice A0q0 p0.f0.f0.length c0q0, i6 p0.f0.f1, i6 p0.f1]) rfl), trivial⟩, ?_⟩
     refine WT.tk 7 h24v rfl rfl (.bool r21a) (fun _ _ => by kernel_rfl) ⟨(hS24x.b2.cells (vs := [.string (mkS r218.f0), .string (mkS r218.f1), .bool (decide (r22b = 3))]) rfl), (hS24x.b4.cells (vs := [.slice A0q0 p0.f0.f0.length c0q0, i6 p0.f0.f1, i6 p0.f1]) rfl), trivial⟩ (fun a24y s250 h24z => ?_)
     refine WT.dn ?_
     refine wp_ret ?_
     have hS251 := hS24x.drop_
     have hS252 := hS251.drop_
     have hS253 := hS252.drop_
     have hS254 := hS253.b1
     have hS255 := hS254.drop_
     obtain ⟨rfl, rfl, rfl, rfl⟩ := ret4 H
     repeat (first | with_reducible refine t1 ?_ | with_reducible refine t2 ?_ | with_reducible refine t3 ?_)
     refine body_ret (v := .tuple #[.agg #[.string (mkS r218.f0), .string (mkS r218.f1), .bool (decide (r22b = 3))], i6 r219, .agg #[.slice A0q0 p0.f0.f0.length c0q0, i6 p0.f0.f1, i6 p0.f1], .bool r21a]) h24z (by kernel_rfl) (res_many (xs := [ResultVar.cell 6 52, ResultVar.tmp 7, ResultVar.cell 8 45, ResultVar.tmp 9]) rfl ⟨⟨_, rfl, loadVarN Tryd.underlying52 rfl (cs := [.string (mkS r218.f0), .string (mkS r218.f1), .bool (decide (r22b = 3))]) (by kernel_rfl) ((hS24x.bring 1 rfl rfl).cells (vs := [.string (mkS r218.f0), .string (mkS r218.f1), .bool (decide (r22b = 3))]) rfl)⟩, rfl, ⟨_, rfl, loadVarN Tryd.underlying45 rfl (cs := [.slice A0q0 p0.f0.f0.length c0q0, i6 p0.f0.f1, i6 p0.f1]) (by kernel_rfl) (hS24x.cells (vs := [.slice A0q0 p0.f0.f0.length c0q0, i6 p0.f0.f1, i6 p0.f1]) rfl)⟩, rfl, trivial⟩ rfl) ?_
     exact ⟨.slice A0q0 p0.f0.f0.length c0q0, rfl, .inl ⟨rfl, rfl, hS255⟩⟩
  ·rw [if_neg c1l7] at H
   cases H
 ·rw [if_neg c1l6] at H
  cases H

theorem k45qop {b : Nat} {w0 W : World} {R : Frag} {Ms : List Frag} {v : Value} {M : Frag} {y0 : (List S52)} {y1 : Int} {y2 : Int} (h : Ptr k45 45 b w0 R v (⟨(⟨y0, y1⟩ : S43), y2⟩ : S45) M) (hS : St b w0 W R (M :: Ms)) : ∃ (g : Nat) (A0 : Option Addr) (c0 : Nat) (M0 : Frag), v = (pt g) ∧ Row k52 52 b w0 R (.slice A0 y0.length c0) y0 M0 ∧ St b w0 W R ((bx g 45 [.slice A0 y0.length c0, i6 y1, i6 y2]) :: M0 :: Ms) := by
 obtain ⟨g, cs, Mx, rfl, rfl, hr⟩ := h
 obtain ⟨v0, M0, rfl, hM2q, h0⟩ := k45qrep hr
 rw [hM2q] at hS
 obtain ⟨A0, c0, rfl⟩ := h0.form
 exact ⟨g, A0, c0, M0, rfl, h0, hS.assoc (by simp only [List.flatten_cons, List.append_assoc, List.cons_append, List.nil_append, List.append_nil])⟩
theorem k45qoq {b : Nat} {w0 W : World} {R : Frag} {Ms : List Frag} {g : Nat} {M : Frag} {y0 : (List S52)} {y1 : Int} {y2 : Int} (h : Ptr k45 45 b w0 R (pt g) (⟨(⟨y0, y1⟩ : S43), y2⟩ : S45) M) (hS : St b w0 W R (M :: Ms)) : ∃ (A0 : Option Addr) (c0 : Nat) (M0 : Frag), Row k52 52 b w0 R (.slice A0 y0.length c0) y0 M0 ∧ St b w0 W R ((bx g 45 [.slice A0 y0.length c0, i6 y1, i6 y2]) :: M0 :: Ms) := by
 obtain ⟨g', A0, c0, M0, hv, h0, hS'⟩ := k45qop h hS
 obtain rfl : g = g' := by simpa using hv
 exact ⟨A0, c0, M0, h0, hS'⟩
theorem k45qfo {b : Nat} {w0 W : World} {R : Frag} {Ms : List Frag} {g : Nat} {y0 : (List S52)} {y1 : Int} {y2 : Int} {A0 : Option Addr} {c0 : Nat} {M0 : Frag} (x : S45) (h0 : Row k52 52 b w0 R (.slice A0 y0.length c0) y0 M0) (hS : St b w0 W R ((bx g 45 [.slice A0 y0.length c0, i6 y1, i6 y2]) :: M0 :: Ms)) (hx : x = (⟨(⟨y0, y1⟩ : S43), y2⟩ : S45) := by rfl) : ∃ M, Ptr k45 45 b w0 R (pt g) x M ∧ St b w0 W R (M :: Ms) := by
 subst hx
 obtain ⟨M, hr, hM⟩ := k45qmk (b := b) (w0 := w0) (R := R) (x := (⟨(⟨y0, y1⟩ : S43), y2⟩ : S45)) (gvf0f0 := h0)
 exact ⟨_, ⟨g, _, M, rfl, rfl, hr⟩, hS.assoc (by rw [hM]; simp only [List.flatten_cons, List.append_assoc, List.cons_append, List.nil_append, List.append_nil])⟩
/-! ### (louver/louverref06.D).Get -/
def louverref06qD_Get.l0 : Nat → S45 → S45 → (List S52) → Int → Int → (List Int) → Option ((List S52) × S45 × Int)
 | 0, _, _, _, _, _, _ => none
 | k + 1, x3cp, x3cs, x3cv, x3d0, x3d1, p1 => if x3d0 < (p1.length : Int) then (if 0 ≤ x3d0 then (bnd1 (louverref06qkind.f (gt (0 : Int) p1 x3d0)) fun r3e1 => (if r3e1 = 2 then (if x3d0 ≤ (p1.length : Int) then (bnd3 (louverref02qGet.f k (p1.drop x3d0.toNat) 5) fun r3em r3en r3eo => (if r3eo = 0 then (if (x3cv.length : Int) > 0 then (some (([] : List S52), (⟨(⟨x3cp.f0.f0, x3cp.f0.f1⟩ : S43), x3cp.f1⟩ : S45), 9)) else (if (IntKind.i64.wrap r3em) > x3cp.f1 then (some (([] : List S52), (⟨(⟨x3cp.f0.f0, x3cp.f0.f1⟩ : S43), x3cp.f1⟩ : S45), 9)) else (bnd1 (louverref05qT_Limit.f k (⟨x3cp.f0.f0, x3cp.f0.f1⟩ : S43) (IntKind.i64.wrap r3em)) fun r3ki => (louverref06qD_Get.l0 k (⟨(⟨r3ki.f0, r3ki.f1⟩ : S43), x3cp.f1⟩ : S45) x3cs x3cv (IntKind.i64.wrap (x3d0 + r3en)) x3d1 p1)))) else (some (([] : List S52), (⟨(⟨x3cp.f0.f0, x3cp.f0.f1⟩ : S43), x3cp.f1⟩ : S45), 9)))) else (none)) else (bnd4 (louverref06qD_field.f k (⟨(⟨x3cp.f0.f0, x3cp.f0.f1⟩ : S43), x3cp.f1⟩ : S45) p1 x3d0) fun r3oc r3od r3oe r3of => (if r3of = true then (if x3cv.length + 1 ≤ 3518437208883 then (lt1 (x3cv ++ ([(⟨r3oc.f0, r3oc.f1, r3oc.f2⟩ : S52)] : List S52) : List S52) fun y3qj => (bnd1 (louverref05qSize.f (⟨r3oc.f0, r3oc.f1, r3oc.f2⟩ : S52)) fun r3qw => (louverref06qD_Get.l0 k (⟨(⟨r3oe.f0.f0, r3oe.f0.f1⟩ : S43), r3oe.f1⟩ : S45) x3cs y3qj r3od (IntKind.i64.wrap (x3d1 + r3qw)) p1))) else (none)) else (some (([] : List S52), (⟨(⟨x3cp.f0.f0, x3cp.f0.f1⟩ : S43), x3cp.f1⟩ : S45), 9)))))) else (none)) else (if x3d1 > 4096 then (some (([] : List S52), (⟨(⟨x3cp.f0.f0, x3cp.f0.f1⟩ : S43), x3cp.f1⟩ : S45), 11)) else (some (x3cv, (⟨(⟨x3cp.f0.f0, x3cp.f0.f1⟩ : S43), x3cp.f1⟩ : S45), 0)))
def louverref06qD_Get.f (k : Nat) (p0 : S45) (p1 : (List Int)) : Option ((List S52) × S45 × Int) := louverref06qD_Get.l0 k (⟨(⟨p0.f0.f0, p0.f0.f1⟩ : S43), p0.f1⟩ : S45) (⟨(⟨([] : List S52), 0⟩ : S43), 0⟩ : S45) ([] : List S52) 0 0 p1
set_option maxHeartbeats 20000000 in
set_option maxRecDepth 100000 in
theorem louverref06qD_Get.calls (k : Nat) {b : Nat} {w0 W : World} {R : Frag} {Fs : List Frag} {p0 : S45} {p1 : (List Int)} {v0q0 : Value} {v1 : Value} {M0q0 : Frag} {r0q : (List S52)} {r1q : S45} {r2q : Int} (hp0q0 : Row k52 52 b w0 R v0q0 p0.f0.f0 M0q0) (hp1 : Rds (kInt .u8) b w0 R v1 p1) (H : louverref06qD_Get.f k p0 p1 = some (r0q, r1q, r2q)) (hS : St b w0 W R (M0q0 :: Fs)) :
  Calls Tryd.prog 20 ([.agg #[v0q0, i6 p0.f0.f1, i6 p0.f1], v1] : List Value).toArray W (fun e W' => ∃ (u0q : Value) (N0q : Frag) (u1qv1qf0f0 : Value) (Nu1qv1qf0f0 : Frag), e = .returned (.tuple #[u0q, .agg #[u1qv1qf0f0, i6 r1q.f0.f1, i6 r1q.f1], i6 r2q]) ∧ Row k52 52 b w0 R u0q r0q N0q ∧ Row k52 52 b w0 R u1qv1qf0f0 r1q.f0.f0 Nu1qv1qf0f0 ∧ St b w0 W' R (N0q :: Nu1qv1qf0f0 :: Fs)) := by
 obtain ⟨A0q0, c0q0, rfl⟩ := hp0q0.form
 obtain ⟨A1, c1, rfl⟩ := hp1.form
 unfold louverref06qD_Get.f at H
 refine calls_enter Tryd.func20 rfl 92 rfl (by kernel_rfl) (fun a h => ?_)
 refine wp_seq ?_
 refine WL.start ?_
 refine WL.oq h rfl ?_
 refine owp_nw (fun g_ => (pt g_)) (.cells ([.slice A0q0 p0.f0.f0.length c0q0, i6 p0.f0.f1, i6 p0.f1] : List Value).toArray 45 (0, 0)) h rfl hS (fun a3bm W3bo g3bp h3bn hS3bq => ?_)
 refine WL.bl 1 2 h3bn [(4, .slice none 0 0)] (fun a3br h3bs => ?_)
 refine WL.oq h3bs rfl ?_
 refine owp_nw (fun g_ => (pt g_)) (.cells ([.slice none 0 0, i6 0, i6 0] : List Value).toArray 45 (0, 0)) h3bs rfl hS3bq (fun a3bt W3bv g3bw h3bu hS3bx => ?_)
 refine WL.bl 1 4 h3bu [(6, i6 0)] (fun a3by h3bz => ?_)
 refine WL.dn ?_
 refine wp_seq ?_
 refine WL.start ?_
 refine WL.oq h3bz rfl ?_
 refine owp_nw (fun g_ => .slice (some ⟨g_, 0, none⟩) 0 0) (.cells ([] : List Value).toArray 52 (0, 0)) h3bz rfl hS3bx (fun a3c0 W3c2 g3c3 h3c1 hS3c4 => ?_)
 have hr3c5 : Row k52 52 b w0 R (.slice (some ⟨g3c3, 0, none⟩) 0 0) ([] : List S52) (bx g3c3 52 []) := Row.lit (xs := ([] : List S52)) (Mi := []) ⟨rfl, rfl⟩ (by simp [maxLen])
 refine WL.bl 1 2 h3c1 [(7, .slice (some ⟨g3c3, 0, none⟩) 0 0)] (fun a3c6 h3c7 => ?_)
 refine WL.dn ?_
 refine wp_seq ?_
 refine WL.start ?_
 refine WL.oq h3c7 rfl ?_
 refine owp_nw (fun g_ => .slice (some ⟨g_, 0, none⟩) 0 0) (.cells ([] : List Value).toArray 52 (0, 0)) h3c7 rfl hS3c4 (fun a3c8 W3ca g3cb h3c9 hS3cc => ?_)
 have hr3cd : Row k52 52 b w0 R (.slice (some ⟨g3cb, 0, none⟩) 0 0) ([] : List S52) (bx g3cb 52 []) := Row.lit (xs := ([] : List S52)) (Mi := []) ⟨rfl, rfl⟩ (by simp [maxLen])
 refine WL.bl 1 2 h3c9 [(8, .slice (some ⟨g3cb, 0, none⟩) 0 0)] (fun a3ce h3cf => ?_)
 refine WL.dn ?_
 refine wp_seq ?_
 refine WL.start ?_
 refine WL.bl 1 1 h3cf [(9, i6 0)] (fun a3cg h3ch => ?_)
 refine WL.dn ?_
 refine wp_seq ?_
 refine WL.start ?_
 refine WL.bl 1 1 h3ch [(10, i6 0)] (fun a3ci h3cj => ?_)
 refine WL.dn ?_
 refine wp_seq ?_
 refine wp_block ?_
 have hS3d2 := hS3cc.b4
 have hS3d3 := hS3d2.b4
 obtain ⟨M3d4, hp3d5, hS3d6⟩ := k45qfo (⟨(⟨p0.f0.f0, p0.f0.f1⟩ : S43), p0.f1⟩ : S45) hp0q0 hS3d3
 have hS3d7 := hS3d6.nil_
 have hS3d8 := hS3d7.b4
 obtain ⟨M3d9, hp3da, hS3db⟩ := k45qfo (⟨(⟨([] : List S52), 0⟩ : S43), 0⟩ : S45) (y0 := []) Row.nil hS3d8
 have hS3dc := hS3db.b2
 have hS3dd := hS3dc.b3
 have hS3de := hS3dd.b2
 have hS3df := hS3de.b3
 clear h3bn a3bm h3bs a3br h3bu a3bt h3bz a3by h3c1 a3c0 h3c7 a3c6 h3c9 a3c8 h3cf a3ce h3ch a3cg
 refine wp_loop_ghost (fun kq_ a_ W_ => ∃ (x3cp : S45), ∃ (M3cq : Frag), ∃ (x3cs : S45), ∃ (M3ct : Frag), ∃ (x3cv : (List S52)), ∃ (A3cw : Option Addr), ∃ (c3cx : Nat), ∃ (M3cy : Frag), ∃ (x3d0 : Int), ∃ (x3d1 : Int), Hd a_ 92 [(1, .slice A1 p1.length c1), (2, pt g3bp), (5, pt g3bw), (7, .slice (some ⟨g3c3, 0, none⟩) 0 0), (8, .slice A3cw x3cv.length c3cx), (9, i6 x3d0), (10, i6 x3d1)] ∧ Asd (louverref06qD_Get.l0 kq_ x3cp x3cs x3cv x3d0 x3d1 p1 = some (r0q, r1q, r2q)) ∧ Asd (kq_ ≤ k) ∧ Asd (St b w0 W_ R (M3cq :: M3ct :: (bx g3c3 52 []) :: M3cy :: Fs)) ∧ Asd (Ptr k45 45 b w0 R (pt g3bp) x3cp M3cq) ∧ Asd (Ptr k45 45 b w0 R (pt g3bw) x3cs M3ct) ∧ Asd (Row k52 52 b w0 R (.slice A3cw x3cv.length c3cx) x3cv M3cy)) k ⟨(⟨(⟨p0.f0.f0, p0.f0.f1⟩ : S43), p0.f1⟩ : S45), M3d4, (⟨(⟨([] : List S52), 0⟩ : S43), 0⟩ : S45), M3d9, ([] : List S52), (some ⟨g3cb, 0, none⟩), 0, (bx g3cb 52 []), 0, 0, h3cj.keep ⟨rfl, rfl, rfl, rfl, rfl, rfl, rfl, trivial⟩, ⟨H⟩, ⟨Nat.le_refl _⟩, ⟨hS3df⟩, ⟨hp3d5⟩, ⟨hp3da⟩, ⟨hr3cd⟩⟩ ?_
 clear H hS3df
 rintro kk3co a3cl W3cm ⟨x3cp, M3cq, x3cs, M3ct, x3cv, A3cw, c3cx, M3cy, x3d0, x3d1, h3ck, ⟨H⟩, ⟨hkkk3co⟩, ⟨hS3cn⟩, ⟨hr3cr⟩, ⟨hr3cu⟩, ⟨hr3cz⟩⟩
 obtain _ | kk3dg := kk3co
 ·exact absurd H (by simp [louverref06qD_Get.l0])
 simp only [louverref06qD_Get.l0] at H
 refine wp_seq ?_
 refine wp_seq ?_
 refine WL.start ?_
 refine WL.bl 4 4 h3ck [(23, .bool (decide (x3d0 < (p1.length : Int)))), (22, i6 (p1.length : Int)), (21, .slice A1 p1.length c1), (20, i6 x3d0)] (fun a3dh h3di => ?_)
 refine WL.dn ?_
 clear h3ck a3cl
 by_cases c3dj : x3d0 < (p1.length : Int)
 ·rw [if_pos c3dj] at H
  have hb_ : (decide (x3d0 < (p1.length : Int))) = true := decide_eq_true c3dj
  try rw [hb_] at h3di
  clear hb_
  refine wp_then h3di rfl ?_
  refine wp_skip ?_
  refine wp_block ?_
  refine wp_seq ?_
  refine wp_seq ?_
  refine WL.start ?_
  refine WL.bl 2 2 h3di [(25, i6 x3d0), (24, .slice A1 p1.length c1)] (fun a3dk h3dl => ?_)
  clear h3di a3dh
  by_cases c3dm : 0 ≤ x3d0
  ·rw [if_pos c3dm] at H
   have hi3dp : 0 ≤ x3d0 := by first | assumption | omega
   have hi3dq : x3d0 < (p1.length : Int) := by first | assumption | omega
   obtain ⟨ad3dn, _, ha3do, -, -⟩ := Rds.elemAny hp1 hi3dp (gt_get (z := (0 : Int)) hi3dp hi3dq)
   refine WL.oq h3dl rfl ?_
   refine owp_rn (.pointer (some (ad3dn.add (x3d0.toNat * 1)))) h3dl rfl (run_idx (ad := ad3dn) (sz := 1) rfl (by rw [← ha3do]; rfl) rfl Tryd.underlying22 (by kernel_rfl) hi3dp hi3dq) (fun a3dr h3ds => ?_)
   obtain ⟨ad3dt, cs3du, ha3dv, hr3dx, hc3dw⟩ := Rds.elemAny hp1 hi3dp (gt_get (z := (0 : Int)) hi3dp hi3dq)
   rw [ha3do] at ha3dv; obtain rfl := Option.some.inj ha3dv
   obtain rfl : cs3du = [.int .u8 (gt (0 : Int) p1 x3d0)] := hr3dx
   refine WL.oq h3ds rfl ?_
   refine owp_rn (.int .u8 (gt (0 : Int) p1 x3d0)) h3ds rfl (run_load1 rfl rfl Tryd.underlying5 rfl (cell0 (hc3dw _ (fun _ _ hk_ => hS3cn.kn hk_)))) (fun a3dy h3dz => ?_)
   obtain ⟨r3e1, A3e0, H⟩ := bind1 H
   refine WL.oq h3dz rfl ?_
   refine owp_call [.int .u8 (gt (0 : Int) p1 x3d0)] h3dz rfl (by kernel_rfl) rfl Tryd.func31 (by kernel_rfl) rfl (by kernel_rfl) (louverref06qkind.calls  A3e0 hS3cn) (fun e3e3 W3e2 hp3e4 => ?_)
   obtain ⟨rfl, hS3e7⟩ := hp3e4
   refine ⟨_, rfl, fun a3e5 h3e6 => ?_⟩
   refine WL.bl 1 6 h3e6 [(29, .bool (decide (r3e1 = 2)))] (fun a3e8 h3e9 => ?_)
   refine WL.dn ?_
   clear h3dl a3dk h3ds a3dr h3dz a3dy h3e6 a3e5
   by_cases c3ea : r3e1 = 2
   ·rw [if_pos c3ea] at H
    have hb_ : (decide (r3e1 = 2)) = true := decide_eq_true c3ea
    try rw [hb_] at h3e9
    clear hb_
    refine wp_then h3e9 rfl ?_
    refine wp_seq ?_
    refine WL.start ?_
    refine WL.bl 2 2 h3e9 [(32, i6 x3d0), (31, .slice A1 p1.length c1)] (fun a3eb h3ec => ?_)
    clear h3e9 a3e8
    by_cases c3ed : x3d0 ≤ (p1.length : Int)
    ·rw [if_pos c3ed] at H
     refine WL.oq h3ec rfl ?_
     refine owp_rn (sliced A1 x3d0.toNat (p1.length : Int).toNat c1 1) h3ec rfl (run_cut (l := x3d0) (h := (p1.length : Int)) rfl rfl Tryd.underlying22 (by kernel_rfl) ⟨_, rfl⟩ rfl (by first | assumption | omega) (by first | assumption | omega) (by have q_ := Rds.cap hp1; omega) (by have q_ := Rds.cap hp1; omega)) (fun a3ef h3eg => ?_)
     have hx3ee := Rds.cut hp1 (l := x3d0.toNat) (h := (p1.length : Int).toNat) (by omega) (by omega)
     obtain ⟨v3eh, ev3ei⟩ : ∃ y_, y_ = sliced A1 x3d0.toNat (p1.length : Int).toNat c1 1 := ⟨_, rfl⟩
     have hx_ : Rds (kInt .u8) b w0 R v3eh (p1.drop x3d0.toNat) := hx3ee.as_ ev3ei.symm (by simp)
     rw [← ev3ei] at h3eg; clear ev3ei hx3ee
     have hx3ee := hx_; clear hx_
     obtain ⟨A3ej, c3ek, rfl⟩ := hx3ee.form
     obtain ⟨r3em, r3en, r3eo, A3el, H⟩ := bind3 H
     refine WL.oq h3eg rfl ?_
     refine owp_call [.slice A3ej (p1.drop x3d0.toNat).length c3ek, i6 5] h3eg rfl (by kernel_rfl) rfl Tryd.func32 (by kernel_rfl) rfl (by kernel_rfl) (louverref02qGet.calls kk3dg hx3ee A3el hS3e7) (fun e3eq W3ep hp3er => ?_)
     obtain ⟨rfl, hS3eu⟩ := hp3er
     refine ⟨_, rfl, fun a3es h3et => ?_⟩
     refine WL.bl 7 11 h3et [(13, i6 r3eo), (12, i6 r3en), (11, .int .u32 r3em), (37, i6 r3eo), (36, i6 r3en), (35, .int .u32 r3em), (30, .tuple #[.int .u32 r3em, i6 r3en, i6 r3eo])] (fun a3ev h3ew => ?_)
     refine WL.dn ?_
     refine wp_seq ?_
     refine wp_seq ?_
     refine WL.start ?_
     refine WL.bl 3 3 h3ew [(40, .bool (!decide (r3eo = 0))), (39, .bool (!decide (r3eo = 0))), (38, i6 r3eo)] (fun a3ex h3ey => ?_)
     clear h3ec a3eb h3eg a3ef h3et a3es h3ew a3ev
     by_cases c3ez : r3eo = 0
     ·rw [if_pos c3ez] at H
      have hb_ : (decide (r3eo = 0)) = true := decide_eq_true c3ez
      try rw [hb_] at h3ey
      clear hb_
      refine WL.oq h3ey rfl (owp_rk (.slice A3cw x3cv.length c3cx) h3ey rfl (fun a3f0 h3f1 => ?_))
      refine WL.oq h3f1 rfl (owp_rk (i6 (x3cv.length : Int)) h3f1 rfl (fun a3f2 h3f3 => ?_))
      refine WL.oq h3f3 rfl (owp_rk (.bool (decide ((x3cv.length : Int) > 0))) h3f3 rfl (fun a3f4 h3f5 => ?_))
      refine WL.bl 2 8 h3f5 [(45, .bool (decide ((x3cv.length : Int) > 0))), (44, .bool (decide ((x3cv.length : Int) > 0)))] (fun a3f6 h3f7 => ?_)
      clear h3ey a3ex h3f1 a3f0 h3f3 a3f2 h3f5 a3f4
      by_cases c3f8 : (x3cv.length : Int) > 0
      ·rw [if_pos c3f8] at H
       have hb_ : (decide ((x3cv.length : Int) > 0)) = true := decide_eq_true c3f8
       try rw [hb_] at h3f7
       clear hb_
       refine WL.sk h3f7 rfl rfl (fun a3f9 h3fa => ?_)
       refine WL.sk h3fa rfl rfl (fun a3fb h3fc => ?_)
       refine WL.sk h3fc rfl rfl (fun a3fd h3fe => ?_)
       refine WL.sk h3fe rfl rfl (fun a3ff h3fg => ?_)
       refine WL.sk h3fg rfl rfl (fun a3fh h3fi => ?_)
       refine WL.bl 1 14 h3fi [(51, .bool true)] (fun a3fj h3fk => ?_)
       refine WL.dn ?_
       refine wp_then h3fk rfl ?_
       refine wp_seq ?_
       obtain ⟨A3fm, c3fn, M3fo, hr3fp, hS3fl⟩ := k45qoq hr3cr hS3eu
       refine WT.start 5 (fun w_ => (∀ j_ u_, ([.slice A3fm x3cp.f0.f0.length c3fn, i6 x3cp.f0.f1, i6 x3cp.f1] : List Value)[j_]? = some u_ → w_.cell? ((⟨g3bp, 0, none⟩ : Addr).add j_) = some u_) ∧ True) (by kernel_rfl) #[false, false, false, false, false] 5 rfl rfl ?_
       have hS3gy := hS3fl.drew
       refine WT.tk 0 h3fk rfl rfl (.slice (some ⟨g3c3, 0, none⟩) 0 0) (fun _ _ => by kernel_rfl) ⟨(hS3gy.cells (vs := [.slice A3fm x3cp.f0.f0.length c3fn, i6 x3cp.f0.f1, i6 x3cp.f1]) rfl), trivial⟩ (fun a3gz s3h1 h3h0 => ?_)
       refine WT.tk 2 h3h0 rfl rfl (.slice (some ⟨g3c3, 0, none⟩) 0 0) (fun _ _ => by kernel_rfl) s3h1 (fun a3h2 s3h4 h3h3 => ?_)
       refine WT.tk 1 h3h3 rfl rfl (.agg #[.slice A3fm x3cp.f0.f0.length c3fn, i6 x3cp.f0.f1, i6 x3cp.f1]) (fun w_ hs_ => (run_loadN rfl rfl Tryd.underlying45 rfl (cs := [.slice A3fm x3cp.f0.f0.length c3fn, i6 x3cp.f0.f1, i6 x3cp.f1]) (by kernel_rfl) hs_.1)) s3h4 (fun a3h5 s3h7 h3h6 => ?_)
       have hS3h8 := hS3gy.b2
       obtain ⟨A3ha, c3hb, M3hc, hr3hd, hS3h9⟩ := k45qoq hr3cu hS3h8
       refine WT.o1 3 h3h6 rfl ?_
       refine owp_st 0 [.slice A3fm x3cp.f0.f0.length c3fn, i6 x3cp.f0.f1, i6 x3cp.f1] h3h6 rfl rfl rfl hS3h9 [.slice A3fm x3cp.f0.f0.length c3fn, i6 x3cp.f0.f1, i6 x3cp.f1] (fun a3he W3hg h3hf hS3hh => ?_)
       refine ⟨.inr ⟨(hS3hh.b2.cells (vs := [.slice A3fm x3cp.f0.f0.length c3fn, i6 x3cp.f0.f1, i6 x3cp.f1]) rfl), trivial⟩, ?_⟩
       refine WT.tk 4 h3hf rfl rfl (i6 9) (fun _ _ => by kernel_rfl) ⟨(hS3hh.b2.cells (vs := [.slice A3fm x3cp.f0.f0.length c3fn, i6 x3cp.f0.f1, i6 x3cp.f1]) rfl), trivial⟩ (fun a3hi s3hk h3hj => ?_)
       refine WT.dn ?_
       refine wp_ret ?_
       have hS3hl := hS3hh.drop_
       have hS3hm := hS3hl.drop_
       have hS3hn := hS3hm.drop_
       have hS3ho := hS3hn.b2
       have hS3hp := hS3ho.drop_
       have hS3hq := hS3hp.b1
       obtain ⟨rfl, rfl, rfl⟩ := ret3 H
       repeat (first | with_reducible refine t1 ?_ | with_reducible refine t2 ?_ | with_reducible refine t3 ?_)
       refine body_ret (v := .tuple #[.slice (some ⟨g3c3, 0, none⟩) 0 0, .agg #[.slice A3fm x3cp.f0.f0.length c3fn, i6 x3cp.f0.f1, i6 x3cp.f1], i6 9]) h3hj (by kernel_rfl) (res_many (xs := [ResultVar.tmp 4, ResultVar.cell 5 45, ResultVar.tmp 6]) rfl ⟨rfl, ⟨_, rfl, loadVarN Tryd.underlying45 rfl (cs := [.slice A3fm x3cp.f0.f0.length c3fn, i6 x3cp.f0.f1, i6 x3cp.f1]) (by kernel_rfl) (hS3hh.cells (vs := [.slice A3fm x3cp.f0.f0.length c3fn, i6 x3cp.f0.f1, i6 x3cp.f1]) rfl)⟩, rfl, trivial⟩ rfl) ?_
       exact ⟨.slice (some ⟨g3c3, 0, none⟩) 0 0, (bx g3c3 52 []), .slice A3fm x3cp.f0.f0.length c3fn, M3fo, rfl, hr3c5, hr3fp, hS3hq⟩
      ·rw [if_neg c3f8] at H
       have hb_ : (decide ((x3cv.length : Int) > 0)) = false := decide_eq_false c3f8
       try rw [hb_] at h3f7
       clear hb_
       refine WL.oq h3f7 rfl (owp_rk (.int .u32 r3em) h3f7 rfl (fun a3hr h3hs => ?_))
       refine WL.oq h3hs rfl (owp_rk (i6 (IntKind.i64.wrap r3em)) h3hs rfl (fun a3ht h3hu => ?_))
       obtain ⟨A3hw, c3hx, M3hy, hr3hz, hS3hv⟩ := k45qoq hr3cr hS3eu
       refine WL.oq h3hu rfl (owp_rk (.pointer (some ⟨g3bp, 2, none⟩)) h3hu rfl (fun a3i0 h3i1 => ?_))
       refine WL.oq h3i1 rfl ?_
       refine owp_rn (i6 x3cp.f1) h3i1 rfl (run_load1 rfl rfl Tryd.underlying3 rfl (hS3hv.cell (i := 2) rfl)) (fun a3i2 h3i3 => ?_)
       refine WL.oq h3i3 rfl (owp_rk (.bool (decide ((IntKind.i64.wrap r3em) > x3cp.f1))) h3i3 rfl (fun a3i4 h3i5 => ?_))
       refine WL.bl 1 14 h3i5 [(51, .bool (decide ((IntKind.i64.wrap r3em) > x3cp.f1)))] (fun a3i6 h3i7 => ?_)
       refine WL.dn ?_
       clear h3f7 a3f6 h3hs a3hr h3hu a3ht h3i1 a3i0 h3i3 a3i2 h3i5 a3i4
       by_cases c3i8 : (IntKind.i64.wrap r3em) > x3cp.f1
       ·rw [if_pos c3i8] at H
        have hb_ : (decide ((IntKind.i64.wrap r3em) > x3cp.f1)) = true := decide_eq_true c3i8
        try rw [hb_] at h3i7
        clear hb_
        refine wp_then h3i7 rfl ?_
        refine wp_seq ?_
        refine WT.start 5 (fun w_ => (∀ j_ u_, ([.slice A3hw x3cp.f0.f0.length c3hx, i6 x3cp.f0.f1, i6 x3cp.f1] : List Value)[j_]? = some u_ → w_.cell? ((⟨g3bp, 0, none⟩ : Addr).add j_) = some u_) ∧ True) (by kernel_rfl) #[false, false, false, false, false] 5 rfl rfl ?_
        have hS3jh := hS3hv.drew
        refine WT.tk 0 h3i7 rfl rfl (.slice (some ⟨g3c3, 0, none⟩) 0 0) (fun _ _ => by kernel_rfl) ⟨(hS3jh.cells (vs := [.slice A3hw x3cp.f0.f0.length c3hx, i6 x3cp.f0.f1, i6 x3cp.f1]) rfl), trivial⟩ (fun a3ji s3jk h3jj => ?_)
        refine WT.tk 2 h3jj rfl rfl (.slice (some ⟨g3c3, 0, none⟩) 0 0) (fun _ _ => by kernel_rfl) s3jk (fun a3jl s3jn h3jm => ?_)
        refine WT.tk 1 h3jm rfl rfl (.agg #[.slice A3hw x3cp.f0.f0.length c3hx, i6 x3cp.f0.f1, i6 x3cp.f1]) (fun w_ hs_ => (run_loadN rfl rfl Tryd.underlying45 rfl (cs := [.slice A3hw x3cp.f0.f0.length c3hx, i6 x3cp.f0.f1, i6 x3cp.f1]) (by kernel_rfl) hs_.1)) s3jn (fun a3jo s3jq h3jp => ?_)
        have hS3jr := hS3jh.b2
        obtain ⟨A3jt, c3ju, M3jv, hr3jw, hS3js⟩ := k45qoq hr3cu hS3jr
        refine WT.o1 3 h3jp rfl ?_
        refine owp_st 0 [.slice A3hw x3cp.f0.f0.length c3hx, i6 x3cp.f0.f1, i6 x3cp.f1] h3jp rfl rfl rfl hS3js [.slice A3hw x3cp.f0.f0.length c3hx, i6 x3cp.f0.f1, i6 x3cp.f1] (fun a3jx W3jz h3jy hS3k0 => ?_)
        refine ⟨.inr ⟨(hS3k0.b2.cells (vs := [.slice A3hw x3cp.f0.f0.length c3hx, i6 x3cp.f0.f1, i6 x3cp.f1]) rfl), trivial⟩, ?_⟩
        refine WT.tk 4 h3jy rfl rfl (i6 9) (fun _ _ => by kernel_rfl) ⟨(hS3k0.b2.cells (vs := [.slice A3hw x3cp.f0.f0.length c3hx, i6 x3cp.f0.f1, i6 x3cp.f1]) rfl), trivial⟩ (fun a3k1 s3k3 h3k2 => ?_)
        refine WT.dn ?_
        refine wp_ret ?_
        have hS3k4 := hS3k0.drop_
        have hS3k5 := hS3k4.drop_
        have hS3k6 := hS3k5.drop_
        have hS3k7 := hS3k6.b2
        have hS3k8 := hS3k7.drop_
        have hS3k9 := hS3k8.b1
        obtain ⟨rfl, rfl, rfl⟩ := ret3 H
        repeat (first | with_reducible refine t1 ?_ | with_reducible refine t2 ?_ | with_reducible refine t3 ?_)
        refine body_ret (v := .tuple #[.slice (some ⟨g3c3, 0, none⟩) 0 0, .agg #[.slice A3hw x3cp.f0.f0.length c3hx, i6 x3cp.f0.f1, i6 x3cp.f1], i6 9]) h3k2 (by kernel_rfl) (res_many (xs := [ResultVar.tmp 4, ResultVar.cell 5 45, ResultVar.tmp 6]) rfl ⟨rfl, ⟨_, rfl, loadVarN Tryd.underlying45 rfl (cs := [.slice A3hw x3cp.f0.f0.length c3hx, i6 x3cp.f0.f1, i6 x3cp.f1]) (by kernel_rfl) (hS3k0.cells (vs := [.slice A3hw x3cp.f0.f0.length c3hx, i6 x3cp.f0.f1, i6 x3cp.f1]) rfl)⟩, rfl, trivial⟩ rfl) ?_
        exact ⟨.slice (some ⟨g3c3, 0, none⟩) 0 0, (bx g3c3 52 []), .slice A3hw x3cp.f0.f0.length c3hx, M3hy, rfl, hr3c5, hr3hz, hS3k9⟩
       ·rw [if_neg c3i8] at H
        have hb_ : (decide ((IntKind.i64.wrap r3em) > x3cp.f1)) = false := decide_eq_false c3i8
        try rw [hb_] at h3i7
        clear hb_
        refine wp_else h3i7 rfl ?_
        refine wp_skip ?_
        refine wp_seq ?_
        refine WL.start ?_
        refine WL.bl 1 1 h3i7 [(54, pt g3bp)] (fun a3ka h3kb => ?_)
        refine WL.oq h3kb rfl ?_
        refine owp_rn (.agg #[.slice A3hw x3cp.f0.f0.length c3hx, i6 x3cp.f0.f1]) h3kb rfl (run_loadN rfl rfl Tryd.underlying43 rfl (cs := [.slice A3hw x3cp.f0.f0.length c3hx, i6 x3cp.f0.f1]) (by kernel_rfl) (hS3hv.cells (vs := [.slice A3hw x3cp.f0.f0.length c3hx, i6 x3cp.f0.f1]) rfl)) (fun a3kc h3kd => ?_)
        refine WL.bl 2 4 h3kd [(57, i6 (IntKind.i64.wrap r3em)), (56, .int .u32 r3em)] (fun a3ke h3kf => ?_)
        have hS3kg := hS3hv.b1
        obtain ⟨r3ki, A3kh, H⟩ := bind1 H
        refine WL.oq h3kf rfl ?_
        refine owp_call [.agg #[.slice A3hw x3cp.f0.f0.length c3hx, i6 x3cp.f0.f1], i6 (IntKind.i64.wrap r3em)] h3kf rfl (by kernel_rfl) rfl Tryd.func33 (by kernel_rfl) rfl (by kernel_rfl) (louverref05qT_Limit.calls (p0 := (⟨x3cp.f0.f0, x3cp.f0.f1⟩ : S43)) kk3dg hr3hz.rds A3kh (hS3kg.pool)) (fun e3kk W3kj hp3kl => ?_)
        obtain ⟨v3ko, M3kp, rfl, hr3kq, hS3kr⟩ := hp3kl
        have hS3ks : St b w0 W3kj R (M3hy :: M3kp :: (bx g3bp 45 [.slice A3hw x3cp.f0.f0.length c3hx, i6 x3cp.f0.f1, i6 x3cp.f1]) :: M3ct :: (bx g3c3 52 []) :: M3cy :: Fs) := hS3kr.unpool
        replace hr3kq : Row k52 52 b w0 R v3ko r3ki.f0 M3kp := hr3kq.ind k52qind
        refine ⟨_, rfl, fun a3km h3kn => ?_⟩
        obtain ⟨A3kt, c3ku, rfl⟩ := hr3kq.form
        refine WL.bl 1 6 h3kn [(59, pt g3bp)] (fun a3kv h3kw => ?_)
        have hS3kx := hS3ks.b2
        refine WL.oq h3kw rfl ?_
        refine owp_st 0 [.slice A3kt r3ki.f0.length c3ku, i6 r3ki.f1] h3kw rfl rfl rfl hS3kx [.slice A3kt r3ki.f0.length c3ku, i6 r3ki.f1, i6 x3cp.f1] (fun a3ky W3l0 h3kz hS3l1 => ?_)
        refine WL.dn ?_
        refine wp_seq ?_
        refine WL.start ?_
        refine WL.bl 4 4 h3kz [(9, i6 (IntKind.i64.wrap (x3d0 + r3en))), (62, i6 (IntKind.i64.wrap (x3d0 + r3en))), (61, i6 r3en), (60, i6 x3d0)] (fun a3l2 h3l3 => ?_)
        refine WL.dn ?_
        refine wp_exit ?_
        have hS3l4 := hS3l1.b2
        have hS3l5 := hS3l4.b1
        obtain ⟨M3l6, hp3l7, hS3l8⟩ := k45qfo (⟨(⟨r3ki.f0, r3ki.f1⟩ : S43), x3cp.f1⟩ : S45) hr3kq hS3l5
        have hS3l9 := hS3l8.b1
        have hS3la := hS3l9.drop_
        exact ⟨kk3dg, by omega, (⟨(⟨r3ki.f0, r3ki.f1⟩ : S43), x3cp.f1⟩ : S45), M3l6, x3cs, M3ct, x3cv, A3cw, c3cx, M3cy, IntKind.i64.wrap (x3d0 + r3en), x3d1, h3l3.keep ⟨rfl, rfl, rfl, rfl, rfl, rfl, rfl, trivial⟩, ⟨H⟩, ⟨by omega⟩, ⟨hS3la⟩, ⟨hp3l7⟩, ⟨hr3cu⟩, ⟨hr3cz⟩⟩
     ·rw [if_neg c3ez] at H
      have hb_ : (decide (r3eo = 0)) = false := decide_eq_false c3ez
      try rw [hb_] at h3ey
      clear hb_
      refine WL.sk h3ey rfl rfl (fun a3lb h3lc => ?_)
      refine WL.sk h3lc rfl rfl (fun a3ld h3le => ?_)
      refine WL.sk h3le rfl rfl (fun a3lf h3lg => ?_)
      refine WL.bl 2 8 h3lg [(45, .bool true), (44, .bool true)] (fun a3lh h3li => ?_)
      refine WL.sk h3li rfl rfl (fun a3lj h3lk => ?_)
      refine WL.sk h3lk rfl rfl (fun a3ll h3lm => ?_)
      refine WL.sk h3lm rfl rfl (fun a3ln h3lo => ?_)
      refine WL.sk h3lo rfl rfl (fun a3lp h3lq => ?_)
      refine WL.sk h3lq rfl rfl (fun a3lr h3ls => ?_)
      refine WL.bl 1 14 h3ls [(51, .bool true)] (fun a3lt h3lu => ?_)
      refine WL.dn ?_
      refine wp_then h3lu rfl ?_
      refine wp_seq ?_
      obtain ⟨A3lw, c3lx, M3ly, hr3lz, hS3lv⟩ := k45qoq hr3cr hS3eu
      refine WT.start 5 (fun w_ => (∀ j_ u_, ([.slice A3lw x3cp.f0.f0.length c3lx, i6 x3cp.f0.f1, i6 x3cp.f1] : List Value)[j_]? = some u_ → w_.cell? ((⟨g3bp, 0, none⟩ : Addr).add j_) = some u_) ∧ True) (by kernel_rfl) #[false, false, false, false, false] 5 rfl rfl ?_
      have hS3n8 := hS3lv.drew
      refine WT.tk 0 h3lu rfl rfl (.slice (some ⟨g3c3, 0, none⟩) 0 0) (fun _ _ => by kernel_rfl) ⟨(hS3n8.cells (vs := [.slice A3lw x3cp.f0.f0.length c3lx, i6 x3cp.f0.f1, i6 x3cp.f1]) rfl), trivial⟩ (fun a3n9 s3nb h3na => ?_)
      refine WT.tk 2 h3na rfl rfl (.slice (some ⟨g3c3, 0, none⟩) 0 0) (fun _ _ => by kernel_rfl) s3nb (fun a3nc s3ne h3nd => ?_)
      clear h3ey a3ex h3lc a3lb h3le a3ld h3lg a3lf h3li a3lh h3lk a3lj h3lm a3ll h3lo a3ln h3lq a3lp h3ls a3lr h3lu a3lt h3na a3n9
      refine WT.tk 1 h3nd rfl rfl (.agg #[.slice A3lw x3cp.f0.f0.length c3lx, i6 x3cp.f0.f1, i6 x3cp.f1]) (fun w_ hs_ => (run_loadN rfl rfl Tryd.underlying45 rfl (cs := [.slice A3lw x3cp.f0.f0.length c3lx, i6 x3cp.f0.f1, i6 x3cp.f1]) (by kernel_rfl) hs_.1)) s3ne (fun a3nf s3nh h3ng => ?_)
      have hS3ni := hS3n8.b2
      obtain ⟨A3nk, c3nl, M3nm, hr3nn, hS3nj⟩ := k45qoq hr3cu hS3ni
      refine WT.o1 3 h3ng rfl ?_
      refine owp_st 0 [.slice A3lw x3cp.f0.f0.length c3lx, i6 x3cp.f0.f1, i6 x3cp.f1] h3ng rfl rfl rfl hS3nj [.slice A3lw x3cp.f0.f0.length c3lx, i6 x3cp.f0.f1, i6 x3cp.f1] (fun a3no W3nq h3np hS3nr => ?_)
      refine ⟨.inr ⟨(hS3nr.b2.cells (vs := [.slice A3lw x3cp.f0.f0.length c3lx, i6 x3cp.f0.f1, i6 x3cp.f1]) rfl), trivial⟩, ?_⟩
      refine WT.tk 4 h3np rfl rfl (i6 9) (fun _ _ => by kernel_rfl) ⟨(hS3nr.b2.cells (vs := [.slice A3lw x3cp.f0.f0.length c3lx, i6 x3cp.f0.f1, i6 x3cp.f1]) rfl), trivial⟩ (fun a3ns s3nu h3nt => ?_)
      refine WT.dn ?_
      refine wp_ret ?_
      have hS3nv := hS3nr.drop_
      have hS3nw := hS3nv.drop_
      have hS3nx := hS3nw.drop_
      have hS3ny := hS3nx.b2
      have hS3nz := hS3ny.drop_
      have hS3o0 := hS3nz.b1
      obtain ⟨rfl, rfl, rfl⟩ := ret3 H
      repeat (first | with_reducible refine t1 ?_ | with_reducible refine t2 ?_ | with_reducible refine t3 ?_)
      refine body_ret (v := .tuple #[.slice (some ⟨g3c3, 0, none⟩) 0 0, .agg #[.slice A3lw x3cp.f0.f0.length c3lx, i6 x3cp.f0.f1, i6 x3cp.f1], i6 9]) h3nt (by kernel_rfl) (res_many (xs := [ResultVar.tmp 4, ResultVar.cell 5 45, ResultVar.tmp 6]) rfl ⟨rfl, ⟨_, rfl, loadVarN Tryd.underlying45 rfl (cs := [.slice A3lw x3cp.f0.f0.length c3lx, i6 x3cp.f0.f1, i6 x3cp.f1]) (by kernel_rfl) (hS3nr.cells (vs := [.slice A3lw x3cp.f0.f0.length c3lx, i6 x3cp.f0.f1, i6 x3cp.f1]) rfl)⟩, rfl, trivial⟩ rfl) ?_
      exact ⟨.slice (some ⟨g3c3, 0, none⟩) 0 0, (bx g3c3 52 []), .slice A3lw x3cp.f0.f0.length c3lx, M3ly, rfl, hr3c5, hr3lz, hS3o0⟩
    ·rw [if_neg c3ed] at H
     cases H
   ·rw [if_neg c3ea] at H
    have hb_ : (decide (r3e1 = 2)) = false := decide_eq_false c3ea
    try rw [hb_] at h3e9
    clear hb_
    refine wp_else h3e9 rfl ?_
    refine wp_skip ?_
    refine wp_seq ?_
    refine WL.start ?_
    obtain ⟨A3o2, c3o3, M3o4, hr3o5, hS3o1⟩ := k45qoq hr3cr hS3e7
    refine WL.oq h3e9 rfl ?_
    refine owp_rn (.agg #[.slice A3o2 x3cp.f0.f0.length c3o3, i6 x3cp.f0.f1, i6 x3cp.f1]) h3e9 rfl (run_loadN rfl rfl Tryd.underlying45 rfl (cs := [.slice A3o2 x3cp.f0.f0.length c3o3, i6 x3cp.f0.f1, i6 x3cp.f1]) (by kernel_rfl) (hS3o1.cells (vs := [.slice A3o2 x3cp.f0.f0.length c3o3, i6 x3cp.f0.f1, i6 x3cp.f1]) rfl)) (fun a3o6 h3o7 => ?_)
    refine WL.bl 2 3 h3o7 [(66, i6 x3d0), (65, .slice A1 p1.length c1)] (fun a3o8 h3o9 => ?_)
    have hS3oa := hS3o1.b1
    obtain ⟨r3oc, r3od, r3oe, r3of, A3ob, H⟩ := bind4 H
    refine WL.oq h3o9 rfl ?_
    refine owp_call [.agg #[.slice A3o2 x3cp.f0.f0.length c3o3, i6 x3cp.f0.f1, i6 x3cp.f1], .slice A1 p1.length c1, i6 x3d0] h3o9 rfl (by kernel_rfl) rfl Tryd.func34 (by kernel_rfl) rfl (by kernel_rfl) (louverref06qD_field.calls (p0 := (⟨(⟨x3cp.f0.f0, x3cp.f0.f1⟩ : S43), x3cp.f1⟩ : S45)) kk3dg hr3o5 hp1 A3ob hS3oa) (fun e3oh W3og hp3oi => ?_)
    obtain ⟨v3ol, rfl, hd3om⟩ := hp3oi
    clear h3e9 a3e8 h3o7 a3o6
    rcases hd3om with ⟨hu3on, hq3oo, hS3op⟩ | ⟨M3oq, hr3or, hS3os⟩
    ·subst hu3on
     have hr3ot : Row k52 52 b w0 R (.slice A3o2 x3cp.f0.f0.length c3o3) r3oe.f0.f0 M3o4 := by rw [hq3oo]; exact hr3o5
     refine ⟨_, rfl, fun a3oj h3ok => ?_⟩
     refine WL.bl 5 9 h3ok [(71, .bool r3of), (70, .agg #[.slice A3o2 x3cp.f0.f0.length c3o3, i6 r3oe.f0.f1, i6 r3oe.f1]), (69, i6 r3od), (68, .agg #[.string (mkS r3oc.f0), .string (mkS r3oc.f1), .bool r3oc.f2]), (63, .tuple #[.agg #[.string (mkS r3oc.f0), .string (mkS r3oc.f1), .bool r3oc.f2], i6 r3od, .agg #[.slice A3o2 x3cp.f0.f0.length c3o3, i6 r3oe.f0.f1, i6 r3oe.f1], .bool r3of])] (fun a3ow h3ox => ?_)
     refine WL.oq h3ox rfl ?_
     refine owp_nw (fun g_ => (pt g_)) (.cells ([.string (mkS []), .string (mkS []), .bool false] : List Value).toArray 52 (0, 0)) h3ox rfl hS3op (fun a3oy W3p0 g3p1 h3oz hS3p2 => ?_)
     refine WL.oq h3oz rfl ?_
     refine owp_nw (fun g_ => (pt g_)) (.cells ([.slice none 0 0, i6 0, i6 0] : List Value).toArray 45 (0, 0)) h3oz rfl hS3p2 (fun a3p3 W3p5 g3p6 h3p4 hS3p7 => ?_)
     have hS3p8 := hS3p7.b1
     refine WL.oq h3p4 rfl ?_
     refine owp_st 0 [.string (mkS r3oc.f0), .string (mkS r3oc.f1), .bool r3oc.f2] h3p4 rfl rfl rfl hS3p8 [.string (mkS r3oc.f0), .string (mkS r3oc.f1), .bool r3oc.f2] (fun a3p9 W3pb h3pa hS3pc => ?_)
     refine WL.bl 1 13 h3pa [(15, i6 r3od)] (fun a3pd h3pe => ?_)
     have hS3pf := hS3pc.b1
     refine WL.oq h3pe rfl ?_
     refine owp_st 0 [.slice A3o2 x3cp.f0.f0.length c3o3, i6 r3oe.f0.f1, i6 r3oe.f1] h3pe rfl rfl rfl hS3pf [.slice A3o2 x3cp.f0.f0.length c3o3, i6 r3oe.f0.f1, i6 r3oe.f1] (fun a3pg W3pi h3ph hS3pj => ?_)
     refine WL.bl 1 15 h3ph [(17, .bool r3of)] (fun a3pk h3pl => ?_)
     refine WL.dn ?_
     refine wp_seq ?_
     refine wp_seq ?_
     refine WL.start ?_
     refine WL.bl 2 2 h3pl [(73, .bool (!r3of)), (72, .bool r3of)] (fun a3pm h3pn => ?_)
     refine WL.dn ?_
     clear h3o9 a3o8 h3ok a3oj h3ox a3ow h3oz a3oy h3p4 a3p3 h3pa a3p9 h3pe a3pd h3ph a3pg h3pl a3pk
     by_cases c3po : r3of = true
     ·rw [if_pos c3po] at H
      have hb_ : r3of = true := c3po
      try rw [hb_] at h3pn
      clear hb_
      refine wp_else h3pn rfl ?_
      refine wp_skip ?_
      refine wp_seq ?_
      refine WL.start ?_
      refine WL.oq h3pn rfl ?_
      refine owp_rn (.agg #[.slice A3o2 x3cp.f0.f0.length c3o3, i6 r3oe.f0.f1, i6 r3oe.f1]) h3pn rfl (run_loadN rfl rfl Tryd.underlying45 rfl (cs := [.slice A3o2 x3cp.f0.f0.length c3o3, i6 r3oe.f0.f1, i6 r3oe.f1]) (by kernel_rfl) (hS3pj.cells (vs := [.slice A3o2 x3cp.f0.f0.length c3o3, i6 r3oe.f0.f1, i6 r3oe.f1]) rfl)) (fun a3pp h3pq => ?_)
      have hS3pr := hS3pj.b3
      refine WL.oq h3pq rfl ?_
      refine owp_st 0 [.slice A3o2 x3cp.f0.f0.length c3o3, i6 r3oe.f0.f1, i6 r3oe.f1] h3pq rfl rfl rfl hS3pr [.slice A3o2 x3cp.f0.f0.length c3o3, i6 r3oe.f0.f1, i6 r3oe.f1] (fun a3ps W3pu h3pt hS3pv => ?_)
      refine WL.dn ?_
      refine wp_seq ?_
      refine WL.start ?_
      refine WL.bl 2 2 h3pt [(9, i6 r3od), (77, i6 r3od)] (fun a3pw h3px => ?_)
      refine WL.dn ?_
      refine wp_seq ?_
      refine WL.start ?_
      refine WL.bl 1 1 h3px [(78, .slice A3cw x3cv.length c3cx)] (fun a3py h3pz => ?_)
      have hS3q0 := hS3pv.b2
      refine WL.oq h3pz rfl ?_
      refine owp_rn (.agg #[.string (mkS r3oc.f0), .string (mkS r3oc.f1), .bool r3oc.f2]) h3pz rfl (run_loadN rfl rfl Tryd.underlying52 rfl (cs := [.string (mkS r3oc.f0), .string (mkS r3oc.f1), .bool r3oc.f2]) (by kernel_rfl) (hS3q0.cells (vs := [.string (mkS r3oc.f0), .string (mkS r3oc.f1), .bool r3oc.f2]) rfl)) (fun a3q1 h3q2 => ?_)
      obtain ⟨_, hrep_, hMe_⟩ := k52qmk (b := b) (w0 := w0) (R := R) (x := (⟨r3oc.f0, r3oc.f1, r3oc.f2⟩ : S52)) 
      subst hMe_
      have hq3q3 := hrep_; clear hrep_
      refine WL.oq h3q2 rfl ?_
      refine owp_nw (fun g_ => .slice (some ⟨g_, 0, none⟩) 1 1) (.cells ([.string (mkS r3oc.f0), .string (mkS r3oc.f1), .bool r3oc.f2] : List Value).toArray 52 (0, 0)) h3q2 rfl hS3q0 (fun a3q4 W3q6 g3q7 h3q5 hS3q8 => ?_)
      have hr3q9 : Row k52 52 b w0 R (.slice (some ⟨g3q7, 0, none⟩) 1 1) ([(⟨r3oc.f0, r3oc.f1, r3oc.f2⟩ : S52)] : List S52) (bx g3q7 52 [.string (mkS r3oc.f0), .string (mkS r3oc.f1), .bool r3oc.f2]) := Row.lit (xs := ([(⟨r3oc.f0, r3oc.f1, r3oc.f2⟩ : S52)] : List S52)) (Mi := []) ⟨_, _, [], _, rfl, rfl, hq3q3, ⟨rfl, rfl⟩⟩ (by simp [maxLen])
      clear h3pn a3pm h3pq a3pp h3pt a3ps h3px a3pw h3pz a3py h3q2 a3q1
      by_cases c3qa : x3cv.length + 1 ≤ 3518437208883
      ·rw [if_pos c3qa] at H
       have hS3qb := hS3q8.b7
       refine WL.oq h3q5 rfl ?_
       refine owp_app_take (z := .agg #[.string (mkS []), .string (mkS []), .bool false]) (bytes := 40) (dk := k52) h3q5 rfl (by kernel_rfl) rfl rfl rfl hr3cz hr3q9 hS3qb Tryd.underlying23 (by kernel_rfl) rfl (by decide) (by decide) (by first | omega | (simp only [List.length_cons, List.length_nil] at *; omega)) (fun a3qc W3qe v3qf M3qg h3qd hr3qh hS3qi => ?_)
       obtain ⟨y3qj, hy3qk, H⟩ := lete H
       have hr3ql : Row k52 52 b w0 R v3qf y3qj M3qg := by rw [hy3qk]; exact hr3qh
       clear hr3qh
       obtain ⟨A3qm, c3qn, rfl⟩ := hr3ql.form
       refine WL.bl 1 5 h3qd [(8, .slice A3qm y3qj.length c3qn)] (fun a3qo h3qp => ?_)
       refine WL.dn ?_
       refine WL.start ?_
       refine WL.bl 1 1 h3qp [(82, i6 x3d1)] (fun a3qq h3qr => ?_)
       have hS3qs := hS3qi.b1
       refine WL.oq h3qr rfl ?_
       refine owp_rn (.agg #[.string (mkS r3oc.f0), .string (mkS r3oc.f1), .bool r3oc.f2]) h3qr rfl (run_loadN rfl rfl Tryd.underlying52 rfl (cs := [.string (mkS r3oc.f0), .string (mkS r3oc.f1), .bool r3oc.f2]) (by kernel_rfl) (hS3qs.cells (vs := [.string (mkS r3oc.f0), .string (mkS r3oc.f1), .bool r3oc.f2]) rfl)) (fun a3qt h3qu => ?_)
       obtain ⟨r3qw, A3qv, H⟩ := bind1 H
       refine WL.oq h3qu rfl ?_
       refine owp_call [.agg #[.string (mkS r3oc.f0), .string (mkS r3oc.f1), .bool r3oc.f2]] h3qu rfl (by kernel_rfl) rfl Tryd.func23 (by kernel_rfl) rfl (by kernel_rfl) (louverref05qSize.calls (p0 := (⟨r3oc.f0, r3oc.f1, r3oc.f2⟩ : S52))  A3qv hS3qs) (fun e3qy W3qx hp3qz => ?_)
       obtain ⟨rfl, hS3r2⟩ := hp3qz
       refine ⟨_, rfl, fun a3r0 h3r1 => ?_⟩
       refine WL.bl 2 5 h3r1 [(10, i6 (IntKind.i64.wrap (x3d1 + r3qw))), (85, i6 (IntKind.i64.wrap (x3d1 + r3qw)))] (fun a3r3 h3r4 => ?_)
       refine WL.dn ?_
       have hS3r5 := hS3r2.b4
       have hS3r6 := hS3r5.b3
       obtain ⟨M3r7, hp3r8, hS3r9⟩ := k45qfo (⟨(⟨r3oe.f0.f0, r3oe.f0.f1⟩ : S43), r3oe.f1⟩ : S45) (by have q_ := hr3ot; rw [hq3oo] at q_; exact q_) hS3r6 (by rw [hq3oo])
       have hS3ra := hS3r9.b1
       have hS3rb := hS3ra.drop_
       have hS3rc := hS3rb.b2
       have hS3rd := hS3rc.drop_
       have hS3re := hS3rd.b1
       have hS3rf := hS3re.b3
       have hS3rg := hS3rf.b3
       have hS3rh := hS3rg.b3
       exact ⟨kk3dg, by omega, (⟨(⟨r3oe.f0.f0, r3oe.f0.f1⟩ : S43), r3oe.f1⟩ : S45), M3r7, x3cs, M3ct, y3qj, A3qm, c3qn, M3qg, r3od, IntKind.i64.wrap (x3d1 + r3qw), h3r4.keep ⟨rfl, rfl, rfl, rfl, rfl, rfl, rfl, trivial⟩, ⟨H⟩, ⟨by omega⟩, ⟨hS3rh⟩, ⟨hp3r8⟩, ⟨hr3cu⟩, ⟨hr3ql⟩⟩
      ·rw [if_neg c3qa] at H
       cases H
     ·rw [if_neg c3po] at H
      have hb_ : r3of = false := (Bool.eq_false_iff.2 c3po)
      try rw [hb_] at h3pn
      clear hb_
      refine wp_then h3pn rfl ?_
      refine wp_seq ?_
      refine WT.start 5 (fun w_ => (∀ j_ u_, ([.slice A3o2 x3cp.f0.f0.length c3o3, i6 x3cp.f0.f1, i6 x3cp.f1] : List Value)[j_]? = some u_ → w_.cell? ((⟨g3bp, 0, none⟩ : Addr).add j_) = some u_) ∧ True) (by kernel_rfl) #[false, false, false, false, false] 5 rfl rfl ?_
      have hS3sq := hS3pj.drew
      refine WT.tk 0 h3pn rfl rfl (.slice (some ⟨g3c3, 0, none⟩) 0 0) (fun _ _ => by kernel_rfl) ⟨(hS3sq.b3.cells (vs := [.slice A3o2 x3cp.f0.f0.length c3o3, i6 x3cp.f0.f1, i6 x3cp.f1]) rfl), trivial⟩ (fun a3sr s3st h3ss => ?_)
      refine WT.tk 2 h3ss rfl rfl (.slice (some ⟨g3c3, 0, none⟩) 0 0) (fun _ _ => by kernel_rfl) s3st (fun a3su s3sw h3sv => ?_)
      refine WT.tk 1 h3sv rfl rfl (.agg #[.slice A3o2 x3cp.f0.f0.length c3o3, i6 x3cp.f0.f1, i6 x3cp.f1]) (fun w_ hs_ => (run_loadN rfl rfl Tryd.underlying45 rfl (cs := [.slice A3o2 x3cp.f0.f0.length c3o3, i6 x3cp.f0.f1, i6 x3cp.f1]) (by kernel_rfl) hs_.1)) s3sw (fun a3sx s3sz h3sy => ?_)
      have hS3t0 := hS3sq.b4
      obtain ⟨A3t2, c3t3, M3t4, hr3t5, hS3t1⟩ := k45qoq hr3cu hS3t0
      refine WT.o1 3 h3sy rfl ?_
      refine owp_st 0 [.slice A3o2 x3cp.f0.f0.length c3o3, i6 x3cp.f0.f1, i6 x3cp.f1] h3sy rfl rfl rfl hS3t1 [.slice A3o2 x3cp.f0.f0.length c3o3, i6 x3cp.f0.f1, i6 x3cp.f1] (fun a3t6 W3t8 h3t7 hS3t9 => ?_)
      refine ⟨.inr ⟨(hS3t9.b5.cells (vs := [.slice A3o2 x3cp.f0.f0.length c3o3, i6 x3cp.f0.f1, i6 x3cp.f1]) rfl), trivial⟩, ?_⟩
      refine WT.tk 4 h3t7 rfl rfl (i6 9) (fun _ _ => by kernel_rfl) ⟨(hS3t9.b5.cells (vs := [.slice A3o2 x3cp.f0.f0.length c3o3, i6 x3cp.f0.f1, i6 x3cp.f1]) rfl), trivial⟩ (fun a3ta s3tc h3tb => ?_)
      refine WT.dn ?_
      refine wp_ret ?_
      have hS3td := hS3t9.drop_
      have hS3te := hS3td.drop_
      have hS3tf := hS3te.drop_
      have hS3tg := hS3tf.drop_
      have hS3th := hS3tg.b1
      have hS3ti := hS3th.drop_
      have hS3tj := hS3ti.b2
      have hS3tk := hS3tj.drop_
      have hS3tl := hS3tk.b1
      obtain ⟨rfl, rfl, rfl⟩ := ret3 H
      repeat (first | with_reducible refine t1 ?_ | with_reducible refine t2 ?_ | with_reducible refine t3 ?_)
      refine body_ret (v := .tuple #[.slice (some ⟨g3c3, 0, none⟩) 0 0, .agg #[.slice A3o2 x3cp.f0.f0.length c3o3, i6 x3cp.f0.f1, i6 x3cp.f1], i6 9]) h3tb (by kernel_rfl) (res_many (xs := [ResultVar.tmp 4, ResultVar.cell 5 45, ResultVar.tmp 6]) rfl ⟨rfl, ⟨_, rfl, loadVarN Tryd.underlying45 rfl (cs := [.slice A3o2 x3cp.f0.f0.length c3o3, i6 x3cp.f0.f1, i6 x3cp.f1]) (by kernel_rfl) (hS3t9.cells (vs := [.slice A3o2 x3cp.f0.f0.length c3o3, i6 x3cp.f0.f1, i6 x3cp.f1]) rfl)⟩, rfl, trivial⟩ rfl) ?_
      exact ⟨.slice (some ⟨g3c3, 0, none⟩) 0 0, (bx g3c3 52 []), .slice A3o2 x3cp.f0.f0.length c3o3, M3o4, rfl, hr3c5, (by have q_ := hr3ot; rw [hq3oo] at q_; exact q_), hS3tl⟩
    ·obtain ⟨A3ou, c3ov, rfl⟩ := hr3or.form
     refine ⟨_, rfl, fun a3oj h3ok => ?_⟩
     refine WL.bl 5 9 h3ok [(71, .bool r3of), (70, .agg #[.slice A3ou r3oe.f0.f0.length c3ov, i6 r3oe.f0.f1, i6 r3oe.f1]), (69, i6 r3od), (68, .agg #[.string (mkS r3oc.f0), .string (mkS r3oc.f1), .bool r3oc.f2]), (63, .tuple #[.agg #[.string (mkS r3oc.f0), .string (mkS r3oc.f1), .bool r3oc.f2], i6 r3od, .agg #[.slice A3ou r3oe.f0.f0.length c3ov, i6 r3oe.f0.f1, i6 r3oe.f1], .bool r3of])] (fun a3tm h3tn => ?_)
     refine WL.oq h3tn rfl ?_
     refine owp_nw (fun g_ => (pt g_)) (.cells ([.string (mkS []), .string (mkS []), .bool false] : List Value).toArray 52 (0, 0)) h3tn rfl hS3os (fun a3to W3tq g3tr h3tp hS3ts => ?_)
     refine WL.oq h3tp rfl ?_
     refine owp_nw (fun g_ => (pt g_)) (.cells ([.slice none 0 0, i6 0, i6 0] : List Value).toArray 45 (0, 0)) h3tp rfl hS3ts (fun a3tt W3tv g3tw h3tu hS3tx => ?_)
     have hS3ty := hS3tx.b1
     refine WL.oq h3tu rfl ?_
     refine owp_st 0 [.string (mkS r3oc.f0), .string (mkS r3oc.f1), .bool r3oc.f2] h3tu rfl rfl rfl hS3ty [.string (mkS r3oc.f0), .string (mkS r3oc.f1), .bool r3oc.f2] (fun a3tz W3u1 h3u0 hS3u2 => ?_)
     refine WL.bl 1 13 h3u0 [(15, i6 r3od)] (fun a3u3 h3u4 => ?_)
     have hS3u5 := hS3u2.b1
     refine WL.oq h3u4 rfl ?_
     refine owp_st 0 [.slice A3ou r3oe.f0.f0.length c3ov, i6 r3oe.f0.f1, i6 r3oe.f1] h3u4 rfl rfl rfl hS3u5 [.slice A3ou r3oe.f0.f0.length c3ov, i6 r3oe.f0.f1, i6 r3oe.f1] (fun a3u6 W3u8 h3u7 hS3u9 => ?_)
     refine WL.bl 1 15 h3u7 [(17, .bool r3of)] (fun a3ua h3ub => ?_)
     refine WL.dn ?_
     refine wp_seq ?_
     refine wp_seq ?_
     refine WL.start ?_
     refine WL.bl 2 2 h3ub [(73, .bool (!r3of)), (72, .bool r3of)] (fun a3uc h3ud => ?_)
     refine WL.dn ?_
     clear h3o9 a3o8 h3ok a3oj h3tn a3tm h3tp a3to h3tu a3tt h3u0 a3tz h3u4 a3u3 h3u7 a3u6 h3ub a3ua
     by_cases c3ue : r3of = true
     ·rw [if_pos c3ue] at H
      have hb_ : r3of = true := c3ue
      try rw [hb_] at h3ud
      clear hb_
      refine wp_else h3ud rfl ?_
      refine wp_skip ?_
      refine wp_seq ?_
      refine WL.start ?_
      refine WL.oq h3ud rfl ?_
      refine owp_rn (.agg #[.slice A3ou r3oe.f0.f0.length c3ov, i6 r3oe.f0.f1, i6 r3oe.f1]) h3ud rfl (run_loadN rfl rfl Tryd.underlying45 rfl (cs := [.slice A3ou r3oe.f0.f0.length c3ov, i6 r3oe.f0.f1, i6 r3oe.f1]) (by kernel_rfl) (hS3u9.cells (vs := [.slice A3ou r3oe.f0.f0.length c3ov, i6 r3oe.f0.f1, i6 r3oe.f1]) rfl)) (fun a3uf h3ug => ?_)
      have hS3uh := hS3u9.b4
      refine WL.oq h3ug rfl ?_
      refine owp_st 0 [.slice A3ou r3oe.f0.f0.length c3ov, i6 r3oe.f0.f1, i6 r3oe.f1] h3ug rfl rfl rfl hS3uh [.slice A3ou r3oe.f0.f0.length c3ov, i6 r3oe.f0.f1, i6 r3oe.f1] (fun a3ui W3uk h3uj hS3ul => ?_)
      refine WL.dn ?_
      refine wp_seq ?_
      refine WL.start ?_
      refine WL.bl 2 2 h3uj [(9, i6 r3od), (77, i6 r3od)] (fun a3um h3un => ?_)
      refine WL.dn ?_
      refine wp_seq ?_
      refine WL.start ?_
      refine WL.bl 1 1 h3un [(78, .slice A3cw x3cv.length c3cx)] (fun a3uo h3up => ?_)
      have hS3uq := hS3ul.b2
      refine WL.oq h3up rfl ?_
      refine owp_rn (.agg #[.string (mkS r3oc.f0), .string (mkS r3oc.f1), .bool r3oc.f2]) h3up rfl (run_loadN rfl rfl Tryd.underlying52 rfl (cs := [.string (mkS r3oc.f0), .string (mkS r3oc.f1), .bool r3oc.f2]) (by kernel_rfl) (hS3uq.cells (vs := [.string (mkS r3oc.f0), .string (mkS r3oc.f1), .bool r3oc.f2]) rfl)) (fun a3ur h3us => ?_)
      obtain ⟨_, hrep_, hMe_⟩ := k52qmk (b := b) (w0 := w0) (R := R) (x := (⟨r3oc.f0, r3oc.f1, r3oc.f2⟩ : S52)) 
      subst hMe_
      have hq3ut := hrep_; clear hrep_
      refine WL.oq h3us rfl ?_
      refine owp_nw (fun g_ => .slice (some ⟨g_, 0, none⟩) 1 1) (.cells ([.string (mkS r3oc.f0), .string (mkS r3oc.f1), .bool r3oc.f2] : List Value).toArray 52 (0, 0)) h3us rfl hS3uq (fun a3uu W3uw g3ux h3uv hS3uy => ?_)
      have hr3uz : Row k52 52 b w0 R (.slice (some ⟨g3ux, 0, none⟩) 1 1) ([(⟨r3oc.f0, r3oc.f1, r3oc.f2⟩ : S52)] : List S52) (bx g3ux 52 [.string (mkS r3oc.f0), .string (mkS r3oc.f1), .bool r3oc.f2]) := Row.lit (xs := ([(⟨r3oc.f0, r3oc.f1, r3oc.f2⟩ : S52)] : List S52)) (Mi := []) ⟨_, _, [], _, rfl, rfl, hq3ut, ⟨rfl, rfl⟩⟩ (by simp [maxLen])
      clear h3ud a3uc h3ug a3uf h3uj a3ui h3un a3um h3up a3uo h3us a3ur
      by_cases c3v0 : x3cv.length + 1 ≤ 3518437208883
      ·rw [if_pos c3v0] at H
       have hS3v1 := hS3uy.b8
       refine WL.oq h3uv rfl ?_
       refine owp_app_take (z := .agg #[.string (mkS []), .string (mkS []), .bool false]) (bytes := 40) (dk := k52) h3uv rfl (by kernel_rfl) rfl rfl rfl hr3cz hr3uz hS3v1 Tryd.underlying23 (by kernel_rfl) rfl (by decide) (by decide) (by first | omega | (simp only [List.length_cons, List.length_nil] at *; omega)) (fun a3v2 W3v4 v3v5 M3v6 h3v3 hr3v7 hS3v8 => ?_)
       obtain ⟨y3v9, hy3va, H⟩ := lete H
       have hr3vb : Row k52 52 b w0 R v3v5 y3v9 M3v6 := by rw [hy3va]; exact hr3v7
       clear hr3v7
       obtain ⟨A3vc, c3vd, rfl⟩ := hr3vb.form
       refine WL.bl 1 5 h3v3 [(8, .slice A3vc y3v9.length c3vd)] (fun a3ve h3vf => ?_)
       refine WL.dn ?_
       refine WL.start ?_
       refine WL.bl 1 1 h3vf [(82, i6 x3d1)] (fun a3vg h3vh => ?_)
       have hS3vi := hS3v8.b1
       refine WL.oq h3vh rfl ?_
       refine owp_rn (.agg #[.string (mkS r3oc.f0), .string (mkS r3oc.f1), .bool r3oc.f2]) h3vh rfl (run_loadN rfl rfl Tryd.underlying52 rfl (cs := [.string (mkS r3oc.f0), .string (mkS r3oc.f1), .bool r3oc.f2]) (by kernel_rfl) (hS3vi.cells (vs := [.string (mkS r3oc.f0), .string (mkS r3oc.f1), .bool r3oc.f2]) rfl)) (fun a3vj h3vk => ?_)
       obtain ⟨r3vm, A3vl, H⟩ := bind1 H
       refine WL.oq h3vk rfl ?_
       refine owp_call [.agg #[.string (mkS r3oc.f0), .string (mkS r3oc.f1), .bool r3oc.f2]] h3vk rfl (by kernel_rfl) rfl Tryd.func23 (by kernel_rfl) rfl (by kernel_rfl) (louverref05qSize.calls (p0 := (⟨r3oc.f0, r3oc.f1, r3oc.f2⟩ : S52))  A3vl hS3vi) (fun e3vo W3vn hp3vp => ?_)
       obtain ⟨rfl, hS3vs⟩ := hp3vp
       refine ⟨_, rfl, fun a3vq h3vr => ?_⟩
       refine WL.bl 2 5 h3vr [(10, i6 (IntKind.i64.wrap (x3d1 + r3vm))), (85, i6 (IntKind.i64.wrap (x3d1 + r3vm)))] (fun a3vt h3vu => ?_)
       refine WL.dn ?_
       have hS3vv := hS3vs.b4
       have hS3vw := hS3vv.b3
       obtain ⟨M3vx, hp3vy, hS3vz⟩ := k45qfo (⟨(⟨r3oe.f0.f0, r3oe.f0.f1⟩ : S43), r3oe.f1⟩ : S45) hr3or hS3vw
       have hS3w0 := hS3vz.b1
       have hS3w1 := hS3w0.drop_
       have hS3w2 := hS3w1.b2
       have hS3w3 := hS3w2.drop_
       have hS3w4 := hS3w3.b2
       have hS3w5 := hS3w4.drop_
       have hS3w6 := hS3w5.b1
       have hS3w7 := hS3w6.b3
       have hS3w8 := hS3w7.b3
       have hS3w9 := hS3w8.b3
       exact ⟨kk3dg, by omega, (⟨(⟨r3oe.f0.f0, r3oe.f0.f1⟩ : S43), r3oe.f1⟩ : S45), M3vx, x3cs, M3ct, y3v9, A3vc, c3vd, M3v6, r3od, IntKind.i64.wrap (x3d1 + r3vm), h3vu.keep ⟨rfl, rfl, rfl, rfl, rfl, rfl, rfl, trivial⟩, ⟨H⟩, ⟨by omega⟩, ⟨hS3w9⟩, ⟨hp3vy⟩, ⟨hr3cu⟩, ⟨hr3vb⟩⟩
      ·rw [if_neg c3v0] at H
       cases H
     ·rw [if_neg c3ue] at H
      have hb_ : r3of = false := (Bool.eq_false_iff.2 c3ue)
      try rw [hb_] at h3ud
      clear hb_
      refine wp_then h3ud rfl ?_
      refine wp_seq ?_
      refine WT.start 5 (fun w_ => (∀ j_ u_, ([.slice A3o2 x3cp.f0.f0.length c3o3, i6 x3cp.f0.f1, i6 x3cp.f1] : List Value)[j_]? = some u_ → w_.cell? ((⟨g3bp, 0, none⟩ : Addr).add j_) = some u_) ∧ True) (by kernel_rfl) #[false, false, false, false, false] 5 rfl rfl ?_
      have hS3xi := hS3u9.drew
      refine WT.tk 0 h3ud rfl rfl (.slice (some ⟨g3c3, 0, none⟩) 0 0) (fun _ _ => by kernel_rfl) ⟨(hS3xi.b4.cells (vs := [.slice A3o2 x3cp.f0.f0.length c3o3, i6 x3cp.f0.f1, i6 x3cp.f1]) rfl), trivial⟩ (fun a3xj s3xl h3xk => ?_)
      refine WT.tk 2 h3xk rfl rfl (.slice (some ⟨g3c3, 0, none⟩) 0 0) (fun _ _ => by kernel_rfl) s3xl (fun a3xm s3xo h3xn => ?_)
      refine WT.tk 1 h3xn rfl rfl (.agg #[.slice A3o2 x3cp.f0.f0.length c3o3, i6 x3cp.f0.f1, i6 x3cp.f1]) (fun w_ hs_ => (run_loadN rfl rfl Tryd.underlying45 rfl (cs := [.slice A3o2 x3cp.f0.f0.length c3o3, i6 x3cp.f0.f1, i6 x3cp.f1]) (by kernel_rfl) hs_.1)) s3xo (fun a3xp s3xr h3xq => ?_)
      have hS3xs := hS3xi.b5
      obtain ⟨A3xu, c3xv, M3xw, hr3xx, hS3xt⟩ := k45qoq hr3cu hS3xs
      refine WT.o1 3 h3xq rfl ?_
      refine owp_st 0 [.slice A3o2 x3cp.f0.f0.length c3o3, i6 x3cp.f0.f1, i6 x3cp.f1] h3xq rfl rfl rfl hS3xt [.slice A3o2 x3cp.f0.f0.length c3o3, i6 x3cp.f0.f1, i6 x3cp.f1] (fun a3xy W3y0 h3xz hS3y1 => ?_)
      refine ⟨.inr ⟨(hS3y1.b6.cells (vs := [.slice A3o2 x3cp.f0.f0.length c3o3, i6 x3cp.f0.f1, i6 x3cp.f1]) rfl), trivial⟩, ?_⟩
      refine WT.tk 4 h3xz rfl rfl (i6 9) (fun _ _ => by kernel_rfl) ⟨(hS3y1.b6.cells (vs := [.slice A3o2 x3cp.f0.f0.length c3o3, i6 x3cp.f0.f1, i6 x3cp.f1]) rfl), trivial⟩ (fun a3y2 s3y4 h3y3 => ?_)
      refine WT.dn ?_
      refine wp_ret ?_
      have hS3y5 := hS3y1.drop_
      have hS3y6 := hS3y5.drop_
      have hS3y7 := hS3y6.drop_
      have hS3y8 := hS3y7.drop_
      have hS3y9 := hS3y8.drop_
      have hS3ya := hS3y9.b1
      have hS3yb := hS3ya.drop_
      have hS3yc := hS3yb.b2
      have hS3yd := hS3yc.drop_
      have hS3ye := hS3yd.b1
      obtain ⟨rfl, rfl, rfl⟩ := ret3 H
      repeat (first | with_reducible refine t1 ?_ | with_reducible refine t2 ?_ | with_reducible refine t3 ?_)
      refine body_ret (v := .tuple #[.slice (some ⟨g3c3, 0, none⟩) 0 0, .agg #[.slice A3o2 x3cp.f0.f0.length c3o3, i6 x3cp.f0.f1, i6 x3cp.f1], i6 9]) h3y3 (by kernel_rfl) (res_many (xs := [ResultVar.tmp 4, ResultVar.cell 5 45, ResultVar.tmp 6]) rfl ⟨rfl, ⟨_, rfl, loadVarN Tryd.underlying45 rfl (cs := [.slice A3o2 x3cp.f0.f0.length c3o3, i6 x3cp.f0.f1, i6 x3cp.f1]) (by kernel_rfl) (hS3y1.cells (vs := [.slice A3o2 x3cp.f0.f0.length c3o3, i6 x3cp.f0.f1, i6 x3cp.f1]) rfl)⟩, rfl, trivial⟩ rfl) ?_
      exact ⟨.slice (some ⟨g3c3, 0, none⟩) 0 0, (bx g3c3 52 []), .slice A3o2 x3cp.f0.f0.length c3o3, M3o4, rfl, hr3c5, hr3o5, hS3ye⟩
  ·rw [if_neg c3dm] at H
   cases H
 ·rw [if_neg c3dj] at H
  have hb_ : (decide (x3d0 < (p1.length : Int))) = false := decide_eq_false c3dj
  try rw [hb_] at h3di
  clear hb_
  refine wp_else h3di rfl ?_
  refine wp_exit ?_
  refine wp_seq ?_
  refine wp_seq ?_
  refine WL.start ?_
  refine WL.bl 2 2 h3di [(87, .bool (decide (x3d1 > 4096))), (86, i6 x3d1)] (fun a3yf h3yg => ?_)
  refine WL.dn ?_
  clear h3di a3dh
  by_cases c3yh : x3d1 > 4096
  ·rw [if_pos c3yh] at H
   have hb_ : (decide (x3d1 > 4096)) = true := decide_eq_true c3yh
   try rw [hb_] at h3yg
   clear hb_
   refine wp_then h3yg rfl ?_
   refine wp_seq ?_
   obtain ⟨A3yj, c3yk, M3yl, hr3ym, hS3yi⟩ := k45qoq hr3cr hS3cn
   refine WT.start 5 (fun w_ => (∀ j_ u_, ([.slice A3yj x3cp.f0.f0.length c3yk, i6 x3cp.f0.f1, i6 x3cp.f1] : List Value)[j_]? = some u_ → w_.cell? ((⟨g3bp, 0, none⟩ : Addr).add j_) = some u_) ∧ True) (by kernel_rfl) #[false, false, false, false, false] 5 rfl rfl ?_
   have hS3zv := hS3yi.drew
   refine WT.tk 0 h3yg rfl rfl (.slice (some ⟨g3c3, 0, none⟩) 0 0) (fun _ _ => by kernel_rfl) ⟨(hS3zv.cells (vs := [.slice A3yj x3cp.f0.f0.length c3yk, i6 x3cp.f0.f1, i6 x3cp.f1]) rfl), trivial⟩ (fun a3zw s3zy h3zx => ?_)
   refine WT.tk 2 h3zx rfl rfl (.slice (some ⟨g3c3, 0, none⟩) 0 0) (fun _ _ => by kernel_rfl) s3zy (fun a3zz s401 h400 => ?_)
   refine WT.tk 1 h400 rfl rfl (.agg #[.slice A3yj x3cp.f0.f0.length c3yk, i6 x3cp.f0.f1, i6 x3cp.f1]) (fun w_ hs_ => (run_loadN rfl rfl Tryd.underlying45 rfl (cs := [.slice A3yj x3cp.f0.f0.length c3yk, i6 x3cp.f0.f1, i6 x3cp.f1]) (by kernel_rfl) hs_.1)) s401 (fun a402 s404 h403 => ?_)
   have hS405 := hS3zv.b2
   obtain ⟨A407, c408, M409, hr40a, hS406⟩ := k45qoq hr3cu hS405
   refine WT.o1 3 h403 rfl ?_
   refine owp_st 0 [.slice A3yj x3cp.f0.f0.length c3yk, i6 x3cp.f0.f1, i6 x3cp.f1] h403 rfl rfl rfl hS406 [.slice A3yj x3cp.f0.f0.length c3yk, i6 x3cp.f0.f1, i6 x3cp.f1] (fun a40b W40d h40c hS40e => ?_)
   refine ⟨.inr ⟨(hS40e.b2.cells (vs := [.slice A3yj x3cp.f0.f0.length c3yk, i6 x3cp.f0.f1, i6 x3cp.f1]) rfl), trivial⟩, ?_⟩
   refine WT.tk 4 h40c rfl rfl (i6 11) (fun _ _ => by kernel_rfl) ⟨(hS40e.b2.cells (vs := [.slice A3yj x3cp.f0.f0.length c3yk, i6 x3cp.f0.f1, i6 x3cp.f1]) rfl), trivial⟩ (fun a40f s40h h40g => ?_)
   refine WT.dn ?_
   refine wp_ret ?_
   have hS40i := hS40e.drop_
   have hS40j := hS40i.drop_
   have hS40k := hS40j.drop_
   have hS40l := hS40k.b2
   have hS40m := hS40l.drop_
   have hS40n := hS40m.b1
   obtain ⟨rfl, rfl, rfl⟩ := ret3 H
   repeat (first | with_reducible refine t1 ?_ | with_reducible refine t2 ?_ | with_reducible refine t3 ?_)
   refine body_ret (v := .tuple #[.slice (some ⟨g3c3, 0, none⟩) 0 0, .agg #[.slice A3yj x3cp.f0.f0.length c3yk, i6 x3cp.f0.f1, i6 x3cp.f1], i6 11]) h40g (by kernel_rfl) (res_many (xs := [ResultVar.tmp 4, ResultVar.cell 5 45, ResultVar.tmp 6]) rfl ⟨rfl, ⟨_, rfl, loadVarN Tryd.underlying45 rfl (cs := [.slice A3yj x3cp.f0.f0.length c3yk, i6 x3cp.f0.f1, i6 x3cp.f1]) (by kernel_rfl) (hS40e.cells (vs := [.slice A3yj x3cp.f0.f0.length c3yk, i6 x3cp.f0.f1, i6 x3cp.f1]) rfl)⟩, rfl, trivial⟩ rfl) ?_
   exact ⟨.slice (some ⟨g3c3, 0, none⟩) 0 0, (bx g3c3 52 []), .slice A3yj x3cp.f0.f0.length c3yk, M3yl, rfl, hr3c5, hr3ym, hS40n⟩
  ·rw [if_neg c3yh] at H
   have hb_ : (decide (x3d1 > 4096)) = false := decide_eq_false c3yh
   try rw [hb_] at h3yg
   clear hb_
   refine wp_else h3yg rfl ?_
   refine wp_skip ?_
   refine wp_seq ?_
   obtain ⟨A40p, c40q, M40r, hr40s, hS40o⟩ := k45qoq hr3cr hS3cn
   refine WT.start 5 (fun w_ => (∀ j_ u_, ([.slice A40p x3cp.f0.f0.length c40q, i6 x3cp.f0.f1, i6 x3cp.f1] : List Value)[j_]? = some u_ → w_.cell? ((⟨g3bp, 0, none⟩ : Addr).add j_) = some u_) ∧ True) (by kernel_rfl) #[false, false, false, false, false] 5 rfl rfl ?_
   have hS421 := hS40o.drew
   refine WT.tk 0 h3yg rfl rfl (.slice A3cw x3cv.length c3cx) (fun _ _ => by kernel_rfl) ⟨(hS421.cells (vs := [.slice A40p x3cp.f0.f0.length c40q, i6 x3cp.f0.f1, i6 x3cp.f1]) rfl), trivial⟩ (fun a422 s424 h423 => ?_)
   refine WT.tk 2 h423 rfl rfl (.slice A3cw x3cv.length c3cx) (fun _ _ => by kernel_rfl) s424 (fun a425 s427 h426 => ?_)
   refine WT.tk 1 h426 rfl rfl (.agg #[.slice A40p x3cp.f0.f0.length c40q, i6 x3cp.f0.f1, i6 x3cp.f1]) (fun w_ hs_ => (run_loadN rfl rfl Tryd.underlying45 rfl (cs := [.slice A40p x3cp.f0.f0.length c40q, i6 x3cp.f0.f1, i6 x3cp.f1]) (by kernel_rfl) hs_.1)) s427 (fun a428 s42a h429 => ?_)
   have hS42b := hS421.b2
   obtain ⟨A42d, c42e, M42f, hr42g, hS42c⟩ := k45qoq hr3cu hS42b
   refine WT.o1 3 h429 rfl ?_
   refine owp_st 0 [.slice A40p x3cp.f0.f0.length c40q, i6 x3cp.f0.f1, i6 x3cp.f1] h429 rfl rfl rfl hS42c [.slice A40p x3cp.f0.f0.length c40q, i6 x3cp.f0.f1, i6 x3cp.f1] (fun a42h W42j h42i hS42k => ?_)
   refine ⟨.inr ⟨(hS42k.b2.cells (vs := [.slice A40p x3cp.f0.f0.length c40q, i6 x3cp.f0.f1, i6 x3cp.f1]) rfl), trivial⟩, ?_⟩
   refine WT.tk 4 h42i rfl rfl (i6 0) (fun _ _ => by kernel_rfl) ⟨(hS42k.b2.cells (vs := [.slice A40p x3cp.f0.f0.length c40q, i6 x3cp.f0.f1, i6 x3cp.f1]) rfl), trivial⟩ (fun a42l s42n h42m => ?_)
   refine WT.dn ?_
   refine wp_ret ?_
   have hS42o := hS42k.drop_
   have hS42p := hS42o.drop_
   have hS42q := hS42p.drop_
   have hS42r := hS42q.b1
   have hS42s := hS42r.drop_
   have hS42t := hS42s.b1
   obtain ⟨rfl, rfl, rfl⟩ := ret3 H
   repeat (first | with_reducible refine t1 ?_ | with_reducible refine t2 ?_ | with_reducible refine t3 ?_)
   refine body_ret (v := .tuple #[.slice A3cw x3cv.length c3cx, .agg #[.slice A40p x3cp.f0.f0.length c40q, i6 x3cp.f0.f1, i6 x3cp.f1], i6 0]) h42m (by kernel_rfl) (res_many (xs := [ResultVar.tmp 4, ResultVar.cell 5 45, ResultVar.tmp 6]) rfl ⟨rfl, ⟨_, rfl, loadVarN Tryd.underlying45 rfl (cs := [.slice A40p x3cp.f0.f0.length c40q, i6 x3cp.f0.f1, i6 x3cp.f1]) (by kernel_rfl) (hS42k.cells (vs := [.slice A40p x3cp.f0.f0.length c40q, i6 x3cp.f0.f1, i6 x3cp.f1]) rfl)⟩, rfl, trivial⟩ rfl) ?_
   exact ⟨.slice A3cw x3cv.length c3cx, M3cy, .slice A40p x3cp.f0.f0.length c40q, M40r, rfl, hr3cz, hr40s, hS42t⟩

/-! ### louver/louverref06.Same -/
def louverref06qSame.l0 : Nat → Int → (List S52) → (List S52) → Option (Bool)
 | 0, _, _, _ => none
 | k + 1, x19u, p0, p1 => if x19u < (p0.length : Int) then (if 0 ≤ x19u then (if x19u < (p1.length : Int) then (if (decide (((gt z52 p0 x19u).f0) = ((gt z52 p1 x19u).f0)) && (decide (((gt z52 p0 x19u).f1) = ((gt z52 p1 x19u).f1)) && decide (((gt z52 p0 x19u).f2) = ((gt z52 p1 x19u).f2)))) = true then (louverref06qSame.l0 k (IntKind.i64.wrap (x19u + 1)) p0 p1) else (some false)) else (none)) else (none)) else (some true)
def louverref06qSame.f (k : Nat) (p0 : (List S52)) (p1 : (List S52)) : Option (Bool) := if (p0.length : Int) = (p1.length : Int) then (louverref06qSame.l0 k 0 p0 p1) else (some false)
set_option maxHeartbeats 20000000 in
set_option maxRecDepth 100000 in
theorem louverref06qSame.calls (k : Nat) {b : Nat} {w0 W : World} {R : Frag} {Fs : List Frag} {p0 : (List S52)} {p1 : (List S52)} {v0 : Value} {v1 : Value} {r0q : Bool} (hp0 : Rds k52 b w0 R v0 p0) (hp1 : Rds k52 b w0 R v1 p1) (H : louverref06qSame.f k p0 p1 = some r0q) (hS : St b w0 W R (Fs)) :
  Calls Tryd.prog 21 ([v0, v1] : List Value).toArray W (fun e W' => e = .returned (.bool r0q) ∧ St b w0 W' R (Fs)) := by
 obtain ⟨A0, c0, rfl⟩ := hp0.form
 obtain ⟨A1, c1, rfl⟩ := hp1.form
 unfold louverref06qSame.f at H
 refine calls_enter Tryd.func21 rfl 26 rfl (by kernel_rfl) (fun a h => ?_)
 refine wp_seq ?_
 refine WL.start ?_
 refine WL.bl 1 1 h [(4, .bool false)] (fun a19i h19j => ?_)
 refine WL.dn ?_
 refine wp_seq ?_
 refine wp_seq ?_
 refine WL.start ?_
 refine WL.bl 5 5 h19j [(10, .bool (!decide ((p0.length : Int) = (p1.length : Int)))), (9, i6 (p1.length : Int)), (8, .slice A1 p1.length c1), (7, i6 (p0.length : Int)), (6, .slice A0 p0.length c0)] (fun a19k h19l => ?_)
 refine WL.dn ?_
 clear h19j a19i
 by_cases c19m : (p0.length : Int) = (p1.length : Int)
 ·rw [if_pos c19m] at H
  have hb_ : (decide ((p0.length : Int) = (p1.length : Int))) = true := decide_eq_true c19m
  try rw [hb_] at h19l
  clear hb_
  refine wp_else h19l rfl ?_
  refine wp_skip ?_
  refine wp_seq ?_
  refine wp_seq ?_
  refine WL.start ?_
  refine WL.bl 3 3 h19l [(13, i6 0), (12, i6 (p0.length : Int)), (11, .slice A0 p0.length c0)] (fun a19n h19o => ?_)
  refine WL.dn ?_
  refine wp_block ?_
  clear h19l a19k
  refine wp_loop_ghost (fun kq_ a_ W_ => ∃ (x19u : Int), Hd a_ 26 [(0, .slice A0 p0.length c0), (1, .slice A1 p1.length c1), (12, i6 (p0.length : Int)), (13, i6 x19u)] ∧ Asd (louverref06qSame.l0 kq_ x19u p0 p1 = some r0q) ∧ Asd (kq_ ≤ k) ∧ Asd (St b w0 W_ R (Fs))) k ⟨0, h19o.keep ⟨rfl, rfl, rfl, rfl, trivial⟩, ⟨H⟩, ⟨Nat.le_refl _⟩, ⟨hS⟩⟩ ?_
  clear H hS
  rintro kk19t a19q W19r ⟨x19u, h19p, ⟨H⟩, ⟨hkkk19t⟩, ⟨hS19s⟩⟩
  obtain _ | kk19v := kk19t
  ·exact absurd H (by simp [louverref06qSame.l0])
  simp only [louverref06qSame.l0] at H
  refine wp_seq ?_
  refine WL.start ?_
  refine WL.bl 1 1 h19p [(14, .bool (decide (x19u < (p0.length : Int))))] (fun a19w h19x => ?_)
  refine WL.dn ?_
  refine wp_seq ?_
  clear h19p a19q
  by_cases c19y : x19u < (p0.length : Int)
  ·rw [if_pos c19y] at H
   have hb_ : (decide (x19u < (p0.length : Int))) = true := decide_eq_true c19y
   try rw [hb_] at h19x
   clear hb_
   refine wp_then h19x rfl ?_
   refine wp_skip ?_
   refine wp_seq ?_
   refine wp_block ?_
   refine wp_seq ?_
   refine WL.start ?_
   refine WL.bl 2 2 h19x [(5, i6 x19u), (15, i6 x19u)] (fun a19z h1a0 => ?_)
   refine WL.dn ?_
   refine wp_seq ?_
   refine WT.start 9 (fun w_ => (∀ a_ u_, Kn b w0 R a_ u_ → w_.cell? a_ = some u_) ∧ True) (by kernel_rfl) #[false, false, false, false, false, false, false, false, false] 9 rfl rfl ?_
   have hS1cn := hS19s.drew
   refine WT.tk 0 h1a0 rfl rfl (.slice A0 p0.length c0) (fun _ _ => by kernel_rfl) ⟨(fun _ _ hk_ => hS1cn.kn hk_), trivial⟩ (fun a1co s1cq h1cp => ?_)
   refine WT.tk 1 h1cp rfl rfl (i6 x19u) (fun _ _ => by kernel_rfl) s1cq (fun a1cr s1ct h1cs => ?_)
   refine WT.tk 4 h1cs rfl rfl (.slice A1 p1.length c1) (fun _ _ => by kernel_rfl) s1ct (fun a1cu s1cw h1cv => ?_)
   refine WT.tk 5 h1cv rfl rfl (i6 x19u) (fun _ _ => by kernel_rfl) s1cw (fun a1cx s1cz h1cy => ?_)
   clear h19x a19w h1a0 a19z h1cp a1co h1cs a1cr h1cv a1cu
   by_cases c1d0 : 0 ≤ x19u
   ·rw [if_pos c1d0] at H
    have hi1d3 : 0 ≤ x19u := by first | assumption | omega
    have hi1d4 : x19u < (p0.length : Int) := by first | assumption | omega
    obtain ⟨ad1d1, _, ha1d2, -, -⟩ := Rds.elemAny hp0 hi1d3 (gt_get (z := z52) hi1d3 hi1d4)
    refine WT.tk 2 h1cy rfl rfl (.pointer (some (ad1d1.add (x19u.toNat * 3)))) (fun w_ hs_ => (run_idx (ad := ad1d1) (sz := 3) rfl (by rw [← ha1d2]; rfl) rfl Tryd.underlying23 (by kernel_rfl) hi1d3 hi1d4)) s1cz (fun a1d5 s1d7 h1d6 => ?_)
    obtain ⟨ad1d8, cs1d9, ha1da, hr1dc, hc1db⟩ := Rds.elemAny hp0 hi1d3 (gt_get (z := z52) hi1d3 hi1d4)
    rw [ha1d2] at ha1da; obtain rfl := Option.some.inj ha1da
    obtain rfl := k52qrd hr1dc
    refine WT.tk 3 h1d6 rfl rfl (.agg #[.string (mkS ((gt z52 p0 x19u).f0)), .string (mkS ((gt z52 p0 x19u).f1)), .bool ((gt z52 p0 x19u).f2)]) (fun w_ hs_ => (run_loadN rfl rfl Tryd.underlying52 rfl (cs := [.string (mkS ((gt z52 p0 x19u).f0)), .string (mkS ((gt z52 p0 x19u).f1)), .bool ((gt z52 p0 x19u).f2)]) (by kernel_rfl) (hc1db _ hs_.1))) s1d7 (fun a1dd s1df h1de => ?_)
    clear h1cy a1cx h1d6 a1d5
    by_cases c1dg : x19u < (p1.length : Int)
    ·rw [if_pos c1dg] at H
     have hi1dj : 0 ≤ x19u := by first | assumption | omega
     have hi1dk : x19u < (p1.length : Int) := by first | assumption | omega
     obtain ⟨ad1dh, _, ha1di, -, -⟩ := Rds.elemAny hp1 hi1dj (gt_get (z := z52) hi1dj hi1dk)
     refine WT.tk 6 h1de rfl rfl (.pointer (some (ad1dh.add (x19u.toNat * 3)))) (fun w_ hs_ => (run_idx (ad := ad1dh) (sz := 3) rfl (by rw [← ha1di]; rfl) rfl Tryd.underlying23 (by kernel_rfl) hi1dj hi1dk)) s1df (fun a1dl s1dn h1dm => ?_)
     obtain ⟨ad1do, cs1dp, ha1dq, hr1ds, hc1dr⟩ := Rds.elemAny hp1 hi1dj (gt_get (z := z52) hi1dj hi1dk)
     rw [ha1di] at ha1dq; obtain rfl := Option.some.inj ha1dq
     obtain rfl := k52qrd hr1ds
     refine WT.tk 7 h1dm rfl rfl (.agg #[.string (mkS ((gt z52 p1 x19u).f0)), .string (mkS ((gt z52 p1 x19u).f1)), .bool ((gt z52 p1 x19u).f2)]) (fun w_ hs_ => (run_loadN rfl rfl Tryd.underlying52 rfl (cs := [.string (mkS ((gt z52 p1 x19u).f0)), .string (mkS ((gt z52 p1 x19u).f1)), .bool ((gt z52 p1 x19u).f2)]) (by kernel_rfl) (hc1dr _ hs_.1))) s1dn (fun a1dt s1dv h1du => ?_)
     refine WT.tk 8 h1du rfl rfl (.bool (!(decide (((gt z52 p0 x19u).f0) = ((gt z52 p1 x19u).f0)) && (decide (((gt z52 p0 x19u).f1) = ((gt z52 p1 x19u).f1)) && decide (((gt z52 p0 x19u).f2) = ((gt z52 p1 x19u).f2)))))) (fun w_ hs_ => (run_stne (xs := [.string (mkS ((gt z52 p0 x19u).f0)), .string (mkS ((gt z52 p0 x19u).f1)), .bool ((gt z52 p0 x19u).f2)]) (ys := [.string (mkS ((gt z52 p1 x19u).f0)), .string (mkS ((gt z52 p1 x19u).f1)), .bool ((gt z52 p1 x19u).f2)]) rfl rfl rfl (by kernel_rfl) (eqs_of Tryd.underlying52 (by kernel_rfl) (eqf_cons rfl (by kernel_rfl) rfl rfl (eqi_str Tryd.underlying9) (eqf_cons rfl (by kernel_rfl) rfl rfl (eqi_str Tryd.underlying9) (eqf_last rfl (by kernel_rfl) rfl rfl (eqi_bool Tryd.underlying4))))))) s1dv (fun a1dw s1dy h1dx => ?_)
     refine WT.dn ?_
     clear h1de a1dd h1dm a1dl h1du a1dt
     by_cases c1dz : (decide (((gt z52 p0 x19u).f0) = ((gt z52 p1 x19u).f0)) && (decide (((gt z52 p0 x19u).f1) = ((gt z52 p1 x19u).f1)) && decide (((gt z52 p0 x19u).f2) = ((gt z52 p1 x19u).f2)))) = true
     ·rw [if_pos c1dz] at H
      have hb_ : (decide (((gt z52 p0 x19u).f0) = ((gt z52 p1 x19u).f0)) && (decide (((gt z52 p0 x19u).f1) = ((gt z52 p1 x19u).f1)) && decide (((gt z52 p0 x19u).f2) = ((gt z52 p1 x19u).f2)))) = true := c1dz
      try rw [hb_] at h1dx
      clear hb_
      refine wp_else h1dx rfl ?_
      refine wp_skip ?_
      refine WL.start ?_
      refine WL.bl 2 2 h1dx [(13, i6 (IntKind.i64.wrap (x19u + 1))), (25, i6 (IntKind.i64.wrap (x19u + 1)))] (fun a1e0 h1e1 => ?_)
      refine WL.dn ?_
      exact ⟨kk19v, by omega, IntKind.i64.wrap (x19u + 1), h1e1.keep ⟨rfl, rfl, rfl, rfl, trivial⟩, ⟨H⟩, ⟨by omega⟩, ⟨hS1cn⟩⟩
     ·rw [if_neg c1dz] at H
      have hb_ : (decide (((gt z52 p0 x19u).f0) = ((gt z52 p1 x19u).f0)) && (decide (((gt z52 p0 x19u).f1) = ((gt z52 p1 x19u).f1)) && decide (((gt z52 p0 x19u).f2) = ((gt z52 p1 x19u).f2)))) = false := (Bool.eq_false_iff.2 c1dz)
      try rw [hb_] at h1dx
      clear hb_
      refine wp_then h1dx rfl ?_
      refine wp_seq ?_
      refine WL.start ?_
      refine WL.bl 1 1 h1dx [(4, .bool false)] (fun a1e2 h1e3 => ?_)
      refine WL.dn ?_
      refine wp_ret ?_
      obtain rfl := Option.some.inj H
      repeat (first | with_reducible refine t1 ?_ | with_reducible refine t2 ?_ | with_reducible refine t3 ?_)
      refine bret (.bool false) h1e3 ?_
      exact ⟨rfl, hS1cn⟩
    ·rw [if_neg c1dg] at H
     cases H
   ·rw [if_neg c1d0] at H
    cases H
  ·rw [if_neg c19y] at H
   have hb_ : (decide (x19u < (p0.length : Int))) = false := decide_eq_false c19y
   try rw [hb_] at h19x
   clear hb_
   refine wp_else h19x rfl ?_
   refine wp_exit ?_
   refine wp_seq ?_
   refine WL.start ?_
   refine WL.bl 1 1 h19x [(4, .bool true)] (fun a1e4 h1e5 => ?_)
   refine WL.dn ?_
   refine wp_ret ?_
   obtain rfl := Option.some.inj H
   repeat (first | with_reducible refine t1 ?_ | with_reducible refine t2 ?_ | with_reducible refine t3 ?_)
   refine bret (.bool true) h1e5 ?_
   exact ⟨rfl, hS19s⟩
 ·rw [if_neg c19m] at H
  have hb_ : (decide ((p0.length : Int) = (p1.length : Int))) = false := decide_eq_false c19m
  try rw [hb_] at h19l
  clear hb_
  refine wp_then h19l rfl ?_
  refine wp_seq ?_
  refine WL.start ?_
  refine WL.bl 1 1 h19l [(4, .bool false)] (fun a1e6 h1e7 => ?_)
  refine WL.dn ?_
  refine wp_ret ?_
  obtain rfl := Option.some.inj H
  repeat (first | with_reducible refine t1 ?_ | with_reducible refine t2 ?_ | with_reducible refine t3 ?_)
  refine bret (.bool false) h1e7 ?_
  exact ⟨rfl, hS⟩

/-! ### (*louver/dyntable.Table).Size -/
def dyntable_Table_Size.f (p0 : S79) : Option (Int) := some p0.f1
set_option maxHeartbeats 20000000 in
set_option maxRecDepth 100000 in
theorem dyntable_Table_Size.calls {b : Nat} {w0 W : World} {R : Frag} {Fs : List Frag} {p0 : S79}  {v0 : Value} {M0 : Frag} {r0q : Int} (hp0 : Ptr k79 79 b w0 R v0 p0 M0) (H : dyntable_Table_Size.f p0 = some r0q) (hS : St b w0 W R (M0 :: Fs)) :
  Calls Tryd.prog 29 ([v0] : List Value).toArray W (fun e W' => ∃ (O0q : Frag), e = .returned (i6 r0q) ∧ Ptr k79 79 b w0 R v0 p0 O0q ∧ St b w0 W' R (O0q :: Fs)) := by
 unfold dyntable_Table_Size.f at H
 refine calls_enter Tryd.func29 rfl 9 rfl (by kernel_rfl) (fun a h => ?_)
 refine wp_seq ?_
 refine WL.start ?_
 refine WL.bl 1 1 h [(2, i6 0)] (fun a10n h10o => ?_)
 refine WL.dn ?_
 refine wp_seq ?_
 refine wp_seq ?_
 refine WL.start ?_
 refine WL.bl 1 1 h10o [(3, v0)] (fun a10p h10q => ?_)
 obtain ⟨g10s, A10t, c10u, M10v, rfl, hr10w, hS10r⟩ := k79qop hp0 hS
 refine WL.bl 1 2 h10q [(4, .bool false)] (fun a10x h10y => ?_)
 refine WL.dn ?_
 refine wp_else h10y rfl ?_
 refine wp_skip ?_
 refine wp_seq ?_
 refine WL.start ?_
 refine WL.bl 3 3 h10y [(7, .pointer (some ⟨g10s, 1, none⟩)), (6, pt g10s), (5, pt g10s)] (fun a10z h110 => ?_)
 refine WL.oq h110 rfl ?_
 refine owp_rn (i6 p0.f1) h110 rfl (run_load1 rfl rfl Tryd.underlying3 rfl (hS10r.cell (i := 1) rfl)) (fun a111 h112 => ?_)
 refine WL.bl 1 5 h112 [(2, i6 p0.f1)] (fun a113 h114 => ?_)
 refine WL.dn ?_
 refine wp_ret ?_
 have hS115 := hS10r.b1
 have hS116 := hS115.b1
 obtain ⟨M117, hp118, hS119⟩ := k79qfo p0 hr10w hS116
 obtain rfl := Option.some.inj H
 repeat (first | with_reducible refine t1 ?_ | with_reducible refine t2 ?_ | with_reducible refine t3 ?_)
 refine bret (i6 p0.f1) h114 ?_
 exact ⟨M117, rfl, hp118, hS119⟩

/-! ### (*louver/hpack.Encoder).Table -/
def hpack_Encoder_Table.f (p0 : S61) : Option (Int) := bnd1 (dyntable_Table_Size.f p0.f0) fun r11d => (some r11d)
set_option maxHeartbeats 20000000 in
set_option maxRecDepth 100000 in
theorem hpack_Encoder_Table.calls {b : Nat} {w0 W : World} {R : Frag} {Fs : List Frag} {p0 : S61}  {v0 : Value} {M0 : Frag} {r0q : Int} (hp0 : Ptr k61 61 b w0 R v0 p0 M0) (H : hpack_Encoder_Table.f p0 = some r0q) (hS : St b w0 W R (M0 :: Fs)) :
  Calls Tryd.prog 14 ([v0] : List Value).toArray W (fun e W' => ∃ (O0q : Frag), e = .returned (i6 r0q) ∧ Ptr k61 61 b w0 R v0 p0 O0q ∧ St b w0 W' R (O0q :: Fs)) := by
 unfold hpack_Encoder_Table.f at H
 refine calls_enter Tryd.func14 rfl 10 rfl (by kernel_rfl) (fun a h => ?_)
 refine wp_seq ?_
 refine WL.start ?_
 refine WL.bl 1 1 h [(2, i6 0)] (fun a10w h10x => ?_)
 refine WL.dn ?_
 refine wp_seq ?_
 refine wp_seq ?_
 refine WL.start ?_
 refine WL.bl 1 1 h10x [(3, v0)] (fun a10y h10z => ?_)
 obtain ⟨g111, g112, M113, rfl, hr114, hS110⟩ := k61qop hp0 hS
 refine WL.bl 1 2 h10z [(4, .bool false)] (fun a115 h116 => ?_)
 refine WL.dn ?_
 refine wp_else h116 rfl ?_
 refine wp_skip ?_
 refine wp_seq ?_
 refine WL.start ?_
 refine WL.bl 3 3 h116 [(7, pt g111), (6, pt g111), (5, pt g111)] (fun a117 h118 => ?_)
 refine WL.oq h118 rfl ?_
 refine owp_rn (pt g112) h118 rfl (run_load1 rfl rfl Tryd.underlying59 rfl (hS110.cell (i := 0) rfl)) (fun a119 h11a => ?_)
 have hS11b := hS110.b1
 obtain ⟨r11d, A11c, H⟩ := bind1 H
 refine WL.oq h11a rfl ?_
 refine owp_call [(pt g112)] h11a rfl (by kernel_rfl) rfl Tryd.func29 (by kernel_rfl) rfl (by kernel_rfl) (dyntable_Table_Size.calls hr114 A11c hS11b) (fun e11f W11e hp11g => ?_)
 obtain ⟨M11j, rfl, hr11k, hS11l⟩ := hp11g
 refine ⟨_, rfl, fun a11h h11i => ?_⟩
 refine WL.bl 1 6 h11i [(2, i6 r11d)] (fun a11m h11n => ?_)
 refine WL.dn ?_
 refine wp_ret ?_
 have hS11o := hS11l.b1
 obtain ⟨M11p, hp11q, hS11r⟩ := k61qfo p0 hr11k hS11o
 obtain rfl := Option.some.inj H
 repeat (first | with_reducible refine t1 ?_ | with_reducible refine t2 ?_ | with_reducible refine t3 ?_)
 refine bret (i6 r11d) h11n ?_
 exact ⟨M11p, rfl, hp11q, hS11r⟩

/-! ### (*louver/hpack.Encoder).Table -/
def hpack_Encoder_Table_nil.f  : Option (Int) := some 0
set_option maxHeartbeats 20000000 in
set_option maxRecDepth 100000 in
theorem hpack_Encoder_Table_nil.calls {b : Nat} {w0 W : World} {R : Frag} {Fs : List Frag}   {r0q : Int}  (H : hpack_Encoder_Table_nil.f = some r0q) (hS : St b w0 W R (Fs)) :
  Calls Tryd.prog 14 ([.pointer none] : List Value).toArray W (fun e W' => e = .returned (i6 r0q) ∧ St b w0 W' R (Fs)) := by
 unfold hpack_Encoder_Table_nil.f at H
 refine calls_enter Tryd.func14 rfl 10 rfl (by kernel_rfl) (fun a h => ?_)
 refine wp_seq ?_
 refine WL.start ?_
 refine WL.bl 1 1 h [(2, i6 0)] (fun a106 h107 => ?_)
 refine WL.dn ?_
 refine wp_seq ?_
 refine wp_seq ?_
 refine WL.start ?_
 refine WL.bl 2 2 h107 [(4, .bool true), (3, .pointer none)] (fun a108 h109 => ?_)
 refine WL.dn ?_
 refine wp_then h109 rfl ?_
 refine wp_seq ?_
 refine WL.start ?_
 refine WL.bl 1 1 h109 [(2, i6 0)] (fun a10a h10b => ?_)
 refine WL.dn ?_
 refine wp_ret ?_
 obtain rfl := Option.some.inj H
 repeat (first | with_reducible refine t1 ?_ | with_reducible refine t2 ?_ | with_reducible refine t3 ?_)
 refine bret (i6 0) h10b ?_
 exact ⟨rfl, hS⟩

/-! ### (*louver/hpack.Decoder).Table -/
def hpack_Decoder_Table.f (p0 : S64) : Option (Int) := bnd1 (dyntable_Table_Size.f p0.f0) fun r11d => (some r11d)
set_option maxHeartbeats 20000000 in
set_option maxRecDepth 100000 in
theorem hpack_Decoder_Table.calls {b : Nat} {w0 W : World} {R : Frag} {Fs : List Frag} {p0 : S64}  {v0 : Value} {M0 : Frag} {r0q : Int} (hp0 : Ptr k64 64 b w0 R v0 p0 M0) (H : hpack_Decoder_Table.f p0 = some r0q) (hS : St b w0 W R (M0 :: Fs)) :
  Calls Tryd.prog 15 ([v0] : List Value).toArray W (fun e W' => ∃ (O0q : Frag), e = .returned (i6 r0q) ∧ Ptr k64 64 b w0 R v0 p0 O0q ∧ St b w0 W' R (O0q :: Fs)) := by
 unfold hpack_Decoder_Table.f at H
 refine calls_enter Tryd.func15 rfl 10 rfl (by kernel_rfl) (fun a h => ?_)
 refine wp_seq ?_
 refine WL.start ?_
 refine WL.bl 1 1 h [(2, i6 0)] (fun a10w h10x => ?_)
 refine WL.dn ?_
 refine wp_seq ?_
 refine wp_seq ?_
 refine WL.start ?_
 refine WL.bl 1 1 h10x [(3, v0)] (fun a10y h10z => ?_)
 obtain ⟨g111, g112, M113, rfl, hr114, hS110⟩ := k64qop hp0 hS
 refine WL.bl 1 2 h10z [(4, .bool false)] (fun a115 h116 => ?_)
 refine WL.dn ?_
 refine wp_else h116 rfl ?_
 refine wp_skip ?_
 refine wp_seq ?_
 refine WL.start ?_
 refine WL.bl 3 3 h116 [(7, pt g111), (6, pt g111), (5, pt g111)] (fun a117 h118 => ?_)
 refine WL.oq h118 rfl ?_
 refine owp_rn (pt g112) h118 rfl (run_load1 rfl rfl Tryd.underlying59 rfl (hS110.cell (i := 0) rfl)) (fun a119 h11a => ?_)
 have hS11b := hS110.b1
 obtain ⟨r11d, A11c, H⟩ := bind1 H
 refine WL.oq h11a rfl ?_
 refine owp_call [(pt g112)] h11a rfl (by kernel_rfl) rfl Tryd.func29 (by kernel_rfl) rfl (by kernel_rfl) (dyntable_Table_Size.calls hr114 A11c hS11b) (fun e11f W11e hp11g => ?_)
 obtain ⟨M11j, rfl, hr11k, hS11l⟩ := hp11g
 refine ⟨_, rfl, fun a11h h11i => ?_⟩
 refine WL.bl 1 6 h11i [(2, i6 r11d)] (fun a11m h11n => ?_)
 refine WL.dn ?_
 refine wp_ret ?_
 have hS11o := hS11l.b1
 obtain ⟨M11p, hp11q, hS11r⟩ := k64qfo p0 hr11k hS11o
 obtain rfl := Option.some.inj H
 repeat (first | with_reducible refine t1 ?_ | with_reducible refine t2 ?_ | with_reducible refine t3 ?_)
 refine bret (i6 r11d) h11n ?_
 exact ⟨M11p, rfl, hp11q, hS11r⟩

/-! ### (*louver/hpack.Decoder).Table -/
def hpack_Decoder_Table_nil.f  : Option (Int) := some 0
set_option maxHeartbeats 20000000 in
set_option maxRecDepth 100000 in
theorem hpack_Decoder_Table_nil.calls {b : Nat} {w0 W : World} {R : Frag} {Fs : List Frag}   {r0q : Int}  (H : hpack_Decoder_Table_nil.f = some r0q) (hS : St b w0 W R (Fs)) :
  Calls Tryd.prog 15 ([.pointer none] : List Value).toArray W (fun e W' => e = .returned (i6 r0q) ∧ St b w0 W' R (Fs)) := by
 unfold hpack_Decoder_Table_nil.f at H
 refine calls_enter Tryd.func15 rfl 10 rfl (by kernel_rfl) (fun a h => ?_)
 refine wp_seq ?_
 refine WL.start ?_
 refine WL.bl 1 1 h [(2, i6 0)] (fun a106 h107 => ?_)
 refine WL.dn ?_
 refine wp_seq ?_
 refine wp_seq ?_
 refine WL.start ?_
 refine WL.bl 2 2 h107 [(4, .bool true), (3, .pointer none)] (fun a108 h109 => ?_)
 refine WL.dn ?_
 refine wp_then h109 rfl ?_
 refine wp_seq ?_
 refine WL.start ?_
 refine WL.bl 1 1 h109 [(2, i6 0)] (fun a10a h10b => ?_)
 refine WL.dn ?_
 refine wp_ret ?_
 obtain rfl := Option.some.inj H
 repeat (first | with_reducible refine t1 ?_ | with_reducible refine t2 ?_ | with_reducible refine t3 ?_)
 refine bret (i6 0) h10b ?_
 exact ⟨rfl, hS⟩

/-! ### (louver/louverref05.T).Size -/
def louverref05qT_Size.l0 : Nat → Int → Int → S43 → Option (Int)
 | 0, _, _, _ => none
 | k + 1, x142, x143, p0 => if x143 < (p0.f0.length : Int) then (if 0 ≤ x143 then (bnd1 (louverref05qSize.f (⟨(gt z52 p0.f0 x143).f0, (gt z52 p0.f0 x143).f1, (gt z52 p0.f0 x143).f2⟩ : S52)) fun r14v => (louverref05qT_Size.l0 k (IntKind.i64.wrap (x142 + r14v)) (IntKind.i64.wrap (x143 + 1)) p0)) else (none)) else (some x142)
def louverref05qT_Size.f (k : Nat) (p0 : S43) : Option (Int) := louverref05qT_Size.l0 k 0 0 p0
set_option maxHeartbeats 20000000 in
set_option maxRecDepth 100000 in
theorem louverref05qT_Size.calls (k : Nat) {b : Nat} {w0 W : World} {R : Frag} {Fs : List Frag} {p0 : S43} {v0q0 : Value} {r0q : Int} (hp0q0 : Rds k52 b w0 R v0q0 p0.f0) (H : louverref05qT_Size.f k p0 = some r0q) (hS : St b w0 W R (Fs)) :
  Calls Tryd.prog 22 ([.agg #[v0q0, i6 p0.f1]] : List Value).toArray W (fun e W' => e = .returned (i6 r0q) ∧ St b w0 W' R (Fs)) := by
 obtain ⟨A0q0, c0q0, rfl⟩ := hp0q0.form
 unfold louverref05qT_Size.f at H
 refine calls_enter Tryd.func22 rfl 21 rfl (by kernel_rfl) (fun a h => ?_)
 refine wp_seq ?_
 refine WL.start ?_
 refine WL.oq h rfl ?_
 refine owp_nw (fun g_ => (pt g_)) (.cells ([.slice A0q0 p0.f0.length c0q0, i6 p0.f1] : List Value).toArray 43 (0, 0)) h rfl hS (fun a13i W13k g13l h13j hS13m => ?_)
 refine WL.bl 1 2 h13j [(2, i6 0)] (fun a13n h13o => ?_)
 refine WL.dn ?_
 refine wp_seq ?_
 refine WL.start ?_
 refine WL.bl 1 1 h13o [(3, i6 0)] (fun a13p h13q => ?_)
 refine WL.dn ?_
 refine wp_seq ?_
 refine wp_seq ?_
 refine WL.start ?_
 refine WL.bl 1 1 h13q [(5, pt g13l)] (fun a13r h13s => ?_)
 refine WL.oq h13s rfl ?_
 refine owp_rn (.slice A0q0 p0.f0.length c0q0) h13s rfl (run_load1 rfl rfl Tryd.underlying23 rfl (hS13m.cell (i := 0) rfl)) (fun a13t h13u => ?_)
 refine WL.bl 2 4 h13u [(8, i6 0), (7, i6 (p0.f0.length : Int))] (fun a13v h13w => ?_)
 refine WL.dn ?_
 refine wp_block ?_
 clear h13j a13i h13o a13n h13q a13p h13s a13r h13u a13t
 refine wp_loop_ghost (fun kq_ a_ W_ => ∃ (x142 : Int), ∃ (x143 : Int), Hd a_ 21 [(1, pt g13l), (3, i6 x142), (7, i6 (p0.f0.length : Int)), (8, i6 x143)] ∧ Asd (louverref05qT_Size.l0 kq_ x142 x143 p0 = some r0q) ∧ Asd (kq_ ≤ k) ∧ Asd (St b w0 W_ R ((bx g13l 43 [.slice A0q0 p0.f0.length c0q0, i6 p0.f1]) :: Fs))) k ⟨0, 0, h13w.keep ⟨rfl, rfl, rfl, rfl, trivial⟩, ⟨H⟩, ⟨Nat.le_refl _⟩, ⟨hS13m⟩⟩ ?_
 clear H hS13m
 rintro kk141 a13y W13z ⟨x142, x143, h13x, ⟨H⟩, ⟨hkkk141⟩, ⟨hS140⟩⟩
 obtain _ | kk144 := kk141
 ·exact absurd H (by simp [louverref05qT_Size.l0])
 simp only [louverref05qT_Size.l0] at H
 refine wp_seq ?_
 refine WL.start ?_
 refine WL.bl 1 1 h13x [(9, .bool (decide (x143 < (p0.f0.length : Int))))] (fun a145 h146 => ?_)
 refine WL.dn ?_
 refine wp_seq ?_
 clear h13x a13y
 by_cases c147 : x143 < (p0.f0.length : Int)
 ·rw [if_pos c147] at H
  have hb_ : (decide (x143 < (p0.f0.length : Int))) = true := decide_eq_true c147
  try rw [hb_] at h146
  clear hb_
  refine wp_then h146 rfl ?_
  refine wp_skip ?_
  refine wp_seq ?_
  refine wp_block ?_
  refine wp_seq ?_
  refine WL.start ?_
  refine WL.bl 2 2 h146 [(4, i6 x143), (10, i6 x143)] (fun a148 h149 => ?_)
  refine WL.dn ?_
  refine WL.start ?_
  refine WL.bl 2 2 h149 [(12, pt g13l), (11, i6 x142)] (fun a14a h14b => ?_)
  refine WL.oq h14b rfl ?_
  refine owp_rn (.slice A0q0 p0.f0.length c0q0) h14b rfl (run_load1 rfl rfl Tryd.underlying23 rfl (hS140.cell (i := 0) rfl)) (fun a14c h14d => ?_)
  refine WL.bl 1 4 h14d [(14, i6 x143)] (fun a14e h14f => ?_)
  clear h146 a145 h149 a148 h14b a14a h14d a14c
  by_cases c14g : 0 ≤ x143
  ·rw [if_pos c14g] at H
   have hi14j : 0 ≤ x143 := by first | assumption | omega
   have hi14k : x143 < (p0.f0.length : Int) := by first | assumption | omega
   obtain ⟨ad14h, _, ha14i, -, -⟩ := Rds.elemAny hp0q0 hi14j (gt_get (z := z52) hi14j hi14k)
   refine WL.oq h14f rfl ?_
   refine owp_rn (.pointer (some (ad14h.add (x143.toNat * 3)))) h14f rfl (run_idx (ad := ad14h) (sz := 3) rfl (by rw [← ha14i]; rfl) rfl Tryd.underlying23 (by kernel_rfl) hi14j hi14k) (fun a14l h14m => ?_)
   obtain ⟨ad14n, cs14o, ha14p, hr14r, hc14q⟩ := Rds.elemAny hp0q0 hi14j (gt_get (z := z52) hi14j hi14k)
   rw [ha14i] at ha14p; obtain rfl := Option.some.inj ha14p
   obtain rfl := k52qrd hr14r
   refine WL.oq h14m rfl ?_
   refine owp_rn (.agg #[.string (mkS ((gt z52 p0.f0 x143).f0)), .string (mkS ((gt z52 p0.f0 x143).f1)), .bool ((gt z52 p0.f0 x143).f2)]) h14m rfl (run_loadN rfl rfl Tryd.underlying52 rfl (cs := [.string (mkS ((gt z52 p0.f0 x143).f0)), .string (mkS ((gt z52 p0.f0 x143).f1)), .bool ((gt z52 p0.f0 x143).f2)]) (by kernel_rfl) (hc14q _ (fun _ _ hk_ => hS140.kn hk_))) (fun a14s h14t => ?_)
   obtain ⟨r14v, A14u, H⟩ := bind1 H
   refine WL.oq h14t rfl ?_
   refine owp_call [.agg #[.string (mkS ((gt z52 p0.f0 x143).f0)), .string (mkS ((gt z52 p0.f0 x143).f1)), .bool ((gt z52 p0.f0 x143).f2)]] h14t rfl (by kernel_rfl) rfl Tryd.func23 (by kernel_rfl) rfl (by kernel_rfl) (louverref05qSize.calls (p0 := (⟨(gt z52 p0.f0 x143).f0, (gt z52 p0.f0 x143).f1, (gt z52 p0.f0 x143).f2⟩ : S52))  A14u hS140) (fun e14x W14w hp14y => ?_)
   obtain ⟨rfl, hS151⟩ := hp14y
   refine ⟨_, rfl, fun a14z h150 => ?_⟩
   refine WL.bl 2 9 h150 [(3, i6 (IntKind.i64.wrap (x142 + r14v))), (18, i6 (IntKind.i64.wrap (x142 + r14v)))] (fun a152 h153 => ?_)
   refine WL.dn ?_
   refine WL.start ?_
   refine WL.bl 2 2 h153 [(8, i6 (IntKind.i64.wrap (x143 + 1))), (19, i6 (IntKind.i64.wrap (x143 + 1)))] (fun a154 h155 => ?_)
   refine WL.dn ?_
   exact ⟨kk144, by omega, IntKind.i64.wrap (x142 + r14v), IntKind.i64.wrap (x143 + 1), h155.keep ⟨rfl, rfl, rfl, rfl, trivial⟩, ⟨H⟩, ⟨by omega⟩, ⟨hS151⟩⟩
  ·rw [if_neg c14g] at H
   cases H
 ·rw [if_neg c147] at H
  have hb_ : (decide (x143 < (p0.f0.length : Int))) = false := decide_eq_false c147
  try rw [hb_] at h146
  clear hb_
  refine wp_else h146 rfl ?_
  refine wp_exit ?_
  refine wp_seq ?_
  refine WL.start ?_
  refine WL.bl 2 2 h146 [(2, i6 x142), (20, i6 x142)] (fun a156 h157 => ?_)
  refine WL.dn ?_
  refine wp_ret ?_
  have hS158 := hS140.drop_
  obtain rfl := Option.some.inj H
  repeat (first | with_reducible refine t1 ?_ | with_reducible refine t2 ?_ | with_reducible refine t3 ?_)
  refine bret (i6 x142) h157 ?_
  exact ⟨rfl, hS158⟩

/-! ### louver/louverlaw06.HpackBack -/
mutual
def louverlaw06qHpackBack.l0 : Nat → S61 → S64 → S45 → Int → Int → (List (List S52)) → (List Int) → Option (Bool)
 | 0, _, _, _, _, _, _, _ => none
 | k + 1, x79g, x79j, x79m, x79p, p0, p1, p2 => if x79p < (p1.length : Int) then (if 0 ≤ x79p then (if x79p < (p2.length : Int) then (if (Int.tmod (gt (0 : Int) p2 x79p) 3) > 0 then (if ¬ ((IntKind.u32.wrap ((mnI p0 4096) + 1)) = 0) then (bnd1 (hpack_Encoder_Limit.f k x79g (Int.tmod (IntKind.u32.wrap (Int.tdiv (gt (0 : Int) p2 x79p) 3)) (IntKind.u32.wrap ((mnI p0 4096) + 1)))) fun r7dz => (bnd1 (hpack_Encoder_Limit.f k r7dz (Int.tmod (IntKind.u32.wrap (Int.tdiv (gt (0 : Int) p2 x79p) 7)) (IntKind.u32.wrap ((mnI p0 4096) + 1)))) fun r7es => (louverlaw06qHpackBack.j1 k r7es p0 p1 p2 x79j x79m x79p))) else (none)) else (louverlaw06qHpackBack.j1 k x79g p0 p1 p2 x79j x79m x79p)) else (bnd2 (hpack_Encoder_Put.f k x79g (gt [] p1 x79p)) fun r8n6 r8n7 => (bnd3 (hpack_Decoder_Get.f k x79j r8n6) fun r8ns r8nt r8nu => (bnd3 (louverref06qD_Get.f k (⟨(⟨x79m.f0.f0, x79m.f0.f1⟩ : S43), x79m.f1⟩ : S45) r8n6) fun r8oz r8p0 r8p1 => (if r8p1 = 11 then (bnd1 (louverlaw06qfixed.f k) fun r8q9 => (if r8q9 = true then (some (decide (r8nt.f0 = 1) && decide (r8nt.f1 = 11))) else (some false))) else (if (decide (r8nt.f0 = 0) && decide (r8nt.f1 = 0)) = true then (if r8p1 = 0 then (bnd1 (louverref06qSame.f k r8ns (gt [] p1 x79p)) fun r9h1 => (if r9h1 = true then (bnd1 (louverref06qSame.f k r8oz (gt [] p1 x79p)) fun r9hr => (if r9hr = true then (bnd1 (hpack_Encoder_Table.f r8n7) fun r9ih => (bnd1 (hpack_Decoder_Table.f r8nu) fun r9is => (if r9ih = r9is then (bnd1 (hpack_Decoder_Table.f r8nu) fun r9jl => (bnd1 (louverref05qT_Size.f k (⟨r8p0.f0.f0, r8p0.f0.f1⟩ : S43)) fun r9jw => (if r9jl = r9jw then (louverlaw06qHpackBack.l0 k r8n7 r8nu (⟨(⟨r8p0.f0.f0, r8p0.f0.f1⟩ : S43), r8p0.f1⟩ : S45) (IntKind.i64.wrap (x79p + 1)) p0 p1 p2) else (some false)))) else (some false)))) else (some false))) else (some false))) else (some false)) else (some false))))))) else (none)) else (bnd1 (louverlaw06qfixed.f k) fun r9ur => (some r9ur))
def louverlaw06qHpackBack.j1 : Nat → S61 → Int → (List (List S52)) → (List Int) → S64 → S45 → Int → Option (Bool)
 | 0, _, _, _, _, _, _, _ => none
 | k + 1, x7d6, p0, p1, p2, x79j, x79m, x79p => bnd2 (hpack_Encoder_Put.f k x7d6 (gt [] p1 x79p)) fun r7f5 r7f6 => (bnd3 (hpack_Decoder_Get.f k x79j r7f5) fun r7fr r7fs r7ft => (bnd3 (louverref06qD_Get.f k (⟨(⟨x79m.f0.f0, x79m.f0.f1⟩ : S43), x79m.f1⟩ : S45) r7f5) fun r7gy r7gz r7h0 => (if r7h0 = 11 then (bnd1 (louverlaw06qfixed.f k) fun r7i8 => (if r7i8 = true then (some (decide (r7fs.f0 = 1) && decide (r7fs.f1 = 11))) else (some false))) else (if (decide (r7fs.f0 = 0) && decide (r7fs.f1 = 0)) = true then (if r7h0 = 0 then (bnd1 (louverref06qSame.f k r7fr (gt [] p1 x79p)) fun r890 => (if r890 = true then (bnd1 (louverref06qSame.f k r7gy (gt [] p1 x79p)) fun r89q => (if r89q = true then (bnd1 (hpack_Encoder_Table.f r7f6) fun r8ag => (bnd1 (hpack_Decoder_Table.f r7ft) fun r8ar => (if r8ag = r8ar then (bnd1 (hpack_Decoder_Table.f r7ft) fun r8bk => (bnd1 (louverref05qT_Size.f k (⟨r7gz.f0.f0, r7gz.f0.f1⟩ : S43)) fun r8bv => (if r8bk = r8bv then (louverlaw06qHpackBack.l0 k r7f6 r7ft (⟨(⟨r7gz.f0.f0, r7gz.f0.f1⟩ : S43), r7gz.f1⟩ : S45) (IntKind.i64.wrap (x79p + 1)) p0 p1 p2) else (some false)))) else (some false)))) else (some false))) else (some false))) else (some false)) else (some false)))))
end
def louverlaw06qHpackBack.f (k : Nat) (p0 : Int) (p1 : (List (List S52))) (p2 : (List Int)) : Option (Bool) := bnd1 (louverlaw06qgreat.f k p1) fun r76e => (if r76e = true then (bnd1 (louverlaw06qfixed.f k) fun r76x => (some r76x)) else (if (p2.length : Int) > 100 then (bnd1 (louverlaw06qfixed.f k) fun r77g => (some r77g)) else (bnd1 (hpack_NewEncoder.f p0) fun r77s => (bnd1 (hpack_NewDecoder.f p0) fun r788 => (bnd1 (louverref06qNew.f p0) fun r78o => (louverlaw06qHpackBack.l0 k r77s r788 (⟨(⟨r78o.f0.f0, r78o.f0.f1⟩ : S43), r78o.f1⟩ : S45) 0 p0 p1 p2))))))
set_option maxHeartbeats 20000000 in
set_option maxRecDepth 100000 in
theorem louverlaw06qHpackBack.calls (k : Nat) {b : Nat} {w0 W : World} {R : Frag} {Fs : List Frag} {p0 : Int} {p1 : (List (List S52))} {p2 : (List Int)} {v1 : Value} {v2 : Value} {r0q : Bool} (hp1 : Rds (kRds k52) b w0 R v1 p1) (hp2 : Rds (kInt .u32) b w0 R v2 p2) (hg0 : Rds k52 b w0 [] (.slice (some ⟨0, 0, none⟩) 61 61) G0) (hg1 : Rds (kInt .u8) b w0 [] (.slice (some ⟨1, 0, none⟩) 257 257) G1) (H : louverlaw06qHpackBack.f k p0 p1 p2 = some r0q) (hS : St b w0 W R (Fs)) :
  Calls Tryd.prog 4 ([.int .u32 p0, v1, v2] : List Value).toArray W (fun e W' => e = .returned (.bool r0q) ∧ St b w0 W' R (Fs)) := by
 obtain ⟨A1, c1, rfl⟩ := hp1.form
 obtain ⟨A2, c2, rfl⟩ := hp2.form
 unfold louverlaw06qHpackBack.f at H
 refine calls_enter Tryd.func4 rfl 134 rfl (by kernel_rfl) (fun a h => ?_)
 refine wp_seq ?_
 refine WL.start ?_
 refine WL.bl 1 1 h [(6, .bool false)] (fun a769 h76a => ?_)
 refine WL.dn ?_
 refine wp_seq ?_
 refine wp_seq ?_
 refine WL.start ?_
 refine WL.bl 1 1 h76a [(18, .slice A1 p1.length c1)] (fun a76b h76c => ?_)
 obtain ⟨r76e, A76d, H⟩ := bind1 H
 refine WL.oq h76c rfl ?_
 refine owp_call [.slice A1 p1.length c1] h76c rfl (by kernel_rfl) rfl Tryd.func16 (by kernel_rfl) rfl (by kernel_rfl) (louverlaw06qgreat.calls k hp1 A76d hS) (fun e76g W76f hp76h => ?_)
 obtain ⟨rfl, hS76k⟩ := hp76h
 refine ⟨_, rfl, fun a76i h76j => ?_⟩
 refine WL.bl 1 3 h76j [(20, .bool r76e)] (fun a76l h76m => ?_)
 clear h76a a769 h76c a76b h76j a76i
 by_cases c76n : r76e = true
 ·rw [if_pos c76n] at H
  have hb_ : r76e = true := c76n
  try rw [hb_] at h76m
  clear hb_
  refine WL.sk h76m rfl rfl (fun a76o h76p => ?_)
  refine WL.sk h76p rfl rfl (fun a76q h76r => ?_)
  refine WL.sk h76r rfl rfl (fun a76s h76t => ?_)
  refine WL.bl 1 7 h76t [(24, .bool true)] (fun a76u h76v => ?_)
  refine WL.dn ?_
  refine wp_then h76v rfl ?_
  refine wp_seq ?_
  refine WL.start ?_
  obtain ⟨r76x, A76w, H⟩ := bind1 H
  refine WL.oq h76v rfl ?_
  refine owp_call [] h76v rfl (by kernel_rfl) rfl Tryd.func10 (by kernel_rfl) rfl (by kernel_rfl) (louverlaw06qfixed.calls k hg0 hg1 A76w hS76k) (fun e76z W76y hp770 => ?_)
  obtain ⟨rfl, hS773⟩ := hp770
  refine ⟨_, rfl, fun a771 h772 => ?_⟩
  refine WL.bl 1 2 h772 [(6, .bool r76x)] (fun a774 h775 => ?_)
  refine WL.dn ?_
  refine wp_ret ?_
  obtain rfl := Option.some.inj H
  repeat (first | with_reducible refine t1 ?_ | with_reducible refine t2 ?_ | with_reducible refine t3 ?_)
  refine bret (.bool r76x) h775 ?_
  exact ⟨rfl, hS773⟩
 ·rw [if_neg c76n] at H
  have hb_ : r76e = false := (Bool.eq_false_iff.2 c76n)
  try rw [hb_] at h76m
  clear hb_
  refine WL.oq h76m rfl (owp_rk (.slice A2 p2.length c2) h76m rfl (fun a776 h777 => ?_))
  refine WL.oq h777 rfl (owp_rk (i6 (p2.length : Int)) h777 rfl (fun a778 h779 => ?_))
  refine WL.oq h779 rfl (owp_rk (.bool (decide ((p2.length : Int) > 100))) h779 rfl (fun a77a h77b => ?_))
  refine WL.bl 1 7 h77b [(24, .bool (decide ((p2.length : Int) > 100)))] (fun a77c h77d => ?_)
  refine WL.dn ?_
  clear h76m a76l h777 a776 h779 a778 h77b a77a
  by_cases c77e : (p2.length : Int) > 100
  ·rw [if_pos c77e] at H
   have hb_ : (decide ((p2.length : Int) > 100)) = true := decide_eq_true c77e
   try rw [hb_] at h77d
   clear hb_
   refine wp_then h77d rfl ?_
   refine wp_seq ?_
   refine WL.start ?_
   obtain ⟨r77g, A77f, H⟩ := bind1 H
   refine WL.oq h77d rfl ?_
   refine owp_call [] h77d rfl (by kernel_rfl) rfl Tryd.func10 (by kernel_rfl) rfl (by kernel_rfl) (louverlaw06qfixed.calls k hg0 hg1 A77f hS76k) (fun e77i W77h hp77j => ?_)
   obtain ⟨rfl, hS77m⟩ := hp77j
   refine ⟨_, rfl, fun a77k h77l => ?_⟩
   refine WL.bl 1 2 h77l [(6, .bool r77g)] (fun a77n h77o => ?_)
   refine WL.dn ?_
   refine wp_ret ?_
   obtain rfl := Option.some.inj H
   repeat (first | with_reducible refine t1 ?_ | with_reducible refine t2 ?_ | with_reducible refine t3 ?_)
   refine bret (.bool r77g) h77o ?_
   exact ⟨rfl, hS77m⟩
  ·rw [if_neg c77e] at H
   have hb_ : (decide ((p2.length : Int) > 100)) = false := decide_eq_false c77e
   try rw [hb_] at h77d
   clear hb_
   refine wp_else h77d rfl ?_
   refine wp_skip ?_
   refine wp_seq ?_
   refine WL.start ?_
   refine WL.bl 1 1 h77d [(26, .int .u32 p0)] (fun a77p h77q => ?_)
   obtain ⟨r77s, A77r, H⟩ := bind1 H
   refine WL.oq h77q rfl ?_
   refine owp_call [.int .u32 p0] h77q rfl (by kernel_rfl) rfl Tryd.func17 (by kernel_rfl) rfl (by kernel_rfl) (hpack_NewEncoder.calls  A77r hS76k) (fun e77u W77t hp77v => ?_)
   obtain ⟨v77y, M77z, rfl, hr780, hS781⟩ := hp77v
   refine ⟨_, rfl, fun a77w h77x => ?_⟩
   obtain ⟨g782, rfl⟩ := hr780.ptr_form
   refine WL.bl 1 3 h77x [(7, pt g782)] (fun a783 h784 => ?_)
   refine WL.dn ?_
   refine wp_seq ?_
   refine WL.start ?_
   refine WL.bl 1 1 h784 [(28, .int .u32 p0)] (fun a785 h786 => ?_)
   obtain ⟨r788, A787, H⟩ := bind1 H
   refine WL.oq h786 rfl ?_
   refine owp_call [.int .u32 p0] h786 rfl (by kernel_rfl) rfl Tryd.func18 (by kernel_rfl) rfl (by kernel_rfl) (hpack_NewDecoder.calls  A787 hS781) (fun e78a W789 hp78b => ?_)
   obtain ⟨v78e, M78f, rfl, hr78g, hS78h⟩ := hp78b
   refine ⟨_, rfl, fun a78c h78d => ?_⟩
   obtain ⟨g78i, rfl⟩ := hr78g.ptr_form
   refine WL.bl 1 3 h78d [(8, pt g78i)] (fun a78j h78k => ?_)
   refine WL.dn ?_
   refine wp_seq ?_
   refine WL.start ?_
   refine WL.bl 1 1 h78k [(30, .int .u32 p0)] (fun a78l h78m => ?_)
   obtain ⟨r78o, A78n, H⟩ := bind1 H
   refine WL.oq h78m rfl ?_
   refine owp_call [.int .u32 p0] h78m rfl (by kernel_rfl) rfl Tryd.func19 (by kernel_rfl) rfl (by kernel_rfl) (louverref06qNew.calls  A78n hS78h) (fun e78q W78p hp78r => ?_)
   obtain ⟨v78u, M78v, rfl, hr78w, hS78x⟩ := hp78r
   refine ⟨_, rfl, fun a78s h78t => ?_⟩
   obtain ⟨A78y, c78z, rfl⟩ := hr78w.form
   refine WL.oq h78t rfl ?_
   refine owp_nw (fun g_ => (pt g_)) (.cells ([.slice none 0 0, i6 0, i6 0] : List Value).toArray 45 (0, 0)) h78t rfl hS78x (fun a790 W792 g793 h791 hS794 => ?_)
   refine WL.oq h791 rfl ?_
   refine owp_st 0 [.slice A78y r78o.f0.f0.length c78z, i6 r78o.f0.f1, i6 r78o.f1] h791 rfl rfl rfl hS794 [.slice A78y r78o.f0.f0.length c78z, i6 r78o.f0.f1, i6 r78o.f1] (fun a795 W797 h796 hS798 => ?_)
   refine WL.dn ?_
   refine wp_seq ?_
   refine wp_seq ?_
   refine WL.start ?_
   refine WL.bl 3 3 h796 [(34, i6 0), (33, i6 (p1.length : Int)), (32, .slice A1 p1.length c1)] (fun a799 h79a => ?_)
   refine WL.dn ?_
   refine wp_block ?_
   have hS79q := hS798.b1
   have hS79r := hS79q.b1
   obtain ⟨M79s, hp79t, hS79u⟩ := k45qfo (⟨(⟨r78o.f0.f0, r78o.f0.f1⟩ : S43), r78o.f1⟩ : S45) hr78w hS79r
   have hS79v := hS79u.b1
   have hS79w := hS79v.b2
   clear h77d a77c h77q a77p h77x a77w h784 a783 h786 a785 h78d a78c h78k a78j h78m a78l h78t a78s h791 a790 h796 a795
   refine wp_loop_ghost (fun kq_ a_ W_ => ∃ (x79g : S61), ∃ (M79h : Frag), ∃ (x79j : S64), ∃ (M79k : Frag), ∃ (x79m : S45), ∃ (M79n : Frag), ∃ (x79p : Int), Hd a_ 134 [(0, .int .u32 p0), (2, .slice A2 p2.length c2), (7, pt g782), (8, pt g78i), (9, pt g793), (32, .slice A1 p1.length c1), (33, i6 (p1.length : Int)), (34, i6 x79p)] ∧ Asd (louverlaw06qHpackBack.l0 kq_ x79g x79j x79m x79p p0 p1 p2 = some r0q) ∧ Asd (kq_ ≤ k) ∧ Asd (St b w0 W_ R (M79h :: M79k :: M79n :: Fs)) ∧ Asd (Ptr k61 61 b w0 R (pt g782) x79g M79h) ∧ Asd (Ptr k64 64 b w0 R (pt g78i) x79j M79k) ∧ Asd (Ptr k45 45 b w0 R (pt g793) x79m M79n)) k ⟨r77s, M77z, r788, M78f, (⟨(⟨r78o.f0.f0, r78o.f0.f1⟩ : S43), r78o.f1⟩ : S45), M79s, 0, h79a.keep ⟨rfl, rfl, rfl, rfl, rfl, rfl, rfl, rfl, trivial⟩, ⟨H⟩, ⟨Nat.le_refl _⟩, ⟨hS79w⟩, ⟨hr780⟩, ⟨hr78g⟩, ⟨hp79t⟩⟩ ?_
   clear H hS79w
   rintro kk79f a79c W79d ⟨x79g, M79h, x79j, M79k, x79m, M79n, x79p, h79b, ⟨H⟩, ⟨hkkk79f⟩, ⟨hS79e⟩, ⟨hr79i⟩, ⟨hr79l⟩, ⟨hr79o⟩⟩
   obtain _ | kk79x := kk79f
   ·exact absurd H (by simp [louverlaw06qHpackBack.l0])
   simp only [louverlaw06qHpackBack.l0] at H
   refine wp_seq ?_
   refine WL.start ?_
   refine WL.bl 1 1 h79b [(35, .bool (decide (x79p < (p1.length : Int))))] (fun a79y h79z => ?_)
   refine WL.dn ?_
   refine wp_seq ?_
   clear h79b a79c
   by_cases c7a0 : x79p < (p1.length : Int)
   ·rw [if_pos c7a0] at H
    have hb_ : (decide (x79p < (p1.length : Int))) = true := decide_eq_true c7a0
    try rw [hb_] at h79z
    clear hb_
    refine wp_then h79z rfl ?_
    refine wp_skip ?_
    refine wp_seq ?_
    refine wp_block ?_
    refine wp_seq ?_
    refine WL.start ?_
    refine WL.bl 1 1 h79z [(36, i6 x79p)] (fun a7a1 h7a2 => ?_)
    clear h79z a79y
    by_cases c7a3 : 0 ≤ x79p
    ·rw [if_pos c7a3] at H
     have hi7a6 : 0 ≤ x79p := by first | assumption | omega
     have hi7a7 : x79p < (p1.length : Int) := by first | assumption | omega
     obtain ⟨ad7a4, _, ha7a5, -, -⟩ := Rds.elemAny hp1 hi7a6 (gt_get (z := []) hi7a6 hi7a7)
     refine WL.oq h7a2 rfl ?_
     refine owp_rn (.pointer (some (ad7a4.add (x79p.toNat * 1)))) h7a2 rfl (run_idx (ad := ad7a4) (sz := 1) rfl (by rw [← ha7a5]; rfl) rfl Tryd.underlying37 (by kernel_rfl) hi7a6 hi7a7) (fun a7a8 h7a9 => ?_)
     obtain ⟨ad7aa, cs7ab, ha7ac, hr7ae, hc7ad⟩ := Rds.elemAny hp1 hi7a6 (gt_get (z := []) hi7a6 hi7a7)
     rw [ha7a5] at ha7ac; obtain rfl := Option.some.inj ha7ac
     obtain ⟨v7af, rfl, hx7ag⟩ := hr7ae
     obtain ⟨A7ah, c7ai, rfl⟩ := hx7ag.form
     refine WL.oq h7a9 rfl ?_
     refine owp_rn (.slice A7ah (gt [] p1 x79p).length c7ai) h7a9 rfl (run_load1 rfl rfl Tryd.underlying23 rfl (cell0 (hc7ad _ (fun _ _ hk_ => hS79e.kn hk_)))) (fun a7aj h7ak => ?_)
     refine WL.bl 2 5 h7ak [(11, .slice A7ah (gt [] p1 x79p).length c7ai), (10, i6 x79p)] (fun a7al h7am => ?_)
     refine WL.dn ?_
     refine wp_seq ?_
     refine wp_seq ?_
     refine WL.start ?_
     refine WL.bl 5 5 h7am [(43, .bool (decide (x79p < (p2.length : Int)))), (42, .bool (decide (x79p < (p2.length : Int)))), (41, i6 (p2.length : Int)), (40, .slice A2 p2.length c2), (39, i6 x79p)] (fun a7an h7ao => ?_)
     clear h7a2 a7a1 h7a9 a7a8 h7ak a7aj h7am a7al
     by_cases c7ap : x79p < (p2.length : Int)
     ·rw [if_pos c7ap] at H
      have hb_ : (decide (x79p < (p2.length : Int))) = true := decide_eq_true c7ap
      try rw [hb_] at h7ao
      clear hb_
      refine WL.oq h7ao rfl (owp_rk (.slice A2 p2.length c2) h7ao rfl (fun a7aq h7ar => ?_))
      refine WL.oq h7ar rfl (owp_rk (i6 x79p) h7ar rfl (fun a7as h7at => ?_))
      have hi7aw : 0 ≤ x79p := by first | assumption | omega
      have hi7ax : x79p < (p2.length : Int) := by first | assumption | omega
      obtain ⟨ad7au, _, ha7av, -, -⟩ := Rds.elemAny hp2 hi7aw (gt_get (z := (0 : Int)) hi7aw hi7ax)
      refine WL.oq h7at rfl ?_
      refine owp_rn (.pointer (some (ad7au.add (x79p.toNat * 1)))) h7at rfl (run_idx (ad := ad7au) (sz := 1) rfl (by rw [← ha7av]; rfl) rfl Tryd.underlying38 (by kernel_rfl) hi7aw hi7ax) (fun a7ay h7az => ?_)
      obtain ⟨ad7b0, cs7b1, ha7b2, hr7b4, hc7b3⟩ := Rds.elemAny hp2 hi7aw (gt_get (z := (0 : Int)) hi7aw hi7ax)
      rw [ha7av] at ha7b2; obtain rfl := Option.some.inj ha7b2
      obtain rfl : cs7b1 = [.int .u32 (gt (0 : Int) p2 x79p)] := hr7b4
      refine WL.oq h7az rfl ?_
      refine owp_rn (.int .u32 (gt (0 : Int) p2 x79p)) h7az rfl (run_load1 rfl rfl Tryd.underlying29 rfl (cell0 (hc7b3 _ (fun _ _ hk_ => hS79e.kn hk_)))) (fun a7b5 h7b6 => ?_)
      refine WL.oq h7b6 rfl (owp_rk (.int .u32 (Int.tmod (gt (0 : Int) p2 x79p) 3)) h7b6 rfl (fun a7b7 h7b8 => ?_))
      refine WL.oq h7b8 rfl (owp_rk (.bool (decide ((Int.tmod (gt (0 : Int) p2 x79p) 3) > 0))) h7b8 rfl (fun a7b9 h7ba => ?_))
      refine WL.bl 1 12 h7ba [(50, .bool (decide ((Int.tmod (gt (0 : Int) p2 x79p) 3) > 0)))] (fun a7bb h7bc => ?_)
      refine WL.dn ?_
      clear h7ao a7an h7ar a7aq h7at a7as h7az a7ay h7b6 a7b5 h7b8 a7b7 h7ba a7b9
      refine wp_meet (I := fun a_ W_ => ∃ kq_, ∃ (x7d6 : S61), ∃ (M7d7 : Frag), ∃ (M7d9 : Frag), ∃ (M7db : Frag), Hd a_ 134 [(0, .int .u32 p0), (2, .slice A2 p2.length c2), (7, pt g782), (8, pt g78i), (9, pt g793), (11, .slice A7ah (gt [] p1 x79p).length c7ai), (32, .slice A1 p1.length c1), (33, i6 (p1.length : Int)), (34, i6 x79p)] ∧ Asd (louverlaw06qHpackBack.j1 kq_ x7d6 p0 p1 p2 x79j x79m x79p = some r0q) ∧ Asd (kq_ ≤ kk79x) ∧ Asd (St b w0 W_ R (M7d7 :: M7d9 :: M7db :: Fs)) ∧ Asd (Ptr k61 61 b w0 R (pt g782) x7d6 M7d7) ∧ Asd (Ptr k64 64 b w0 R (pt g78i) x79j M7d9) ∧ Asd (Ptr k45 45 b w0 R (pt g793) x79m M7db)) ?_ ?_
      ·by_cases c7dd : (Int.tmod (gt (0 : Int) p2 x79p) 3) > 0
       ·rw [if_pos c7dd] at H
        have hb_ : (decide ((Int.tmod (gt (0 : Int) p2 x79p) 3) > 0)) = true := decide_eq_true c7dd
        try rw [hb_] at h7bc
        clear hb_
        refine wp_then h7bc rfl ?_
        refine wp_seq ?_
        refine WL.start ?_
        refine WL.bl 3 3 h7bc [(53, i6 x79p), (52, .slice A2 p2.length c2), (51, pt g782)] (fun a7de h7df => ?_)
        have hi7di : 0 ≤ x79p := by first | assumption | omega
        have hi7dj : x79p < (p2.length : Int) := by first | assumption | omega
        obtain ⟨ad7dg, _, ha7dh, -, -⟩ := Rds.elemAny hp2 hi7di (gt_get (z := (0 : Int)) hi7di hi7dj)
        refine WL.oq h7df rfl ?_
        refine owp_rn (.pointer (some (ad7dg.add (x79p.toNat * 1)))) h7df rfl (run_idx (ad := ad7dg) (sz := 1) rfl (by rw [← ha7dh]; rfl) rfl Tryd.underlying38 (by kernel_rfl) hi7di hi7dj) (fun a7dk h7dl => ?_)
        obtain ⟨ad7dm, cs7dn, ha7do, hr7dq, hc7dp⟩ := Rds.elemAny hp2 hi7di (gt_get (z := (0 : Int)) hi7di hi7dj)
        rw [ha7dh] at ha7do; obtain rfl := Option.some.inj ha7do
        obtain rfl : cs7dn = [.int .u32 (gt (0 : Int) p2 x79p)] := hr7dq
        refine WL.oq h7dl rfl ?_
        refine owp_rn (.int .u32 (gt (0 : Int) p2 x79p)) h7dl rfl (run_load1 rfl rfl Tryd.underlying29 rfl (cell0 (hc7dp _ (fun _ _ hk_ => hS79e.kn hk_)))) (fun a7dr h7ds => ?_)
        refine WL.bl 4 9 h7ds [(59, .int .u32 (IntKind.u32.wrap ((mnI p0 4096) + 1))), (58, .int .u32 (mnI p0 4096)), (57, .int .u32 p0), (56, .int .u32 (IntKind.u32.wrap (Int.tdiv (gt (0 : Int) p2 x79p) 3)))] (fun a7dt h7du => ?_)
        clear h7bc a7bb h7df a7de h7dl a7dk h7ds a7dr
        by_cases c7dv : ¬ ((IntKind.u32.wrap ((mnI p0 4096) + 1)) = 0)
        ·rw [if_pos c7dv] at H
         refine WL.oq h7du rfl ?_
         refine owp_rn (.int .u32 (Int.tmod (IntKind.u32.wrap (Int.tdiv (gt (0 : Int) p2 x79p) 3)) (IntKind.u32.wrap ((mnI p0 4096) + 1)))) h7du rfl (run_rem rfl rfl rfl (by assumption)) (fun a7dw h7dx => ?_)
         obtain ⟨r7dz, A7dy, H⟩ := bind1 H
         refine WL.oq h7dx rfl ?_
         refine owp_call [(pt g782), .int .u32 (Int.tmod (IntKind.u32.wrap (Int.tdiv (gt (0 : Int) p2 x79p) 3)) (IntKind.u32.wrap ((mnI p0 4096) + 1)))] h7dx rfl (by kernel_rfl) rfl Tryd.func11 (by kernel_rfl) rfl (by kernel_rfl) (hpack_Encoder_Limit.calls kk79x hr79i A7dy hS79e) (fun e7e1 W7e0 hp7e2 => ?_)
         obtain ⟨M7e5, rfl, hr7e6, hS7e7⟩ := hp7e2
         refine ⟨_, rfl, fun a7e3 h7e4 => ?_⟩
         refine WL.dn ?_
         refine WL.start ?_
         refine WL.bl 3 3 h7e4 [(64, i6 x79p), (63, .slice A2 p2.length c2), (62, pt g782)] (fun a7e8 h7e9 => ?_)
         have hi7ec : 0 ≤ x79p := by first | assumption | omega
         have hi7ed : x79p < (p2.length : Int) := by first | assumption | omega
         obtain ⟨ad7ea, _, ha7eb, -, -⟩ := Rds.elemAny hp2 hi7ec (gt_get (z := (0 : Int)) hi7ec hi7ed)
         refine WL.oq h7e9 rfl ?_
         refine owp_rn (.pointer (some (ad7ea.add (x79p.toNat * 1)))) h7e9 rfl (run_idx (ad := ad7ea) (sz := 1) rfl (by rw [← ha7eb]; rfl) rfl Tryd.underlying38 (by kernel_rfl) hi7ec hi7ed) (fun a7ee h7ef => ?_)
         obtain ⟨ad7eg, cs7eh, ha7ei, hr7ek, hc7ej⟩ := Rds.elemAny hp2 hi7ec (gt_get (z := (0 : Int)) hi7ec hi7ed)
         rw [ha7eb] at ha7ei; obtain rfl := Option.some.inj ha7ei
         obtain rfl : cs7eh = [.int .u32 (gt (0 : Int) p2 x79p)] := hr7ek
         refine WL.oq h7ef rfl ?_
         refine owp_rn (.int .u32 (gt (0 : Int) p2 x79p)) h7ef rfl (run_load1 rfl rfl Tryd.underlying29 rfl (cell0 (hc7ej _ (fun _ _ hk_ => hS7e7.kn hk_)))) (fun a7el h7em => ?_)
         refine WL.bl 4 9 h7em [(70, .int .u32 (IntKind.u32.wrap ((mnI p0 4096) + 1))), (69, .int .u32 (mnI p0 4096)), (68, .int .u32 p0), (67, .int .u32 (IntKind.u32.wrap (Int.tdiv (gt (0 : Int) p2 x79p) 7)))] (fun a7en h7eo => ?_)
         refine WL.oq h7eo rfl ?_
         refine owp_rn (.int .u32 (Int.tmod (IntKind.u32.wrap (Int.tdiv (gt (0 : Int) p2 x79p) 7)) (IntKind.u32.wrap ((mnI p0 4096) + 1)))) h7eo rfl (run_rem rfl rfl rfl (by assumption)) (fun a7ep h7eq => ?_)
         obtain ⟨r7es, A7er, H⟩ := bind1 H
         refine WL.oq h7eq rfl ?_
         refine owp_call [(pt g782), .int .u32 (Int.tmod (IntKind.u32.wrap (Int.tdiv (gt (0 : Int) p2 x79p) 7)) (IntKind.u32.wrap ((mnI p0 4096) + 1)))] h7eq rfl (by kernel_rfl) rfl Tryd.func11 (by kernel_rfl) rfl (by kernel_rfl) (hpack_Encoder_Limit.calls kk79x hr7e6 A7er hS7e7) (fun e7eu W7et hp7ev => ?_)
         obtain ⟨M7ey, rfl, hr7ez, hS7f0⟩ := hp7ev
         refine ⟨_, rfl, fun a7ew h7ex => ?_⟩
         refine WL.dn ?_
         exact ⟨kk79x, r7es, M7ey, M79k, M79n, h7ex.keep ⟨rfl, rfl, rfl, rfl, rfl, rfl, rfl, rfl, rfl, trivial⟩, ⟨H⟩, ⟨by omega⟩, ⟨hS7f0⟩, ⟨hr7ez⟩, ⟨hr79l⟩, ⟨hr79o⟩⟩
        ·rw [if_neg c7dv] at H
         cases H
       ·rw [if_neg c7dd] at H
        have hb_ : (decide ((Int.tmod (gt (0 : Int) p2 x79p) 3) > 0)) = false := decide_eq_false c7dd
        try rw [hb_] at h7bc
        clear hb_
        refine wp_else h7bc rfl ?_
        refine wp_skip ?_
        exact ⟨kk79x, x79g, M79h, M79k, M79n, h7bc.keep ⟨rfl, rfl, rfl, rfl, rfl, rfl, rfl, rfl, rfl, trivial⟩, ⟨H⟩, ⟨by omega⟩, ⟨hS79e⟩, ⟨hr79i⟩, ⟨hr79l⟩, ⟨hr79o⟩⟩
      ·clear H hS79e
       rintro a7d2 W7d3 ⟨kk7d5, x7d6, M7d7, M7d9, M7db, h7d1, ⟨H⟩, ⟨hkkk7d5⟩, ⟨hS7d4⟩, ⟨hr7d8⟩, ⟨hr7da⟩, ⟨hr7dc⟩⟩
       obtain _ | kk7f1 := kk7d5
       ·exact absurd H (by simp [louverlaw06qHpackBack.j1])
       simp only [louverlaw06qHpackBack.j1] at H
       refine wp_seq ?_
       refine WL.start ?_
       refine WL.bl 2 2 h7d1 [(74, .slice A7ah (gt [] p1 x79p).length c7ai), (73, pt g782)] (fun a7f2 h7f3 => ?_)
       obtain ⟨r7f5, r7f6, A7f4, H⟩ := bind2 H
       refine WL.oq h7f3 rfl ?_
       refine owp_call [(pt g782), .slice A7ah (gt [] p1 x79p).length c7ai] h7f3 rfl (by kernel_rfl) rfl Tryd.func13 (by kernel_rfl) rfl (by kernel_rfl) (hpack_Encoder_Put.calls kk7f1 hr7d8 hx7ag hg0 hg1 A7f4 hS7d4) (fun e7f8 W7f7 hp7f9 => ?_)
       obtain ⟨v7fc, M7fd, M7ff, rfl, hr7fe, hr7fg, hS7fh⟩ := hp7f9
       refine ⟨_, rfl, fun a7fa h7fb => ?_⟩
       obtain ⟨A7fi, c7fj, rfl⟩ := hr7fe.form
       refine WL.bl 1 4 h7fb [(12, .slice A7fi r7f5.length c7fj)] (fun a7fk h7fl => ?_)
       refine WL.dn ?_
       refine wp_seq ?_
       refine WL.start ?_
       refine WL.bl 2 2 h7fl [(78, .slice A7fi r7f5.length c7fj), (77, pt g78i)] (fun a7fm h7fn => ?_)
       have hS7fo := hS7fh.b2
       have hS7fp := hS7fo.b1
       obtain ⟨r7fr, r7fs, r7ft, A7fq, H⟩ := bind3 H
       refine WL.oq h7fn rfl ?_
       refine owp_call [(pt g78i), .slice A7fi r7f5.length c7fj] h7fn rfl (by kernel_rfl) rfl Tryd.func12 (by kernel_rfl) rfl (by kernel_rfl) (hpack_Decoder_Get.calls kk7f1 (hr7da.mono (fun _ hp_ => List.mem_append_right _ hp_)) hr7fe.rds hg0 hg1 A7fq (hS7fp.pool)) (fun e7fv W7fu hp7fw => ?_)
       obtain ⟨v7fz, M7g0, M7g2, rfl, hr7g1, hr7g3, hS7g4⟩ := hp7fw
       have hS7g5 : St b w0 W7fu R (M7fd :: M7g0 :: M7g2 :: M7ff :: M7db :: Fs) := hS7g4.unpool
       replace hr7g1 : Row k52 52 b w0 R v7fz r7fr M7g0 := hr7g1.ind k52qind
       replace hr7g3 : Ptr k64 64 b w0 R (pt g78i) r7ft M7g2 := hr7g3.ind k64qind
       refine ⟨_, rfl, fun a7fx h7fy => ?_⟩
       obtain ⟨A7g6, c7g7, rfl⟩ := hr7g1.form
       refine WL.bl 3 6 h7fy [(81, .agg #[.int .u8 r7fs.f0, .int .u32 r7fs.f1]), (80, .slice A7g6 r7fr.length c7g7), (76, .tuple #[.slice A7g6 r7fr.length c7g7, .agg #[.int .u8 r7fs.f0, .int .u32 r7fs.f1]])] (fun a7g8 h7g9 => ?_)
       refine WL.oq h7g9 rfl ?_
       refine owp_nw (fun g_ => (pt g_)) (.cells ([.int .u8 0, .int .u32 0] : List Value).toArray 31 (0, 0)) h7g9 rfl hS7g5 (fun a7ga W7gc g7gd h7gb hS7ge => ?_)
       refine WL.bl 1 8 h7gb [(13, .slice A7g6 r7fr.length c7g7)] (fun a7gf h7gg => ?_)
       refine WL.oq h7gg rfl ?_
       refine owp_st 0 [.int .u8 r7fs.f0, .int .u32 r7fs.f1] h7gg rfl rfl rfl hS7ge [.int .u8 r7fs.f0, .int .u32 r7fs.f1] (fun a7gh W7gj h7gi hS7gk => ?_)
       refine WL.dn ?_
       refine wp_seq ?_
       refine WL.start ?_
       have hS7gl := hS7gk.b5
       obtain ⟨A7gn, c7go, M7gp, hr7gq, hS7gm⟩ := k45qoq hr7dc hS7gl
       refine WL.oq h7gi rfl ?_
       refine owp_rn (.agg #[.slice A7gn x79m.f0.f0.length c7go, i6 x79m.f0.f1, i6 x79m.f1]) h7gi rfl (run_loadN rfl rfl Tryd.underlying45 rfl (cs := [.slice A7gn x79m.f0.f0.length c7go, i6 x79m.f0.f1, i6 x79m.f1]) (by kernel_rfl) (hS7gm.cells (vs := [.slice A7gn x79m.f0.f0.length c7go, i6 x79m.f0.f1, i6 x79m.f1]) rfl)) (fun a7gr h7gs => ?_)
       refine WL.bl 1 2 h7gs [(84, .slice A7fi r7f5.length c7fj)] (fun a7gt h7gu => ?_)
       have hS7gv := hS7gm.b1
       have hS7gw := hS7gv.b3
       obtain ⟨r7gy, r7gz, r7h0, A7gx, H⟩ := bind3 H
       refine WL.oq h7gu rfl ?_
       refine owp_call [.agg #[.slice A7gn x79m.f0.f0.length c7go, i6 x79m.f0.f1, i6 x79m.f1], .slice A7fi r7f5.length c7fj] h7gu rfl (by kernel_rfl) rfl Tryd.func20 (by kernel_rfl) rfl (by kernel_rfl) (louverref06qD_Get.calls (p0 := (⟨(⟨x79m.f0.f0, x79m.f0.f1⟩ : S43), x79m.f1⟩ : S45)) kk7f1 (hr7gq.mono (fun _ hp_ => List.mem_append_right _ hp_)) hr7fe.rds A7gx (hS7gw.pool)) (fun e7h2 W7h1 hp7h3 => ?_)
       obtain ⟨v7h6, M7h7, v7h9, M7ha, rfl, hr7h8, hr7hb, hS7hc⟩ := hp7h3
       have hS7hd : St b w0 W7h1 R (M7fd :: M7h7 :: M7ha :: (bx g793 45 [.slice A7gn x79m.f0.f0.length c7go, i6 x79m.f0.f1, i6 x79m.f1]) :: (bx g7gd 31 [.int .u8 r7fs.f0, .int .u32 r7fs.f1]) :: M7g0 :: M7g2 :: M7ff :: Fs) := hS7hc.unpool
       replace hr7h8 : Row k52 52 b w0 R v7h6 r7gy M7h7 := hr7h8.ind k52qind
       replace hr7hb : Row k52 52 b w0 R v7h9 r7gz.f0.f0 M7ha := hr7hb.ind k52qind
       refine ⟨_, rfl, fun a7h4 h7h5 => ?_⟩
       clear h7d1 a7d2 h7f3 a7f2 h7fb a7fa h7fl a7fk h7fn a7fm h7fy a7fx h7g9 a7g8 h7gb a7ga h7gg a7gf h7gi a7gh h7gs a7gr h7gu a7gt
       obtain ⟨A7he, c7hf, rfl⟩ := hr7h8.form
       obtain ⟨A7hg, c7hh, rfl⟩ := hr7hb.form
       refine WL.bl 4 7 h7h5 [(88, i6 r7h0), (87, .agg #[.slice A7hg r7gz.f0.f0.length c7hh, i6 r7gz.f0.f1, i6 r7gz.f1]), (86, .slice A7he r7gy.length c7hf), (82, .tuple #[.slice A7he r7gy.length c7hf, .agg #[.slice A7hg r7gz.f0.f0.length c7hh, i6 r7gz.f0.f1, i6 r7gz.f1], i6 r7h0])] (fun a7hi h7hj => ?_)
       refine WL.oq h7hj rfl ?_
       refine owp_nw (fun g_ => (pt g_)) (.cells ([.slice none 0 0, i6 0, i6 0] : List Value).toArray 45 (0, 0)) h7hj rfl hS7hd (fun a7hk W7hm g7hn h7hl hS7ho => ?_)
       refine WL.bl 1 9 h7hl [(15, .slice A7he r7gy.length c7hf)] (fun a7hp h7hq => ?_)
       refine WL.oq h7hq rfl ?_
       refine owp_st 0 [.slice A7hg r7gz.f0.f0.length c7hh, i6 r7gz.f0.f1, i6 r7gz.f1] h7hq rfl rfl rfl hS7ho [.slice A7hg r7gz.f0.f0.length c7hh, i6 r7gz.f0.f1, i6 r7gz.f1] (fun a7hr W7ht h7hs hS7hu => ?_)
       refine WL.bl 1 11 h7hs [(17, i6 r7h0)] (fun a7hv h7hw => ?_)
       refine WL.dn ?_
       refine wp_seq ?_
       refine WL.start ?_
       refine WL.oq h7hw rfl ?_
       refine owp_rn (.agg #[.slice A7hg r7gz.f0.f0.length c7hh, i6 r7gz.f0.f1, i6 r7gz.f1]) h7hw rfl (run_loadN rfl rfl Tryd.underlying45 rfl (cs := [.slice A7hg r7gz.f0.f0.length c7hh, i6 r7gz.f0.f1, i6 r7gz.f1]) (by kernel_rfl) (hS7hu.cells (vs := [.slice A7hg r7gz.f0.f0.length c7hh, i6 r7gz.f0.f1, i6 r7gz.f1]) rfl)) (fun a7hx h7hy => ?_)
       have hS7hz := hS7hu.b4
       refine WL.oq h7hy rfl ?_
       refine owp_st 0 [.slice A7hg r7gz.f0.f0.length c7hh, i6 r7gz.f0.f1, i6 r7gz.f1] h7hy rfl rfl rfl hS7hz [.slice A7hg r7gz.f0.f0.length c7hh, i6 r7gz.f0.f1, i6 r7gz.f1] (fun a7i0 W7i2 h7i1 hS7i3 => ?_)
       refine WL.dn ?_
       refine wp_seq ?_
       refine wp_seq ?_
       refine WL.start ?_
       refine WL.bl 2 2 h7i1 [(91, .bool (decide (r7h0 = 11))), (90, i6 r7h0)] (fun a7i4 h7i5 => ?_)
       refine WL.dn ?_
       clear h7h5 a7h4 h7hj a7hi h7hl a7hk h7hq a7hp h7hs a7hr h7hw a7hv h7hy a7hx h7i1 a7i0
       by_cases c7i6 : r7h0 = 11
       ·rw [if_pos c7i6] at H
        have hb_ : (decide (r7h0 = 11)) = true := decide_eq_true c7i6
        try rw [hb_] at h7i5
        clear hb_
        refine wp_then h7i5 rfl ?_
        refine wp_seq ?_
        refine WL.start ?_
        obtain ⟨r7i8, A7i7, H⟩ := bind1 H
        refine WL.oq h7i5 rfl ?_
        refine owp_call [] h7i5 rfl (by kernel_rfl) rfl Tryd.func10 (by kernel_rfl) rfl (by kernel_rfl) (louverlaw06qfixed.calls kk7f1 hg0 hg1 A7i7 hS7i3) (fun e7ia W7i9 hp7ib => ?_)
        obtain ⟨rfl, hS7ie⟩ := hp7ib
        refine ⟨_, rfl, fun a7ic h7id => ?_⟩
        refine WL.bl 1 2 h7id [(93, .bool r7i8)] (fun a7if h7ig => ?_)
        clear h7i5 a7i4 h7id a7ic
        by_cases c7ih : r7i8 = true
        ·rw [if_pos c7ih] at H
         have hb_ : r7i8 = true := c7ih
         try rw [hb_] at h7ig
         clear hb_
         have hS7ii := hS7ie.b5
         refine WL.oq h7ig rfl ?_
         refine owp_rn (.agg #[.int .u8 r7fs.f0, .int .u32 r7fs.f1]) h7ig rfl (run_loadN rfl rfl Tryd.underlying31 rfl (cs := [.int .u8 r7fs.f0, .int .u32 r7fs.f1]) (by kernel_rfl) (hS7ii.cells (vs := [.int .u8 r7fs.f0, .int .u32 r7fs.f1]) rfl)) (fun a7ij h7ik => ?_)
         refine WL.oq h7ik rfl (owp_rk (.agg #[.int .u8 1, .int .u32 11]) h7ik rfl (fun a7il h7im => ?_))
         refine WL.oq h7im rfl ?_
         refine owp_rn (.bool (decide (r7fs.f0 = 1) && decide (r7fs.f1 = 11))) h7im rfl (run_steq (xs := [.int .u8 r7fs.f0, .int .u32 r7fs.f1]) (ys := [.int .u8 1, .int .u32 11]) rfl rfl rfl (by kernel_rfl) (eqs_of Tryd.underlying31 (by kernel_rfl) (eqf_cons rfl (by kernel_rfl) rfl rfl (eqi_int Tryd.underlying5) (eqf_last rfl (by kernel_rfl) rfl rfl (eqi_int Tryd.underlying29))))) (fun a7in h7io => ?_)
         refine WL.bl 2 7 h7io [(6, .bool (decide (r7fs.f0 = 1) && decide (r7fs.f1 = 11))), (97, .bool (decide (r7fs.f0 = 1) && decide (r7fs.f1 = 11)))] (fun a7ip h7iq => ?_)
         refine WL.dn ?_
         refine wp_ret ?_
         have hS7ir := hS7ii.drop_
         have hS7is := hS7ir.drop_
         have hS7it := hS7is.drop_
         have hS7iu := hS7it.drop_
         have hS7iv := hS7iu.drop_
         have hS7iw := hS7iv.drop_
         have hS7ix := hS7iw.drop_
         have hS7iy := hS7ix.drop_
         have hS7iz := hS7iy.drop_
         obtain rfl := Option.some.inj H
         repeat (first | with_reducible refine t1 ?_ | with_reducible refine t2 ?_ | with_reducible refine t3 ?_)
         refine bret (.bool (decide (r7fs.f0 = 1) && decide (r7fs.f1 = 11))) h7iq ?_
         exact ⟨rfl, hS7iz⟩
        ·rw [if_neg c7ih] at H
         have hb_ : r7i8 = false := (Bool.eq_false_iff.2 c7ih)
         try rw [hb_] at h7ig
         clear hb_
         refine WL.sk h7ig rfl rfl (fun a7j0 h7j1 => ?_)
         refine WL.sk h7j1 rfl rfl (fun a7j2 h7j3 => ?_)
         refine WL.sk h7j3 rfl rfl (fun a7j4 h7j5 => ?_)
         refine WL.bl 2 7 h7j5 [(6, .bool false), (97, .bool false)] (fun a7j6 h7j7 => ?_)
         refine WL.dn ?_
         refine wp_ret ?_
         have hS7j8 := hS7ie.drop_
         have hS7j9 := hS7j8.drop_
         have hS7ja := hS7j9.drop_
         have hS7jb := hS7ja.drop_
         have hS7jc := hS7jb.drop_
         have hS7jd := hS7jc.drop_
         have hS7je := hS7jd.drop_
         have hS7jf := hS7je.drop_
         have hS7jg := hS7jf.drop_
         obtain rfl := Option.some.inj H
         repeat (first | with_reducible refine t1 ?_ | with_reducible refine t2 ?_ | with_reducible refine t3 ?_)
         refine bret (.bool false) h7j7 ?_
         exact ⟨rfl, hS7jg⟩
       ·rw [if_neg c7i6] at H
        have hb_ : (decide (r7h0 = 11)) = false := decide_eq_false c7i6
        try rw [hb_] at h7i5
        clear hb_
        refine wp_else h7i5 rfl ?_
        refine wp_skip ?_
        refine wp_seq ?_
        refine WT.start 34 (fun w_ => (∀ j_ u_, ([.int .u8 r7fs.f0, .int .u32 r7fs.f1] : List Value)[j_]? = some u_ → w_.cell? ((⟨g7gd, 0, none⟩ : Addr).add j_) = some u_) ∧ (∀ j_ u_, ([.slice A7hg r7gz.f0.f0.length c7hh, i6 r7gz.f0.f1] : List Value)[j_]? = some u_ → w_.cell? ((⟨g793, 0, none⟩ : Addr).add j_) = some u_) ∧ True) (by kernel_rfl) #[false, false, false, false, false, false, false, false, false, false, false, false, false, false, false, false, false, false, false, false, false, false, false, false, false, false, false, false, false, false, false, false, false, false] 34 rfl rfl ?_
        have hS881 := hS7i3.drew
        refine WT.tk 1 h7i5 rfl rfl (.agg #[.int .u8 0, .int .u32 0]) (fun _ _ => by kernel_rfl) ⟨(hS881.b5.cells (vs := [.int .u8 r7fs.f0, .int .u32 r7fs.f1]) rfl), (hS881.cells (vs := [.slice A7hg r7gz.f0.f0.length c7hh, i6 r7gz.f0.f1]) rfl), trivial⟩ (fun a882 s884 h883 => ?_)
        refine WT.tk 0 h883 rfl rfl (.agg #[.int .u8 r7fs.f0, .int .u32 r7fs.f1]) (fun w_ hs_ => (run_loadN rfl rfl Tryd.underlying31 rfl (cs := [.int .u8 r7fs.f0, .int .u32 r7fs.f1]) (by kernel_rfl) hs_.1)) s884 (fun a885 s887 h886 => ?_)
        refine WT.tk 2 h886 rfl rfl (.bool (!(decide (r7fs.f0 = 0) && decide (r7fs.f1 = 0)))) (fun w_ hs_ => (run_stne (xs := [.int .u8 r7fs.f0, .int .u32 r7fs.f1]) (ys := [.int .u8 0, .int .u32 0]) rfl rfl rfl (by kernel_rfl) (eqs_of Tryd.underlying31 (by kernel_rfl) (eqf_cons rfl (by kernel_rfl) rfl rfl (eqi_int Tryd.underlying5) (eqf_last rfl (by kernel_rfl) rfl rfl (eqi_int Tryd.underlying29)))))) s887 (fun a888 s88a h889 => ?_)
        refine WT.tk 3 h889 rfl rfl (.bool (!(decide (r7fs.f0 = 0) && decide (r7fs.f1 = 0)))) (fun _ _ => by kernel_rfl) s88a (fun a88b s88d h88c => ?_)
        clear h7i5 a7i4 h883 a882 h886 a885 h889 a888
        by_cases c88e : (decide (r7fs.f0 = 0) && decide (r7fs.f1 = 0)) = true
        ·rw [if_pos c88e] at H
         have hb_ : (decide (r7fs.f0 = 0) && decide (r7fs.f1 = 0)) = true := c88e
         try rw [hb_] at h88c
         clear hb_
         refine WT.tk 4 h88c rfl rfl (i6 r7h0) (fun _ _ => by kernel_rfl) s88d (fun a88f s88h h88g => ?_)
         refine WT.tk 5 h88g rfl rfl (.bool (!decide (r7h0 = 0))) (fun _ _ => by kernel_rfl) s88h (fun a88i s88k h88j => ?_)
         refine WT.tk 6 h88j rfl rfl (.bool (!decide (r7h0 = 0))) (fun _ _ => by kernel_rfl) s88k (fun a88l s88n h88m => ?_)
         refine WT.tk 7 h88m rfl rfl (.bool (!decide (r7h0 = 0))) (fun _ _ => by kernel_rfl) s88n (fun a88o s88q h88p => ?_)
         clear h88c a88b h88g a88f h88j a88i h88m a88l
         by_cases c88r : r7h0 = 0
         ·rw [if_pos c88r] at H
          have hb_ : (decide (r7h0 = 0)) = true := decide_eq_true c88r
          try rw [hb_] at h88p
          clear hb_
          refine WT.tk 8 h88p rfl rfl (.slice A7g6 r7fr.length c7g7) (fun _ _ => by kernel_rfl) s88q (fun a88s s88u h88t => ?_)
          refine WT.tk 9 h88t rfl rfl (.slice A7ah (gt [] p1 x79p).length c7ai) (fun _ _ => by kernel_rfl) s88u (fun a88v s88x h88w => ?_)
          have hS88y := hS881.b6
          obtain ⟨r890, A88z, H⟩ := bind1 H
          refine WT.o1 10 h88w rfl ?_
          refine owp_call [.slice A7g6 r7fr.length c7g7, .slice A7ah (gt [] p1 x79p).length c7ai] h88w rfl (by kernel_rfl) rfl Tryd.func21 (by kernel_rfl) rfl (by kernel_rfl) (louverref06qSame.calls kk7f1 hr7g1.rds (hx7ag.mono (fun _ hp_ => List.mem_append_right _ hp_)) A88z (hS88y.pool)) (fun e892 W891 hp893 => ?_)
          obtain ⟨rfl, hS896⟩ := hp893
          have hS897 : St b w0 W891 R (M7g0 :: (bx g793 45 [.slice A7hg r7gz.f0.f0.length c7hh, i6 r7gz.f0.f1, i6 r7gz.f1]) :: (bx g7hn 45 [.slice A7hg r7gz.f0.f0.length c7hh, i6 r7gz.f0.f1, i6 r7gz.f1]) :: M7fd :: M7h7 :: M7ha :: (bx g7gd 31 [.int .u8 r7fs.f0, .int .u32 r7fs.f1]) :: M7g2 :: M7ff :: Fs) := hS896.unpool
          refine ⟨_, rfl, fun a894 h895 => ?_⟩
          refine ⟨.inr ⟨(hS897.b6.cells (vs := [.int .u8 r7fs.f0, .int .u32 r7fs.f1]) rfl), (hS897.b1.cells (vs := [.slice A7hg r7gz.f0.f0.length c7hh, i6 r7gz.f0.f1]) rfl), trivial⟩, ?_⟩
          refine WT.tk 11 h895 rfl rfl (.bool (!r890)) (fun _ _ => by kernel_rfl) ⟨(hS897.b6.cells (vs := [.int .u8 r7fs.f0, .int .u32 r7fs.f1]) rfl), (hS897.b1.cells (vs := [.slice A7hg r7gz.f0.f0.length c7hh, i6 r7gz.f0.f1]) rfl), trivial⟩ (fun a898 s89a h899 => ?_)
          refine WT.tk 12 h899 rfl rfl (.bool (!r890)) (fun _ _ => by kernel_rfl) s89a (fun a89b s89d h89c => ?_)
          refine WT.tk 13 h89c rfl rfl (.bool (!r890)) (fun _ _ => by kernel_rfl) s89d (fun a89e s89g h89f => ?_)
          clear h88p a88o h88t a88s h88w a88v h895 a894 h899 a898 h89c a89b
          by_cases c89h : r890 = true
          ·rw [if_pos c89h] at H
           have hb_ : r890 = true := c89h
           try rw [hb_] at h89f
           clear hb_
           refine WT.tk 14 h89f rfl rfl (.slice A7he r7gy.length c7hf) (fun _ _ => by kernel_rfl) s89g (fun a89i s89k h89j => ?_)
           refine WT.tk 15 h89j rfl rfl (.slice A7ah (gt [] p1 x79p).length c7ai) (fun _ _ => by kernel_rfl) s89k (fun a89l s89n h89m => ?_)
           have hS89o := hS897.b4
           obtain ⟨r89q, A89p, H⟩ := bind1 H
           refine WT.o1 16 h89m rfl ?_
           refine owp_call [.slice A7he r7gy.length c7hf, .slice A7ah (gt [] p1 x79p).length c7ai] h89m rfl (by kernel_rfl) rfl Tryd.func21 (by kernel_rfl) rfl (by kernel_rfl) (louverref06qSame.calls kk7f1 hr7h8.rds (hx7ag.mono (fun _ hp_ => List.mem_append_right _ hp_)) A89p (hS89o.pool)) (fun e89s W89r hp89t => ?_)
           obtain ⟨rfl, hS89w⟩ := hp89t
           have hS89x : St b w0 W89r R (M7h7 :: M7g0 :: (bx g793 45 [.slice A7hg r7gz.f0.f0.length c7hh, i6 r7gz.f0.f1, i6 r7gz.f1]) :: (bx g7hn 45 [.slice A7hg r7gz.f0.f0.length c7hh, i6 r7gz.f0.f1, i6 r7gz.f1]) :: M7fd :: M7ha :: (bx g7gd 31 [.int .u8 r7fs.f0, .int .u32 r7fs.f1]) :: M7g2 :: M7ff :: Fs) := hS89w.unpool
           refine ⟨_, rfl, fun a89u h89v => ?_⟩
           refine ⟨.inr ⟨(hS89x.b6.cells (vs := [.int .u8 r7fs.f0, .int .u32 r7fs.f1]) rfl), (hS89x.b2.cells (vs := [.slice A7hg r7gz.f0.f0.length c7hh, i6 r7gz.f0.f1]) rfl), trivial⟩, ?_⟩
           refine WT.tk 17 h89v rfl rfl (.bool (!r89q)) (fun _ _ => by kernel_rfl) ⟨(hS89x.b6.cells (vs := [.int .u8 r7fs.f0, .int .u32 r7fs.f1]) rfl), (hS89x.b2.cells (vs := [.slice A7hg r7gz.f0.f0.length c7hh, i6 r7gz.f0.f1]) rfl), trivial⟩ (fun a89y s8a0 h89z => ?_)
           refine WT.tk 18 h89z rfl rfl (.bool (!r89q)) (fun _ _ => by kernel_rfl) s8a0 (fun a8a1 s8a3 h8a2 => ?_)
           refine WT.tk 19 h8a2 rfl rfl (.bool (!r89q)) (fun _ _ => by kernel_rfl) s8a3 (fun a8a4 s8a6 h8a5 => ?_)
           clear h89f a89e h89j a89i h89m a89l h89v a89u h89z a89y h8a2 a8a1
           by_cases c8a7 : r89q = true
           ·rw [if_pos c8a7] at H
            have hb_ : r89q = true := c8a7
            try rw [hb_] at h8a5
            clear hb_
            refine WT.tk 20 h8a5 rfl rfl (pt g782) (fun _ _ => by kernel_rfl) s8a6 (fun a8a8 s8aa h8a9 => ?_)
            refine WT.tk 22 h8a9 rfl rfl (pt g78i) (fun _ _ => by kernel_rfl) s8aa (fun a8ab s8ad h8ac => ?_)
            have hS8ae := hS89x.b8
            obtain ⟨r8ag, A8af, H⟩ := bind1 H
            refine WT.o1 21 h8ac rfl ?_
            refine owp_call [(pt g782)] h8ac rfl (by kernel_rfl) rfl Tryd.func14 (by kernel_rfl) rfl (by kernel_rfl) (hpack_Encoder_Table.calls hr7fg A8af hS8ae) (fun e8ai W8ah hp8aj => ?_)
            obtain ⟨M8am, rfl, hr8an, hS8ao⟩ := hp8aj
            refine ⟨_, rfl, fun a8ak h8al => ?_⟩
            refine ⟨.inr ⟨(hS8ao.b7.cells (vs := [.int .u8 r7fs.f0, .int .u32 r7fs.f1]) rfl), (hS8ao.b3.cells (vs := [.slice A7hg r7gz.f0.f0.length c7hh, i6 r7gz.f0.f1]) rfl), trivial⟩, ?_⟩
            have hS8ap := hS8ao.b8
            obtain ⟨r8ar, A8aq, H⟩ := bind1 H
            refine WT.o1 23 h8al rfl ?_
            refine owp_call [(pt g78i)] h8al rfl (by kernel_rfl) rfl Tryd.func15 (by kernel_rfl) rfl (by kernel_rfl) (hpack_Decoder_Table.calls hr7g3 A8aq hS8ap) (fun e8at W8as hp8au => ?_)
            obtain ⟨M8ax, rfl, hr8ay, hS8az⟩ := hp8au
            refine ⟨_, rfl, fun a8av h8aw => ?_⟩
            refine ⟨.inr ⟨(hS8az.b8.cells (vs := [.int .u8 r7fs.f0, .int .u32 r7fs.f1]) rfl), (hS8az.b4.cells (vs := [.slice A7hg r7gz.f0.f0.length c7hh, i6 r7gz.f0.f1]) rfl), trivial⟩, ?_⟩
            refine WT.tk 24 h8aw rfl rfl (.bool (!decide (r8ag = r8ar))) (fun _ _ => by kernel_rfl) ⟨(hS8az.b8.cells (vs := [.int .u8 r7fs.f0, .int .u32 r7fs.f1]) rfl), (hS8az.b4.cells (vs := [.slice A7hg r7gz.f0.f0.length c7hh, i6 r7gz.f0.f1]) rfl), trivial⟩ (fun a8b0 s8b2 h8b1 => ?_)
            refine WT.tk 25 h8b1 rfl rfl (.bool (!decide (r8ag = r8ar))) (fun _ _ => by kernel_rfl) s8b2 (fun a8b3 s8b5 h8b4 => ?_)
            refine WT.tk 26 h8b4 rfl rfl (.bool (!decide (r8ag = r8ar))) (fun _ _ => by kernel_rfl) s8b5 (fun a8b6 s8b8 h8b7 => ?_)
            clear h8a5 a8a4 h8a9 a8a8 h8ac a8ab h8al a8ak h8aw a8av h8b1 a8b0 h8b4 a8b3
            by_cases c8b9 : r8ag = r8ar
            ·rw [if_pos c8b9] at H
             have hb_ : (decide (r8ag = r8ar)) = true := decide_eq_true c8b9
             try rw [hb_] at h8b7
             clear hb_
             refine WT.tk 27 h8b7 rfl rfl (pt g78i) (fun _ _ => by kernel_rfl) s8b8 (fun a8ba s8bc h8bb => ?_)
             refine WT.tk 29 h8bb rfl rfl (pt g793) (fun _ _ => by kernel_rfl) s8bc (fun a8bd s8bf h8be => ?_)
             refine WT.tk 30 h8be rfl rfl (.agg #[.slice A7hg r7gz.f0.f0.length c7hh, i6 r7gz.f0.f1]) (fun w_ hs_ => (run_loadN rfl rfl Tryd.underlying43 rfl (cs := [.slice A7hg r7gz.f0.f0.length c7hh, i6 r7gz.f0.f1]) (by kernel_rfl) hs_.2.1)) s8bf (fun a8bg s8bi h8bh => ?_)
             obtain ⟨r8bk, A8bj, H⟩ := bind1 H
             refine WT.o1 28 h8bh rfl ?_
             refine owp_call [(pt g78i)] h8bh rfl (by kernel_rfl) rfl Tryd.func15 (by kernel_rfl) rfl (by kernel_rfl) (hpack_Decoder_Table.calls hr8ay A8bj hS8az) (fun e8bm W8bl hp8bn => ?_)
             obtain ⟨M8bq, rfl, hr8br, hS8bs⟩ := hp8bn
             refine ⟨_, rfl, fun a8bo h8bp => ?_⟩
             refine ⟨.inr ⟨(hS8bs.b8.cells (vs := [.int .u8 r7fs.f0, .int .u32 r7fs.f1]) rfl), (hS8bs.b4.cells (vs := [.slice A7hg r7gz.f0.f0.length c7hh, i6 r7gz.f0.f1]) rfl), trivial⟩, ?_⟩
             have hS8bt := hS8bs.b7
             obtain ⟨r8bv, A8bu, H⟩ := bind1 H
             refine WT.o1 31 h8bp rfl ?_
             refine owp_call [.agg #[.slice A7hg r7gz.f0.f0.length c7hh, i6 r7gz.f0.f1]] h8bp rfl (by kernel_rfl) rfl Tryd.func22 (by kernel_rfl) rfl (by kernel_rfl) (louverref05qT_Size.calls (p0 := (⟨r7gz.f0.f0, r7gz.f0.f1⟩ : S43)) kk7f1 hr7hb.rds A8bu (hS8bt.pool)) (fun e8bx W8bw hp8by => ?_)
             obtain ⟨rfl, hS8c1⟩ := hp8by
             have hS8c2 : St b w0 W8bw R (M7ha :: M8bq :: M8am :: M7h7 :: M7g0 :: (bx g793 45 [.slice A7hg r7gz.f0.f0.length c7hh, i6 r7gz.f0.f1, i6 r7gz.f1]) :: (bx g7hn 45 [.slice A7hg r7gz.f0.f0.length c7hh, i6 r7gz.f0.f1, i6 r7gz.f1]) :: M7fd :: (bx g7gd 31 [.int .u8 r7fs.f0, .int .u32 r7fs.f1]) :: Fs) := hS8c1.unpool
             refine ⟨_, rfl, fun a8bz h8c0 => ?_⟩
             refine ⟨.inr ⟨(hS8c2.b8.cells (vs := [.int .u8 r7fs.f0, .int .u32 r7fs.f1]) rfl), (hS8c2.b5.cells (vs := [.slice A7hg r7gz.f0.f0.length c7hh, i6 r7gz.f0.f1]) rfl), trivial⟩, ?_⟩
             refine WT.tk 32 h8c0 rfl rfl (.bool (!decide (r8bk = r8bv))) (fun _ _ => by kernel_rfl) ⟨(hS8c2.b8.cells (vs := [.int .u8 r7fs.f0, .int .u32 r7fs.f1]) rfl), (hS8c2.b5.cells (vs := [.slice A7hg r7gz.f0.f0.length c7hh, i6 r7gz.f0.f1]) rfl), trivial⟩ (fun a8c3 s8c5 h8c4 => ?_)
             refine WT.tk 33 h8c4 rfl rfl (.bool (!decide (r8bk = r8bv))) (fun _ _ => by kernel_rfl) s8c5 (fun a8c6 s8c8 h8c7 => ?_)
             refine WT.dn ?_
             clear h8b7 a8b6 h8bb a8ba h8be a8bd h8bh a8bg h8bp a8bo h8c0 a8bz h8c4 a8c3
             by_cases c8c9 : r8bk = r8bv
             ·rw [if_pos c8c9] at H
              have hb_ : (decide (r8bk = r8bv)) = true := decide_eq_true c8c9
              try rw [hb_] at h8c7
              clear hb_
              refine wp_else h8c7 rfl ?_
              refine wp_skip ?_
              refine WL.start ?_
              refine WL.bl 2 2 h8c7 [(34, i6 (IntKind.i64.wrap (x79p + 1))), (132, i6 (IntKind.i64.wrap (x79p + 1)))] (fun a8ca h8cb => ?_)
              refine WL.dn ?_
              have hS8cc := hS8c2.b5
              obtain ⟨M8cd, hp8ce, hS8cf⟩ := k45qfo (⟨(⟨r7gz.f0.f0, r7gz.f0.f1⟩ : S43), r7gz.f1⟩ : S45) hr7hb hS8cc
              have hS8cg := hS8cf.b3
              have hS8ch := hS8cg.drop_
              have hS8ci := hS8ch.b3
              have hS8cj := hS8ci.drop_
              have hS8ck := hS8cj.b3
              have hS8cl := hS8ck.drop_
              have hS8cm := hS8cl.b3
              have hS8cn := hS8cm.drop_
              have hS8co := hS8cn.b3
              have hS8cp := hS8co.drop_
              have hS8cq := hS8cp.b1
              have hS8cr := hS8cq.b2
              exact ⟨kk7f1, by omega, r7f6, M8am, r7ft, M8bq, (⟨(⟨r7gz.f0.f0, r7gz.f0.f1⟩ : S43), r7gz.f1⟩ : S45), M8cd, IntKind.i64.wrap (x79p + 1), h8cb.keep ⟨rfl, rfl, rfl, rfl, rfl, rfl, rfl, rfl, trivial⟩, ⟨H⟩, ⟨by omega⟩, ⟨hS8cr⟩, ⟨hr8an⟩, ⟨hr8br⟩, ⟨hp8ce⟩⟩
             ·rw [if_neg c8c9] at H
              have hb_ : (decide (r8bk = r8bv)) = false := decide_eq_false c8c9
              try rw [hb_] at h8c7
              clear hb_
              refine wp_then h8c7 rfl ?_
              refine wp_seq ?_
              refine WL.start ?_
              refine WL.bl 1 1 h8c7 [(6, .bool false)] (fun a8cs h8ct => ?_)
              refine WL.dn ?_
              refine wp_ret ?_
              have hS8cu := hS8c2.drop_
              have hS8cv := hS8cu.drop_
              have hS8cw := hS8cv.drop_
              have hS8cx := hS8cw.drop_
              have hS8cy := hS8cx.drop_
              have hS8cz := hS8cy.drop_
              have hS8d0 := hS8cz.drop_
              have hS8d1 := hS8d0.drop_
              have hS8d2 := hS8d1.drop_
              obtain rfl := Option.some.inj H
              repeat (first | with_reducible refine t1 ?_ | with_reducible refine t2 ?_ | with_reducible refine t3 ?_)
              refine bret (.bool false) h8ct ?_
              exact ⟨rfl, hS8d2⟩
            ·rw [if_neg c8b9] at H
             have hb_ : (decide (r8ag = r8ar)) = false := decide_eq_false c8b9
             try rw [hb_] at h8b7
             clear hb_
             refine WT.sp 27 h8b7 rfl rfl s8b8 (fun a8d3 s8d5 h8d4 => ?_)
             refine WT.sp 28 h8d4 rfl rfl s8d5 (fun a8d6 s8d8 h8d7 => ?_)
             refine WT.sp 29 h8d7 rfl rfl s8d8 (fun a8d9 s8db h8da => ?_)
             refine WT.sp 30 h8da rfl rfl s8db (fun a8dc s8de h8dd => ?_)
             refine WT.sp 31 h8dd rfl rfl s8de (fun a8df s8dh h8dg => ?_)
             refine WT.sp 32 h8dg rfl rfl s8dh (fun a8di s8dk h8dj => ?_)
             refine WT.tk 33 h8dj rfl rfl (.bool true) (fun _ _ => by kernel_rfl) s8dk (fun a8dl s8dn h8dm => ?_)
             refine WT.dn ?_
             refine wp_then h8dm rfl ?_
             refine wp_seq ?_
             refine WL.start ?_
             refine WL.bl 1 1 h8dm [(6, .bool false)] (fun a8do h8dp => ?_)
             refine WL.dn ?_
             refine wp_ret ?_
             have hS8dq := hS8az.drop_
             have hS8dr := hS8dq.drop_
             have hS8ds := hS8dr.drop_
             have hS8dt := hS8ds.drop_
             have hS8du := hS8dt.drop_
             have hS8dv := hS8du.drop_
             have hS8dw := hS8dv.drop_
             have hS8dx := hS8dw.drop_
             have hS8dy := hS8dx.drop_
             obtain rfl := Option.some.inj H
             repeat (first | with_reducible refine t1 ?_ | with_reducible refine t2 ?_ | with_reducible refine t3 ?_)
             refine bret (.bool false) h8dp ?_
             exact ⟨rfl, hS8dy⟩
           ·rw [if_neg c8a7] at H
            have hb_ : r89q = false := (Bool.eq_false_iff.2 c8a7)
            try rw [hb_] at h8a5
            clear hb_
            refine WT.sp 20 h8a5 rfl rfl s8a6 (fun a8dz s8e1 h8e0 => ?_)
            refine WT.sp 21 h8e0 rfl rfl s8e1 (fun a8e2 s8e4 h8e3 => ?_)
            refine WT.sp 22 h8e3 rfl rfl s8e4 (fun a8e5 s8e7 h8e6 => ?_)
            refine WT.sp 23 h8e6 rfl rfl s8e7 (fun a8e8 s8ea h8e9 => ?_)
            refine WT.sp 24 h8e9 rfl rfl s8ea (fun a8eb s8ed h8ec => ?_)
            refine WT.tk 25 h8ec rfl rfl (.bool true) (fun _ _ => by kernel_rfl) s8ed (fun a8ee s8eg h8ef => ?_)
            refine WT.tk 26 h8ef rfl rfl (.bool true) (fun _ _ => by kernel_rfl) s8eg (fun a8eh s8ej h8ei => ?_)
            refine WT.sp 27 h8ei rfl rfl s8ej (fun a8ek s8em h8el => ?_)
            refine WT.sp 28 h8el rfl rfl s8em (fun a8en s8ep h8eo => ?_)
            refine WT.sp 29 h8eo rfl rfl s8ep (fun a8eq s8es h8er => ?_)
            refine WT.sp 30 h8er rfl rfl s8es (fun a8et s8ev h8eu => ?_)
            refine WT.sp 31 h8eu rfl rfl s8ev (fun a8ew s8ey h8ex => ?_)
            clear h8a5 a8a4 h8e0 a8dz h8e3 a8e2 h8e6 a8e5 h8e9 a8e8 h8ec a8eb h8ef a8ee h8ei a8eh h8el a8ek h8eo a8en h8er a8eq h8eu a8et
            refine WT.sp 32 h8ex rfl rfl s8ey (fun a8ez s8f1 h8f0 => ?_)
            refine WT.tk 33 h8f0 rfl rfl (.bool true) (fun _ _ => by kernel_rfl) s8f1 (fun a8f2 s8f4 h8f3 => ?_)
            refine WT.dn ?_
            refine wp_then h8f3 rfl ?_
            refine wp_seq ?_
            refine WL.start ?_
            refine WL.bl 1 1 h8f3 [(6, .bool false)] (fun a8f5 h8f6 => ?_)
            refine WL.dn ?_
            refine wp_ret ?_
            have hS8f7 := hS89x.drop_
            have hS8f8 := hS8f7.drop_
            have hS8f9 := hS8f8.drop_
            have hS8fa := hS8f9.drop_
            have hS8fb := hS8fa.drop_
            have hS8fc := hS8fb.drop_
            have hS8fd := hS8fc.drop_
            have hS8fe := hS8fd.drop_
            have hS8ff := hS8fe.drop_
            obtain rfl := Option.some.inj H
            repeat (first | with_reducible refine t1 ?_ | with_reducible refine t2 ?_ | with_reducible refine t3 ?_)
            refine bret (.bool false) h8f6 ?_
            exact ⟨rfl, hS8ff⟩
          ·rw [if_neg c89h] at H
           have hb_ : r890 = false := (Bool.eq_false_iff.2 c89h)
           try rw [hb_] at h89f
           clear hb_
           refine WT.sp 14 h89f rfl rfl s89g (fun a8fg s8fi h8fh => ?_)
           refine WT.sp 15 h8fh rfl rfl s8fi (fun a8fj s8fl h8fk => ?_)
           refine WT.sp 16 h8fk rfl rfl s8fl (fun a8fm s8fo h8fn => ?_)
           refine WT.sp 17 h8fn rfl rfl s8fo (fun a8fp s8fr h8fq => ?_)
           refine WT.tk 18 h8fq rfl rfl (.bool true) (fun _ _ => by kernel_rfl) s8fr (fun a8fs s8fu h8ft => ?_)
           refine WT.tk 19 h8ft rfl rfl (.bool true) (fun _ _ => by kernel_rfl) s8fu (fun a8fv s8fx h8fw => ?_)
           refine WT.sp 20 h8fw rfl rfl s8fx (fun a8fy s8g0 h8fz => ?_)
           refine WT.sp 21 h8fz rfl rfl s8g0 (fun a8g1 s8g3 h8g2 => ?_)
           refine WT.sp 22 h8g2 rfl rfl s8g3 (fun a8g4 s8g6 h8g5 => ?_)
           refine WT.sp 23 h8g5 rfl rfl s8g6 (fun a8g7 s8g9 h8g8 => ?_)
           refine WT.sp 24 h8g8 rfl rfl s8g9 (fun a8ga s8gc h8gb => ?_)
           refine WT.tk 25 h8gb rfl rfl (.bool true) (fun _ _ => by kernel_rfl) s8gc (fun a8gd s8gf h8ge => ?_)
           clear h89f a89e h8fh a8fg h8fk a8fj h8fn a8fm h8fq a8fp h8ft a8fs h8fw a8fv h8fz a8fy h8g2 a8g1 h8g5 a8g4 h8g8 a8g7 h8gb a8ga
           refine WT.tk 26 h8ge rfl rfl (.bool true) (fun _ _ => by kernel_rfl) s8gf (fun a8gg s8gi h8gh => ?_)
           refine WT.sp 27 h8gh rfl rfl s8gi (fun a8gj s8gl h8gk => ?_)
           refine WT.sp 28 h8gk rfl rfl s8gl (fun a8gm s8go h8gn => ?_)
           refine WT.sp 29 h8gn rfl rfl s8go (fun a8gp s8gr h8gq => ?_)
           refine WT.sp 30 h8gq rfl rfl s8gr (fun a8gs s8gu h8gt => ?_)
           refine WT.sp 31 h8gt rfl rfl s8gu (fun a8gv s8gx h8gw => ?_)
           refine WT.sp 32 h8gw rfl rfl s8gx (fun a8gy s8h0 h8gz => ?_)
           refine WT.tk 33 h8gz rfl rfl (.bool true) (fun _ _ => by kernel_rfl) s8h0 (fun a8h1 s8h3 h8h2 => ?_)
           refine WT.dn ?_
           refine wp_then h8h2 rfl ?_
           refine wp_seq ?_
           refine WL.start ?_
           refine WL.bl 1 1 h8h2 [(6, .bool false)] (fun a8h4 h8h5 => ?_)
           refine WL.dn ?_
           refine wp_ret ?_
           have hS8h6 := hS897.drop_
           have hS8h7 := hS8h6.drop_
           have hS8h8 := hS8h7.drop_
           have hS8h9 := hS8h8.drop_
           have hS8ha := hS8h9.drop_
           have hS8hb := hS8ha.drop_
           have hS8hc := hS8hb.drop_
           have hS8hd := hS8hc.drop_
           have hS8he := hS8hd.drop_
           obtain rfl := Option.some.inj H
           repeat (first | with_reducible refine t1 ?_ | with_reducible refine t2 ?_ | with_reducible refine t3 ?_)
           refine bret (.bool false) h8h5 ?_
           exact ⟨rfl, hS8he⟩
         ·rw [if_neg c88r] at H
          have hb_ : (decide (r7h0 = 0)) = false := decide_eq_false c88r
          try rw [hb_] at h88p
          clear hb_
          refine WT.sp 8 h88p rfl rfl s88q (fun a8hf s8hh h8hg => ?_)
          refine WT.sp 9 h8hg rfl rfl s8hh (fun a8hi s8hk h8hj => ?_)
          refine WT.sp 10 h8hj rfl rfl s8hk (fun a8hl s8hn h8hm => ?_)
          refine WT.sp 11 h8hm rfl rfl s8hn (fun a8ho s8hq h8hp => ?_)
          refine WT.tk 12 h8hp rfl rfl (.bool true) (fun _ _ => by kernel_rfl) s8hq (fun a8hr s8ht h8hs => ?_)
          refine WT.tk 13 h8hs rfl rfl (.bool true) (fun _ _ => by kernel_rfl) s8ht (fun a8hu s8hw h8hv => ?_)
          refine WT.sp 14 h8hv rfl rfl s8hw (fun a8hx s8hz h8hy => ?_)
          refine WT.sp 15 h8hy rfl rfl s8hz (fun a8i0 s8i2 h8i1 => ?_)
          refine WT.sp 16 h8i1 rfl rfl s8i2 (fun a8i3 s8i5 h8i4 => ?_)
          refine WT.sp 17 h8i4 rfl rfl s8i5 (fun a8i6 s8i8 h8i7 => ?_)
          refine WT.tk 18 h8i7 rfl rfl (.bool true) (fun _ _ => by kernel_rfl) s8i8 (fun a8i9 s8ib h8ia => ?_)
          refine WT.tk 19 h8ia rfl rfl (.bool true) (fun _ _ => by kernel_rfl) s8ib (fun a8ic s8ie h8id => ?_)
          clear h88p a88o h8hg a8hf h8hj a8hi h8hm a8hl h8hp a8ho h8hs a8hr h8hv a8hu h8hy a8hx h8i1 a8i0 h8i4 a8i3 h8i7 a8i6 h8ia a8i9
          refine WT.sp 20 h8id rfl rfl s8ie (fun a8if s8ih h8ig => ?_)
          refine WT.sp 21 h8ig rfl rfl s8ih (fun a8ii s8ik h8ij => ?_)
          refine WT.sp 22 h8ij rfl rfl s8ik (fun a8il s8in h8im => ?_)
          refine WT.sp 23 h8im rfl rfl s8in (fun a8io s8iq h8ip => ?_)
          refine WT.sp 24 h8ip rfl rfl s8iq (fun a8ir s8it h8is => ?_)
          refine WT.tk 25 h8is rfl rfl (.bool true) (fun _ _ => by kernel_rfl) s8it (fun a8iu s8iw h8iv => ?_)
          refine WT.tk 26 h8iv rfl rfl (.bool true) (fun _ _ => by kernel_rfl) s8iw (fun a8ix s8iz h8iy => ?_)
          refine WT.sp 27 h8iy rfl rfl s8iz (fun a8j0 s8j2 h8j1 => ?_)
          refine WT.sp 28 h8j1 rfl rfl s8j2 (fun a8j3 s8j5 h8j4 => ?_)
          refine WT.sp 29 h8j4 rfl rfl s8j5 (fun a8j6 s8j8 h8j7 => ?_)
          refine WT.sp 30 h8j7 rfl rfl s8j8 (fun a8j9 s8jb h8ja => ?_)
          refine WT.sp 31 h8ja rfl rfl s8jb (fun a8jc s8je h8jd => ?_)
          clear h8id a8ic h8ig a8if h8ij a8ii h8im a8il h8ip a8io h8is a8ir h8iv a8iu h8iy a8ix h8j1 a8j0 h8j4 a8j3 h8j7 a8j6 h8ja a8j9
          refine WT.sp 32 h8jd rfl rfl s8je (fun a8jf s8jh h8jg => ?_)
          refine WT.tk 33 h8jg rfl rfl (.bool true) (fun _ _ => by kernel_rfl) s8jh (fun a8ji s8jk h8jj => ?_)
          refine WT.dn ?_
          refine wp_then h8jj rfl ?_
          refine wp_seq ?_
          refine WL.start ?_
          refine WL.bl 1 1 h8jj [(6, .bool false)] (fun a8jl h8jm => ?_)
          refine WL.dn ?_
          refine wp_ret ?_
          have hS8jn := hS881.drop_
          have hS8jo := hS8jn.drop_
          have hS8jp := hS8jo.drop_
          have hS8jq := hS8jp.drop_
          have hS8jr := hS8jq.drop_
          have hS8js := hS8jr.drop_
          have hS8jt := hS8js.drop_
          have hS8ju := hS8jt.drop_
          have hS8jv := hS8ju.drop_
          obtain rfl := Option.some.inj H
          repeat (first | with_reducible refine t1 ?_ | with_reducible refine t2 ?_ | with_reducible refine t3 ?_)
          refine bret (.bool false) h8jm ?_
          exact ⟨rfl, hS8jv⟩
        ·rw [if_neg c88e] at H
         have hb_ : (decide (r7fs.f0 = 0) && decide (r7fs.f1 = 0)) = false := (Bool.eq_false_iff.2 c88e)
         try rw [hb_] at h88c
         clear hb_
         refine WT.sp 4 h88c rfl rfl s88d (fun a8jw s8jy h8jx => ?_)
         refine WT.sp 5 h8jx rfl rfl s8jy (fun a8jz s8k1 h8k0 => ?_)
         refine WT.tk 6 h8k0 rfl rfl (.bool true) (fun _ _ => by kernel_rfl) s8k1 (fun a8k2 s8k4 h8k3 => ?_)
         refine WT.tk 7 h8k3 rfl rfl (.bool true) (fun _ _ => by kernel_rfl) s8k4 (fun a8k5 s8k7 h8k6 => ?_)
         refine WT.sp 8 h8k6 rfl rfl s8k7 (fun a8k8 s8ka h8k9 => ?_)
         refine WT.sp 9 h8k9 rfl rfl s8ka (fun a8kb s8kd h8kc => ?_)
         refine WT.sp 10 h8kc rfl rfl s8kd (fun a8ke s8kg h8kf => ?_)
         refine WT.sp 11 h8kf rfl rfl s8kg (fun a8kh s8kj h8ki => ?_)
         refine WT.tk 12 h8ki rfl rfl (.bool true) (fun _ _ => by kernel_rfl) s8kj (fun a8kk s8km h8kl => ?_)
         refine WT.tk 13 h8kl rfl rfl (.bool true) (fun _ _ => by kernel_rfl) s8km (fun a8kn s8kp h8ko => ?_)
         refine WT.sp 14 h8ko rfl rfl s8kp (fun a8kq s8ks h8kr => ?_)
         refine WT.sp 15 h8kr rfl rfl s8ks (fun a8kt s8kv h8ku => ?_)
         clear h88c a88b h8jx a8jw h8k0 a8jz h8k3 a8k2 h8k6 a8k5 h8k9 a8k8 h8kc a8kb h8kf a8ke h8ki a8kh h8kl a8kk h8ko a8kn h8kr a8kq
         refine WT.sp 16 h8ku rfl rfl s8kv (fun a8kw s8ky h8kx => ?_)
         refine WT.sp 17 h8kx rfl rfl s8ky (fun a8kz s8l1 h8l0 => ?_)
         refine WT.tk 18 h8l0 rfl rfl (.bool true) (fun _ _ => by kernel_rfl) s8l1 (fun a8l2 s8l4 h8l3 => ?_)
         refine WT.tk 19 h8l3 rfl rfl (.bool true) (fun _ _ => by kernel_rfl) s8l4 (fun a8l5 s8l7 h8l6 => ?_)
         refine WT.sp 20 h8l6 rfl rfl s8l7 (fun a8l8 s8la h8l9 => ?_)
         refine WT.sp 21 h8l9 rfl rfl s8la (fun a8lb s8ld h8lc => ?_)
         refine WT.sp 22 h8lc rfl rfl s8ld (fun a8le s8lg h8lf => ?_)
         refine WT.sp 23 h8lf rfl rfl s8lg (fun a8lh s8lj h8li => ?_)
         refine WT.sp 24 h8li rfl rfl s8lj (fun a8lk s8lm h8ll => ?_)
         refine WT.tk 25 h8ll rfl rfl (.bool true) (fun _ _ => by kernel_rfl) s8lm (fun a8ln s8lp h8lo => ?_)
         refine WT.tk 26 h8lo rfl rfl (.bool true) (fun _ _ => by kernel_rfl) s8lp (fun a8lq s8ls h8lr => ?_)
         refine WT.sp 27 h8lr rfl rfl s8ls (fun a8lt s8lv h8lu => ?_)
         clear h8ku a8kt h8kx a8kw h8l0 a8kz h8l3 a8l2 h8l6 a8l5 h8l9 a8l8 h8lc a8lb h8lf a8le h8li a8lh h8ll a8lk h8lo a8ln h8lr a8lq
         refine WT.sp 28 h8lu rfl rfl s8lv (fun a8lw s8ly h8lx => ?_)
         refine WT.sp 29 h8lx rfl rfl s8ly (fun a8lz s8m1 h8m0 => ?_)
         refine WT.sp 30 h8m0 rfl rfl s8m1 (fun a8m2 s8m4 h8m3 => ?_)
         refine WT.sp 31 h8m3 rfl rfl s8m4 (fun a8m5 s8m7 h8m6 => ?_)
         refine WT.sp 32 h8m6 rfl rfl s8m7 (fun a8m8 s8ma h8m9 => ?_)
         refine WT.tk 33 h8m9 rfl rfl (.bool true) (fun _ _ => by kernel_rfl) s8ma (fun a8mb s8md h8mc => ?_)
         refine WT.dn ?_
         refine wp_then h8mc rfl ?_
         refine wp_seq ?_
         refine WL.start ?_
         refine WL.bl 1 1 h8mc [(6, .bool false)] (fun a8me h8mf => ?_)
         refine WL.dn ?_
         refine wp_ret ?_
         have hS8mg := hS881.drop_
         have hS8mh := hS8mg.drop_
         have hS8mi := hS8mh.drop_
         have hS8mj := hS8mi.drop_
         have hS8mk := hS8mj.drop_
         have hS8ml := hS8mk.drop_
         have hS8mm := hS8ml.drop_
         have hS8mn := hS8mm.drop_
         have hS8mo := hS8mn.drop_
         obtain rfl := Option.some.inj H
         repeat (first | with_reducible refine t1 ?_ | with_reducible refine t2 ?_ | with_reducible refine t3 ?_)
         refine bret (.bool false) h8mf ?_
         exact ⟨rfl, hS8mo⟩
     ·rw [if_neg c7ap] at H
      have hb_ : (decide (x79p < (p2.length : Int))) = false := decide_eq_false c7ap
      try rw [hb_] at h7ao
      clear hb_
      refine WL.sk h7ao rfl rfl (fun a8mp h8mq => ?_)
      refine WL.sk h8mq rfl rfl (fun a8mr h8ms => ?_)
      refine WL.sk h8ms rfl rfl (fun a8mt h8mu => ?_)
      refine WL.sk h8mu rfl rfl (fun a8mv h8mw => ?_)
      refine WL.sk h8mw rfl rfl (fun a8mx h8my => ?_)
      refine WL.sk h8my rfl rfl (fun a8mz h8n0 => ?_)
      refine WL.bl 1 12 h8n0 [(50, .bool false)] (fun a8n1 h8n2 => ?_)
      refine WL.dn ?_
      refine wp_else h8n2 rfl ?_
      refine wp_skip ?_
      refine wp_seq ?_
      refine WL.start ?_
      refine WL.bl 2 2 h8n2 [(74, .slice A7ah (gt [] p1 x79p).length c7ai), (73, pt g782)] (fun a8n3 h8n4 => ?_)
      obtain ⟨r8n6, r8n7, A8n5, H⟩ := bind2 H
      refine WL.oq h8n4 rfl ?_
      refine owp_call [(pt g782), .slice A7ah (gt [] p1 x79p).length c7ai] h8n4 rfl (by kernel_rfl) rfl Tryd.func13 (by kernel_rfl) rfl (by kernel_rfl) (hpack_Encoder_Put.calls kk79x hr79i hx7ag hg0 hg1 A8n5 hS79e) (fun e8n9 W8n8 hp8na => ?_)
      obtain ⟨v8nd, M8ne, M8ng, rfl, hr8nf, hr8nh, hS8ni⟩ := hp8na
      refine ⟨_, rfl, fun a8nb h8nc => ?_⟩
      obtain ⟨A8nj, c8nk, rfl⟩ := hr8nf.form
      refine WL.bl 1 4 h8nc [(12, .slice A8nj r8n6.length c8nk)] (fun a8nl h8nm => ?_)
      refine WL.dn ?_
      refine wp_seq ?_
      refine WL.start ?_
      refine WL.bl 2 2 h8nm [(78, .slice A8nj r8n6.length c8nk), (77, pt g78i)] (fun a8nn h8no => ?_)
      have hS8np := hS8ni.b2
      have hS8nq := hS8np.b1
      obtain ⟨r8ns, r8nt, r8nu, A8nr, H⟩ := bind3 H
      refine WL.oq h8no rfl ?_
      refine owp_call [(pt g78i), .slice A8nj r8n6.length c8nk] h8no rfl (by kernel_rfl) rfl Tryd.func12 (by kernel_rfl) rfl (by kernel_rfl) (hpack_Decoder_Get.calls kk79x (hr79l.mono (fun _ hp_ => List.mem_append_right _ hp_)) hr8nf.rds hg0 hg1 A8nr (hS8nq.pool)) (fun e8nw W8nv hp8nx => ?_)
      obtain ⟨v8o0, M8o1, M8o3, rfl, hr8o2, hr8o4, hS8o5⟩ := hp8nx
      have hS8o6 : St b w0 W8nv R (M8ne :: M8o1 :: M8o3 :: M8ng :: M79n :: Fs) := hS8o5.unpool
      replace hr8o2 : Row k52 52 b w0 R v8o0 r8ns M8o1 := hr8o2.ind k52qind
      replace hr8o4 : Ptr k64 64 b w0 R (pt g78i) r8nu M8o3 := hr8o4.ind k64qind
      refine ⟨_, rfl, fun a8ny h8nz => ?_⟩
      clear h7ao a7an h8mq a8mp h8ms a8mr h8mu a8mt h8mw a8mv h8my a8mx h8n0 a8mz h8n2 a8n1 h8n4 a8n3 h8nc a8nb h8nm a8nl h8no a8nn
      obtain ⟨A8o7, c8o8, rfl⟩ := hr8o2.form
      refine WL.bl 3 6 h8nz [(81, .agg #[.int .u8 r8nt.f0, .int .u32 r8nt.f1]), (80, .slice A8o7 r8ns.length c8o8), (76, .tuple #[.slice A8o7 r8ns.length c8o8, .agg #[.int .u8 r8nt.f0, .int .u32 r8nt.f1]])] (fun a8o9 h8oa => ?_)
      refine WL.oq h8oa rfl ?_
      refine owp_nw (fun g_ => (pt g_)) (.cells ([.int .u8 0, .int .u32 0] : List Value).toArray 31 (0, 0)) h8oa rfl hS8o6 (fun a8ob W8od g8oe h8oc hS8of => ?_)
      refine WL.bl 1 8 h8oc [(13, .slice A8o7 r8ns.length c8o8)] (fun a8og h8oh => ?_)
      refine WL.oq h8oh rfl ?_
      refine owp_st 0 [.int .u8 r8nt.f0, .int .u32 r8nt.f1] h8oh rfl rfl rfl hS8of [.int .u8 r8nt.f0, .int .u32 r8nt.f1] (fun a8oi W8ok h8oj hS8ol => ?_)
      refine WL.dn ?_
      refine wp_seq ?_
      refine WL.start ?_
      have hS8om := hS8ol.b5
      obtain ⟨A8oo, c8op, M8oq, hr8or, hS8on⟩ := k45qoq hr79o hS8om
      refine WL.oq h8oj rfl ?_
      refine owp_rn (.agg #[.slice A8oo x79m.f0.f0.length c8op, i6 x79m.f0.f1, i6 x79m.f1]) h8oj rfl (run_loadN rfl rfl Tryd.underlying45 rfl (cs := [.slice A8oo x79m.f0.f0.length c8op, i6 x79m.f0.f1, i6 x79m.f1]) (by kernel_rfl) (hS8on.cells (vs := [.slice A8oo x79m.f0.f0.length c8op, i6 x79m.f0.f1, i6 x79m.f1]) rfl)) (fun a8os h8ot => ?_)
      refine WL.bl 1 2 h8ot [(84, .slice A8nj r8n6.length c8nk)] (fun a8ou h8ov => ?_)
      have hS8ow := hS8on.b1
      have hS8ox := hS8ow.b3
      obtain ⟨r8oz, r8p0, r8p1, A8oy, H⟩ := bind3 H
      refine WL.oq h8ov rfl ?_
      refine owp_call [.agg #[.slice A8oo x79m.f0.f0.length c8op, i6 x79m.f0.f1, i6 x79m.f1], .slice A8nj r8n6.length c8nk] h8ov rfl (by kernel_rfl) rfl Tryd.func20 (by kernel_rfl) rfl (by kernel_rfl) (louverref06qD_Get.calls (p0 := (⟨(⟨x79m.f0.f0, x79m.f0.f1⟩ : S43), x79m.f1⟩ : S45)) kk79x (hr8or.mono (fun _ hp_ => List.mem_append_right _ hp_)) hr8nf.rds A8oy (hS8ox.pool)) (fun e8p3 W8p2 hp8p4 => ?_)
      obtain ⟨v8p7, M8p8, v8pa, M8pb, rfl, hr8p9, hr8pc, hS8pd⟩ := hp8p4
      have hS8pe : St b w0 W8p2 R (M8ne :: M8p8 :: M8pb :: (bx g793 45 [.slice A8oo x79m.f0.f0.length c8op, i6 x79m.f0.f1, i6 x79m.f1]) :: (bx g8oe 31 [.int .u8 r8nt.f0, .int .u32 r8nt.f1]) :: M8o1 :: M8o3 :: M8ng :: Fs) := hS8pd.unpool
      replace hr8p9 : Row k52 52 b w0 R v8p7 r8oz M8p8 := hr8p9.ind k52qind
      replace hr8pc : Row k52 52 b w0 R v8pa r8p0.f0.f0 M8pb := hr8pc.ind k52qind
      refine ⟨_, rfl, fun a8p5 h8p6 => ?_⟩
      obtain ⟨A8pf, c8pg, rfl⟩ := hr8p9.form
      obtain ⟨A8ph, c8pi, rfl⟩ := hr8pc.form
      refine WL.bl 4 7 h8p6 [(88, i6 r8p1), (87, .agg #[.slice A8ph r8p0.f0.f0.length c8pi, i6 r8p0.f0.f1, i6 r8p0.f1]), (86, .slice A8pf r8oz.length c8pg), (82, .tuple #[.slice A8pf r8oz.length c8pg, .agg #[.slice A8ph r8p0.f0.f0.length c8pi, i6 r8p0.f0.f1, i6 r8p0.f1], i6 r8p1])] (fun a8pj h8pk => ?_)
      refine WL.oq h8pk rfl ?_
      refine owp_nw (fun g_ => (pt g_)) (.cells ([.slice none 0 0, i6 0, i6 0] : List Value).toArray 45 (0, 0)) h8pk rfl hS8pe (fun a8pl W8pn g8po h8pm hS8pp => ?_)
      refine WL.bl 1 9 h8pm [(15, .slice A8pf r8oz.length c8pg)] (fun a8pq h8pr => ?_)
      refine WL.oq h8pr rfl ?_
      refine owp_st 0 [.slice A8ph r8p0.f0.f0.length c8pi, i6 r8p0.f0.f1, i6 r8p0.f1] h8pr rfl rfl rfl hS8pp [.slice A8ph r8p0.f0.f0.length c8pi, i6 r8p0.f0.f1, i6 r8p0.f1] (fun a8ps W8pu h8pt hS8pv => ?_)
      refine WL.bl 1 11 h8pt [(17, i6 r8p1)] (fun a8pw h8px => ?_)
      clear h8nz a8ny h8oa a8o9 h8oc a8ob h8oh a8og h8oj a8oi h8ot a8os h8ov a8ou h8p6 a8p5 h8pk a8pj h8pm a8pl h8pr a8pq h8pt a8ps
      refine WL.dn ?_
      refine wp_seq ?_
      refine WL.start ?_
      refine WL.oq h8px rfl ?_
      refine owp_rn (.agg #[.slice A8ph r8p0.f0.f0.length c8pi, i6 r8p0.f0.f1, i6 r8p0.f1]) h8px rfl (run_loadN rfl rfl Tryd.underlying45 rfl (cs := [.slice A8ph r8p0.f0.f0.length c8pi, i6 r8p0.f0.f1, i6 r8p0.f1]) (by kernel_rfl) (hS8pv.cells (vs := [.slice A8ph r8p0.f0.f0.length c8pi, i6 r8p0.f0.f1, i6 r8p0.f1]) rfl)) (fun a8py h8pz => ?_)
      have hS8q0 := hS8pv.b4
      refine WL.oq h8pz rfl ?_
      refine owp_st 0 [.slice A8ph r8p0.f0.f0.length c8pi, i6 r8p0.f0.f1, i6 r8p0.f1] h8pz rfl rfl rfl hS8q0 [.slice A8ph r8p0.f0.f0.length c8pi, i6 r8p0.f0.f1, i6 r8p0.f1] (fun a8q1 W8q3 h8q2 hS8q4 => ?_)
      refine WL.dn ?_
      refine wp_seq ?_
      refine wp_seq ?_
      refine WL.start ?_
      refine WL.bl 2 2 h8q2 [(91, .bool (decide (r8p1 = 11))), (90, i6 r8p1)] (fun a8q5 h8q6 => ?_)
      refine WL.dn ?_
      clear h8px a8pw h8pz a8py h8q2 a8q1
      by_cases c8q7 : r8p1 = 11
      ·rw [if_pos c8q7] at H
       have hb_ : (decide (r8p1 = 11)) = true := decide_eq_true c8q7
       try rw [hb_] at h8q6
       clear hb_
       refine wp_then h8q6 rfl ?_
       refine wp_seq ?_
       refine WL.start ?_
       obtain ⟨r8q9, A8q8, H⟩ := bind1 H
       refine WL.oq h8q6 rfl ?_
       refine owp_call [] h8q6 rfl (by kernel_rfl) rfl Tryd.func10 (by kernel_rfl) rfl (by kernel_rfl) (louverlaw06qfixed.calls kk79x hg0 hg1 A8q8 hS8q4) (fun e8qb W8qa hp8qc => ?_)
       obtain ⟨rfl, hS8qf⟩ := hp8qc
       refine ⟨_, rfl, fun a8qd h8qe => ?_⟩
       refine WL.bl 1 2 h8qe [(93, .bool r8q9)] (fun a8qg h8qh => ?_)
       clear h8q6 a8q5 h8qe a8qd
       by_cases c8qi : r8q9 = true
       ·rw [if_pos c8qi] at H
        have hb_ : r8q9 = true := c8qi
        try rw [hb_] at h8qh
        clear hb_
        have hS8qj := hS8qf.b5
        refine WL.oq h8qh rfl ?_
        refine owp_rn (.agg #[.int .u8 r8nt.f0, .int .u32 r8nt.f1]) h8qh rfl (run_loadN rfl rfl Tryd.underlying31 rfl (cs := [.int .u8 r8nt.f0, .int .u32 r8nt.f1]) (by kernel_rfl) (hS8qj.cells (vs := [.int .u8 r8nt.f0, .int .u32 r8nt.f1]) rfl)) (fun a8qk h8ql => ?_)
        refine WL.oq h8ql rfl (owp_rk (.agg #[.int .u8 1, .int .u32 11]) h8ql rfl (fun a8qm h8qn => ?_))
        refine WL.oq h8qn rfl ?_
        refine owp_rn (.bool (decide (r8nt.f0 = 1) && decide (r8nt.f1 = 11))) h8qn rfl (run_steq (xs := [.int .u8 r8nt.f0, .int .u32 r8nt.f1]) (ys := [.int .u8 1, .int .u32 11]) rfl rfl rfl (by kernel_rfl) (eqs_of Tryd.underlying31 (by kernel_rfl) (eqf_cons rfl (by kernel_rfl) rfl rfl (eqi_int Tryd.underlying5) (eqf_last rfl (by kernel_rfl) rfl rfl (eqi_int Tryd.underlying29))))) (fun a8qo h8qp => ?_)
        refine WL.bl 2 7 h8qp [(6, .bool (decide (r8nt.f0 = 1) && decide (r8nt.f1 = 11))), (97, .bool (decide (r8nt.f0 = 1) && decide (r8nt.f1 = 11)))] (fun a8qq h8qr => ?_)
        refine WL.dn ?_
        refine wp_ret ?_
        have hS8qs := hS8qj.drop_
        have hS8qt := hS8qs.drop_
        have hS8qu := hS8qt.drop_
        have hS8qv := hS8qu.drop_
        have hS8qw := hS8qv.drop_
        have hS8qx := hS8qw.drop_
        have hS8qy := hS8qx.drop_
        have hS8qz := hS8qy.drop_
        have hS8r0 := hS8qz.drop_
        obtain rfl := Option.some.inj H
        repeat (first | with_reducible refine t1 ?_ | with_reducible refine t2 ?_ | with_reducible refine t3 ?_)
        refine bret (.bool (decide (r8nt.f0 = 1) && decide (r8nt.f1 = 11))) h8qr ?_
        exact ⟨rfl, hS8r0⟩
       ·rw [if_neg c8qi] at H
        have hb_ : r8q9 = false := (Bool.eq_false_iff.2 c8qi)
        try rw [hb_] at h8qh
        clear hb_
        refine WL.sk h8qh rfl rfl (fun a8r1 h8r2 => ?_)
        refine WL.sk h8r2 rfl rfl (fun a8r3 h8r4 => ?_)
        refine WL.sk h8r4 rfl rfl (fun a8r5 h8r6 => ?_)
        refine WL.bl 2 7 h8r6 [(6, .bool false), (97, .bool false)] (fun a8r7 h8r8 => ?_)
        refine WL.dn ?_
        refine wp_ret ?_
        have hS8r9 := hS8qf.drop_
        have hS8ra := hS8r9.drop_
        have hS8rb := hS8ra.drop_
        have hS8rc := hS8rb.drop_
        have hS8rd := hS8rc.drop_
        have hS8re := hS8rd.drop_
        have hS8rf := hS8re.drop_
        have hS8rg := hS8rf.drop_
        have hS8rh := hS8rg.drop_
        obtain rfl := Option.some.inj H
        repeat (first | with_reducible refine t1 ?_ | with_reducible refine t2 ?_ | with_reducible refine t3 ?_)
        refine bret (.bool false) h8r8 ?_
        exact ⟨rfl, hS8rh⟩
      ·rw [if_neg c8q7] at H
       have hb_ : (decide (r8p1 = 11)) = false := decide_eq_false c8q7
       try rw [hb_] at h8q6
       clear hb_
       refine wp_else h8q6 rfl ?_
       refine wp_skip ?_
       refine wp_seq ?_
       refine WT.start 34 (fun w_ => (∀ j_ u_, ([.int .u8 r8nt.f0, .int .u32 r8nt.f1] : List Value)[j_]? = some u_ → w_.cell? ((⟨g8oe, 0, none⟩ : Addr).add j_) = some u_) ∧ (∀ j_ u_, ([.slice A8ph r8p0.f0.f0.length c8pi, i6 r8p0.f0.f1] : List Value)[j_]? = some u_ → w_.cell? ((⟨g793, 0, none⟩ : Addr).add j_) = some u_) ∧ True) (by kernel_rfl) #[false, false, false, false, false, false, false, false, false, false, false, false, false, false, false, false, false, false, false, false, false, false, false, false, false, false, false, false, false, false, false, false, false, false] 34 rfl rfl ?_
       have hS9g2 := hS8q4.drew
       refine WT.tk 1 h8q6 rfl rfl (.agg #[.int .u8 0, .int .u32 0]) (fun _ _ => by kernel_rfl) ⟨(hS9g2.b5.cells (vs := [.int .u8 r8nt.f0, .int .u32 r8nt.f1]) rfl), (hS9g2.cells (vs := [.slice A8ph r8p0.f0.f0.length c8pi, i6 r8p0.f0.f1]) rfl), trivial⟩ (fun a9g3 s9g5 h9g4 => ?_)
       refine WT.tk 0 h9g4 rfl rfl (.agg #[.int .u8 r8nt.f0, .int .u32 r8nt.f1]) (fun w_ hs_ => (run_loadN rfl rfl Tryd.underlying31 rfl (cs := [.int .u8 r8nt.f0, .int .u32 r8nt.f1]) (by kernel_rfl) hs_.1)) s9g5 (fun a9g6 s9g8 h9g7 => ?_)
       refine WT.tk 2 h9g7 rfl rfl (.bool (!(decide (r8nt.f0 = 0) && decide (r8nt.f1 = 0)))) (fun w_ hs_ => (run_stne (xs := [.int .u8 r8nt.f0, .int .u32 r8nt.f1]) (ys := [.int .u8 0, .int .u32 0]) rfl rfl rfl (by kernel_rfl) (eqs_of Tryd.underlying31 (by kernel_rfl) (eqf_cons rfl (by kernel_rfl) rfl rfl (eqi_int Tryd.underlying5) (eqf_last rfl (by kernel_rfl) rfl rfl (eqi_int Tryd.underlying29)))))) s9g8 (fun a9g9 s9gb h9ga => ?_)
       refine WT.tk 3 h9ga rfl rfl (.bool (!(decide (r8nt.f0 = 0) && decide (r8nt.f1 = 0)))) (fun _ _ => by kernel_rfl) s9gb (fun a9gc s9ge h9gd => ?_)
       clear h8q6 a8q5 h9g4 a9g3 h9g7 a9g6 h9ga a9g9
       by_cases c9gf : (decide (r8nt.f0 = 0) && decide (r8nt.f1 = 0)) = true
       ·rw [if_pos c9gf] at H
        have hb_ : (decide (r8nt.f0 = 0) && decide (r8nt.f1 = 0)) = true := c9gf
        try rw [hb_] at h9gd
        clear hb_
        refine WT.tk 4 h9gd rfl rfl (i6 r8p1) (fun _ _ => by kernel_rfl) s9ge (fun a9gg s9gi h9gh => ?_)
        refine WT.tk 5 h9gh rfl rfl (.bool (!decide (r8p1 = 0))) (fun _ _ => by kernel_rfl) s9gi (fun a9gj s9gl h9gk => ?_)
        refine WT.tk 6 h9gk rfl rfl (.bool (!decide (r8p1 = 0))) (fun _ _ => by kernel_rfl) s9gl (fun a9gm s9go h9gn => ?_)
        refine WT.tk 7 h9gn rfl rfl (.bool (!decide (r8p1 = 0))) (fun _ _ => by kernel_rfl) s9go (fun a9gp s9gr h9gq => ?_)
        clear h9gd a9gc h9gh a9gg h9gk a9gj h9gn a9gm
        by_cases c9gs : r8p1 = 0
        ·rw [if_pos c9gs] at H
         have hb_ : (decide (r8p1 = 0)) = true := decide_eq_true c9gs
         try rw [hb_] at h9gq
         clear hb_
         refine WT.tk 8 h9gq rfl rfl (.slice A8o7 r8ns.length c8o8) (fun _ _ => by kernel_rfl) s9gr (fun a9gt s9gv h9gu => ?_)
         refine WT.tk 9 h9gu rfl rfl (.slice A7ah (gt [] p1 x79p).length c7ai) (fun _ _ => by kernel_rfl) s9gv (fun a9gw s9gy h9gx => ?_)
         have hS9gz := hS9g2.b6
         obtain ⟨r9h1, A9h0, H⟩ := bind1 H
         refine WT.o1 10 h9gx rfl ?_
         refine owp_call [.slice A8o7 r8ns.length c8o8, .slice A7ah (gt [] p1 x79p).length c7ai] h9gx rfl (by kernel_rfl) rfl Tryd.func21 (by kernel_rfl) rfl (by kernel_rfl) (louverref06qSame.calls kk79x hr8o2.rds (hx7ag.mono (fun _ hp_ => List.mem_append_right _ hp_)) A9h0 (hS9gz.pool)) (fun e9h3 W9h2 hp9h4 => ?_)
         obtain ⟨rfl, hS9h7⟩ := hp9h4
         have hS9h8 : St b w0 W9h2 R (M8o1 :: (bx g793 45 [.slice A8ph r8p0.f0.f0.length c8pi, i6 r8p0.f0.f1, i6 r8p0.f1]) :: (bx g8po 45 [.slice A8ph r8p0.f0.f0.length c8pi, i6 r8p0.f0.f1, i6 r8p0.f1]) :: M8ne :: M8p8 :: M8pb :: (bx g8oe 31 [.int .u8 r8nt.f0, .int .u32 r8nt.f1]) :: M8o3 :: M8ng :: Fs) := hS9h7.unpool
         refine ⟨_, rfl, fun a9h5 h9h6 => ?_⟩
         refine ⟨.inr ⟨(hS9h8.b6.cells (vs := [.int .u8 r8nt.f0, .int .u32 r8nt.f1]) rfl), (hS9h8.b1.cells (vs := [.slice A8ph r8p0.f0.f0.length c8pi, i6 r8p0.f0.f1]) rfl), trivial⟩, ?_⟩
         refine WT.tk 11 h9h6 rfl rfl (.bool (!r9h1)) (fun _ _ => by kernel_rfl) ⟨(hS9h8.b6.cells (vs := [.int .u8 r8nt.f0, .int .u32 r8nt.f1]) rfl), (hS9h8.b1.cells (vs := [.slice A8ph r8p0.f0.f0.length c8pi, i6 r8p0.f0.f1]) rfl), trivial⟩ (fun a9h9 s9hb h9ha => ?_)
         refine WT.tk 12 h9ha rfl rfl (.bool (!r9h1)) (fun _ _ => by kernel_rfl) s9hb (fun a9hc s9he h9hd => ?_)
         refine WT.tk 13 h9hd rfl rfl (.bool (!r9h1)) (fun _ _ => by kernel_rfl) s9he (fun a9hf s9hh h9hg => ?_)
         clear h9gq a9gp h9gu a9gt h9gx a9gw h9h6 a9h5 h9ha a9h9 h9hd a9hc
         by_cases c9hi : r9h1 = true
         ·rw [if_pos c9hi] at H
          have hb_ : r9h1 = true := c9hi
          try rw [hb_] at h9hg
          clear hb_
          refine WT.tk 14 h9hg rfl rfl (.slice A8pf r8oz.length c8pg) (fun _ _ => by kernel_rfl) s9hh (fun a9hj s9hl h9hk => ?_)
          refine WT.tk 15 h9hk rfl rfl (.slice A7ah (gt [] p1 x79p).length c7ai) (fun _ _ => by kernel_rfl) s9hl (fun a9hm s9ho h9hn => ?_)
          have hS9hp := hS9h8.b4
          obtain ⟨r9hr, A9hq, H⟩ := bind1 H
          refine WT.o1 16 h9hn rfl ?_
          refine owp_call [.slice A8pf r8oz.length c8pg, .slice A7ah (gt [] p1 x79p).length c7ai] h9hn rfl (by kernel_rfl) rfl Tryd.func21 (by kernel_rfl) rfl (by kernel_rfl) (louverref06qSame.calls kk79x hr8p9.rds (hx7ag.mono (fun _ hp_ => List.mem_append_right _ hp_)) A9hq (hS9hp.pool)) (fun e9ht W9hs hp9hu => ?_)
          obtain ⟨rfl, hS9hx⟩ := hp9hu
          have hS9hy : St b w0 W9hs R (M8p8 :: M8o1 :: (bx g793 45 [.slice A8ph r8p0.f0.f0.length c8pi, i6 r8p0.f0.f1, i6 r8p0.f1]) :: (bx g8po 45 [.slice A8ph r8p0.f0.f0.length c8pi, i6 r8p0.f0.f1, i6 r8p0.f1]) :: M8ne :: M8pb :: (bx g8oe 31 [.int .u8 r8nt.f0, .int .u32 r8nt.f1]) :: M8o3 :: M8ng :: Fs) := hS9hx.unpool
          refine ⟨_, rfl, fun a9hv h9hw => ?_⟩
          refine ⟨.inr ⟨(hS9hy.b6.cells (vs := [.int .u8 r8nt.f0, .int .u32 r8nt.f1]) rfl), (hS9hy.b2.cells (vs := [.slice A8ph r8p0.f0.f0.length c8pi, i6 r8p0.f0.f1]) rfl), trivial⟩, ?_⟩
          refine WT.tk 17 h9hw rfl rfl (.bool (!r9hr)) (fun _ _ => by kernel_rfl) ⟨(hS9hy.b6.cells (vs := [.int .u8 r8nt.f0, .int .u32 r8nt.f1]) rfl), (hS9hy.b2.cells (vs := [.slice A8ph r8p0.f0.f0.length c8pi, i6 r8p0.f0.f1]) rfl), trivial⟩ (fun a9hz s9i1 h9i0 => ?_)
          refine WT.tk 18 h9i0 rfl rfl (.bool (!r9hr)) (fun _ _ => by kernel_rfl) s9i1 (fun a9i2 s9i4 h9i3 => ?_)
          refine WT.tk 19 h9i3 rfl rfl (.bool (!r9hr)) (fun _ _ => by kernel_rfl) s9i4 (fun a9i5 s9i7 h9i6 => ?_)
          clear h9hg a9hf h9hk a9hj h9hn a9hm h9hw a9hv h9i0 a9hz h9i3 a9i2
          by_cases c9i8 : r9hr = true
          ·rw [if_pos c9i8] at H
           have hb_ : r9hr = true := c9i8
           try rw [hb_] at h9i6
           clear hb_
           refine WT.tk 20 h9i6 rfl rfl (pt g782) (fun _ _ => by kernel_rfl) s9i7 (fun a9i9 s9ib h9ia => ?_)
           refine WT.tk 22 h9ia rfl rfl (pt g78i) (fun _ _ => by kernel_rfl) s9ib (fun a9ic s9ie h9id => ?_)
           have hS9if := hS9hy.b8
           obtain ⟨r9ih, A9ig, H⟩ := bind1 H
           refine WT.o1 21 h9id rfl ?_
           refine owp_call [(pt g782)] h9id rfl (by kernel_rfl) rfl Tryd.func14 (by kernel_rfl) rfl (by kernel_rfl) (hpack_Encoder_Table.calls hr8nh A9ig hS9if) (fun e9ij W9ii hp9ik => ?_)
           obtain ⟨M9in, rfl, hr9io, hS9ip⟩ := hp9ik
           refine ⟨_, rfl, fun a9il h9im => ?_⟩
           refine ⟨.inr ⟨(hS9ip.b7.cells (vs := [.int .u8 r8nt.f0, .int .u32 r8nt.f1]) rfl), (hS9ip.b3.cells (vs := [.slice A8ph r8p0.f0.f0.length c8pi, i6 r8p0.f0.f1]) rfl), trivial⟩, ?_⟩
           have hS9iq := hS9ip.b8
           obtain ⟨r9is, A9ir, H⟩ := bind1 H
           refine WT.o1 23 h9im rfl ?_
           refine owp_call [(pt g78i)] h9im rfl (by kernel_rfl) rfl Tryd.func15 (by kernel_rfl) rfl (by kernel_rfl) (hpack_Decoder_Table.calls hr8o4 A9ir hS9iq) (fun e9iu W9it hp9iv => ?_)
           obtain ⟨M9iy, rfl, hr9iz, hS9j0⟩ := hp9iv
           refine ⟨_, rfl, fun a9iw h9ix => ?_⟩
           refine ⟨.inr ⟨(hS9j0.b8.cells (vs := [.int .u8 r8nt.f0, .int .u32 r8nt.f1]) rfl), (hS9j0.b4.cells (vs := [.slice A8ph r8p0.f0.f0.length c8pi, i6 r8p0.f0.f1]) rfl), trivial⟩, ?_⟩
           refine WT.tk 24 h9ix rfl rfl (.bool (!decide (r9ih = r9is))) (fun _ _ => by kernel_rfl) ⟨(hS9j0.b8.cells (vs := [.int .u8 r8nt.f0, .int .u32 r8nt.f1]) rfl), (hS9j0.b4.cells (vs := [.slice A8ph r8p0.f0.f0.length c8pi, i6 r8p0.f0.f1]) rfl), trivial⟩ (fun a9j1 s9j3 h9j2 => ?_)
           refine WT.tk 25 h9j2 rfl rfl (.bool (!decide (r9ih = r9is))) (fun _ _ => by kernel_rfl) s9j3 (fun a9j4 s9j6 h9j5 => ?_)
           refine WT.tk 26 h9j5 rfl rfl (.bool (!decide (r9ih = r9is))) (fun _ _ => by kernel_rfl) s9j6 (fun a9j7 s9j9 h9j8 => ?_)
           clear h9i6 a9i5 h9ia a9i9 h9id a9ic h9im a9il h9ix a9iw h9j2 a9j1 h9j5 a9j4
           by_cases c9ja : r9ih = r9is
           ·rw [if_pos c9ja] at H
            have hb_ : (decide (r9ih = r9is)) = true := decide_eq_true c9ja
            try rw [hb_] at h9j8
            clear hb_
            refine WT.tk 27 h9j8 rfl rfl (pt g78i) (fun _ _ => by kernel_rfl) s9j9 (fun a9jb s9jd h9jc => ?_)
            refine WT.tk 29 h9jc rfl rfl (pt g793) (fun _ _ => by kernel_rfl) s9jd (fun a9je s9jg h9jf => ?_)
            refine WT.tk 30 h9jf rfl rfl (.agg #[.slice A8ph r8p0.f0.f0.length c8pi, i6 r8p0.f0.f1]) (fun w_ hs_ => (run_loadN rfl rfl Tryd.underlying43 rfl (cs := [.slice A8ph r8p0.f0.f0.length c8pi, i6 r8p0.f0.f1]) (by kernel_rfl) hs_.2.1)) s9jg (fun a9jh s9jj h9ji => ?_)
            obtain ⟨r9jl, A9jk, H⟩ := bind1 H
            refine WT.o1 28 h9ji rfl ?_
            refine owp_call [(pt g78i)] h9ji rfl (by kernel_rfl) rfl Tryd.func15 (by kernel_rfl) rfl (by kernel_rfl) (hpack_Decoder_Table.calls hr9iz A9jk hS9j0) (fun e9jn W9jm hp9jo => ?_)
            obtain ⟨M9jr, rfl, hr9js, hS9jt⟩ := hp9jo
            refine ⟨_, rfl, fun a9jp h9jq => ?_⟩
            refine ⟨.inr ⟨(hS9jt.b8.cells (vs := [.int .u8 r8nt.f0, .int .u32 r8nt.f1]) rfl), (hS9jt.b4.cells (vs := [.slice A8ph r8p0.f0.f0.length c8pi, i6 r8p0.f0.f1]) rfl), trivial⟩, ?_⟩
            have hS9ju := hS9jt.b7
            obtain ⟨r9jw, A9jv, H⟩ := bind1 H
            refine WT.o1 31 h9jq rfl ?_
            refine owp_call [.agg #[.slice A8ph r8p0.f0.f0.length c8pi, i6 r8p0.f0.f1]] h9jq rfl (by kernel_rfl) rfl Tryd.func22 (by kernel_rfl) rfl (by kernel_rfl) (louverref05qT_Size.calls (p0 := (⟨r8p0.f0.f0, r8p0.f0.f1⟩ : S43)) kk79x hr8pc.rds A9jv (hS9ju.pool)) (fun e9jy W9jx hp9jz => ?_)
            obtain ⟨rfl, hS9k2⟩ := hp9jz
            have hS9k3 : St b w0 W9jx R (M8pb :: M9jr :: M9in :: M8p8 :: M8o1 :: (bx g793 45 [.slice A8ph r8p0.f0.f0.length c8pi, i6 r8p0.f0.f1, i6 r8p0.f1]) :: (bx g8po 45 [.slice A8ph r8p0.f0.f0.length c8pi, i6 r8p0.f0.f1, i6 r8p0.f1]) :: M8ne :: (bx g8oe 31 [.int .u8 r8nt.f0, .int .u32 r8nt.f1]) :: Fs) := hS9k2.unpool
            refine ⟨_, rfl, fun a9k0 h9k1 => ?_⟩
            refine ⟨.inr ⟨(hS9k3.b8.cells (vs := [.int .u8 r8nt.f0, .int .u32 r8nt.f1]) rfl), (hS9k3.b5.cells (vs := [.slice A8ph r8p0.f0.f0.length c8pi, i6 r8p0.f0.f1]) rfl), trivial⟩, ?_⟩
            refine WT.tk 32 h9k1 rfl rfl (.bool (!decide (r9jl = r9jw))) (fun _ _ => by kernel_rfl) ⟨(hS9k3.b8.cells (vs := [.int .u8 r8nt.f0, .int .u32 r8nt.f1]) rfl), (hS9k3.b5.cells (vs := [.slice A8ph r8p0.f0.f0.length c8pi, i6 r8p0.f0.f1]) rfl), trivial⟩ (fun a9k4 s9k6 h9k5 => ?_)
            refine WT.tk 33 h9k5 rfl rfl (.bool (!decide (r9jl = r9jw))) (fun _ _ => by kernel_rfl) s9k6 (fun a9k7 s9k9 h9k8 => ?_)
            refine WT.dn ?_
            clear h9j8 a9j7 h9jc a9jb h9jf a9je h9ji a9jh h9jq a9jp h9k1 a9k0 h9k5 a9k4
            by_cases c9ka : r9jl = r9jw
            ·rw [if_pos c9ka] at H
             have hb_ : (decide (r9jl = r9jw)) = true := decide_eq_true c9ka
             try rw [hb_] at h9k8
             clear hb_
             refine wp_else h9k8 rfl ?_
             refine wp_skip ?_
             refine WL.start ?_
             refine WL.bl 2 2 h9k8 [(34, i6 (IntKind.i64.wrap (x79p + 1))), (132, i6 (IntKind.i64.wrap (x79p + 1)))] (fun a9kb h9kc => ?_)
             refine WL.dn ?_
             have hS9kd := hS9k3.b5
             obtain ⟨M9ke, hp9kf, hS9kg⟩ := k45qfo (⟨(⟨r8p0.f0.f0, r8p0.f0.f1⟩ : S43), r8p0.f1⟩ : S45) hr8pc hS9kd
             have hS9kh := hS9kg.b3
             have hS9ki := hS9kh.drop_
             have hS9kj := hS9ki.b3
             have hS9kk := hS9kj.drop_
             have hS9kl := hS9kk.b3
             have hS9km := hS9kl.drop_
             have hS9kn := hS9km.b3
             have hS9ko := hS9kn.drop_
             have hS9kp := hS9ko.b3
             have hS9kq := hS9kp.drop_
             have hS9kr := hS9kq.b1
             have hS9ks := hS9kr.b2
             exact ⟨kk79x, by omega, r8n7, M9in, r8nu, M9jr, (⟨(⟨r8p0.f0.f0, r8p0.f0.f1⟩ : S43), r8p0.f1⟩ : S45), M9ke, IntKind.i64.wrap (x79p + 1), h9kc.keep ⟨rfl, rfl, rfl, rfl, rfl, rfl, rfl, rfl, trivial⟩, ⟨H⟩, ⟨by omega⟩, ⟨hS9ks⟩, ⟨hr9io⟩, ⟨hr9js⟩, ⟨hp9kf⟩⟩
            ·rw [if_neg c9ka] at H
             have hb_ : (decide (r9jl = r9jw)) = false := decide_eq_false c9ka
             try rw [hb_] at h9k8
             clear hb_
             refine wp_then h9k8 rfl ?_
             refine wp_seq ?_
             refine WL.start ?_
             refine WL.bl 1 1 h9k8 [(6, .bool false)] (fun a9kt h9ku => ?_)
             refine WL.dn ?_
             refine wp_ret ?_
             have hS9kv := hS9k3.drop_
             have hS9kw := hS9kv.drop_
             have hS9kx := hS9kw.drop_
             have hS9ky := hS9kx.drop_
             have hS9kz := hS9ky.drop_
             have hS9l0 := hS9kz.drop_
             have hS9l1 := hS9l0.drop_
             have hS9l2 := hS9l1.drop_
             have hS9l3 := hS9l2.drop_
             obtain rfl := Option.some.inj H
             repeat (first | with_reducible refine t1 ?_ | with_reducible refine t2 ?_ | with_reducible refine t3 ?_)
             refine bret (.bool false) h9ku ?_
             exact ⟨rfl, hS9l3⟩
           ·rw [if_neg c9ja] at H
            have hb_ : (decide (r9ih = r9is)) = false := decide_eq_false c9ja
            try rw [hb_] at h9j8
            clear hb_
            refine WT.sp 27 h9j8 rfl rfl s9j9 (fun a9l4 s9l6 h9l5 => ?_)
            refine WT.sp 28 h9l5 rfl rfl s9l6 (fun a9l7 s9l9 h9l8 => ?_)
            refine WT.sp 29 h9l8 rfl rfl s9l9 (fun a9la s9lc h9lb => ?_)
            refine WT.sp 30 h9lb rfl rfl s9lc (fun a9ld s9lf h9le => ?_)
            refine WT.sp 31 h9le rfl rfl s9lf (fun a9lg s9li h9lh => ?_)
            refine WT.sp 32 h9lh rfl rfl s9li (fun a9lj s9ll h9lk => ?_)
            refine WT.tk 33 h9lk rfl rfl (.bool true) (fun _ _ => by kernel_rfl) s9ll (fun a9lm s9lo h9ln => ?_)
            refine WT.dn ?_
            refine wp_then h9ln rfl ?_
            refine wp_seq ?_
            refine WL.start ?_
            refine WL.bl 1 1 h9ln [(6, .bool false)] (fun a9lp h9lq => ?_)
            refine WL.dn ?_
            refine wp_ret ?_
            have hS9lr := hS9j0.drop_
            have hS9ls := hS9lr.drop_
            have hS9lt := hS9ls.drop_
            have hS9lu := hS9lt.drop_
            have hS9lv := hS9lu.drop_
            have hS9lw := hS9lv.drop_
            have hS9lx := hS9lw.drop_
            have hS9ly := hS9lx.drop_
            have hS9lz := hS9ly.drop_
            obtain rfl := Option.some.inj H
            repeat (first | with_reducible refine t1 ?_ | with_reducible refine t2 ?_ | with_reducible refine t3 ?_)
            refine bret (.bool false) h9lq ?_
            exact ⟨rfl, hS9lz⟩
          ·rw [if_neg c9i8] at H
           have hb_ : r9hr = false := (Bool.eq_false_iff.2 c9i8)
           try rw [hb_] at h9i6
           clear hb_
           refine WT.sp 20 h9i6 rfl rfl s9i7 (fun a9m0 s9m2 h9m1 => ?_)
           refine WT.sp 21 h9m1 rfl rfl s9m2 (fun a9m3 s9m5 h9m4 => ?_)
           refine WT.sp 22 h9m4 rfl rfl s9m5 (fun a9m6 s9m8 h9m7 => ?_)
           refine WT.sp 23 h9m7 rfl rfl s9m8 (fun a9m9 s9mb h9ma => ?_)
           refine WT.sp 24 h9ma rfl rfl s9mb (fun a9mc s9me h9md => ?_)
           refine WT.tk 25 h9md rfl rfl (.bool true) (fun _ _ => by kernel_rfl) s9me (fun a9mf s9mh h9mg => ?_)
           refine WT.tk 26 h9mg rfl rfl (.bool true) (fun _ _ => by kernel_rfl) s9mh (fun a9mi s9mk h9mj => ?_)
           refine WT.sp 27 h9mj rfl rfl s9mk (fun a9ml s9mn h9mm => ?_)
           refine WT.sp 28 h9mm rfl rfl s9mn (fun a9mo s9mq h9mp => ?_)
           refine WT.sp 29 h9mp rfl rfl s9mq (fun a9mr s9mt h9ms => ?_)
           refine WT.sp 30 h9ms rfl rfl s9mt (fun a9mu s9mw h9mv => ?_)
           refine WT.sp 31 h9mv rfl rfl s9mw (fun a9mx s9mz h9my => ?_)
           clear h9i6 a9i5 h9m1 a9m0 h9m4 a9m3 h9m7 a9m6 h9ma a9m9 h9md a9mc h9mg a9mf h9mj a9mi h9mm a9ml h9mp a9mo h9ms a9mr h9mv a9mu
           refine WT.sp 32 h9my rfl rfl s9mz (fun a9n0 s9n2 h9n1 => ?_)
           refine WT.tk 33 h9n1 rfl rfl (.bool true) (fun _ _ => by kernel_rfl) s9n2 (fun a9n3 s9n5 h9n4 => ?_)
           refine WT.dn ?_
           refine wp_then h9n4 rfl ?_
           refine wp_seq ?_
           refine WL.start ?_
           refine WL.bl 1 1 h9n4 [(6, .bool false)] (fun a9n6 h9n7 => ?_)
           refine WL.dn ?_
           refine wp_ret ?_
           have hS9n8 := hS9hy.drop_
           have hS9n9 := hS9n8.drop_
           have hS9na := hS9n9.drop_
           have hS9nb := hS9na.drop_
           have hS9nc := hS9nb.drop_
           have hS9nd := hS9nc.drop_
           have hS9ne := hS9nd.drop_
           have hS9nf := hS9ne.drop_
           have hS9ng := hS9nf.drop_
           obtain rfl := Option.some.inj H
           repeat (first | with_reducible refine t1 ?_ | with_reducible refine t2 ?_ | with_reducible refine t3 ?_)
           refine bret (.bool false) h9n7 ?_
           exact ⟨rfl, hS9ng⟩
         ·rw [if_neg c9hi] at H
          have hb_ : r9h1 = false := (Bool.eq_false_iff.2 c9hi)
          try rw [hb_] at h9hg
          clear hb_
          refine WT.sp 14 h9hg rfl rfl s9hh (fun a9nh s9nj h9ni => ?_)
          refine WT.sp 15 h9ni rfl rfl s9nj (fun a9nk s9nm h9nl => ?_)
          refine WT.sp 16 h9nl rfl rfl s9nm (fun a9nn s9np h9no => ?_)
          refine WT.sp 17 h9no rfl rfl s9np (fun a9nq s9ns h9nr => ?_)
          refine WT.tk 18 h9nr rfl rfl (.bool true) (fun _ _ => by kernel_rfl) s9ns (fun a9nt s9nv h9nu => ?_)
          refine WT.tk 19 h9nu rfl rfl (.bool true) (fun _ _ => by kernel_rfl) s9nv (fun a9nw s9ny h9nx => ?_)
          refine WT.sp 20 h9nx rfl rfl s9ny (fun a9nz s9o1 h9o0 => ?_)
          refine WT.sp 21 h9o0 rfl rfl s9o1 (fun a9o2 s9o4 h9o3 => ?_)
          refine WT.sp 22 h9o3 rfl rfl s9o4 (fun a9o5 s9o7 h9o6 => ?_)
          refine WT.sp 23 h9o6 rfl rfl s9o7 (fun a9o8 s9oa h9o9 => ?_)
          refine WT.sp 24 h9o9 rfl rfl s9oa (fun a9ob s9od h9oc => ?_)
          refine WT.tk 25 h9oc rfl rfl (.bool true) (fun _ _ => by kernel_rfl) s9od (fun a9oe s9og h9of => ?_)
          clear h9hg a9hf h9ni a9nh h9nl a9nk h9no a9nn h9nr a9nq h9nu a9nt h9nx a9nw h9o0 a9nz h9o3 a9o2 h9o6 a9o5 h9o9 a9o8 h9oc a9ob
          refine WT.tk 26 h9of rfl rfl (.bool true) (fun _ _ => by kernel_rfl) s9og (fun a9oh s9oj h9oi => ?_)
          refine WT.sp 27 h9oi rfl rfl s9oj (fun a9ok s9om h9ol => ?_)
          refine WT.sp 28 h9ol rfl rfl s9om (fun a9on s9op h9oo => ?_)
          refine WT.sp 29 h9oo rfl rfl s9op (fun a9oq s9os h9or => ?_)
          refine WT.sp 30 h9or rfl rfl s9os (fun a9ot s9ov h9ou => ?_)
          refine WT.sp 31 h9ou rfl rfl s9ov (fun a9ow s9oy h9ox => ?_)
          refine WT.sp 32 h9ox rfl rfl s9oy (fun a9oz s9p1 h9p0 => ?_)
          refine WT.tk 33 h9p0 rfl rfl (.bool true) (fun _ _ => by kernel_rfl) s9p1 (fun a9p2 s9p4 h9p3 => ?_)
          refine WT.dn ?_
          refine wp_then h9p3 rfl ?_
          refine wp_seq ?_
          refine WL.start ?_
          refine WL.bl 1 1 h9p3 [(6, .bool false)] (fun a9p5 h9p6 => ?_)
          refine WL.dn ?_
          refine wp_ret ?_
          have hS9p7 := hS9h8.drop_
          have hS9p8 := hS9p7.drop_
          have hS9p9 := hS9p8.drop_
          have hS9pa := hS9p9.drop_
          have hS9pb := hS9pa.drop_
          have hS9pc := hS9pb.drop_
          have hS9pd := hS9pc.drop_
          have hS9pe := hS9pd.drop_
          have hS9pf := hS9pe.drop_
          obtain rfl := Option.some.inj H
          repeat (first | with_reducible refine t1 ?_ | with_reducible refine t2 ?_ | with_reducible refine t3 ?_)
          refine bret (.bool false) h9p6 ?_
          exact ⟨rfl, hS9pf⟩
        ·rw [if_neg c9gs] at H
         have hb_ : (decide (r8p1 = 0)) = false := decide_eq_false c9gs
         try rw [hb_] at h9gq
         clear hb_
         refine WT.sp 8 h9gq rfl rfl s9gr (fun a9pg s9pi h9ph => ?_)
         refine WT.sp 9 h9ph rfl rfl s9pi (fun a9pj s9pl h9pk => ?_)
         refine WT.sp 10 h9pk rfl rfl s9pl (fun a9pm s9po h9pn => ?_)
         refine WT.sp 11 h9pn rfl rfl s9po (fun a9pp s9pr h9pq => ?_)
         refine WT.tk 12 h9pq rfl rfl (.bool true) (fun _ _ => by kernel_rfl) s9pr (fun a9ps s9pu h9pt => ?_)
         refine WT.tk 13 h9pt rfl rfl (.bool true) (fun _ _ => by kernel_rfl) s9pu (fun a9pv s9px h9pw => ?_)
         refine WT.sp 14 h9pw rfl rfl s9px (fun a9py s9q0 h9pz => ?_)
         refine WT.sp 15 h9pz rfl rfl s9q0 (fun a9q1 s9q3 h9q2 => ?_)
         refine WT.sp 16 h9q2 rfl rfl s9q3 (fun a9q4 s9q6 h9q5 => ?_)
         refine WT.sp 17 h9q5 rfl rfl s9q6 (fun a9q7 s9q9 h9q8 => ?_)
         refine WT.tk 18 h9q8 rfl rfl (.bool true) (fun _ _ => by kernel_rfl) s9q9 (fun a9qa s9qc h9qb => ?_)
         refine WT.tk 19 h9qb rfl rfl (.bool true) (fun _ _ => by kernel_rfl) s9qc (fun a9qd s9qf h9qe => ?_)
         clear h9gq a9gp h9ph a9pg h9pk a9pj h9pn a9pm h9pq a9pp h9pt a9ps h9pw a9pv h9pz a9py h9q2 a9q1 h9q5 a9q4 h9q8 a9q7 h9qb a9qa
         refine WT.sp 20 h9qe rfl rfl s9qf (fun a9qg s9qi h9qh => ?_)
         refine WT.sp 21 h9qh rfl rfl s9qi (fun a9qj s9ql h9qk => ?_)
         refine WT.sp 22 h9qk rfl rfl s9ql (fun a9qm s9qo h9qn => ?_)
         refine WT.sp 23 h9qn rfl rfl s9qo (fun a9qp s9qr h9qq => ?_)
         refine WT.sp 24 h9qq rfl rfl s9qr (fun a9qs s9qu h9qt => ?_)
         refine WT.tk 25 h9qt rfl rfl (.bool true) (fun _ _ => by kernel_rfl) s9qu (fun a9qv s9qx h9qw => ?_)
         refine WT.tk 26 h9qw rfl rfl (.bool true) (fun _ _ => by kernel_rfl) s9qx (fun a9qy s9r0 h9qz => ?_)
         refine WT.sp 27 h9qz rfl rfl s9r0 (fun a9r1 s9r3 h9r2 => ?_)
         refine WT.sp 28 h9r2 rfl rfl s9r3 (fun a9r4 s9r6 h9r5 => ?_)
         refine WT.sp 29 h9r5 rfl rfl s9r6 (fun a9r7 s9r9 h9r8 => ?_)
         refine WT.sp 30 h9r8 rfl rfl s9r9 (fun a9ra s9rc h9rb => ?_)
         refine WT.sp 31 h9rb rfl rfl s9rc (fun a9rd s9rf h9re => ?_)
         clear h9qe a9qd h9qh a9qg h9qk a9qj h9qn a9qm h9qq a9qp h9qt a9qs h9qw a9qv h9qz a9qy h9r2 a9r1 h9r5 a9r4 h9r8 a9r7 h9rb a9ra
         refine WT.sp 32 h9re rfl rfl s9rf (fun a9rg s9ri h9rh => ?_)
         refine WT.tk 33 h9rh rfl rfl (.bool true) (fun _ _ => by kernel_rfl) s9ri (fun a9rj s9rl h9rk => ?_)
         refine WT.dn ?_
         refine wp_then h9rk rfl ?_
         refine wp_seq ?_
         refine WL.start ?_
         refine WL.bl 1 1 h9rk [(6, .bool false)] (fun a9rm h9rn => ?_)
         refine WL.dn ?_
         refine wp_ret ?_
         have hS9ro := hS9g2.drop_
         have hS9rp := hS9ro.drop_
         have hS9rq := hS9rp.drop_
         have hS9rr := hS9rq.drop_
         have hS9rs := hS9rr.drop_
         have hS9rt := hS9rs.drop_
         have hS9ru := hS9rt.drop_
         have hS9rv := hS9ru.drop_
         have hS9rw := hS9rv.drop_
         obtain rfl := Option.some.inj H
         repeat (first | with_reducible refine t1 ?_ | with_reducible refine t2 ?_ | with_reducible refine t3 ?_)
         refine bret (.bool false) h9rn ?_
         exact ⟨rfl, hS9rw⟩
       ·rw [if_neg c9gf] at H
        have hb_ : (decide (r8nt.f0 = 0) && decide (r8nt.f1 = 0)) = false := (Bool.eq_false_iff.2 c9gf)
        try rw [hb_] at h9gd
        clear hb_
        refine WT.sp 4 h9gd rfl rfl s9ge (fun a9rx s9rz h9ry => ?_)
        refine WT.sp 5 h9ry rfl rfl s9rz (fun a9s0 s9s2 h9s1 => ?_)
        refine WT.tk 6 h9s1 rfl rfl (.bool true) (fun _ _ => by kernel_rfl) s9s2 (fun a9s3 s9s5 h9s4 => ?_)
        refine WT.tk 7 h9s4 rfl rfl (.bool true) (fun _ _ => by kernel_rfl) s9s5 (fun a9s6 s9s8 h9s7 => ?_)
        refine WT.sp 8 h9s7 rfl rfl s9s8 (fun a9s9 s9sb h9sa => ?_)
        refine WT.sp 9 h9sa rfl rfl s9sb (fun a9sc s9se h9sd => ?_)
        refine WT.sp 10 h9sd rfl rfl s9se (fun a9sf s9sh h9sg => ?_)
        refine WT.sp 11 h9sg rfl rfl s9sh (fun a9si s9sk h9sj => ?_)
        refine WT.tk 12 h9sj rfl rfl (.bool true) (fun _ _ => by kernel_rfl) s9sk (fun a9sl s9sn h9sm => ?_)
        refine WT.tk 13 h9sm rfl rfl (.bool true) (fun _ _ => by kernel_rfl) s9sn (fun a9so s9sq h9sp => ?_)
        refine WT.sp 14 h9sp rfl rfl s9sq (fun a9sr s9st h9ss => ?_)
        refine WT.sp 15 h9ss rfl rfl s9st (fun a9su s9sw h9sv => ?_)
        clear h9gd a9gc h9ry a9rx h9s1 a9s0 h9s4 a9s3 h9s7 a9s6 h9sa a9s9 h9sd a9sc h9sg a9sf h9sj a9si h9sm a9sl h9sp a9so h9ss a9sr
        refine WT.sp 16 h9sv rfl rfl s9sw (fun a9sx s9sz h9sy => ?_)
        refine WT.sp 17 h9sy rfl rfl s9sz (fun a9t0 s9t2 h9t1 => ?_)
        refine WT.tk 18 h9t1 rfl rfl (.bool true) (fun _ _ => by kernel_rfl) s9t2 (fun a9t3 s9t5 h9t4 => ?_)
        refine WT.tk 19 h9t4 rfl rfl (.bool true) (fun _ _ => by kernel_rfl) s9t5 (fun a9t6 s9t8 h9t7 => ?_)
        refine WT.sp 20 h9t7 rfl rfl s9t8 (fun a9t9 s9tb h9ta => ?_)
        refine WT.sp 21 h9ta rfl rfl s9tb (fun a9tc s9te h9td => ?_)
        refine WT.sp 22 h9td rfl rfl s9te (fun a9tf s9th h9tg => ?_)
        refine WT.sp 23 h9tg rfl rfl s9th (fun a9ti s9tk h9tj => ?_)
        refine WT.sp 24 h9tj rfl rfl s9tk (fun a9tl s9tn h9tm => ?_)
        refine WT.tk 25 h9tm rfl rfl (.bool true) (fun _ _ => by kernel_rfl) s9tn (fun a9to s9tq h9tp => ?_)
        refine WT.tk 26 h9tp rfl rfl (.bool true) (fun _ _ => by kernel_rfl) s9tq (fun a9tr s9tt h9ts => ?_)
        refine WT.sp 27 h9ts rfl rfl s9tt (fun a9tu s9tw h9tv => ?_)
        clear h9sv a9su h9sy a9sx h9t1 a9t0 h9t4 a9t3 h9t7 a9t6 h9ta a9t9 h9td a9tc h9tg a9tf h9tj a9ti h9tm a9tl h9tp a9to h9ts a9tr
        refine WT.sp 28 h9tv rfl rfl s9tw (fun a9tx s9tz h9ty => ?_)
        refine WT.sp 29 h9ty rfl rfl s9tz (fun a9u0 s9u2 h9u1 => ?_)
        refine WT.sp 30 h9u1 rfl rfl s9u2 (fun a9u3 s9u5 h9u4 => ?_)
        refine WT.sp 31 h9u4 rfl rfl s9u5 (fun a9u6 s9u8 h9u7 => ?_)
        refine WT.sp 32 h9u7 rfl rfl s9u8 (fun a9u9 s9ub h9ua => ?_)
        refine WT.tk 33 h9ua rfl rfl (.bool true) (fun _ _ => by kernel_rfl) s9ub (fun a9uc s9ue h9ud => ?_)
        refine WT.dn ?_
        refine wp_then h9ud rfl ?_
        refine wp_seq ?_
        refine WL.start ?_
        refine WL.bl 1 1 h9ud [(6, .bool false)] (fun a9uf h9ug => ?_)
        refine WL.dn ?_
        refine wp_ret ?_
        have hS9uh := hS9g2.drop_
        have hS9ui := hS9uh.drop_
        have hS9uj := hS9ui.drop_
        have hS9uk := hS9uj.drop_
        have hS9ul := hS9uk.drop_
        have hS9um := hS9ul.drop_
        have hS9un := hS9um.drop_
        have hS9uo := hS9un.drop_
        have hS9up := hS9uo.drop_
        obtain rfl := Option.some.inj H
        repeat (first | with_reducible refine t1 ?_ | with_reducible refine t2 ?_ | with_reducible refine t3 ?_)
        refine bret (.bool false) h9ug ?_
        exact ⟨rfl, hS9up⟩
    ·rw [if_neg c7a3] at H
     cases H
   ·rw [if_neg c7a0] at H
    have hb_ : (decide (x79p < (p1.length : Int))) = false := decide_eq_false c7a0
    try rw [hb_] at h79z
    clear hb_
    refine wp_else h79z rfl ?_
    refine wp_exit ?_
    refine wp_seq ?_
    refine WL.start ?_
    obtain ⟨r9ur, A9uq, H⟩ := bind1 H
    refine WL.oq h79z rfl ?_
    refine owp_call [] h79z rfl (by kernel_rfl) rfl Tryd.func10 (by kernel_rfl) rfl (by kernel_rfl) (louverlaw06qfixed.calls kk79x hg0 hg1 A9uq hS79e) (fun e9ut W9us hp9uu => ?_)
    obtain ⟨rfl, hS9ux⟩ := hp9uu
    refine ⟨_, rfl, fun a9uv h9uw => ?_⟩
    refine WL.bl 1 2 h9uw [(6, .bool r9ur)] (fun a9uy h9uz => ?_)
    refine WL.dn ?_
    refine wp_ret ?_
    have hS9v0 := hS9ux.drop_
    have hS9v1 := hS9v0.drop_
    have hS9v2 := hS9v1.drop_
    obtain rfl := Option.some.inj H
    repeat (first | with_reducible refine t1 ?_ | with_reducible refine t2 ?_ | with_reducible refine t3 ?_)
    refine bret (.bool r9ur) h9uz ?_
    exact ⟨rfl, hS9v2⟩
end Go.Proofs.YtinebjcfgmoniaaDoor.Sl
