/- What the functions of this program compute, told as plain functions, and that the calls come to just that. Printed by this session's program; part 4. -/
import Derived.Test.YtinebjcfgmoniaaDoorCodeHpackGets3
set_option linter.unusedVariables false
set_option linter.unusedSimpArgs false
set_option linter.unnecessarySimpa false
namespace Go.Proofs.YtinebjcfgmoniaaDoor.Sl
open Go Go.RowKit Go.Proofs.Sl
/-! ### (louver/louverref06.D).field -/
def louverref06qD_field.f (k : Nat) (p0 : S45) (p1 : (List Int)) (p2 : Int) : Option (S52 × Int × S45 × Bool) := if 0 ≤ p2 then (if p2 < (p1.length : Int) then (bnd1 (louverref06qkind.f (gt (0 : Int) p1 p2)) fun r1lm => (if r1lm = 0 then (if p2 ≤ (p1.length : Int) then (bnd3 (louverref02qGet.f k (p1.drop p2.toNat) 7) fun r1m7 r1m8 r1m9 => (bnd2 (louverref05qT_At.f (⟨p0.f0.f0, p0.f0.f1⟩ : S43) (IntKind.i64.wrap r1m7)) fun r1mr r1ms => (if r1ms = true then (some ((⟨r1mr.f0, r1mr.f1, r1mr.f2⟩ : S52), IntKind.i64.wrap (p2 + r1m8), (⟨(⟨p0.f0.f0, p0.f0.f1⟩ : S43), p0.f1⟩ : S45), decide (r1m9 = 0))) else (some ((⟨r1mr.f0, r1mr.f1, r1mr.f2⟩ : S52), IntKind.i64.wrap (p2 + r1m8), (⟨(⟨p0.f0.f0, p0.f0.f1⟩ : S43), p0.f1⟩ : S45), false))))) else (none)) else (if r1lm = 1 then (bnd3 (louverref06qD_literal.f k (⟨(⟨p0.f0.f0, p0.f0.f1⟩ : S43), p0.f1⟩ : S45) p1 p2 6) fun r1ug r1uh r1ui => (if r1ui = true then (bnd1 (louverref05qT_Add.f k (⟨p0.f0.f0, p0.f0.f1⟩ : S43) (⟨r1ug.f0, r1ug.f1, r1ug.f2⟩ : S52)) fun r1vg => (some ((⟨r1ug.f0, r1ug.f1, r1ug.f2⟩ : S52), r1uh, (⟨(⟨r1vg.f0, r1vg.f1⟩ : S43), p0.f1⟩ : S45), true))) else (some ((⟨r1ug.f0, r1ug.f1, r1ug.f2⟩ : S52), r1uh, (⟨(⟨p0.f0.f0, p0.f0.f1⟩ : S43), p0.f1⟩ : S45), false)))) else (bnd3 (louverref06qD_literal.f k (⟨(⟨p0.f0.f0, p0.f0.f1⟩ : S43), p0.f1⟩ : S45) p1 p2 4) fun r218 r219 r21a => (bnd1 (louverref06qkind.f (gt (0 : Int) p1 p2)) fun r22b => (some ((⟨r218.f0, r218.f1, decide (r22b = 3)⟩ : S52), r219, (⟨(⟨p0.f0.f0, p0.f0.f1⟩ : S43), p0.f1⟩ : S45), r21a))))))) else (none)) else (none)
set_option maxHeartbeats 20000000 in
set_option maxRecDepth 100000 in
theorem louverref06qD_field.calls (k : Nat) {b : Nat} {w0 W : World} {R : Frag} {Fs : List Frag} {p0 : S45} {p1 : (List Int)} {p2 : Int} {v0q0 : Value} {v1 : Value} {M0q0 : Frag} {r0q : S52} {r1q : Int} {r2q : S45} {r3q : Bool} (hp0q0 : Row k52 52 b w0 R v0q0 p0.f0.f0 M0q0) (hp1 : Rds (kInt .u8) b w0 R v1 p1) (H : louverref06qD_field.f k p0 p1 p2 = some (r0q, r1q, r2q, r3q)) (hS : St b w0 W R (M0q0 :: Fs)) :
  Calls Tryd.prog 34 ([.agg #[v0q0, i6 p0.f0.f1, i6 p0.f1], v1, i6 p2] : List Value).toArray W (fun e W' => ∃ (u2qv2qf0f0 : Value), e = .returned (.tuple #[.agg #[.string (mkS r0q.f0), .string (mkS r0q.f1), .bool r0q.f2], i6 r1q, .agg #[u2qv2qf0f0, i6 r2q.f0.f1, i6 r2q.f1], .bool r3q]) ∧ ((u2qv2qf0f0 = v0q0 ∧ r2q.f0.f0 = p0.f0.f0 ∧ St b w0 W' R (M0q0 :: Fs)) ∨ ∃ N_ : Frag, Row k52 52 b w0 R u2qv2qf0f0 r2q.f0.f0 N_ ∧ St b w0 W' R (N_ :: M0q0 :: Fs))) := by
 obtain ⟨A0q0, c0q0, rfl⟩ := hp0q0.form
 obtain ⟨A1, c1, rfl⟩ := hp1.form
 unfold louverref06qD_field.f at H
 refine calls_enter Tryd.func34 rfl 93 rfl (by kernel_rfl) (fun a h => ?_)
 refine wp_seq ?_
 refine WL.start ?_
 refine WL.oq h rfl ?_
 refine owp_nw (fun g_ => (pt g_)) (.cells ([.slice A0q0 p0.f0.f0.length c0q0, i6 p0.f0.f1, i6 p0.f1] : List Value).toArray 45 (0, 0)) h rfl hS (fun a1kl W1kn g1ko h1km hS1kp => ?_)
 refine WL.oq h1km rfl ?_
 refine owp_nw (fun g_ => (pt g_)) (.cells ([.string (mkS []), .string (mkS []), .bool false] : List Value).toArray 52 (0, 0)) h1km rfl hS1kp (fun a1kq W1ks g1kt h1kr hS1ku => ?_)
 refine WL.bl 1 3 h1kr [(7, i6 0)] (fun a1kv h1kw => ?_)
 refine WL.oq h1kw rfl ?_
 refine owp_nw (fun g_ => (pt g_)) (.cells ([.slice none 0 0, i6 0, i6 0] : List Value).toArray 45 (0, 0)) h1kw rfl hS1ku (fun a1kx W1kz g1l0 h1ky hS1l1 => ?_)
 refine WL.bl 1 5 h1ky [(9, .bool false)] (fun a1l2 h1l3 => ?_)
 refine WL.dn ?_
 refine wp_seq ?_
 refine wp_seq ?_
 refine WL.start ?_
 refine WL.bl 2 2 h1l3 [(22, i6 p2), (21, .slice A1 p1.length c1)] (fun a1l4 h1l5 => ?_)
 clear h1km a1kl h1kr a1kq h1kw a1kv h1ky a1kx h1l3 a1l2
 by_cases c1l6 : 0 ≤ p2
 ·rw [if_pos c1l6] at H
  by_cases c1l7 : p2 < (p1.length : Int)
  ·rw [if_pos c1l7] at H
   have hi1la : 0 ≤ p2 := by first | assumption | omega
   have hi1lb : p2 < (p1.length : Int) := by first | assumption | omega
   obtain ⟨ad1l8, _, ha1l9, -, -⟩ := Rds.elemAny hp1 hi1la (gt_get (z := (0 : Int)) hi1la hi1lb)
   refine WL.oq h1l5 rfl ?_
   refine owp_rn (.pointer (some (ad1l8.add (p2.toNat * 1)))) h1l5 rfl (run_idx (ad := ad1l8) (sz := 1) rfl (by rw [← ha1l9]; rfl) rfl Tryd.underlying22 (by kernel_rfl) hi1la hi1lb) (fun a1lc h1ld => ?_)
   obtain ⟨ad1le, cs1lf, ha1lg, hr1li, hc1lh⟩ := Rds.elemAny hp1 hi1la (gt_get (z := (0 : Int)) hi1la hi1lb)
   rw [ha1l9] at ha1lg; obtain rfl := Option.some.inj ha1lg
   obtain rfl : cs1lf = [.int .u8 (gt (0 : Int) p1 p2)] := hr1li
   refine WL.oq h1ld rfl ?_
   refine owp_rn (.int .u8 (gt (0 : Int) p1 p2)) h1ld rfl (run_load1 rfl rfl Tryd.underlying5 rfl (cell0 (hc1lh _ (fun _ _ hk_ => hS1l1.kn hk_)))) (fun a1lj h1lk => ?_)
   obtain ⟨r1lm, A1ll, H⟩ := bind1 H
   refine WL.oq h1lk rfl ?_
   refine owp_call [.int .u8 (gt (0 : Int) p1 p2)] h1lk rfl (by kernel_rfl) rfl Tryd.func31 (by kernel_rfl) rfl (by kernel_rfl) (louverref06qkind.calls  A1ll hS1l1) (fun e1lo W1ln hp1lp => ?_)
   obtain ⟨rfl, hS1ls⟩ := hp1lp
   refine ⟨_, rfl, fun a1lq h1lr => ?_⟩
   refine WL.dn ?_
   refine wp_block ?_
   refine wp_seq ?_
   refine WL.start ?_
   refine WL.bl 2 2 h1lr [(26, .bool (decide (r1lm = 0))), (27, .bool (decide (r1lm = 0)))] (fun a1lt h1lu => ?_)
   refine WL.dn ?_
   clear h1l5 a1l4 h1ld a1lc h1lk a1lj h1lr a1lq
   by_cases c1lv : r1lm = 0
   ·rw [if_pos c1lv] at H
    have hb_ : (decide (r1lm = 0)) = true := decide_eq_true c1lv
    try rw [hb_] at h1lu
    clear hb_
    refine wp_then h1lu rfl ?_
    refine wp_seq ?_
    refine WL.start ?_
    refine WL.bl 2 2 h1lu [(30, i6 p2), (29, .slice A1 p1.length c1)] (fun a1lw h1lx => ?_)
    clear h1lu a1lt
    by_cases c1ly : p2 ≤ (p1.length : Int)
    ·rw [if_pos c1ly] at H
     refine WL.oq h1lx rfl ?_
     refine owp_rn (sliced A1 p2.toNat (p1.length : Int).toNat c1 1) h1lx rfl (run_cut (l := p2) (h := (p1.length : Int)) rfl rfl Tryd.underlying22 (by kernel_rfl) ⟨_, rfl⟩ rfl (by first | assumption | omega) (by first | assumption | omega) (by have q_ := Rds.cap hp1; omega) (by have q_ := Rds.cap hp1; omega)) (fun a1m0 h1m1 => ?_)
     have hx1lz := Rds.cut hp1 (l := p2.toNat) (h := (p1.length : Int).toNat) (by omega) (by omega)
     obtain ⟨v1m2, ev1m3⟩ : ∃ y_, y_ = sliced A1 p2.toNat (p1.length : Int).toNat c1 1 := ⟨_, rfl⟩
     have hx_ : Rds (kInt .u8) b w0 R v1m2 (p1.drop p2.toNat) := hx1lz.as_ ev1m3.symm (by simp)
     rw [← ev1m3] at h1m1; clear ev1m3 hx1lz
     have hx1lz := hx_; clear hx_
     obtain ⟨A1m4, c1m5, rfl⟩ := hx1lz.form
     obtain ⟨r1m7, r1m8, r1m9, A1m6, H⟩ := bind3 H
     refine WL.oq h1m1 rfl ?_
     refine owp_call [.slice A1m4 (p1.drop p2.toNat).length c1m5, i6 7] h1m1 rfl (by kernel_rfl) rfl Tryd.func32 (by kernel_rfl) rfl (by kernel_rfl) (louverref02qGet.calls k hx1lz A1m6 hS1ls) (fun e1mb W1ma hp1mc => ?_)
     obtain ⟨rfl, hS1mf⟩ := hp1mc
     refine ⟨_, rfl, fun a1md h1me => ?_⟩
     refine WL.bl 7 11 h1me [(12, i6 r1m9), (11, i6 r1m8), (10, .int .u32 r1m7), (35, i6 r1m9), (34, i6 r1m8), (33, .int .u32 r1m7), (28, .tuple #[.int .u32 r1m7, i6 r1m8, i6 r1m9])] (fun a1mg h1mh => ?_)
     refine WL.dn ?_
     refine wp_seq ?_
     refine WL.start ?_
     refine WL.bl 1 1 h1mh [(37, pt g1ko)] (fun a1mi h1mj => ?_)
     have hS1mk := hS1mf.b2
     refine WL.oq h1mj rfl ?_
     refine owp_rn (.agg #[.slice A0q0 p0.f0.f0.length c0q0, i6 p0.f0.f1]) h1mj rfl (run_loadN rfl rfl Tryd.underlying43 rfl (cs := [.slice A0q0 p0.f0.f0.length c0q0, i6 p0.f0.f1]) (by kernel_rfl) (hS1mk.cells (vs := [.slice A0q0 p0.f0.f0.length c0q0, i6 p0.f0.f1]) rfl)) (fun a1ml h1mm => ?_)
     refine WL.bl 2 4 h1mm [(40, i6 (IntKind.i64.wrap r1m7)), (39, .int .u32 r1m7)] (fun a1mn h1mo => ?_)
     have hS1mp := hS1mk.b3
     obtain ⟨r1mr, r1ms, A1mq, H⟩ := bind2 H
     refine WL.oq h1mo rfl ?_
     refine owp_call [.agg #[.slice A0q0 p0.f0.f0.length c0q0, i6 p0.f0.f1], i6 (IntKind.i64.wrap r1m7)] h1mo rfl (by kernel_rfl) rfl Tryd.func46 (by kernel_rfl) rfl (by kernel_rfl) (louverref05qT_At.calls (p0 := (⟨p0.f0.f0, p0.f0.f1⟩ : S43)) hp0q0.rds A1mq (hS1mp.pool)) (fun e1mu W1mt hp1mv => ?_)
     obtain ⟨rfl, hS1my⟩ := hp1mv
     have hS1mz : St b w0 W1mt R (M0q0 :: (bx g1ko 45 [.slice A0q0 p0.f0.f0.length c0q0, i6 p0.f0.f1, i6 p0.f1]) :: (bx g1l0 45 [.slice none 0 0, i6 0, i6 0]) :: (bx g1kt 52 [.string (mkS []), .string (mkS []), .bool false]) :: Fs) := hS1my.unpool
     refine ⟨_, rfl, fun a1mw h1mx => ?_⟩
     refine WL.bl 3 8 h1mx [(43, .bool r1ms), (42, .agg #[.string (mkS r1mr.f0), .string (mkS r1mr.f1), .bool r1mr.f2]), (36, .tuple #[.agg #[.string (mkS r1mr.f0), .string (mkS r1mr.f1), .bool r1mr.f2], .bool r1ms])] (fun a1n0 h1n1 => ?_)
     refine WL.oq h1n1 rfl ?_
     refine owp_nw (fun g_ => (pt g_)) (.cells ([.string (mkS []), .string (mkS []), .bool false] : List Value).toArray 52 (0, 0)) h1n1 rfl hS1mz (fun a1n2 W1n4 g1n5 h1n3 hS1n6 => ?_)
     refine WL.oq h1n3 rfl ?_
     refine owp_st 0 [.string (mkS r1mr.f0), .string (mkS r1mr.f1), .bool r1mr.f2] h1n3 rfl rfl rfl hS1n6 [.string (mkS r1mr.f0), .string (mkS r1mr.f1), .bool r1mr.f2] (fun a1n7 W1n9 h1n8 hS1na => ?_)
     refine WL.bl 1 11 h1n8 [(14, .bool r1ms)] (fun a1nb h1nc => ?_)
     refine WL.dn ?_
     refine wp_seq ?_
     refine WT.start 14 (fun w_ => (∀ j_ u_, ([.string (mkS r1mr.f0), .string (mkS r1mr.f1), .bool r1mr.f2] : List Value)[j_]? = some u_ → w_.cell? ((⟨g1n5, 0, none⟩ : Addr).add j_) = some u_) ∧ (∀ j_ u_, ([.slice A0q0 p0.f0.f0.length c0q0, i6 p0.f0.f1, i6 p0.f1] : List Value)[j_]? = some u_ → w_.cell? ((⟨g1ko, 0, none⟩ : Addr).add j_) = some u_) ∧ True) (by kernel_rfl) #[false, false, false, false, false, false, false, false, false, false, false, false, false, false] 14 rfl rfl ?_
     have hS1rp := hS1na.drew
     refine WT.tk 1 h1nc rfl rfl (i6 p2) (fun _ _ => by kernel_rfl) ⟨(hS1rp.cells (vs := [.string (mkS r1mr.f0), .string (mkS r1mr.f1), .bool r1mr.f2]) rfl), (hS1rp.b2.cells (vs := [.slice A0q0 p0.f0.f0.length c0q0, i6 p0.f0.f1, i6 p0.f1]) rfl), trivial⟩ (fun a1rq s1rs h1rr => ?_)
     clear h1lx a1lw h1m1 a1m0 h1me a1md h1mh a1mg h1mj a1mi h1mm a1ml h1mo a1mn h1mx a1mw h1n1 a1n0 h1n3 a1n2 h1n8 a1n7 h1nc a1nb
     refine WT.tk 2 h1rr rfl rfl (i6 r1m8) (fun _ _ => by kernel_rfl) s1rs (fun a1rt s1rv h1ru => ?_)
     refine WT.tk 3 h1ru rfl rfl (i6 (IntKind.i64.wrap (p2 + r1m8))) (fun _ _ => by kernel_rfl) s1rv (fun a1rw s1ry h1rx => ?_)
     refine WT.tk 5 h1rx rfl rfl (.bool r1ms) (fun _ _ => by kernel_rfl) s1ry (fun a1rz s1s1 h1s0 => ?_)
     refine WT.tk 6 h1s0 rfl rfl (.bool r1ms) (fun _ _ => by kernel_rfl) s1s1 (fun a1s2 s1s4 h1s3 => ?_)
     clear h1rr a1rq h1ru a1rt h1rx a1rw h1s0 a1rz
     by_cases c1s5 : r1ms = true
     ·rw [if_pos c1s5] at H
      have hb_ : r1ms = true := c1s5
      try rw [hb_] at h1s3
      clear hb_
      refine WT.tk 7 h1s3 rfl rfl (i6 r1m9) (fun _ _ => by kernel_rfl) s1s4 (fun a1s6 s1s8 h1s7 => ?_)
      refine WT.tk 8 h1s7 rfl rfl (.bool (decide (r1m9 = 0))) (fun _ _ => by kernel_rfl) s1s8 (fun a1s9 s1sb h1sa => ?_)
      refine WT.tk 9 h1sa rfl rfl (.bool (decide (r1m9 = 0))) (fun _ _ => by kernel_rfl) s1sb (fun a1sc s1se h1sd => ?_)
      refine WT.tk 0 h1sd rfl rfl (.agg #[.string (mkS r1mr.f0), .string (mkS r1mr.f1), .bool r1mr.f2]) (fun w_ hs_ => (run_loadN rfl rfl Tryd.underlying52 rfl (cs := [.string (mkS r1mr.f0), .string (mkS r1mr.f1), .bool r1mr.f2]) (by kernel_rfl) hs_.1)) s1se (fun a1sf s1sh h1sg => ?_)
      refine WT.tk 4 h1sg rfl rfl (.agg #[.slice A0q0 p0.f0.f0.length c0q0, i6 p0.f0.f1, i6 p0.f1]) (fun w_ hs_ => (run_loadN rfl rfl Tryd.underlying45 rfl (cs := [.slice A0q0 p0.f0.f0.length c0q0, i6 p0.f0.f1, i6 p0.f1]) (by kernel_rfl) hs_.2.1)) s1sh (fun a1si s1sk h1sj => ?_)
      have hS1sl := hS1rp.b4
      refine WT.o1 10 h1sj rfl ?_
      refine owp_st 0 [.string (mkS r1mr.f0), .string (mkS r1mr.f1), .bool r1mr.f2] h1sj rfl rfl rfl hS1sl [.string (mkS r1mr.f0), .string (mkS r1mr.f1), .bool r1mr.f2] (fun a1sm W1so h1sn hS1sp => ?_)
      refine ⟨.inr ⟨(hS1sp.b1.cells (vs := [.string (mkS r1mr.f0), .string (mkS r1mr.f1), .bool r1mr.f2]) rfl), (hS1sp.b3.cells (vs := [.slice A0q0 p0.f0.f0.length c0q0, i6 p0.f0.f1, i6 p0.f1]) rfl), trivial⟩, ?_⟩
      refine WT.tk 11 h1sn rfl rfl (i6 (IntKind.i64.wrap (p2 + r1m8))) (fun _ _ => by kernel_rfl) ⟨(hS1sp.b1.cells (vs := [.string (mkS r1mr.f0), .string (mkS r1mr.f1), .bool r1mr.f2]) rfl), (hS1sp.b3.cells (vs := [.slice A0q0 p0.f0.f0.length c0q0, i6 p0.f0.f1, i6 p0.f1]) rfl), trivial⟩ (fun a1sq s1ss h1sr => ?_)
      have hS1st := hS1sp.b4
      refine WT.o1 12 h1sr rfl ?_
      refine owp_st 0 [.slice A0q0 p0.f0.f0.length c0q0, i6 p0.f0.f1, i6 p0.f1] h1sr rfl rfl rfl hS1st [.slice A0q0 p0.f0.f0.length c0q0, i6 p0.f0.f1, i6 p0.f1] (fun a1su W1sw h1sv hS1sx => ?_)
      refine ⟨.inr ⟨(hS1sx.b2.cells (vs := [.string (mkS r1mr.f0), .string (mkS r1mr.f1), .bool r1mr.f2]) rfl), (hS1sx.b4.cells (vs := [.slice A0q0 p0.f0.f0.length c0q0, i6 p0.f0.f1, i6 p0.f1]) rfl), trivial⟩, ?_⟩
      refine WT.tk 13 h1sv rfl rfl (.bool (decide (r1m9 = 0))) (fun _ _ => by kernel_rfl) ⟨(hS1sx.b2.cells (vs := [.string (mkS r1mr.f0), .string (mkS r1mr.f1), .bool r1mr.f2]) rfl), (hS1sx.b4.cells (vs := [.slice A0q0 p0.f0.f0.length c0q0, i6 p0.f0.f1, i6 p0.f1]) rfl), trivial⟩ (fun a1sy s1t0 h1sz => ?_)
      refine WT.dn ?_
      refine wp_ret ?_
      have hS1t1 := hS1sx.drop_
      have hS1t2 := hS1t1.drop_
      have hS1t3 := hS1t2.drop_
      have hS1t4 := hS1t3.b1
      have hS1t5 := hS1t4.drop_
      obtain ⟨rfl, rfl, rfl, rfl⟩ := ret4 H
      repeat (first | with_reducible refine t1 ?_ | with_reducible refine t2 ?_ | with_reducible refine t3 ?_)
      refine body_ret (v := .tuple #[.agg #[.string (mkS r1mr.f0), .string (mkS r1mr.f1), .bool r1mr.f2], i6 (IntKind.i64.wrap (p2 + r1m8)), .agg #[.slice A0q0 p0.f0.f0.length c0q0, i6 p0.f0.f1, i6 p0.f1], .bool (decide (r1m9 = 0))]) h1sz (by kernel_rfl) (res_many (xs := [ResultVar.cell 6 52, ResultVar.tmp 7, ResultVar.cell 8 45, ResultVar.tmp 9]) rfl ⟨⟨_, rfl, loadVarN Tryd.underlying52 rfl (cs := [.string (mkS r1mr.f0), .string (mkS r1mr.f1), .bool r1mr.f2]) (by kernel_rfl) ((hS1sx.bring 1 rfl rfl).cells (vs := [.string (mkS r1mr.f0), .string (mkS r1mr.f1), .bool r1mr.f2]) rfl)⟩, rfl, ⟨_, rfl, loadVarN Tryd.underlying45 rfl (cs := [.slice A0q0 p0.f0.f0.length c0q0, i6 p0.f0.f1, i6 p0.f1]) (by kernel_rfl) (hS1sx.cells (vs := [.slice A0q0 p0.f0.f0.length c0q0, i6 p0.f0.f1, i6 p0.f1]) rfl)⟩, rfl, trivial⟩ rfl) ?_
      exact ⟨.slice A0q0 p0.f0.f0.length c0q0, rfl, .inl ⟨rfl, rfl, hS1t5⟩⟩
     ·rw [if_neg c1s5] at H
      have hb_ : r1ms = false := (Bool.eq_false_iff.2 c1s5)
      try rw [hb_] at h1s3
      clear hb_
      refine WT.sp 7 h1s3 rfl rfl s1s4 (fun a1t6 s1t8 h1t7 => ?_)
      refine WT.sp 8 h1t7 rfl rfl s1t8 (fun a1t9 s1tb h1ta => ?_)
      refine WT.tk 9 h1ta rfl rfl (.bool false) (fun _ _ => by kernel_rfl) s1tb (fun a1tc s1te h1td => ?_)
      refine WT.tk 0 h1td rfl rfl (.agg #[.string (mkS r1mr.f0), .string (mkS r1mr.f1), .bool r1mr.f2]) (fun w_ hs_ => (run_loadN rfl rfl Tryd.underlying52 rfl (cs := [.string (mkS r1mr.f0), .string (mkS r1mr.f1), .bool r1mr.f2]) (by kernel_rfl) hs_.1)) s1te (fun a1tf s1th h1tg => ?_)
      refine WT.tk 4 h1tg rfl rfl (.agg #[.slice A0q0 p0.f0.f0.length c0q0, i6 p0.f0.f1, i6 p0.f1]) (fun w_ hs_ => (run_loadN rfl rfl Tryd.underlying45 rfl (cs := [.slice A0q0 p0.f0.f0.length c0q0, i6 p0.f0.f1, i6 p0.f1]) (by kernel_rfl) hs_.2.1)) s1th (fun a1ti s1tk h1tj => ?_)
      have hS1tl := hS1rp.b4
      refine WT.o1 10 h1tj rfl ?_
      refine owp_st 0 [.string (mkS r1mr.f0), .string (mkS r1mr.f1), .bool r1mr.f2] h1tj rfl rfl rfl hS1tl [.string (mkS r1mr.f0), .string (mkS r1mr.f1), .bool r1mr.f2] (fun a1tm W1to h1tn hS1tp => ?_)
      refine ⟨.inr ⟨(hS1tp.b1.cells (vs := [.string (mkS r1mr.f0), .string (mkS r1mr.f1), .bool r1mr.f2]) rfl), (hS1tp.b3.cells (vs := [.slice A0q0 p0.f0.f0.length c0q0, i6 p0.f0.f1, i6 p0.f1]) rfl), trivial⟩, ?_⟩
      refine WT.tk 11 h1tn rfl rfl (i6 (IntKind.i64.wrap (p2 + r1m8))) (fun _ _ => by kernel_rfl) ⟨(hS1tp.b1.cells (vs := [.string (mkS r1mr.f0), .string (mkS r1mr.f1), .bool r1mr.f2]) rfl), (hS1tp.b3.cells (vs := [.slice A0q0 p0.f0.f0.length c0q0, i6 p0.f0.f1, i6 p0.f1]) rfl), trivial⟩ (fun a1tq s1ts h1tr => ?_)
      have hS1tt := hS1tp.b4
      refine WT.o1 12 h1tr rfl ?_
      refine owp_st 0 [.slice A0q0 p0.f0.f0.length c0q0, i6 p0.f0.f1, i6 p0.f1] h1tr rfl rfl rfl hS1tt [.slice A0q0 p0.f0.f0.length c0q0, i6 p0.f0.f1, i6 p0.f1] (fun a1tu W1tw h1tv hS1tx => ?_)
      refine ⟨.inr ⟨(hS1tx.b2.cells (vs := [.string (mkS r1mr.f0), .string (mkS r1mr.f1), .bool r1mr.f2]) rfl), (hS1tx.b4.cells (vs := [.slice A0q0 p0.f0.f0.length c0q0, i6 p0.f0.f1, i6 p0.f1]) rfl), trivial⟩, ?_⟩
      refine WT.tk 13 h1tv rfl rfl (.bool false) (fun _ _ => by kernel_rfl) ⟨(hS1tx.b2.cells (vs := [.string (mkS r1mr.f0), .string (mkS r1mr.f1), .bool r1mr.f2]) rfl), (hS1tx.b4.cells (vs := [.slice A0q0 p0.f0.f0.length c0q0, i6 p0.f0.f1, i6 p0.f1]) rfl), trivial⟩ (fun a1ty s1u0 h1tz => ?_)
      refine WT.dn ?_
      refine wp_ret ?_
      have hS1u1 := hS1tx.drop_
      have hS1u2 := hS1u1.drop_
      have hS1u3 := hS1u2.drop_
      have hS1u4 := hS1u3.b1
      have hS1u5 := hS1u4.drop_
      obtain ⟨rfl, rfl, rfl, rfl⟩ := ret4 H
      repeat (first | with_reducible refine t1 ?_ | with_reducible refine t2 ?_ | with_reducible refine t3 ?_)
      refine body_ret (v := .tuple #[.agg #[.string (mkS r1mr.f0), .string (mkS r1mr.f1), .bool r1mr.f2], i6 (IntKind.i64.wrap (p2 + r1m8)), .agg #[.slice A0q0 p0.f0.f0.length c0q0, i6 p0.f0.f1, i6 p0.f1], .bool false]) h1tz (by kernel_rfl) (res_many (xs := [ResultVar.cell 6 52, ResultVar.tmp 7, ResultVar.cell 8 45, ResultVar.tmp 9]) rfl ⟨⟨_, rfl, loadVarN Tryd.underlying52 rfl (cs := [.string (mkS r1mr.f0), .string (mkS r1mr.f1), .bool r1mr.f2]) (by kernel_rfl) ((hS1tx.bring 1 rfl rfl).cells (vs := [.string (mkS r1mr.f0), .string (mkS r1mr.f1), .bool r1mr.f2]) rfl)⟩, rfl, ⟨_, rfl, loadVarN Tryd.underlying45 rfl (cs := [.slice A0q0 p0.f0.f0.length c0q0, i6 p0.f0.f1, i6 p0.f1]) (by kernel_rfl) (hS1tx.cells (vs := [.slice A0q0 p0.f0.f0.length c0q0, i6 p0.f0.f1, i6 p0.f1]) rfl)⟩, rfl, trivial⟩ rfl) ?_
      exact ⟨.slice A0q0 p0.f0.f0.length c0q0, rfl, .inl ⟨rfl, rfl, hS1u5⟩⟩
    ·rw [if_neg c1ly] at H
     cases H
   ·rw [if_neg c1lv] at H
    have hb_ : (decide (r1lm = 0)) = false := decide_eq_false c1lv
    try rw [hb_] at h1lu
    clear hb_
    refine wp_else h1lu rfl ?_
    refine wp_seq ?_
    refine WL.start ?_
    refine WL.bl 2 2 h1lu [(54, .bool (decide (r1lm = 1))), (55, .bool (decide (r1lm = 1)))] (fun a1u6 h1u7 => ?_)
    refine WL.dn ?_
    clear h1lu a1lt
    by_cases c1u8 : r1lm = 1
    ·rw [if_pos c1u8] at H
     have hb_ : (decide (r1lm = 1)) = true := decide_eq_true c1u8
     try rw [hb_] at h1u7
     clear hb_
     refine wp_then h1u7 rfl ?_
     refine wp_seq ?_
     refine WL.start ?_
     have hS1u9 := hS1ls.b2
     refine WL.oq h1u7 rfl ?_
     refine owp_rn (.agg #[.slice A0q0 p0.f0.f0.length c0q0, i6 p0.f0.f1, i6 p0.f1]) h1u7 rfl (run_loadN rfl rfl Tryd.underlying45 rfl (cs := [.slice A0q0 p0.f0.f0.length c0q0, i6 p0.f0.f1, i6 p0.f1]) (by kernel_rfl) (hS1u9.cells (vs := [.slice A0q0 p0.f0.f0.length c0q0, i6 p0.f0.f1, i6 p0.f1]) rfl)) (fun a1ua h1ub => ?_)
     refine WL.bl 2 3 h1ub [(59, i6 p2), (58, .slice A1 p1.length c1)] (fun a1uc h1ud => ?_)
     have hS1ue := hS1u9.b3
     obtain ⟨r1ug, r1uh, r1ui, A1uf, H⟩ := bind3 H
     refine WL.oq h1ud rfl ?_
     refine owp_call [.agg #[.slice A0q0 p0.f0.f0.length c0q0, i6 p0.f0.f1, i6 p0.f1], .slice A1 p1.length c1, i6 p2, i6 6] h1ud rfl (by kernel_rfl) rfl Tryd.func47 (by kernel_rfl) rfl (by kernel_rfl) (louverref06qD_literal.calls (p0 := (⟨(⟨p0.f0.f0, p0.f0.f1⟩ : S43), p0.f1⟩ : S45)) k hp0q0.rds (hp1.mono (fun _ hp_ => List.mem_append_right _ hp_)) A1uf (hS1ue.pool)) (fun e1uk W1uj hp1ul => ?_)
     obtain ⟨rfl, hS1uo⟩ := hp1ul
     have hS1up : St b w0 W1uj R (M0q0 :: (bx g1ko 45 [.slice A0q0 p0.f0.f0.length c0q0, i6 p0.f0.f1, i6 p0.f1]) :: (bx g1l0 45 [.slice none 0 0, i6 0, i6 0]) :: (bx g1kt 52 [.string (mkS []), .string (mkS []), .bool false]) :: Fs) := hS1uo.unpool
     refine ⟨_, rfl, fun a1um h1un => ?_⟩
     refine WL.bl 4 8 h1un [(63, .bool r1ui), (62, i6 r1uh), (61, .agg #[.string (mkS r1ug.f0), .string (mkS r1ug.f1), .bool r1ug.f2]), (56, .tuple #[.agg #[.string (mkS r1ug.f0), .string (mkS r1ug.f1), .bool r1ug.f2], i6 r1uh, .bool r1ui])] (fun a1uq h1ur => ?_)
     refine WL.oq h1ur rfl ?_
     refine owp_nw (fun g_ => (pt g_)) (.cells ([.string (mkS []), .string (mkS []), .bool false] : List Value).toArray 52 (0, 0)) h1ur rfl hS1up (fun a1us W1uu g1uv h1ut hS1uw => ?_)
     refine WL.oq h1ut rfl ?_
     refine owp_st 0 [.string (mkS r1ug.f0), .string (mkS r1ug.f1), .bool r1ug.f2] h1ut rfl rfl rfl hS1uw [.string (mkS r1ug.f0), .string (mkS r1ug.f1), .bool r1ug.f2] (fun a1ux W1uz h1uy hS1v0 => ?_)
     refine WL.bl 2 12 h1uy [(17, .bool r1ui), (16, i6 r1uh)] (fun a1v1 h1v2 => ?_)
     refine WL.dn ?_
     refine wp_seq ?_
     refine wp_seq ?_
     refine WL.start ?_
     refine WL.bl 1 1 h1v2 [(64, .bool r1ui)] (fun a1v3 h1v4 => ?_)
     refine WL.dn ?_
     clear h1u7 a1u6 h1ub a1ua h1ud a1uc h1un a1um h1ur a1uq h1ut a1us h1uy a1ux h1v2 a1v1
     by_cases c1v5 : r1ui = true
     ·rw [if_pos c1v5] at H
      have hb_ : r1ui = true := c1v5
      try rw [hb_] at h1v4
      clear hb_
      refine wp_then h1v4 rfl ?_
      refine WL.start ?_
      refine WL.bl 1 1 h1v4 [(65, pt g1ko)] (fun a1v6 h1v7 => ?_)
      have hS1v8 := hS1v0.b2
      refine WL.oq h1v7 rfl ?_
      refine owp_rn (.agg #[.slice A0q0 p0.f0.f0.length c0q0, i6 p0.f0.f1]) h1v7 rfl (run_loadN rfl rfl Tryd.underlying43 rfl (cs := [.slice A0q0 p0.f0.f0.length c0q0, i6 p0.f0.f1]) (by kernel_rfl) (hS1v8.cells (vs := [.slice A0q0 p0.f0.f0.length c0q0, i6 p0.f0.f1]) rfl)) (fun a1v9 h1va => ?_)
      have hS1vb := hS1v8.b1
      refine WL.oq h1va rfl ?_
      refine owp_rn (.agg #[.string (mkS r1ug.f0), .string (mkS r1ug.f1), .bool r1ug.f2]) h1va rfl (run_loadN rfl rfl Tryd.underlying52 rfl (cs := [.string (mkS r1ug.f0), .string (mkS r1ug.f1), .bool r1ug.f2]) (by kernel_rfl) (hS1vb.cells (vs := [.string (mkS r1ug.f0), .string (mkS r1ug.f1), .bool r1ug.f2]) rfl)) (fun a1vc h1vd => ?_)
      have hS1ve := hS1vb.b2
      obtain ⟨r1vg, A1vf, H⟩ := bind1 H
      refine WL.oq h1vd rfl ?_
      refine owp_call [.agg #[.slice A0q0 p0.f0.f0.length c0q0, i6 p0.f0.f1], .agg #[.string (mkS r1ug.f0), .string (mkS r1ug.f1), .bool r1ug.f2]] h1vd rfl (by kernel_rfl) rfl Tryd.func48 (by kernel_rfl) rfl (by kernel_rfl) (louverref05qT_Add.calls (p0 := (⟨p0.f0.f0, p0.f0.f1⟩ : S43)) (p1 := (⟨r1ug.f0, r1ug.f1, r1ug.f2⟩ : S52)) k hp0q0.rds A1vf (hS1ve.pool)) (fun e1vi W1vh hp1vj => ?_)
      obtain ⟨v1vm, M1vn, rfl, hr1vo, hS1vp⟩ := hp1vj
      have hS1vq : St b w0 W1vh R (M0q0 :: M1vn :: (bx g1uv 52 [.string (mkS r1ug.f0), .string (mkS r1ug.f1), .bool r1ug.f2]) :: (bx g1ko 45 [.slice A0q0 p0.f0.f0.length c0q0, i6 p0.f0.f1, i6 p0.f1]) :: (bx g1l0 45 [.slice none 0 0, i6 0, i6 0]) :: (bx g1kt 52 [.string (mkS []), .string (mkS []), .bool false]) :: Fs) := hS1vp.unpool
      replace hr1vo : Row k52 52 b w0 R v1vm r1vg.f0 M1vn := hr1vo.ind k52qind
      refine ⟨_, rfl, fun a1vk h1vl => ?_⟩
      obtain ⟨A1vr, c1vs, rfl⟩ := hr1vo.form
      refine WL.bl 1 5 h1vl [(69, pt g1ko)] (fun a1vt h1vu => ?_)
      have hS1vv := hS1vq.b3
      refine WL.oq h1vu rfl ?_
      refine owp_st 0 [.slice A1vr r1vg.f0.length c1vs, i6 r1vg.f1] h1vu rfl rfl rfl hS1vv [.slice A1vr r1vg.f0.length c1vs, i6 r1vg.f1, i6 p0.f1] (fun a1vw W1vy h1vx hS1vz => ?_)
      refine WL.dn ?_
      refine wp_seq ?_
      refine WT.start 8 (fun w_ => (∀ j_ u_, ([.string (mkS r1ug.f0), .string (mkS r1ug.f1), .bool r1ug.f2] : List Value)[j_]? = some u_ → w_.cell? ((⟨g1uv, 0, none⟩ : Addr).add j_) = some u_) ∧ (∀ j_ u_, ([.slice A1vr r1vg.f0.length c1vs, i6 r1vg.f1, i6 p0.f1] : List Value)[j_]? = some u_ → w_.cell? ((⟨g1ko, 0, none⟩ : Addr).add j_) = some u_) ∧ True) (by kernel_rfl) #[false, false, false, false, false, false, false, false] 8 rfl rfl ?_
      have hS1xk := hS1vz.drew
      refine WT.tk 1 h1vx rfl rfl (i6 r1uh) (fun _ _ => by kernel_rfl) ⟨(hS1xk.b3.cells (vs := [.string (mkS r1ug.f0), .string (mkS r1ug.f1), .bool r1ug.f2]) rfl), (hS1xk.cells (vs := [.slice A1vr r1vg.f0.length c1vs, i6 r1vg.f1, i6 p0.f1]) rfl), trivial⟩ (fun a1xl s1xn h1xm => ?_)
      refine WT.tk 3 h1xm rfl rfl (.bool true) (fun _ _ => by kernel_rfl) s1xn (fun a1xo s1xq h1xp => ?_)
      refine WT.tk 0 h1xp rfl rfl (.agg #[.string (mkS r1ug.f0), .string (mkS r1ug.f1), .bool r1ug.f2]) (fun w_ hs_ => (run_loadN rfl rfl Tryd.underlying52 rfl (cs := [.string (mkS r1ug.f0), .string (mkS r1ug.f1), .bool r1ug.f2]) (by kernel_rfl) hs_.1)) s1xq (fun a1xr s1xt h1xs => ?_)
      refine WT.tk 2 h1xs rfl rfl (.agg #[.slice A1vr r1vg.f0.length c1vs, i6 r1vg.f1, i6 p0.f1]) (fun w_ hs_ => (run_loadN rfl rfl Tryd.underlying45 rfl (cs := [.slice A1vr r1vg.f0.length c1vs, i6 r1vg.f1, i6 p0.f1]) (by kernel_rfl) hs_.2.1)) s1xt (fun a1xu s1xw h1xv => ?_)
      have hS1xx := hS1xk.b5
      refine WT.o1 4 h1xv rfl ?_
      refine owp_st 0 [.string (mkS r1ug.f0), .string (mkS r1ug.f1), .bool r1ug.f2] h1xv rfl rfl rfl hS1xx [.string (mkS r1ug.f0), .string (mkS r1ug.f1), .bool r1ug.f2] (fun a1xy W1y0 h1xz hS1y1 => ?_)
      refine ⟨.inr ⟨(hS1y1.b4.cells (vs := [.string (mkS r1ug.f0), .string (mkS r1ug.f1), .bool r1ug.f2]) rfl), (hS1y1.b1.cells (vs := [.slice A1vr r1vg.f0.length c1vs, i6 r1vg.f1, i6 p0.f1]) rfl), trivial⟩, ?_⟩
      refine WT.tk 5 h1xz rfl rfl (i6 r1uh) (fun _ _ => by kernel_rfl) ⟨(hS1y1.b4.cells (vs := [.string (mkS r1ug.f0), .string (mkS r1ug.f1), .bool r1ug.f2]) rfl), (hS1y1.b1.cells (vs := [.slice A1vr r1vg.f0.length c1vs, i6 r1vg.f1, i6 p0.f1]) rfl), trivial⟩ (fun a1y2 s1y4 h1y3 => ?_)
      clear h1v4 a1v3 h1v7 a1v6 h1va a1v9 h1vd a1vc h1vl a1vk h1vu a1vt h1vx a1vw h1xm a1xl h1xp a1xo h1xs a1xr h1xv a1xu h1xz a1xy
      have hS1y5 := hS1y1.b5
      refine WT.o1 6 h1y3 rfl ?_
      refine owp_st 0 [.slice A1vr r1vg.f0.length c1vs, i6 r1vg.f1, i6 p0.f1] h1y3 rfl rfl rfl hS1y5 [.slice A1vr r1vg.f0.length c1vs, i6 r1vg.f1, i6 p0.f1] (fun a1y6 W1y8 h1y7 hS1y9 => ?_)
      refine ⟨.inr ⟨(hS1y9.b5.cells (vs := [.string (mkS r1ug.f0), .string (mkS r1ug.f1), .bool r1ug.f2]) rfl), (hS1y9.b2.cells (vs := [.slice A1vr r1vg.f0.length c1vs, i6 r1vg.f1, i6 p0.f1]) rfl), trivial⟩, ?_⟩
      refine WT.tk 7 h1y7 rfl rfl (.bool true) (fun _ _ => by kernel_rfl) ⟨(hS1y9.b5.cells (vs := [.string (mkS r1ug.f0), .string (mkS r1ug.f1), .bool r1ug.f2]) rfl), (hS1y9.b2.cells (vs := [.slice A1vr r1vg.f0.length c1vs, i6 r1vg.f1, i6 p0.f1]) rfl), trivial⟩ (fun a1ya s1yc h1yb => ?_)
      refine WT.dn ?_
      refine wp_ret ?_
      have hS1yd := hS1y9.drop_
      have hS1ye := hS1yd.drop_
      have hS1yf := hS1ye.drop_
      have hS1yg := hS1yf.b2
      have hS1yh := hS1yg.drop_
      have hS1yi := hS1yh.b1
      obtain ⟨rfl, rfl, rfl, rfl⟩ := ret4 H
      repeat (first | with_reducible refine t1 ?_ | with_reducible refine t2 ?_ | with_reducible refine t3 ?_)
      refine body_ret (v := .tuple #[.agg #[.string (mkS r1ug.f0), .string (mkS r1ug.f1), .bool r1ug.f2], i6 r1uh, .agg #[.slice A1vr r1vg.f0.length c1vs, i6 r1vg.f1, i6 p0.f1], .bool true]) h1yb (by kernel_rfl) (res_many (xs := [ResultVar.cell 6 52, ResultVar.tmp 7, ResultVar.cell 8 45, ResultVar.tmp 9]) rfl ⟨⟨_, rfl, loadVarN Tryd.underlying52 rfl (cs := [.string (mkS r1ug.f0), .string (mkS r1ug.f1), .bool r1ug.f2]) (by kernel_rfl) ((hS1y9.bring 1 rfl rfl).cells (vs := [.string (mkS r1ug.f0), .string (mkS r1ug.f1), .bool r1ug.f2]) rfl)⟩, rfl, ⟨_, rfl, loadVarN Tryd.underlying45 rfl (cs := [.slice A1vr r1vg.f0.length c1vs, i6 r1vg.f1, i6 p0.f1]) (by kernel_rfl) (hS1y9.cells (vs := [.slice A1vr r1vg.f0.length c1vs, i6 r1vg.f1, i6 p0.f1]) rfl)⟩, rfl, trivial⟩ rfl) ?_
      exact ⟨.slice A1vr r1vg.f0.length c1vs, rfl, .inr ⟨M1vn, hr1vo, hS1yi⟩⟩
     ·rw [if_neg c1v5] at H
      have hb_ : r1ui = false := (Bool.eq_false_iff.2 c1v5)
      try rw [hb_] at h1v4
      clear hb_
      refine wp_else h1v4 rfl ?_
      refine wp_skip ?_
      refine wp_seq ?_
      refine WT.start 8 (fun w_ => (∀ j_ u_, ([.string (mkS r1ug.f0), .string (mkS r1ug.f1), .bool r1ug.f2] : List Value)[j_]? = some u_ → w_.cell? ((⟨g1uv, 0, none⟩ : Addr).add j_) = some u_) ∧ (∀ j_ u_, ([.slice A0q0 p0.f0.f0.length c0q0, i6 p0.f0.f1, i6 p0.f1] : List Value)[j_]? = some u_ → w_.cell? ((⟨g1ko, 0, none⟩ : Addr).add j_) = some u_) ∧ True) (by kernel_rfl) #[false, false, false, false, false, false, false, false] 8 rfl rfl ?_
      have hS203 := hS1v0.drew
      refine WT.tk 1 h1v4 rfl rfl (i6 r1uh) (fun _ _ => by kernel_rfl) ⟨(hS203.cells (vs := [.string (mkS r1ug.f0), .string (mkS r1ug.f1), .bool r1ug.f2]) rfl), (hS203.b2.cells (vs := [.slice A0q0 p0.f0.f0.length c0q0, i6 p0.f0.f1, i6 p0.f1]) rfl), trivial⟩ (fun a204 s206 h205 => ?_)
      refine WT.tk 3 h205 rfl rfl (.bool false) (fun _ _ => by kernel_rfl) s206 (fun a207 s209 h208 => ?_)
      refine WT.tk 0 h208 rfl rfl (.agg #[.string (mkS r1ug.f0), .string (mkS r1ug.f1), .bool r1ug.f2]) (fun w_ hs_ => (run_loadN rfl rfl Tryd.underlying52 rfl (cs := [.string (mkS r1ug.f0), .string (mkS r1ug.f1), .bool r1ug.f2]) (by kernel_rfl) hs_.1)) s209 (fun a20a s20c h20b => ?_)
      refine WT.tk 2 h20b rfl rfl (.agg #[.slice A0q0 p0.f0.f0.length c0q0, i6 p0.f0.f1, i6 p0.f1]) (fun w_ hs_ => (run_loadN rfl rfl Tryd.underlying45 rfl (cs := [.slice A0q0 p0.f0.f0.length c0q0, i6 p0.f0.f1, i6 p0.f1]) (by kernel_rfl) hs_.2.1)) s20c (fun a20d s20f h20e => ?_)
      have hS20g := hS203.b4
      refine WT.o1 4 h20e rfl ?_
      refine owp_st 0 [.string (mkS r1ug.f0), .string (mkS r1ug.f1), .bool r1ug.f2] h20e rfl rfl rfl hS20g [.string (mkS r1ug.f0), .string (mkS r1ug.f1), .bool r1ug.f2] (fun a20h W20j h20i hS20k => ?_)
      refine ⟨.inr ⟨(hS20k.b1.cells (vs := [.string (mkS r1ug.f0), .string (mkS r1ug.f1), .bool r1ug.f2]) rfl), (hS20k.b3.cells (vs := [.slice A0q0 p0.f0.f0.length c0q0, i6 p0.f0.f1, i6 p0.f1]) rfl), trivial⟩, ?_⟩
      refine WT.tk 5 h20i rfl rfl (i6 r1uh) (fun _ _ => by kernel_rfl) ⟨(hS20k.b1.cells (vs := [.string (mkS r1ug.f0), .string (mkS r1ug.f1), .bool r1ug.f2]) rfl), (hS20k.b3.cells (vs := [.slice A0q0 p0.f0.f0.length c0q0, i6 p0.f0.f1, i6 p0.f1]) rfl), trivial⟩ (fun a20l s20n h20m => ?_)
      have hS20o := hS20k.b4
      refine WT.o1 6 h20m rfl ?_
      refine owp_st 0 [.slice A0q0 p0.f0.f0.length c0q0, i6 p0.f0.f1, i6 p0.f1] h20m rfl rfl rfl hS20o [.slice A0q0 p0.f0.f0.length c0q0, i6 p0.f0.f1, i6 p0.f1] (fun a20p W20r h20q hS20s => ?_)
      refine ⟨.inr ⟨(hS20s.b2.cells (vs := [.string (mkS r1ug.f0), .string (mkS r1ug.f1), .bool r1ug.f2]) rfl), (hS20s.b4.cells (vs := [.slice A0q0 p0.f0.f0.length c0q0, i6 p0.f0.f1, i6 p0.f1]) rfl), trivial⟩, ?_⟩
      refine WT.tk 7 h20q rfl rfl (.bool false) (fun _ _ => by kernel_rfl) ⟨(hS20s.b2.cells (vs := [.string (mkS r1ug.f0), .string (mkS r1ug.f1), .bool r1ug.f2]) rfl), (hS20s.b4.cells (vs := [.slice A0q0 p0.f0.f0.length c0q0, i6 p0.f0.f1, i6 p0.f1]) rfl), trivial⟩ (fun a20t s20v h20u => ?_)
      refine WT.dn ?_
      refine wp_ret ?_
      have hS20w := hS20s.drop_
      have hS20x := hS20w.drop_
      have hS20y := hS20x.drop_
      have hS20z := hS20y.b1
      have hS210 := hS20z.drop_
      obtain ⟨rfl, rfl, rfl, rfl⟩ := ret4 H
      repeat (first | with_reducible refine t1 ?_ | with_reducible refine t2 ?_ | with_reducible refine t3 ?_)
      refine body_ret (v := .tuple #[.agg #[.string (mkS r1ug.f0), .string (mkS r1ug.f1), .bool r1ug.f2], i6 r1uh, .agg #[.slice A0q0 p0.f0.f0.length c0q0, i6 p0.f0.f1, i6 p0.f1], .bool false]) h20u (by kernel_rfl) (res_many (xs := [ResultVar.cell 6 52, ResultVar.tmp 7, ResultVar.cell 8 45, ResultVar.tmp 9]) rfl ⟨⟨_, rfl, loadVarN Tryd.underlying52 rfl (cs := [.string (mkS r1ug.f0), .string (mkS r1ug.f1), .bool r1ug.f2]) (by kernel_rfl) ((hS20s.bring 1 rfl rfl).cells (vs := [.string (mkS r1ug.f0), .string (mkS r1ug.f1), .bool r1ug.f2]) rfl)⟩, rfl, ⟨_, rfl, loadVarN Tryd.underlying45 rfl (cs := [.slice A0q0 p0.f0.f0.length c0q0, i6 p0.f0.f1, i6 p0.f1]) (by kernel_rfl) (hS20s.cells (vs := [.slice A0q0 p0.f0.f0.length c0q0, i6 p0.f0.f1, i6 p0.f1]) rfl)⟩, rfl, trivial⟩ rfl) ?_
      exact ⟨.slice A0q0 p0.f0.f0.length c0q0, rfl, .inl ⟨rfl, rfl, hS210⟩⟩
    ·rw [if_neg c1u8] at H
     have hb_ : (decide (r1lm = 1)) = false := decide_eq_false c1u8
     try rw [hb_] at h1u7
     clear hb_
     refine wp_else h1u7 rfl ?_
     refine wp_skip ?_
     refine wp_seq ?_
     refine WL.start ?_
     have hS211 := hS1ls.b2
     refine WL.oq h1u7 rfl ?_
     refine owp_rn (.agg #[.slice A0q0 p0.f0.f0.length c0q0, i6 p0.f0.f1, i6 p0.f1]) h1u7 rfl (run_loadN rfl rfl Tryd.underlying45 rfl (cs := [.slice A0q0 p0.f0.f0.length c0q0, i6 p0.f0.f1, i6 p0.f1]) (by kernel_rfl) (hS211.cells (vs := [.slice A0q0 p0.f0.f0.length c0q0, i6 p0.f0.f1, i6 p0.f1]) rfl)) (fun a212 h213 => ?_)
     refine WL.bl 2 3 h213 [(77, i6 p2), (76, .slice A1 p1.length c1)] (fun a214 h215 => ?_)
     have hS216 := hS211.b3
     obtain ⟨r218, r219, r21a, A217, H⟩ := bind3 H
     refine WL.oq h215 rfl ?_
     refine owp_call [.agg #[.slice A0q0 p0.f0.f0.length c0q0, i6 p0.f0.f1, i6 p0.f1], .slice A1 p1.length c1, i6 p2, i6 4] h215 rfl (by kernel_rfl) rfl Tryd.func47 (by kernel_rfl) rfl (by kernel_rfl) (louverref06qD_literal.calls (p0 := (⟨(⟨p0.f0.f0, p0.f0.f1⟩ : S43), p0.f1⟩ : S45)) k hp0q0.rds (hp1.mono (fun _ hp_ => List.mem_append_right _ hp_)) A217 (hS216.pool)) (fun e21c W21b hp21d => ?_)
     obtain ⟨rfl, hS21g⟩ := hp21d
     have hS21h : St b w0 W21b R (M0q0 :: (bx g1ko 45 [.slice A0q0 p0.f0.f0.length c0q0, i6 p0.f0.f1, i6 p0.f1]) :: (bx g1l0 45 [.slice none 0 0, i6 0, i6 0]) :: (bx g1kt 52 [.string (mkS []), .string (mkS []), .bool false]) :: Fs) := hS21g.unpool
     refine ⟨_, rfl, fun a21e h21f => ?_⟩
     refine WL.bl 4 8 h21f [(81, .bool r21a), (80, i6 r219), (79, .agg #[.string (mkS r218.f0), .string (mkS r218.f1), .bool r218.f2]), (74, .tuple #[.agg #[.string (mkS r218.f0), .string (mkS r218.f1), .bool r218.f2], i6 r219, .bool r21a])] (fun a21i h21j => ?_)
     refine WL.oq h21j rfl ?_
     refine owp_nw (fun g_ => (pt g_)) (.cells ([.string (mkS []), .string (mkS []), .bool false] : List Value).toArray 52 (0, 0)) h21j rfl hS21h (fun a21k W21m g21n h21l hS21o => ?_)
     refine WL.oq h21l rfl ?_
     refine owp_st 0 [.string (mkS r218.f0), .string (mkS r218.f1), .bool r218.f2] h21l rfl rfl rfl hS21o [.string (mkS r218.f0), .string (mkS r218.f1), .bool r218.f2] (fun a21p W21r h21q hS21s => ?_)
     refine WL.bl 2 12 h21q [(20, .bool r21a), (19, i6 r219)] (fun a21t h21u => ?_)
     refine WL.dn ?_
     refine wp_seq ?_
     refine WL.start ?_
     refine WL.bl 2 2 h21u [(83, i6 p2), (82, .slice A1 p1.length c1)] (fun a21v h21w => ?_)
     have hi21z : 0 ≤ p2 := by first | assumption | omega
     have hi220 : p2 < (p1.length : Int) := by first | assumption | omega
     obtain ⟨ad21x, _, ha21y, -, -⟩ := Rds.elemAny hp1 hi21z (gt_get (z := (0 : Int)) hi21z hi220)
     refine WL.oq h21w rfl ?_
     refine owp_rn (.pointer (some (ad21x.add (p2.toNat * 1)))) h21w rfl (run_idx (ad := ad21x) (sz := 1) rfl (by rw [← ha21y]; rfl) rfl Tryd.underlying22 (by kernel_rfl) hi21z hi220) (fun a221 h222 => ?_)
     obtain ⟨ad223, cs224, ha225, hr227, hc226⟩ := Rds.elemAny hp1 hi21z (gt_get (z := (0 : Int)) hi21z hi220)
     rw [ha21y] at ha225; obtain rfl := Option.some.inj ha225
     obtain rfl : cs224 = [.int .u8 (gt (0 : Int) p1 p2)] := hr227
     refine WL.oq h222 rfl ?_
     refine owp_rn (.int .u8 (gt (0 : Int) p1 p2)) h222 rfl (run_load1 rfl rfl Tryd.underlying5 rfl (cell0 (hc226 _ (fun _ _ hk_ => hS21s.kn hk_)))) (fun a228 h229 => ?_)
     obtain ⟨r22b, A22a, H⟩ := bind1 H
     refine WL.oq h229 rfl ?_
     refine owp_call [.int .u8 (gt (0 : Int) p1 p2)] h229 rfl (by kernel_rfl) rfl Tryd.func31 (by kernel_rfl) rfl (by kernel_rfl) (louverref06qkind.calls  A22a hS21s) (fun e22d W22c hp22e => ?_)
     obtain ⟨rfl, hS22h⟩ := hp22e
     refine ⟨_, rfl, fun a22f h22g => ?_⟩
     refine WL.bl 2 7 h22g [(88, .pointer (some ⟨g21n, 2, none⟩)), (87, .bool (decide (r22b = 3)))] (fun a22i h22j => ?_)
     clear h1u7 a1u6 h213 a212 h215 a214 h21f a21e h21j a21i h21l a21k h21q a21p h21u a21t h21w a21v h222 a221 h229 a228 h22g a22f
     refine WL.oq h22j rfl ?_
     refine owp_st 2 [.bool (decide (r22b = 3))] h22j rfl rfl rfl hS22h [.string (mkS r218.f0), .string (mkS r218.f1), .bool (decide (r22b = 3))] (fun a22k W22m h22l hS22n => ?_)
     refine WL.dn ?_
     refine wp_seq ?_
     refine WT.start 8 (fun w_ => (∀ j_ u_, ([.string (mkS r218.f0), .string (mkS r218.f1), .bool (decide (r22b = 3))] : List Value)[j_]? = some u_ → w_.cell? ((⟨g21n, 0, none⟩ : Addr).add j_) = some u_) ∧ (∀ j_ u_, ([.slice A0q0 p0.f0.f0.length c0q0, i6 p0.f0.f1, i6 p0.f1] : List Value)[j_]? = some u_ → w_.cell? ((⟨g1ko, 0, none⟩ : Addr).add j_) = some u_) ∧ True) (by kernel_rfl) #[false, false, false, false, false, false, false, false] 8 rfl rfl ?_
     have hS248 := hS22n.drew
     refine WT.tk 1 h22l rfl rfl (i6 r219) (fun _ _ => by kernel_rfl) ⟨(hS248.cells (vs := [.string (mkS r218.f0), .string (mkS r218.f1), .bool (decide (r22b = 3))]) rfl), (hS248.b2.cells (vs := [.slice A0q0 p0.f0.f0.length c0q0, i6 p0.f0.f1, i6 p0.f1]) rfl), trivial⟩ (fun a249 s24b h24a => ?_)
     refine WT.tk 3 h24a rfl rfl (.bool r21a) (fun _ _ => by kernel_rfl) s24b (fun a24c s24e h24d => ?_)
     refine WT.tk 0 h24d rfl rfl (.agg #[.string (mkS r218.f0), .string (mkS r218.f1), .bool (decide (r22b = 3))]) (fun w_ hs_ => (run_loadN rfl rfl Tryd.underlying52 rfl (cs := [.string (mkS r218.f0), .string (mkS r218.f1), .bool (decide (r22b = 3))]) (by kernel_rfl) hs_.1)) s24e (fun a24f s24h h24g => ?_)
     refine WT.tk 2 h24g rfl rfl (.agg #[.slice A0q0 p0.f0.f0.length c0q0, i6 p0.f0.f1, i6 p0.f1]) (fun w_ hs_ => (run_loadN rfl rfl Tryd.underlying45 rfl (cs := [.slice A0q0 p0.f0.f0.length c0q0, i6 p0.f0.f1, i6 p0.f1]) (by kernel_rfl) hs_.2.1)) s24h (fun a24i s24k h24j => ?_)
     have hS24l := hS248.b4
     refine WT.o1 4 h24j rfl ?_
     refine owp_st 0 [.string (mkS r218.f0), .string (mkS r218.f1), .bool (decide (r22b = 3))] h24j rfl rfl rfl hS24l [.string (mkS r218.f0), .string (mkS r218.f1), .bool (decide (r22b = 3))] (fun a24m W24o h24n hS24p => ?_)
     refine ⟨.inr ⟨(hS24p.b1.cells (vs := [.string (mkS r218.f0), .string (mkS r218.f1), .bool (decide (r22b = 3))]) rfl), (hS24p.b3.cells (vs := [.slice A0q0 p0.f0.f0.length c0q0, i6 p0.f0.f1, i6 p0.f1]) rfl), trivial⟩, ?_⟩
     refine WT.tk 5 h24n rfl rfl (i6 r219) (fun _ _ => by kernel_rfl) ⟨(hS24p.b1.cells (vs := [.string (mkS r218.f0), .string (mkS r218.f1), .bool (decide (r22b = 3))]) rfl), (hS24p.b3.cells (vs := [.slice A0q0 p0.f0.f0.length c0q0, i6 p0.f0.f1, i6 p0.f1]) rfl), trivial⟩ (fun a24q s24s h24r => ?_)
     have hS24t := hS24p.b4
     refine WT.o1 6 h24r rfl ?_
     refine owp_st 0 [.slice A0q0 p0.f0.f0.length c0q0, i6 p0.f0.f1, i6 p0.f1] h24r rfl rfl rfl hS24t [.slice A0q0 p0.f0.f0.length c0q0, i6 p0.f0.f1, i6 p0.f1] (fun a24u W24w h24v hS24x => ?_)
     refine ⟨.inr ⟨(hS24x.b2.cells (vs := [.string (mkS r218.f0), .string (mkS r218.f1), .bool (decide (r22b = 3))]) rfl), (hS24x.b4.cells (vs := [.slice A0q0 p0.f0.f0.length c0q0, i6 p0.f0.f1, i6 p0.f1]) rfl), trivial⟩, ?_⟩
     refine WT.tk 7 h24v rfl rfl (.bool r21a) (fun _ _ => by kernel_rfl) ⟨(hS24x.b2.cells (vs := [.string (mkS r218.f0), .string (mkS r218.f1), .bool (decide (r22b = 3))]) rfl), (hS24x.b4.cells (vs := [.slice A0q0 p0.f0.f0.length c0q0, i6 p0.f0.f1, i6 p0.f1]) rfl), trivial⟩ (fun a24y s250 h24z => ?_)
     refine WT.dn ?_
     refine wp_ret ?_
     have hS251 := hS24x.drop_
     have hS252 := hS251.drop_
     have hS253 := hS252.drop_
     have hS254 := hS253.b1
     have hS255 := hS254.drop_
     obtain ⟨rfl, rfl, rfl, rfl⟩ := ret4 H
     repeat (first | with_reducible refine t1 ?_ | with_reducible refine t2 ?_ | with_reducible refine t3 ?_)
     refine body_ret (v := .tuple #[.agg #[.string (mkS r218.f0), .string (mkS r218.f1), .bool (decide (r22b = 3))], i6 r219, .agg #[.slice A0q0 p0.f0.f0.length c0q0, i6 p0.f0.f1, i6 p0.f1], .bool r21a]) h24z (by kernel_rfl) (res_many (xs := [ResultVar.cell 6 52, ResultVar.tmp 7, ResultVar.cell 8 45, ResultVar.tmp 9]) rfl ⟨⟨_, rfl, loadVarN Tryd.underlying52 rfl (cs := [.string (mkS r218.f0), .string (mkS r218.f1), .bool (decide (r22b = 3))]) (by kernel_rfl) ((hS24x.bring 1 rfl rfl).cells (vs := [.string (mkS r218.f0), .string (mkS r218.f1), .bool (decide (r22b = 3))]) rfl)⟩, rfl, ⟨_, rfl, loadVarN Tryd.underlying45 rfl (cs := [.slice A0q0 p0.f0.f0.length c0q0, i6 p0.f0.f1, i6 p0.f1]) (by kernel_rfl) (hS24x.cells (vs := [.slice A0q0 p0.f0.f0.length c0q0, i6 p0.f0.f1, i6 p0.f1]) rfl)⟩, rfl, trivial⟩ rfl) ?_
     exact ⟨.slice A0q0 p0.f0.f0.length c0q0, rfl, .inl ⟨rfl, rfl, hS255⟩⟩
  ·rw [if_neg c1l7] at H
   cases H
 ·rw [if_neg c1l6] at H
  cases H

theorem k45qop {b : Nat} {w0 W : World} {R : Frag} {Ms : List Frag} {v : Value} {M : Frag} {y0 : (List S52)} {y1 : Int} {y2 : Int} (h : Ptr k45 45 b w0 R v (⟨(⟨y0, y1⟩ : S43), y2⟩ : S45) M) (hS : St b w0 W R (M :: Ms)) : ∃ (g : Nat) (A0 : Option Addr) (c0 : Nat) (M0 : Frag), v = (pt g) ∧ Row k52 52 b w0 R (.slice A0 y0.length c0) y0 M0 ∧ St b w0 W R ((bx g 45 [.slice A0 y0.length c0, i6 y1, i6 y2]) :: M0 :: Ms) := by
 obtain ⟨g, cs, Mx, rfl, rfl, hr⟩ := h
 obtain ⟨v0, M0, rfl, hM2q, h0⟩ := k45qrep hr
 rw [hM2q] at hS
 obtain ⟨A0, c0, rfl⟩ := h0.form
 exact ⟨g, A0, c0, M0, rfl, h0, hS.assoc (by simp only [List.flatten_cons, List.append_assoc, List.cons_append, List.nil_append, List.append_nil])⟩
theorem k45qoq {b : Nat} {w0 W : World} {R : Frag} {Ms : List Frag} {g : Nat} {M : Frag} {y0 : (List S52)} {y1 : Int} {y2 : Int} (h : Ptr k45 45 b w0 R (pt g) (⟨(⟨y0, y1⟩ : S43), y2⟩ : S45) M) (hS : St b w0 W R (M :: Ms)) : ∃ (A0 : Option Addr) (c0 : Nat) (M0 : Frag), Row k52 52 b w0 R (.slice A0 y0.length c0) y0 M0 ∧ St b w0 W R ((bx g 45 [.slice A0 y0.length c0, i6 y1, i6 y2]) :: M0 :: Ms) := by
 obtain ⟨g', A0, c0, M0, hv, h0, hS'⟩ := k45qop h hS
 obtain rfl : g = g' := by simpa using hv
 exact ⟨A0, c0, M0, h0, hS'⟩
theorem k45qfo {b : Nat} {w0 W : World} {R : Frag} {Ms : List Frag} {g : Nat} {y0 : (List S52)} {y1 : Int} {y2 : Int} {A0 : Option Addr} {c0 : Nat} {M0 : Frag} (x : S45) (h0 : Row k52 52 b w0 R (.slice A0 y0.length c0) y0 M0) (hS : St b w0 W R ((bx g 45 [.slice A0 y0.length c0, i6 y1, i6 y2]) :: M0 :: Ms)) (hx : x = (⟨(⟨y0, y1⟩ : S43), y2⟩ : S45) := by rfl) : ∃ M, Ptr k45 45 b w0 R (pt g) x M ∧ St b w0 W R (M :: Ms) := by
 subst hx
 obtain ⟨M, hr, hM⟩ := k45qmk (b := b) (w0 := w0) (R := R) (x := (⟨(⟨y0, y1⟩ : S43), y2⟩ : S45)) (gvf0f0 := h0)
 exact ⟨_, ⟨g, _, M, rfl, rfl, hr⟩, hS.assoc (by rw [hM]; simp only [List.flatten_cons, List.append_assoc, List.cons_append, List.nil_append, List.append_nil])⟩
/-! ### (louver/louverref06.D).Get -/
def louverref06qD_Get.l0 : Nat → S45 → S45 → (List S52) → Int → Int → (List Int) → Option ((List S52) × S45 × Int)
 | 0, _, _, _, _, _, _ => none
 | k + 1, x3cp, x3cs, x3cv, x3d0, x3d1, p1 => if x3d0 < (p1.length : Int) then (if 0 ≤ x3d0 then (bnd1 (louverref06qkind.f (gt (0 : Int) p1 x3d0)) fun r3e1 => (if r3e1 = 2 then (if x3d0 ≤ (p1.length : Int) then (bnd3 (louverref02qGet.f k (p1.drop x3d0.toNat) 5) fun r3em r3en r3eo => (if r3eo = 0 then (if (x3cv.length : Int) > 0 then (some (([] : List S52), (⟨(⟨x3cp.f0.f0, x3cp.f0.f1⟩ : S43), x3cp.f1⟩ : S45), 9)) else (if (IntKind.i64.wrap r3em) > x3cp.f1 then (some (([] : List S52), (⟨(⟨x3cp.f0.f0, x3cp.f0.f1⟩ : S43), x3cp.f1⟩ : S45), 9)) else (bnd1 (louverref05qT_Limit.f k (⟨x3cp.f0.f0, x3cp.f0.f1⟩ : S43) (IntKind.i64.wrap r3em)) fun r3ki => (louverref06qD_Get.l0 k (⟨(⟨r3ki.f0, r3ki.f1⟩ : S43), x3cp.f1⟩ : S45) x3cs x3cv (IntKind.i64.wrap (x3d0 + r3en)) x3d1 p1)))) else (some (([] : List S52), (⟨(⟨x3cp.f0.f0, x3cp.f0.f1⟩ : S43), x3cp.f1⟩ : S45), 9)))) else (none)) else (bnd4 (louverref06qD_field.f k (⟨(⟨x3cp.f0.f0, x3cp.f0.f1⟩ : S43), x3cp.f1⟩ : S45) p1 x3d0) fun r3oc r3od r3oe r3of => (if r3of = true then (if x3cv.length + 1 ≤ 3518437208883 then (lt1 (x3cv ++ ([(⟨r3oc.f0, r3oc.f1, r3oc.f2⟩ : S52)] : List S52) : List S52) fun y3qj => (bnd1 (louverref05qSize.f (⟨r3oc.f0, r3oc.f1, r3oc.f2⟩ : S52)) fun r3qw => (louverref06qD_Get.l0 k (⟨(⟨r3oe.f0.f0, r3oe.f0.f1⟩ : S43), r3oe.f1⟩ : S45) x3cs y3qj r3od (IntKind.i64.wrap (x3d1 + r3qw)) p1))) else (none)) else (some (([] : List S52), (⟨(⟨x3cp.f0.f0, x3cp.f0.f1⟩ : S43), x3cp.f1⟩ : S45), 9)))))) else (none)) else (if x3d1 > 4096 then (some (([] : List S52), (⟨(⟨x3cp.f0.f0, x3cp.f0.f1⟩ : S43), x3cp.f1⟩ : S45), 11)) else (some (x3cv, (⟨(⟨x3cp.f0.f0, x3cp.f0.f1⟩ : S43), x3cp.f1⟩ : S45), 0)))
def louverref06qD_Get.f (k : Nat) (p0 : S45) (p1 : (List Int)) : Option ((List S52) × S45 × Int) := louverref06qD_Get.l0 k (⟨(⟨p0.f0.f0, p0.f0.f1⟩ : S43), p0.f1⟩ : S45) (⟨(⟨([] : List S52), 0⟩ : S43), 0⟩ : S45) ([] : List S52) 0 0 p1
set_option maxHeartbeats 20000000 in
set_option maxRecDepth 100000 in
theorem louverref06qD_Get.calls (k : Nat) {b : Nat} {w0 W : World} {R : Frag} {Fs : List Frag} {p0 : S45} {p1 : (List Int)} {v0q0 : Value} {v1 : Value} {M0q0 : Frag} {r0q : (List S52)} {r1q : S45} {r2q : Int} (hp0q0 : Row k52 52 b w0 R v0q0 p0.f0.f0 M0q0) (hp1 : Rds (kInt .u8) b w0 R v1 p1) (H : louverref06qD_Get.f k p0 p1 = some (r0q, r1q, r2q)) (hS : St b w0 W R (M0q0 :: Fs)) :
  Calls Tryd.prog 20 ([.agg #[v0q0, i6 p0.f0.f1, i6 p0.f1], v1] : List Value).toArray W (fun e W' => ∃ (u0q : Value) (N0q : Frag) (u1qv1qf0f0 : Value) (Nu1qv1qf0f0 : Frag), e = .returned (.tuple #[u0q, .agg #[u1qv1qf0f0, i6 r1q.f0.f1, i6 r1q.f1], i6 r2q]) ∧ Row k52 52 b w0 R u0q r0q N0q ∧ Row k52 52 b w0 R u1qv1qf0f0 r1q.f0.f0 Nu1qv1qf0f0 ∧ St b w0 W' R (N0q :: Nu1qv1qf0f0 :: Fs)) := by
 obtain ⟨A0q0, c0q0, rfl⟩ := hp0q0.form
 obtain ⟨A1, c1, rfl⟩ := hp1.form
 unfold louverref06qD_Get.f at H
 refine calls_enter Tryd.func20 rfl 92 rfl (by kernel_rfl) (fun a h => ?_)
 refine wp_seq ?_
 refine WL.start ?_
 refine WL.oq h rfl ?_
 refine owp_nw (fun g_ => (pt g_)) (.cells ([.slice A0q0 p0.f0.f0.length c0q0, i6 p0.f0.f1, i6 p0.f1] : List Value).toArray 45 (0, 0)) h rfl hS (fun a3bm W3bo g3bp h3bn hS3bq => ?_)
 refine WL.bl 1 2 h3bn [(4, .slice none 0 0)] (fun a3br h3bs => ?_)
 refine WL.oq h3bs rfl ?_
 refine owp_nw (fun g_ => (pt g_)) (.cells ([.slice none 0 0, i6 0, i6 0] : List Value).toArray 45 (0, 0)) h3bs rfl hS3bq (fun a3bt W3bv g3bw h3bu hS3bx => ?_)
 refine WL.bl 1 4 h3bu [(6, i6 0)] (fun a3by h3bz => ?_)
 refine WL.dn ?_
 refine wp_seq ?_
 refine WL.start ?_
 refine WL.oq h3bz rfl ?_
 refine owp_nw (fun g_ => .slice (some ⟨g_, 0, none⟩) 0 0) (.cells ([] : List Value).toArray 52 (0, 0)) h3bz rfl hS3bx (fun a3c0 W3c2 g3c3 h3c1 hS3c4 => ?_)
 have hr3c5 : Row k52 52 b w0 R (.slice (some ⟨g3c3, 0, none⟩) 0 0) ([] : List S52) (bx g3c3 52 []) := Row.lit (xs := ([] : List S52)) (Mi := []) ⟨rfl, rfl⟩ (by simp [maxLen])
 refine WL.bl 1 2 h3c1 [(7, .slice (some ⟨g3c3, 0, none⟩) 0 0)] (fun a3c6 h3c7 => ?_)
 refine WL.dn ?_
 refine wp_seq ?_
 refine WL.start ?_
 refine WL.oq h3c7 rfl ?_
 refine owp_nw (fun g_ => .slice (some ⟨g_, 0, none⟩) 0 0) (.cells ([] : List Value).toArray 52 (0, 0)) h3c7 rfl hS3c4 (fun a3c8 W3ca g3cb h3c9 hS3cc => ?_)
 have hr3cd : Row k52 52 b w0 R (.slice (some ⟨g3cb, 0, none⟩) 0 0) ([] : List S52) (bx g3cb 52 []) := Row.lit (xs := ([] : List S52)) (Mi := []) ⟨rfl, rfl⟩ (by simp [maxLen])
 refine WL.bl 1 2 h3c9 [(8, .slice (some ⟨g3cb, 0, none⟩) 0 0)] (fun a3ce h3cf => ?_)
 refine WL.dn ?_
 refine wp_seq ?_
 refine WL.start ?_
 refine WL.bl 1 1 h3cf [(9, i6 0)] (fun a3cg h3ch => ?_)
 refine WL.dn ?_
 refine wp_seq ?_
 refine WL.start ?_
 refine WL.bl 1 1 h3ch [(10, i6 0)] (fun a3ci h3cj => ?_)
 refine WL.dn ?_
 refine wp_seq ?_
 refine wp_block ?_
 have hS3d2 := hS3cc.b4
 have hS3d3 := hS3d2.b4
 obtain ⟨M3d4, hp3d5, hS3d6⟩ := k45qfo (⟨(⟨p0.f0.f0, p0.f0.f1⟩ : S43), p0.f1⟩ : S45) hp0q0 hS3d3
 have hS3d7 := hS3d6.nil_
 have hS3d8 := hS3d7.b4
 obtain ⟨M3d9, hp3da, hS3db⟩ := k45qfo (⟨(⟨([] : List S52), 0⟩ : S43), 0⟩ : S45) (y0 := []) Row.nil hS3d8
 have hS3dc := hS3db.b2
 have hS3dd := hS3dc.b3
 have hS3de := hS3dd.b2
 have hS3df := hS3de.b3
 clear h3bn a3bm h3bs a3br h3bu a3bt h3bz a3by h3c1 a3c0 h3c7 a3c6 h3c9 a3c8 h3cf a3ce h3ch a3cg
 refine wp_loop_ghost (fun kq_ a_ W_ => ∃ (x3cp : S45), ∃ (M3cq : Frag), ∃ (x3cs : S45), ∃ (M3ct : Frag), ∃ (x3cv : (List S52)), ∃ (A3cw : Option Addr), ∃ (c3cx : Nat), ∃ (M3cy : Frag), ∃ (x3d0 : Int), ∃ (x3d1 : Int), Hd a_ 92 [(1, .slice A1 p1.length c1), (2, pt g3bp), (5, pt g3bw), (7, .slice (some ⟨g3c3, 0, none⟩) 0 0), (8, .slice A3cw x3cv.length c3cx), (9, i6 x3d0), (10, i6 x3d1)] ∧ Asd (louverref06qD_Get.l0 kq_ x3cp x3cs x3cv x3d0 x3d1 p1 = some (r0q, r1q, r2q)) ∧ Asd (kq_ ≤ k) ∧ Asd (St b w0 W_ R (M3cq :: M3ct :: (bx g3c3 52 []) :: M3cy :: Fs)) ∧ Asd (Ptr k45 45 b w0 R (pt g3bp) x3cp M3cq) ∧ Asd (Ptr k45 45 b w0 R (pt g3bw) x3cs M3ct) ∧ Asd (Row k52 52 b w0 R (.slice A3cw x3cv.length c3cx) x3cv M3cy)) k ⟨(⟨(⟨p0.f0.f0, p0.f0.f1⟩ : S43), p0.f1⟩ : S45), M3d4, (⟨(⟨([] : List S52), 0⟩ : S43), 0⟩ : S45), M3d9, ([] : List S52), (some ⟨g3cb, 0, none⟩), 0, (bx g3cb 52 []), 0, 0, h3cj.keep ⟨rfl, rfl, rfl, rfl, rfl, rfl, rfl, trivial⟩, ⟨H⟩, ⟨Nat.le_refl _⟩, ⟨hS3df⟩, ⟨hp3d5⟩, ⟨hp3da⟩, ⟨hr3cd⟩⟩ ?_
 clear H hS3df
 rintro kk3co a3cl W3cm ⟨x3cp, M3cq, x3cs, M3ct, x3cv, A3cw, c3cx, M3cy, x3d0, x3d1, h3ck, ⟨H⟩, ⟨hkkk3co⟩, ⟨hS3cn⟩, ⟨hr3cr⟩, ⟨hr3cu⟩, ⟨hr3cz⟩⟩
 obtain _ | kk3dg := kk3co
 ·exact absurd H (by simp [louverref06qD_Get.l0])
 simp only [louverref06qD_Get.l0] at H
 refine wp_seq ?_
 refine wp_seq ?_
 refine WL.start ?_
 refine WL.bl 4 4 h3ck [(23, .bool (decide (x3d0 < (p1.length : Int)))), (22, i6 (p1.length : Int)), (21, .slice A1 p1.length c1), (20, i6 x3d0)] (fun a3dh h3di => ?_)
 refine WL.dn ?_
 clear h3ck a3cl
 by_cases c3dj : x3d0 < (p1.length : Int)
 ·rw [if_pos c3dj] at H
  have hb_ : (decide (x3d0 < (p1.length : Int))) = true := decide_eq_true c3dj
  try rw [hb_] at h3di
  clear hb_
  refine wp_then h3di rfl ?_
  refine wp_skip ?_
  refine wp_block ?_
  refine wp_seq ?_
  refine wp_seq ?_
  refine WL.start ?_
  refine WL.bl 2 2 h3di [(25, i6 x3d0), (24, .slice A1 p1.length c1)] (fun a3dk h3dl => ?_)
  clear h3di a3dh
  by_cases c3dm : 0 ≤ x3d0
  ·rw [if_pos c3dm] at H
   have hi3dp : 0 ≤ x3d0 := by first | assumption | omega
   have hi3dq : x3d0 < (p1.length : Int) := by first | assumption | omega
   obtain ⟨ad3dn, _, ha3do, -, -⟩ := Rds.elemAny hp1 hi3dp (gt_get (z := (0 : Int)) hi3dp hi3dq)
   refine WL.oq h3dl rfl ?_
   refine owp_rn (.pointer (some (ad3dn.add (x3d0.toNat * 1)))) h3dl rfl (run_idx (ad := ad3dn) (sz := 1) rfl (by rw [← ha3do]; rfl) rfl Tryd.underlying22 (by kernel_rfl) hi3dp hi3dq) (fun a3dr h3ds => ?_)
   obtain ⟨ad3dt, cs3du, ha3dv, hr3dx, hc3dw⟩ := Rds.elemAny hp1 hi3dp (gt_get (z := (0 : Int)) hi3dp hi3dq)
   rw [ha3do] at ha3dv; obtain rfl := Option.some.inj ha3dv
   obtain rfl : cs3du = [.int .u8 (gt (0 : Int) p1 x3d0)] := hr3dx
   refine WL.oq h3ds rfl ?_
   refine owp_rn (.int .u8 (gt (0 : Int) p1 x3d0)) h3ds rfl (run_load1 rfl rfl Tryd.underlying5 rfl (cell0 (hc3dw _ (fun _ _ hk_ => hS3cn.kn hk_)))) (fun a3dy h3dz => ?_)
   obtain ⟨r3e1, A3e0, H⟩ := bind1 H
   refine WL.oq h3dz rfl ?_
   refine owp_call [.int .u8 (gt (0 : Int) p1 x3d0)] h3dz rfl (by kernel_rfl) rfl Tryd.func31 (by kernel_rfl) rfl (by kernel_rfl) (louverref06qkind.calls  A3e0 hS3cn) (fun e3e3 W3e2 hp3e4 => ?_)
   obtain ⟨rfl, hS3e7⟩ := hp3e4
   refine ⟨_, rfl, fun a3e5 h3e6 => ?_⟩
   refine WL.bl 1 6 h3e6 [(29, .bool (decide (r3e1 = 2)))] (fun a3e8 h3e9 => ?_)
   refine WL.dn ?_
   clear h3dl a3dk h3ds a3dr h3dz a3dy h3e6 a3e5
   by_cases c3ea : r3e1 = 2
   ·rw [if_pos c3ea] at H
    have hb_ : (decide (r3e1 = 2)) = true := decide_eq_true c3ea
    try rw [hb_] at h3e9
    clear hb_
    refine wp_then h3e9 rfl ?_
    refine wp_seq ?_
    refine WL.start ?_
    refine WL.bl 2 2 h3e9 [(32, i6 x3d0), (31, .slice A1 p1.length c1)] (fun a3eb h3ec => ?_)
    clear h3e9 a3e8
    by_cases c3ed : x3d0 ≤ (p1.length : Int)
    ·rw [if_pos c3ed] at H
     refine WL.oq h3ec rfl ?_
     refine owp_rn (sliced A1 x3d0.toNat (p1.length : Int).toNat c1 1) h3ec rfl (run_cut (l := x3d0) (h := (p1.length : Int)) rfl rfl Tryd.underlying22 (by kernel_rfl) ⟨_, rfl⟩ rfl (by first | assumption | omega) (by first | assumption | omega) (by have q_ := Rds.cap hp1; omega) (by have q_ := Rds.cap hp1; omega)) (fun a3ef h3eg => ?_)
     have hx3ee := Rds.cut hp1 (l := x3d0.toNat) (h := (p1.length : Int).toNat) (by omega) (by omega)
     obtain ⟨v3eh, ev3ei⟩ : ∃ y_, y_ = sliced A1 x3d0.toNat (p1.length : Int).toNat c1 1 := ⟨_, rfl⟩
     have hx_ : Rds (kInt .u8) b w0 R v3eh (p1.drop x3d0.toNat) := hx3ee.as_ ev3ei.symm (by simp)
     rw [← ev3ei] at h3eg; clear ev3ei hx3ee
     have hx3ee := hx_; clear hx_
     obtain ⟨A3ej, c3ek, rfl⟩ := hx3ee.form
     obtain ⟨r3em, r3en, r3eo, A3el, H⟩ := bind3 H
     refine WL.oq h3eg rfl ?_
     refine owp_call [.slice A3ej (p1.drop x3d0.toNat).length c3ek, i6 5] h3eg rfl (by kernel_rfl) rfl Tryd.func32 (by kernel_rfl) rfl (by kernel_rfl) (louverref02qGet.calls kk3dg hx3ee A3el hS3e7) (fun e3eq W3ep hp3er => ?_)
     obtain ⟨rfl, hS3eu⟩ := hp3er
     refine ⟨_, rfl, fun a3es h3et => ?_⟩
     refine WL.bl 7 11 h3et [(13, i6 r3eo), (12, i6 r3en), (11, .int .u32 r3em), (37, i6 r3eo), (36, i6 r3en), (35, .int .u32 r3em), (30, .tuple #[.int .u32 r3em, i6 r3en, i6 r3eo])] (fun a3ev h3ew => ?_)
     refine WL.dn ?_
     refine wp_seq ?_
     refine wp_seq ?_
     refine WL.start ?_
     refine WL.bl 3 3 h3ew [(40, .bool (!decide (r3eo = 0))), (39, .bool (!decide (r3eo = 0))), (38, i6 r3eo)] (fun a3ex h3ey => ?_)
     clear h3ec a3eb h3eg a3ef h3et a3es h3ew a3ev
     by_cases c3ez : r3eo = 0
     ·rw [if_pos c3ez] at H
      have hb_ : (decide (r3eo = 0)) = true := decide_eq_true c3ez
      try rw [hb_] at h3ey
      clear hb_
      refine WL.oq h3ey rfl (owp_rk (.slice A3cw x3cv.length c3cx) h3ey rfl (fun a3f0 h3f1 => ?_))
      refine WL.oq h3f1 rfl (owp_rk (i6 (x3cv.length : Int)) h3f1 rfl (fun a3f2 h3f3 => ?_))
      refine WL.oq h3f3 rfl (owp_rk (.bool (decide ((x3cv.length : Int) > 0))) h3f3 rfl (fun a3f4 h3f5 => ?_))
      refine WL.bl 2 8 h3f5 [(45, .bool (decide ((x3cv.length : Int) > 0))), (44, .bool (decide ((x3cv.length : Int) > 0)))] (fun a3f6 h3f7 => ?_)
      clear h3ey a3ex h3f1 a3f0 h3f3 a3f2 h3f5 a3f4
      by_cases c3f8 : (x3cv.length : Int) > 0
      ·rw [if_pos c3f8] at H
       have hb_ : (decide ((x3cv.length : Int) > 0)) = true := decide_eq_true c3f8
       try rw [hb_] at h3f7
       clear hb_
       refine WL.sk h3f7 rfl rfl (fun a3f9 h3fa => ?_)
       refine WL.sk h3fa rfl rfl (fun a3fb h3fc => ?_)
       refine WL.sk h3fc rfl rfl (fun a3fd h3fe => ?_)
       refine WL.sk h3fe rfl rfl (fun a3ff h3fg => ?_)
       refine WL.sk h3fg rfl rfl (fun a3fh h3fi => ?_)
       refine WL.bl 1 14 h3fi [(51, .bool true)] (fun a3fj h3fk => ?_)
       refine WL.dn ?_
       refine wp_then h3fk rfl ?_
       refine wp_seq ?_
       obtain ⟨A3fm, c3fn, M3fo, hr3fp, hS3fl⟩ := k45qoq hr3cr hS3eu
       refine WT.start 5 (fun w_ => (∀ j_ u_, ([.slice A3fm x3cp.f0.f0.length c3fn, i6 x3cp.f0.f1, i6 x3cp.f1] : List Value)[j_]? = some u_ → w_.cell? ((⟨g3bp, 0, none⟩ : Addr).add j_) = some u_) ∧ True) (by kernel_rfl) #[false, false, false, false, false] 5 rfl rfl ?_
       have hS3gy := hS3fl.drew
       refine WT.tk 0 h3fk rfl rfl (.slice (some ⟨g3c3, 0, none⟩) 0 0) (fun _ _ => by kernel_rfl) ⟨(hS3gy.cells (vs := [.slice A3fm x3cp.f0.f0.length c3fn, i6 x3cp.f0.f1, i6 x3cp.f1]) rfl), trivial⟩ (fun a3gz s3h1 h3h0 => ?_)
       refine WT.tk 2 h3h0 rfl rfl (.slice (some ⟨g3c3, 0, none⟩) 0 0) (fun _ _ => by kernel_rfl) s3h1 (fun a3h2 s3h4 h3h3 => ?_)
       refine WT.tk 1 h3h3 rfl rfl (.agg #[.slice A3fm x3cp.f0.f0.length c3fn, i6 x3cp.f0.f1, i6 x3cp.f1]) (fun w_ hs_ => (run_loadN rfl rfl Tryd.underlying45 rfl (cs := [.slice A3fm x3cp.f0.f0.length c3fn, i6 x3cp.f0.f1, i6 x3cp.f1]) (by kernel_rfl) hs_.1)) s3h4 (fun a3h5 s3h7 h3h6 => ?_)
       have hS3h8 := hS3gy.b2
       obtain ⟨A3ha, c3hb, M3hc, hr3hd, hS3h9⟩ := k45qoq hr3cu hS3h8
       refine WT.o1 3 h3h6 rfl ?_
       refine owp_st 0 [.slice A3fm x3cp.f0.f0.length c3fn, i6 x3cp.f0.f1, i6 x3cp.f1] h3h6 rfl rfl rfl hS3h9 [.slice A3fm x3cp.f0.f0.length c3fn, i6 x3cp.f0.f1, i6 x3cp.f1] (fun a3he W3hg h3hf hS3hh => ?_)
       refine ⟨.inr ⟨(hS3hh.b2.cells (vs := [.slice A3fm x3cp.f0.f0.length c3fn, i6 x3cp.f0.f1, i6 x3cp.f1]) rfl), trivial⟩, ?_⟩
       refine WT.tk 4 h3hf rfl rfl (i6 9) (fun _ _ => by kernel_rfl) ⟨(hS3hh.b2.cells (vs := [.slice A3fm x3cp.f0.f0.length c3fn, i6 x3cp.f0.f1, i6 x3cp.f1]) rfl), trivial⟩ (fun a3hi s3hk h3hj => ?_)
       refine WT.dn ?_
       refine wp_ret ?_
       have hS3hl := hS3hh.drop_
       have hS3hm := hS3hl.drop_
       have hS3hn := hS3hm.drop_
       have hS3ho := hS3hn.b2
       have hS3hp := hS3ho.drop_
       have hS3hq := hS3hp.b1
       obtain ⟨rfl, rfl, rfl⟩ := ret3 H
       repeat (first | with_reducible refine t1 ?_ | with_reducible refine t2 ?_ | with_reducible refine t3 ?_)
       refine body_ret (v := .tuple #[.slice (some ⟨g3c3, 0, none⟩) 0 0, .agg #[.slice A3fm x3cp.f0.f0.length c3fn, i6 x3cp.f0.f1, i6 x3cp.f1], i6 9]) h3hj (by kernel_rfl) (res_many (xs := [ResultVar.tmp 4, ResultVar.cell 5 45, ResultVar.tmp 6]) rfl ⟨rfl, ⟨_, rfl, loadVarN Tryd.underlying45 rfl (cs := [.slice A3fm x3cp.f0.f0.length c3fn, i6 x3cp.f0.f1, i6 x3cp.f1]) (by kernel_rfl) (hS3hh.cells (vs := [.slice A3fm x3cp.f0.f0.length c3fn, i6 x3cp.f0.f1, i6 x3cp.f1]) rfl)⟩, rfl, trivial⟩ rfl) ?_
       exact ⟨.slice (some ⟨g3c3, 0, none⟩) 0 0, (bx g3c3 52 []), .slice A3fm x3cp.f0.f0.length c3fn, M3fo, rfl, hr3c5, hr3fp, hS3hq⟩
      ·rw [if_neg c3f8] at H
       have hb_ : (decide ((x3cv.length : Int) > 0)) = false := decide_eq_false c3f8
       try rw [hb_] at h3f7
       clear hb_
       refine WL.oq h3f7 rfl (owp_rk (.int .u32 r3em) h3f7 rfl (fun a3hr h3hs => ?_))
       refine WL.oq h3hs rfl (owp_rk (i6 (IntKind.i64.wrap r3em)) h3hs rfl (fun a3ht h3hu => ?_))
       obtain ⟨A3hw, c3hx, M3hy, hr3hz, hS3hv⟩ := k45qoq hr3cr hS3eu
       refine WL.oq h3hu rfl (owp_rk (.pointer (some ⟨g3bp, 2, none⟩)) h3hu rfl (fun a3i0 h3i1 => ?_))
       refine WL.oq h3i1 rfl ?_
       refine owp_rn (i6 x3cp.f1) h3i1 rfl (run_load1 rfl rfl Tryd.underlying3 rfl (hS3hv.cell (i := 2) rfl)) (fun a3i2 h3i3 => ?_)
       refine WL.oq h3i3 rfl (owp_rk (.bool (decide ((IntKind.i64.wrap r3em) > x3cp.f1))) h3i3 rfl (fun a3i4 h3i5 => ?_))
       refine WL.bl 1 14 h3i5 [(51, .bool (decide ((IntKind.i64.wrap r3em) > x3cp.f1)))] (fun a3i6 h3i7 => ?_)
       refine WL.dn ?_
       clear h3f7 a3f6 h3hs a3hr h3hu a3ht h3i1 a3i0 h3i3 a3i2 h3i5 a3i4
       by_cases c3i8 : (IntKind.i64.wrap r3em) > x3cp.f1
       ·rw [if_pos c3i8] at H
        have hb_ : (decide ((IntKind.i64.wrap r3em) > x3cp.f1)) = true := decide_eq_true c3i8
        try rw [hb_] at h3i7
        clear hb_
        refine wp_then h3i7 rfl ?_
        refine wp_seq ?_
        refine WT.start 5 (fun w_ => (∀ j_ u_, ([.slice A3hw x3cp.f0.f0.length c3hx, i6 x3cp.f0.f1, i6 x3cp.f1] : List Value)[j_]? = some u_ → w_.cell? ((⟨g3bp, 0, none⟩ : Addr).add j_) = some u_) ∧ True) (by kernel_rfl) #[false, false, false, false, false] 5 rfl rfl ?_
        have hS3jh := hS3hv.drew
        refine WT.tk 0 h3i7 rfl rfl (.slice (some ⟨g3c3, 0, none⟩) 0 0) (fun _ _ => by kernel_rfl) ⟨(hS3jh.cells (vs := [.slice A3hw x3cp.f0.f0.length c3hx, i6 x3cp.f0.f1, i6 x3cp.f1]) rfl), trivial⟩ (fun a3ji s3jk h3jj => ?_)
        refine WT.tk 2 h3jj rfl rfl (.slice (some ⟨g3c3, 0, none⟩) 0 0) (fun _ _ => by kernel_rfl) s3jk (fun a3jl s3jn h3jm => ?_)
        refine WT.tk 1 h3jm rfl rfl (.agg #[.slice A3hw x3cp.f0.f0.length c3hx, i6 x3cp.f0.f1, i6 x3cp.f1]) (fun w_ hs_ => (run_loadN rfl rfl Tryd.underlying45 rfl (cs := [.slice A3hw x3cp.f0.f0.length c3hx, i6 x3cp.f0.f1, i6 x3cp.f1]) (by kernel_rfl) hs_.1)) s3jn (fun a3jo s3jq h3jp => ?_)
        have hS3jr := hS3jh.b2
        obtain ⟨A3jt, c3ju, M3jv, hr3jw, hS3js⟩ := k45qoq hr3cu hS3jr
        refine WT.o1 3 h3jp rfl ?_
        refine owp_st 0 [.slice A3hw x3cp.f0.f0.length c3hx, i6 x3cp.f0.f1, i6 x3cp.f1] h3jp rfl rfl rfl hS3js [.slice A3hw x3cp.f0.f0.length c3hx, i6 x3cp.f0.f1, i6 x3cp.f1] (fun a3jx W3jz h3jy hS3k0 => ?_)
        refine ⟨.inr ⟨(hS3k0.b2.cells (vs := [.slice A3hw x3cp.f0.f0.length c3hx, i6 x3cp.f0.f1, i6 x3cp.f1]) rfl), trivial⟩, ?_⟩
        refine WT.tk 4 h3jy rfl rfl (i6 9) (fun _ _ => by kernel_rfl) ⟨(hS3k0.b2.cells (vs := [.slice A3hw x3cp.f0.f0.length c3hx, i6 x3cp.f0.f1, i6 x3cp.f1]) rfl), trivial⟩ (fun a3k1 s3k3 h3k2 => ?_)
        refine WT.dn ?_
        refine wp_ret ?_
        have hS3k4 := hS3k0.drop_
        have hS3k5 := hS3k4.drop_
        have hS3k6 := hS3k5.drop_
        have hS3k7 := hS3k6.b2
        have hS3k8 := hS3k7.drop_
        have hS3k9 := hS3k8.b1
        obtain ⟨rfl, rfl, rfl⟩ := ret3 H
        repeat (first | with_reducible refine t1 ?_ | with_reducible refine t2 ?_ | with_reducible refine t3 ?_)
        refine body_ret (v := .tuple #[.slice (some ⟨g3c3, 0, none⟩) 0 0, .agg #[.slice A3hw x3cp.f0.f0.length c3hx, i6 x3cp.f0.f1, i6 x3cp.f1], i6 9]) h3k2 (by kernel_rfl) (res_many (xs := [ResultVar.tmp 4, ResultVar.cell 5 45, ResultVar.tmp 6]) rfl ⟨rfl, ⟨_, rfl, loadVarN Tryd.underlying45 rfl (cs := [.slice A3hw x3cp.f0.f0.length c3hx, i6 x3cp.f0.f1, i6 x3cp.f1]) (by kernel_rfl) (hS3k0.cells (vs := [.slice A3hw x3cp.f0.f0.length c3hx, i6 x3cp.f0.f1, i6 x3cp.f1]) rfl)⟩, rfl, trivial⟩ rfl) ?_
        exact ⟨.slice (some ⟨g3c3, 0, none⟩) 0 0, (bx g3c3 52 []), .slice A3hw x3cp.f0.f0.length c3hx, M3hy, rfl, hr3c5, hr3hz, hS3k9⟩
       ·rw [if_neg c3i8] at H
        have hb_ : (decide ((IntKind.i64.wrap r3em) > x3cp.f1)) = false := decide_eq_false c3i8
        try rw [hb_] at h3i7
        clear hb_
        refine wp_else h3i7 rfl ?_
        refine wp_skip ?_
        refine wp_seq ?_
        refine WL.start ?_
        refine WL.bl 1 1 h3i7 [(54, pt g3bp)] (fun a3ka h3kb => ?_)
        refine WL.oq h3kb rfl ?_
        refine owp_rn (.agg #[.slice A3hw x3cp.f0.f0.length c3hx, i6 x3cp.f0.f1]) h3kb rfl (run_loadN rfl rfl Tryd.underlying43 rfl (cs := [.slice A3hw x3cp.f0.f0.length c3hx, i6 x3cp.f0.f1]) (by kernel_rfl) (hS3hv.cells (vs := [.slice A3hw x3cp.f0.f0.length c3hx, i6 x3cp.f0.f1]) rfl)) (fun a3kc h3kd => ?_)
        refine WL.bl 2 4 h3kd [(57, i6 (IntKind.i64.wrap r3em)), (56, .int .u32 r3em)] (fun a3ke h3kf => ?_)
        have hS3kg := hS3hv.b1
        obtain ⟨r3ki, A3kh, H⟩ := bind1 H
        refine WL.oq h3kf rfl ?_
        refine owp_call [.agg #[.slice A3hw x3cp.f0.f0.length c3hx, i6 x3cp.f0.f1], i6 (IntKind.i64.wrap r3em)] h3kf rfl (by kernel_rfl) rfl Tryd.func33 (by kernel_rfl) rfl (by kernel_rfl) (louverref05qT_Limit.calls (p0 := (⟨x3cp.f0.f0, x3cp.f0.f1⟩ : S43)) kk3dg hr3hz.rds A3kh (hS3kg.pool)) (fun e3kk W3kj hp3kl => ?_)
        obtain ⟨v3ko, M3kp, rfl, hr3kq, hS3kr⟩ := hp3kl
        have hS3ks : St b w0 W3kj R (M3hy :: M3kp :: (bx g3bp 45 [.slice A3hw x3cp.f0.f0.length c3hx, i6 x3cp.f0.f1, i6 x3cp.f1]) :: M3ct :: (bx g3c3 52 []) :: M3cy :: Fs) := hS3kr.unpool
        replace hr3kq : Row k52 52 b w0 R v3ko r3ki.f0 M3kp := hr3kq.ind k52qind
        refine ⟨_, rfl, fun a3km h3kn => ?_⟩
        obtain ⟨A3kt, c3ku, rfl⟩ := hr3kq.form
        refine WL.bl 1 6 h3kn [(59, pt g3bp)] (fun a3kv h3kw => ?_)
        have hS3kx := hS3ks.b2
        refine WL.oq h3kw rfl ?_
        refine owp_st 0 [.slice A3kt r3ki.f0.length c3ku, i6 r3ki.f1] h3kw rfl rfl rfl hS3kx [.slice A3kt r3ki.f0.length c3ku, i6 r3ki.f1, i6 x3cp.f1] (fun a3ky W3l0 h3kz hS3l1 => ?_)
        refine WL.dn ?_
        refine wp_seq ?_
        refine WL.start ?_
        refine WL.bl 4 4 h3kz [(9, i6 (IntKind.i64.wrap (x3d0 + r3en))), (62, i6 (IntKind.i64.wrap (x3d0 + r3en))), (61, i6 r3en), (60, i6 x3d0)] (fun a3l2 h3l3 => ?_)
        refine WL.dn ?_
        refine wp_exit ?_
        have hS3l4 := hS3l1.b2
        have hS3l5 := hS3l4.b1
        obtain ⟨M3l6, hp3l7, hS3l8⟩ := k45qfo (⟨(⟨r3ki.f0, r3ki.f1⟩ : S43), x3cp.f1⟩ : S45) hr3kq hS3l5
        have hS3l9 := hS3l8.b1
        have hS3la := hS3l9.drop_
        exact ⟨kk3dg, by omega, (⟨(⟨r3ki.f0, r3ki.f1⟩ : S43), x3cp.f1⟩ : S45), M3l6, x3cs, M3ct, x3cv, A3cw, c3cx, M3cy, IntKind.i64.wrap (x3d0 + r3en), x3d1, h3l3.keep ⟨rfl, rfl, rfl, rfl, rfl, rfl, rfl, trivial⟩, ⟨H⟩, ⟨by omega⟩, ⟨hS3la⟩, ⟨hp3l7⟩, ⟨hr3cu⟩, ⟨hr3cz⟩⟩
     ·rw [if_neg c3ez] at H
      have hb_ : (decide (r3eo = 0)) = false := decide_eq_false c3ez
      try rw [hb_] at h3ey
      clear hb_
      refine WL.sk h3ey rfl rfl (fun a3lb h3lc => ?_)
      refine WL.sk h3lc rfl rfl (fun a3ld h3le => ?_)
      refine WL.sk h3le rfl rfl (fun a3lf h3lg => ?_)
      refine WL.bl 2 8 h3lg [(45, .bool true), (44, .bool true)] (fun a3lh h3li => ?_)
      refine WL.sk h3li rfl rfl (fun a3lj h3lk => ?_)
      refine WL.sk h3lk rfl rfl (fun a3ll h3lm => ?_)
      refine WL.sk h3lm rfl rfl (fun a3ln h3lo => ?_)
      refine WL.sk h3lo rfl rfl (fun a3lp h3lq => ?_)
      refine WL.sk h3lq rfl rfl (fun a3lr h3ls => ?_)
      refine WL.bl 1 14 h3ls [(51, .bool true)] (fun a3lt h3lu => ?_)
      refine WL.dn ?_
      refine wp_then h3lu rfl ?_
      refine wp_seq ?_
      obtain ⟨A3lw, c3lx, M3ly, hr3lz, hS3lv⟩ := k45qoq hr3cr hS3eu
      refine WT.start 5 (fun w_ => (∀ j_ u_, ([.slice A3lw x3cp.f0.f0.length c3lx, i6 x3cp.f0.f1, i6 x3cp.f1] : List Value)[j_]? = some u_ → w_.cell? ((⟨g3bp, 0, none⟩ : Addr).add j_) = some u_) ∧ True) (by kernel_rfl) #[false, false, false, false, false] 5 rfl rfl ?_
      have hS3n8 := hS3lv.drew
      refine WT.tk 0 h3lu rfl rfl (.slice (some ⟨g3c3, 0, none⟩) 0 0) (fun _ _ => by kernel_rfl) ⟨(hS3n8.cells (vs := [.slice A3lw x3cp.f0.f0.length c3lx, i6 x3cp.f0.f1, i6 x3cp.f1]) rfl), trivial⟩ (fun a3n9 s3nb h3na => ?_)
      refine WT.tk 2 h3na rfl rfl (.slice (some ⟨g3c3, 0, none⟩) 0 0) (fun _ _ => by kernel_rfl) s3nb (fun a3nc s3ne h3nd => ?_)
      clear h3ey a3ex h3lc a3lb h3le a3ld h3lg a3lf h3li a3lh h3lk a3lj h3lm a3ll h3lo a3ln h3lq a3lp h3ls a3lr h3lu a3lt h3na a3n9
      refine WT.tk 1 h3nd rfl rfl (.agg #[.slice A3lw x3cp.f0.f0.length c3lx, i6 x3cp.f0.f1, i6 x3cp.f1]) (fun w_ hs_ => (run_loadN rfl rfl Tryd.underlying45 rfl (cs := [.slice A3lw x3cp.f0.f0.length c3lx, i6 x3cp.f0.f1, i6 x3cp.f1]) (by kernel_rfl) hs_.1)) s3ne (fun a3nf s3nh h3ng => ?_)
      have hS3ni := hS3n8.b2
      obtain ⟨A3nk, c3nl, M3nm, hr3nn, hS3nj⟩ := k45qoq hr3cu hS3ni
      refine WT.o1 3 h3ng rfl ?_
      refine owp_st 0 [.slice A3lw x3cp.f0.f0.length c3lx, i6 x3cp.f0.f1, i6 x3cp.f1] h3ng rfl rfl rfl hS3nj [.slice A3lw x3cp.f0.f0.length c3lx, i6 x3cp.f0.f1, i6 x3cp.f1] (fun a3no W3nq h3np hS3nr => ?_)
      refine ⟨.inr ⟨(hS3nr.b2.cells (vs := [.slice A3lw x3cp.f0.f0.length c3lx, i6 x3cp.f0.f1, i6 x3cp.f1]) rfl), trivial⟩, ?_⟩
      refine WT.tk 4 h3np rfl rfl (i6 9) (fun _ _ => by kernel_rfl) ⟨(hS3nr.b2.cells (vs := [.slice A3lw x3cp.f0.f0.length c3lx, i6 x3cp.f0.f1, i6 x3cp.f1]) rfl), trivial⟩ (fun a3ns s3nu h3nt => ?_)
      refine WT.dn ?_
      refine wp_ret ?_
      have hS3nv := hS3nr.drop_
      have hS3nw := hS3nv.drop_
      have hS3nx := hS3nw.drop_
      have hS3ny := hS3nx.b2
      have hS3nz := hS3ny.drop_
      have hS3o0 := hS3nz.b1
      obtain ⟨rfl, rfl, rfl⟩ := ret3 H
      repeat (first | with_reducible refine t1 ?_ | with_reducible refine t2 ?_ | with_reducible refine t3 ?_)
      refine body_ret (v := .tuple #[.slice (some ⟨g3c3, 0, none⟩) 0 0, .agg #[.slice A3lw x3cp.f0.f0.length c3lx, i6 x3cp.f0.f1, i6 x3cp.f1], i6 9]) h3nt (by kernel_rfl) (res_many (xs := [ResultVar.tmp 4, ResultVar.cell 5 45, ResultVar.tmp 6]) rfl ⟨rfl, ⟨_, rfl, loadVarN Tryd.underlying45 rfl (cs := [.slice A3lw x3cp.f0.f0.length c3lx, i6 x3cp.f0.f1, i6 x3cp.f1]) (by kernel_rfl) (hS3nr.cells (vs := [.slice A3lw x3cp.f0.f0.length c3lx, i6 x3cp.f0.f1, i6 x3cp.f1]) rfl)⟩, rfl, trivial⟩ rfl) ?_
      exact ⟨.slice (some ⟨g3c3, 0, none⟩) 0 0, (bx g3c3 52 []), .slice A3lw x3cp.f0.f0.length c3lx, M3ly, rfl, hr3c5, hr3lz, hS3o0⟩
    ·rw [if_neg c3ed] at H
     cases H
   ·rw [if_neg c3ea] at H
    have hb_ : (decide (r3e1 = 2)) = false := decide_eq_false c3ea
    try rw [hb_] at h3e9
    clear hb_
    refine wp_else h3e9 rfl ?_
    refine wp_skip ?_
    refine wp_seq ?_
    refine WL.start ?_
    obtain ⟨A3o2, c3o3, M3o4, hr3o5, hS3o1⟩ := k45qoq hr3cr hS3e7
    refine WL.oq h3e9 rfl ?_
    refine owp_rn (.agg #[.slice A3o2 x3cp.f0.f0.length c3o3, i6 x3cp.f0.f1, i6 x3cp.f1]) h3e9 rfl (run_loadN rfl rfl Tryd.underlying45 rfl (cs := [.slice A3o2 x3cp.f0.f0.length c3o3, i6 x3cp.f0.f1, i6 x3cp.f1]) (by kernel_rfl) (hS3o1.cells (vs := [.slice A3o2 x3cp.f0.f0.length c3o3, i6 x3cp.f0.f1, i6 x3cp.f1]) rfl)) (fun a3o6 h3o7 => ?_)
    refine WL.bl 2 3 h3o7 [(66, i6 x3d0), (65, .slice A1 p1.length c1)] (fun a3o8 h3o9 => ?_)
    have hS3oa := hS3o1.b1
    obtain ⟨r3oc, r3od, r3oe, r3of, A3ob, H⟩ := bind4 H
    refine WL.oq h3o9 rfl ?_
    refine owp_call [.agg #[.slice A3o2 x3cp.f0.f0.length c3o3, i6 x3cp.f0.f1, i6 x3cp.f1], .slice A1 p1.length c1, i6 x3d0] h3o9 rfl (by kernel_rfl) rfl Tryd.func34 (by kernel_rfl) rfl (by kernel_rfl) (louverref06qD_field.calls (p0 := (⟨(⟨x3cp.f0.f0, x3cp.f0.f1⟩ : S43), x3cp.f1⟩ : S45)) kk3dg hr3o5 hp1 A3ob hS3oa) (fun e3oh W3og hp3oi => ?_)
    obtain ⟨v3ol, rfl, hd3om⟩ := hp3oi
    clear h3e9 a3e8 h3o7 a3o6
    rcases hd3om with ⟨hu3on, hq3oo, hS3op⟩ | ⟨M3oq, hr3or, hS3os⟩
    ·subst hu3on
     have hr3ot : Row k52 52 b w0 R (.slice A3o2 x3cp.f0.f0.length c3o3) r3oe.f0.f0 M3o4 := by rw [hq3oo]; exact hr3o5
     refine ⟨_, rfl, fun a3oj h3ok => ?_⟩
     refine WL.bl 5 9 h3ok [(71, .bool r3of), (70, .agg #[.slice A3o2 x3cp.f0.f0.length c3o3, i6 r3oe.f0.f1, i6 r3oe.f1]), (69, i6 r3od), (68, .agg #[.string (mkS r3oc.f0), .string (mkS r3oc.f1), .bool r3oc.f2]), (63, .tuple #[.agg #[.string (mkS r3oc.f0), .string (mkS r3oc.f1), .bool r3oc.f2], i6 r3od, .agg #[.slice A3o2 x3cp.f0.f0.length c3o3, i6 r3oe.f0.f1, i6 r3oe.f1], .bool r3of])] (fun a3ow h3ox => ?_)
     refine WL.oq h3ox rfl ?_
     refine owp_nw (fun g_ => (pt g_)) (.cells ([.string (mkS []), .string (mkS []), .bool false] : List Value).toArray 52 (0, 0)) h3ox rfl hS3op (fun a3oy W3p0 g3p1 h3oz hS3p2 => ?_)
     refine WL.oq h3oz rfl ?_
     refine owp_nw (fun g_ => (pt g_)) (.cells ([.slice none 0 0, i6 0, i6 0] : List Value).toArray 45 (0, 0)) h3oz rfl hS3p2 (fun a3p3 W3p5 g3p6 h3p4 hS3p7 => ?_)
     have hS3p8 := hS3p7.b1
     refine WL.oq h3p4 rfl ?_
     refine owp_st 0 [.string (mkS r3oc.f0), .string (mkS r3oc.f1), .bool r3oc.f2] h3p4 rfl rfl rfl hS3p8 [.string (mkS r3oc.f0), .string (mkS r3oc.f1), .bool r3oc.f2] (fun a3p9 W3pb h3pa hS3pc => ?_)
     refine WL.bl 1 13 h3pa [(15, i6 r3od)] (fun a3pd h3pe => ?_)
     have hS3pf := hS3pc.b1
     refine WL.oq h3pe rfl ?_
     refine owp_st 0 [.slice A3o2 x3cp.f0.f0.length c3o3, i6 r3oe.f0.f1, i6 r3oe.f1] h3pe rfl rfl rfl hS3pf [.slice A3o2 x3cp.f0.f0.length c3o3, i6 r3oe.f0.f1, i6 r3oe.f1] (fun a3pg W3pi h3ph hS3pj => ?_)
     refine WL.bl 1 15 h3ph [(17, .bool r3of)] (fun a3pk h3pl => ?_)
     refine WL.dn ?_
     refine wp_seq ?_
     refine wp_seq ?_
     refine WL.start ?_
     refine WL.bl 2 2 h3pl [(73, .bool (!r3of)), (72, .bool r3of)] (fun a3pm h3pn => ?_)
     refine WL.dn ?_
     clear h3o9 a3o8 h3ok a3oj h3ox a3ow h3oz a3oy h3p4 a3p3 h3pa a3p9 h3pe a3pd h3ph a3pg h3pl a3pk
     by_cases c3po : r3of = true
     ·rw [if_pos c3po] at H
      have hb_ : r3of = true := c3po
      try rw [hb_] at h3pn
      clear hb_
      refine wp_else h3pn rfl ?_
      refine wp_skip ?_
      refine wp_seq ?_
      refine WL.start ?_
      refine WL.oq h3pn rfl ?_
      refine owp_rn (.agg #[.slice A3o2 x3cp.f0.f0.length c3o3, i6 r3oe.f0.f1, i6 r3oe.f1]) h3pn rfl (run_loadN rfl rfl Tryd.underlying45 rfl (cs := [.slice A3o2 x3cp.f0.f0.length c3o3, i6 r3oe.f0.f1, i6 r3oe.f1]) (by kernel_rfl) (hS3pj.cells (vs := [.slice A3o2 x3cp.f0.f0.length c3o3, i6 r3oe.f0.f1, i6 r3oe.f1]) rfl)) (fun a3pp h3pq => ?_)
      have hS3pr := hS3pj.b3
      refine WL.oq h3pq rfl ?_
      refine owp_st 0 [.slice A3o2 x3cp.f0.f0.length c3o3, i6 r3oe.f0.f1, i6 r3oe.f1] h3pq rfl rfl rfl hS3pr [.slice A3o2 x3cp.f0.f0.length c3o3, i6 r3oe.f0.f1, i6 r3oe.f1] (fun a3ps W3pu h3pt hS3pv => ?_)
      refine WL.dn ?_
      refine wp_seq ?_
      refine WL.start ?_
      refine WL.bl 2 2 h3pt [(9, i6 r3od), (77, i6 r3od)] (fun a3pw h3px => ?_)
      refine WL.dn ?_
      refine wp_seq ?_
      refine WL.start ?_
      refine WL.bl 1 1 h3px [(78, .slice A3cw x3cv.length c3cx)] (fun a3py h3pz => ?_)
      have hS3q0 := hS3pv.b2
      refine WL.oq h3pz rfl ?_
      refine owp_rn (.agg #[.string (mkS r3oc.f0), .string (mkS r3oc.f1), .bool r3oc.f2]) h3pz rfl (run_loadN rfl rfl Tryd.underlying52 rfl (cs := [.string (mkS r3oc.f0), .string (mkS r3oc.f1), .bool r3oc.f2]) (by kernel_rfl) (hS3q0.cells (vs := [.string (mkS r3oc.f0), .string (mkS r3oc.f1), .bool r3oc.f2]) rfl)) (fun a3q1 h3q2 => ?_)
      obtain ⟨_, hrep_, hMe_⟩ := k52qmk (b := b) (w0 := w0) (R := R) (x := (⟨r3oc.f0, r3oc.f1, r3oc.f2⟩ : S52)) 
      subst hMe_
      have hq3q3 := hrep_; clear hrep_
      refine WL.oq h3q2 rfl ?_
      refine owp_nw (fun g_ => .slice (some ⟨g_, 0, none⟩) 1 1) (.cells ([.string (mkS r3oc.f0), .string (mkS r3oc.f1), .bool r3oc.f2] : List Value).toArray 52 (0, 0)) h3q2 rfl hS3q0 (fun a3q4 W3q6 g3q7 h3q5 hS3q8 => ?_)
      have hr3q9 : Row k52 52 b w0 R (.slice (some ⟨g3q7, 0, none⟩) 1 1) ([(⟨r3oc.f0, r3oc.f1, r3oc.f2⟩ : S52)] : List S52) (bx g3q7 52 [.string (mkS r3oc.f0), .string (mkS r3oc.f1), .bool r3oc.f2]) := Row.lit (xs := ([(⟨r3oc.f0, r3oc.f1, r3oc.f2⟩ : S52)] : List S52)) (Mi := []) ⟨_, _, [], _, rfl, rfl, hq3q3, ⟨rfl, rfl⟩⟩ (by simp [maxLen])
      clear h3pn a3pm h3pq a3pp h3pt a3ps h3px a3pw h3pz a3py h3q2 a3q1
      by_cases c3qa : x3cv.length + 1 ≤ 3518437208883
      ·rw [if_pos c3qa] at H
       have hS3qb := hS3q8.b7
       refine WL.oq h3q5 rfl ?_
       refine owp_app_take (z := .agg #[.string (mkS []), .string (mkS []), .bool false]) (bytes := 40) (dk := k52) h3q5 rfl (by kernel_rfl) rfl rfl rfl hr3cz hr3q9 hS3qb Tryd.underlying23 (by kernel_rfl) rfl (by decide) (by decide) (by first | omega | (simp only [List.length_cons, List.length_nil] at *; omega)) (fun a3qc W3qe v3qf M3qg h3qd hr3qh hS3qi => ?_)
       obtain ⟨y3qj, hy3qk, H⟩ := lete H
       have hr3ql : Row k52 52 b w0 R v3qf y3qj M3qg := by rw [hy3qk]; exact hr3qh
       clear hr3qh
       obtain ⟨A3qm, c3qn, rfl⟩ := hr3ql.form
       refine WL.bl 1 5 h3qd [(8, .slice A3qm y3qj.length c3qn)] (fun a3qo h3qp => ?_)
       refine WL.dn ?_
       refine WL.start ?_
       refine WL.bl 1 1 h3qp [(82, i6 x3d1)] (fun a3qq h3qr => ?_)
       have hS3qs := hS3qi.b1
       refine WL.oq h3qr rfl ?_
       refine owp_rn (.agg #[.string (mkS r3oc.f0), .string (mkS r3oc.f1), .bool r3oc.f2]) h3qr rfl (run_loadN rfl rfl Tryd.underlying52 rfl (cs := [.string (mkS r3oc.f0), .string (mkS r3oc.f1), .bool r3oc.f2]) (by kernel_rfl) (hS3qs.cells (vs := [.string (mkS r3oc.f0), .string (mkS r3oc.f1), .bool r3oc.f2]) rfl)) (fun a3qt h3qu => ?_)
       obtain ⟨r3qw, A3qv, H⟩ := bind1 H
       refine WL.oq h3qu rfl ?_
       refine owp_call [.agg #[.string (mkS r3oc.f0), .string (mkS r3oc.f1), .bool r3oc.f2]] h3qu rfl (by kernel_rfl) rfl Tryd.func23 (by kernel_rfl) rfl (by kernel_rfl) (louverref05qSize.calls (p0 := (⟨r3oc.f0, r3oc.f1, r3oc.f2⟩ : S52))  A3qv hS3qs) (fun e3qy W3qx hp3qz => ?_)
       obtain ⟨rfl, hS3r2⟩ := hp3qz
       refine ⟨_, rfl, fun a3r0 h3r1 => ?_⟩
       refine WL.bl 2 5 h3r1 [(10, i6 (IntKind.i64.wrap (x3d1 + r3qw))), (85, i6 (IntKind.i64.wrap (x3d1 + r3qw)))] (fun a3r3 h3r4 => ?_)
       refine WL.dn ?_
       have hS3r5 := hS3r2.b4
       have hS3r6 := hS3r5.b3
       obtain ⟨M3r7, hp3r8, hS3r9⟩ := k45qfo (⟨(⟨r3oe.f0.f0, r3oe.f0.f1⟩ : S43), r3oe.f1⟩ : S45) (by have q_ := hr3ot; rw [hq3oo] at q_; exact q_) hS3r6 (by rw [hq3oo])
       have hS3ra := hS3r9.b1
       have hS3rb := hS3ra.drop_
       have hS3rc := hS3rb.b2
       have hS3rd := hS3rc.drop_
       have hS3re := hS3rd.b1
       have hS3rf := hS3re.b3
       have hS3rg := hS3rf.b3
       have hS3rh := hS3rg.b3
       exact ⟨kk3dg, by omega, (⟨(⟨r3oe.f0.f0, r3oe.f0.f1⟩ : S43), r3oe.f1⟩ : S45), M3r7, x3cs, M3ct, y3qj, A3qm, c3qn, M3qg, r3od, IntKind.i64.wrap (x3d1 + r3qw), h3r4.keep ⟨rfl, rfl, rfl, rfl, rfl, rfl, rfl, trivial⟩, ⟨H⟩, ⟨by omega⟩, ⟨hS3rh⟩, ⟨hp3r8⟩, ⟨hr3cu⟩, ⟨hr3ql⟩⟩
      ·rw [if_neg c3qa] at H
       cases H
     ·rw [if_neg c3po] at H
      have hb_ : r3of = false := (Bool.eq_false_iff.2 c3po)
      try rw [hb_] at h3pn
      clear hb_
      refine wp_then h3pn rfl ?_
      refine wp_seq ?_
      refine WT.start 5 (fun w_ => (∀ j_ u_, ([.slice A3o2 x3cp.f0.f0.length c3o3, i6 x3cp.f0.f1, i6 x3cp.f1] : List Value)[j_]? = some u_ → w_.cell? ((⟨g3bp, 0, none⟩ : Addr).add j_) = some u_) ∧ True) (by kernel_rfl) #[false, false, false, false, false] 5 rfl rfl ?_
      have hS3sq := hS3pj.drew
      refine WT.tk 0 h3pn rfl rfl (.slice (some ⟨g3c3, 0, none⟩) 0 0) (fun _ _ => by kernel_rfl) ⟨(hS3sq.b3.cells (vs := [.slice A3o2 x3cp.f0.f0.length c3o3, i6 x3cp.f0.f1, i6 x3cp.f1]) rfl), trivial⟩ (fun a3sr s3st h3ss => ?_)
      refine WT.tk 2 h3ss rfl rfl (.slice (some ⟨g3c3, 0, none⟩) 0 0) (fun _ _ => by kernel_rfl) s3st (fun a3su s3sw h3sv => ?_)
      refine WT.tk 1 h3sv rfl rfl (.agg #[.slice A3o2 x3cp.f0.f0.length c3o3, i6 x3cp.f0.f1, i6 x3cp.f1]) (fun w_ hs_ => (run_loadN rfl rfl Tryd.underlying45 rfl (cs := [.slice A3o2 x3cp.f0.f0.length c3o3, i6 x3cp.f0.f1, i6 x3cp.f1]) (by kernel_rfl) hs_.1)) s3sw (fun a3sx s3sz h3sy => ?_)
      have hS3t0 := hS3sq.b4
      obtain ⟨A3t2, c3t3, M3t4, hr3t5, hS3t1⟩ := k45qoq hr3cu hS3t0
      refine WT.o1 3 h3sy rfl ?_
      refine owp_st 0 [.slice A3o2 x3cp.f0.f0.length c3o3, i6 x3cp.f0.f1, i6 x3cp.f1] h3sy rfl rfl rfl hS3t1 [.slice A3o2 x3cp.f0.f0.length c3o3, i6 x3cp.f0.f1, i6 x3cp.f1] (fun a3t6 W3t8 h3t7 hS3t9 => ?_)
      refine ⟨.inr ⟨(hS3t9.b5.cells (vs := [.slice A3o2 x3cp.f0.f0.length c3o3, i6 x3cp.f0.f1, i6 x3cp.f1]) rfl), trivial⟩, ?_⟩
      refine WT.tk 4 h3t7 rfl rfl (i6 9) (fun _ _ => by kernel_rfl) ⟨(hS3t9.b5.cells (vs := [.slice A3o2 x3cp.f0.f0.length c3o3, i6 x3cp.f0.f1, i6 x3cp.f1]) rfl), trivial⟩ (fun a3ta s3tc h3tb => ?_)
      refine WT.dn ?_
      refine wp_ret ?_
      have hS3td := hS3t9.drop_
      have hS3te := hS3td.drop_
      have hS3tf := hS3te.drop_
      have hS3tg := hS3tf.drop_
      have hS3th := hS3tg.b1
      have hS3ti := hS3th.drop_
      have hS3tj := hS3ti.b2
      have hS3tk := hS3tj.drop_
      have hS3tl := hS3tk.b1
      obtain ⟨rfl, rfl, rfl⟩ := ret3 H
      repeat (first | with_reducible refine t1 ?_ | with_reducible refine t2 ?_ | with_reducible refine t3 ?_)
      refine body_ret (v := .tuple #[.slice (some ⟨g3c3, 0, none⟩) 0 0, .agg #[.slice A3o2 x3cp.f0.f0.length c3o3, i6 x3cp.f0.f1, i6 x3cp.f1], i6 9]) h3tb (by kernel_rfl) (res_many (xs := [ResultVar.tmp 4, ResultVar.cell 5 45, ResultVar.tmp 6]) rfl ⟨rfl, ⟨_, rfl, loadVarN Tryd.underlying45 rfl (cs := [.slice A3o2 x3cp.f0.f0.length c3o3, i6 x3cp.f0.f1, i6 x3cp.f1]) (by kernel_rfl) (hS3t9.cells (vs := [.slice A3o2 x3cp.f0.f0.length c3o3, i6 x3cp.f0.f1, i6 x3cp.f1]) rfl)⟩, rfl, trivial⟩ rfl) ?_
      exact ⟨.slice (some ⟨g3c3, 0, none⟩) 0 0, (bx g3c3 52 []), .slice A3o2 x3cp.f0.f0.length c3o3, M3o4, rfl, hr3c5, (by have q_ := hr3ot; rw [hq3oo] at q_; exact q_), hS3tl⟩
    ·obtain ⟨A3ou, c3ov, rfl⟩ := hr3or.form
     refine ⟨_, rfl, fun a3oj h3ok => ?_⟩
     refine WL.bl 5 9 h3ok [(71, .bool r3of), (70, .agg #[.slice A3ou r3oe.f0.f0.length c3ov, i6 r3oe.f0.f1, i6 r3oe.f1]), (69, i6 r3od), (68, .agg #[.string (mkS r3oc.f0), .string (mkS r3oc.f1), .bool r3oc.f2]), (63, .tuple #[.agg #[.string (mkS r3oc.f0), .string (mkS r3oc.f1), .bool r3oc.f2], i6 r3od, .agg #[.slice A3ou r3oe.f0.f0.length c3ov, i6 r3oe.f0.f1, i6 r3oe.f1], .bool r3of])] (fun a3tm h3tn => ?_)
     refine WL.oq h3tn rfl ?_
     refine owp_nw (fun g_ => (pt g_)) (.cells ([.string (mkS []), .string (mkS []), .bool false] : List Value).toArray 52 (0, 0)) h3tn rfl hS3os (fun a3to W3tq g3tr h3tp hS3ts => ?_)
     refine WL.oq h3tp rfl ?_
     refine owp_nw (fun g_ => (pt g_)) (.cells ([.slice none 0 0, i6 0, i6 0] : List Value).toArray 45 (0, 0)) h3tp rfl hS3ts (fun a3tt W3tv g3tw h3tu hS3tx => ?_)
     have hS3ty := hS3tx.b1
     refine WL.oq h3tu rfl ?_
     refine owp_st 0 [.string (mkS r3oc.f0), .string (mkS r3oc.f1), .bool r3oc.f2] h3tu rfl rfl rfl hS3ty [.string (mkS r3oc.f0), .string (mkS r3oc.f1), .bool r3oc.f2] (fun a3tz W3u1 h3u0 hS3u2 => ?_)
     refine WL.bl 1 13 h3u0 [(15, i6 r3od)] (fun a3u3 h3u4 => ?_)
     have hS3u5 := hS3u2.b1
     refine WL.oq h3u4 rfl ?_
     refine owp_st 0 [.slice A3ou r3oe.f0.f0.length c3ov, i6 r3oe.f0.f1, i6 r3oe.f1] h3u4 rfl rfl rfl hS3u5 [.slice A3ou r3oe.f0.f0.length c3ov, i6 r3oe.f0.f1, i6 r3oe.f1] (fun a3u6 W3u8 h3u7 hS3u9 => ?_)
     refine WL.bl 1 15 h3u7 [(17, .bool r3of)] (fun a3ua h3ub => ?_)
     refine WL.dn ?_
     refine wp_seq ?_
     refine wp_seq ?_
     refine WL.start ?_
     refine WL.bl 2 2 h3ub [(73, .bool (!r3of)), (72, .bool r3of)] (fun a3uc h3ud => ?_)
     refine WL.dn ?_
     clear h3o9 a3o8 h3ok a3oj h3tn a3tm h3tp a3to h3tu a3tt h3u0 a3tz h3u4 a3u3 h3u7 a3u6 h3ub a3ua
     by_cases c3ue : r3of = true
     ·rw [if_pos c3ue] at H
      have hb_ : r3of = true := c3ue
      try rw [hb_] at h3ud
      clear hb_
      refine wp_else h3ud rfl ?_
      refine wp_skip ?_
      refine wp_seq ?_
      refine WL.start ?_
      refine WL.oq h3ud rfl ?_
      refine owp_rn (.agg #[.slice A3ou r3oe.f0.f0.length c3ov, i6 r3oe.f0.f1, i6 r3oe.f1]) h3ud rfl (run_loadN rfl rfl Tryd.underlying45 rfl (cs := [.slice A3ou r3oe.f0.f0.length c3ov, i6 r3oe.f0.f1, i6 r3oe.f1]) (by kernel_rfl) (hS3u9.cells (vs := [.slice A3ou r3oe.f0.f0.length c3ov, i6 r3oe.f0.f1, i6 r3oe.f1]) rfl)) (fun a3uf h3ug => ?_)
      have hS3uh := hS3u9.b4
      refine WL.oq h3ug rfl ?_
      refine owp_st 0 [.slice A3ou r3oe.f0.f0.length c3ov, i6 r3oe.f0.f1, i6 r3oe.f1] h3ug rfl rfl rfl hS3uh [.slice A3ou r3oe.f0.f0.length c3ov, i6 r3oe.f0.f1, i6 r3oe.f1] (fun a3ui W3uk h3uj hS3ul => ?_)
      refine WL.dn ?_
      refine wp_seq ?_
      refine WL.start ?_
      refine WL.bl 2 2 h3uj [(9, i6 r3od), (77, i6 r3od)] (fun a3um h3un => ?_)
      refine WL.dn ?_
      refine wp_seq ?_
      refine WL.start ?_
      refine WL.bl 1 1 h3un [(78, .slice A3cw x3cv.length c3cx)] (fun a3uo h3up => ?_)
      have hS3uq := hS3ul.b2
      refine WL.oq h3up rfl ?_
      refine owp_rn (.agg #[.string (mkS r3oc.f0), .string (mkS r3oc.f1), .bool r3oc.f2]) h3up rfl (run_loadN rfl rfl Tryd.underlying52 rfl (cs := [.string (mkS r3oc.f0), .string (mkS r3oc.f1), .bool r3oc.f2]) (by kernel_rfl) (hS3uq.cells (vs := [.string (mkS r3oc.f0), .string (mkS r3oc.f1), .bool r3oc.f2]) rfl)) (fun a3ur h3us => ?_)
      obtain ⟨_, hrep_, hMe_⟩ := k52qmk (b := b) (w0 := w0) (R := R) (x := (⟨r3oc.f0, r3oc.f1, r3oc.f2⟩ : S52)) 
      subst hMe_
      have hq3ut := hrep_; clear hrep_
      refine WL.oq h3us rfl ?_
      refine owp_nw (fun g_ => .slice (some ⟨g_, 0, none⟩) 1 1) (.cells ([.string (mkS r3oc.f0), .string (mkS r3oc.f1), .bool r3oc.f2] : List Value).toArray 52 (0, 0)) h3us rfl hS3uq (fun a3uu W3uw g3ux h3uv hS3uy => ?_)
      have hr3uz : Row k52 52 b w0 R (.slice (some ⟨g3ux, 0, none⟩) 1 1) ([(⟨r3oc.f0, r3oc.f1, r3oc.f2⟩ : S52)] : List S52) (bx g3ux 52 [.string (mkS r3oc.f0), .string (mkS r3oc.f1), .bool r3oc.f2]) := Row.lit (xs := ([(⟨r3oc.f0, r3oc.f1, r3oc.f2⟩ : S52)] : List S52)) (Mi := []) ⟨_, _, [], _, rfl, rfl, hq3ut, ⟨rfl, rfl⟩⟩ (by simp [maxLen])
      clear h3ud a3uc h3ug a3uf h3uj a3ui h3un a3um h3up a3uo h3us a3ur
      by_cases c3v0 : x3cv.length + 1 ≤ 3518437208883
      ·rw [if_pos c3v0] at H
       have hS3v1 := hS3uy.b8
       refine WL.oq h3uv rfl ?_
       refine owp_app_take (z := .agg #[.string (mkS []), .string (mkS []), .bool false]) (bytes := 40) (dk := k52) h3uv rfl (by kernel_rfl) rfl rfl rfl hr3cz hr3uz hS3v1 Tryd.underlying23 (by kernel_rfl) rfl (by decide) (by decide) (by first | omega | (simp only [List.length_cons, List.length_nil] at *; omega)) (fun a3v2 W3v4 v3v5 M3v6 h3v3 hr3v7 hS3v8 => ?_)
       obtain ⟨y3v9, hy3va, H⟩ := lete H
       have hr3vb : Row k52 52 b w0 R v3v5 y3v9 M3v6 := by rw [hy3va]; exact hr3v7
       clear hr3v7
       obtain ⟨A3vc, c3vd, rfl⟩ := hr3vb.form
       refine WL.bl 1 5 h3v3 [(8, .slice A3vc y3v9.length c3vd)] (fun a3ve h3vf => ?_)
       refine WL.dn ?_
       refine WL.start ?_
       refine WL.bl 1 1 h3vf [(82, i6 x3d1)] (fun a3vg h3vh => ?_)
       have hS3vi := hS3v8.b1
       refine WL.oq h3vh rfl ?_
       refine owp_rn (.agg #[.string (mkS r3oc.f0), .string (mkS r3oc.f1), .bool r3oc.f2]) h3vh rfl (run_loadN rfl rfl Tryd.underlying52 rfl (cs := [.string (mkS r3oc.f0), .string (mkS r3oc.f1), .bool r3oc.f2]) (by kernel_rfl) (hS3vi.cells (vs := [.string (mkS r3oc.f0), .string (mkS r3oc.f1), .bool r3oc.f2]) rfl)) (fun a3vj h3vk => ?_)
       obtain ⟨r3vm, A3vl, H⟩ := bind1 H
       refine WL.oq h3vk rfl ?_
       refine owp_call [.agg #[.string (mkS r3oc.f0), .string (mkS r3oc.f1), .bool r3oc.f2]] h3vk rfl (by kernel_rfl) rfl Tryd.func23 (by kernel_rfl) rfl (by kernel_rfl) (louverref05qSize.calls (p0 := (⟨r3oc.f0, r3oc.f1, r3oc.f2⟩ : S52))  A3vl hS3vi) (fun e3vo W3vn hp3vp => ?_)
       obtain ⟨rfl, hS3vs⟩ := hp3vp
       refine ⟨_, rfl, fun a3vq h3vr => ?_⟩
       refine WL.bl 2 5 h3vr [(10, i6 (IntKind.i64.wrap (x3d1 + r3vm))), (85, i6 (IntKind.i64.wrap (x3d1 + r3vm)))] (fun a3vt h3vu => ?_)
       refine WL.dn ?_
       have hS3vv := hS3vs.b4
       have hS3vw := hS3vv.b3
       obtain ⟨M3vx, hp3vy, hS3vz⟩ := k45qfo (⟨(⟨r3oe.f0.f0, r3oe.f0.f1⟩ : S43), r3oe.f1⟩ : S45) hr3or hS3vw
       have hS3w0 := hS3vz.b1
       have hS3w1 := hS3w0.drop_
       have hS3w2 := hS3w1.b2
       have hS3w3 := hS3w2.drop_
       have hS3w4 := hS3w3.b2
       have hS3w5 := hS3w4.drop_
       have hS3w6 := hS3w5.b1
       have hS3w7 := hS3w6.b3
       have hS3w8 := hS3w7.b3
       have hS3w9 := hS3w8.b3
       exact ⟨kk3dg, by omega, (⟨(⟨r3oe.f0.f0, r3oe.f0.f1⟩ : S43), r3oe.f1⟩ : S45), M3vx, x3cs, M3ct, y3v9, A3vc, c3vd, M3v6, r3od, IntKind.i64.wrap (x3d1 + r3vm), h3vu.keep ⟨rfl, rfl, rfl, rfl, rfl, rfl, rfl, trivial⟩, ⟨H⟩, ⟨by omega⟩, ⟨hS3w9⟩, ⟨hp3vy⟩, ⟨hr3cu⟩, ⟨hr3vb⟩⟩
      ·rw [if_neg c3v0] at H
       cases H
     ·rw [if_neg c3ue] at H
      have hb_ : r3of = false := (Bool.eq_false_iff.2 c3ue)
      try rw [hb_] at h3ud
      clear hb_
      refine wp_then h3ud rfl ?_
      refine wp_seq ?_
      refine WT.start 5 (fun w_ => (∀ j_ u_, ([.slice A3o2 x3cp.f0.f0.length c3o3, i6 x3cp.f0.f1, i6 x3cp.f1] : List Value)[j_]? = some u_ → w_.cell? ((⟨g3bp, 0, none⟩ : Addr).add j_) = some u_) ∧ True) (by kernel_rfl) #[false, false, false, false, false] 5 rfl rfl ?_
      have hS3xi := hS3u9.drew
      refine WT.tk 0 h3ud rfl rfl (.slice (some ⟨g3c3, 0, none⟩) 0 0) (fun _ _ => by kernel_rfl) ⟨(hS3xi.b4.cells (vs := [.slice A3o2 x3cp.f0.f0.length c3o3, i6 x3cp.f0.f1, i6 x3cp.f1]) rfl), trivial⟩ (fun a3xj s3xl h3xk => ?_)
      refine WT.tk 2 h3xk rfl rfl (.slice (some ⟨g3c3, 0, none⟩) 0 0) (fun _ _ => by kernel_rfl) s3xl (fun a3xm s3xo h3xn => ?_)
      refine WT.tk 1 h3xn rfl rfl (.agg #[.slice A3o2 x3cp.f0.f0.length c3o3, i6 x3cp.f0.f1, i6 x3cp.f1]) (fun w_ hs_ => (run_loadN rfl rfl Tryd.underlying45 rfl (cs := [.slice A3o2 x3cp.f0.f0.length c3o3, i6 x3cp.f0.f1, i6 x3cp.f1]) (by kernel_rfl) hs_.1)) s3xo (fun a3xp s3xr h3xq => ?_)
      have hS3xs := hS3xi.b5
      obtain ⟨A3xu, c3xv, M3xw, hr3xx, hS3xt⟩ := k45qoq hr3cu hS3xs
      refine WT.o1 3 h3xq rfl ?_
      refine owp_st 0 [.slice A3o2 x3cp.f0.f0.length c3o3, i6 x3cp.f0.f1, i6 x3cp.f1] h3xq rfl rfl rfl hS3xt [.slice A3o2 x3cp.f0.f0.length c3o3, i6 x3cp.f0.f1, i6 x3cp.f1] (fun a3xy W3y0 h3xz hS3y1 => ?_)
      refine ⟨.inr ⟨(hS3y1.b6.cells (vs := [.slice A3o2 x3cp.f0.f0.length c3o3, i6 x3cp.f0.f1, i6 x3cp.f1]) rfl), trivial⟩, ?_⟩
      refine WT.tk 4 h3xz rfl rfl (i6 9) (fun _ _ => by kernel_rfl) ⟨(hS3y1.b6.cells (vs := [.slice A3o2 x3cp.f0.f0.length c3o3, i6 x3cp.f0.f1, i6 x3cp.f1]) rfl), trivial⟩ (fun a3y2 s3y4 h3y3 => ?_)
      refine WT.dn ?_
      refine wp_ret ?_
      have hS3y5 := hS3y1.drop_
      have hS3y6 := hS3y5.drop_
      have hS3y7 := hS3y6.drop_
      have hS3y8 := hS3y7.drop_
      have hS3y9 := hS3y8.drop_
      have hS3ya := hS3y9.b1
      have hS3yb := hS3ya.drop_
      have hS3yc := hS3yb.b2
      have hS3yd := hS3yc.drop_
      have hS3ye := hS3yd.b1
      obtain ⟨rfl, rfl, rfl⟩ := ret3 H
      repeat (first | with_reducible refine t1 ?_ | with_reducible refine t2 ?_ | with_reducible refine t3 ?_)
      refine body_ret (v := .tuple #[.slice (some ⟨g3c3, 0, none⟩) 0 0, .agg #[.slice A3o2 x3cp.f0.f0.length c3o3, i6 x3cp.f0.f1, i6 x3cp.f1], i6 9]) h3y3 (by kernel_rfl) (res_many (xs := [ResultVar.tmp 4, ResultVar.cell 5 45, ResultVar.tmp 6]) rfl ⟨rfl, ⟨_, rfl, loadVarN Tryd.underlying45 rfl (cs := [.slice A3o2 x3cp.f0.f0.length c3o3, i6 x3cp.f0.f1, i6 x3cp.f1]) (by kernel_rfl) (hS3y1.cells (vs := [.slice A3o2 x3cp.f0.f0.length c3o3, i6 x3cp.f0.f1, i6 x3cp.f1]) rfl)⟩, rfl, trivial⟩ rfl) ?_
      exact ⟨.slice (some ⟨g3c3, 0, none⟩) 0 0, (bx g3c3 52 []), .slice A3o2 x3cp.f0.f0.length c3o3, M3o4, rfl, hr3c5, hr3o5, hS3ye⟩
  ·rw [if_neg c3dm] at H
   cases H
 ·rw [if_neg c3dj] at H
  have hb_ : (decide (x3d0 < (p1.length : Int))) = false := decide_eq_false c3dj
  try rw [hb_] at h3di
  clear hb_
  refine wp_else h3di rfl ?_
  refine wp_exit ?_
  refine wp_seq ?_
  refine wp_seq ?_
  refine WL.start ?_
  refine WL.bl 2 2 h3di [(87, .bool (decide (x3d1 > 4096))), (86, i6 x3d1)] (fun a3yf h3yg => ?_)
  refine WL.dn ?_
  clear h3di a3dh
  by_cases c3yh : x3d1 > 4096
  ·rw [if_pos c3yh] at H
   have hb_ : (decide (x3d1 > 4096)) = true := decide_eq_true c3yh
   try rw [hb_] at h3yg
   clear hb_
   refine wp_then h3yg rfl ?_
   refine wp_seq ?_
   obtain ⟨A3yj, c3yk, M3yl, hr3ym, hS3yi⟩ := k45qoq hr3cr hS3cn
   refine WT.start 5 (fun w_ => (∀ j_ u_, ([.slice A3yj x3cp.f0.f0.length c3yk, i6 x3cp.f0.f1, i6 x3cp.f1] : List Value)[j_]? = some u_ → w_.cell? ((⟨g3bp, 0, none⟩ : Addr).add j_) = some u_) ∧ True) (by kernel_rfl) #[false, false, false, false, false] 5 rfl rfl ?_
   have hS3zv := hS3yi.drew
   refine WT.tk 0 h3yg rfl rfl (.slice (some ⟨g3c3, 0, none⟩) 0 0) (fun _ _ => by kernel_rfl) ⟨(hS3zv.cells (vs := [.slice A3yj x3cp.f0.f0.length c3yk, i6 x3cp.f0.f1, i6 x3cp.f1]) rfl), trivial⟩ (fun a3zw s3zy h3zx => ?_)
   refine WT.tk 2 h3zx rfl rfl (.slice (some ⟨g3c3, 0, none⟩) 0 0) (fun _ _ => by kernel_rfl) s3zy (fun a3zz s401 h400 => ?_)
   refine WT.tk 1 h400 rfl rfl (.agg #[.slice A3yj x3cp.f0.f0.length c3yk, i6 x3cp.f0.f1, i6 x3cp.f1]) (fun w_ hs_ => (run_loadN rfl rfl Tryd.underlying45 rfl (cs := [.slice A3yj x3cp.f0.f0.length c3yk, i6 x3cp.f0.f1, i6 x3cp.f1]) (by kernel_rfl) hs_.1)) s401 (fun a402 s404 h403 => ?_)
   have hS405 := hS3zv.b2
   obtain ⟨A407, c408, M409, hr40a, hS406⟩ := k45qoq hr3cu hS405
   refine WT.o1 3 h403 rfl ?_
   refine owp_st 0 [.slice A3yj x3cp.f0.f0.length c3yk, i6 x3cp.f0.f1, i6 x3cp.f1] h403 rfl rfl rfl hS406 [.slice A3yj x3cp.f0.f0.length c3yk, i6 x3cp.f0.f1, i6 x3cp.f1] (fun a40b W40d h40c hS40e => ?_)
   refine ⟨.inr ⟨(hS40e.b2.cells (vs := [.slice A3yj x3cp.f0.f0.length c3yk, i6 x3cp.f0.f1, i6 x3cp.f1]) rfl), trivial⟩, ?_⟩
   refine WT.tk 4 h40c rfl rfl (i6 11) (fun _ _ => by kernel_rfl) ⟨(hS40e.b2.cells (vs := [.slice A3yj x3cp.f0.f0.length c3yk, i6 x3cp.f0.f1, i6 x3cp.f1]) rfl), trivial⟩ (fun a40f s40h h40g => ?_)
   refine WT.dn ?_
   refine wp_ret ?_
   have hS40i := hS40e.drop_
   have hS40j := hS40i.drop_
   have hS40k := hS40j.drop_
   have hS40l := hS40k.b2
   have hS40m := hS40l.drop_
   have hS40n := hS40m.b1
   obtain ⟨rfl, rfl, rfl⟩ := ret3 H
   repeat (first | with_reducible refine t1 ?_ | with_reducible refine t2 ?_ | with_reducible refine t3 ?_)
   refine body_ret (v := .tuple #[.slice (some ⟨g3c3, 0, none⟩) 0 0, .agg #[.slice A3yj x3cp.f0.f0.length c3yk, i6 x3cp.f0.f1, i6 x3cp.f1], i6 11]) h40g (by kernel_rfl) (res_many (xs := [ResultVar.tmp 4, ResultVar.cell 5 45, ResultVar.tmp 6]) rfl ⟨rfl, ⟨_, rfl, loadVarN Tryd.underlying45 rfl (cs := [.slice A3yj x3cp.f0.f0.length c3yk, i6 x3cp.f0.f1, i6 x3cp.f1]) (by kernel_rfl) (hS40e.cells (vs := [.slice A3yj x3cp.f0.f0.length c3yk, i6 x3cp.f0.f1, i6 x3cp.f1]) rfl)⟩, rfl, trivial⟩ rfl) ?_
   exact ⟨.slice (some ⟨g3c3, 0, none⟩) 0 0, (bx g3c3 52 []), .slice A3yj x3cp.f0.f0.length c3yk, M3yl, rfl, hr3c5, hr3ym, hS40n⟩
  ·rw [if_neg c3yh] at H
   have hb_ : (decide (x3d1 > 4096)) = false := decide_eq_false c3yh
   try rw [hb_] at h3yg
   clear hb_
   refine wp_else h3yg rfl ?_
   refine wp_skip ?_
   refine wp_seq ?_
   obtain ⟨A40p, c40q, M40r, hr40s, hS40o⟩ := k45qoq hr3cr hS3cn
   refine WT.start 5 (fun w_ => (∀ j_ u_, ([.slice A40p x3cp.f0.f0.length c40q, i6 x3cp.f0.f1, i6 x3cp.f1] : List Value)[j_]? = some u_ → w_.cell? ((⟨g3bp, 0, none⟩ : Addr).add j_) = some u_) ∧ True) (by kernel_rfl) #[false, false, false, false, false] 5 rfl rfl ?_
   have hS421 := hS40o.drew
   refine WT.tk 0 h3yg rfl rfl (.slice A3cw x3cv.length c3cx) (fun _ _ => by kernel_rfl) ⟨(hS421.cells (vs := [.slice A40p x3cp.f0.f0.length c40q, i6 x3cp.f0.f1, i6 x3cp.f1]) rfl), trivial⟩ (fun a422 s424 h423 => ?_)
   refine WT.tk 2 h423 rfl rfl (.slice A3cw x3cv.length c3cx) (fun _ _ => by kernel_rfl) s424 (fun a425 s427 h426 => ?_)
   refine WT.tk 1 h426 rfl rfl (.agg #[.slice A40p x3cp.f0.f0.length c40q, i6 x3cp.f0.f1, i6 x3cp.f1]) (fun w_ hs_ => (run_loadN rfl rfl Tryd.underlying45 rfl (cs := [.slice A40p x3cp.f0.f0.length c40q, i6 x3cp.f0.f1, i6 x3cp.f1]) (by kernel_rfl) hs_.1)) s427 (fun a428 s42a h429 => ?_)
   have hS42b := hS421.b2
   obtain ⟨A42d, c42e, M42f, hr42g, hS42c⟩ := k45qoq hr3cu hS42b
   refine WT.o1 3 h429 rfl ?_
   refine owp_st 0 [.slice A40p x3cp.f0.f0.length c40q, i6 x3cp.f0.f1, i6 x3cp.f1] h429 rfl rfl rfl hS42c [.slice A40p x3cp.f0.f0.length c40q, i6 x3cp.f0.f1, i6 x3cp.f1] (fun a42h W42j h42i hS42k => ?_)
   refine ⟨.inr ⟨(hS42k.b2.cells (vs := [.slice A40p x3cp.f0.f0.length c40q, i6 x3cp.f0.f1, i6 x3cp.f1]) rfl), trivial⟩, ?_⟩
   refine WT.tk 4 h42i rfl rfl (i6 0) (fun _ _ => by kernel_rfl) ⟨(hS42k.b2.cells (vs := [.slice A40p x3cp.f0.f0.length c40q, i6 x3cp.f0.f1, i6 x3cp.f1]) rfl), trivial⟩ (fun a42l s42n h42m => ?_)
   refine WT.dn ?_
   refine wp_ret ?_
   have hS42o := hS42k.drop_
   have hS42p := hS42o.drop_
   have hS42q := hS42p.drop_
   have hS42r := hS42q.b1
   have hS42s := hS42r.drop_
   have hS42t := hS42s.b1
   obtain ⟨rfl, rfl, rfl⟩ := ret3 H
   repeat (first | with_reducible refine t1 ?_ | with_reducible refine t2 ?_ | with_reducible refine t3 ?_)
   refine body_ret (v := .tuple #[.slice A3cw x3cv.length c3cx, .agg #[.slice A40p x3cp.f0.f0.length c40q, i6 x3cp.f0.f1, i6 x3cp.f1], i6 0]) h42m (by kernel_rfl) (res_many (xs := [ResultVar.tmp 4, ResultVar.cell 5 45, ResultVar.tmp 6]) rfl ⟨rfl, ⟨_, rfl, loadVarN Tryd.underlying45 rfl (cs := [.slice A40p x3cp.f0.f0.length c40q, i6 x3cp.f0.f1, i6 x3cp.f1]) (by kernel_rfl) (hS42k.cells (vs := [.slice A40p x3cp.f0.f0.length c40q, i6 x3cp.f0.f1, i6 x3cp.f1]) rfl)⟩, rfl, trivial⟩ rfl) ?_
   exact ⟨.slice A3cw x3cv.length c3cx, M3cy, .slice A40p x3cp.f0.f0.length c40q, M40r, rfl, hr3cz, hr40s, hS42t⟩

/-! ### louver/louverref06.Same -/
def louverref06qSame.l0 : Nat → Int → (List S52) → (List S52) → Option (Bool)
 | 0, _, _, _ => none
 | k + 1, x19u, p0, p1 => if x19u < (p0.length : Int) then (if 0 ≤ x19u then (if x19u < (p1.length : Int) then (if (decide (((gt z52 p0 x19u).f0) = ((gt z52 p1 x19u).f0)) && (decide (((gt z52 p0 x19u).f1) = ((gt z52 p1 x19u).f1)) && decide (((gt z52 p0 x19u).f2) = ((gt z52 p1 x19u).f2)))) = true then (louverref06qSame.l0 k (IntKind.i64.wrap (x19u + 1)) p0 p1) else (some false)) else (none)) else (none)) else (some true)
def louverref06qSame.f (k : Nat) (p0 : (List S52)) (p1 : (List S52)) : Option (Bool) := if (p0.length : Int) = (p1.length : Int) then (louverref06qSame.l0 k 0 p0 p1) else (some false)
set_option maxHeartbeats 20000000 in
set_option maxRecDepth 100000 in
theorem louverref06qSame.calls (k : Nat) {b : Nat} {w0 W : World} {R : Frag} {Fs : List Frag} {p0 : (List S52)} {p1 : (List S52)} {v0 : Value} {v1 : Value} {r0q : Bool} (hp0 : Rds k52 b w0 R v0 p0) (hp1 : Rds k52 b w0 R v1 p1) (H : louverref06qSame.f k p0 p1 = some r0q) (hS : St b w0 W R (Fs)) :
  Calls Tryd.prog 21 ([v0, v1] : List Value).toArray W (fun e W' => e = .returned (.bool r0q) ∧ St b w0 W' R (Fs)) := by
 obtain ⟨A0, c0, rfl⟩ := hp0.form
 obtain ⟨A1, c1, rfl⟩ := hp1.form
 unfold louverref06qSame.f at H
 refine calls_enter Tryd.func21 rfl 26 rfl (by kernel_rfl) (fun a h => ?_)
 refine wp_seq ?_
 refine WL.start ?_
 refine WL.bl 1 1 h [(4, .bool false)] (fun a19i h19j => ?_)
 refine WL.dn ?_
 refine wp_seq ?_
 refine wp_seq ?_
 refine WL.start ?_
 refine WL.bl 5 5 h19j [(10, .bool (!decide ((p0.length : Int) = (p1.length : Int)))), (9, i6 (p1.length : Int)), (8, .slice A1 p1.length c1), (7, i6 (p0.length : Int)), (6, .slice A0 p0.length c0)] (fun a19k h19l => ?_)
 refine WL.dn ?_
 clear h19j a19i
 by_cases c19m : (p0.length : Int) = (p1.length : Int)
 ·rw [if_pos c19m] at H
  have hb_ : (decide ((p0.length : Int) = (p1.length : Int))) = true := decide_eq_true c19m
  try rw [hb_] at h19l
  clear hb_
  refine wp_else h19l rfl ?_
  refine wp_skip ?_
  refine wp_seq ?_
  refine wp_seq ?_
  refine WL.start ?_
  refine WL.bl 3 3 h19l [(13, i6 0), (12, i6 (p0.length : Int)), (11, .slice A0 p0.length c0)] (fun a19n h19o => ?_)
  refine WL.dn ?_
  refine wp_block ?_
  clear h19l a19k
  refine wp_loop_ghost (fun kq_ a_ W_ => ∃ (x19u : Int), Hd a_ 26 [(0, .slice A0 p0.length c0), (1, .slice A1 p1.length c1), (12, i6 (p0.length : Int)), (13, i6 x19u)] ∧ Asd (louverref06qSame.l0 kq_ x19u p0 p1 = some r0q) ∧ Asd (kq_ ≤ k) ∧ Asd (St b w0 W_ R (Fs))) k ⟨0, h19o.keep ⟨rfl, rfl, rfl, rfl, trivial⟩, ⟨H⟩, ⟨Nat.le_refl _⟩, ⟨hS⟩⟩ ?_
  clear H hS
  rintro kk19t a19q W19r ⟨x19u, h19p, ⟨H⟩, ⟨hkkk19t⟩, ⟨hS19s⟩⟩
  obtain _ | kk19v := kk19t
  ·exact absurd H (by simp [louverref06qSame.l0])
  simp only [louverref06qSame.l0] at H
  refine wp_seq ?_
  refine WL.start ?_
  refine WL.bl 1 1 h19p [(14, .bool (decide (x19u < (p0.length : Int))))] (fun a19w h19x => ?_)
  refine WL.dn ?_
  refine wp_seq ?_
  clear h19p a19q
  by_cases c19y : x19u < (p0.length : Int)
  ·rw [if_pos c19y] at H
   have hb_ : (decide (x19u < (p0.length : Int))) = true := decide_eq_true c19y
   try rw [hb_] at h19x
   clear hb_
   refine wp_then h19x rfl ?_
   refine wp_skip ?_
   refine wp_seq ?_
   refine wp_block ?_
   refine wp_seq ?_
   refine WL.start ?_
   refine WL.bl 2 2 h19x [(5, i6 x19u), (15, i6 x19u)] (fun a19z h1a0 => ?_)
   refine WL.dn ?_
   refine wp_seq ?_
   refine WT.start 9 (fun w_ => (∀ a_ u_, Kn b w0 R a_ u_ → w_.cell? a_ = some u_) ∧ True) (by kernel_rfl) #[false, false, false, false, false, false, false, false, false] 9 rfl rfl ?_
   have hS1cn := hS19s.drew
   refine WT.tk 0 h1a0 rfl rfl (.slice A0 p0.length c0) (fun _ _ => by kernel_rfl) ⟨(fun _ _ hk_ => hS1cn.kn hk_), trivial⟩ (fun a1co s1cq h1cp => ?_)
   refine WT.tk 1 h1cp rfl rfl (i6 x19u) (fun _ _ => by kernel_rfl) s1cq (fun a1cr s1ct h1cs => ?_)
   refine WT.tk 4 h1cs rfl rfl (.slice A1 p1.length c1) (fun _ _ => by kernel_rfl) s1ct (fun a1cu s1cw h1cv => ?_)
   refine WT.tk 5 h1cv rfl rfl (i6 x19u) (fun _ _ => by kernel_rfl) s1cw (fun a1cx s1cz h1cy => ?_)
   clear h19x a19w h1a0 a19z h1cp a1co h1cs a1cr h1cv a1cu
   by_cases c1d0 : 0 ≤ x19u
   ·rw [if_pos c1d0] at H
    have hi1d3 : 0 ≤ x19u := by first | assumption | omega
    have hi1d4 : x19u < (p0.length : Int) := by first | assumption | omega
    obtain ⟨ad1d1, _, ha1d2, -, -⟩ := Rds.elemAny hp0 hi1d3 (gt_get (z := z52) hi1d3 hi1d4)
    refine WT.tk 2 h1cy rfl rfl (.pointer (some (ad1d1.add (x19u.toNat * 3)))) (fun w_ hs_ => (run_idx (ad := ad1d1) (sz := 3) rfl (by rw [← ha1d2]; rfl) rfl Tryd.underlying23 (by kernel_rfl) hi1d3 hi1d4)) s1cz (fun a1d5 s1d7 h1d6 => ?_)
    obtain ⟨ad1d8, cs1d9, ha1da, hr1dc, hc1db⟩ := Rds.elemAny hp0 hi1d3 (gt_get (z := z52) hi1d3 hi1d4)
    rw [ha1d2] at ha1da; obtain rfl := Option.some.inj ha1da
    obtain rfl := k52qrd hr1dc
    refine WT.tk 3 h1d6 rfl rfl (.agg #[.string (mkS ((gt z52 p0 x19u).f0)), .string (mkS ((gt z52 p0 x19u).f1)), .bool ((gt z52 p0 x19u).f2)]) (fun w_ hs_ => (run_loadN rfl rfl Tryd.underlying52 rfl (cs := [.string (mkS ((gt z52 p0 x19u).f0)), .string (mkS ((gt z52 p0 x19u).f1)), .bool ((gt z52 p0 x19u).f2)]) (by kernel_rfl) (hc1db _ hs_.1))) s1d7 (fun a1dd s1df h1de => ?_)
    clear h1cy a1cx h1d6 a1d5
    by_cases c1dg : x19u < (p1.length : Int)
    ·rw [if_pos c1dg] at H
     have hi1dj : 0 ≤ x19u := by first | assumption | omega
     have hi1dk : x19u < (p1.length : Int) := by first | assumption | omega
     obtain ⟨ad1dh, _, ha1di, -, -⟩ := Rds.elemAny hp1 hi1dj (gt_get (z := z52) hi1dj hi1dk)
     refine WT.tk 6 h1de rfl rfl (.pointer (some (ad1dh.add (x19u.toNat * 3)))) (fun w_ hs_ => (run_idx (ad := ad1dh) (sz := 3) rfl (by rw [← ha1di]; rfl) rfl Tryd.underlying23 (by kernel_rfl) hi1dj hi1dk)) s1df (fun a1dl s1dn h1dm => ?_)
     obtain ⟨ad1do, cs1dp, ha1dq, hr1ds, hc1dr⟩ := Rds.elemAny hp1 hi1dj (gt_get (z := z52) hi1dj hi1dk)
     rw [ha1di] at ha1dq; obtain rfl := Option.some.inj ha1dq
     obtain rfl := k52qrd hr1ds
     refine WT.tk 7 h1dm rfl rfl (.agg #[.string (mkS ((gt z52 p1 x19u).f0)), .string (mkS ((gt z52 p1 x19u).f1)), .bool ((gt z52 p1 x19u).f2)]) (fun w_ hs_ => (run_loadN rfl rfl Tryd.underlying52 rfl (cs := [.string (mkS ((gt z52 p1 x19u).f0)), .string (mkS ((gt z52 p1 x19u).f1)), .bool ((gt z52 p1 x19u).f2)]) (by kernel_rfl) (hc1dr _ hs_.1))) s1dn (fun a1dt s1dv h1du => ?_)
     refine WT.tk 8 h1du rfl rfl (.bool (!(decide (((gt z52 p0 x19u).f0) = ((gt z52 p1 x19u).f0)) && (decide (((gt z52 p0 x19u).f1) = ((gt z52 p1 x19u).f1)) && decide (((gt z52 p0 x19u).f2) = ((gt z52 p1 x19u).f2)))))) (fun w_ hs_ => (run_stne (xs := [.string (mkS ((gt z52 p0 x19u).f0)), .string (mkS ((gt z52 p0 x19u).f1)), .bool ((gt z52 p0 x19u).f2)]) (ys := [.string (mkS ((gt z52 p1 x19u).f0)), .string (mkS ((gt z52 p1 x19u).f1)), .bool ((gt z52 p1 x19u).f2)]) rfl rfl rfl (by kernel_rfl) (eqs_of Tryd.underlying52 (by kernel_rfl) (eqf_cons rfl (by kernel_rfl) rfl rfl (eqi_str Tryd.underlying9) (eqf_cons rfl (by kernel_rfl) rfl rfl (eqi_str Tryd.underlying9) (eqf_last rfl (by kernel_rfl) rfl rfl (eqi_bool Tryd.underlying4))))))) s1dv (fun a1dw s1dy h1dx => ?_)
     refine WT.dn ?_
     clear h1de a1dd h1dm a1dl h1du a1dt
     by_cases c1dz : (decide (((gt z52 p0 x19u).f0) = ((gt z52 p1 x19u).f0)) && (decide (((gt z52 p0 x19u).f1) = ((gt z52 p1 x19u).f1)) && decide (((gt z52 p0 x19u).f2) = ((gt z52 p1 x19u).f2)))) = true
     ·rw [if_pos c1dz] at H
      have hb_ : (decide (((gt z52 p0 x19u).f0) = ((gt z52 p1 x19u).f0)) && (decide (((gt z52 p0 x19u).f1) = ((gt z52 p1 x19u).f1)) && decide (((gt z52 p0 x19u).f2) = ((gt z52 p1 x19u).f2)))) = true := c1dz
      try rw [hb_] at h1dx
      clear hb_
      refine wp_else h1dx rfl ?_
      refine wp_skip ?_
      refine WL.start ?_
      refine WL.bl 2 2 h1dx [(13, i6 (IntKind.i64.wrap (x19u + 1))), (25, i6 (IntKind.i64.wrap (x19u + 1)))] (fun a1e0 h1e1 => ?_)
      refine WL.dn ?_
      exact ⟨kk19v, by omega, IntKind.i64.wrap (x19u + 1), h1e1.keep ⟨rfl, rfl, rfl, rfl, trivial⟩, ⟨H⟩, ⟨by omega⟩, ⟨hS1cn⟩⟩
     ·rw [if_neg c1dz] at H
      have hb_ : (decide (((gt z52 p0 x19u).f0) = ((gt z52 p1 x19u).f0)) && (decide (((gt z52 p0 x19u).f1) = ((gt z52 p1 x19u).f1)) && decide (((gt z52 p0 x19u).f2) = ((gt z52 p1 x19u).f2)))) = false := (Bool.eq_false_iff.2 c1dz)
      try rw [hb_] at h1dx
      clear hb_
      refine wp_then h1dx rfl ?_
      refine wp_seq ?_
      refine WL.start ?_
      refine WL.bl 1 1 h1dx [(4, .bool false)] (fun a1e2 h1e3 => ?_)
      refine WL.dn ?_
      refine wp_ret ?_
      obtain rfl := Option.some.inj H
      repeat (first | with_reducible refine t1 ?_ | with_reducible refine t2 ?_ | with_reducible refine t3 ?_)
      refine bret (.bool false) h1e3 ?_
      exact ⟨rfl, hS1cn⟩
    ·rw [if_neg c1dg] at H
     cases H
   ·rw [if_neg c1d0] at H
    cases H
  ·rw [if_neg c19y] at H
   have hb_ : (decide (x19u < (p0.length : Int))) = false := decide_eq_false c19y
   try rw [hb_] at h19x
   clear hb_
   refine wp_else h19x rfl ?_
   refine wp_exit ?_
   refine wp_seq ?_
   refine WL.start ?_
   refine WL.bl 1 1 h19x [(4, .bool true)] (fun a1e4 h1e5 => ?_)
   refine WL.dn ?_
   refine wp_ret ?_
   obtain rfl := Option.some.inj H
   repeat (first | with_reducible refine t1 ?_ | with_reducible refine t2 ?_ | with_reducible refine t3 ?_)
   refine bret (.bool true) h1e5 ?_
   exact ⟨rfl, hS19s⟩
 ·rw [if_neg c19m] at H
  have hb_ : (decide ((p0.length : Int) = (p1.length : Int))) = false := decide_eq_false c19m
  try rw [hb_] at h19l
  clear hb_
  refine wp_then h19l rfl ?_
  refine wp_seq ?_
  refine WL.start ?_
  refine WL.bl 1 1 h19l [(4, .bool false)] (fun a1e6 h1e7 => ?_)
  refine WL.dn ?_
  refine wp_ret ?_
  obtain rfl := Option.some.inj H
  repeat (first | with_reducible refine t1 ?_ | with_reducible refine t2 ?_ | with_reducible refine t3 ?_)
  refine bret (.bool false) h1e7 ?_
  exact ⟨rfl, hS⟩

/-! ### (*louver/dyntable.Table).Size -/
def dyntable_Table_Size.f (p0 : S79) : Option (Int) := some p0.f1
set_option maxHeartbeats 20000000 in
set_option maxRecDepth 100000 in
theorem dyntable_Table_Size.calls {b : Nat} {w0 W : World} {R : Frag} {Fs : List Frag} {p0 : S79}  {v0 : Value} {M0 : Frag} {r0q : Int} (hp0 : Ptr k79 79 b w0 R v0 p0 M0) (H : dyntable_Table_Size.f p0 = some r0q) (hS : St b w0 W R (M0 :: Fs)) :
  Calls Tryd.prog 29 ([v0] : List Value).toArray W (fun e W' => ∃ (O0q : Frag), e = .returned (i6 r0q) ∧ Ptr k79 79 b w0 R v0 p0 O0q ∧ St b w0 W' R (O0q :: Fs)) := by
 unfold dyntable_Table_Size.f at H
 refine calls_enter Tryd.func29 rfl 9 rfl (by kernel_rfl) (fun a h => ?_)
 refine wp_seq ?_
 refine WL.start ?_
 refine WL.bl 1 1 h [(2, i6 0)] (fun a10n h10o => ?_)
 refine WL.dn ?_
 refine wp_seq ?_
 refine wp_seq ?_
 refine WL.start ?_
 refine WL.bl 1 1 h10o [(3, v0)] (fun a10p h10q => ?_)
 obtain ⟨g10s, A10t, c10u, M10v, rfl, hr10w, hS10r⟩ := k79qop hp0 hS
 refine WL.bl 1 2 h10q [(4, .bool false)] (fun a10x h10y => ?_)
 refine WL.dn ?_
 refine wp_else h10y rfl ?_
 refine wp_skip ?_
 refine wp_seq ?_
 refine WL.start ?_
 refine WL.bl 3 3 h10y [(7, .pointer (some ⟨g10s, 1, none⟩)), (6, pt g10s), (5, pt g10s)] (fun a10z h110 => ?_)
 refine WL.oq h110 rfl ?_
 refine owp_rn (i6 p0.f1) h110 rfl (run_load1 rfl rfl Tryd.underlying3 rfl (hS10r.cell (i := 1) rfl)) (fun a111 h112 => ?_)
 refine WL.bl 1 5 h112 [(2, i6 p0.f1)] (fun a113 h114 => ?_)
 refine WL.dn ?_
 refine wp_ret ?_
 have hS115 := hS10r.b1
 have hS116 := hS115.b1
 obtain ⟨M117, hp118, hS119⟩ := k79qfo p0 hr10w hS116
 obtain rfl := Option.some.inj H
 repeat (first | with_reducible refine t1 ?_ | with_reducible refine t2 ?_ | with_reducible refine t3 ?_)
 refine bret (i6 p0.f1) h114 ?_
 exact ⟨M117, rfl, hp118, hS119⟩

/-! ### (*louver/hpack.Decoder).Table -/
def hpack_Decoder_Table.f (p0 : S64) : Option (Int) := bnd1 (dyntable_Table_Size.f p0.f0) fun r11d => (some r11d)
set_option maxHeartbeats 20000000 in
set_option maxRecDepth 100000 in
theorem hpack_Decoder_Table.calls {b : Nat} {w0 W : World} {R : Frag} {Fs : List Frag} {p0 : S64}  {v0 : Value} {M0 : Frag} {r0q : Int} (hp0 : Ptr k64 64 b w0 R v0 p0 M0) (H : hpack_Decoder_Table.f p0 = some r0q) (hS : St b w0 W R (M0 :: Fs)) :
  Calls Tryd.prog 15 ([v0] : List Value).toArray W (fun e W' => ∃ (O0q : Frag), e = .returned (i6 r0q) ∧ Ptr k64 64 b w0 R v0 p0 O0q ∧ St b w0 W' R (O0q :: Fs)) := by
 unfold hpack_Decoder_Table.f at H
 refine calls_enter Tryd.func15 rfl 10 rfl (by kernel_rfl) (fun a h => ?_)
 refine wp_seq ?_
 refine WL.start ?_
 refine WL.bl 1 1 h [(2, i6 0)] (fun a10w h10x => ?_)
 refine WL.dn ?_
 refine wp_seq ?_
 refine wp_seq ?_
 refine WL.start ?_
 refine WL.bl 1 1 h10x [(3, v0)] (fun a10y h10z => ?_)
 obtain ⟨g111, g112, M113, rfl, hr114, hS110⟩ := k64qop hp0 hS
 refine WL.bl 1 2 h10z [(4, .bool false)] (fun a115 h116 => ?_)
 refine WL.dn ?_
 refine wp_else h116 rfl ?_
 refine wp_skip ?_
 refine wp_seq ?_
 refine WL.start ?_
 refine WL.bl 3 3 h116 [(7, pt g111), (6, pt g111), (5, pt g111)] (fun a117 h118 => ?_)
 refine WL.oq h118 rfl ?_
 refine owp_rn (pt g112) h118 rfl (run_load1 rfl rfl Tryd.underlying59 rfl (hS110.cell (i := 0) rfl)) (fun a119 h11a => ?_)
 have hS11b := hS110.b1
 obtain ⟨r11d, A11c, H⟩ := bind1 H
 refine WL.oq h11a rfl ?_
 refine owp_call [(pt g112)] h11a rfl (by kernel_rfl) rfl Tryd.func29 (by kernel_rfl) rfl (by kernel_rfl) (dyntable_Table_Size.calls hr114 A11c hS11b) (fun e11f W11e hp11g => ?_)
 obtain ⟨M11j, rfl, hr11k, hS11l⟩ := hp11g
 refine ⟨_, rfl, fun a11h h11i => ?_⟩
 refine WL.bl 1 6 h11i [(2, i6 r11d)] (fun a11m h11n => ?_)
 refine WL.dn ?_
 refine wp_ret ?_
 have hS11o := hS11l.b1
 obtain ⟨M11p, hp11q, hS11r⟩ := k64qfo p0 hr11k hS11o
 obtain rfl := Option.some.inj H
 repeat (first | with_reducible refine t1 ?_ | with_reducible refine t2 ?_ | with_reducible refine t3 ?_)
 refine bret (i6 r11d) h11n ?_
 exact ⟨M11p, rfl, hp11q, hS11r⟩

/-! ### (*louver/hpack.Decoder).Table -/
def hpack_Decoder_Table_nil.f  : Option (Int) := some 0
set_option maxHeartbeats 20000000 in
set_option maxRecDepth 100000 in
theorem hpack_Decoder_Table_nil.calls {b : Nat} {w0 W : World} {R : Frag} {Fs : List Frag}   {r0q : Int}  (H : hpack_Decoder_Table_nil.f = some r0q) (hS : St b w0 W R (Fs)) :
  Calls Tryd.prog 15 ([.pointer none] : List Value).toArray W (fun e W' => e = .returned (i6 r0q) ∧ St b w0 W' R (Fs)) := by
 unfold hpack_Decoder_Table_nil.f at H
 refine calls_enter Tryd.func15 rfl 10 rfl (by kernel_rfl) (fun a h => ?_)
 refine wp_seq ?_
 refine WL.start ?_
 refine WL.bl 1 1 h [(2, i6 0)] (fun a106 h107 => ?_)
 refine WL.dn ?_
 refine wp_seq ?_
 refine wp_seq ?_
 refine WL.start ?_
 refine WL.bl 2 2 h107 [(4, .bool true), (3, .pointer none)] (fun a108 h109 => ?_)
 refine WL.dn ?_
 refine wp_then h109 rfl ?_
 refine wp_seq ?_
 refine WL.start ?_
 refine WL.bl 1 1 h109 [(2, i6 0)] (fun a10a h10b => ?_)
 refine WL.dn ?_
 refine wp_ret ?_
 obtain rfl := Option.some.inj H
 repeat (first | with_reducible refine t1 ?_ | with_reducible refine t2 ?_ | with_reducible refine t3 ?_)
 refine bret (i6 0) h10b ?_
 exact ⟨rfl, hS⟩

/-! ### (louver/louverref05.T).Size -/
def louverref05qT_Size.l0 : Nat → Int → Int → S43 → Option (Int)
 | 0, _, _, _ => none
 | k + 1, x142, x143, p0 => if x143 < (p0.f0.length : Int) then (if 0 ≤ x143 then (bnd1 (louverref05qSize.f (⟨(gt z52 p0.f0 x143).f0, (gt z52 p0.f0 x143).f1, (gt z52 p0.f0 x143).f2⟩ : S52)) fun r14v => (louverref05qT_Size.l0 k (IntKind.i64.wrap (x142 + r14v)) (IntKind.i64.wrap (x143 + 1)) p0)) else (none)) else (some x142)
def louverref05qT_Size.f (k : Nat) (p0 : S43) : Option (Int) := louverref05qT_Size.l0 k 0 0 p0
set_option maxHeartbeats 20000000 in
set_option maxRecDepth 100000 in
theorem louverref05qT_Size.calls (k : Nat) {b : Nat} {w0 W : World} {R : Frag} {Fs : List Frag} {p0 : S43} {v0q0 : Value} {r0q : Int} (hp0q0 : Rds k52 b w0 R v0q0 p0.f0) (H : louverref05qT_Size.f k p0 = some r0q) (hS : St b w0 W R (Fs)) :
  Calls Tryd.prog 22 ([.agg #[v0q0, i6 p0.f1]] : List Value).toArray W (fun e W' => e = .returned (i6 r0q) ∧ St b w0 W' R (Fs)) := by
 obtain ⟨A0q0, c0q0, rfl⟩ := hp0q0.form
 unfold louverref05qT_Size.f at H
 refine calls_enter Tryd.func22 rfl 21 rfl (by kernel_rfl) (fun a h => ?_)
 refine wp_seq ?_
 refine WL.start ?_
 refine WL.oq h rfl ?_
 refine owp_nw (fun g_ => (pt g_)) (.cells ([.slice A0q0 p0.f0.length c0q0, i6 p0.f1] : List Value).toArray 43 (0, 0)) h rfl hS (fun a13i W13k g13l h13j hS13m => ?_)
 refine WL.bl 1 2 h13j [(2, i6 0)] (fun a13n h13o => ?_)
 refine WL.dn ?_
 refine wp_seq ?_
 refine WL.start ?_
 refine WL.bl 1 1 h13o [(3, i6 0)] (fun a13p h13q => ?_)
 refine WL.dn ?_
 refine wp_seq ?_
 refine wp_seq ?_
 refine WL.start ?_
 refine WL.bl 1 1 h13q [(5, pt g13l)] (fun a13r h13s => ?_)
 refine WL.oq h13s rfl ?_
 refine owp_rn (.slice A0q0 p0.f0.length c0q0) h13s rfl (run_load1 rfl rfl Tryd.underlying23 rfl (hS13m.cell (i := 0) rfl)) (fun a13t h13u => ?_)
 refine WL.bl 2 4 h13u [(8, i6 0), (7, i6 (p0.f0.length : Int))] (fun a13v h13w => ?_)
 refine WL.dn ?_
 refine wp_block ?_
 clear h13j a13i h13o a13n h13q a13p h13s a13r h13u a13t
 refine wp_loop_ghost (fun kq_ a_ W_ => ∃ (x142 : Int), ∃ (x143 : Int), Hd a_ 21 [(1, pt g13l), (3, i6 x142), (7, i6 (p0.f0.length : Int)), (8, i6 x143)] ∧ Asd (louverref05qT_Size.l0 kq_ x142 x143 p0 = some r0q) ∧ Asd (kq_ ≤ k) ∧ Asd (St b w0 W_ R ((bx g13l 43 [.slice A0q0 p0.f0.length c0q0, i6 p0.f1]) :: Fs))) k ⟨0, 0, h13w.keep ⟨rfl, rfl, rfl, rfl, trivial⟩, ⟨H⟩, ⟨Nat.le_refl _⟩, ⟨hS13m⟩⟩ ?_
 clear H hS13m
 rintro kk141 a13y W13z ⟨x142, x143, h13x, ⟨H⟩, ⟨hkkk141⟩, ⟨hS140⟩⟩
 obtain _ | kk144 := kk141
 ·exact absurd H (by simp [louverref05qT_Size.l0])
 simp only [louverref05qT_Size.l0] at H
 refine wp_seq ?_
 refine WL.start ?_
 refine WL.bl 1 1 h13x [(9, .bool (decide (x143 < (p0.f0.length : Int))))] (fun a145 h146 => ?_)
 refine WL.dn ?_
 refine wp_seq ?_
 clear h13x a13y
 by_cases c147 : x143 < (p0.f0.length : Int)
 ·rw [if_pos c147] at H
  have hb_ : (decide (x143 < (p0.f0.length : Int))) = true := decide_eq_true c147
  try rw [hb_] at h146
  clear hb_
  refine wp_then h146 rfl ?_
  refine wp_skip ?_
  refine wp_seq ?_
  refine wp_block ?_
  refine wp_seq ?_
  refine WL.start ?_
  refine WL.bl 2 2 h146 [(4, i6 x143), (10, i6 x143)] (fun a148 h149 => ?_)
  refine WL.dn ?_
  refine WL.start ?_
  refine WL.bl 2 2 h149 [(12, pt g13l), (11, i6 x142)] (fun a14a h14b => ?_)
  refine WL.oq h14b rfl ?_
  refine owp_rn (.slice A0q0 p0.f0.length c0q0) h14b rfl (run_load1 rfl rfl Tryd.underlying23 rfl (hS140.cell (i := 0) rfl)) (fun a14c h14d => ?_)
  refine WL.bl 1 4 h14d [(14, i6 x143)] (fun a14e h14f => ?_)
  clear h146 a145 h149 a148 h14b a14a h14d a14c
  by_cases c14g : 0 ≤ x143
  ·rw [if_pos c14g] at H
   have hi14j : 0 ≤ x143 := by first | assumption | omega
   have hi14k : x143 < (p0.f0.length : Int) := by first | assumption | omega
   obtain ⟨ad14h, _, ha14i, -, -⟩ := Rds.elemAny hp0q0 hi14j (gt_get (z := z52) hi14j hi14k)
   refine WL.oq h14f rfl ?_
   refine owp_rn (.pointer (some (ad14h.add (x143.toNat * 3)))) h14f rfl (run_idx (ad := ad14h) (sz := 3) rfl (by rw [← ha14i]; rfl) rfl Tryd.underlying23 (by kernel_rfl) hi14j hi14k) (fun a14l h14m => ?_)
   obtain ⟨ad14n, cs14o, ha14p, hr14r, hc14q⟩ := Rds.elemAny hp0q0 hi14j (gt_get (z := z52) hi14j hi14k)
   rw [ha14i] at ha14p; obtain rfl := Option.some.inj ha14p
   obtain rfl := k52qrd hr14r
   refine WL.oq h14m rfl ?_
   refine owp_rn (.agg #[.string (mkS ((gt z52 p0.f0 x143).f0)), .string (mkS ((gt z52 p0.f0 x143).f1)), .bool ((gt z52 p0.f0 x143).f2)]) h14m rfl (run_loadN rfl rfl Tryd.underlying52 rfl (cs := [.string (mkS ((gt z52 p0.f0 x143).f0)), .string (mkS ((gt z52 p0.f0 x143).f1)), .bool ((gt z52 p0.f0 x143).f2)]) (by kernel_rfl) (hc14q _ (fun _ _ hk_ => hS140.kn hk_))) (fun a14s h14t => ?_)
   obtain ⟨r14v, A14u, H⟩ := bind1 H
   refine WL.oq h14t rfl ?_
   refine owp_call [.agg #[.string (mkS ((gt z52 p0.f0 x143).f0)), .string (mkS ((gt z52 p0.f0 x143).f1)), .bool ((gt z52 p0.f0 x143).f2)]] h14t rfl (by kernel_rfl) rfl Tryd.func23 (by kernel_rfl) rfl (by kernel_rfl) (louverref05qSize.calls (p0 := (⟨(gt z52 p0.f0 x143).f0, (gt z52 p0.f0 x143).f1, (gt z52 p0.f0 x143).f2⟩ : S52))  A14u hS140) (fun e14x W14w hp14y => ?_)
   obtain ⟨rfl, hS151⟩ := hp14y
   refine ⟨_, rfl, fun a14z h150 => ?_⟩
   refine WL.bl 2 9 h150 [(3, i6 (IntKind.i64.wrap (x142 + r14v))), (18, i6 (IntKind.i64.wrap (x142 + r14v)))] (fun a152 h153 => ?_)
   refine WL.dn ?_
   refine WL.start ?_
   refine WL.bl 2 2 h153 [(8, i6 (IntKind.i64.wrap (x143 + 1))), (19, i6 (IntKind.i64.wrap (x143 + 1)))] (fun a154 h155 => ?_)
   refine WL.dn ?_
   exact ⟨kk144, by omega, IntKind.i64.wrap (x142 + r14v), IntKind.i64.wrap (x143 + 1), h155.keep ⟨rfl, rfl, rfl, rfl, trivial⟩, ⟨H⟩, ⟨by omega⟩, ⟨hS151⟩⟩
  ·rw [if_neg c14g] at H
   cases H
 ·rw [if_neg c147] at H
  have hb_ : (decide (x143 < (p0.f0.length : Int))) = false := decide_eq_false c147
  try rw [hb_] at h146
  clear hb_
  refine wp_else h146 rfl ?_
  refine wp_exit ?_
  refine wp_seq ?_
  refine WL.start ?_
  refine WL.bl 2 2 h146 [(2, i6 x142), (20, i6 x142)] (fun a156 h157 => ?_)
  refine WL.dn ?_
  refine wp_ret ?_
  have hS158 := hS140.drop_
  obtain rfl := Option.some.inj H
  repeat (first | with_reducible refine t1 ?_ | with_reducible refine t2 ?_ | with_reducible refine t3 ?_)
  refine bret (i6 x142) h157 ?_
  exact ⟨rfl, hS158⟩

/-! ### louver/louverlaw06.HpackGets -/
mutual
def louverlaw06qHpackGets.l0 : Nat → Int → Int → Int → (List (List Int)) → Option (Bool)
 | 0, _, _, _, _ => none
 | k + 1, x2ky, x2kz, p0, p1 => if x2kz < (p1.length : Int) then (if 0 ≤ x2kz then (if (IntKind.i64.wrap (x2ky + (IntKind.i64.wrap (((gt [] p1 x2kz).length : Int) + 1)))) > 600 then (bnd1 (louverlaw06qfixed.f k) fun r2lu => (some r2lu)) else (louverlaw06qHpackGets.l0 k (IntKind.i64.wrap (x2ky + (IntKind.i64.wrap (((gt [] p1 x2kz).length : Int) + 1)))) (IntKind.i64.wrap (x2kz + 1)) p0 p1)) else (none)) else (bnd1 (hpack_NewDecoder.f p0) fun r2m8 => (bnd1 (louverref06qNew.f p0) fun r2mo => (louverlaw06qHpackGets.l1 k r2m8 (⟨(⟨r2mo.f0.f0, r2mo.f0.f1⟩ : S43), r2mo.f1⟩ : S45) 0 p1)))
def louverlaw06qHpackGets.l1 : Nat → S64 → S45 → Int → (List (List Int)) → Option (Bool)
 | 0, _, _, _, _ => none
 | k + 1, x2ng, x2nj, x2nm, p1 => if x2nm < (p1.length : Int) then (if 0 ≤ x2nm then (if ([] : List Int).length + (gt [] p1 x2nm).length ≤ 140737488355328 then (lt1 (([] : List Int) ++ (gt [] p1 x2nm) : List Int) fun y2ox => (bnd3 (hpack_Decoder_Get.f k x2ng y2ox) fun r2p9 r2pa r2pb => (lt1 (List.replicate y2ox.length (0 : Int) : List Int) fun y2qc => (bnd3 (louverref06qD_Get.f k (⟨(⟨x2nj.f0.f0, x2nj.f0.f1⟩ : S43), x2nj.f1⟩ : S45) (gt [] p1 x2nm)) fun r2qt r2qu r2qv => (if r2qv = 0 then (if (decide (r2pa.f0 = 0) && decide (r2pa.f1 = 0)) = true then (bnd1 (louverref06qSame.f k r2p9 r2qt) fun r308 => (if r308 = true then (bnd1 (hpack_Decoder_Table.f r2pb) fun r311 => (bnd1 (louverref05qT_Size.f k (⟨r2qu.f0.f0, r2qu.f0.f1⟩ : S43)) fun r31c => (if r311 = r31c then (louverlaw06qHpackGets.l1 k r2pb (⟨(⟨r2qu.f0.f0, r2qu.f0.f1⟩ : S43), r2qu.f1⟩ : S45) (IntKind.i64.wrap (x2nm + 1)) p1) else (some false)))) else (some false))) else (some false)) else (bnd1 (louverlaw06qfixed.f k) fun r34r => (if r34r = true then (if (decide (r2pa.f0 = 1) && decide (r2pa.f1 = (IntKind.u32.wrap r2qv))) = true then (some (decide ((r2p9.length : Int) = 0))) else (some false)) else (some false)))))))) else (none)) else (none)) else (bnd1 (louverlaw06qfixed.f k) fun r374 => (some r374))
end
def louverlaw06qHpackGets.f (k : Nat) (p0 : Int) (p1 : (List (List Int))) : Option (Bool) := louverlaw06qHpackGets.l0 k 0 0 p0 p1
set_option maxHeartbeats 20000000 in
set_option maxRecDepth 100000 in
theorem louverlaw06qHpackGets.calls (k : Nat) {b : Nat} {w0 W : World} {R : Frag} {Fs : List Frag} {p0 : Int} {p1 : (List (List Int))} {v1 : Value} {r0q : Bool} (hp1 : Rds (kRds (kInt .u8)) b w0 R v1 p1) (hg0 : Rds k52 b w0 [] (.slice (some ⟨0, 0, none⟩) 61 61) G0) (hg1 : Rds (kInt .u8) b w0 [] (.slice (some ⟨1, 0, none⟩) 257 257) G1) (H : louverlaw06qHpackGets.f k p0 p1 = some r0q) (hS : St b w0 W R (Fs)) :
  Calls Tryd.prog 8 ([.int .u32 p0, v1] : List Value).toArray W (fun e W' => e = .returned (.bool r0q) ∧ St b w0 W' R (Fs)) := by
 obtain ⟨A1, c1, rfl⟩ := hp1.form
 unfold louverlaw06qHpackGets.f at H
 refine calls_enter Tryd.func8 rfl 95 rfl (by kernel_rfl) (fun a h => ?_)
 refine wp_seq ?_
 refine WL.start ?_
 refine WL.bl 1 1 h [(4, .bool false)] (fun a2kn h2ko => ?_)
 refine WL.dn ?_
 refine wp_seq ?_
 refine WL.start ?_
 refine WL.bl 1 1 h2ko [(5, i6 0)] (fun a2kp h2kq => ?_)
 refine WL.dn ?_
 refine wp_seq ?_
 refine wp_seq ?_
 refine WL.start ?_
 refine WL.bl 3 3 h2kq [(20, i6 0), (19, i6 (p1.length : Int)), (18, .slice A1 p1.length c1)] (fun a2kr h2ks => ?_)
 refine WL.dn ?_
 refine wp_block ?_
 clear h2ko a2kn h2kq a2kp
 refine wp_loop_ghost (fun kq_ a_ W_ => ∃ (x2ky : Int), ∃ (x2kz : Int), Hd a_ 95 [(0, .int .u32 p0), (1, .slice A1 p1.length c1), (5, i6 x2ky), (18, .slice A1 p1.length c1), (19, i6 (p1.length : Int)), (20, i6 x2kz)] ∧ Asd (louverlaw06qHpackGets.l0 kq_ x2ky x2kz p0 p1 = some r0q) ∧ Asd (kq_ ≤ k) ∧ Asd (St b w0 W_ R (Fs))) k ⟨0, 0, h2ks.keep ⟨rfl, rfl, rfl, rfl, rfl, rfl, trivial⟩, ⟨H⟩, ⟨Nat.le_refl _⟩, ⟨hS⟩⟩ ?_
 clear H hS
 rintro kk2kx a2ku W2kv ⟨x2ky, x2kz, h2kt, ⟨H⟩, ⟨hkkk2kx⟩, ⟨hS2kw⟩⟩
 obtain _ | kk2l0 := kk2kx
 ·exact absurd H (by simp [louverlaw06qHpackGets.l0])
 simp only [louverlaw06qHpackGets.l0] at H
 refine wp_seq ?_
 refine WL.start ?_
 refine WL.bl 1 1 h2kt [(21, .bool (decide (x2kz < (p1.length : Int))))] (fun a2l1 h2l2 => ?_)
 refine WL.dn ?_
 refine wp_seq ?_
 clear h2kt a2ku
 by_cases c2l3 : x2kz < (p1.length : Int)
 ·rw [if_pos c2l3] at H
  have hb_ : (decide (x2kz < (p1.length : Int))) = true := decide_eq_true c2l3
  try rw [hb_] at h2l2
  clear hb_
  refine wp_then h2l2 rfl ?_
  refine wp_skip ?_
  refine wp_seq ?_
  refine wp_block ?_
  refine wp_seq ?_
  refine WL.start ?_
  by_cases c2l4 : 0 ≤ x2kz
  ·rw [if_pos c2l4] at H
   have hi2l7 : 0 ≤ x2kz := by first | assumption | omega
   have hi2l8 : x2kz < (p1.length : Int) := by first | assumption | omega
   obtain ⟨ad2l5, _, ha2l6, -, -⟩ := Rds.elemAny hp1 hi2l7 (gt_get (z := []) hi2l7 hi2l8)
   refine WL.oq h2l2 rfl ?_
   refine owp_rn (.pointer (some (ad2l5.add (x2kz.toNat * 1)))) h2l2 rfl (run_idx (ad := ad2l5) (sz := 1) rfl (by rw [← ha2l6]; rfl) rfl Tryd.underlying57 (by kernel_rfl) hi2l7 hi2l8) (fun a2l9 h2la => ?_)
   obtain ⟨ad2lb, cs2lc, ha2ld, hr2lf, hc2le⟩ := Rds.elemAny hp1 hi2l7 (gt_get (z := []) hi2l7 hi2l8)
   rw [ha2l6] at ha2ld; obtain rfl := Option.some.inj ha2ld
   obtain ⟨v2lg, rfl, hx2lh⟩ := hr2lf
   obtain ⟨A2li, c2lj, rfl⟩ := hx2lh.form
   refine WL.oq h2la rfl ?_
   refine owp_rn (.slice A2li (gt [] p1 x2kz).length c2lj) h2la rfl (run_load1 rfl rfl Tryd.underlying22 rfl (cell0 (hc2le _ (fun _ _ hk_ => hS2kw.kn hk_)))) (fun a2lk h2ll => ?_)
   refine WL.bl 1 3 h2ll [(7, .slice A2li (gt [] p1 x2kz).length c2lj)] (fun a2lm h2ln => ?_)
   refine WL.dn ?_
   refine wp_seq ?_
   refine WL.start ?_
   refine WL.bl 6 6 h2ln [(5, i6 (IntKind.i64.wrap (x2ky + (IntKind.i64.wrap (((gt [] p1 x2kz).length : Int) + 1))))), (28, i6 (IntKind.i64.wrap (x2ky + (IntKind.i64.wrap (((gt [] p1 x2kz).length : Int) + 1))))), (27, i6 (IntKind.i64.wrap (((gt [] p1 x2kz).length : Int) + 1))), (26, i6 ((gt [] p1 x2kz).length : Int)), (25, .slice A2li (gt [] p1 x2kz).length c2lj), (24, i6 x2ky)] (fun a2lo h2lp => ?_)
   refine WL.dn ?_
   refine wp_seq ?_
   refine WL.start ?_
   refine WL.bl 2 2 h2lp [(30, .bool (decide ((IntKind.i64.wrap (x2ky + (IntKind.i64.wrap (((gt [] p1 x2kz).length : Int) + 1)))) > 600))), (29, i6 (IntKind.i64.wrap (x2ky + (IntKind.i64.wrap (((gt [] p1 x2kz).length : Int) + 1)))))] (fun a2lq h2lr => ?_)
   refine WL.dn ?_
   clear h2l2 a2l1 h2la a2l9 h2ll a2lk h2ln a2lm h2lp a2lo
   by_cases c2ls : (IntKind.i64.wrap (x2ky + (IntKind.i64.wrap (((gt [] p1 x2kz).length : Int) + 1)))) > 600
   ·rw [if_pos c2ls] at H
    have hb_ : (decide ((IntKind.i64.wrap (x2ky + (IntKind.i64.wrap (((gt [] p1 x2kz).length : Int) + 1)))) > 600)) = true := decide_eq_true c2ls
    try rw [hb_] at h2lr
    clear hb_
    refine wp_then h2lr rfl ?_
    refine wp_seq ?_
    refine WL.start ?_
    obtain ⟨r2lu, A2lt, H⟩ := bind1 H
    refine WL.oq h2lr rfl ?_
    refine owp_call [] h2lr rfl (by kernel_rfl) rfl Tryd.func10 (by kernel_rfl) rfl (by kernel_rfl) (louverlaw06qfixed.calls kk2l0 hg0 hg1 A2lt hS2kw) (fun e2lw W2lv hp2lx => ?_)
    obtain ⟨rfl, hS2m0⟩ := hp2lx
    refine ⟨_, rfl, fun a2ly h2lz => ?_⟩
    refine WL.bl 1 2 h2lz [(4, .bool r2lu)] (fun a2m1 h2m2 => ?_)
    refine WL.dn ?_
    refine wp_ret ?_
    obtain rfl := Option.some.inj H
    repeat (first | with_reducible refine t1 ?_ | with_reducible refine t2 ?_ | with_reducible refine t3 ?_)
    refine bret (.bool r2lu) h2m2 ?_
    exact ⟨rfl, hS2m0⟩
   ·rw [if_neg c2ls] at H
    have hb_ : (decide ((IntKind.i64.wrap (x2ky + (IntKind.i64.wrap (((gt [] p1 x2kz).length : Int) + 1)))) > 600)) = false := decide_eq_false c2ls
    try rw [hb_] at h2lr
    clear hb_
    refine wp_else h2lr rfl ?_
    refine wp_skip ?_
    refine WL.start ?_
    refine WL.bl 2 2 h2lr [(20, i6 (IntKind.i64.wrap (x2kz + 1))), (32, i6 (IntKind.i64.wrap (x2kz + 1)))] (fun a2m3 h2m4 => ?_)
    refine WL.dn ?_
    exact ⟨kk2l0, by omega, IntKind.i64.wrap (x2ky + (IntKind.i64.wrap (((gt [] p1 x2kz).length : Int) + 1))), IntKind.i64.wrap (x2kz + 1), h2m4.keep ⟨rfl, rfl, rfl, rfl, rfl, rfl, trivial⟩, ⟨H⟩, ⟨by omega⟩, ⟨hS2kw⟩⟩
  ·rw [if_neg c2l4] at H
   cases H
 ·rw [if_neg c2l3] at H
  have hb_ : (decide (x2kz < (p1.length : Int))) = false := decide_eq_false c2l3
  try rw [hb_] at h2l2
  clear hb_
  refine wp_else h2l2 rfl ?_
  refine wp_exit ?_
  refine wp_seq ?_
  refine WL.start ?_
  refine WL.bl 1 1 h2l2 [(33, .int .u32 p0)] (fun a2m5 h2m6 => ?_)
  obtain ⟨r2m8, A2m7, H⟩ := bind1 H
  refine WL.oq h2m6 rfl ?_
  refine owp_call [.int .u32 p0] h2m6 rfl (by kernel_rfl) rfl Tryd.func18 (by kernel_rfl) rfl (by kernel_rfl) (hpack_NewDecoder.calls  A2m7 hS2kw) (fun e2ma W2m9 hp2mb => ?_)
  obtain ⟨v2me, M2mf, rfl, hr2mg, hS2mh⟩ := hp2mb
  refine ⟨_, rfl, fun a2mc h2md => ?_⟩
  obtain ⟨g2mi, rfl⟩ := hr2mg.ptr_form
  refine WL.bl 1 3 h2md [(8, pt g2mi)] (fun a2mj h2mk => ?_)
  refine WL.dn ?_
  refine wp_seq ?_
  refine WL.start ?_
  refine WL.bl 1 1 h2mk [(35, .int .u32 p0)] (fun a2ml h2mm => ?_)
  obtain ⟨r2mo, A2mn, H⟩ := bind1 H
  refine WL.oq h2mm rfl ?_
  refine owp_call [.int .u32 p0] h2mm rfl (by kernel_rfl) rfl Tryd.func19 (by kernel_rfl) rfl (by kernel_rfl) (louverref06qNew.calls  A2mn hS2mh) (fun e2mq W2mp hp2mr => ?_)
  obtain ⟨v2mu, M2mv, rfl, hr2mw, hS2mx⟩ := hp2mr
  refine ⟨_, rfl, fun a2ms h2mt => ?_⟩
  obtain ⟨A2my, c2mz, rfl⟩ := hr2mw.form
  refine WL.oq h2mt rfl ?_
  refine owp_nw (fun g_ => (pt g_)) (.cells ([.slice none 0 0, i6 0, i6 0] : List Value).toArray 45 (0, 0)) h2mt rfl hS2mx (fun a2n0 W2n2 g2n3 h2n1 hS2n4 => ?_)
  refine WL.oq h2n1 rfl ?_
  refine owp_st 0 [.slice A2my r2mo.f0.f0.length c2mz, i6 r2mo.f0.f1, i6 r2mo.f1] h2n1 rfl rfl rfl hS2n4 [.slice A2my r2mo.f0.f0.length c2mz, i6 r2mo.f0.f1, i6 r2mo.f1] (fun a2n5 W2n7 h2n6 hS2n8 => ?_)
  refine WL.dn ?_
  refine wp_seq ?_
  refine wp_seq ?_
  refine WL.start ?_
  refine WL.bl 3 3 h2n6 [(39, i6 0), (38, i6 (p1.length : Int)), (37, .slice A1 p1.length c1)] (fun a2n9 h2na => ?_)
  refine WL.dn ?_
  refine wp_block ?_
  have hS2nn := hS2n8.b1
  have hS2no := hS2nn.b1
  obtain ⟨M2np, hp2nq, hS2nr⟩ := k45qfo (⟨(⟨r2mo.f0.f0, r2mo.f0.f1⟩ : S43), r2mo.f1⟩ : S45) hr2mw hS2no
  have hS2ns := hS2nr.b1
  clear h2l2 a2l1 h2m6 a2m5 h2md a2mc h2mk a2mj h2mm a2ml h2mt a2ms h2n1 a2n0 h2n6 a2n5
  refine wp_loop_ghost (fun kq_ a_ W_ => ∃ (x2ng : S64), ∃ (M2nh : Frag), ∃ (x2nj : S45), ∃ (M2nk : Frag), ∃ (x2nm : Int), Hd a_ 95 [(8, pt g2mi), (9, pt g2n3), (37, .slice A1 p1.length c1), (38, i6 (p1.length : Int)), (39, i6 x2nm)] ∧ Asd (louverlaw06qHpackGets.l1 kq_ x2ng x2nj x2nm p1 = some r0q) ∧ Asd (kq_ ≤ kk2l0) ∧ Asd (St b w0 W_ R (M2nh :: M2nk :: Fs)) ∧ Asd (Ptr k64 64 b w0 R (pt g2mi) x2ng M2nh) ∧ Asd (Ptr k45 45 b w0 R (pt g2n3) x2nj M2nk)) kk2l0 ⟨r2m8, M2mf, (⟨(⟨r2mo.f0.f0, r2mo.f0.f1⟩ : S43), r2mo.f1⟩ : S45), M2np, 0, h2na.keep ⟨rfl, rfl, rfl, rfl, rfl, trivial⟩, ⟨H⟩, ⟨Nat.le_refl _⟩, ⟨hS2ns⟩, ⟨hr2mg⟩, ⟨hp2nq⟩⟩ ?_
  clear H hS2ns
  rintro kk2nf a2nc W2nd ⟨x2ng, M2nh, x2nj, M2nk, x2nm, h2nb, ⟨H⟩, ⟨hkkk2nf⟩, ⟨hS2ne⟩, ⟨hr2ni⟩, ⟨hr2nl⟩⟩
  obtain _ | kk2nt := kk2nf
  ·exact absurd H (by simp [louverlaw06qHpackGets.l1])
  simp only [louverlaw06qHpackGets.l1] at H
  refine wp_seq ?_
  refine WL.start ?_
  refine WL.bl 1 1 h2nb [(40, .bool (decide (x2nm < (p1.length : Int))))] (fun a2nu h2nv => ?_)
  refine WL.dn ?_
  refine wp_seq ?_
  clear h2nb a2nc
  by_cases c2nw : x2nm < (p1.length : Int)
  ·rw [if_pos c2nw] at H
   have hb_ : (decide (x2nm < (p1.length : Int))) = true := decide_eq_true c2nw
   try rw [hb_] at h2nv
   clear hb_
   refine wp_then h2nv rfl ?_
   refine wp_skip ?_
   refine wp_seq ?_
   refine wp_block ?_
   refine wp_seq ?_
   refine WL.start ?_
   by_cases c2nx : 0 ≤ x2nm
   ·rw [if_pos c2nx] at H
    have hi2o0 : 0 ≤ x2nm := by first | assumption | omega
    have hi2o1 : x2nm < (p1.length : Int) := by first | assumption | omega
    obtain ⟨ad2ny, _, ha2nz, -, -⟩ := Rds.elemAny hp1 hi2o0 (gt_get (z := []) hi2o0 hi2o1)
    refine WL.oq h2nv rfl ?_
    refine owp_rn (.pointer (some (ad2ny.add (x2nm.toNat * 1)))) h2nv rfl (run_idx (ad := ad2ny) (sz := 1) rfl (by rw [← ha2nz]; rfl) rfl Tryd.underlying57 (by kernel_rfl) hi2o0 hi2o1) (fun a2o2 h2o3 => ?_)
    obtain ⟨ad2o4, cs2o5, ha2o6, hr2o8, hc2o7⟩ := Rds.elemAny hp1 hi2o0 (gt_get (z := []) hi2o0 hi2o1)
    rw [ha2nz] at ha2o6; obtain rfl := Option.some.inj ha2o6
    obtain ⟨v2o9, rfl, hx2oa⟩ := hr2o8
    obtain ⟨A2ob, c2oc, rfl⟩ := hx2oa.form
    refine WL.oq h2o3 rfl ?_
    refine owp_rn (.slice A2ob (gt [] p1 x2nm).length c2oc) h2o3 rfl (run_load1 rfl rfl Tryd.underlying22 rfl (cell0 (hc2o7 _ (fun _ _ hk_ => hS2ne.kn hk_)))) (fun a2od h2oe => ?_)
    refine WL.bl 1 3 h2oe [(11, .slice A2ob (gt [] p1 x2nm).length c2oc)] (fun a2of h2og => ?_)
    refine WL.dn ?_
    refine wp_seq ?_
    refine WL.start ?_
    refine WL.oq h2og rfl ?_
    refine owp_nw (fun g_ => .slice (some ⟨g_, 0, none⟩) 0 0) (.cells ([] : List Value).toArray 5 (0, 0)) h2og rfl hS2ne (fun a2oh W2oj g2ok h2oi hS2ol => ?_)
    have hr2om : Row (kInt .u8) 5 b w0 R (.slice (some ⟨g2ok, 0, none⟩) 0 0) ([] : List Int) (bx g2ok 5 []) := Row.lit (xs := ([] : List Int)) (Mi := []) ⟨rfl, rfl⟩ (by simp [maxLen])
    refine WL.bl 1 2 h2oi [(44, .slice A2ob (gt [] p1 x2nm).length c2oc)] (fun a2on h2oo => ?_)
    clear h2nv a2nu h2o3 a2o2 h2oe a2od h2og a2of h2oi a2oh
    by_cases c2op : ([] : List Int).length + (gt [] p1 x2nm).length ≤ 140737488355328
    ·rw [if_pos c2op] at H
     refine WL.oq h2oo rfl ?_
     refine owp_app_rds (z := .int .u8 0) (bytes := 1) (dk := (kInt .u8)) h2oo rfl (by kernel_rfl) rfl rfl rfl (kInt_flat _) hr2om hx2oa hS2ol Tryd.underlying22 (by kernel_rfl) rfl (by decide) (by decide) (by first | omega | (simp only [List.length_cons, List.length_nil] at *; omega)) (fun a2oq W2os v2ot M2ou h2or hr2ov hS2ow => ?_)
     obtain ⟨y2ox, hy2oy, H⟩ := lete H
     have hr2oz : Row (kInt .u8) 5 b w0 R v2ot y2ox M2ou := by rw [hy2oy]; exact hr2ov
     clear hr2ov
     obtain ⟨A2p0, c2p1, rfl⟩ := hr2oz.form
     refine WL.bl 1 4 h2or [(12, .slice A2p0 y2ox.length c2p1)] (fun a2p2 h2p3 => ?_)
     refine WL.dn ?_
     refine wp_seq ?_
     refine WL.start ?_
     refine WL.bl 2 2 h2p3 [(48, .slice A2p0 y2ox.length c2p1), (47, pt g2mi)] (fun a2p4 h2p5 => ?_)
     have hS2p6 := hS2ow.b1
     have hS2p7 := hS2p6.b1
     obtain ⟨r2p9, r2pa, r2pb, A2p8, H⟩ := bind3 H
     refine WL.oq h2p5 rfl ?_
     refine owp_call [(pt g2mi), .slice A2p0 y2ox.length c2p1] h2p5 rfl (by kernel_rfl) rfl Tryd.func12 (by kernel_rfl) rfl (by kernel_rfl) (hpack_Decoder_Get.calls kk2nt (hr2ni.mono (fun _ hp_ => List.mem_append_right _ hp_)) hr2oz.rds hg0 hg1 A2p8 (hS2p7.pool)) (fun e2pd W2pc hp2pe => ?_)
     obtain ⟨v2ph, M2pi, M2pk, rfl, hr2pj, hr2pl, hS2pm⟩ := hp2pe
     have hS2pn : St b w0 W2pc R (M2ou :: M2pi :: M2pk :: M2nk :: Fs) := hS2pm.unpool
     replace hr2pj : Row k52 52 b w0 R v2ph r2p9 M2pi := hr2pj.ind k52qind
     replace hr2pl : Ptr k64 64 b w0 R (pt g2mi) r2pb M2pk := hr2pl.ind k64qind
     refine ⟨_, rfl, fun a2pf h2pg => ?_⟩
     obtain ⟨A2po, c2pp, rfl⟩ := hr2pj.form
     refine WL.bl 3 6 h2pg [(51, .agg #[.int .u8 r2pa.f0, .int .u32 r2pa.f1]), (50, .slice A2po r2p9.length c2pp), (46, .tuple #[.slice A2po r2p9.length c2pp, .agg #[.int .u8 r2pa.f0, .int .u32 r2pa.f1]])] (fun a2pq h2pr => ?_)
     refine WL.oq h2pr rfl ?_
     refine owp_nw (fun g_ => (pt g_)) (.cells ([.int .u8 0, .int .u32 0] : List Value).toArray 31 (0, 0)) h2pr rfl hS2pn (fun a2ps W2pu g2pv h2pt hS2pw => ?_)
     refine WL.bl 1 8 h2pt [(13, .slice A2po r2p9.length c2pp)] (fun a2px h2py => ?_)
     refine WL.oq h2py rfl ?_
     refine owp_st 0 [.int .u8 r2pa.f0, .int .u32 r2pa.f1] h2py rfl rfl rfl hS2pw [.int .u8 r2pa.f0, .int .u32 r2pa.f1] (fun a2pz W2q1 h2q0 hS2q2 => ?_)
     refine WL.dn ?_
     refine wp_seq ?_
     refine WL.start ?_
     refine WL.bl 1 1 h2q0 [(52, .slice A2p0 y2ox.length c2p1)] (fun a2q3 h2q4 => ?_)
     have hS2q5 := hS2q2.b1
     refine WL.oq h2q4 rfl ?_
     refine owp_clear1 (ty := 0) (z := .int .u8 0) (z0 := (0 : Int)) h2q4 rfl (by kernel_rfl) rfl rfl hr2oz hS2q5 Tryd.underlying22 (by kernel_rfl) (fun _ _ _ => ⟨rfl, rfl⟩) rfl rfl (fun a2q6 W2q8 M2q9 h2q7 hr2qa hS2qb => ?_)
     obtain ⟨y2qc, hy2qd, H⟩ := lete H
     have hl2qe : y2qc.length = y2ox.length := by simp [hy2qd]
     have hr2qf : Row (kInt .u8) 5 b w0 R (.slice A2p0 y2qc.length c2p1) y2qc M2q9 := by rw [hl2qe]; rw [hy2qd]; exact hr2qa
     have h2qg : Hd a2q6 95 [(8, pt g2mi), (9, pt g2n3), (11, .slice A2ob (gt [] p1 x2nm).length c2oc), (12, .slice A2p0 y2qc.length c2p1), (13, .slice A2po r2p9.length c2pp), (14, pt g2pv), (37, .slice A1 p1.length c1), (38, i6 (p1.length : Int)), (39, i6 x2nm), (40, .bool true), (41, .pointer (some (ad2ny.add (x2nm.toNat * 1)))), (42, .slice A2ob (gt [] p1 x2nm).length c2oc), (43, .slice (some ⟨g2ok, 0, none⟩) 0 0), (44, .slice A2ob (gt [] p1 x2nm).length c2oc), (45, .slice A2p0 y2qc.length c2p1), (46, .tuple #[.slice A2po r2p9.length c2pp, .agg #[.int .u8 r2pa.f0, .int .u32 r2pa.f1]]), (47, pt g2mi), (48, .slice A2p0 y2qc.length c2p1), (49, .tuple #[.slice A2po r2p9.length c2pp, .agg #[.int .u8 r2pa.f0, .int .u32 r2pa.f1]]), (50, .slice A2po r2p9.length c2pp), (51, .agg #[.int .u8 r2pa.f0, .int .u32 r2pa.f1]), (52, .slice A2p0 y2qc.length c2p1)] := h2q7.keep ⟨rfl, rfl, rfl, (by rw [hl2qe] <;> rfl), rfl, rfl, rfl, rfl, rfl, rfl, rfl, rfl, rfl, rfl, (by rw [hl2qe] <;> rfl), rfl, rfl, (by rw [hl2qe] <;> rfl), rfl, rfl, rfl, (by rw [hl2qe] <;> rfl), trivial⟩
     clear h2q7
     refine WL.dn ?_
     refine wp_seq ?_
     refine WL.start ?_
     have hS2qh := hS2qb.b4
     obtain ⟨A2qj, c2qk, M2ql, hr2qm, hS2qi⟩ := k45qoq hr2nl hS2qh
     refine WL.oq h2qg rfl ?_
     refine owp_rn (.agg #[.slice A2qj x2nj.f0.f0.length c2qk, i6 x2nj.f0.f1, i6 x2nj.f1]) h2qg rfl (run_loadN rfl rfl Tryd.underlying45 rfl (cs := [.slice A2qj x2nj.f0.f0.length c2qk, i6 x2nj.f0.f1, i6 x2nj.f1]) (by kernel_rfl) (hS2qi.cells (vs := [.slice A2qj x2nj.f0.f0.length c2qk, i6 x2nj.f0.f1, i6 x2nj.f1]) rfl)) (fun a2qn h2qo => ?_)
     refine WL.bl 1 2 h2qo [(55, .slice A2ob (gt [] p1 x2nm).length c2oc)] (fun a2qp h2qq => ?_)
     clear h2oo a2on h2or a2oq h2p3 a2p2 h2p5 a2p4 h2pg a2pf h2pr a2pq h2pt a2ps h2py a2px h2q0 a2pz h2q4 a2q3 h2qg a2q6 h2qo a2qn
     have hS2qr := hS2qi.b1
     obtain ⟨r2qt, r2qu, r2qv, A2qs, H⟩ := bind3 H
     refine WL.oq h2qq rfl ?_
     refine owp_call [.agg #[.slice A2qj x2nj.f0.f0.length c2qk, i6 x2nj.f0.f1, i6 x2nj.f1], .slice A2ob (gt [] p1 x2nm).length c2oc] h2qq rfl (by kernel_rfl) rfl Tryd.func20 (by kernel_rfl) rfl (by kernel_rfl) (louverref06qD_Get.calls (p0 := (⟨(⟨x2nj.f0.f0, x2nj.f0.f1⟩ : S43), x2nj.f1⟩ : S45)) kk2nt hr2qm hx2oa A2qs hS2qr) (fun e2qx W2qw hp2qy => ?_)
     obtain ⟨v2r1, M2r2, v2r4, M2r5, rfl, hr2r3, hr2r6, hS2r7⟩ := hp2qy
     refine ⟨_, rfl, fun a2qz h2r0 => ?_⟩
     obtain ⟨A2r8, c2r9, rfl⟩ := hr2r3.form
     obtain ⟨A2ra, c2rb, rfl⟩ := hr2r6.form
     refine WL.bl 4 7 h2r0 [(59, i6 r2qv), (58, .agg #[.slice A2ra r2qu.f0.f0.length c2rb, i6 r2qu.f0.f1, i6 r2qu.f1]), (57, .slice A2r8 r2qt.length c2r9), (53, .tuple #[.slice A2r8 r2qt.length c2r9, .agg #[.slice A2ra r2qu.f0.f0.length c2rb, i6 r2qu.f0.f1, i6 r2qu.f1], i6 r2qv])] (fun a2rc h2rd => ?_)
     refine WL.oq h2rd rfl ?_
     refine owp_nw (fun g_ => (pt g_)) (.cells ([.slice none 0 0, i6 0, i6 0] : List Value).toArray 45 (0, 0)) h2rd rfl hS2r7 (fun a2re W2rg g2rh h2rf hS2ri => ?_)
     refine WL.bl 1 9 h2rf [(15, .slice A2r8 r2qt.length c2r9)] (fun a2rj h2rk => ?_)
     refine WL.oq h2rk rfl ?_
     refine owp_st 0 [.slice A2ra r2qu.f0.f0.length c2rb, i6 r2qu.f0.f1, i6 r2qu.f1] h2rk rfl rfl rfl hS2ri [.slice A2ra r2qu.f0.f0.length c2rb, i6 r2qu.f0.f1, i6 r2qu.f1] (fun a2rl W2rn h2rm hS2ro => ?_)
     refine WL.bl 1 11 h2rm [(17, i6 r2qv)] (fun a2rp h2rq => ?_)
     refine WL.dn ?_
     refine wp_seq ?_
     refine WL.start ?_
     refine WL.oq h2rq rfl ?_
     refine owp_rn (.agg #[.slice A2ra r2qu.f0.f0.length c2rb, i6 r2qu.f0.f1, i6 r2qu.f1]) h2rq rfl (run_loadN rfl rfl Tryd.underlying45 rfl (cs := [.slice A2ra r2qu.f0.f0.length c2rb, i6 r2qu.f0.f1, i6 r2qu.f1]) (by kernel_rfl) (hS2ro.cells (vs := [.slice A2ra r2qu.f0.f0.length c2rb, i6 r2qu.f0.f1, i6 r2qu.f1]) rfl)) (fun a2rr h2rs => ?_)
     have hS2rt := hS2ro.b3
     refine WL.oq h2rs rfl ?_
     refine owp_st 0 [.slice A2ra r2qu.f0.f0.length c2rb, i6 r2qu.f0.f1, i6 r2qu.f1] h2rs rfl rfl rfl hS2rt [.slice A2ra r2qu.f0.f0.length c2rb, i6 r2qu.f0.f1, i6 r2qu.f1] (fun a2ru W2rw h2rv hS2rx => ?_)
     refine WL.dn ?_
     refine wp_seq ?_
     refine wp_seq ?_
     refine WL.start ?_
     refine WL.bl 2 2 h2rv [(62, .bool (!decide (r2qv = 0))), (61, i6 r2qv)] (fun a2ry h2rz => ?_)
     refine WL.dn ?_
     clear h2qq a2qp h2r0 a2qz h2rd a2rc h2rf a2re h2rk a2rj h2rm a2rl h2rq a2rp h2rs a2rr h2rv a2ru
     by_cases c2s0 : r2qv = 0
     ·rw [if_pos c2s0] at H
      have hb_ : (decide (r2qv = 0)) = true := decide_eq_true c2s0
      try rw [hb_] at h2rz
      clear hb_
      refine wp_else h2rz rfl ?_
      refine wp_skip ?_
      refine wp_seq ?_
      refine WT.start 17 (fun w_ => (∀ j_ u_, ([.int .u8 r2pa.f0, .int .u32 r2pa.f1] : List Value)[j_]? = some u_ → w_.cell? ((⟨g2pv, 0, none⟩ : Addr).add j_) = some u_) ∧ (∀ j_ u_, ([.slice A2ra r2qu.f0.f0.length c2rb, i6 r2qu.f0.f1] : List Value)[j_]? = some u_ → w_.cell? ((⟨g2n3, 0, none⟩ : Addr).add j_) = some u_) ∧ True) (by kernel_rfl) #[false, false, false, false, false, false, false, false, false, false, false, false, false, false, false, false, false] 17 rfl rfl ?_
      have hS2zl := hS2rx.drew
      refine WT.tk 1 h2rz rfl rfl (.agg #[.int .u8 0, .int .u32 0]) (fun _ _ => by kernel_rfl) ⟨(hS2zl.b5.cells (vs := [.int .u8 r2pa.f0, .int .u32 r2pa.f1]) rfl), (hS2zl.cells (vs := [.slice A2ra r2qu.f0.f0.length c2rb, i6 r2qu.f0.f1]) rfl), trivial⟩ (fun a2zm s2zo h2zn => ?_)
      refine WT.tk 0 h2zn rfl rfl (.agg #[.int .u8 r2pa.f0, .int .u32 r2pa.f1]) (fun w_ hs_ => (run_loadN rfl rfl Tryd.underlying31 rfl (cs := [.int .u8 r2pa.f0, .int .u32 r2pa.f1]) (by kernel_rfl) hs_.1)) s2zo (fun a2zp s2zr h2zq => ?_)
      refine WT.tk 2 h2zq rfl rfl (.bool (!(decide (r2pa.f0 = 0) && decide (r2pa.f1 = 0)))) (fun w_ hs_ => (run_stne (xs := [.int .u8 r2pa.f0, .int .u32 r2pa.f1]) (ys := [.int .u8 0, .int .u32 0]) rfl rfl rfl (by kernel_rfl) (eqs_of Tryd.underlying31 (by kernel_rfl) (eqf_cons rfl (by kernel_rfl) rfl rfl (eqi_int Tryd.underlying5) (eqf_last rfl (by kernel_rfl) rfl rfl (eqi_int Tryd.underlying29)))))) s2zr (fun a2zs s2zu h2zt => ?_)
      refine WT.tk 3 h2zt rfl rfl (.bool (!(decide (r2pa.f0 = 0) && decide (r2pa.f1 = 0)))) (fun _ _ => by kernel_rfl) s2zu (fun a2zv s2zx h2zw => ?_)
      clear h2rz a2ry h2zn a2zm h2zq a2zp h2zt a2zs
      by_cases c2zy : (decide (r2pa.f0 = 0) && decide (r2pa.f1 = 0)) = true
      ·rw [if_pos c2zy] at H
       have hb_ : (decide (r2pa.f0 = 0) && decide (r2pa.f1 = 0)) = true := c2zy
       try rw [hb_] at h2zw
       clear hb_
       refine WT.tk 4 h2zw rfl rfl (.slice A2po r2p9.length c2pp) (fun _ _ => by kernel_rfl) s2zx (fun a2zz s301 h300 => ?_)
       refine WT.tk 5 h300 rfl rfl (.slice A2r8 r2qt.length c2r9) (fun _ _ => by kernel_rfl) s301 (fun a302 s304 h303 => ?_)
       have hS305 := hS2zl.b2
       have hS306 := hS305.b6
       obtain ⟨r308, A307, H⟩ := bind1 H
       refine WT.o1 6 h303 rfl ?_
       refine owp_call [.slice A2po r2p9.length c2pp, .slice A2r8 r2qt.length c2r9] h303 rfl (by kernel_rfl) rfl Tryd.func21 (by kernel_rfl) rfl (by kernel_rfl) (louverref06qSame.calls kk2nt (Rds.mono (fun _ hp_ => by simp only [List.mem_append] at hp_ ⊢; first | exact hp_ | (rcases hp_ with hp_ | hp_ <;> simp [hp_])) hr2pj.rds) (Rds.mono (fun _ hp_ => by simp only [List.mem_append] at hp_ ⊢; first | exact hp_ | (rcases hp_ with hp_ | hp_ <;> simp [hp_])) hr2r3.rds) A307 (hS306.pool.pool)) (fun e30a W309 hp30b => ?_)
       obtain ⟨rfl, hS30e⟩ := hp30b
       have hS30f : St b w0 W309 R (M2pi :: M2r2 :: (bx g2n3 45 [.slice A2ra r2qu.f0.f0.length c2rb, i6 r2qu.f0.f1, i6 r2qu.f1]) :: (bx g2rh 45 [.slice A2ra r2qu.f0.f0.length c2rb, i6 r2qu.f0.f1, i6 r2qu.f1]) :: M2r5 :: M2q9 :: (bx g2pv 31 [.int .u8 r2pa.f0, .int .u32 r2pa.f1]) :: M2pk :: Fs) := hS30e.unpool.unpool
       refine ⟨_, rfl, fun a30c h30d => ?_⟩
       refine ⟨.inr ⟨(hS30f.b6.cells (vs := [.int .u8 r2pa.f0, .int .u32 r2pa.f1]) rfl), (hS30f.b2.cells (vs := [.slice A2ra r2qu.f0.f0.length c2rb, i6 r2qu.f0.f1]) rfl), trivial⟩, ?_⟩
       refine WT.tk 7 h30d rfl rfl (.bool (!r308)) (fun _ _ => by kernel_rfl) ⟨(hS30f.b6.cells (vs := [.int .u8 r2pa.f0, .int .u32 r2pa.f1]) rfl), (hS30f.b2.cells (vs := [.slice A2ra r2qu.f0.f0.length c2rb, i6 r2qu.f0.f1]) rfl), trivial⟩ (fun a30g s30i h30h => ?_)
       refine WT.tk 8 h30h rfl rfl (.bool (!r308)) (fun _ _ => by kernel_rfl) s30i (fun a30j s30l h30k => ?_)
       refine WT.tk 9 h30k rfl rfl (.bool (!r308)) (fun _ _ => by kernel_rfl) s30l (fun a30m s30o h30n => ?_)
       clear h2zw a2zv h300 a2zz h303 a302 h30d a30c h30h a30g h30k a30j
       by_cases c30p : r308 = true
       ·rw [if_pos c30p] at H
        have hb_ : r308 = true := c30p
        try rw [hb_] at h30n
        clear hb_
        refine WT.tk 10 h30n rfl rfl (pt g2mi) (fun _ _ => by kernel_rfl) s30o (fun a30q s30s h30r => ?_)
        refine WT.tk 12 h30r rfl rfl (pt g2n3) (fun _ _ => by kernel_rfl) s30s (fun a30t s30v h30u => ?_)
        refine WT.tk 13 h30u rfl rfl (.agg #[.slice A2ra r2qu.f0.f0.length c2rb, i6 r2qu.f0.f1]) (fun w_ hs_ => (run_loadN rfl rfl Tryd.underlying43 rfl (cs := [.slice A2ra r2qu.f0.f0.length c2rb, i6 r2qu.f0.f1]) (by kernel_rfl) hs_.2.1)) s30v (fun a30w s30y h30x => ?_)
        have hS30z := hS30f.b7
        obtain ⟨r311, A310, H⟩ := bind1 H
        refine WT.o1 11 h30x rfl ?_
        refine owp_call [(pt g2mi)] h30x rfl (by kernel_rfl) rfl Tryd.func15 (by kernel_rfl) rfl (by kernel_rfl) (hpack_Decoder_Table.calls hr2pl A310 hS30z) (fun e313 W312 hp314 => ?_)
        obtain ⟨M317, rfl, hr318, hS319⟩ := hp314
        refine ⟨_, rfl, fun a315 h316 => ?_⟩
        refine ⟨.inr ⟨(hS319.b7.cells (vs := [.int .u8 r2pa.f0, .int .u32 r2pa.f1]) rfl), (hS319.b3.cells (vs := [.slice A2ra r2qu.f0.f0.length c2rb, i6 r2qu.f0.f1]) rfl), trivial⟩, ?_⟩
        have hS31a := hS319.b5
        obtain ⟨r31c, A31b, H⟩ := bind1 H
        refine WT.o1 14 h316 rfl ?_
        refine owp_call [.agg #[.slice A2ra r2qu.f0.f0.length c2rb, i6 r2qu.f0.f1]] h316 rfl (by kernel_rfl) rfl Tryd.func22 (by kernel_rfl) rfl (by kernel_rfl) (louverref05qT_Size.calls (p0 := (⟨r2qu.f0.f0, r2qu.f0.f1⟩ : S43)) kk2nt hr2r6.rds A31b (hS31a.pool)) (fun e31e W31d hp31f => ?_)
        obtain ⟨rfl, hS31i⟩ := hp31f
        have hS31j : St b w0 W31d R (M2r5 :: M317 :: M2pi :: M2r2 :: (bx g2n3 45 [.slice A2ra r2qu.f0.f0.length c2rb, i6 r2qu.f0.f1, i6 r2qu.f1]) :: (bx g2rh 45 [.slice A2ra r2qu.f0.f0.length c2rb, i6 r2qu.f0.f1, i6 r2qu.f1]) :: M2q9 :: (bx g2pv 31 [.int .u8 r2pa.f0, .int .u32 r2pa.f1]) :: Fs) := hS31i.unpool
        refine ⟨_, rfl, fun a31g h31h => ?_⟩
        refine ⟨.inr ⟨(hS31j.b7.cells (vs := [.int .u8 r2pa.f0, .int .u32 r2pa.f1]) rfl), (hS31j.b4.cells (vs := [.slice A2ra r2qu.f0.f0.length c2rb, i6 r2qu.f0.f1]) rfl), trivial⟩, ?_⟩
        refine WT.tk 15 h31h rfl rfl (.bool (!decide (r311 = r31c))) (fun _ _ => by kernel_rfl) ⟨(hS31j.b7.cells (vs := [.int .u8 r2pa.f0, .int .u32 r2pa.f1]) rfl), (hS31j.b4.cells (vs := [.slice A2ra r2qu.f0.f0.length c2rb, i6 r2qu.f0.f1]) rfl), trivial⟩ (fun a31k s31m h31l => ?_)
        refine WT.tk 16 h31l rfl rfl (.bool (!decide (r311 = r31c))) (fun _ _ => by kernel_rfl) s31m (fun a31n s31p h31o => ?_)
        refine WT.dn ?_
        clear h30n a30m h30r a30q h30u a30t h30x a30w h316 a315 h31h a31g h31l a31k
        by_cases c31q : r311 = r31c
        ·rw [if_pos c31q] at H
         have hb_ : (decide (r311 = r31c)) = true := decide_eq_true c31q
         try rw [hb_] at h31o
         clear hb_
         refine wp_else h31o rfl ?_
         refine wp_skip ?_
         refine WL.start ?_
         refine WL.bl 2 2 h31o [(39, i6 (IntKind.i64.wrap (x2nm + 1))), (93, i6 (IntKind.i64.wrap (x2nm + 1)))] (fun a31r h31s => ?_)
         refine WL.dn ?_
         have hS31t := hS31j.b4
         obtain ⟨M31u, hp31v, hS31w⟩ := k45qfo (⟨(⟨r2qu.f0.f0, r2qu.f0.f1⟩ : S43), r2qu.f1⟩ : S45) hr2r6 hS31t
         have hS31x := hS31w.b2
         have hS31y := hS31x.drop_
         have hS31z := hS31y.b2
         have hS320 := hS31z.drop_
         have hS321 := hS320.b2
         have hS322 := hS321.drop_
         have hS323 := hS322.b2
         have hS324 := hS323.drop_
         have hS325 := hS324.b2
         have hS326 := hS325.drop_
         have hS327 := hS326.b1
         exact ⟨kk2nt, by omega, r2pb, M317, (⟨(⟨r2qu.f0.f0, r2qu.f0.f1⟩ : S43), r2qu.f1⟩ : S45), M31u, IntKind.i64.wrap (x2nm + 1), h31s.keep ⟨rfl, rfl, rfl, rfl, rfl, trivial⟩, ⟨H⟩, ⟨by omega⟩, ⟨hS327⟩, ⟨hr318⟩, ⟨hp31v⟩⟩
        ·rw [if_neg c31q] at H
         have hb_ : (decide (r311 = r31c)) = false := decide_eq_false c31q
         try rw [hb_] at h31o
         clear hb_
         refine wp_then h31o rfl ?_
         refine wp_seq ?_
         refine WL.start ?_
         refine WL.bl 1 1 h31o [(4, .bool false)] (fun a328 h329 => ?_)
         refine WL.dn ?_
         refine wp_ret ?_
         have hS32a := hS31j.drop_
         have hS32b := hS32a.drop_
         have hS32c := hS32b.drop_
         have hS32d := hS32c.drop_
         have hS32e := hS32d.drop_
         have hS32f := hS32e.drop_
         have hS32g := hS32f.drop_
         have hS32h := hS32g.drop_
         obtain rfl := Option.some.inj H
         repeat (first | with_reducible refine t1 ?_ | with_reducible refine t2 ?_ | with_reducible refine t3 ?_)
         refine bret (.bool false) h329 ?_
         exact ⟨rfl, hS32h⟩
       ·rw [if_neg c30p] at H
        have hb_ : r308 = false := (Bool.eq_false_iff.2 c30p)
        try rw [hb_] at h30n
        clear hb_
        refine WT.sp 10 h30n rfl rfl s30o (fun a32i s32k h32j => ?_)
        refine WT.sp 11 h32j rfl rfl s32k (fun a32l s32n h32m => ?_)
        refine WT.sp 12 h32m rfl rfl s32n (fun a32o s32q h32p => ?_)
        refine WT.sp 13 h32p rfl rfl s32q (fun a32r s32t h32s => ?_)
        refine WT.sp 14 h32s rfl rfl s32t (fun a32u s32w h32v => ?_)
        refine WT.sp 15 h32v rfl rfl s32w (fun a32x s32z h32y => ?_)
        refine WT.tk 16 h32y rfl rfl (.bool true) (fun _ _ => by kernel_rfl) s32z (fun a330 s332 h331 => ?_)
        refine WT.dn ?_
        refine wp_then h331 rfl ?_
        refine wp_seq ?_
        refine WL.start ?_
        refine WL.bl 1 1 h331 [(4, .bool false)] (fun a333 h334 => ?_)
        refine WL.dn ?_
        refine wp_ret ?_
        have hS335 := hS30f.drop_
        have hS336 := hS335.drop_
        have hS337 := hS336.drop_
        have hS338 := hS337.drop_
        have hS339 := hS338.drop_
        have hS33a := hS339.drop_
        have hS33b := hS33a.drop_
        have hS33c := hS33b.drop_
        obtain rfl := Option.some.inj H
        repeat (first | with_reducible refine t1 ?_ | with_reducible refine t2 ?_ | with_reducible refine t3 ?_)
        refine bret (.bool false) h334 ?_
        exact ⟨rfl, hS33c⟩
      ·rw [if_neg c2zy] at H
       have hb_ : (decide (r2pa.f0 = 0) && decide (r2pa.f1 = 0)) = false := (Bool.eq_false_iff.2 c2zy)
       try rw [hb_] at h2zw
       clear hb_
       refine WT.sp 4 h2zw rfl rfl s2zx (fun a33d s33f h33e => ?_)
       refine WT.sp 5 h33e rfl rfl s33f (fun a33g s33i h33h => ?_)
       refine WT.sp 6 h33h rfl rfl s33i (fun a33j s33l h33k => ?_)
       refine WT.sp 7 h33k rfl rfl s33l (fun a33m s33o h33n => ?_)
       refine WT.tk 8 h33n rfl rfl (.bool true) (fun _ _ => by kernel_rfl) s33o (fun a33p s33r h33q => ?_)
       refine WT.tk 9 h33q rfl rfl (.bool true) (fun _ _ => by kernel_rfl) s33r (fun a33s s33u h33t => ?_)
       refine WT.sp 10 h33t rfl rfl s33u (fun a33v s33x h33w => ?_)
       refine WT.sp 11 h33w rfl rfl s33x (fun a33y s340 h33z => ?_)
       refine WT.sp 12 h33z rfl rfl s340 (fun a341 s343 h342 => ?_)
       refine WT.sp 13 h342 rfl rfl s343 (fun a344 s346 h345 => ?_)
       refine WT.sp 14 h345 rfl rfl s346 (fun a347 s349 h348 => ?_)
       refine WT.sp 15 h348 rfl rfl s349 (fun a34a s34c h34b => ?_)
       clear h2zw a2zv h33e a33d h33h a33g h33k a33j h33n a33m h33q a33p h33t a33s h33w a33v h33z a33y h342 a341 h345 a344 h348 a347
       refine WT.tk 16 h34b rfl rfl (.bool true) (fun _ _ => by kernel_rfl) s34c (fun a34d s34f h34e => ?_)
       refine WT.dn ?_
       refine wp_then h34e rfl ?_
       refine wp_seq ?_
       refine WL.start ?_
       refine WL.bl 1 1 h34e [(4, .bool false)] (fun a34g h34h => ?_)
       refine WL.dn ?_
       refine wp_ret ?_
       have hS34i := hS2zl.drop_
       have hS34j := hS34i.drop_
       have hS34k := hS34j.drop_
       have hS34l := hS34k.drop_
       have hS34m := hS34l.drop_
       have hS34n := hS34m.drop_
       have hS34o := hS34n.drop_
       have hS34p := hS34o.drop_
       obtain rfl := Option.some.inj H
       repeat (first | with_reducible refine t1 ?_ | with_reducible refine t2 ?_ | with_reducible refine t3 ?_)
       refine bret (.bool false) h34h ?_
       exact ⟨rfl, hS34p⟩
     ·rw [if_neg c2s0] at H
      have hb_ : (decide (r2qv = 0)) = false := decide_eq_false c2s0
      try rw [hb_] at h2rz
      clear hb_
      refine wp_then h2rz rfl ?_
      refine wp_seq ?_
      refine WL.start ?_
      obtain ⟨r34r, A34q, H⟩ := bind1 H
      refine WL.oq h2rz rfl ?_
      refine owp_call [] h2rz rfl (by kernel_rfl) rfl Tryd.func10 (by kernel_rfl) rfl (by kernel_rfl) (louverlaw06qfixed.calls kk2nt hg0 hg1 A34q hS2rx) (fun e34t W34s hp34u => ?_)
      obtain ⟨rfl, hS34x⟩ := hp34u
      refine ⟨_, rfl, fun a34v h34w => ?_⟩
      refine WL.bl 1 2 h34w [(64, .bool r34r)] (fun a34y h34z => ?_)
      clear h2rz a2ry h34w a34v
      by_cases c350 : r34r = true
      ·rw [if_pos c350] at H
       have hb_ : r34r = true := c350
       try rw [hb_] at h34z
       clear hb_
       have hS351 := hS34x.b5
       refine WL.oq h34z rfl ?_
       refine owp_rn (.agg #[.int .u8 r2pa.f0, .int .u32 r2pa.f1]) h34z rfl (run_loadN rfl rfl Tryd.underlying31 rfl (cs := [.int .u8 r2pa.f0, .int .u32 r2pa.f1]) (by kernel_rfl) (hS351.cells (vs := [.int .u8 r2pa.f0, .int .u32 r2pa.f1]) rfl)) (fun a352 h353 => ?_)
       refine WL.oq h353 rfl (owp_rk (i6 r2qv) h353 rfl (fun a354 h355 => ?_))
       refine WL.oq h355 rfl (owp_rk (.int .u32 (IntKind.u32.wrap r2qv)) h355 rfl (fun a356 h357 => ?_))
       refine WL.oq h357 rfl (owp_rk (.agg #[.int .u8 1, .int .u32 (IntKind.u32.wrap r2qv)]) h357 rfl (fun a358 h359 => ?_))
       refine WL.oq h359 rfl ?_
       refine owp_rn (.bool (decide (r2pa.f0 = 1) && decide (r2pa.f1 = (IntKind.u32.wrap r2qv)))) h359 rfl (run_steq (xs := [.int .u8 r2pa.f0, .int .u32 r2pa.f1]) (ys := [.int .u8 1, .int .u32 (IntKind.u32.wrap r2qv)]) rfl rfl rfl (by kernel_rfl) (eqs_of Tryd.underlying31 (by kernel_rfl) (eqf_cons rfl (by kernel_rfl) rfl rfl (eqi_int Tryd.underlying5) (eqf_last rfl (by kernel_rfl) rfl rfl (eqi_int Tryd.underlying29))))) (fun a35a h35b => ?_)
       refine WL.bl 2 9 h35b [(71, .bool (decide (r2pa.f0 = 1) && decide (r2pa.f1 = (IntKind.u32.wrap r2qv)))), (70, .bool (decide (r2pa.f0 = 1) && decide (r2pa.f1 = (IntKind.u32.wrap r2qv))))] (fun a35c h35d => ?_)
       clear h34z a34y h353 a352 h355 a354 h357 a356 h359 a358 h35b a35a
       by_cases c35e : (decide (r2pa.f0 = 1) && decide (r2pa.f1 = (IntKind.u32.wrap r2qv))) = true
       ·rw [if_pos c35e] at H
        have hb_ : (decide (r2pa.f0 = 1) && decide (r2pa.f1 = (IntKind.u32.wrap r2qv))) = true := c35e
        try rw [hb_] at h35d
        clear hb_
        refine WL.oq h35d rfl (owp_rk (.slice A2po r2p9.length c2pp) h35d rfl (fun a35f h35g => ?_))
        refine WL.oq h35g rfl (owp_rk (i6 (r2p9.length : Int)) h35g rfl (fun a35h h35i => ?_))
        refine WL.oq h35i rfl (owp_rk (.bool (decide ((r2p9.length : Int) = 0))) h35i rfl (fun a35j h35k => ?_))
        refine WL.bl 2 14 h35k [(4, .bool (decide ((r2p9.length : Int) = 0))), (75, .bool (decide ((r2p9.length : Int) = 0)))] (fun a35l h35m => ?_)
        refine WL.dn ?_
        refine wp_ret ?_
        have hS35n := hS351.drop_
        have hS35o := hS35n.drop_
        have hS35p := hS35o.drop_
        have hS35q := hS35p.drop_
        have hS35r := hS35q.drop_
        have hS35s := hS35r.drop_
        have hS35t := hS35s.drop_
        have hS35u := hS35t.drop_
        obtain rfl := Option.some.inj H
        repeat (first | with_reducible refine t1 ?_ | with_reducible refine t2 ?_ | with_reducible refine t3 ?_)
        refine bret (.bool (decide ((r2p9.length : Int) = 0))) h35m ?_
        exact ⟨rfl, hS35u⟩
       ·rw [if_neg c35e] at H
        have hb_ : (decide (r2pa.f0 = 1) && decide (r2pa.f1 = (IntKind.u32.wrap r2qv))) = false := (Bool.eq_false_iff.2 c35e)
        try rw [hb_] at h35d
        clear hb_
        refine WL.sk h35d rfl rfl (fun a35v h35w => ?_)
        refine WL.sk h35w rfl rfl (fun a35x h35y => ?_)
        refine WL.sk h35y rfl rfl (fun a35z h360 => ?_)
        refine WL.bl 2 14 h360 [(4, .bool false), (75, .bool false)] (fun a361 h362 => ?_)
        refine WL.dn ?_
        refine wp_ret ?_
        have hS363 := hS351.drop_
        have hS364 := hS363.drop_
        have hS365 := hS364.drop_
        have hS366 := hS365.drop_
        have hS367 := hS366.drop_
        have hS368 := hS367.drop_
        have hS369 := hS368.drop_
        have hS36a := hS369.drop_
        obtain rfl := Option.some.inj H
        repeat (first | with_reducible refine t1 ?_ | with_reducible refine t2 ?_ | with_reducible refine t3 ?_)
        refine bret (.bool false) h362 ?_
        exact ⟨rfl, hS36a⟩
      ·rw [if_neg c350] at H
       have hb_ : r34r = false := (Bool.eq_false_iff.2 c350)
       try rw [hb_] at h34z
       clear hb_
       refine WL.sk h34z rfl rfl (fun a36b h36c => ?_)
       refine WL.sk h36c rfl rfl (fun a36d h36e => ?_)
       refine WL.sk h36e rfl rfl (fun a36f h36g => ?_)
       refine WL.sk h36g rfl rfl (fun a36h h36i => ?_)
       refine WL.sk h36i rfl rfl (fun a36j h36k => ?_)
       refine WL.bl 2 9 h36k [(71, .bool false), (70, .bool false)] (fun a36l h36m => ?_)
       refine WL.sk h36m rfl rfl (fun a36n h36o => ?_)
       refine WL.sk h36o rfl rfl (fun a36p h36q => ?_)
       refine WL.sk h36q rfl rfl (fun a36r h36s => ?_)
       refine WL.bl 2 14 h36s [(4, .bool false), (75, .bool false)] (fun a36t h36u => ?_)
       refine WL.dn ?_
       refine wp_ret ?_
       have hS36v := hS34x.drop_
       have hS36w := hS36v.drop_
       have hS36x := hS36w.drop_
       have hS36y := hS36x.drop_
       have hS36z := hS36y.drop_
       have hS370 := hS36z.drop_
       have hS371 := hS370.drop_
       have hS372 := hS371.drop_
       obtain rfl := Option.some.inj H
       repeat (first | with_reducible refine t1 ?_ | with_reducible refine t2 ?_ | with_reducible refine t3 ?_)
       refine bret (.bool false) h36u ?_
       exact ⟨rfl, hS372⟩
    ·rw [if_neg c2op] at H
     cases H
   ·rw [if_neg c2nx] at H
    cases H
  ·rw [if_neg c2nw] at H
   have hb_ : (decide (x2nm < (p1.length : Int))) = false := decide_eq_false c2nw
   try rw [hb_] at h2nv
   clear hb_
   refine wp_else h2nv rfl ?_
   refine wp_exit ?_
   refine wp_seq ?_
   refine WL.start ?_
   obtain ⟨r374, A373, H⟩ := bind1 H
   refine WL.oq h2nv rfl ?_
   refine owp_call [] h2nv rfl (by kernel_rfl) rfl Tryd.func10 (by kernel_rfl) rfl (by kernel_rfl) (louverlaw06qfixed.calls kk2nt hg0 hg1 A373 hS2ne) (fun e376 W375 hp377 => ?_)
   obtain ⟨rfl, hS37a⟩ := hp377
   refine ⟨_, rfl, fun a378 h379 => ?_⟩
   refine WL.bl 1 2 h379 [(4, .bool r374)] (fun a37b h37c => ?_)
   refine WL.dn ?_
   refine wp_ret ?_
   have hS37d := hS37a.drop_
   have hS37e := hS37d.drop_
   obtain rfl := Option.some.inj H
   repeat (first | with_reducible refine t1 ?_ | with_reducible refine t2 ?_ | with_reducible refine t3 ?_)
   refine bret (.bool r374) h37c ?_
   exact ⟨rfl, hS37e⟩
end Go.Proofs.YtinebjcfgmoniaaDoor.Sl
