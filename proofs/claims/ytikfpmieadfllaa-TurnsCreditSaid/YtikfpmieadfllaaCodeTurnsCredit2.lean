/- What the functions of this program compute, told as plain functions, and that the calls come to just that. Printed by this session's program; part 2. -/
import Derived.Test.YtikfpmieadfllaaCodeTurnsCredit1
set_option linter.unusedVariables false
set_option linter.unusedSimpArgs false
set_option linter.unnecessarySimpa false
namespace Go.Proofs.Ytikfpmieadfllaa.Sl
open Go Go.RowKit Go.Proofs.Sl
/-! ### louver/louverlaw13.TurnsCredit -/
def louverlaw13qTurnsCredit.l0 : Nat → S69 → Int → (List S48) → Int → (List S45) → Option (Bool)
 | 0, _, _, _, _, _ => none
 | k + 1, x6im, x6ip, x6iq, x6iv, p1 => if x6iv < (p1.length : Int) then (if 0 ≤ x6iv then (bnd1 (louverlaw13qfind.f k x6iq ((gt z45 p1 x6iv).f1)) fun r6jz => (if ((gt z45 p1 x6iv).f0) = 0 then (bnd2 (turns_Ring_Open.f k x6im ((gt z45 p1 x6iv).f1) ((gt z45 p1 x6iv).f2)) fun r6kr r6ks => (if r6kr = true then (if r6jz ≥ 0 then (if 0 ≤ r6jz then (if r6jz < (x6iq.length : Int) then (lt1 (x6iq.set r6jz.toNat (⟨0, (gt z48 x6iq r6jz).f1, (gt z48 x6iq r6jz).f2, (gt z48 x6iq r6jz).f3⟩ : S48) : List S48) fun y6lo => (bnd1 (louverref10qNew.f ((gt z45 p1 x6iv).f2) true) fun r6p8 => (if y6lo.length + 1 ≤ 2932031007402 then (lt1 (y6lo ++ ([(⟨(gt z45 p1 x6iv).f1, ([] : List UInt8), ([] : List UInt8), r6p8.f0⟩ : S48)] : List S48) : List S48) fun y6q1 => (louverlaw13qTurnsCredit.l0 k r6ks x6ip y6q1 (IntKind.i64.wrap (x6iv + 1)) p1)) else (none)))) else (none)) else (none)) else (bnd1 (louverref10qNew.f ((gt z45 p1 x6iv).f2) true) fun r6tt => (if x6iq.length + 1 ≤ 2932031007402 then (lt1 (x6iq ++ ([(⟨(gt z45 p1 x6iv).f1, ([] : List UInt8), ([] : List UInt8), r6tt.f0⟩ : S48)] : List S48) : List S48) fun y6um => (louverlaw13qTurnsCredit.l0 k r6ks x6ip y6um (IntKind.i64.wrap (x6iv + 1)) p1)) else (none)))) else (louverlaw13qTurnsCredit.l0 k r6ks x6ip x6iq (IntKind.i64.wrap (x6iv + 1)) p1))) else (if ((gt z45 p1 x6iv).f0) = 1 then (bnd2 (turns_Ring_Put.f k x6im ((gt z45 p1 x6iv).f1) ((gt z45 p1 x6iv).f3) ((gt z45 p1 x6iv).f4)) fun r6vk r6vl => (if r6vk = true then (if r6jz < 0 then (some false) else (if 0 ≤ r6jz then (if r6jz < (x6iq.length : Int) then (if ((gt z48 x6iq r6jz).f1).length + (toS ((gt z45 p1 x6iv).f3)).length ≤ 9223372036854775807 then (lt1 (x6iq.set r6jz.toNat (⟨(gt z48 x6iq r6jz).f0, ((gt z48 x6iq r6jz).f1) ++ (toS ((gt z45 p1 x6iv).f3)), (gt z48 x6iq r6jz).f2, (gt z48 x6iq r6jz).f3⟩ : S48) : List S48) fun y70z => (louverlaw13qTurnsCredit.l0 k r6vl x6ip y70z (IntKind.i64.wrap (x6iv + 1)) p1)) else (none)) else (none)) else (none))) else (louverlaw13qTurnsCredit.l0 k r6vl x6ip x6iq (IntKind.i64.wrap (x6iv + 1)) p1))) else (if ((gt z45 p1 x6iv).f0) = 2 then (bnd5 (turns_Ring_Next.f k x6im ((gt z45 p1 x6iv).f2)) fun r71m r71n r71o r71p r71q => (if r71p = true then (bnd1 (louverlaw13qfind.f k x6iq r71m) fun r72d => (if r72d < 0 then (some false) else (if r71m = 0 then (some false) else (if 0 ≤ r72d then (if r72d < (x6iq.length : Int) then (if ((gt z48 x6iq r72d).f2).length + (toS r71n).length ≤ 9223372036854775807 then (if (r71n.length : Int) > 0 then (if (IntKind.i64.wrap (((gt z48 x6iq r72d).f3) - (r71n.length : Int))) < 0 then (some false) else (if (IntKind.i64.wrap (x6ip - (r71n.length : Int))) < 0 then (some false) else (if ((((gt z48 x6iq r72d).f2) ++ (toS r71n)).length : Int) > (((gt z48 x6iq r72d).f1).length : Int) then (some false) else (if 0 ≤ ((((gt z48 x6iq r72d).f2) ++ (toS r71n)).length : Int) then (if ((((gt z48 x6iq r72d).f2) ++ (toS r71n)).length : Int) ≤ (((gt z48 x6iq r72d).f1).length : Int) then (if (((gt z48 x6iq r72d).f1).take ((((gt z48 x6iq r72d).f2) ++ (toS r71n)).length : Int).toNat) = (((gt z48 x6iq r72d).f2) ++ (toS r71n)) then (if r71o = true then (if (((gt z48 x6iq r72d).f2) ++ (toS r71n)) = ((gt z48 x6iq r72d).f1) then (lt1 (x6iq.set r72d.toNat (⟨(gt z48 x6iq r72d).f0, (gt z48 x6iq r72d).f1, ((gt z48 x6iq r72d).f2) ++ (toS r71n), IntKind.i64.wrap (((gt z48 x6iq r72d).f3) - (r71n.length : Int))⟩ : S48) : List S48) fun y8hb => (louverlaw13qTurnsCredit.l0 k r71q (IntKind.i64.wrap (x6ip - (r71n.length : Int))) y8hb (IntKind.i64.wrap (x6iv + 1)) p1)) else (some false)) else (lt1 (x6iq.set r72d.toNat (⟨(gt z48 x6iq r72d).f0, (gt z48 x6iq r72d).f1, ((gt z48 x6iq r72d).f2) ++ (toS r71n), IntKind.i64.wrap (((gt z48 x6iq r72d).f3) - (r71n.length : Int))⟩ : S48) : List S48) fun y8iy => (louverlaw13qTurnsCredit.l0 k r71q (IntKind.i64.wrap (x6ip - (r71n.length : Int))) y8iy (IntKind.i64.wrap (x6iv + 1)) p1))) else (some false)) else (none)) else (none))))) else (if ((((gt z48 x6iq r72d).f2) ++ (toS r71n)).length : Int) > (((gt z48 x6iq r72d).f1).length : Int) then (some false) else (if 0 ≤ ((((gt z48 x6iq r72d).f2) ++ (toS r71n)).length : Int) then (if ((((gt z48 x6iq r72d).f2) ++ (toS r71n)).length : Int) ≤ (((gt z48 x6iq r72d).f1).length : Int) then (if (((gt z48 x6iq r72d).f1).take ((((gt z48 x6iq r72d).f2) ++ (toS r71n)).length : Int).toNat) = (((gt z48 x6iq r72d).f2) ++ (toS r71n)) then (if r71o = true then (if (((gt z48 x6iq r72d).f2) ++ (toS r71n)) = ((gt z48 x6iq r72d).f1) then (lt1 (x6iq.set r72d.toNat (⟨(gt z48 x6iq r72d).f0, (gt z48 x6iq r72d).f1, ((gt z48 x6iq r72d).f2) ++ (toS r71n), IntKind.i64.wrap (((gt z48 x6iq r72d).f3) - (r71n.length : Int))⟩ : S48) : List S48) fun y8py => (louverlaw13qTurnsCredit.l0 k r71q (IntKind.i64.wrap (x6ip - (r71n.length : Int))) y8py (IntKind.i64.wrap (x6iv + 1)) p1)) else (some false)) else (lt1 (x6iq.set r72d.toNat (⟨(gt z48 x6iq r72d).f0, (gt z48 x6iq r72d).f1, ((gt z48 x6iq r72d).f2) ++ (toS r71n), IntKind.i64.wrap (((gt z48 x6iq r72d).f3) - (r71n.length : Int))⟩ : S48) : List S48) fun y8rl => (louverlaw13qTurnsCredit.l0 k r71q (IntKind.i64.wrap (x6ip - (r71n.length : Int))) y8rl (IntKind.i64.wrap (x6iv + 1)) p1))) else (some false)) else (none)) else (none)))) else (none)) else (none)) else (none))))) else (louverlaw13qTurnsCredit.l0 k r71q x6ip x6iq (IntKind.i64.wrap (x6iv + 1)) p1))) else (if ((gt z45 p1 x6iv).f0) = 3 then (bnd2 (turns_Ring_Grow.f k x6im ((gt z45 p1 x6iv).f1) ((gt z45 p1 x6iv).f5)) fun r8tf r8tg => (if (decide (r8tf.f0 = 0) && decide (r8tf.f1 = 0)) = true then (if ((gt z45 p1 x6iv).f1) = 0 then (louverlaw13qTurnsCredit.l0 k r8tg (IntKind.i64.wrap (x6ip + (IntKind.i64.wrap ((gt z45 p1 x6iv).f5)))) x6iq (IntKind.i64.wrap (x6iv + 1)) p1) else (if r6jz ≥ 0 then (if 0 ≤ r6jz then (if r6jz < (x6iq.length : Int) then (lt1 (x6iq.set r6jz.toNat (⟨(gt z48 x6iq r6jz).f0, (gt z48 x6iq r6jz).f1, (gt z48 x6iq r6jz).f2, IntKind.i64.wrap (((gt z48 x6iq r6jz).f3) + (IntKind.i64.wrap ((gt z45 p1 x6iv).f5)))⟩ : S48) : List S48) fun y8z7 => (louverlaw13qTurnsCredit.l0 k r8tg x6ip y8z7 (IntKind.i64.wrap (x6iv + 1)) p1)) else (none)) else (none)) else (louverlaw13qTurnsCredit.l0 k r8tg x6ip x6iq (IntKind.i64.wrap (x6iv + 1)) p1))) else (louverlaw13qTurnsCredit.l0 k r8tg x6ip x6iq (IntKind.i64.wrap (x6iv + 1)) p1))) else (bnd1 (turns_Ring_Drop.f k x6im ((gt z45 p1 x6iv).f1)) fun r8zu => (louverlaw13qTurnsCredit.l0 k r8zu x6ip x6iq (IntKind.i64.wrap (x6iv + 1)) p1))))))) else (none)) else (bnd1 (louverlaw13qfixed.f k) fun r908 => (some r908))
def louverlaw13qTurnsCredit.f (k : Nat) (p0 : Int) (p1 : (List S45)) : Option (Bool) := bnd1 (louverlaw13qgreat.f k p1) fun r6h3 => (if r6h3 = true then (bnd1 (louverlaw13qfixed.f k) fun r6hc => (some r6hc)) else (bnd1 (turns_New.f p0) fun r6ho => (bnd1 (louverref10qNew.f p0 false) fun r6i4 => (louverlaw13qTurnsCredit.l0 k r6ho r6i4.f0 ([] : List S48) 0 p1))))
set_option maxHeartbeats 20000000 in
set_option maxRecDepth 100000 in
theorem louverlaw13qTurnsCredit.calls (k : Nat) {b : Nat} {w0 W : World} {R : Frag} {Fs : List Frag} {p0 : Int} {p1 : (List S45)} {v1 : Value} {r0q : Bool} (hp1 : Rds k45 b w0 R v1 p1) (H : louverlaw13qTurnsCredit.f k p0 p1 = some r0q) (hS : St b w0 W R (Fs)) :
  Calls Try.prog 5 ([i6 p0, v1] : List Value).toArray W (fun e W' => e = .returned (.bool r0q) ∧ St b w0 W' R (Fs)) := by
 obtain ⟨A1, c1, rfl⟩ := hp1.form
 unfold louverlaw13qTurnsCredit.f at H
 refine calls_enter Try.func5 rfl 209 rfl (by kernel_rfl) (fun a h => ?_)
 refine wp_seq ?_
 refine WL.start ?_
 refine WL.bl 1 1 h [(4, .bool false)] (fun a6gy h6gz => ?_)
 refine WL.dn ?_
 refine wp_seq ?_
 refine wp_seq ?_
 refine WL.start ?_
 refine WL.bl 1 1 h6gz [(17, .slice A1 p1.length c1)] (fun a6h0 h6h1 => ?_)
 obtain ⟨r6h3, A6h2, H⟩ := bind1 H
 refine WL.oq h6h1 rfl ?_
 refine owp_call [.slice A1 p1.length c1] h6h1 rfl (by kernel_rfl) rfl Try.func16 (by kernel_rfl) rfl (by kernel_rfl) (louverlaw13qgreat.calls k hp1 A6h2 hS) (fun e6h5 W6h4 hp6h6 => ?_)
 obtain ⟨rfl, hS6h9⟩ := hp6h6
 refine ⟨_, rfl, fun a6h7 h6h8 => ?_⟩
 refine WL.dn ?_
 clear h6gz a6gy h6h1 a6h0
 by_cases c6ha : r6h3 = true
 ·rw [if_pos c6ha] at H
  have hb_ : r6h3 = true := c6ha
  try rw [hb_] at h6h8
  clear hb_
  refine wp_then h6h8 rfl ?_
  refine wp_seq ?_
  refine WL.start ?_
  obtain ⟨r6hc, A6hb, H⟩ := bind1 H
  refine WL.oq h6h8 rfl ?_
  refine owp_call [] h6h8 rfl (by kernel_rfl) rfl Try.func12 (by kernel_rfl) rfl (by kernel_rfl) (louverlaw13qfixed.calls k  A6hb hS6h9) (fun e6he W6hd hp6hf => ?_)
  obtain ⟨rfl, hS6hi⟩ := hp6hf
  refine ⟨_, rfl, fun a6hg h6hh => ?_⟩
  refine WL.bl 1 2 h6hh [(4, .bool r6hc)] (fun a6hj h6hk => ?_)
  refine WL.dn ?_
  refine wp_ret ?_
  obtain rfl := Option.some.inj H
  repeat (first | with_reducible refine t1 ?_ | with_reducible refine t2 ?_ | with_reducible refine t3 ?_)
  refine bret (.bool r6hc) h6hk ?_
  exact ⟨rfl, hS6hi⟩
 ·rw [if_neg c6ha] at H
  have hb_ : r6h3 = false := (Bool.eq_false_iff.2 c6ha)
  try rw [hb_] at h6h8
  clear hb_
  refine wp_else h6h8 rfl ?_
  refine wp_skip ?_
  refine wp_seq ?_
  refine WL.start ?_
  refine WL.bl 1 1 h6h8 [(20, i6 p0)] (fun a6hl h6hm => ?_)
  obtain ⟨r6ho, A6hn, H⟩ := bind1 H
  refine WL.oq h6hm rfl ?_
  refine owp_call [i6 p0] h6hm rfl (by kernel_rfl) rfl Try.func8 (by kernel_rfl) rfl (by kernel_rfl) (turns_New.calls  A6hn hS6h9) (fun e6hq W6hp hp6hr => ?_)
  obtain ⟨v6hu, M6hv, rfl, hr6hw, hS6hx⟩ := hp6hr
  refine ⟨_, rfl, fun a6hs h6ht => ?_⟩
  obtain ⟨g6hy, rfl⟩ := hr6hw.ptr_form
  refine WL.bl 1 3 h6ht [(5, pt g6hy)] (fun a6hz h6i0 => ?_)
  refine WL.dn ?_
  refine wp_seq ?_
  refine WL.start ?_
  refine WL.bl 1 1 h6i0 [(22, i6 p0)] (fun a6i1 h6i2 => ?_)
  obtain ⟨r6i4, A6i3, H⟩ := bind1 H
  refine WL.oq h6i2 rfl ?_
  refine owp_call [i6 p0, .bool false] h6i2 rfl (by kernel_rfl) rfl Try.func17 (by kernel_rfl) rfl (by kernel_rfl) (louverref10qNew.calls  A6i3 hS6hx) (fun e6i6 W6i5 hp6i7 => ?_)
  obtain ⟨rfl, hS6ia⟩ := hp6i7
  refine ⟨_, rfl, fun a6i8 h6i9 => ?_⟩
  refine WL.bl 2 4 h6i9 [(6, i6 r6i4.f0), (24, i6 r6i4.f0)] (fun a6ib h6ic => ?_)
  refine WL.dn ?_
  refine wp_seq ?_
  refine WL.start ?_
  refine WL.bl 1 1 h6ic [(7, .slice none 0 0)] (fun a6id h6ie => ?_)
  refine WL.dn ?_
  refine wp_seq ?_
  refine wp_seq ?_
  refine WL.start ?_
  refine WL.bl 3 3 h6ie [(27, i6 0), (26, i6 (p1.length : Int)), (25, .slice A1 p1.length c1)] (fun a6if h6ig => ?_)
  refine WL.dn ?_
  refine wp_block ?_
  have hS6iw := hS6ia.nil_
  have hS6ix := hS6iw.b1
  clear h6h8 a6h7 h6hm a6hl h6ht a6hs h6i0 a6hz h6i2 a6i1 h6i9 a6i8 h6ic a6ib h6ie a6id
  refine wp_loop_ghost (fun kq_ a_ W_ => ∃ (x6im : S69), ∃ (M6in : Frag), ∃ (x6ip : Int), ∃ (x6iq : (List S48)), ∃ (A6ir : Option Addr), ∃ (c6is : Nat), ∃ (M6it : Frag), ∃ (x6iv : Int), Hd a_ 209 [(5, pt g6hy), (6, i6 x6ip), (7, .slice A6ir x6iq.length c6is), (25, .slice A1 p1.length c1), (26, i6 (p1.length : Int)), (27, i6 x6iv)] ∧ Asd (louverlaw13qTurnsCredit.l0 kq_ x6im x6ip x6iq x6iv p1 = some r0q) ∧ Asd (kq_ ≤ k) ∧ Asd (St b w0 W_ R (M6in :: M6it :: Fs)) ∧ Asd (Ptr k69 69 b w0 R (pt g6hy) x6im M6in) ∧ Asd (Row k48 48 b w0 R (.slice A6ir x6iq.length c6is) x6iq M6it)) k ⟨r6ho, M6hv, r6i4.f0, ([] : List S48), none, 0, ([] : Frag), 0, h6ig.keep ⟨rfl, rfl, rfl, rfl, rfl, rfl, trivial⟩, ⟨H⟩, ⟨Nat.le_refl _⟩, ⟨hS6ix⟩, ⟨hr6hw⟩, ⟨Row.nil⟩⟩ ?_
  clear H hS6ix
  rintro kk6il a6ii W6ij ⟨x6im, M6in, x6ip, x6iq, A6ir, c6is, M6it, x6iv, h6ih, ⟨H⟩, ⟨hkkk6il⟩, ⟨hS6ik⟩, ⟨hr6io⟩, ⟨hr6iu⟩⟩
  obtain _ | kk6iy := kk6il
  ·exact absurd H (by simp [louverlaw13qTurnsCredit.l0])
  simp only [louverlaw13qTurnsCredit.l0] at H
  refine wp_seq ?_
  refine WL.start ?_
  refine WL.bl 1 1 h6ih [(28, .bool (decide (x6iv < (p1.length : Int))))] (fun a6iz h6j0 => ?_)
  refine WL.dn ?_
  refine wp_seq ?_
  clear h6ih a6ii
  by_cases c6j1 : x6iv < (p1.length : Int)
  ·rw [if_pos c6j1] at H
   have hb_ : (decide (x6iv < (p1.length : Int))) = true := decide_eq_true c6j1
   try rw [hb_] at h6j0
   clear hb_
   refine wp_then h6j0 rfl ?_
   refine wp_skip ?_
   refine wp_seq ?_
   refine wp_block ?_
   refine wp_seq ?_
   refine WL.start ?_
   by_cases c6j2 : 0 ≤ x6iv
   ·rw [if_pos c6j2] at H
    have hi6j5 : 0 ≤ x6iv := by first | assumption | omega
    have hi6j6 : x6iv < (p1.length : Int) := by first | assumption | omega
    obtain ⟨ad6j3, _, ha6j4, -, -⟩ := Rds.elemAny hp1 hi6j5 (gt_get (z := z45) hi6j5 hi6j6)
    refine WL.oq h6j0 rfl ?_
    refine owp_rn (.pointer (some (ad6j3.add (x6iv.toNat * 7)))) h6j0 rfl (run_idx (ad := ad6j3) (sz := 7) rfl (by rw [← ha6j4]; rfl) rfl Try.underlying38 (by kernel_rfl) hi6j5 hi6j6) (fun a6j7 h6j8 => ?_)
    obtain ⟨ad6j9, cs6ja, ha6jb, hr6jd, hc6jc⟩ := Rds.elemAny hp1 hi6j5 (gt_get (z := z45) hi6j5 hi6j6)
    rw [ha6j4] at ha6jb; obtain rfl := Option.some.inj ha6jb
    obtain ⟨v6je, rfl, hx6jf⟩ := k45qrd hr6jd
    obtain ⟨A6jg, c6jh, rfl⟩ := hx6jf.form
    refine WL.oq h6j8 rfl ?_
    refine owp_rn (.agg #[i6 ((gt z45 p1 x6iv).f0), .int .u32 ((gt z45 p1 x6iv).f1), i6 ((gt z45 p1 x6iv).f2), .slice A6jg ((gt z45 p1 x6iv).f3).length c6jh, .bool ((gt z45 p1 x6iv).f4), .int .u32 ((gt z45 p1 x6iv).f5), .int .u32 ((gt z45 p1 x6iv).f6)]) h6j8 rfl (run_loadN rfl rfl Try.underlying45 rfl (cs := [i6 ((gt z45 p1 x6iv).f0), .int .u32 ((gt z45 p1 x6iv).f1), i6 ((gt z45 p1 x6iv).f2), .slice A6jg ((gt z45 p1 x6iv).f3).length c6jh, .bool ((gt z45 p1 x6iv).f4), .int .u32 ((gt z45 p1 x6iv).f5), .int .u32 ((gt z45 p1 x6iv).f6)]) (by kernel_rfl) (hc6jc _ (fun _ _ hk_ => hS6ik.kn hk_))) (fun a6ji h6jj => ?_)
    refine WL.oq h6jj rfl ?_
    refine owp_nw (fun g_ => (pt g_)) (.cells ([i6 0, .int .u32 0, i6 0, .slice none 0 0, .bool false, .int .u32 0, .int .u32 0] : List Value).toArray 45 (0, 0)) h6jj rfl hS6ik (fun a6jk W6jm g6jn h6jl hS6jo => ?_)
    refine WL.oq h6jl rfl ?_
    refine owp_st 0 [i6 ((gt z45 p1 x6iv).f0), .int .u32 ((gt z45 p1 x6iv).f1), i6 ((gt z45 p1 x6iv).f2), .slice A6jg ((gt z45 p1 x6iv).f3).length c6jh, .bool ((gt z45 p1 x6iv).f4), .int .u32 ((gt z45 p1 x6iv).f5), .int .u32 ((gt z45 p1 x6iv).f6)] h6jl rfl rfl rfl hS6jo [i6 ((gt z45 p1 x6iv).f0), .int .u32 ((gt z45 p1 x6iv).f1), i6 ((gt z45 p1 x6iv).f2), .slice A6jg ((gt z45 p1 x6iv).f3).length c6jh, .bool ((gt z45 p1 x6iv).f4), .int .u32 ((gt z45 p1 x6iv).f5), .int .u32 ((gt z45 p1 x6iv).f6)] (fun a6jp W6jr h6jq hS6js => ?_)
    refine WL.dn ?_
    refine wp_seq ?_
    refine WL.start ?_
    refine WL.bl 2 2 h6jq [(32, .pointer (some ⟨g6jn, 1, none⟩)), (31, .slice A6ir x6iq.length c6is)] (fun a6jt h6ju => ?_)
    refine WL.oq h6ju rfl ?_
    refine owp_rn (.int .u32 ((gt z45 p1 x6iv).f1)) h6ju rfl (run_load1 rfl rfl Try.underlying25 rfl (hS6js.cell (i := 1) rfl)) (fun a6jv h6jw => ?_)
    have hS6jx := hS6js.b2
    obtain ⟨r6jz, A6jy, H⟩ := bind1 H
    refine WL.oq h6jw rfl ?_
    refine owp_call [.slice A6ir x6iq.length c6is, .int .u32 ((gt z45 p1 x6iv).f1)] h6jw rfl (by kernel_rfl) rfl Try.func18 (by kernel_rfl) rfl (by kernel_rfl) (louverlaw13qfind.calls kk6iy hr6iu.rds A6jy (hS6jx.pool)) (fun e6k1 W6k0 hp6k2 => ?_)
    obtain ⟨rfl, hS6k5⟩ := hp6k2
    have hS6k6 : St b w0 W6k0 R (M6it :: (bx g6jn 45 [i6 ((gt z45 p1 x6iv).f0), .int .u32 ((gt z45 p1 x6iv).f1), i6 ((gt z45 p1 x6iv).f2), .slice A6jg ((gt z45 p1 x6iv).f3).length c6jh, .bool ((gt z45 p1 x6iv).f4), .int .u32 ((gt z45 p1 x6iv).f5), .int .u32 ((gt z45 p1 x6iv).f6)]) :: M6in :: Fs) := hS6k5.unpool
    refine ⟨_, rfl, fun a6k3 h6k4 => ?_⟩
    refine WL.bl 1 5 h6k4 [(10, i6 r6jz)] (fun a6k7 h6k8 => ?_)
    refine WL.dn ?_
    refine wp_seq ?_
    refine WL.start ?_
    refine WL.bl 1 1 h6k8 [(35, pt g6jn)] (fun a6k9 h6ka => ?_)
    have hS6kb := hS6k6.b1
    refine WL.oq h6ka rfl ?_
    refine owp_rn (i6 ((gt z45 p1 x6iv).f0)) h6ka rfl (run_load1 rfl rfl Try.underlying3 rfl (hS6kb.cell (i := 0) rfl)) (fun a6kc h6kd => ?_)
    refine WL.dn ?_
    refine wp_block ?_
    refine wp_seq ?_
    refine WL.start ?_
    refine WL.bl 2 2 h6kd [(41, .bool (decide (((gt z45 p1 x6iv).f0) = 0))), (42, .bool (decide (((gt z45 p1 x6iv).f0) = 0)))] (fun a6ke h6kf => ?_)
    refine WL.dn ?_
    clear h6j0 a6iz h6j8 a6j7 h6jj a6ji h6jl a6jk h6jq a6jp h6ju a6jt h6jw a6jv h6k4 a6k3 h6k8 a6k7 h6ka a6k9 h6kd a6kc
    by_cases c6kg : ((gt z45 p1 x6iv).f0) = 0
    ·rw [if_pos c6kg] at H
     have hb_ : (decide (((gt z45 p1 x6iv).f0) = 0)) = true := decide_eq_true c6kg
     try rw [hb_] at h6kf
     clear hb_
     refine wp_then h6kf rfl ?_
     refine wp_seq ?_
     refine WL.start ?_
     refine WL.bl 2 2 h6kf [(44, .pointer (some ⟨g6jn, 1, none⟩)), (43, pt g6hy)] (fun a6kh h6ki => ?_)
     refine WL.oq h6ki rfl ?_
     refine owp_rn (.int .u32 ((gt z45 p1 x6iv).f1)) h6ki rfl (run_load1 rfl rfl Try.underlying25 rfl (hS6kb.cell (i := 1) rfl)) (fun a6kj h6kk => ?_)
     refine WL.bl 1 4 h6kk [(46, .pointer (some ⟨g6jn, 2, none⟩))] (fun a6kl h6km => ?_)
     refine WL.oq h6km rfl ?_
     refine owp_rn (i6 ((gt z45 p1 x6iv).f2)) h6km rfl (run_load1 rfl rfl Try.underlying3 rfl (hS6kb.cell (i := 2) rfl)) (fun a6kn h6ko => ?_)
     have hS6kp := hS6kb.b2
     obtain ⟨r6kr, r6ks, A6kq, H⟩ := bind2 H
     refine WL.oq h6ko rfl ?_
     refine owp_call [(pt g6hy), .int .u32 ((gt z45 p1 x6iv).f1), i6 ((gt z45 p1 x6iv).f2)] h6ko rfl (by kernel_rfl) rfl Try.func9 (by kernel_rfl) rfl (by kernel_rfl) (turns_Ring_Open.calls kk6iy hr6io A6kq hS6kp) (fun e6ku W6kt hp6kv => ?_)
     obtain ⟨M6ky, rfl, hr6kz, hS6l0⟩ := hp6kv
     refine ⟨_, rfl, fun a6kw h6kx => ?_⟩
     refine WL.dn ?_
     clear h6kf a6ke h6ki a6kh h6kk a6kj h6km a6kl h6ko a6kn
     by_cases c6l1 : r6kr = true
     ·rw [if_pos c6l1] at H
      have hb_ : r6kr = true := c6l1
      try rw [hb_] at h6kx
      clear hb_
      refine wp_then h6kx rfl ?_
      refine wp_seq ?_
      refine wp_seq ?_
      refine WL.start ?_
      refine WL.bl 2 2 h6kx [(50, .bool (decide (r6jz ≥ 0))), (49, i6 r6jz)] (fun a6l2 h6l3 => ?_)
      refine WL.dn ?_
      clear h6kx a6kw
      by_cases c6l4 : r6jz ≥ 0
      ·rw [if_pos c6l4] at H
       have hb_ : (decide (r6jz ≥ 0)) = true := decide_eq_true c6l4
       try rw [hb_] at h6l3
       clear hb_
       refine wp_then h6l3 rfl ?_
       refine WL.start ?_
       refine WL.bl 2 2 h6l3 [(52, i6 r6jz), (51, .slice A6ir x6iq.length c6is)] (fun a6l5 h6l6 => ?_)
       clear h6l3 a6l2
       by_cases c6l7 : 0 ≤ r6jz
       ·rw [if_pos c6l7] at H
        by_cases c6l8 : r6jz < (x6iq.length : Int)
        ·rw [if_pos c6l8] at H
         have hi6lb : 0 ≤ r6jz := by first | assumption | omega
         have hi6lc : r6jz < (x6iq.length : Int) := by first | assumption | omega
         obtain ⟨ad6l9, _, ha6la, -, -⟩ := Rds.elemAny hr6iu.rds hi6lb (gt_get (z := z48) hi6lb hi6lc)
         refine WL.oq h6l6 rfl ?_
         refine owp_rn (.pointer (some (ad6l9.add (r6jz.toNat * 4)))) h6l6 rfl (run_idx (ad := ad6l9) (sz := 4) rfl (by rw [← ha6la]; rfl) rfl Try.underlying43 (by kernel_rfl) hi6lb hi6lc) (fun a6ld h6le => ?_)
         refine WL.bl 1 4 h6le [(54, .pointer (some ((ad6l9.add (r6jz.toNat * 4)).add 0)))] (fun a6lf h6lg => ?_)
         have hS6lh := hS6l0.b2
         refine WL.oq h6lg rfl ?_
         refine owp_setelem (j := 0) (vs := [.int .u32 0]) (x' := (⟨0, (gt z48 x6iq r6jz).f1, (gt z48 x6iq r6jz).f2, (gt z48 x6iq r6jz).f3⟩ : S48)) h6lg rfl (by kernel_rfl) rfl rfl rfl rfl (by simp [Value.oneCell']) (by kernel_rfl) ha6la hr6iu hS6lh hi6lb (gt_get (z := z48) hi6lb hi6lc) (by simp only [List.length_cons, List.length_nil]; decide) (by intro cs_ Mx_ hr_; obtain ⟨rfl, rfl⟩ := k48qrep hr_; obtain ⟨_, hk_, rfl⟩ := k48qmk (b := b) (w0 := w0) (R := R) (x := (⟨0, (gt z48 x6iq r6jz).f1, (gt z48 x6iq r6jz).f2, (gt z48 x6iq r6jz).f3⟩ : S48)); exact hk_) (fun a6li W6lk M6ll h6lj hr6lm hS6ln => ?_)
         obtain ⟨y6lo, hy6lp, H⟩ := lete H
         have hl6lq : y6lo.length = x6iq.length := by simp [hy6lp]
         have hr6lr : Row k48 48 b w0 R (.slice A6ir y6lo.length c6is) y6lo M6ll := by rw [hl6lq]; rw [hy6lp]; exact hr6lm
         have h6ls : Hd a6li 209 [(5, pt g6hy), (6, i6 x6ip), (7, .slice A6ir y6lo.length c6is), (9, pt g6jn), (10, i6 r6jz), (25, .slice A1 p1.length c1), (26, i6 (p1.length : Int)), (27, i6 x6iv), (28, .bool true), (29, .pointer (some (ad6j3.add (x6iv.toNat * 7)))), (30, .agg #[i6 ((gt z45 p1 x6iv).f0), .int .u32 ((gt z45 p1 x6iv).f1), i6 ((gt z45 p1 x6iv).f2), .slice A6jg ((gt z45 p1 x6iv).f3).length c6jh, .bool ((gt z45 p1 x6iv).f4), .int .u32 ((gt z45 p1 x6iv).f5), .int .u32 ((gt z45 p1 x6iv).f6)]), (31, .slice A6ir y6lo.length c6is), (32, .pointer (some ⟨g6jn, 1, none⟩)), (33, .int .u32 ((gt z45 p1 x6iv).f1)), (34, i6 r6jz), (35, pt g6jn), (36, i6 ((gt z45 p1 x6iv).f0)), (41, .bool true), (42, .bool true), (43, pt g6hy), (44, .pointer (some ⟨g6jn, 1, none⟩)), (45, .int .u32 ((gt z45 p1 x6iv).f1)), (46, .pointer (some ⟨g6jn, 2, none⟩)), (47, i6 ((gt z45 p1 x6iv).f2)), (48, .bool true), (49, i6 r6jz), (50, .bool true), (51, .slice A6ir y6lo.length c6is), (52, i6 r6jz), (53, .pointer (some (ad6l9.add (r6jz.toNat * 4)))), (54, .pointer (some ((ad6l9.add (r6jz.toNat * 4)).add 0)))] := h6lj.keep ⟨rfl, rfl, (by rw [hl6lq] <;> rfl), rfl, rfl, rfl, rfl, rfl, rfl, rfl, rfl, (by rw [hl6lq] <;> rfl), rfl, rfl, rfl, rfl, rfl, rfl, rfl, rfl, rfl, rfl, rfl, rfl, rfl, rfl, rfl, (by rw [hl6lq] <;> rfl), rfl, rfl, rfl, trivial⟩
         clear h6lj
         refine WL.dn ?_
         refine WT.start 11 (fun w_ => (w_.cell? ⟨g6jn, 1, none⟩ = some (.int .u32 ((gt z45 p1 x6iv).f1))) ∧ (w_.cell? ⟨g6jn, 2, none⟩ = some (i6 ((gt z45 p1 x6iv).f2))) ∧ True) (by kernel_rfl) #[false, false, false, false, false, false, false, false, false, false, false] 11 rfl rfl ?_
         have hS6or := hS6ln.drew
         refine WT.tk 0 h6ls rfl rfl (.slice A6ir y6lo.length c6is) (fun _ _ => by kernel_rfl) ⟨(hS6or.b2.cell (i := 1) rfl), (hS6or.b2.cell (i := 2) rfl), trivial⟩ (fun a6os s6ou h6ot => ?_)
         refine WT.tk 1 h6ot rfl rfl (.pointer (some ⟨g6jn, 1, none⟩)) (fun _ _ => by kernel_rfl) s6ou (fun a6ov s6ox h6ow => ?_)
         refine WT.tk 3 h6ow rfl rfl (.pointer (some ⟨g6jn, 2, none⟩)) (fun _ _ => by kernel_rfl) s6ox (fun a6oy s6p0 h6oz => ?_)
         refine WT.tk 2 h6oz rfl rfl (.int .u32 ((gt z45 p1 x6iv).f1)) (fun w_ hs_ => (run_load1 rfl rfl Try.underlying25 rfl hs_.1)) s6p0 (fun a6p1 s6p3 h6p2 => ?_)
         refine WT.tk 4 h6p2 rfl rfl (i6 ((gt z45 p1 x6iv).f2)) (fun w_ hs_ => (run_load1 rfl rfl Try.underlying3 rfl hs_.2.1)) s6p3 (fun a6p4 s6p6 h6p5 => ?_)
         obtain ⟨r6p8, A6p7, H⟩ := bind1 H
         refine WT.o1 5 h6p5 rfl ?_
         refine owp_call [i6 ((gt z45 p1 x6iv).f2), .bool true] h6p5 rfl (by kernel_rfl) rfl Try.func17 (by kernel_rfl) rfl (by kernel_rfl) (louverref10qNew.calls  A6p7 hS6or) (fun e6pa W6p9 hp6pb => ?_)
         obtain ⟨rfl, hS6pe⟩ := hp6pb
         refine ⟨_, rfl, fun a6pc h6pd => ?_⟩
         refine ⟨.inr ⟨(hS6pe.b2.cell (i := 1) rfl), (hS6pe.b2.cell (i := 2) rfl), trivial⟩, ?_⟩
         refine WT.tk 6 h6pd rfl rfl (i6 r6p8.f0) (fun _ _ => by kernel_rfl) ⟨(hS6pe.b2.cell (i := 1) rfl), (hS6pe.b2.cell (i := 2) rfl), trivial⟩ (fun a6pf s6ph h6pg => ?_)
         refine WT.tk 7 h6pg rfl rfl (.agg #[.int .u32 ((gt z45 p1 x6iv).f1), .string (mkS []), .string (mkS []), i6 r6p8.f0]) (fun _ _ => by kernel_rfl) s6ph (fun a6pi s6pk h6pj => ?_)
         obtain ⟨_, hrep_, hMe_⟩ := k48qmk (b := b) (w0 := w0) (R := R) (x := (⟨(gt z45 p1 x6iv).f1, ([] : List UInt8), ([] : List UInt8), r6p8.f0⟩ : S48)) 
         subst hMe_
         have hq6pl := hrep_; clear hrep_
         refine WT.o1 8 h6pj rfl ?_
         refine owp_nw (fun g_ => .slice (some ⟨g_, 0, none⟩) 1 1) (.cells ([.int .u32 ((gt z45 p1 x6iv).f1), .string (mkS []), .string (mkS []), i6 r6p8.f0] : List Value).toArray 48 (0, 0)) h6pj rfl hS6pe (fun a6pm W6po g6pp h6pn hS6pq => ?_)
         clear h6l6 a6l5 h6le a6ld h6lg a6lf h6ls a6li h6ot a6os h6ow a6ov h6oz a6oy h6p2 a6p1 h6p5 a6p4 h6pd a6pc h6pg a6pf h6pj a6pi
         have hr6pr : Row k48 48 b w0 R (.slice (some ⟨g6pp, 0, none⟩) 1 1) ([(⟨(gt z45 p1 x6iv).f1, ([] : List UInt8), ([] : List UInt8), r6p8.f0⟩ : S48)] : List S48) (bx g6pp 48 [.int .u32 ((gt z45 p1 x6iv).f1), .string (mkS []), .string (mkS []), i6 r6p8.f0]) := Row.lit (xs := ([(⟨(gt z45 p1 x6iv).f1, ([] : List UInt8), ([] : List UInt8), r6p8.f0⟩ : S48)] : List S48)) (Mi := []) ⟨_, _, [], _, rfl, rfl, hq6pl, ⟨rfl, rfl⟩⟩ (by simp [maxLen])
         refine ⟨.inr ⟨(hS6pq.b3.cell (i := 1) rfl), (hS6pq.b3.cell (i := 2) rfl), trivial⟩, ?_⟩
         by_cases c6ps : y6lo.length + 1 ≤ 2932031007402
         ·rw [if_pos c6ps] at H
          have hS6pt := hS6pq.b1
          refine WT.o1 9 h6pn rfl ?_
          refine owp_app_take (z := .agg #[.int .u32 0, .string (mkS []), .string (mkS []), i6 0]) (bytes := 48) (dk := k48) h6pn rfl (by kernel_rfl) rfl rfl rfl hr6lr hr6pr hS6pt Try.underlying43 (by kernel_rfl) rfl (by decide) (by decide) (by first | omega | (simp only [List.length_cons, List.length_nil] at *; omega)) (fun a6pu W6pw v6px M6py h6pv hr6pz hS6q0 => ?_)
          obtain ⟨y6q1, hy6q2, H⟩ := lete H
          have hr6q3 : Row k48 48 b w0 R v6px y6q1 M6py := by rw [hy6q2]; exact hr6pz
          clear hr6pz
          obtain ⟨A6q4, c6q5, rfl⟩ := hr6q3.form
          refine ⟨.inr ⟨(hS6q0.b2.cell (i := 1) rfl), (hS6q0.b2.cell (i := 2) rfl), trivial⟩, ?_⟩
          refine WT.tk 10 h6pv rfl rfl (.slice A6q4 y6q1.length c6q5) (fun _ _ => by kernel_rfl) ⟨(hS6q0.b2.cell (i := 1) rfl), (hS6q0.b2.cell (i := 2) rfl), trivial⟩ (fun a6q6 s6q8 h6q7 => ?_)
          refine WT.dn ?_
          refine WL.start ?_
          refine WL.bl 2 2 h6q7 [(27, i6 (IntKind.i64.wrap (x6iv + 1))), (207, i6 (IntKind.i64.wrap (x6iv + 1)))] (fun a6q9 h6qa => ?_)
          refine WL.dn ?_
          have hS6qb := hS6q0.b2
          have hS6qc := hS6qb.drop_
          have hS6qd := hS6qc.b1
          exact ⟨kk6iy, by omega, r6ks, M6ky, x6ip, y6q1, A6q4, c6q5, M6py, IntKind.i64.wrap (x6iv + 1), h6qa.keep ⟨rfl, rfl, rfl, rfl, rfl, rfl, trivial⟩, ⟨H⟩, ⟨by omega⟩, ⟨hS6qd⟩, ⟨hr6kz⟩, ⟨hr6q3⟩⟩
         ·rw [if_neg c6ps] at H
          cases H
        ·rw [if_neg c6l8] at H
         cases H
       ·rw [if_neg c6l7] at H
        cases H
      ·rw [if_neg c6l4] at H
       have hb_ : (decide (r6jz ≥ 0)) = false := decide_eq_false c6l4
       try rw [hb_] at h6l3
       clear hb_
       refine wp_else h6l3 rfl ?_
       refine wp_skip ?_
       refine WT.start 11 (fun w_ => (w_.cell? ⟨g6jn, 1, none⟩ = some (.int .u32 ((gt z45 p1 x6iv).f1))) ∧ (w_.cell? ⟨g6jn, 2, none⟩ = some (i6 ((gt z45 p1 x6iv).f2))) ∧ True) (by kernel_rfl) #[false, false, false, false, false, false, false, false, false, false, false] 11 rfl rfl ?_
       have hS6tc := hS6l0.drew
       refine WT.tk 0 h6l3 rfl rfl (.slice A6ir x6iq.length c6is) (fun _ _ => by kernel_rfl) ⟨(hS6tc.b1.cell (i := 1) rfl), (hS6tc.b1.cell (i := 2) rfl), trivial⟩ (fun a6td s6tf h6te => ?_)
       refine WT.tk 1 h6te rfl rfl (.pointer (some ⟨g6jn, 1, none⟩)) (fun _ _ => by kernel_rfl) s6tf (fun a6tg s6ti h6th => ?_)
       refine WT.tk 3 h6th rfl rfl (.pointer (some ⟨g6jn, 2, none⟩)) (fun _ _ => by kernel_rfl) s6ti (fun a6tj s6tl h6tk => ?_)
       refine WT.tk 2 h6tk rfl rfl (.int .u32 ((gt z45 p1 x6iv).f1)) (fun w_ hs_ => (run_load1 rfl rfl Try.underlying25 rfl hs_.1)) s6tl (fun a6tm s6to h6tn => ?_)
       refine WT.tk 4 h6tn rfl rfl (i6 ((gt z45 p1 x6iv).f2)) (fun w_ hs_ => (run_load1 rfl rfl Try.underlying3 rfl hs_.2.1)) s6to (fun a6tp s6tr h6tq => ?_)
       obtain ⟨r6tt, A6ts, H⟩ := bind1 H
       refine WT.o1 5 h6tq rfl ?_
       refine owp_call [i6 ((gt z45 p1 x6iv).f2), .bool true] h6tq rfl (by kernel_rfl) rfl Try.func17 (by kernel_rfl) rfl (by kernel_rfl) (louverref10qNew.calls  A6ts hS6tc) (fun e6tv W6tu hp6tw => ?_)
       obtain ⟨rfl, hS6tz⟩ := hp6tw
       refine ⟨_, rfl, fun a6tx h6ty => ?_⟩
       refine ⟨.inr ⟨(hS6tz.b1.cell (i := 1) rfl), (hS6tz.b1.cell (i := 2) rfl), trivial⟩, ?_⟩
       refine WT.tk 6 h6ty rfl rfl (i6 r6tt.f0) (fun _ _ => by kernel_rfl) ⟨(hS6tz.b1.cell (i := 1) rfl), (hS6tz.b1.cell (i := 2) rfl), trivial⟩ (fun a6u0 s6u2 h6u1 => ?_)
       refine WT.tk 7 h6u1 rfl rfl (.agg #[.int .u32 ((gt z45 p1 x6iv).f1), .string (mkS []), .string (mkS []), i6 r6tt.f0]) (fun _ _ => by kernel_rfl) s6u2 (fun a6u3 s6u5 h6u4 => ?_)
       obtain ⟨_, hrep_, hMe_⟩ := k48qmk (b := b) (w0 := w0) (R := R) (x := (⟨(gt z45 p1 x6iv).f1, ([] : List UInt8), ([] : List UInt8), r6tt.f0⟩ : S48)) 
       subst hMe_
       have hq6u6 := hrep_; clear hrep_
       refine WT.o1 8 h6u4 rfl ?_
       refine owp_nw (fun g_ => .slice (some ⟨g_, 0, none⟩) 1 1) (.cells ([.int .u32 ((gt z45 p1 x6iv).f1), .string (mkS []), .string (mkS []), i6 r6tt.f0] : List Value).toArray 48 (0, 0)) h6u4 rfl hS6tz (fun a6u7 W6u9 g6ua h6u8 hS6ub => ?_)
       have hr6uc : Row k48 48 b w0 R (.slice (some ⟨g6ua, 0, none⟩) 1 1) ([(⟨(gt z45 p1 x6iv).f1, ([] : List UInt8), ([] : List UInt8), r6tt.f0⟩ : S48)] : List S48) (bx g6ua 48 [.int .u32 ((gt z45 p1 x6iv).f1), .string (mkS []), .string (mkS []), i6 r6tt.f0]) := Row.lit (xs := ([(⟨(gt z45 p1 x6iv).f1, ([] : List UInt8), ([] : List UInt8), r6tt.f0⟩ : S48)] : List S48)) (Mi := []) ⟨_, _, [], _, rfl, rfl, hq6u6, ⟨rfl, rfl⟩⟩ (by simp [maxLen])
       refine ⟨.inr ⟨(hS6ub.b2.cell (i := 1) rfl), (hS6ub.b2.cell (i := 2) rfl), trivial⟩, ?_⟩
       clear h6l3 a6l2 h6te a6td h6th a6tg h6tk a6tj h6tn a6tm h6tq a6tp h6ty a6tx h6u1 a6u0 h6u4 a6u3
       by_cases c6ud : x6iq.length + 1 ≤ 2932031007402
       ·rw [if_pos c6ud] at H
        have hS6ue := hS6ub.b3
        refine WT.o1 9 h6u8 rfl ?_
        refine owp_app_take (z := .agg #[.int .u32 0, .string (mkS []), .string (mkS []), i6 0]) (bytes := 48) (dk := k48) h6u8 rfl (by kernel_rfl) rfl rfl rfl hr6iu hr6uc hS6ue Try.underlying43 (by kernel_rfl) rfl (by decide) (by decide) (by first | omega | (simp only [List.length_cons, List.length_nil] at *; omega)) (fun a6uf W6uh v6ui M6uj h6ug hr6uk hS6ul => ?_)
        obtain ⟨y6um, hy6un, H⟩ := lete H
        have hr6uo : Row k48 48 b w0 R v6ui y6um M6uj := by rw [hy6un]; exact hr6uk
        clear hr6uk
        obtain ⟨A6up, c6uq, rfl⟩ := hr6uo.form
        refine ⟨.inr ⟨(hS6ul.b2.cell (i := 1) rfl), (hS6ul.b2.cell (i := 2) rfl), trivial⟩, ?_⟩
        refine WT.tk 10 h6ug rfl rfl (.slice A6up y6um.length c6uq) (fun _ _ => by kernel_rfl) ⟨(hS6ul.b2.cell (i := 1) rfl), (hS6ul.b2.cell (i := 2) rfl), trivial⟩ (fun a6ur s6ut h6us => ?_)
        refine WT.dn ?_
        refine WL.start ?_
        refine WL.bl 2 2 h6us [(27, i6 (IntKind.i64.wrap (x6iv + 1))), (207, i6 (IntKind.i64.wrap (x6iv + 1)))] (fun a6uu h6uv => ?_)
        refine WL.dn ?_
        have hS6uw := hS6ul.b2
        have hS6ux := hS6uw.drop_
        have hS6uy := hS6ux.b1
        exact ⟨kk6iy, by omega, r6ks, M6ky, x6ip, y6um, A6up, c6uq, M6uj, IntKind.i64.wrap (x6iv + 1), h6uv.keep ⟨rfl, rfl, rfl, rfl, rfl, rfl, trivial⟩, ⟨H⟩, ⟨by omega⟩, ⟨hS6uy⟩, ⟨hr6kz⟩, ⟨hr6uo⟩⟩
       ·rw [if_neg c6ud] at H
        cases H
     ·rw [if_neg c6l1] at H
      have hb_ : r6kr = false := (Bool.eq_false_iff.2 c6l1)
      try rw [hb_] at h6kx
      clear hb_
      refine wp_else h6kx rfl ?_
      refine wp_skip ?_
      refine WL.start ?_
      refine WL.bl 2 2 h6kx [(27, i6 (IntKind.i64.wrap (x6iv + 1))), (207, i6 (IntKind.i64.wrap (x6iv + 1)))] (fun a6uz h6v0 => ?_)
      refine WL.dn ?_
      have hS6v1 := hS6l0.b1
      have hS6v2 := hS6v1.drop_
      exact ⟨kk6iy, by omega, r6ks, M6ky, x6ip, x6iq, A6ir, c6is, M6it, IntKind.i64.wrap (x6iv + 1), h6v0.keep ⟨rfl, rfl, rfl, rfl, rfl, rfl, trivial⟩, ⟨H⟩, ⟨by omega⟩, ⟨hS6v2⟩, ⟨hr6kz⟩, ⟨hr6iu⟩⟩
    ·rw [if_neg c6kg] at H
     have hb_ : (decide (((gt z45 p1 x6iv).f0) = 0)) = false := decide_eq_false c6kg
     try rw [hb_] at h6kf
     clear hb_
     refine wp_else h6kf rfl ?_
     refine wp_seq ?_
     refine WL.start ?_
     refine WL.bl 2 2 h6kf [(65, .bool (decide (((gt z45 p1 x6iv).f0) = 1))), (66, .bool (decide (((gt z45 p1 x6iv).f0) = 1)))] (fun a6v3 h6v4 => ?_)
     refine WL.dn ?_
     clear h6kf a6ke
     by_cases c6v5 : ((gt z45 p1 x6iv).f0) = 1
     ·rw [if_pos c6v5] at H
      have hb_ : (decide (((gt z45 p1 x6iv).f0) = 1)) = true := decide_eq_true c6v5
      try rw [hb_] at h6v4
      clear hb_
      refine wp_then h6v4 rfl ?_
      refine wp_seq ?_
      refine WL.start ?_
      refine WL.bl 2 2 h6v4 [(68, .pointer (some ⟨g6jn, 1, none⟩)), (67, pt g6hy)] (fun a6v6 h6v7 => ?_)
      refine WL.oq h6v7 rfl ?_
      refine owp_rn (.int .u32 ((gt z45 p1 x6iv).f1)) h6v7 rfl (run_load1 rfl rfl Try.underlying25 rfl (hS6kb.cell (i := 1) rfl)) (fun a6v8 h6v9 => ?_)
      refine WL.bl 1 4 h6v9 [(70, .pointer (some ⟨g6jn, 3, none⟩))] (fun a6va h6vb => ?_)
      refine WL.oq h6vb rfl ?_
      refine owp_rn (.slice A6jg ((gt z45 p1 x6iv).f3).length c6jh) h6vb rfl (run_load1 rfl rfl Try.underlying27 rfl (hS6kb.cell (i := 3) rfl)) (fun a6vc h6vd => ?_)
      refine WL.bl 1 6 h6vd [(72, .pointer (some ⟨g6jn, 4, none⟩))] (fun a6ve h6vf => ?_)
      refine WL.oq h6vf rfl ?_
      refine owp_rn (.bool ((gt z45 p1 x6iv).f4)) h6vf rfl (run_load1 rfl rfl Try.underlying4 rfl (hS6kb.cell (i := 4) rfl)) (fun a6vg h6vh => ?_)
      have hS6vi := hS6kb.b2
      obtain ⟨r6vk, r6vl, A6vj, H⟩ := bind2 H
      refine WL.oq h6vh rfl ?_
      refine owp_call [(pt g6hy), .int .u32 ((gt z45 p1 x6iv).f1), .slice A6jg ((gt z45 p1 x6iv).f3).length c6jh, .bool ((gt z45 p1 x6iv).f4)] h6vh rfl (by kernel_rfl) rfl Try.func10 (by kernel_rfl) rfl (by kernel_rfl) (turns_Ring_Put.calls kk6iy hr6io hx6jf A6vj hS6vi) (fun e6vn W6vm hp6vo => ?_)
      obtain ⟨M6vr, rfl, hr6vs, hS6vt⟩ := hp6vo
      refine ⟨_, rfl, fun a6vp h6vq => ?_⟩
      refine WL.dn ?_
      clear h6v4 a6v3 h6v7 a6v6 h6v9 a6v8 h6vb a6va h6vd a6vc h6vf a6ve h6vh a6vg
      by_cases c6vu : r6vk = true
      ·rw [if_pos c6vu] at H
       have hb_ : r6vk = true := c6vu
       try rw [hb_] at h6vq
       clear hb_
       refine wp_then h6vq rfl ?_
       refine wp_seq ?_
       refine wp_seq ?_
       refine WL.start ?_
       refine WL.bl 2 2 h6vq [(76, .bool (decide (r6jz < 0))), (75, i6 r6jz)] (fun a6vv h6vw => ?_)
       refine WL.dn ?_
       clear h6vq a6vp
       by_cases c6vx : r6jz < 0
       ·rw [if_pos c6vx] at H
        have hb_ : (decide (r6jz < 0)) = true := decide_eq_true c6vx
        try rw [hb_] at h6vw
        clear hb_
        refine wp_then h6vw rfl ?_
        refine wp_seq ?_
        refine WL.start ?_
        refine WL.bl 1 1 h6vw [(4, .bool false)] (fun a6vy h6vz => ?_)
        refine WL.dn ?_
        refine wp_ret ?_
        have hS6w0 := hS6vt.drop_
        have hS6w1 := hS6w0.drop_
        have hS6w2 := hS6w1.drop_
        obtain rfl := Option.some.inj H
        repeat (first | with_reducible refine t1 ?_ | with_reducible refine t2 ?_ | with_reducible refine t3 ?_)
        refine bret (.bool false) h6vz ?_
        exact ⟨rfl, hS6w2⟩
       ·rw [if_neg c6vx] at H
        have hb_ : (decide (r6jz < 0)) = false := decide_eq_false c6vx
        try rw [hb_] at h6vw
        clear hb_
        refine wp_else h6vw rfl ?_
        refine wp_skip ?_
        refine WT.start 11 (fun w_ => (∀ a_ u_, Kn b w0 (M6it ++ R) a_ u_ → w_.cell? a_ = some u_) ∧ (w_.cell? ⟨g6jn, 3, none⟩ = some (.slice A6jg ((gt z45 p1 x6iv).f3).length c6jh)) ∧ (∀ a_ u_, Kn b w0 R a_ u_ → w_.cell? a_ = some u_) ∧ True) (by kernel_rfl) #[false, false, false, false, false, false, false, false, false, false, false, false] 12 rfl rfl ?_
        have hS6zf := hS6vt.drew
        refine WT.tk 0 h6vw rfl rfl (.slice A6ir x6iq.length c6is) (fun _ _ => by kernel_rfl) ⟨(fun _ _ hk_ => (hS6zf.bring 2 rfl rfl).pool.kn hk_), (hS6zf.b1.cell (i := 3) rfl), (fun _ _ hk_ => hS6zf.kn hk_), trivial⟩ (fun a6zg s6zi h6zh => ?_)
        refine WT.tk 1 h6zh rfl rfl (i6 r6jz) (fun _ _ => by kernel_rfl) s6zi (fun a6zj s6zl h6zk => ?_)
        refine WT.tk 5 h6zk rfl rfl (.pointer (some ⟨g6jn, 3, none⟩)) (fun _ _ => by kernel_rfl) s6zl (fun a6zm s6zo h6zn => ?_)
        clear h6vw a6vv h6zh a6zg h6zk a6zj
        by_cases c6zp : 0 ≤ r6jz
        ·rw [if_pos c6zp] at H
         by_cases c6zq : r6jz < (x6iq.length : Int)
         ·rw [if_pos c6zq] at H
          have hi6zt : 0 ≤ r6jz := by first | assumption | omega
          have hi6zu : r6jz < (x6iq.length : Int) := by first | assumption | omega
          obtain ⟨ad6zr, _, ha6zs, -, -⟩ := Rds.elemAny hr6iu.rds hi6zt (gt_get (z := z48) hi6zt hi6zu)
          refine WT.tk 2 h6zn rfl rfl (.pointer (some (ad6zr.add (r6jz.toNat * 4)))) (fun w_ hs_ => (run_idx (ad := ad6zr) (sz := 4) rfl (by rw [← ha6zs]; rfl) rfl Try.underlying43 (by kernel_rfl) hi6zt hi6zu)) s6zo (fun a6zv s6zx h6zw => ?_)
          refine WT.tk 3 h6zw rfl rfl (.pointer (some ((ad6zr.add (r6jz.toNat * 4)).add 1))) (fun _ _ => by kernel_rfl) s6zx (fun a6zy s700 h6zz => ?_)
          obtain ⟨ad701, cs702, ha703, hr705, hc704⟩ := Rds.elemAny hr6iu.rds hi6zt (gt_get (z := z48) hi6zt hi6zu)
          rw [ha6zs] at ha703; obtain rfl := Option.some.inj ha703
          obtain rfl := k48qrd hr705
          refine WT.tk 4 h6zz rfl rfl (.string (mkS ((gt z48 x6iq r6jz).f1))) (fun w_ hs_ => (run_load1 rfl rfl Try.underlying9 rfl (hc704 _ hs_.1 1 _ rfl))) s700 (fun a706 s708 h707 => ?_)
          refine WT.tk 6 h707 rfl rfl (.slice A6jg ((gt z45 p1 x6iv).f3).length c6jh) (fun w_ hs_ => (run_load1 rfl rfl Try.underlying27 rfl hs_.2.1)) s708 (fun a709 s70b h70a => ?_)
          refine WT.tk 7 h70a rfl rfl (.string (mkS (toS ((gt z45 p1 x6iv).f3)))) (fun w_ hs_ => (run_tostr rfl rfl hx6jf hs_.2.2.1 Try.underlying27 Try.underlying5 Try.underlying9)) s70b (fun a70c s70e h70d => ?_)
          clear h6zn a6zm h6zw a6zv h6zz a6zy h707 a706 h70a a709
          by_cases c70f : ((gt z48 x6iq r6jz).f1).length + (toS ((gt z45 p1 x6iv).f3)).length ≤ 9223372036854775807
          ·rw [if_pos c70f] at H
           refine WT.tk 8 h70d rfl rfl (.string (mkS (((gt z48 x6iq r6jz).f1) ++ (toS ((gt z45 p1 x6iv).f3))))) (fun w_ hs_ => (run_concat rfl rfl rfl (by assumption))) s70e (fun a70g s70i h70h => ?_)
           have hi70l : 0 ≤ r6jz := by first | assumption | omega
           have hi70m : r6jz < (x6iq.length : Int) := by first | assumption | omega
           obtain ⟨ad70j, _, ha70k, -, -⟩ := Rds.elemAny hr6iu.rds hi70l (gt_get (z := z48) hi70l hi70m)
           refine WT.o1 9 h70h rfl ?_
           refine owp_rn (.pointer (some (ad70j.add (r6jz.toNat * 4)))) h70h rfl (run_idx (ad := ad70j) (sz := 4) rfl (by rw [← ha70k]; rfl) rfl Try.underlying43 (by kernel_rfl) hi70l hi70m) (fun a70n h70o => ?_)
           refine ⟨.inr ⟨(fun _ _ hk_ => (hS6zf.bring 2 rfl rfl).pool.kn hk_), (hS6zf.b1.cell (i := 3) rfl), (fun _ _ hk_ => hS6zf.kn hk_), trivial⟩, ?_⟩
           refine WT.tk 10 h70o rfl rfl (.pointer (some ((ad70j.add (r6jz.toNat * 4)).add 1))) (fun _ _ => by kernel_rfl) ⟨(fun _ _ hk_ => (hS6zf.bring 2 rfl rfl).pool.kn hk_), (hS6zf.b1.cell (i := 3) rfl), (fun _ _ hk_ => hS6zf.kn hk_), trivial⟩ (fun a70p s70r h70q => ?_)
           have hS70s := hS6zf.b2
           refine WT.o1 11 h70q rfl ?_
           refine owp_setelem (j := 1) (vs := [.string (mkS (((gt z48 x6iq r6jz).f1) ++ (toS ((gt z45 p1 x6iv).f3))))]) (x' := (⟨(gt z48 x6iq r6jz).f0, ((gt z48 x6iq r6jz).f1) ++ (toS ((gt z45 p1 x6iv).f3)), (gt z48 x6iq r6jz).f2, (gt z48 x6iq r6jz).f3⟩ : S48)) h70q rfl (by kernel_rfl) rfl rfl rfl rfl (by simp [Value.oneCell']) (by kernel_rfl) ha70k hr6iu hS70s hi70l (gt_get (z := z48) hi70l hi70m) (by simp only [List.length_cons, List.length_nil]; decide) (by intro cs_ Mx_ hr_; obtain ⟨rfl, rfl⟩ := k48qrep hr_; obtain ⟨_, hk_, rfl⟩ := k48qmk (b := b) (w0 := w0) (R := R) (x := (⟨(gt z48 x6iq r6jz).f0, ((gt z48 x6iq r6jz).f1) ++ (toS ((gt z45 p1 x6iv).f3)), (gt z48 x6iq r6jz).f2, (gt z48 x6iq r6jz).f3⟩ : S48)); exact hk_) (fun a70t W70v M70w h70u hr70x hS70y => ?_)
           obtain ⟨y70z, hy710, H⟩ := lete H
           have hl711 : y70z.length = x6iq.length := by simp [hy710]
           have hr712 : Row k48 48 b w0 R (.slice A6ir y70z.length c6is) y70z M70w := by rw [hl711]; rw [hy710]; exact hr70x
           have h713 : Hd a70t 209 [(5, pt g6hy), (6, i6 x6ip), (7, .slice A6ir y70z.length c6is), (9, pt g6jn), (10, i6 r6jz), (25, .slice A1 p1.length c1), (26, i6 (p1.length : Int)), (27, i6 x6iv), (28, .bool true), (29, .pointer (some (ad6j3.add (x6iv.toNat * 7)))), (30, .agg #[i6 ((gt z45 p1 x6iv).f0), .int .u32 ((gt z45 p1 x6iv).f1), i6 ((gt z45 p1 x6iv).f2), .slice A6jg ((gt z45 p1 x6iv).f3).length c6jh, .bool ((gt z45 p1 x6iv).f4), .int .u32 ((gt z45 p1 x6iv).f5), .int .u32 ((gt z45 p1 x6iv).f6)]), (31, .slice A6ir y70z.length c6is), (32, .pointer (some ⟨g6jn, 1, none⟩)), (33, .int .u32 ((gt z45 p1 x6iv).f1)), (34, i6 r6jz), (35, pt g6jn), (36, i6 ((gt z45 p1 x6iv).f0)), (41, .bool false), (42, .bool false), (65, .bool true), (66, .bool true), (67, pt g6hy), (68, .pointer (some ⟨g6jn, 1, none⟩)), (69, .int .u32 ((gt z45 p1 x6iv).f1)), (70, .pointer (some ⟨g6jn, 3, none⟩)), (71, .slice A6jg ((gt z45 p1 x6iv).f3).length c6jh), (72, .pointer (some ⟨g6jn, 4, none⟩)), (73, .bool ((gt z45 p1 x6iv).f4)), (74, .bool true), (75, i6 r6jz), (76, .bool false), (77, .slice A6ir y70z.length c6is), (78, i6 r6jz), (79, .pointer (some (ad6zr.add (r6jz.toNat * 4)))), (80, .pointer (some ((ad6zr.add (r6jz.toNat * 4)).add 1))), (81, .string (mkS ((gt z48 x6iq r6jz).f1))), (82, .pointer (some ⟨g6jn, 3, none⟩)), (83, .slice A6jg ((gt z45 p1 x6iv).f3).length c6jh), (84, .string (mkS (toS ((gt z45 p1 x6iv).f3)))), (85, .string (mkS (((gt z48 x6iq r6jz).f1) ++ (toS ((gt z45 p1 x6iv).f3))))), (86, .pointer (some (ad70j.add (r6jz.toNat * 4)))), (87, .pointer (some ((ad70j.add (r6jz.toNat * 4)).add 1)))] := h70u.keep ⟨rfl, rfl, (by rw [hl711] <;> rfl), rfl, rfl, rfl, rfl, rfl, rfl, rfl, rfl, (by rw [hl711] <;> rfl), rfl, rfl, rfl, rfl, rfl, rfl, rfl, rfl, rfl, rfl, rfl, rfl, rfl, rfl, rfl, rfl, rfl, rfl, rfl, (by rw [hl711] <;> rfl), rfl, rfl, rfl, rfl, rfl, rfl, rfl, rfl, rfl, rfl, trivial⟩
           clear h70u
           refine ⟨.inl (by decide), ?_⟩
           refine WT.dn ?_
           refine WL.start ?_
           refine WL.bl 2 2 h713 [(27, i6 (IntKind.i64.wrap (x6iv + 1))), (207, i6 (IntKind.i64.wrap (x6iv + 1)))] (fun a714 h715 => ?_)
           refine WL.dn ?_
           have hS716 := hS70y.b2
           have hS717 := hS716.drop_
           have hS718 := hS717.b1
           exact ⟨kk6iy, by omega, r6vl, M6vr, x6ip, y70z, A6ir, c6is, M70w, IntKind.i64.wrap (x6iv + 1), h715.keep ⟨rfl, rfl, rfl, rfl, rfl, rfl, trivial⟩, ⟨H⟩, ⟨by omega⟩, ⟨hS718⟩, ⟨hr6vs⟩, ⟨hr712⟩⟩
          ·rw [if_neg c70f] at H
           cases H
         ·rw [if_neg c6zq] at H
          cases H
        ·rw [if_neg c6zp] at H
         cases H
      ·rw [if_neg c6vu] at H
       have hb_ : r6vk = false := (Bool.eq_false_iff.2 c6vu)
       try rw [hb_] at h6vq
       clear hb_
       refine wp_else h6vq rfl ?_
       refine wp_skip ?_
       refine WL.start ?_
       refine WL.bl 2 2 h6vq [(27, i6 (IntKind.i64.wrap (x6iv + 1))), (207, i6 (IntKind.i64.wrap (x6iv + 1)))] (fun a719 h71a => ?_)
       refine WL.dn ?_
       have hS71b := hS6vt.b1
       have hS71c := hS71b.drop_
       exact ⟨kk6iy, by omega, r6vl, M6vr, x6ip, x6iq, A6ir, c6is, M6it, IntKind.i64.wrap (x6iv + 1), h71a.keep ⟨rfl, rfl, rfl, rfl, rfl, rfl, trivial⟩, ⟨H⟩, ⟨by omega⟩, ⟨hS71c⟩, ⟨hr6vs⟩, ⟨hr6iu⟩⟩
     ·rw [if_neg c6v5] at H
      have hb_ : (decide (((gt z45 p1 x6iv).f0) = 1)) = false := decide_eq_false c6v5
      try rw [hb_] at h6v4
      clear hb_
      refine wp_else h6v4 rfl ?_
      refine wp_seq ?_
      refine WL.start ?_
      refine WL.bl 2 2 h6v4 [(88, .bool (decide (((gt z45 p1 x6iv).f0) = 2))), (89, .bool (decide (((gt z45 p1 x6iv).f0) = 2)))] (fun a71d h71e => ?_)
      refine WL.dn ?_
      clear h6v4 a6v3
      by_cases c71f : ((gt z45 p1 x6iv).f0) = 2
      ·rw [if_pos c71f] at H
       have hb_ : (decide (((gt z45 p1 x6iv).f0) = 2)) = true := decide_eq_true c71f
       try rw [hb_] at h71e
       clear hb_
       refine wp_then h71e rfl ?_
       refine wp_seq ?_
       refine WL.start ?_
       refine WL.bl 2 2 h71e [(92, .pointer (some ⟨g6jn, 2, none⟩)), (91, pt g6hy)] (fun a71g h71h => ?_)
       refine WL.oq h71h rfl ?_
       refine owp_rn (i6 ((gt z45 p1 x6iv).f2)) h71h rfl (run_load1 rfl rfl Try.underlying3 rfl (hS6kb.cell (i := 2) rfl)) (fun a71i h71j => ?_)
       have hS71k := hS6kb.b2
       obtain ⟨r71m, r71n, r71o, r71p, r71q, A71l, H⟩ := bind5 H
       refine WL.oq h71j rfl ?_
       refine owp_call [(pt g6hy), i6 ((gt z45 p1 x6iv).f2)] h71j rfl (by kernel_rfl) rfl Try.func11 (by kernel_rfl) rfl (by kernel_rfl) (turns_Ring_Next.calls kk6iy hr6io A71l hS71k) (fun e71s W71r hp71t => ?_)
       obtain ⟨v71w, M71x, M71z, rfl, hr71y, hr720, hS721⟩ := hp71t
       refine ⟨_, rfl, fun a71u h71v => ?_⟩
       obtain ⟨A722, c723, rfl⟩ := hr71y.form
       refine WL.bl 9 13 h71v [(14, .bool r71p), (13, .bool r71o), (12, .slice A722 r71n.length c723), (11, .int .u32 r71m), (98, .bool r71p), (97, .bool r71o), (96, .slice A722 r71n.length c723), (95, .int .u32 r71m), (90, .tuple #[.int .u32 r71m, .slice A722 r71n.length c723, .bool r71o, .bool r71p])] (fun a724 h725 => ?_)
       refine WL.dn ?_
       refine wp_seq ?_
       refine wp_seq ?_
       refine WL.start ?_
       refine WL.bl 2 2 h725 [(100, .bool (!r71p)), (99, .bool r71p)] (fun a726 h727 => ?_)
       refine WL.dn ?_
       clear h71e a71d h71h a71g h71j a71i h71v a71u h725 a724
       by_cases c728 : r71p = true
       ·rw [if_pos c728] at H
        have hb_ : r71p = true := c728
        try rw [hb_] at h727
        clear hb_
        refine wp_else h727 rfl ?_
        refine wp_skip ?_
        refine wp_seq ?_
        refine WL.start ?_
        refine WL.bl 2 2 h727 [(102, .int .u32 r71m), (101, .slice A6ir x6iq.length c6is)] (fun a729 h72a => ?_)
        have hS72b := hS721.b3
        obtain ⟨r72d, A72c, H⟩ := bind1 H
        refine WL.oq h72a rfl ?_
        refine owp_call [.slice A6ir x6iq.length c6is, .int .u32 r71m] h72a rfl (by kernel_rfl) rfl Try.func18 (by kernel_rfl) rfl (by kernel_rfl) (louverlaw13qfind.calls kk6iy hr6iu.rds A72c (hS72b.pool)) (fun e72f W72e hp72g => ?_)
        obtain ⟨rfl, hS72j⟩ := hp72g
        have hS72k : St b w0 W72e R (M6it :: M71x :: M71z :: (bx g6jn 45 [i6 ((gt z45 p1 x6iv).f0), .int .u32 ((gt z45 p1 x6iv).f1), i6 ((gt z45 p1 x6iv).f2), .slice A6jg ((gt z45 p1 x6iv).f3).length c6jh, .bool ((gt z45 p1 x6iv).f4), .int .u32 ((gt z45 p1 x6iv).f5), .int .u32 ((gt z45 p1 x6iv).f6)]) :: Fs) := hS72j.unpool
        refine ⟨_, rfl, fun a72h h72i => ?_⟩
        refine WL.bl 1 4 h72i [(15, i6 r72d)] (fun a72l h72m => ?_)
        refine WL.dn ?_
        refine wp_seq ?_
        refine wp_seq ?_
        refine WL.start ?_
        refine WL.bl 3 3 h72m [(106, .bool (decide (r72d < 0))), (105, .bool (decide (r72d < 0))), (104, i6 r72d)] (fun a72n h72o => ?_)
        clear h727 a726 h72a a729 h72i a72h h72m a72l
        by_cases c72p : r72d < 0
        ·rw [if_pos c72p] at H
         have hb_ : (decide (r72d < 0)) = true := decide_eq_true c72p
         try rw [hb_] at h72o
         clear hb_
         refine WL.sk h72o rfl rfl (fun a72q h72r => ?_)
         refine WL.sk h72r rfl rfl (fun a72s h72t => ?_)
         refine WL.bl 1 6 h72t [(109, .bool true)] (fun a72u h72v => ?_)
         refine WL.dn ?_
         refine wp_then h72v rfl ?_
         refine wp_seq ?_
         refine WL.start ?_
         refine WL.bl 1 1 h72v [(4, .bool false)] (fun a72w h72x => ?_)
         refine WL.dn ?_
         refine wp_ret ?_
         have hS72y := hS72k.drop_
         have hS72z := hS72y.drop_
         have hS730 := hS72z.drop_
         have hS731 := hS730.drop_
         obtain rfl := Option.some.inj H
         repeat (first | with_reducible refine t1 ?_ | with_reducible refine t2 ?_ | with_reducible refine t3 ?_)
         refine bret (.bool false) h72x ?_
         exact ⟨rfl, hS731⟩
        ·rw [if_neg c72p] at H
         have hb_ : (decide (r72d < 0)) = false := decide_eq_false c72p
         try rw [hb_] at h72o
         clear hb_
         refine WL.oq h72o rfl (owp_rk (.int .u32 r71m) h72o rfl (fun a732 h733 => ?_))
         refine WL.oq h733 rfl (owp_rk (.bool (decide (r71m = 0))) h733 rfl (fun a734 h735 => ?_))
         refine WL.bl 1 6 h735 [(109, .bool (decide (r71m = 0)))] (fun a736 h737 => ?_)
         refine WL.dn ?_
         clear h72o a72n h733 a732 h735 a734
         by_cases c738 : r71m = 0
         ·rw [if_pos c738] at H
          have hb_ : (decide (r71m = 0)) = true := decide_eq_true c738
          try rw [hb_] at h737
          clear hb_
          refine wp_then h737 rfl ?_
          refine wp_seq ?_
          refine WL.start ?_
          refine WL.bl 1 1 h737 [(4, .bool false)] (fun a739 h73a => ?_)
          refine WL.dn ?_
          refine wp_ret ?_
          have hS73b := hS72k.drop_
          have hS73c := hS73b.drop_
          have hS73d := hS73c.drop_
          have hS73e := hS73d.drop_
          obtain rfl := Option.some.inj H
          repeat (first | with_reducible refine t1 ?_ | with_reducible refine t2 ?_ | with_reducible refine t3 ?_)
          refine bret (.bool false) h73a ?_
          exact ⟨rfl, hS73e⟩
         ·rw [if_neg c738] at H
          have hb_ : (decide (r71m = 0)) = false := decide_eq_false c738
          try rw [hb_] at h737
          clear hb_
          refine wp_else h737 rfl ?_
          refine wp_skip ?_
          refine wp_seq ?_
          refine WL.start ?_
          refine WL.bl 2 2 h737 [(111, i6 r72d), (110, .slice A6ir x6iq.length c6is)] (fun a73f h73g => ?_)
          clear h737 a736
          by_cases c73h : 0 ≤ r72d
          ·rw [if_pos c73h] at H
           by_cases c73i : r72d < (x6iq.length : Int)
           ·rw [if_pos c73i] at H
            have hi73l : 0 ≤ r72d := by first | assumption | omega
            have hi73m : r72d < (x6iq.length : Int) := by first | assumption | omega
            obtain ⟨ad73j, _, ha73k, -, -⟩ := Rds.elemAny hr6iu.rds hi73l (gt_get (z := z48) hi73l hi73m)
            refine WL.oq h73g rfl ?_
            refine owp_rn (.pointer (some (ad73j.add (r72d.toNat * 4)))) h73g rfl (run_idx (ad := ad73j) (sz := 4) rfl (by rw [← ha73k]; rfl) rfl Try.underlying43 (by kernel_rfl) hi73l hi73m) (fun a73n h73o => ?_)
            obtain ⟨ad73p, cs73q, ha73r, hr73t, hc73s⟩ := Rds.elemAny hr6iu.rds hi73l (gt_get (z := z48) hi73l hi73m)
            rw [ha73k] at ha73r; obtain rfl := Option.some.inj ha73r
            obtain rfl := k48qrd hr73t
            refine WL.oq h73o rfl ?_
            refine owp_rn (.agg #[.int .u32 ((gt z48 x6iq r72d).f0), .string (mkS ((gt z48 x6iq r72d).f1)), .string (mkS ((gt z48 x6iq r72d).f2)), i6 ((gt z48 x6iq r72d).f3)]) h73o rfl (run_loadN rfl rfl Try.underlying48 rfl (cs := [.int .u32 ((gt z48 x6iq r72d).f0), .string (mkS ((gt z48 x6iq r72d).f1)), .string (mkS ((gt z48 x6iq r72d).f2)), i6 ((gt z48 x6iq r72d).f3)]) (by kernel_rfl) (hc73s _ (fun _ _ hk_ => (hS72k).pool.kn hk_))) (fun a73u h73v => ?_)
            refine WL.oq h73v rfl ?_
            refine owp_nw (fun g_ => (pt g_)) (.cells ([.int .u32 0, .string (mkS []), .string (mkS []), i6 0] : List Value).toArray 48 (0, 0)) h73v rfl hS72k (fun a73w W73y g73z h73x hS740 => ?_)
            refine WL.oq h73x rfl ?_
            refine owp_st 0 [.int .u32 ((gt z48 x6iq r72d).f0), .string (mkS ((gt z48 x6iq r72d).f1)), .string (mkS ((gt z48 x6iq r72d).f2)), i6 ((gt z48 x6iq r72d).f3)] h73x rfl rfl rfl hS740 [.int .u32 ((gt z48 x6iq r72d).f0), .string (mkS ((gt z48 x6iq r72d).f1)), .string (mkS ((gt z48 x6iq r72d).f2)), i6 ((gt z48 x6iq r72d).f3)] (fun a741 W743 h742 hS744 => ?_)
            refine WL.dn ?_
            refine wp_seq ?_
            refine WL.start ?_
            refine WL.bl 1 1 h742 [(114, .pointer (some ⟨g73z, 2, none⟩))] (fun a745 h746 => ?_)
            refine WL.oq h746 rfl ?_
            refine owp_rn (.string (mkS ((gt z48 x6iq r72d).f2))) h746 rfl (run_load1 rfl rfl Try.underlying9 rfl (hS744.cell (i := 2) rfl)) (fun a747 h748 => ?_)
            refine WL.bl 1 3 h748 [(116, .slice A722 r71n.length c723)] (fun a749 h74a => ?_)
            have hS74b := hS744.b2
            refine WL.oq h74a rfl ?_
            refine owp_rn (.string (mkS (toS r71n))) h74a rfl (run_tostr rfl rfl hr71y.rds (fun _ _ hk_ => (hS74b).pool.kn hk_) Try.underlying27 Try.underlying5 Try.underlying9) (fun a74c h74d => ?_)
            clear h73g a73f h73o a73n h73v a73u h73x a73w h742 a741 h746 a745 h748 a747 h74a a749
            by_cases c74e : ((gt z48 x6iq r72d).f2).length + (toS r71n).length ≤ 9223372036854775807
            ·rw [if_pos c74e] at H
             refine WL.oq h74d rfl ?_
             refine owp_rn (.string (mkS (((gt z48 x6iq r72d).f2) ++ (toS r71n)))) h74d rfl (run_concat rfl rfl rfl (by assumption)) (fun a74f h74g => ?_)
             refine WL.bl 1 6 h74g [(119, .pointer (some ⟨g73z, 2, none⟩))] (fun a74h h74i => ?_)
             have hS74j := hS74b.b1
             refine WL.oq h74i rfl ?_
             refine owp_st 2 [.string (mkS (((gt z48 x6iq r72d).f2) ++ (toS r71n)))] h74i rfl rfl rfl hS74j [.int .u32 ((gt z48 x6iq r72d).f0), .string (mkS ((gt z48 x6iq r72d).f1)), .string (mkS (((gt z48 x6iq r72d).f2) ++ (toS r71n))), i6 ((gt z48 x6iq r72d).f3)] (fun a74k W74m h74l hS74n => ?_)
             refine WL.dn ?_
             refine wp_seq ?_
             refine WL.start ?_
             refine WL.bl 1 1 h74l [(120, .pointer (some ⟨g73z, 3, none⟩))] (fun a74o h74p => ?_)
             refine WL.oq h74p rfl ?_
             refine owp_rn (i6 ((gt z48 x6iq r72d).f3)) h74p rfl (run_load1 rfl rfl Try.underlying2 rfl (hS74n.cell (i := 3) rfl)) (fun a74q h74r => ?_)
             refine WL.bl 4 6 h74r [(125, .pointer (some ⟨g73z, 3, none⟩)), (124, i6 (IntKind.i64.wrap (((gt z48 x6iq r72d).f3) - (r71n.length : Int)))), (123, i6 (r71n.length : Int)), (122, .slice A722 r71n.length c723)] (fun a74s h74t => ?_)
             refine WL.oq h74t rfl ?_
             refine owp_st 3 [i6 (IntKind.i64.wrap (((gt z48 x6iq r72d).f3) - (r71n.length : Int)))] h74t rfl rfl rfl hS74n [.int .u32 ((gt z48 x6iq r72d).f0), .string (mkS ((gt z48 x6iq r72d).f1)), .string (mkS (((gt z48 x6iq r72d).f2) ++ (toS r71n))), i6 (IntKind.i64.wrap (((gt z48 x6iq r72d).f3) - (r71n.length : Int)))] (fun a74u W74w h74v hS74x => ?_)
             refine WL.dn ?_
             refine wp_seq ?_
             refine WL.start ?_
             refine WL.bl 5 5 h74v [(6, i6 (IntKind.i64.wrap (x6ip - (r71n.length : Int)))), (129, i6 (IntKind.i64.wrap (x6ip - (r71n.length : Int)))), (128, i6 (r71n.length : Int)), (127, .slice A722 r71n.length c723), (126, i6 x6ip)] (fun a74y h74z => ?_)
             refine WL.dn ?_
             refine wp_seq ?_
             refine wp_seq ?_
             refine WT.start 42 (fun w_ => (w_.cell? ⟨g73z, 3, none⟩ = some (i6 (IntKind.i64.wrap (((gt z48 x6iq r72d).f3) - (r71n.length : Int))))) ∧ (w_.cell? ⟨g73z, 2, none⟩ = some (.string (mkS (((gt z48 x6iq r72d).f2) ++ (toS r71n))))) ∧ (w_.cell? ⟨g73z, 1, none⟩ = some (.string (mkS ((gt z48 x6iq r72d).f1)))) ∧ True) (by kernel_rfl) #[false, false, false, false, false, false, false, false, false, false, false, false, false, false, false, false, false, false, false, false, false, false, false, false, false, false, false, false, false, false, false, false, false, false, false, false, false, false, false, false, false, false] 42 rfl rfl ?_
             have hS85k := hS74x.drew
             refine WT.tk 0 h74z rfl rfl (.slice A722 r71n.length c723) (fun _ _ => by kernel_rfl) ⟨(hS85k.cell (i := 3) rfl), (hS85k.cell (i := 2) rfl), (hS85k.cell (i := 1) rfl), trivial⟩ (fun a85l s85n h85m => ?_)
             refine WT.tk 1 h85m rfl rfl (i6 (r71n.length : Int)) (fun _ _ => by kernel_rfl) s85n (fun a85o s85q h85p => ?_)
             refine WT.tk 2 h85p rfl rfl (.bool (decide ((r71n.length : Int) > 0))) (fun _ _ => by kernel_rfl) s85q (fun a85r s85t h85s => ?_)
             refine WT.tk 3 h85s rfl rfl (.bool (decide ((r71n.length : Int) > 0))) (fun _ _ => by kernel_rfl) s85t (fun a85u s85w h85v => ?_)
             clear h74d a74c h74g a74f h74i a74h h74l a74k h74p a74o h74r a74q h74t a74s h74v a74u h74z a74y h85m a85l h85p a85o h85s a85r
             by_cases c85x : (r71n.length : Int) > 0
             ·rw [if_pos c85x] at H
              have hb_ : (decide ((r71n.length : Int) > 0)) = true := decide_eq_true c85x
              try rw [hb_] at h85v
              clear hb_
              refine WT.tk 4 h85v rfl rfl (.pointer (some ⟨g73z, 3, none⟩)) (fun _ _ => by kernel_rfl) s85w (fun a85y s860 h85z => ?_)
              refine WT.tk 5 h85z rfl rfl (i6 (IntKind.i64.wrap (((gt z48 x6iq r72d).f3) - (r71n.length : Int)))) (fun w_ hs_ => (run_load1 rfl rfl Try.underlying2 rfl hs_.1)) s860 (fun a861 s863 h862 => ?_)
              refine WT.tk 6 h862 rfl rfl (.bool (decide ((IntKind.i64.wrap (((gt z48 x6iq r72d).f3) - (r71n.length : Int))) < 0))) (fun _ _ => by kernel_rfl) s863 (fun a864 s866 h865 => ?_)
              refine WT.tk 7 h865 rfl rfl (.bool (decide ((IntKind.i64.wrap (((gt z48 x6iq r72d).f3) - (r71n.length : Int))) < 0))) (fun _ _ => by kernel_rfl) s866 (fun a867 s869 h868 => ?_)
              clear h85v a85u h85z a85y h862 a861 h865 a864
              by_cases c86a : (IntKind.i64.wrap (((gt z48 x6iq r72d).f3) - (r71n.length : Int))) < 0
              ·rw [if_pos c86a] at H
               have hb_ : (decide ((IntKind.i64.wrap (((gt z48 x6iq r72d).f3) - (r71n.length : Int))) < 0)) = true := decide_eq_true c86a
               try rw [hb_] at h868
               clear hb_
               refine WT.sp 8 h868 rfl rfl s869 (fun a86b s86d h86c => ?_)
               refine WT.sp 9 h86c rfl rfl s86d (fun a86e s86g h86f => ?_)
               refine WT.tk 10 h86f rfl rfl (.bool true) (fun _ _ => by kernel_rfl) s86g (fun a86h s86j h86i => ?_)
               refine WT.tk 11 h86i rfl rfl (.bool true) (fun _ _ => by kernel_rfl) s86j (fun a86k s86m h86l => ?_)
               refine WT.tk 12 h86l rfl rfl (.bool true) (fun _ _ => by kernel_rfl) s86m (fun a86n s86p h86o => ?_)
               refine WT.sp 13 h86o rfl rfl s86p (fun a86q s86s h86r => ?_)
               refine WT.sp 14 h86r rfl rfl s86s (fun a86t s86v h86u => ?_)
               refine WT.sp 15 h86u rfl rfl s86v (fun a86w s86y h86x => ?_)
               refine WT.sp 16 h86x rfl rfl s86y (fun a86z s871 h870 => ?_)
               refine WT.sp 17 h870 rfl rfl s871 (fun a872 s874 h873 => ?_)
               refine WT.sp 18 h873 rfl rfl s874 (fun a875 s877 h876 => ?_)
               refine WT.sp 19 h876 rfl rfl s877 (fun a878 s87a h879 => ?_)
               clear h868 a867 h86c a86b h86f a86e h86i a86h h86l a86k h86o a86n h86r a86q h86u a86t h86x a86w h870 a86z h873 a872 h876 a875
               refine WT.tk 20 h879 rfl rfl (.bool true) (fun _ _ => by kernel_rfl) s87a (fun a87b s87d h87c => ?_)
               refine WT.tk 21 h87c rfl rfl (.bool true) (fun _ _ => by kernel_rfl) s87d (fun a87e s87g h87f => ?_)
               refine WT.sp 22 h87f rfl rfl s87g (fun a87h s87j h87i => ?_)
               refine WT.sp 23 h87i rfl rfl s87j (fun a87k s87m h87l => ?_)
               refine WT.sp 24 h87l rfl rfl s87m (fun a87n s87p h87o => ?_)
               refine WT.sp 25 h87o rfl rfl s87p (fun a87q s87s h87r => ?_)
               refine WT.sp 26 h87r rfl rfl s87s (fun a87t s87v h87u => ?_)
               refine WT.sp 27 h87u rfl rfl s87v (fun a87w s87y h87x => ?_)
               refine WT.sp 28 h87x rfl rfl s87y (fun a87z s881 h880 => ?_)
               refine WT.sp 29 h880 rfl rfl s881 (fun a882 s884 h883 => ?_)
               refine WT.sp 30 h883 rfl rfl s884 (fun a885 s887 h886 => ?_)
               refine WT.tk 31 h886 rfl rfl (.bool true) (fun _ _ => by kernel_rfl) s887 (fun a888 s88a h889 => ?_)
               clear h879 a878 h87c a87b h87f a87e h87i a87h h87l a87k h87o a87n h87r a87q h87u a87t h87x a87w h880 a87z h883 a882 h886 a885
               refine WT.tk 32 h889 rfl rfl (.bool true) (fun _ _ => by kernel_rfl) s88a (fun a88b s88d h88c => ?_)
               refine WT.sp 33 h88c rfl rfl s88d (fun a88e s88g h88f => ?_)
               refine WT.sp 34 h88f rfl rfl s88g (fun a88h s88j h88i => ?_)
               refine WT.sp 35 h88i rfl rfl s88j (fun a88k s88m h88l => ?_)
               refine WT.sp 36 h88l rfl rfl s88m (fun a88n s88p h88o => ?_)
               refine WT.sp 37 h88o rfl rfl s88p (fun a88q s88s h88r => ?_)
               refine WT.sp 38 h88r rfl rfl s88s (fun a88t s88v h88u => ?_)
               refine WT.sp 39 h88u rfl rfl s88v (fun a88w s88y h88x => ?_)
               refine WT.sp 40 h88x rfl rfl s88y (fun a88z s891 h890 => ?_)
               refine WT.tk 41 h890 rfl rfl (.bool true) (fun _ _ => by kernel_rfl) s891 (fun a892 s894 h893 => ?_)
               refine WT.dn ?_
               refine wp_then h893 rfl ?_
               refine wp_seq ?_
               refine WL.start ?_
               refine WL.bl 1 1 h893 [(4, .bool false)] (fun a895 h896 => ?_)
               refine WL.dn ?_
               refine wp_ret ?_
               have hS897 := hS85k.drop_
               have hS898 := hS897.drop_
               have hS899 := hS898.drop_
               have hS89a := hS899.drop_
               have hS89b := hS89a.drop_
               obtain rfl := Option.some.inj H
               repeat (first | with_reducible refine t1 ?_ | with_reducible refine t2 ?_ | with_reducible refine t3 ?_)
               refine bret (.bool false) h896 ?_
               exact ⟨rfl, hS89b⟩
              ·rw [if_neg c86a] at H
               have hb_ : (decide ((IntKind.i64.wrap (((gt z48 x6iq r72d).f3) - (r71n.length : Int))) < 0)) = false := decide_eq_false c86a
               try rw [hb_] at h868
               clear hb_
               refine WT.tk 8 h868 rfl rfl (i6 (IntKind.i64.wrap (x6ip - (r71n.length : Int)))) (fun _ _ => by kernel_rfl) s869 (fun a89c s89e h89d => ?_)
               refine WT.tk 9 h89d rfl rfl (.bool (decide ((IntKind.i64.wrap (x6ip - (r71n.length : Int))) < 0))) (fun _ _ => by kernel_rfl) s89e (fun a89f s89h h89g => ?_)
               refine WT.tk 10 h89g rfl rfl (.bool (decide ((IntKind.i64.wrap (x6ip - (r71n.length : Int))) < 0))) (fun _ _ => by kernel_rfl) s89h (fun a89i s89k h89j => ?_)
               refine WT.tk 11 h89j rfl rfl (.bool (decide ((IntKind.i64.wrap (x6ip - (r71n.length : Int))) < 0))) (fun _ _ => by kernel_rfl) s89k (fun a89l s89n h89m => ?_)
               refine WT.tk 12 h89m rfl rfl (.bool (decide ((IntKind.i64.wrap (x6ip - (r71n.length : Int))) < 0))) (fun _ _ => by kernel_rfl) s89n (fun a89o s89q h89p => ?_)
               clear h868 a867 h89d a89c h89g a89f h89j a89i h89m a89l
               by_cases c89r : (IntKind.i64.wrap (x6ip - (r71n.length : Int))) < 0
               ·rw [if_pos c89r] at H
                have hb_ : (decide ((IntKind.i64.wrap (x6ip - (r71n.length : Int))) < 0)) = true := decide_eq_true c89r
                try rw [hb_] at h89p
                clear hb_
                refine WT.sp 13 h89p rfl rfl s89q (fun a89s s89u h89t => ?_)
                refine WT.sp 14 h89t rfl rfl s89u (fun a89v s89x h89w => ?_)
                refine WT.sp 15 h89w rfl rfl s89x (fun a89y s8a0 h89z => ?_)
                refine WT.sp 16 h89z rfl rfl s8a0 (fun a8a1 s8a3 h8a2 => ?_)
                refine WT.sp 17 h8a2 rfl rfl s8a3 (fun a8a4 s8a6 h8a5 => ?_)
                refine WT.sp 18 h8a5 rfl rfl s8a6 (fun a8a7 s8a9 h8a8 => ?_)
                refine WT.sp 19 h8a8 rfl rfl s8a9 (fun a8aa s8ac h8ab => ?_)
                refine WT.tk 20 h8ab rfl rfl (.bool true) (fun _ _ => by kernel_rfl) s8ac (fun a8ad s8af h8ae => ?_)
                refine WT.tk 21 h8ae rfl rfl (.bool true) (fun _ _ => by kernel_rfl) s8af (fun a8ag s8ai h8ah => ?_)
                refine WT.sp 22 h8ah rfl rfl s8ai (fun a8aj s8al h8ak => ?_)
                refine WT.sp 23 h8ak rfl rfl s8al (fun a8am s8ao h8an => ?_)
                refine WT.sp 24 h8an rfl rfl s8ao (fun a8ap s8ar h8aq => ?_)
                clear h89p a89o h89t a89s h89w a89v h89z a89y h8a2 a8a1 h8a5 a8a4 h8a8 a8a7 h8ab a8aa h8ae a8ad h8ah a8ag h8ak a8aj h8an a8am
                refine WT.sp 25 h8aq rfl rfl s8ar (fun a8as s8au h8at => ?_)
                refine WT.sp 26 h8at rfl rfl s8au (fun a8av s8ax h8aw => ?_)
                refine WT.sp 27 h8aw rfl rfl s8ax (fun a8ay s8b0 h8az => ?_)
                refine WT.sp 28 h8az rfl rfl s8b0 (fun a8b1 s8b3 h8b2 => ?_)
                refine WT.sp 29 h8b2 rfl rfl s8b3 (fun a8b4 s8b6 h8b5 => ?_)
                refine WT.sp 30 h8b5 rfl rfl s8b6 (fun a8b7 s8b9 h8b8 => ?_)
                refine WT.tk 31 h8b8 rfl rfl (.bool true) (fun _ _ => by kernel_rfl) s8b9 (fun a8ba s8bc h8bb => ?_)
                refine WT.tk 32 h8bb rfl rfl (.bool true) (fun _ _ => by kernel_rfl) s8bc (fun a8bd s8bf h8be => ?_)
                refine WT.sp 33 h8be rfl rfl s8bf (fun a8bg s8bi h8bh => ?_)
                refine WT.sp 34 h8bh rfl rfl s8bi (fun a8bj s8bl h8bk => ?_)
                refine WT.sp 35 h8bk rfl rfl s8bl (fun a8bm s8bo h8bn => ?_)
                refine WT.sp 36 h8bn rfl rfl s8bo (fun a8bp s8br h8bq => ?_)
                clear h8aq a8ap h8at a8as h8aw a8av h8az a8ay h8b2 a8b1 h8b5 a8b4 h8b8 a8b7 h8bb a8ba h8be a8bd h8bh a8bg h8bk a8bj h8bn a8bm
                refine WT.sp 37 h8bq rfl rfl s8br (fun a8bs s8bu h8bt => ?_)
                refine WT.sp 38 h8bt rfl rfl s8bu (fun a8bv s8bx h8bw => ?_)
                refine WT.sp 39 h8bw rfl rfl s8bx (fun a8by s8c0 h8bz => ?_)
                refine WT.sp 40 h8bz rfl rfl s8c0 (fun a8c1 s8c3 h8c2 => ?_)
                refine WT.tk 41 h8c2 rfl rfl (.bool true) (fun _ _ => by kernel_rfl) s8c3 (fun a8c4 s8c6 h8c5 => ?_)
                refine WT.dn ?_
                refine wp_then h8c5 rfl ?_
                refine wp_seq ?_
                refine WL.start ?_
                refine WL.bl 1 1 h8c5 [(4, .bool false)] (fun a8c7 h8c8 => ?_)
                refine WL.dn ?_
                refine wp_ret ?_
                have hS8c9 := hS85k.drop_
                have hS8ca := hS8c9.drop_
                have hS8cb := hS8ca.drop_
                have hS8cc := hS8cb.drop_
                have hS8cd := hS8cc.drop_
                obtain rfl := Option.some.inj H
                repeat (first | with_reducible refine t1 ?_ | with_reducible refine t2 ?_ | with_reducible refine t3 ?_)
                refine bret (.bool false) h8c8 ?_
                exact ⟨rfl, hS8cd⟩
               ·rw [if_neg c89r] at H
                have hb_ : (decide ((IntKind.i64.wrap (x6ip - (r71n.length : Int))) < 0)) = false := decide_eq_false c89r
                try rw [hb_] at h89p
                clear hb_
                refine WT.tk 13 h89p rfl rfl (.pointer (some ⟨g73z, 2, none⟩)) (fun _ _ => by kernel_rfl) s89q (fun a8ce s8cg h8cf => ?_)
                refine WT.tk 16 h8cf rfl rfl (.pointer (some ⟨g73z, 1, none⟩)) (fun _ _ => by kernel_rfl) s8cg (fun a8ch s8cj h8ci => ?_)
                refine WT.tk 14 h8ci rfl rfl (.string (mkS (((gt z48 x6iq r72d).f2) ++ (toS r71n)))) (fun w_ hs_ => (run_load1 rfl rfl Try.underlying9 rfl hs_.2.1)) s8cj (fun a8ck s8cm h8cl => ?_)
                refine WT.tk 15 h8cl rfl rfl (i6 ((((gt z48 x6iq r72d).f2) ++ (toS r71n)).length : Int)) (fun _ _ => by kernel_rfl) s8cm (fun a8cn s8cp h8co => ?_)
                refine WT.tk 17 h8co rfl rfl (.string (mkS ((gt z48 x6iq r72d).f1))) (fun w_ hs_ => (run_load1 rfl rfl Try.underlying9 rfl hs_.2.2.1)) s8cp (fun a8cq s8cs h8cr => ?_)
                refine WT.tk 18 h8cr rfl rfl (i6 (((gt z48 x6iq r72d).f1).length : Int)) (fun _ _ => by kernel_rfl) s8cs (fun a8ct s8cv h8cu => ?_)
                refine WT.tk 19 h8cu rfl rfl (.bool (decide (((((gt z48 x6iq r72d).f2) ++ (toS r71n)).length : Int) > (((gt z48 x6iq r72d).f1).length : Int)))) (fun _ _ => by kernel_rfl) s8cv (fun a8cw s8cy h8cx => ?_)
                refine WT.tk 20 h8cx rfl rfl (.bool (decide (((((gt z48 x6iq r72d).f2) ++ (toS r71n)).length : Int) > (((gt z48 x6iq r72d).f1).length : Int)))) (fun _ _ => by kernel_rfl) s8cy (fun a8cz s8d1 h8d0 => ?_)
                refine WT.tk 21 h8d0 rfl rfl (.bool (decide (((((gt z48 x6iq r72d).f2) ++ (toS r71n)).length : Int) > (((gt z48 x6iq r72d).f1).length : Int)))) (fun _ _ => by kernel_rfl) s8d1 (fun a8d2 s8d4 h8d3 => ?_)
                clear h89p a89o h8cf a8ce h8ci a8ch h8cl a8ck h8co a8cn h8cr a8cq h8cu a8ct h8cx a8cw h8d0 a8cz
                by_cases c8d5 : ((((gt z48 x6iq r72d).f2) ++ (toS r71n)).length : Int) > (((gt z48 x6iq r72d).f1).length : Int)
                ·rw [if_pos c8d5] at H
                 have hb_ : (decide (((((gt z48 x6iq r72d).f2) ++ (toS r71n)).length : Int) > (((gt z48 x6iq r72d).f1).length : Int))) = true := decide_eq_true c8d5
                 try rw [hb_] at h8d3
                 clear hb_
                 refine WT.sp 22 h8d3 rfl rfl s8d4 (fun a8d6 s8d8 h8d7 => ?_)
                 refine WT.sp 23 h8d7 rfl rfl s8d8 (fun a8d9 s8db h8da => ?_)
                 refine WT.sp 24 h8da rfl rfl s8db (fun a8dc s8de h8dd => ?_)
                 refine WT.sp 25 h8dd rfl rfl s8de (fun a8df s8dh h8dg => ?_)
                 refine WT.sp 26 h8dg rfl rfl s8dh (fun a8di s8dk h8dj => ?_)
                 refine WT.sp 27 h8dj rfl rfl s8dk (fun a8dl s8dn h8dm => ?_)
                 refine WT.sp 28 h8dm rfl rfl s8dn (fun a8do s8dq h8dp => ?_)
                 refine WT.sp 29 h8dp rfl rfl s8dq (fun a8dr s8dt h8ds => ?_)
                 refine WT.sp 30 h8ds rfl rfl s8dt (fun a8du s8dw h8dv => ?_)
                 refine WT.tk 31 h8dv rfl rfl (.bool true) (fun _ _ => by kernel_rfl) s8dw (fun a8dx s8dz h8dy => ?_)
                 refine WT.tk 32 h8dy rfl rfl (.bool true) (fun _ _ => by kernel_rfl) s8dz (fun a8e0 s8e2 h8e1 => ?_)
                 refine WT.sp 33 h8e1 rfl rfl s8e2 (fun a8e3 s8e5 h8e4 => ?_)
                 clear h8d3 a8d2 h8d7 a8d6 h8da a8d9 h8dd a8dc h8dg a8df h8dj a8di h8dm a8dl h8dp a8do h8ds a8dr h8dv a8du h8dy a8dx h8e1 a8e0
                 refine WT.sp 34 h8e4 rfl rfl s8e5 (fun a8e6 s8e8 h8e7 => ?_)
                 refine WT.sp 35 h8e7 rfl rfl s8e8 (fun a8e9 s8eb h8ea => ?_)
                 refine WT.sp 36 h8ea rfl rfl s8eb (fun a8ec s8ee h8ed => ?_)
                 refine WT.sp 37 h8ed rfl rfl s8ee (fun a8ef s8eh h8eg => ?_)
                 refine WT.sp 38 h8eg rfl rfl s8eh (fun a8ei s8ek h8ej => ?_)
                 refine WT.sp 39 h8ej rfl rfl s8ek (fun a8el s8en h8em => ?_)
                 refine WT.sp 40 h8em rfl rfl s8en (fun a8eo s8eq h8ep => ?_)
                 refine WT.tk 41 h8ep rfl rfl (.bool true) (fun _ _ => by kernel_rfl) s8eq (fun a8er s8et h8es => ?_)
                 refine WT.dn ?_
                 refine wp_then h8es rfl ?_
                 refine wp_seq ?_
                 refine WL.start ?_
                 refine WL.bl 1 1 h8es [(4, .bool false)] (fun a8eu h8ev => ?_)
                 refine WL.dn ?_
                 refine wp_ret ?_
                 have hS8ew := hS85k.drop_
                 have hS8ex := hS8ew.drop_
                 have hS8ey := hS8ex.drop_
                 have hS8ez := hS8ey.drop_
                 have hS8f0 := hS8ez.drop_
                 obtain rfl := Option.some.inj H
                 repeat (first | with_reducible refine t1 ?_ | with_reducible refine t2 ?_ | with_reducible refine t3 ?_)
                 refine bret (.bool false) h8ev ?_
                 exact ⟨rfl, hS8f0⟩
                ·rw [if_neg c8d5] at H
                 have hb_ : (decide (((((gt z48 x6iq r72d).f2) ++ (toS r71n)).length : Int) > (((gt z48 x6iq r72d).f1).length : Int))) = false := decide_eq_false c8d5
                 try rw [hb_] at h8d3
                 clear hb_
                 refine WT.tk 22 h8d3 rfl rfl (.pointer (some ⟨g73z, 1, none⟩)) (fun _ _ => by kernel_rfl) s8d4 (fun a8f1 s8f3 h8f2 => ?_)
                 refine WT.tk 24 h8f2 rfl rfl (.pointer (some ⟨g73z, 2, none⟩)) (fun _ _ => by kernel_rfl) s8f3 (fun a8f4 s8f6 h8f5 => ?_)
                 refine WT.tk 28 h8f5 rfl rfl (.pointer (some ⟨g73z, 2, none⟩)) (fun _ _ => by kernel_rfl) s8f6 (fun a8f7 s8f9 h8f8 => ?_)
                 refine WT.tk 23 h8f8 rfl rfl (.string (mkS ((gt z48 x6iq r72d).f1))) (fun w_ hs_ => (run_load1 rfl rfl Try.underlying9 rfl hs_.2.2.1)) s8f9 (fun a8fa s8fc h8fb => ?_)
                 refine WT.tk 25 h8fb rfl rfl (.string (mkS (((gt z48 x6iq r72d).f2) ++ (toS r71n)))) (fun w_ hs_ => (run_load1 rfl rfl Try.underlying9 rfl hs_.2.1)) s8fc (fun a8fd s8ff h8fe => ?_)
                 refine WT.tk 26 h8fe rfl rfl (i6 ((((gt z48 x6iq r72d).f2) ++ (toS r71n)).length : Int)) (fun _ _ => by kernel_rfl) s8ff (fun a8fg s8fi h8fh => ?_)
                 clear h8d3 a8d2 h8f2 a8f1 h8f5 a8f4 h8f8 a8f7 h8fb a8fa h8fe a8fd
                 by_cases c8fj : 0 ≤ ((((gt z48 x6iq r72d).f2) ++ (toS r71n)).length : Int)
                 ·rw [if_pos c8fj] at H
                  by_cases c8fk : ((((gt z48 x6iq r72d).f2) ++ (toS r71n)).length : Int) ≤ (((gt z48 x6iq r72d).f1).length : Int)
                  ·rw [if_pos c8fk] at H
                   refine WT.tk 27 h8fh rfl rfl (.string (mkS (((gt z48 x6iq r72d).f1).take ((((gt z48 x6iq r72d).f2) ++ (toS r71n)).length : Int).toNat))) (fun w_ hs_ => (run_strcut' (l := 0) (h := ((((gt z48 x6iq r72d).f2) ++ (toS r71n)).length : Int)) rfl rfl Try.underlying9 rfl ⟨_, rfl⟩ (by first | assumption | omega) (by first | assumption | omega) (by first | assumption | omega) (by simp))) s8fi (fun a8fl s8fn h8fm => ?_)
                   refine WT.tk 29 h8fm rfl rfl (.string (mkS (((gt z48 x6iq r72d).f2) ++ (toS r71n)))) (fun w_ hs_ => (run_load1 rfl rfl Try.underlying9 rfl hs_.2.1)) s8fn (fun a8fo s8fq h8fp => ?_)
                   refine WT.tk 30 h8fp rfl rfl (.bool (!decide ((((gt z48 x6iq r72d).f1).take ((((gt z48 x6iq r72d).f2) ++ (toS r71n)).length : Int).toNat) = (((gt z48 x6iq r72d).f2) ++ (toS r71n))))) (fun w_ hs_ => (run_strne rfl rfl rfl)) s8fq (fun a8fr s8ft h8fs => ?_)
                   refine WT.tk 31 h8fs rfl rfl (.bool (!decide ((((gt z48 x6iq r72d).f1).take ((((gt z48 x6iq r72d).f2) ++ (toS r71n)).length : Int).toNat) = (((gt z48 x6iq r72d).f2) ++ (toS r71n))))) (fun _ _ => by kernel_rfl) s8ft (fun a8fu s8fw h8fv => ?_)
                   refine WT.tk 32 h8fv rfl rfl (.bool (!decide ((((gt z48 x6iq r72d).f1).take ((((gt z48 x6iq r72d).f2) ++ (toS r71n)).length : Int).toNat) = (((gt z48 x6iq r72d).f2) ++ (toS r71n))))) (fun _ _ => by kernel_rfl) s8fw (fun a8fx s8fz h8fy => ?_)
                   clear h8fh a8fg h8fm a8fl h8fp a8fo h8fs a8fr h8fv a8fu
                   by_cases c8g0 : (((gt z48 x6iq r72d).f1).take ((((gt z48 x6iq r72d).f2) ++ (toS r71n)).length : Int).toNat) = (((gt z48 x6iq r72d).f2) ++ (toS r71n))
                   ·rw [if_pos c8g0] at H
                    have hb_ : (decide ((((gt z48 x6iq r72d).f1).take ((((gt z48 x6iq r72d).f2) ++ (toS r71n)).length : Int).toNat) = (((gt z48 x6iq r72d).f2) ++ (toS r71n)))) = true := decide_eq_true c8g0
                    try rw [hb_] at h8fy
                    clear hb_
                    refine WT.tk 33 h8fy rfl rfl (.bool r71o) (fun _ _ => by kernel_rfl) s8fz (fun a8g1 s8g3 h8g2 => ?_)
                    refine WT.tk 34 h8g2 rfl rfl (.bool r71o) (fun _ _ => by kernel_rfl) s8g3 (fun a8g4 s8g6 h8g5 => ?_)
                    clear h8fy a8fx h8g2 a8g1
                    by_cases c8g7 : r71o = true
                    ·rw [if_pos c8g7] at H
                     have hb_ : r71o = true := c8g7
                     try rw [hb_] at h8g5
                     clear hb_
                     refine WT.tk 35 h8g5 rfl rfl (.pointer (some ⟨g73z, 2, none⟩)) (fun _ _ => by kernel_rfl) s8g6 (fun a8g8 s8ga h8g9 => ?_)
                     refine WT.tk 37 h8g9 rfl rfl (.pointer (some ⟨g73z, 1, none⟩)) (fun _ _ => by kernel_rfl) s8ga (fun a8gb s8gd h8gc => ?_)
                     refine WT.tk 36 h8gc rfl rfl (.string (mkS (((gt z48 x6iq r72d).f2) ++ (toS r71n)))) (fun w_ hs_ => (run_load1 rfl rfl Try.underlying9 rfl hs_.2.1)) s8gd (fun a8ge s8gg h8gf => ?_)
                     refine WT.tk 38 h8gf rfl rfl (.string (mkS ((gt z48 x6iq r72d).f1))) (fun w_ hs_ => (run_load1 rfl rfl Try.underlying9 rfl hs_.2.2.1)) s8gg (fun a8gh s8gj h8gi => ?_)
                     refine WT.tk 39 h8gi rfl rfl (.bool (!decide ((((gt z48 x6iq r72d).f2) ++ (toS r71n)) = ((gt z48 x6iq r72d).f1)))) (fun w_ hs_ => (run_strne rfl rfl rfl)) s8gj (fun a8gk s8gm h8gl => ?_)
                     refine WT.tk 40 h8gl rfl rfl (.bool (!decide ((((gt z48 x6iq r72d).f2) ++ (toS r71n)) = ((gt z48 x6iq r72d).f1)))) (fun _ _ => by kernel_rfl) s8gm (fun a8gn s8gp h8go => ?_)
                     refine WT.tk 41 h8go rfl rfl (.bool (!decide ((((gt z48 x6iq r72d).f2) ++ (toS r71n)) = ((gt z48 x6iq r72d).f1)))) (fun _ _ => by kernel_rfl) s8gp (fun a8gq s8gs h8gr => ?_)
                     refine WT.dn ?_
                     clear h8g5 a8g4 h8g9 a8g8 h8gc a8gb h8gf a8ge h8gi a8gh h8gl a8gk h8go a8gn
                     by_cases c8gt : (((gt z48 x6iq r72d).f2) ++ (toS r71n)) = ((gt z48 x6iq r72d).f1)
                     ·rw [if_pos c8gt] at H
                      have hb_ : (decide ((((gt z48 x6iq r72d).f2) ++ (toS r71n)) = ((gt z48 x6iq r72d).f1))) = true := decide_eq_true c8gt
                      try rw [hb_] at h8gr
                      clear hb_
                      refine wp_else h8gr rfl ?_
                      refine wp_skip ?_
                      refine WL.start ?_
                      refine WL.bl 2 2 h8gr [(173, i6 r72d), (172, .slice A6ir x6iq.length c6is)] (fun a8gu h8gv => ?_)
                      refine WL.oq h8gv rfl ?_
                      refine owp_rn (.agg #[.int .u32 ((gt z48 x6iq r72d).f0), .string (mkS ((gt z48 x6iq r72d).f1)), .string (mkS (((gt z48 x6iq r72d).f2) ++ (toS r71n))), i6 (IntKind.i64.wrap (((gt z48 x6iq r72d).f3) - (r71n.length : Int)))]) h8gv rfl (run_loadN rfl rfl Try.underlying48 rfl (cs := [.int .u32 ((gt z48 x6iq r72d).f0), .string (mkS ((gt z48 x6iq r72d).f1)), .string (mkS (((gt z48 x6iq r72d).f2) ++ (toS r71n))), i6 (IntKind.i64.wrap (((gt z48 x6iq r72d).f3) - (r71n.length : Int)))]) (by kernel_rfl) (hS85k.cells (vs := [.int .u32 ((gt z48 x6iq r72d).f0), .string (mkS ((gt z48 x6iq r72d).f1)), .string (mkS (((gt z48 x6iq r72d).f2) ++ (toS r71n))), i6 (IntKind.i64.wrap (((gt z48 x6iq r72d).f3) - (r71n.length : Int)))]) rfl)) (fun a8gw h8gx => ?_)
                      have hi8h0 : 0 ≤ r72d := by first | assumption | omega
                      have hi8h1 : r72d < (x6iq.length : Int) := by first | assumption | omega
                      obtain ⟨ad8gy, _, ha8gz, -, -⟩ := Rds.elemAny hr6iu.rds hi8h0 (gt_get (z := z48) hi8h0 hi8h1)
                      refine WL.oq h8gx rfl ?_
                      refine owp_rn (.pointer (some (ad8gy.add (r72d.toNat * 4)))) h8gx rfl (run_idx (ad := ad8gy) (sz := 4) rfl (by rw [← ha8gz]; rfl) rfl Try.underlying43 (by kernel_rfl) hi8h0 hi8h1) (fun a8h2 h8h3 => ?_)
                      have hS8h4 := hS85k.b2
                      refine WL.oq h8h3 rfl ?_
                      refine owp_setelem (j := 0) (vs := [.int .u32 ((gt z48 x6iq r72d).f0), .string (mkS ((gt z48 x6iq r72d).f1)), .string (mkS (((gt z48 x6iq r72d).f2) ++ (toS r71n))), i6 (IntKind.i64.wrap (((gt z48 x6iq r72d).f3) - (r71n.length : Int)))]) (x' := (⟨(gt z48 x6iq r72d).f0, (gt z48 x6iq r72d).f1, ((gt z48 x6iq r72d).f2) ++ (toS r71n), IntKind.i64.wrap (((gt z48 x6iq r72d).f3) - (r71n.length : Int))⟩ : S48)) h8h3 rfl (by kernel_rfl) rfl rfl rfl rfl (by simp [Value.oneCell']) (by kernel_rfl) ha8gz hr6iu hS8h4 hi8h0 (gt_get (z := z48) hi8h0 hi8h1) (Nat.le_refl _) (by intro cs_ Mx_ hr_; obtain ⟨rfl, rfl⟩ := k48qrep hr_; obtain ⟨_, hk_, rfl⟩ := k48qmk (b := b) (w0 := w0) (R := R) (x := (⟨(gt z48 x6iq r72d).f0, (gt z48 x6iq r72d).f1, ((gt z48 x6iq r72d).f2) ++ (toS r71n), IntKind.i64.wrap (((gt z48 x6iq r72d).f3) - (r71n.length : Int))⟩ : S48)); exact hk_) (fun a8h5 W8h7 M8h8 h8h6 hr8h9 hS8ha => ?_)
                      obtain ⟨y8hb, hy8hc, H⟩ := lete H
                      have hl8hd : y8hb.length = x6iq.length := by simp [hy8hc]
                      have hr8he : Row k48 48 b w0 R (.slice A6ir y8hb.length c6is) y8hb M8h8 := by rw [hl8hd]; rw [hy8hc]; exact hr8h9
                      have h8hf : Hd a8h5 209 [(5, pt g6hy), (6, i6 (IntKind.i64.wrap (x6ip - (r71n.length : Int)))), (7, .slice A6ir y8hb.length c6is), (9, pt g6jn), (10, i6 r6jz), (11, .int .u32 r71m), (12, .slice A722 r71n.length c723), (13, .bool true), (14, .bool true), (15, i6 r72d), (16, pt g73z), (25, .slice A1 p1.length c1), (26, i6 (p1.length : Int)), (27, i6 x6iv), (28, .bool true), (29, .pointer (some (ad6j3.add (x6iv.toNat * 7)))), (30, .agg #[i6 ((gt z45 p1 x6iv).f0), .int .u32 ((gt z45 p1 x6iv).f1), i6 ((gt z45 p1 x6iv).f2), .slice A6jg ((gt z45 p1 x6iv).f3).length c6jh, .bool ((gt z45 p1 x6iv).f4), .int .u32 ((gt z45 p1 x6iv).f5), .int .u32 ((gt z45 p1 x6iv).f6)]), (31, .slice A6ir y8hb.length c6is), (32, .pointer (some ⟨g6jn, 1, none⟩)), (33, .int .u32 ((gt z45 p1 x6iv).f1)), (34, i6 r6jz), (35, pt g6jn), (36, i6 ((gt z45 p1 x6iv).f0)), (41, .bool false), (42, .bool false), (65, .bool false), (66, .bool false), (88, .bool true), (89, .bool true), (90, .tuple #[.int .u32 r71m, .slice A722 r71n.length c723, .bool true, .bool true]), (91, pt g6hy), (92, .pointer (some ⟨g6jn, 2, none⟩)), (93, i6 ((gt z45 p1 x6iv).f2)), (94, .tuple #[.int .u32 r71m, .slice A722 r71n.length c723, .bool true, .bool true]), (95, .int .u32 r71m), (96, .slice A722 r71n.length c723), (97, .bool true), (98, .bool true), (99, .bool true), (100, .bool false), (101, .slice A6ir y8hb.length c6is), (102, .int .u32 r71m), (103, i6 r72d), (104, i6 r72d), (105, .bool false), (106, .bool false), (107, .int .u32 r71m), (108, .bool false), (109, .bool false), (110, .slice A6ir y8hb.length c6is), (111, i6 r72d), (112, .pointer (some (ad73j.add (r72d.toNat * 4)))), (113, .agg #[.int .u32 ((gt z48 x6iq r72d).f0), .string (mkS ((gt z48 x6iq r72d).f1)), .string (mkS ((gt z48 x6iq r72d).f2)), i6 ((gt z48 x6iq r72d).f3)]), (114, .pointer (some ⟨g73z, 2, none⟩)), (115, .string (mkS ((gt z48 x6iq r72d).f2))), (116, .slice A722 r71n.length c723), (117, .string (mkS (toS r71n))), (118, .string (mkS (((gt z48 x6iq r72d).f2) ++ (toS r71n)))), (119, .pointer (some ⟨g73z, 2, none⟩)), (120, .pointer (some ⟨g73z, 3, none⟩)), (121, i6 ((gt z48 x6iq r72d).f3)), (122, .slice A722 r71n.length c723), (123, i6 (r71n.length : Int)), (124, i6 (IntKind.i64.wrap (((gt z48 x6iq r72d).f3) - (r71n.length : Int)))), (125, .pointer (some ⟨g73z, 3, none⟩)), (126, i6 x6ip), (127, .slice A722 r71n.length c723), (128, i6 (r71n.length : Int)), (129, i6 (IntKind.i64.wrap (x6ip - (r71n.length : Int)))), (130, .slice A722 r71n.length c723), (131, i6 (r71n.length : Int)), (132, .bool true), (133, .bool true), (134, .pointer (some ⟨g73z, 3, none⟩)), (135, i6 (IntKind.i64.wrap (((gt z48 x6iq r72d).f3) - (r71n.length : Int)))), (136, .bool false), (137, .bool false), (138, i6 (IntKind.i64.wrap (x6ip - (r71n.length : Int)))), (139, .bool false), (140, .bool false), (141, .bool false), (142, .bool false), (143, .pointer (some ⟨g73z, 2, none⟩)), (144, .string (mkS (((gt z48 x6iq r72d).f2) ++ (toS r71n)))), (145, i6 ((((gt z48 x6iq r72d).f2) ++ (toS r71n)).length : Int)), (146, .pointer (some ⟨g73z, 1, none⟩)), (147, .string (mkS ((gt z48 x6iq r72d).f1))), (148, i6 (((gt z48 x6iq r72d).f1).length : Int)), (149, .bool false), (150, .bool false), (151, .bool false), (152, .pointer (some ⟨g73z, 1, none⟩)), (153, .string (mkS ((gt z48 x6iq r72d).f1))), (154, .pointer (some ⟨g73z, 2, none⟩)), (155, .string (mkS (((gt z48 x6iq r72d).f2) ++ (toS r71n)))), (156, i6 ((((gt z48 x6iq r72d).f2) ++ (toS r71n)).length : Int)), (157, .string (mkS (((gt z48 x6iq r72d).f1).take ((((gt z48 x6iq r72d).f2) ++ (toS r71n)).length : Int).toNat))), (158, .pointer (some ⟨g73z, 2, none⟩)), (159, .string (mkS (((gt z48 x6iq r72d).f2) ++ (toS r71n)))), (160, .bool false), (161, .bool false), (162, .bool false), (163, .bool true), (164, .bool true), (165, .pointer (some ⟨g73z, 2, none⟩)), (166, .string (mkS (((gt z48 x6iq r72d).f2) ++ (toS r71n)))), (167, .pointer (some ⟨g73z, 1, none⟩)), (168, .string (mkS ((gt z48 x6iq r72d).f1))), (169, .bool false), (170, .bool false), (171, .bool false), (172, .slice A6ir y8hb.length c6is), (173, i6 r72d), (174, .agg #[.int .u32 ((gt z48 x6iq r72d).f0), .string (mkS ((gt z48 x6iq r72d).f1)), .string (mkS (((gt z48 x6iq r72d).f2) ++ (toS r71n))), i6 (IntKind.i64.wrap (((gt z48 x6iq r72d).f3) - (r71n.length : Int)))]), (175, .pointer (some (ad8gy.add (r72d.toNat * 4))))] := h8h6.keep ⟨rfl, rfl, (by rw [hl8hd] <;> rfl), rfl, rfl, rfl, rfl, rfl, rfl, rfl, rfl, rfl, rfl, rfl, rfl, rfl, rfl, (by rw [hl8hd] <;> rfl), rfl, rfl, rfl, rfl, rfl, rfl, rfl, rfl, rfl, rfl, rfl, rfl, rfl, rfl, rfl, rfl, rfl, rfl, rfl, rfl, rfl, rfl, (by rw [hl8hd] <;> rfl), rfl, rfl, rfl, rfl, rfl, rfl, rfl, rfl, (by rw [hl8hd] <;> rfl), rfl, rfl, rfl, rfl, rfl, rfl, rfl, rfl, rfl, rfl, rfl, rfl, rfl, rfl, rfl, rfl, rfl, rfl, rfl, rfl, rfl, rfl, rfl, rfl, rfl, rfl, rfl, rfl, rfl, rfl, rfl, rfl, rfl, rfl, rfl, rfl, rfl, rfl, rfl, rfl, rfl, rfl, rfl, rfl, rfl, rfl, rfl, rfl, rfl, rfl, rfl, rfl, rfl, rfl, rfl, rfl, rfl, rfl, rfl, rfl, rfl, (by rw [hl8hd] <;> rfl), rfl, rfl, rfl, trivial⟩
                      clear h8h6
                      refine WL.dn ?_
                      refine WL.start ?_
                      refine WL.bl 2 2 h8hf [(27, i6 (IntKind.i64.wrap (x6iv + 1))), (207, i6 (IntKind.i64.wrap (x6iv + 1)))] (fun a8hg h8hh => ?_)
                      refine WL.dn ?_
                      have hS8hi := hS8ha.b1
                      have hS8hj := hS8hi.drop_
                      have hS8hk := hS8hj.b1
                      have hS8hl := hS8hk.drop_
                      have hS8hm := hS8hl.b2
                      have hS8hn := hS8hm.drop_
                      have hS8ho := hS8hn.b1
                      exact ⟨kk6iy, by omega, r71q, M71z, IntKind.i64.wrap (x6ip - (r71n.length : Int)), y8hb, A6ir, c6is, M8h8, IntKind.i64.wrap (x6iv + 1), h8hh.keep ⟨rfl, rfl, rfl, rfl, rfl, rfl, trivial⟩, ⟨H⟩, ⟨by omega⟩, ⟨hS8ho⟩, ⟨hr720⟩, ⟨hr8he⟩⟩
                     ·rw [if_neg c8gt] at H
                      have hb_ : (decide ((((gt z48 x6iq r72d).f2) ++ (toS r71n)) = ((gt z48 x6iq r72d).f1))) = false := decide_eq_false c8gt
                      try rw [hb_] at h8gr
                      clear hb_
                      refine wp_then h8gr rfl ?_
                      refine wp_seq ?_
                      refine WL.start ?_
                      refine WL.bl 1 1 h8gr [(4, .bool false)] (fun a8hp h8hq => ?_)
                      refine WL.dn ?_
                      refine wp_ret ?_
                      have hS8hr := hS85k.drop_
                      have hS8hs := hS8hr.drop_
                      have hS8ht := hS8hs.drop_
                      have hS8hu := hS8ht.drop_
                      have hS8hv := hS8hu.drop_
                      obtain rfl := Option.some.inj H
                      repeat (first | with_reducible refine t1 ?_ | with_reducible refine t2 ?_ | with_reducible refine t3 ?_)
                      refine bret (.bool false) h8hq ?_
                      exact ⟨rfl, hS8hv⟩
                    ·rw [if_neg c8g7] at H
                     have hb_ : r71o = false := (Bool.eq_false_iff.2 c8g7)
                     try rw [hb_] at h8g5
                     clear hb_
                     refine WT.sp 35 h8g5 rfl rfl s8g6 (fun a8hw s8hy h8hx => ?_)
                     refine WT.sp 36 h8hx rfl rfl s8hy (fun a8hz s8i1 h8i0 => ?_)
                     refine WT.sp 37 h8i0 rfl rfl s8i1 (fun a8i2 s8i4 h8i3 => ?_)
                     refine WT.sp 38 h8i3 rfl rfl s8i4 (fun a8i5 s8i7 h8i6 => ?_)
                     refine WT.sp 39 h8i6 rfl rfl s8i7 (fun a8i8 s8ia h8i9 => ?_)
                     refine WT.tk 40 h8i9 rfl rfl (.bool false) (fun _ _ => by kernel_rfl) s8ia (fun a8ib s8id h8ic => ?_)
                     refine WT.tk 41 h8ic rfl rfl (.bool false) (fun _ _ => by kernel_rfl) s8id (fun a8ie s8ig h8if => ?_)
                     refine WT.dn ?_
                     refine wp_else h8if rfl ?_
                     refine wp_skip ?_
                     refine WL.start ?_
                     refine WL.bl 2 2 h8if [(173, i6 r72d), (172, .slice A6ir x6iq.length c6is)] (fun a8ih h8ii => ?_)
                     refine WL.oq h8ii rfl ?_
                     refine owp_rn (.agg #[.int .u32 ((gt z48 x6iq r72d).f0), .string (mkS ((gt z48 x6iq r72d).f1)), .string (mkS (((gt z48 x6iq r72d).f2) ++ (toS r71n))), i6 (IntKind.i64.wrap (((gt z48 x6iq r72d).f3) - (r71n.length : Int)))]) h8ii rfl (run_loadN rfl rfl Try.underlying48 rfl (cs := [.int .u32 ((gt z48 x6iq r72d).f0), .string (mkS ((gt z48 x6iq r72d).f1)), .string (mkS (((gt z48 x6iq r72d).f2) ++ (toS r71n))), i6 (IntKind.i64.wrap (((gt z48 x6iq r72d).f3) - (r71n.length : Int)))]) (by kernel_rfl) (hS85k.cells (vs := [.int .u32 ((gt z48 x6iq r72d).f0), .string (mkS ((gt z48 x6iq r72d).f1)), .string (mkS (((gt z48 x6iq r72d).f2) ++ (toS r71n))), i6 (IntKind.i64.wrap (((gt z48 x6iq r72d).f3) - (r71n.length : Int)))]) rfl)) (fun a8ij h8ik => ?_)
                     have hi8in : 0 ≤ r72d := by first | assumption | omega
                     have hi8io : r72d < (x6iq.length : Int) := by first | assumption | omega
                     obtain ⟨ad8il, _, ha8im, -, -⟩ := Rds.elemAny hr6iu.rds hi8in (gt_get (z := z48) hi8in hi8io)
                     refine WL.oq h8ik rfl ?_
                     refine owp_rn (.pointer (some (ad8il.add (r72d.toNat * 4)))) h8ik rfl (run_idx (ad := ad8il) (sz := 4) rfl (by rw [← ha8im]; rfl) rfl Try.underlying43 (by kernel_rfl) hi8in hi8io) (fun a8ip h8iq => ?_)
                     have hS8ir := hS85k.b2
                     refine WL.oq h8iq rfl ?_
                     refine owp_setelem (j := 0) (vs := [.int .u32 ((gt z48 x6iq r72d).f0), .string (mkS ((gt z48 x6iq r72d).f1)), .string (mkS (((gt z48 x6iq r72d).f2) ++ (toS r71n))), i6 (IntKind.i64.wrap (((gt z48 x6iq r72d).f3) - (r71n.length : Int)))]) (x' := (⟨(gt z48 x6iq r72d).f0, (gt z48 x6iq r72d).f1, ((gt z48 x6iq r72d).f2) ++ (toS r71n), IntKind.i64.wrap (((gt z48 x6iq r72d).f3) - (r71n.length : Int))⟩ : S48)) h8iq rfl (by kernel_rfl) rfl rfl rfl rfl (by simp [Value.oneCell']) (by kernel_rfl) ha8im hr6iu hS8ir hi8in (gt_get (z := z48) hi8in hi8io) (Nat.le_refl _) (by intro cs_ Mx_ hr_; obtain ⟨rfl, rfl⟩ := k48qrep hr_; obtain ⟨_, hk_, rfl⟩ := k48qmk (b := b) (w0 := w0) (R := R) (x := (⟨(gt z48 x6iq r72d).f0, (gt z48 x6iq r72d).f1, ((gt z48 x6iq r72d).f2) ++ (toS r71n), IntKind.i64.wrap (((gt z48 x6iq r72d).f3) - (r71n.length : Int))⟩ : S48)); exact hk_) (fun a8is W8iu M8iv h8it hr8iw hS8ix => ?_)
                     obtain ⟨y8iy, hy8iz, H⟩ := lete H
                     have hl8j0 : y8iy.length = x6iq.length := by simp [hy8iz]
                     have hr8j1 : Row k48 48 b w0 R (.slice A6ir y8iy.length c6is) y8iy M8iv := by rw [hl8j0]; rw [hy8iz]; exact hr8iw
                     have h8j2 : Hd a8is 209 [(5, pt g6hy), (6, i6 (IntKind.i64.wrap (x6ip - (r71n.length : Int)))), (7, .slice A6ir y8iy.length c6is), (9, pt g6jn), (10, i6 r6jz), (11, .int .u32 r71m), (12, .slice A722 r71n.length c723), (13, .bool false), (14, .bool true), (15, i6 r72d), (16, pt g73z), (25, .slice A1 p1.length c1), (26, i6 (p1.length : Int)), (27, i6 x6iv), (28, .bool true), (29, .pointer (some (ad6j3.add (x6iv.toNat * 7)))), (30, .agg #[i6 ((gt z45 p1 x6iv).f0), .int .u32 ((gt z45 p1 x6iv).f1), i6 ((gt z45 p1 x6iv).f2), .slice A6jg ((gt z45 p1 x6iv).f3).length c6jh, .bool ((gt z45 p1 x6iv).f4), .int .u32 ((gt z45 p1 x6iv).f5), .int .u32 ((gt z45 p1 x6iv).f6)]), (31, .slice A6ir y8iy.length c6is), (32, .pointer (some ⟨g6jn, 1, none⟩)), (33, .int .u32 ((gt z45 p1 x6iv).f1)), (34, i6 r6jz), (35, pt g6jn), (36, i6 ((gt z45 p1 x6iv).f0)), (41, .bool false), (42, .bool false), (65, .bool false), (66, .bool false), (88, .bool true), (89, .bool true), (90, .tuple #[.int .u32 r71m, .slice A722 r71n.length c723, .bool false, .bool true]), (91, pt g6hy), (92, .pointer (some ⟨g6jn, 2, none⟩)), (93, i6 ((gt z45 p1 x6iv).f2)), (94, .tuple #[.int .u32 r71m, .slice A722 r71n.length c723, .bool false, .bool true]), (95, .int .u32 r71m), (96, .slice A722 r71n.length c723), (97, .bool false), (98, .bool true), (99, .bool true), (100, .bool false), (101, .slice A6ir y8iy.length c6is), (102, .int .u32 r71m), (103, i6 r72d), (104, i6 r72d), (105, .bool false), (106, .bool false), (107, .int .u32 r71m), (108, .bool false), (109, .bool false), (110, .slice A6ir y8iy.length c6is), (111, i6 r72d), (112, .pointer (some (ad73j.add (r72d.toNat * 4)))), (113, .agg #[.int .u32 ((gt z48 x6iq r72d).f0), .string (mkS ((gt z48 x6iq r72d).f1)), .string (mkS ((gt z48 x6iq r72d).f2)), i6 ((gt z48 x6iq r72d).f3)]), (114, .pointer (some ⟨g73z, 2, none⟩)), (115, .string (mkS ((gt z48 x6iq r72d).f2))), (116, .slice A722 r71n.length c723), (117, .string (mkS (toS r71n))), (118, .string (mkS (((gt z48 x6iq r72d).f2) ++ (toS r71n)))), (119, .pointer (some ⟨g73z, 2, none⟩)), (120, .pointer (some ⟨g73z, 3, none⟩)), (121, i6 ((gt z48 x6iq r72d).f3)), (122, .slice A722 r71n.length c723), (123, i6 (r71n.length : Int)), (124, i6 (IntKind.i64.wrap (((gt z48 x6iq r72d).f3) - (r71n.length : Int)))), (125, .pointer (some ⟨g73z, 3, none⟩)), (126, i6 x6ip), (127, .slice A722 r71n.length c723), (128, i6 (r71n.length : Int)), (129, i6 (IntKind.i64.wrap (x6ip - (r71n.length : Int)))), (130, .slice A722 r71n.length c723), (131, i6 (r71n.length : Int)), (132, .bool true), (133, .bool true), (134, .pointer (some ⟨g73z, 3, none⟩)), (135, i6 (IntKind.i64.wrap (((gt z48 x6iq r72d).f3) - (r71n.length : Int)))), (136, .bool false), (137, .bool false), (138, i6 (IntKind.i64.wrap (x6ip - (r71n.length : Int)))), (139, .bool false), (140, .bool false), (141, .bool false), (142, .bool false), (143, .pointer (some ⟨g73z, 2, none⟩)), (144, .string (mkS (((gt z48 x6iq r72d).f2) ++ (toS r71n)))), (145, i6 ((((gt z48 x6iq r72d).f2) ++ (toS r71n)).length : Int)), (146, .pointer (some ⟨g73z, 1, none⟩)), (147, .string (mkS ((gt z48 x6iq r72d).f1))), (148, i6 (((gt z48 x6iq r72d).f1).length : Int)), (149, .bool false), (150, .bool false), (151, .bool false), (152, .pointer (some ⟨g73z, 1, none⟩)), (153, .string (mkS ((gt z48 x6iq r72d).f1))), (154, .pointer (some ⟨g73z, 2, none⟩)), (155, .string (mkS (((gt z48 x6iq r72d).f2) ++ (toS r71n)))), (156, i6 ((((gt z48 x6iq r72d).f2) ++ (toS r71n)).length : Int)), (157, .string (mkS (((gt z48 x6iq r72d).f1).take ((((gt z48 x6iq r72d).f2) ++ (toS r71n)).length : Int).toNat))), (158, .pointer (some ⟨g73z, 2, none⟩)), (159, .string (mkS (((gt z48 x6iq r72d).f2) ++ (toS r71n)))), (160, .bool false), (161, .bool false), (162, .bool false), (163, .bool false), (164, .bool false), (170, .bool false), (171, .bool false), (172, .slice A6ir y8iy.length c6is), (173, i6 r72d), (174, .agg #[.int .u32 ((gt z48 x6iq r72d).f0), .string (mkS ((gt z48 x6iq r72d).f1)), .string (mkS (((gt z48 x6iq r72d).f2) ++ (toS r71n))), i6 (IntKind.i64.wrap (((gt z48 x6iq r72d).f3) - (r71n.length : Int)))]), (175, .pointer (some (ad8il.add (r72d.toNat * 4))))] := h8it.keep ⟨rfl, rfl, (by rw [hl8j0] <;> rfl), rfl, rfl, rfl, rfl, rfl, rfl, rfl, rfl, rfl, rfl, rfl, rfl, rfl, rfl, (by rw [hl8j0] <;> rfl), rfl, rfl, rfl, rfl, rfl, rfl, rfl, rfl, rfl, rfl, rfl, rfl, rfl, rfl, rfl, rfl, rfl, rfl, rfl, rfl, rfl, rfl, (by rw [hl8j0] <;> rfl), rfl, rfl, rfl, rfl, rfl, rfl, rfl, rfl, (by rw [hl8j0] <;> rfl), rfl, rfl, rfl, rfl, rfl, rfl, rfl, rfl, rfl, rfl, rfl, rfl, rfl, rfl, rfl, rfl, rfl, rfl, rfl, rfl, rfl, rfl, rfl, rfl, rfl, rfl, rfl, rfl, rfl, rfl, rfl, rfl, rfl, rfl, rfl, rfl, rfl, rfl, rfl, rfl, rfl, rfl, rfl, rfl, rfl, rfl, rfl, rfl, rfl, rfl, rfl, rfl, rfl, rfl, rfl, rfl, (by rw [hl8j0] <;> rfl), rfl, rfl, rfl, trivial⟩
                     clear h8it
                     refine WL.dn ?_
                     refine WL.start ?_
                     refine WL.bl 2 2 h8j2 [(27, i6 (IntKind.i64.wrap (x6iv + 1))), (207, i6 (IntKind.i64.wrap (x6iv + 1)))] (fun a8j3 h8j4 => ?_)
                     clear h8g5 a8g4 h8hx a8hw h8i0 a8hz h8i3 a8i2 h8i6 a8i5 h8i9 a8i8 h8ic a8ib h8if a8ie h8ii a8ih h8ik a8ij h8iq a8ip h8j2 a8is
                     refine WL.dn ?_
                     have hS8j5 := hS8ix.b1
                     have hS8j6 := hS8j5.drop_
                     have hS8j7 := hS8j6.b1
                     have hS8j8 := hS8j7.drop_
                     have hS8j9 := hS8j8.b2
                     have hS8ja := hS8j9.drop_
                     have hS8jb := hS8ja.b1
                     exact ⟨kk6iy, by omega, r71q, M71z, IntKind.i64.wrap (x6ip - (r71n.length : Int)), y8iy, A6ir, c6is, M8iv, IntKind.i64.wrap (x6iv + 1), h8j4.keep ⟨rfl, rfl, rfl, rfl, rfl, rfl, trivial⟩, ⟨H⟩, ⟨by omega⟩, ⟨hS8jb⟩, ⟨hr720⟩, ⟨hr8j1⟩⟩
                   ·rw [if_neg c8g0] at H
                    have hb_ : (decide ((((gt z48 x6iq r72d).f1).take ((((gt z48 x6iq r72d).f2) ++ (toS r71n)).length : Int).toNat) = (((gt z48 x6iq r72d).f2) ++ (toS r71n)))) = false := decide_eq_false c8g0
                    try rw [hb_] at h8fy
                    clear hb_
                    refine WT.sp 33 h8fy rfl rfl s8fz (fun a8jc s8je h8jd => ?_)
                    refine WT.sp 34 h8jd rfl rfl s8je (fun a8jf s8jh h8jg => ?_)
                    refine WT.sp 35 h8jg rfl rfl s8jh (fun a8ji s8jk h8jj => ?_)
                    refine WT.sp 36 h8jj rfl rfl s8jk (fun a8jl s8jn h8jm => ?_)
                    refine WT.sp 37 h8jm rfl rfl s8jn (fun a8jo s8jq h8jp => ?_)
                    refine WT.sp 38 h8jp rfl rfl s8jq (fun a8jr s8jt h8js => ?_)
                    refine WT.sp 39 h8js rfl rfl s8jt (fun a8ju s8jw h8jv => ?_)
                    refine WT.sp 40 h8jv rfl rfl s8jw (fun a8jx s8jz h8jy => ?_)
                    refine WT.tk 41 h8jy rfl rfl (.bool true) (fun _ _ => by kernel_rfl) s8jz (fun a8k0 s8k2 h8k1 => ?_)
                    refine WT.dn ?_
                    refine wp_then h8k1 rfl ?_
                    refine wp_seq ?_
                    refine WL.start ?_
                    refine WL.bl 1 1 h8k1 [(4, .bool false)] (fun a8k3 h8k4 => ?_)
                    refine WL.dn ?_
                    refine wp_ret ?_
                    have hS8k5 := hS85k.drop_
                    have hS8k6 := hS8k5.drop_
                    have hS8k7 := hS8k6.drop_
                    have hS8k8 := hS8k7.drop_
                    have hS8k9 := hS8k8.drop_
                    obtain rfl := Option.some.inj H
                    repeat (first | with_reducible refine t1 ?_ | with_reducible refine t2 ?_ | with_reducible refine t3 ?_)
                    refine bret (.bool false) h8k4 ?_
                    exact ⟨rfl, hS8k9⟩
                  ·rw [if_neg c8fk] at H
                   cases H
                 ·rw [if_neg c8fj] at H
                  cases H
             ·rw [if_neg c85x] at H
              have hb_ : (decide ((r71n.length : Int) > 0)) = false := decide_eq_false c85x
              try rw [hb_] at h85v
              clear hb_
              refine WT.sp 4 h85v rfl rfl s85w (fun a8ka s8kc h8kb => ?_)
              refine WT.sp 5 h8kb rfl rfl s8kc (fun a8kd s8kf h8ke => ?_)
              refine WT.sp 6 h8ke rfl rfl s8kf (fun a8kg s8ki h8kh => ?_)
              refine WT.sp 7 h8kh rfl rfl s8ki (fun a8kj s8kl h8kk => ?_)
              refine WT.sp 8 h8kk rfl rfl s8kl (fun a8km s8ko h8kn => ?_)
              refine WT.sp 9 h8kn rfl rfl s8ko (fun a8kp s8kr h8kq => ?_)
              refine WT.sp 10 h8kq rfl rfl s8kr (fun a8ks s8ku h8kt => ?_)
              refine WT.tk 11 h8kt rfl rfl (.bool false) (fun _ _ => by kernel_rfl) s8ku (fun a8kv s8kx h8kw => ?_)
              refine WT.tk 12 h8kw rfl rfl (.bool false) (fun _ _ => by kernel_rfl) s8kx (fun a8ky s8l0 h8kz => ?_)
              refine WT.tk 13 h8kz rfl rfl (.pointer (some ⟨g73z, 2, none⟩)) (fun _ _ => by kernel_rfl) s8l0 (fun a8l1 s8l3 h8l2 => ?_)
              refine WT.tk 16 h8l2 rfl rfl (.pointer (some ⟨g73z, 1, none⟩)) (fun _ _ => by kernel_rfl) s8l3 (fun a8l4 s8l6 h8l5 => ?_)
              refine WT.tk 14 h8l5 rfl rfl (.string (mkS (((gt z48 x6iq r72d).f2) ++ (toS r71n)))) (fun w_ hs_ => (run_load1 rfl rfl Try.underlying9 rfl hs_.2.1)) s8l6 (fun a8l7 s8l9 h8l8 => ?_)
              clear h85v a85u h8kb a8ka h8ke a8kd h8kh a8kg h8kk a8kj h8kn a8km h8kq a8kp h8kt a8ks h8kw a8kv h8kz a8ky h8l2 a8l1 h8l5 a8l4
              refine WT.tk 15 h8l8 rfl rfl (i6 ((((gt z48 x6iq r72d).f2) ++ (toS r71n)).length : Int)) (fun _ _ => by kernel_rfl) s8l9 (fun a8la s8lc h8lb => ?_)
              refine WT.tk 17 h8lb rfl rfl (.string (mkS ((gt z48 x6iq r72d).f1))) (fun w_ hs_ => (run_load1 rfl rfl Try.underlying9 rfl hs_.2.2.1)) s8lc (fun a8ld s8lf h8le => ?_)
              refine WT.tk 18 h8le rfl rfl (i6 (((gt z48 x6iq r72d).f1).length : Int)) (fun _ _ => by kernel_rfl) s8lf (fun a8lg s8li h8lh => ?_)
              refine WT.tk 19 h8lh rfl rfl (.bool (decide (((((gt z48 x6iq r72d).f2) ++ (toS r71n)).length : Int) > (((gt z48 x6iq r72d).f1).length : Int)))) (fun _ _ => by kernel_rfl) s8li (fun a8lj s8ll h8lk => ?_)
              refine WT.tk 20 h8lk rfl rfl (.bool (decide (((((gt z48 x6iq r72d).f2) ++ (toS r71n)).length : Int) > (((gt z48 x6iq r72d).f1).length : Int)))) (fun _ _ => by kernel_rfl) s8ll (fun a8lm s8lo h8ln => ?_)
              refine WT.tk 21 h8ln rfl rfl (.bool (decide (((((gt z48 x6iq r72d).f2) ++ (toS r71n)).length : Int) > (((gt z48 x6iq r72d).f1).length : Int)))) (fun _ _ => by kernel_rfl) s8lo (fun a8lp s8lr h8lq => ?_)
              clear h8l8 a8l7 h8lb a8la h8le a8ld h8lh a8lg h8lk a8lj h8ln a8lm
              by_cases c8ls : ((((gt z48 x6iq r72d).f2) ++ (toS r71n)).length : Int) > (((gt z48 x6iq r72d).f1).length : Int)
              ·rw [if_pos c8ls] at H
               have hb_ : (decide (((((gt z48 x6iq r72d).f2) ++ (toS r71n)).length : Int) > (((gt z48 x6iq r72d).f1).length : Int))) = true := decide_eq_true c8ls
               try rw [hb_] at h8lq
               clear hb_
               refine WT.sp 22 h8lq rfl rfl s8lr (fun a8lt s8lv h8lu => ?_)
               refine WT.sp 23 h8lu rfl rfl s8lv (fun a8lw s8ly h8lx => ?_)
               refine WT.sp 24 h8lx rfl rfl s8ly (fun a8lz s8m1 h8m0 => ?_)
               refine WT.sp 25 h8m0 rfl rfl s8m1 (fun a8m2 s8m4 h8m3 => ?_)
               refine WT.sp 26 h8m3 rfl rfl s8m4 (fun a8m5 s8m7 h8m6 => ?_)
               refine WT.sp 27 h8m6 rfl rfl s8m7 (fun a8m8 s8ma h8m9 => ?_)
               refine WT.sp 28 h8m9 rfl rfl s8ma (fun a8mb s8md h8mc => ?_)
               refine WT.sp 29 h8mc rfl rfl s8md (fun a8me s8mg h8mf => ?_)
               refine WT.sp 30 h8mf rfl rfl s8mg (fun a8mh s8mj h8mi => ?_)
               refine WT.tk 31 h8mi rfl rfl (.bool true) (fun _ _ => by kernel_rfl) s8mj (fun a8mk s8mm h8ml => ?_)
               refine WT.tk 32 h8ml rfl rfl (.bool true) (fun _ _ => by kernel_rfl) s8mm (fun a8mn s8mp h8mo => ?_)
               refine WT.sp 33 h8mo rfl rfl s8mp (fun a8mq s8ms h8mr => ?_)
               clear h8lq a8lp h8lu a8lt h8lx a8lw h8m0 a8lz h8m3 a8m2 h8m6 a8m5 h8m9 a8m8 h8mc a8mb h8mf a8me h8mi a8mh h8ml a8mk h8mo a8mn
               refine WT.sp 34 h8mr rfl rfl s8ms (fun a8mt s8mv h8mu => ?_)
               refine WT.sp 35 h8mu rfl rfl s8mv (fun a8mw s8my h8mx => ?_)
               refine WT.sp 36 h8mx rfl rfl s8my (fun a8mz s8n1 h8n0 => ?_)
               refine WT.sp 37 h8n0 rfl rfl s8n1 (fun a8n2 s8n4 h8n3 => ?_)
               refine WT.sp 38 h8n3 rfl rfl s8n4 (fun a8n5 s8n7 h8n6 => ?_)
               refine WT.sp 39 h8n6 rfl rfl s8n7 (fun a8n8 s8na h8n9 => ?_)
               refine WT.sp 40 h8n9 rfl rfl s8na (fun a8nb s8nd h8nc => ?_)
               refine WT.tk 41 h8nc rfl rfl (.bool true) (fun _ _ => by kernel_rfl) s8nd (fun a8ne s8ng h8nf => ?_)
               refine WT.dn ?_
               refine wp_then h8nf rfl ?_
               refine wp_seq ?_
               refine WL.start ?_
               refine WL.bl 1 1 h8nf [(4, .bool false)] (fun a8nh h8ni => ?_)
               refine WL.dn ?_
               refine wp_ret ?_
               have hS8nj := hS85k.drop_
               have hS8nk := hS8nj.drop_
               have hS8nl := hS8nk.drop_
               have hS8nm := hS8nl.drop_
               have hS8nn := hS8nm.drop_
               obtain rfl := Option.some.inj H
               repeat (first | with_reducible refine t1 ?_ | with_reducible refine t2 ?_ | with_reducible refine t3 ?_)
               refine bret (.bool false) h8ni ?_
               exact ⟨rfl, hS8nn⟩
              ·rw [if_neg c8ls] at H
               have hb_ : (decide (((((gt z48 x6iq r72d).f2) ++ (toS r71n)).length : Int) > (((gt z48 x6iq r72d).f1).length : Int))) = false := decide_eq_false c8ls
               try rw [hb_] at h8lq
               clear hb_
               refine WT.tk 22 h8lq rfl rfl (.pointer (some ⟨g73z, 1, none⟩)) (fun _ _ => by kernel_rfl) s8lr (fun a8no s8nq h8np => ?_)
               refine WT.tk 24 h8np rfl rfl (.pointer (some ⟨g73z, 2, none⟩)) (fun _ _ => by kernel_rfl) s8nq (fun a8nr s8nt h8ns => ?_)
               refine WT.tk 28 h8ns rfl rfl (.pointer (some ⟨g73z, 2, none⟩)) (fun _ _ => by kernel_rfl) s8nt (fun a8nu s8nw h8nv => ?_)
               refine WT.tk 23 h8nv rfl rfl (.string (mkS ((gt z48 x6iq r72d).f1))) (fun w_ hs_ => (run_load1 rfl rfl Try.underlying9 rfl hs_.2.2.1)) s8nw (fun a8nx s8nz h8ny => ?_)
               refine WT.tk 25 h8ny rfl rfl (.string (mkS (((gt z48 x6iq r72d).f2) ++ (toS r71n)))) (fun w_ hs_ => (run_load1 rfl rfl Try.underlying9 rfl hs_.2.1)) s8nz (fun a8o0 s8o2 h8o1 => ?_)
               refine WT.tk 26 h8o1 rfl rfl (i6 ((((gt z48 x6iq r72d).f2) ++ (toS r71n)).length : Int)) (fun _ _ => by kernel_rfl) s8o2 (fun a8o3 s8o5 h8o4 => ?_)
               clear h8lq a8lp h8np a8no h8ns a8nr h8nv a8nu h8ny a8nx h8o1 a8o0
               by_cases c8o6 : 0 ≤ ((((gt z48 x6iq r72d).f2) ++ (toS r71n)).length : Int)
               ·rw [if_pos c8o6] at H
                by_cases c8o7 : ((((gt z48 x6iq r72d).f2) ++ (toS r71n)).length : Int) ≤ (((gt z48 x6iq r72d).f1).length : Int)
                ·rw [if_pos c8o7] at H
                 refine WT.tk 27 h8o4 rfl rfl (.string (mkS (((gt z48 x6iq r72d).f1).take ((((gt z48 x6iq r72d).f2) ++ (toS r71n)).length : Int).toNat))) (fun w_ hs_ => (run_strcut' (l := 0) (h := ((((gt z48 x6iq r72d).f2) ++ (toS r71n)).length : Int)) rfl rfl Try.underlying9 rfl ⟨_, rfl⟩ (by first | assumption | omega) (by first | assumption | omega) (by first | assumption | omega) (by simp))) s8o5 (fun a8o8 s8oa h8o9 => ?_)
                 refine WT.tk 29 h8o9 rfl rfl (.string (mkS (((gt z48 x6iq r72d).f2) ++ (toS r71n)))) (fun w_ hs_ => (run_load1 rfl rfl Try.underlying9 rfl hs_.2.1)) s8oa (fun a8ob s8od h8oc => ?_)
                 refine WT.tk 30 h8oc rfl rfl (.bool (!decide ((((gt z48 x6iq r72d).f1).take ((((gt z48 x6iq r72d).f2) ++ (toS r71n)).length : Int).toNat) = (((gt z48 x6iq r72d).f2) ++ (toS r71n))))) (fun w_ hs_ => (run_strne rfl rfl rfl)) s8od (fun a8oe s8og h8of => ?_)
                 refine WT.tk 31 h8of rfl rfl (.bool (!decide ((((gt z48 x6iq r72d).f1).take ((((gt z48 x6iq r72d).f2) ++ (toS r71n)).length : Int).toNat) = (((gt z48 x6iq r72d).f2) ++ (toS r71n))))) (fun _ _ => by kernel_rfl) s8og (fun a8oh s8oj h8oi => ?_)
                 refine WT.tk 32 h8oi rfl rfl (.bool (!decide ((((gt z48 x6iq r72d).f1).take ((((gt z48 x6iq r72d).f2) ++ (toS r71n)).length : Int).toNat) = (((gt z48 x6iq r72d).f2) ++ (toS r71n))))) (fun _ _ => by kernel_rfl) s8oj (fun a8ok s8om h8ol => ?_)
                 clear h8o4 a8o3 h8o9 a8o8 h8oc a8ob h8of a8oe h8oi a8oh
                 by_cases c8on : (((gt z48 x6iq r72d).f1).take ((((gt z48 x6iq r72d).f2) ++ (toS r71n)).length : Int).toNat) = (((gt z48 x6iq r72d).f2) ++ (toS r71n))
                 ·rw [if_pos c8on] at H
                  have hb_ : (decide ((((gt z48 x6iq r72d).f1).take ((((gt z48 x6iq r72d).f2) ++ (toS r71n)).length : Int).toNat) = (((gt z48 x6iq r72d).f2) ++ (toS r71n)))) = true := decide_eq_true c8on
                  try rw [hb_] at h8ol
                  clear hb_
                  refine WT.tk 33 h8ol rfl rfl (.bool r71o) (fun _ _ => by kernel_rfl) s8om (fun a8oo s8oq h8op => ?_)
                  refine WT.tk 34 h8op rfl rfl (.bool r71o) (fun _ _ => by kernel_rfl) s8oq (fun a8or s8ot h8os => ?_)
                  clear h8ol a8ok h8op a8oo
                  by_cases c8ou : r71o = true
                  ·rw [if_pos c8ou] at H
                   have hb_ : r71o = true := c8ou
                   try rw [hb_] at h8os
                   clear hb_
                   refine WT.tk 35 h8os rfl rfl (.pointer (some ⟨g73z, 2, none⟩)) (fun _ _ => by kernel_rfl) s8ot (fun a8ov s8ox h8ow => ?_)
                   refine WT.tk 37 h8ow rfl rfl (.pointer (some ⟨g73z, 1, none⟩)) (fun _ _ => by kernel_rfl) s8ox (fun a8oy s8p0 h8oz => ?_)
                   refine WT.tk 36 h8oz rfl rfl (.string (mkS (((gt z48 x6iq r72d).f2) ++ (toS r71n)))) (fun w_ hs_ => (run_load1 rfl rfl Try.underlying9 rfl hs_.2.1)) s8p0 (fun a8p1 s8p3 h8p2 => ?_)
                   refine WT.tk 38 h8p2 rfl rfl (.string (mkS ((gt z48 x6iq r72d).f1))) (fun w_ hs_ => (run_load1 rfl rfl Try.underlying9 rfl hs_.2.2.1)) s8p3 (fun a8p4 s8p6 h8p5 => ?_)
                   refine WT.tk 39 h8p5 rfl rfl (.bool (!decide ((((gt z48 x6iq r72d).f2) ++ (toS r71n)) = ((gt z48 x6iq r72d).f1)))) (fun w_ hs_ => (run_strne rfl rfl rfl)) s8p6 (fun a8p7 s8p9 h8p8 => ?_)
                   refine WT.tk 40 h8p8 rfl rfl (.bool (!decide ((((gt z48 x6iq r72d).f2) ++ (toS r71n)) = ((gt z48 x6iq r72d).f1)))) (fun _ _ => by kernel_rfl) s8p9 (fun a8pa s8pc h8pb => ?_)
                   refine WT.tk 41 h8pb rfl rfl (.bool (!decide ((((gt z48 x6iq r72d).f2) ++ (toS r71n)) = ((gt z48 x6iq r72d).f1)))) (fun _ _ => by kernel_rfl) s8pc (fun a8pd s8pf h8pe => ?_)
                   refine WT.dn ?_
                   clear h8os a8or h8ow a8ov h8oz a8oy h8p2 a8p1 h8p5 a8p4 h8p8 a8p7 h8pb a8pa
                   by_cases c8pg : (((gt z48 x6iq r72d).f2) ++ (toS r71n)) = ((gt z48 x6iq r72d).f1)
                   ·rw [if_pos c8pg] at H
                    have hb_ : (decide ((((gt z48 x6iq r72d).f2) ++ (toS r71n)) = ((gt z48 x6iq r72d).f1))) = true := decide_eq_true c8pg
                    try rw [hb_] at h8pe
                    clear hb_
                    refine wp_else h8pe rfl ?_
                    refine wp_skip ?_
                    refine WL.start ?_
                    refine WL.bl 2 2 h8pe [(173, i6 r72d), (172, .slice A6ir x6iq.length c6is)] (fun a8ph h8pi => ?_)
                    refine WL.oq h8pi rfl ?_
                    refine owp_rn (.agg #[.int .u32 ((gt z48 x6iq r72d).f0), .string (mkS ((gt z48 x6iq r72d).f1)), .string (mkS (((gt z48 x6iq r72d).f2) ++ (toS r71n))), i6 (IntKind.i64.wrap (((gt z48 x6iq r72d).f3) - (r71n.length : Int)))]) h8pi rfl (run_loadN rfl rfl Try.underlying48 rfl (cs := [.int .u32 ((gt z48 x6iq r72d).f0), .string (mkS ((gt z48 x6iq r72d).f1)), .string (mkS (((gt z48 x6iq r72d).f2) ++ (toS r71n))), i6 (IntKind.i64.wrap (((gt z48 x6iq r72d).f3) - (r71n.length : Int)))]) (by kernel_rfl) (hS85k.cells (vs := [.int .u32 ((gt z48 x6iq r72d).f0), .string (mkS ((gt z48 x6iq r72d).f1)), .string (mkS (((gt z48 x6iq r72d).f2) ++ (toS r71n))), i6 (IntKind.i64.wrap (((gt z48 x6iq r72d).f3) - (r71n.length : Int)))]) rfl)) (fun a8pj h8pk => ?_)
                    have hi8pn : 0 ≤ r72d := by first | assumption | omega
                    have hi8po : r72d < (x6iq.length : Int) := by first | assumption | omega
                    obtain ⟨ad8pl, _, ha8pm, -, -⟩ := Rds.elemAny hr6iu.rds hi8pn (gt_get (z := z48) hi8pn hi8po)
                    refine WL.oq h8pk rfl ?_
                    refine owp_rn (.pointer (some (ad8pl.add (r72d.toNat * 4)))) h8pk rfl (run_idx (ad := ad8pl) (sz := 4) rfl (by rw [← ha8pm]; rfl) rfl Try.underlying43 (by kernel_rfl) hi8pn hi8po) (fun a8pp h8pq => ?_)
                    have hS8pr := hS85k.b2
                    refine WL.oq h8pq rfl ?_
                    refine owp_setelem (j := 0) (vs := [.int .u32 ((gt z48 x6iq r72d).f0), .string (mkS ((gt z48 x6iq r72d).f1)), .string (mkS (((gt z48 x6iq r72d).f2) ++ (toS r71n))), i6 (IntKind.i64.wrap (((gt z48 x6iq r72d).f3) - (r71n.length : Int)))]) (x' := (⟨(gt z48 x6iq r72d).f0, (gt z48 x6iq r72d).f1, ((gt z48 x6iq r72d).f2) ++ (toS r71n), IntKind.i64.wrap (((gt z48 x6iq r72d).f3) - (r71n.length : Int))⟩ : S48)) h8pq rfl (by kernel_rfl) rfl rfl rfl rfl (by simp [Value.oneCell']) (by kernel_rfl) ha8pm hr6iu hS8pr hi8pn (gt_get (z := z48) hi8pn hi8po) (Nat.le_refl _) (by intro cs_ Mx_ hr_; obtain ⟨rfl, rfl⟩ := k48qrep hr_; obtain ⟨_, hk_, rfl⟩ := k48qmk (b := b) (w0 := w0) (R := R) (x := (⟨(gt z48 x6iq r72d).f0, (gt z48 x6iq r72d).f1, ((gt z48 x6iq r72d).f2) ++ (toS r71n), IntKind.i64.wrap (((gt z48 x6iq r72d).f3) - (r71n.length : Int))⟩ : S48)); exact hk_) (fun a8ps W8pu M8pv h8pt hr8pw hS8px => ?_)
                    obtain ⟨y8py, hy8pz, H⟩ := lete H
                    have hl8q0 : y8py.length = x6iq.length := by simp [hy8pz]
                    have hr8q1 : Row k48 48 b w0 R (.slice A6ir y8py.length c6is) y8py M8pv := by rw [hl8q0]; rw [hy8pz]; exact hr8pw
                    have h8q2 : Hd a8ps 209 [(5, pt g6hy), (6, i6 (IntKind.i64.wrap (x6ip - (r71n.length : Int)))), (7, .slice A6ir y8py.length c6is), (9, pt g6jn), (10, i6 r6jz), (11, .int .u32 r71m), (12, .slice A722 r71n.length c723), (13, .bool true), (14, .bool true), (15, i6 r72d), (16, pt g73z), (25, .slice A1 p1.length c1), (26, i6 (p1.length : Int)), (27, i6 x6iv), (28, .bool true), (29, .pointer (some (ad6j3.add (x6iv.toNat * 7)))), (30, .agg #[i6 ((gt z45 p1 x6iv).f0), .int .u32 ((gt z45 p1 x6iv).f1), i6 ((gt z45 p1 x6iv).f2), .slice A6jg ((gt z45 p1 x6iv).f3).length c6jh, .bool ((gt z45 p1 x6iv).f4), .int .u32 ((gt z45 p1 x6iv).f5), .int .u32 ((gt z45 p1 x6iv).f6)]), (31, .slice A6ir y8py.length c6is), (32, .pointer (some ⟨g6jn, 1, none⟩)), (33, .int .u32 ((gt z45 p1 x6iv).f1)), (34, i6 r6jz), (35, pt g6jn), (36, i6 ((gt z45 p1 x6iv).f0)), (41, .bool false), (42, .bool false), (65, .bool false), (66, .bool false), (88, .bool true), (89, .bool true), (90, .tuple #[.int .u32 r71m, .slice A722 r71n.length c723, .bool true, .bool true]), (91, pt g6hy), (92, .pointer (some ⟨g6jn, 2, none⟩)), (93, i6 ((gt z45 p1 x6iv).f2)), (94, .tuple #[.int .u32 r71m, .slice A722 r71n.length c723, .bool true, .bool true]), (95, .int .u32 r71m), (96, .slice A722 r71n.length c723), (97, .bool true), (98, .bool true), (99, .bool true), (100, .bool false), (101, .slice A6ir y8py.length c6is), (102, .int .u32 r71m), (103, i6 r72d), (104, i6 r72d), (105, .bool false), (106, .bool false), (107, .int .u32 r71m), (108, .bool false), (109, .bool false), (110, .slice A6ir y8py.length c6is), (111, i6 r72d), (112, .pointer (some (ad73j.add (r72d.toNat * 4)))), (113, .agg #[.int .u32 ((gt z48 x6iq r72d).f0), .string (mkS ((gt z48 x6iq r72d).f1)), .string (mkS ((gt z48 x6iq r72d).f2)), i6 ((gt z48 x6iq r72d).f3)]), (114, .pointer (some ⟨g73z, 2, none⟩)), (115, .string (mkS ((gt z48 x6iq r72d).f2))), (116, .slice A722 r71n.length c723), (117, .string (mkS (toS r71n))), (118, .string (mkS (((gt z48 x6iq r72d).f2) ++ (toS r71n)))), (119, .pointer (some ⟨g73z, 2, none⟩)), (120, .pointer (some ⟨g73z, 3, none⟩)), (121, i6 ((gt z48 x6iq r72d).f3)), (122, .slice A722 r71n.length c723), (123, i6 (r71n.length : Int)), (124, i6 (IntKind.i64.wrap (((gt z48 x6iq r72d).f3) - (r71n.length : Int)))), (125, .pointer (some ⟨g73z, 3, none⟩)), (126, i6 x6ip), (127, .slice A722 r71n.length c723), (128, i6 (r71n.length : Int)), (129, i6 (IntKind.i64.wrap (x6ip - (r71n.length : Int)))), (130, .slice A722 r71n.length c723), (131, i6 (r71n.length : Int)), (132, .bool false), (133, .bool false), (141, .bool false), (142, .bool false), (143, .pointer (some ⟨g73z, 2, none⟩)), (144, .string (mkS (((gt z48 x6iq r72d).f2) ++ (toS r71n)))), (145, i6 ((((gt z48 x6iq r72d).f2) ++ (toS r71n)).length : Int)), (146, .pointer (some ⟨g73z, 1, none⟩)), (147, .string (mkS ((gt z48 x6iq r72d).f1))), (148, i6 (((gt z48 x6iq r72d).f1).length : Int)), (149, .bool false), (150, .bool false), (151, .bool false), (152, .pointer (some ⟨g73z, 1, none⟩)), (153, .string (mkS ((gt z48 x6iq r72d).f1))), (154, .pointer (some ⟨g73z, 2, none⟩)), (155, .string (mkS (((gt z48 x6iq r72d).f2) ++ (toS r71n)))), (156, i6 ((((gt z48 x6iq r72d).f2) ++ (toS r71n)).length : Int)), (157, .string (mkS (((gt z48 x6iq r72d).f1).take ((((gt z48 x6iq r72d).f2) ++ (toS r71n)).length : Int).toNat))), (158, .pointer (some ⟨g73z, 2, none⟩)), (159, .string (mkS (((gt z48 x6iq r72d).f2) ++ (toS r71n)))), (160, .bool false), (161, .bool false), (162, .bool false), (163, .bool true), (164, .bool true), (165, .pointer (some ⟨g73z, 2, none⟩)), (166, .string (mkS (((gt z48 x6iq r72d).f2) ++ (toS r71n)))), (167, .pointer (some ⟨g73z, 1, none⟩)), (168, .string (mkS ((gt z48 x6iq r72d).f1))), (169, .bool false), (170, .bool false), (171, .bool false), (172, .slice A6ir y8py.length c6is), (173, i6 r72d), (174, .agg #[.int .u32 ((gt z48 x6iq r72d).f0), .string (mkS ((gt z48 x6iq r72d).f1)), .string (mkS (((gt z48 x6iq r72d).f2) ++ (toS r71n))), i6 (IntKind.i64.wrap (((gt z48 x6iq r72d).f3) - (r71n.length : Int)))]), (175, .pointer (some (ad8pl.add (r72d.toNat * 4))))] := h8pt.keep ⟨rfl, rfl, (by rw [hl8q0] <;> rfl), rfl, rfl, rfl, rfl, rfl, rfl, rfl, rfl, rfl, rfl, rfl, rfl, rfl, rfl, (by rw [hl8q0] <;> rfl), rfl, rfl, rfl, rfl, rfl, rfl, rfl, rfl, rfl, rfl, rfl, rfl, rfl, rfl, rfl, rfl, rfl, rfl, rfl, rfl, rfl, rfl, (by rw [hl8q0] <;> rfl), rfl, rfl, rfl, rfl, rfl, rfl, rfl, rfl, (by rw [hl8q0] <;> rfl), rfl, rfl, rfl, rfl, rfl, rfl, rfl, rfl, rfl, rfl, rfl, rfl, rfl, rfl, rfl, rfl, rfl, rfl, rfl, rfl, rfl, rfl, rfl, rfl, rfl, rfl, rfl, rfl, rfl, rfl, rfl, rfl, rfl, rfl, rfl, rfl, rfl, rfl, rfl, rfl, rfl, rfl, rfl, rfl, rfl, rfl, rfl, rfl, rfl, rfl, rfl, rfl, rfl, rfl, (by rw [hl8q0] <;> rfl), rfl, rfl, rfl, trivial⟩
                    clear h8pt
                    refine WL.dn ?_
                    refine WL.start ?_
                    refine WL.bl 2 2 h8q2 [(27, i6 (IntKind.i64.wrap (x6iv + 1))), (207, i6 (IntKind.i64.wrap (x6iv + 1)))] (fun a8q3 h8q4 => ?_)
                    refine WL.dn ?_
                    have hS8q5 := hS8px.b1
                    have hS8q6 := hS8q5.drop_
                    have hS8q7 := hS8q6.b1
                    have hS8q8 := hS8q7.drop_
                    have hS8q9 := hS8q8.b2
                    have hS8qa := hS8q9.drop_
                    have hS8qb := hS8qa.b1
                    exact ⟨kk6iy, by omega, r71q, M71z, IntKind.i64.wrap (x6ip - (r71n.length : Int)), y8py, A6ir, c6is, M8pv, IntKind.i64.wrap (x6iv + 1), h8q4.keep ⟨rfl, rfl, rfl, rfl, rfl, rfl, trivial⟩, ⟨H⟩, ⟨by omega⟩, ⟨hS8qb⟩, ⟨hr720⟩, ⟨hr8q1⟩⟩
                   ·rw [if_neg c8pg] at H
                    have hb_ : (decide ((((gt z48 x6iq r72d).f2) ++ (toS r71n)) = ((gt z48 x6iq r72d).f1))) = false := decide_eq_false c8pg
                    try rw [hb_] at h8pe
                    clear hb_
                    refine wp_then h8pe rfl ?_
                    refine wp_seq ?_
                    refine WL.start ?_
                    refine WL.bl 1 1 h8pe [(4, .bool false)] (fun a8qc h8qd => ?_)
                    refine WL.dn ?_
                    refine wp_ret ?_
                    have hS8qe := hS85k.drop_
                    have hS8qf := hS8qe.drop_
                    have hS8qg := hS8qf.drop_
                    have hS8qh := hS8qg.drop_
                    have hS8qi := hS8qh.drop_
                    obtain rfl := Option.some.inj H
                    repeat (first | with_reducible refine t1 ?_ | with_reducible refine t2 ?_ | with_reducible refine t3 ?_)
                    refine bret (.bool false) h8qd ?_
                    exact ⟨rfl, hS8qi⟩
                  ·rw [if_neg c8ou] at H
                   have hb_ : r71o = false := (Bool.eq_false_iff.2 c8ou)
                   try rw [hb_] at h8os
                   clear hb_
                   refine WT.sp 35 h8os rfl rfl s8ot (fun a8qj s8ql h8qk => ?_)
                   refine WT.sp 36 h8qk rfl rfl s8ql (fun a8qm s8qo h8qn => ?_)
                   refine WT.sp 37 h8qn rfl rfl s8qo (fun a8qp s8qr h8qq => ?_)
                   refine WT.sp 38 h8qq rfl rfl s8qr (fun a8qs s8qu h8qt => ?_)
                   refine WT.sp 39 h8qt rfl rfl s8qu (fun a8qv s8qx h8qw => ?_)
                   refine WT.tk 40 h8qw rfl rfl (.bool false) (fun _ _ => by kernel_rfl) s8qx (fun a8qy s8r0 h8qz => ?_)
                   refine WT.tk 41 h8qz rfl rfl (.bool false) (fun _ _ => by kernel_rfl) s8r0 (fun a8r1 s8r3 h8r2 => ?_)
                   refine WT.dn ?_
                   refine wp_else h8r2 rfl ?_
                   refine wp_skip ?_
                   refine WL.start ?_
                   refine WL.bl 2 2 h8r2 [(173, i6 r72d), (172, .slice A6ir x6iq.length c6is)] (fun a8r4 h8r5 => ?_)
                   refine WL.oq h8r5 rfl ?_
                   refine owp_rn (.agg #[.int .u32 ((gt z48 x6iq r72d).f0), .string (mkS ((gt z48 x6iq r72d).f1)), .string (mkS (((gt z48 x6iq r72d).f2) ++ (toS r71n))), i6 (IntKind.i64.wrap (((gt z48 x6iq r72d).f3) - (r71n.length : Int)))]) h8r5 rfl (run_loadN rfl rfl Try.underlying48 rfl (cs := [.int .u32 ((gt z48 x6iq r72d).f0), .string (mkS ((gt z48 x6iq r72d).f1)), .string (mkS (((gt z48 x6iq r72d).f2) ++ (toS r71n))), i6 (IntKind.i64.wrap (((gt z48 x6iq r72d).f3) - (r71n.length : Int)))]) (by kernel_rfl) (hS85k.cells (vs := [.int .u32 ((gt z48 x6iq r72d).f0), .string (mkS ((gt z48 x6iq r72d).f1)), .string (mkS (((gt z48 x6iq r72d).f2) ++ (toS r71n))), i6 (IntKind.i64.wrap (((gt z48 x6iq r72d).f3) - (r71n.length : Int)))]) rfl)) (fun a8r6 h8r7 => ?_)
                   have hi8ra : 0 ≤ r72d := by first | assumption | omega
                   have hi8rb : r72d < (x6iq.length : Int) := by first | assumption | omega
                   obtain ⟨ad8r8, _, ha8r9, -, -⟩ := Rds.elemAny hr6iu.rds hi8ra (gt_get (z := z48) hi8ra hi8rb)
                   refine WL.oq h8r7 rfl ?_
                   refine owp_rn (.pointer (some (ad8r8.add (r72d.toNat * 4)))) h8r7 rfl (run_idx (ad := ad8r8) (sz := 4) rfl (by rw [← ha8r9]; rfl) rfl Try.underlying43 (by kernel_rfl) hi8ra hi8rb) (fun a8rc h8rd => ?_)
                   have hS8re := hS85k.b2
                   refine WL.oq h8rd rfl ?_
                   refine owp_setelem (j := 0) (vs := [.int .u32 ((gt z48 x6iq r72d).f0), .string (mkS ((gt z48 x6iq r72d).f1)), .string (mkS (((gt z48 x6iq r72d).f2) ++ (toS r71n))), i6 (IntKind.i64.wrap (((gt z48 x6iq r72d).f3) - (r71n.length : Int)))]) (x' := (⟨(gt z48 x6iq r72d).f0, (gt z48 x6iq r72d).f1, ((gt z48 x6iq r72d).f2) ++ (toS r71n), IntKind.i64.wrap (((gt z48 x6iq r72d).f3) - (r71n.length : Int))⟩ : S48)) h8rd rfl (by kernel_rfl) rfl rfl rfl rfl (by simp [Value.oneCell']) (by kernel_rfl) ha8r9 hr6iu hS8re hi8ra (gt_get (z := z48) hi8ra hi8rb) (Nat.le_refl _) (by intro cs_ Mx_ hr_; obtain ⟨rfl, rfl⟩ := k48qrep hr_; obtain ⟨_, hk_, rfl⟩ := k48qmk (b := b) (w0 := w0) (R := R) (x := (⟨(gt z48 x6iq r72d).f0, (gt z48 x6iq r72d).f1, ((gt z48 x6iq r72d).f2) ++ (toS r71n), IntKind.i64.wrap (((gt z48 x6iq r72d).f3) - (r71n.length : Int))⟩ : S48)); exact hk_) (fun a8rf W8rh M8ri h8rg hr8rj hS8rk => ?_)
                   obtain ⟨y8rl, hy8rm, H⟩ := lete H
                   have hl8rn : y8rl.length = x6iq.length := by simp [hy8rm]
                   have hr8ro : Row k48 48 b w0 R (.slice A6ir y8rl.length c6is) y8rl M8ri := by rw [hl8rn]; rw [hy8rm]; exact hr8rj
                   have h8rp : Hd a8rf 209 [(5, pt g6hy), (6, i6 (IntKind.i64.wrap (x6ip - (r71n.length : Int)))), (7, .slice A6ir y8rl.length c6is), (9, pt g6jn), (10, i6 r6jz), (11, .int .u32 r71m), (12, .slice A722 r71n.length c723), (13, .bool false), (14, .bool true), (15, i6 r72d), (16, pt g73z), (25, .slice A1 p1.length c1), (26, i6 (p1.length : Int)), (27, i6 x6iv), (28, .bool true), (29, .pointer (some (ad6j3.add (x6iv.toNat * 7)))), (30, .agg #[i6 ((gt z45 p1 x6iv).f0), .int .u32 ((gt z45 p1 x6iv).f1), i6 ((gt z45 p1 x6iv).f2), .slice A6jg ((gt z45 p1 x6iv).f3).length c6jh, .bool ((gt z45 p1 x6iv).f4), .int .u32 ((gt z45 p1 x6iv).f5), .int .u32 ((gt z45 p1 x6iv).f6)]), (31, .slice A6ir y8rl.length c6is), (32, .pointer (some ⟨g6jn, 1, none⟩)), (33, .int .u32 ((gt z45 p1 x6iv).f1)), (34, i6 r6jz), (35, pt g6jn), (36, i6 ((gt z45 p1 x6iv).f0)), (41, .bool false), (42, .bool false), (65, .bool false), (66, .bool false), (88, .bool true), (89, .bool true), (90, .tuple #[.int .u32 r71m, .slice A722 r71n.length c723, .bool false, .bool true]), (91, pt g6hy), (92, .pointer (some ⟨g6jn, 2, none⟩)), (93, i6 ((gt z45 p1 x6iv).f2)), (94, .tuple #[.int .u32 r71m, .slice A722 r71n.length c723, .bool false, .bool true]), (95, .int .u32 r71m), (96, .slice A722 r71n.length c723), (97, .bool false), (98, .bool true), (99, .bool true), (100, .bool false), (101, .slice A6ir y8rl.length c6is), (102, .int .u32 r71m), (103, i6 r72d), (104, i6 r72d), (105, .bool false), (106, .bool false), (107, .int .u32 r71m), (108, .bool false), (109, .bool false), (110, .slice A6ir y8rl.length c6is), (111, i6 r72d), (112, .pointer (some (ad73j.add (r72d.toNat * 4)))), (113, .agg #[.int .u32 ((gt z48 x6iq r72d).f0), .string (mkS ((gt z48 x6iq r72d).f1)), .string (mkS ((gt z48 x6iq r72d).f2)), i6 ((gt z48 x6iq r72d).f3)]), (114, .pointer (some ⟨g73z, 2, none⟩)), (115, .string (mkS ((gt z48 x6iq r72d).f2))), (116, .slice A722 r71n.length c723), (117, .string (mkS (toS r71n))), (118, .string (mkS (((gt z48 x6iq r72d).f2) ++ (toS r71n)))), (119, .pointer (some ⟨g73z, 2, none⟩)), (120, .pointer (some ⟨g73z, 3, none⟩)), (121, i6 ((gt z48 x6iq r72d).f3)), (122, .slice A722 r71n.length c723), (123, i6 (r71n.length : Int)), (124, i6 (IntKind.i64.wrap (((gt z48 x6iq r72d).f3) - (r71n.length : Int)))), (125, .pointer (some ⟨g73z, 3, none⟩)), (126, i6 x6ip), (127, .slice A722 r71n.length c723), (128, i6 (r71n.length : Int)), (129, i6 (IntKind.i64.wrap (x6ip - (r71n.length : Int)))), (130, .slice A722 r71n.length c723), (131, i6 (r71n.length : Int)), (132, .bool false), (133, .bool false), (141, .bool false), (142, .bool false), (143, .pointer (some ⟨g73z, 2, none⟩)), (144, .string (mkS (((gt z48 x6iq r72d).f2) ++ (toS r71n)))), (145, i6 ((((gt z48 x6iq r72d).f2) ++ (toS r71n)).length : Int)), (146, .pointer (some ⟨g73z, 1, none⟩)), (147, .string (mkS ((gt z48 x6iq r72d).f1))), (148, i6 (((gt z48 x6iq r72d).f1).length : Int)), (149, .bool false), (150, .bool false), (151, .bool false), (152, .pointer (some ⟨g73z, 1, none⟩)), (153, .string (mkS ((gt z48 x6iq r72d).f1))), (154, .pointer (some ⟨g73z, 2, none⟩)), (155, .string (mkS (((gt z48 x6iq r72d).f2) ++ (toS r71n)))), (156, i6 ((((gt z48 x6iq r72d).f2) ++ (toS r71n)).length : Int)), (157, .string (mkS (((gt z48 x6iq r72d).f1).take ((((gt z48 x6iq r72d).f2) ++ (toS r71n)).length : Int).toNat))), (158, .pointer (some ⟨g73z, 2, none⟩)), (159, .string (mkS (((gt z48 x6iq r72d).f2) ++ (toS r71n)))), (160, .bool false), (161, .bool false), (162, .bool false), (163, .bool false), (164, .bool false), (170, .bool false), (171, .bool false), (172, .slice A6ir y8rl.length c6is), (173, i6 r72d), (174, .agg #[.int .u32 ((gt z48 x6iq r72d).f0), .string (mkS ((gt z48 x6iq r72d).f1)), .string (mkS (((gt z48 x6iq r72d).f2) ++ (toS r71n))), i6 (IntKind.i64.wrap (((gt z48 x6iq r72d).f3) - (r71n.length : Int)))]), (175, .pointer (some (ad8r8.add (r72d.toNat * 4))))] := h8rg.keep ⟨rfl, rfl, (by rw [hl8rn] <;> rfl), rfl, rfl, rfl, rfl, rfl, rfl, rfl, rfl, rfl, rfl, rfl, rfl, rfl, rfl, (by rw [hl8rn] <;> rfl), rfl, rfl, rfl, rfl, rfl, rfl, rfl, rfl, rfl, rfl, rfl, rfl, rfl, rfl, rfl, rfl, rfl, rfl, rfl, rfl, rfl, rfl, (by rw [hl8rn] <;> rfl), rfl, rfl, rfl, rfl, rfl, rfl, rfl, rfl, (by rw [hl8rn] <;> rfl), rfl, rfl, rfl, rfl, rfl, rfl, rfl, rfl, rfl, rfl, rfl, rfl, rfl, rfl, rfl, rfl, rfl, rfl, rfl, rfl, rfl, rfl, rfl, rfl, rfl, rfl, rfl, rfl, rfl, rfl, rfl, rfl, rfl, rfl, rfl, rfl, rfl, rfl, rfl, rfl, rfl, rfl, rfl, rfl, rfl, rfl, rfl, rfl, rfl, (by rw [hl8rn] <;> rfl), rfl, rfl, rfl, trivial⟩
                   clear h8rg
                   refine WL.dn ?_
                   refine WL.start ?_
                   refine WL.bl 2 2 h8rp [(27, i6 (IntKind.i64.wrap (x6iv + 1))), (207, i6 (IntKind.i64.wrap (x6iv + 1)))] (fun a8rq h8rr => ?_)
                   clear h8os a8or h8qk a8qj h8qn a8qm h8qq a8qp h8qt a8qs h8qw a8qv h8qz a8qy h8r2 a8r1 h8r5 a8r4 h8r7 a8r6 h8rd a8rc h8rp a8rf
                   refine WL.dn ?_
                   have hS8rs := hS8rk.b1
                   have hS8rt := hS8rs.drop_
                   have hS8ru := hS8rt.b1
                   have hS8rv := hS8ru.drop_
                   have hS8rw := hS8rv.b2
                   have hS8rx := hS8rw.drop_
                   have hS8ry := hS8rx.b1
                   exact ⟨kk6iy, by omega, r71q, M71z, IntKind.i64.wrap (x6ip - (r71n.length : Int)), y8rl, A6ir, c6is, M8ri, IntKind.i64.wrap (x6iv + 1), h8rr.keep ⟨rfl, rfl, rfl, rfl, rfl, rfl, trivial⟩, ⟨H⟩, ⟨by omega⟩, ⟨hS8ry⟩, ⟨hr720⟩, ⟨hr8ro⟩⟩
                 ·rw [if_neg c8on] at H
                  have hb_ : (decide ((((gt z48 x6iq r72d).f1).take ((((gt z48 x6iq r72d).f2) ++ (toS r71n)).length : Int).toNat) = (((gt z48 x6iq r72d).f2) ++ (toS r71n)))) = false := decide_eq_false c8on
                  try rw [hb_] at h8ol
                  clear hb_
                  refine WT.sp 33 h8ol rfl rfl s8om (fun a8rz s8s1 h8s0 => ?_)
                  refine WT.sp 34 h8s0 rfl rfl s8s1 (fun a8s2 s8s4 h8s3 => ?_)
                  refine WT.sp 35 h8s3 rfl rfl s8s4 (fun a8s5 s8s7 h8s6 => ?_)
                  refine WT.sp 36 h8s6 rfl rfl s8s7 (fun a8s8 s8sa h8s9 => ?_)
                  refine WT.sp 37 h8s9 rfl rfl s8sa (fun a8sb s8sd h8sc => ?_)
                  refine WT.sp 38 h8sc rfl rfl s8sd (fun a8se s8sg h8sf => ?_)
                  refine WT.sp 39 h8sf rfl rfl s8sg (fun a8sh s8sj h8si => ?_)
                  refine WT.sp 40 h8si rfl rfl s8sj (fun a8sk s8sm h8sl => ?_)
                  refine WT.tk 41 h8sl rfl rfl (.bool true) (fun _ _ => by kernel_rfl) s8sm (fun a8sn s8sp h8so => ?_)
                  refine WT.dn ?_
                  refine wp_then h8so rfl ?_
                  refine wp_seq ?_
                  refine WL.start ?_
                  refine WL.bl 1 1 h8so [(4, .bool false)] (fun a8sq h8sr => ?_)
                  refine WL.dn ?_
                  refine wp_ret ?_
                  have hS8ss := hS85k.drop_
                  have hS8st := hS8ss.drop_
                  have hS8su := hS8st.drop_
                  have hS8sv := hS8su.drop_
                  have hS8sw := hS8sv.drop_
                  obtain rfl := Option.some.inj H
                  repeat (first | with_reducible refine t1 ?_ | with_reducible refine t2 ?_ | with_reducible refine t3 ?_)
                  refine bret (.bool false) h8sr ?_
                  exact ⟨rfl, hS8sw⟩
                ·rw [if_neg c8o7] at H
                 cases H
               ·rw [if_neg c8o6] at H
                cases H
            ·rw [if_neg c74e] at H
             cases H
           ·rw [if_neg c73i] at H
            cases H
          ·rw [if_neg c73h] at H
           cases H
       ·rw [if_neg c728] at H
        have hb_ : r71p = false := (Bool.eq_false_iff.2 c728)
        try rw [hb_] at h727
        clear hb_
        refine wp_then h727 rfl ?_
        refine wp_exit ?_
        refine WL.start ?_
        refine WL.bl 2 2 h727 [(27, i6 (IntKind.i64.wrap (x6iv + 1))), (207, i6 (IntKind.i64.wrap (x6iv + 1)))] (fun a8sx h8sy => ?_)
        refine WL.dn ?_
        have hS8sz := hS721.drop_
        have hS8t0 := hS8sz.b1
        have hS8t1 := hS8t0.drop_
        exact ⟨kk6iy, by omega, r71q, M71z, x6ip, x6iq, A6ir, c6is, M6it, IntKind.i64.wrap (x6iv + 1), h8sy.keep ⟨rfl, rfl, rfl, rfl, rfl, rfl, trivial⟩, ⟨H⟩, ⟨by omega⟩, ⟨hS8t1⟩, ⟨hr720⟩, ⟨hr6iu⟩⟩
      ·rw [if_neg c71f] at H
       have hb_ : (decide (((gt z45 p1 x6iv).f0) = 2)) = false := decide_eq_false c71f
       try rw [hb_] at h71e
       clear hb_
       refine wp_else h71e rfl ?_
       refine wp_seq ?_
       refine WL.start ?_
       refine WL.bl 2 2 h71e [(176, .bool (decide (((gt z45 p1 x6iv).f0) = 3))), (177, .bool (decide (((gt z45 p1 x6iv).f0) = 3)))] (fun a8t2 h8t3 => ?_)
       refine WL.dn ?_
       clear h71e a71d
       by_cases c8t4 : ((gt z45 p1 x6iv).f0) = 3
       ·rw [if_pos c8t4] at H
        have hb_ : (decide (((gt z45 p1 x6iv).f0) = 3)) = true := decide_eq_true c8t4
        try rw [hb_] at h8t3
        clear hb_
        refine wp_then h8t3 rfl ?_
        refine wp_seq ?_
        refine WL.start ?_
        refine WL.bl 2 2 h8t3 [(179, .pointer (some ⟨g6jn, 1, none⟩)), (178, pt g6hy)] (fun a8t5 h8t6 => ?_)
        refine WL.oq h8t6 rfl ?_
        refine owp_rn (.int .u32 ((gt z45 p1 x6iv).f1)) h8t6 rfl (run_load1 rfl rfl Try.underlying25 rfl (hS6kb.cell (i := 1) rfl)) (fun a8t7 h8t8 => ?_)
        refine WL.bl 1 4 h8t8 [(181, .pointer (some ⟨g6jn, 5, none⟩))] (fun a8t9 h8ta => ?_)
        refine WL.oq h8ta rfl ?_
        refine owp_rn (.int .u32 ((gt z45 p1 x6iv).f5)) h8ta rfl (run_load1 rfl rfl Try.underlying25 rfl (hS6kb.cell (i := 5) rfl)) (fun a8tb h8tc => ?_)
        have hS8td := hS6kb.b2
        obtain ⟨r8tf, r8tg, A8te, H⟩ := bind2 H
        refine WL.oq h8tc rfl ?_
        refine owp_call [(pt g6hy), .int .u32 ((gt z45 p1 x6iv).f1), .int .u32 ((gt z45 p1 x6iv).f5)] h8tc rfl (by kernel_rfl) rfl Try.func19 (by kernel_rfl) rfl (by kernel_rfl) (turns_Ring_Grow.calls kk6iy hr6io A8te hS8td) (fun e8ti W8th hp8tj => ?_)
        obtain ⟨M8tm, rfl, hr8tn, hS8to⟩ := hp8tj
        refine ⟨_, rfl, fun a8tk h8tl => ?_⟩
        refine WL.bl 1 7 h8tl [(184, .agg #[.int .u8 0, .int .u32 0])] (fun a8tp h8tq => ?_)
        refine WL.oq h8tq rfl ?_
        refine owp_rn (.bool (decide (r8tf.f0 = 0) && decide (r8tf.f1 = 0))) h8tq rfl (run_steq (xs := [.int .u8 r8tf.f0, .int .u32 r8tf.f1]) (ys := [.int .u8 0, .int .u32 0]) rfl rfl rfl (by kernel_rfl) (eqs_of Try.underlying50 (by kernel_rfl) (eqf_cons rfl (by kernel_rfl) rfl rfl (eqi_int Try.underlying5) (eqf_last rfl (by kernel_rfl) rfl rfl (eqi_int Try.underlying25))))) (fun a8tr h8ts => ?_)
        refine WL.dn ?_
        clear h8t3 a8t2 h8t6 a8t5 h8t8 a8t7 h8ta a8t9 h8tc a8tb h8tl a8tk h8tq a8tp
        by_cases c8tt : (decide (r8tf.f0 = 0) && decide (r8tf.f1 = 0)) = true
        ·rw [if_pos c8tt] at H
         have hb_ : (decide (r8tf.f0 = 0) && decide (r8tf.f1 = 0)) = true := c8tt
         try rw [hb_] at h8ts
         clear hb_
         refine wp_then h8ts rfl ?_
         refine wp_seq ?_
         refine WL.start ?_
         refine WL.bl 1 1 h8ts [(186, .pointer (some ⟨g6jn, 1, none⟩))] (fun a8tu h8tv => ?_)
         have hS8tw := hS8to.b1
         refine WL.oq h8tv rfl ?_
         refine owp_rn (.int .u32 ((gt z45 p1 x6iv).f1)) h8tv rfl (run_load1 rfl rfl Try.underlying25 rfl (hS8tw.cell (i := 1) rfl)) (fun a8tx h8ty => ?_)
         refine WL.bl 1 3 h8ty [(188, .bool (decide (((gt z45 p1 x6iv).f1) = 0)))] (fun a8tz h8u0 => ?_)
         refine WL.dn ?_
         clear h8ts a8tr h8tv a8tu h8ty a8tx
         by_cases c8u1 : ((gt z45 p1 x6iv).f1) = 0
         ·rw [if_pos c8u1] at H
          have hb_ : (decide (((gt z45 p1 x6iv).f1) = 0)) = true := decide_eq_true c8u1
          try rw [hb_] at h8u0
          clear hb_
          refine wp_then h8u0 rfl ?_
          refine WL.start ?_
          refine WL.bl 2 2 h8u0 [(190, .pointer (some ⟨g6jn, 5, none⟩)), (189, i6 x6ip)] (fun a8u2 h8u3 => ?_)
          refine WL.oq h8u3 rfl ?_
          refine owp_rn (.int .u32 ((gt z45 p1 x6iv).f5)) h8u3 rfl (run_load1 rfl rfl Try.underlying25 rfl (hS8tw.cell (i := 5) rfl)) (fun a8u4 h8u5 => ?_)
          refine WL.bl 3 6 h8u5 [(6, i6 (IntKind.i64.wrap (x6ip + (IntKind.i64.wrap ((gt z45 p1 x6iv).f5))))), (193, i6 (IntKind.i64.wrap (x6ip + (IntKind.i64.wrap ((gt z45 p1 x6iv).f5))))), (192, i6 (IntKind.i64.wrap ((gt z45 p1 x6iv).f5)))] (fun a8u6 h8u7 => ?_)
          refine WL.dn ?_
          refine WL.start ?_
          refine WL.bl 2 2 h8u7 [(27, i6 (IntKind.i64.wrap (x6iv + 1))), (207, i6 (IntKind.i64.wrap (x6iv + 1)))] (fun a8u8 h8u9 => ?_)
          refine WL.dn ?_
          have hS8ua := hS8tw.drop_
          exact ⟨kk6iy, by omega, r8tg, M8tm, IntKind.i64.wrap (x6ip + (IntKind.i64.wrap ((gt z45 p1 x6iv).f5))), x6iq, A6ir, c6is, M6it, IntKind.i64.wrap (x6iv + 1), h8u9.keep ⟨rfl, rfl, rfl, rfl, rfl, rfl, trivial⟩, ⟨H⟩, ⟨by omega⟩, ⟨hS8ua⟩, ⟨hr8tn⟩, ⟨hr6iu⟩⟩
         ·rw [if_neg c8u1] at H
          have hb_ : (decide (((gt z45 p1 x6iv).f1) = 0)) = false := decide_eq_false c8u1
          try rw [hb_] at h8u0
          clear hb_
          refine wp_else h8u0 rfl ?_
          refine wp_seq ?_
          refine WL.start ?_
          refine WL.bl 2 2 h8u0 [(195, .bool (decide (r6jz ≥ 0))), (194, i6 r6jz)] (fun a8ub h8uc => ?_)
          refine WL.dn ?_
          clear h8u0 a8tz
          by_cases c8ud : r6jz ≥ 0
          ·rw [if_pos c8ud] at H
           have hb_ : (decide (r6jz ≥ 0)) = true := decide_eq_true c8ud
           try rw [hb_] at h8uc
           clear hb_
           refine wp_then h8uc rfl ?_
           refine WT.start 11 (fun w_ => (∀ a_ u_, Kn b w0 (M6it ++ R) a_ u_ → w_.cell? a_ = some u_) ∧ (w_.cell? ⟨g6jn, 5, none⟩ = some (.int .u32 ((gt z45 p1 x6iv).f5))) ∧ True) (by kernel_rfl) #[false, false, false, false, false, false, false, false, false, false, false, false] 12 rfl rfl ?_
           have hS8xo := hS8tw.drew
           refine WT.tk 0 h8uc rfl rfl (.slice A6ir x6iq.length c6is) (fun _ _ => by kernel_rfl) ⟨(fun _ _ hk_ => (hS8xo.bring 2 rfl rfl).pool.kn hk_), (hS8xo.cell (i := 5) rfl), trivial⟩ (fun a8xp s8xr h8xq => ?_)
           refine WT.tk 1 h8xq rfl rfl (i6 r6jz) (fun _ _ => by kernel_rfl) s8xr (fun a8xs s8xu h8xt => ?_)
           refine WT.tk 5 h8xt rfl rfl (.pointer (some ⟨g6jn, 5, none⟩)) (fun _ _ => by kernel_rfl) s8xu (fun a8xv s8xx h8xw => ?_)
           clear h8uc a8ub h8xq a8xp h8xt a8xs
           by_cases c8xy : 0 ≤ r6jz
           ·rw [if_pos c8xy] at H
            by_cases c8xz : r6jz < (x6iq.length : Int)
            ·rw [if_pos c8xz] at H
             have hi8y2 : 0 ≤ r6jz := by first | assumption | omega
             have hi8y3 : r6jz < (x6iq.length : Int) := by first | assumption | omega
             obtain ⟨ad8y0, _, ha8y1, -, -⟩ := Rds.elemAny hr6iu.rds hi8y2 (gt_get (z := z48) hi8y2 hi8y3)
             refine WT.tk 2 h8xw rfl rfl (.pointer (some (ad8y0.add (r6jz.toNat * 4)))) (fun w_ hs_ => (run_idx (ad := ad8y0) (sz := 4) rfl (by rw [← ha8y1]; rfl) rfl Try.underlying43 (by kernel_rfl) hi8y2 hi8y3)) s8xx (fun a8y4 s8y6 h8y5 => ?_)
             refine WT.tk 3 h8y5 rfl rfl (.pointer (some ((ad8y0.add (r6jz.toNat * 4)).add 3))) (fun _ _ => by kernel_rfl) s8y6 (fun a8y7 s8y9 h8y8 => ?_)
             obtain ⟨ad8ya, cs8yb, ha8yc, hr8ye, hc8yd⟩ := Rds.elemAny hr6iu.rds hi8y2 (gt_get (z := z48) hi8y2 hi8y3)
             rw [ha8y1] at ha8yc; obtain rfl := Option.some.inj ha8yc
             obtain rfl := k48qrd hr8ye
             refine WT.tk 4 h8y8 rfl rfl (i6 ((gt z48 x6iq r6jz).f3)) (fun w_ hs_ => (run_load1 rfl rfl Try.underlying2 rfl (hc8yd _ hs_.1 3 _ rfl))) s8y9 (fun a8yf s8yh h8yg => ?_)
             refine WT.tk 6 h8yg rfl rfl (.int .u32 ((gt z45 p1 x6iv).f5)) (fun w_ hs_ => (run_load1 rfl rfl Try.underlying25 rfl hs_.2.1)) s8yh (fun a8yi s8yk h8yj => ?_)
             refine WT.tk 7 h8yj rfl rfl (i6 (IntKind.i64.wrap ((gt z45 p1 x6iv).f5))) (fun _ _ => by kernel_rfl) s8yk (fun a8yl s8yn h8ym => ?_)
             refine WT.tk 8 h8ym rfl rfl (i6 (IntKind.i64.wrap (((gt z48 x6iq r6jz).f3) + (IntKind.i64.wrap ((gt z45 p1 x6iv).f5))))) (fun _ _ => by kernel_rfl) s8yn (fun a8yo s8yq h8yp => ?_)
             have hi8yt : 0 ≤ r6jz := by first | assumption | omega
             have hi8yu : r6jz < (x6iq.length : Int) := by first | assumption | omega
             obtain ⟨ad8yr, _, ha8ys, -, -⟩ := Rds.elemAny hr6iu.rds hi8yt (gt_get (z := z48) hi8yt hi8yu)
             refine WT.o1 9 h8yp rfl ?_
             refine owp_rn (.pointer (some (ad8yr.add (r6jz.toNat * 4)))) h8yp rfl (run_idx (ad := ad8yr) (sz := 4) rfl (by rw [← ha8ys]; rfl) rfl Try.underlying43 (by kernel_rfl) hi8yt hi8yu) (fun a8yv h8yw => ?_)
             refine ⟨.inr ⟨(fun _ _ hk_ => (hS8xo.bring 2 rfl rfl).pool.kn hk_), (hS8xo.cell (i := 5) rfl), trivial⟩, ?_⟩
             refine WT.tk 10 h8yw rfl rfl (.pointer (some ((ad8yr.add (r6jz.toNat * 4)).add 3))) (fun _ _ => by kernel_rfl) ⟨(fun _ _ hk_ => (hS8xo.bring 2 rfl rfl).pool.kn hk_), (hS8xo.cell (i := 5) rfl), trivial⟩ (fun a8yx s8yz h8yy => ?_)
             have hS8z0 := hS8xo.b2
             refine WT.o1 11 h8yy rfl ?_
             refine owp_setelem (j := 3) (vs := [i6 (IntKind.i64.wrap (((gt z48 x6iq r6jz).f3) + (IntKind.i64.wrap ((gt z45 p1 x6iv).f5))))]) (x' := (⟨(gt z48 x6iq r6jz).f0, (gt z48 x6iq r6jz).f1, (gt z48 x6iq r6jz).f2, IntKind.i64.wrap (((gt z48 x6iq r6jz).f3) + (IntKind.i64.wrap ((gt z45 p1 x6iv).f5)))⟩ : S48)) h8yy rfl (by kernel_rfl) rfl rfl rfl rfl (by simp [Value.oneCell']) (by kernel_rfl) ha8ys hr6iu hS8z0 hi8yt (gt_get (z := z48) hi8yt hi8yu) (by simp only [List.length_cons, List.length_nil]; decide) (by intro cs_ Mx_ hr_; obtain ⟨rfl, rfl⟩ := k48qrep hr_; obtain ⟨_, hk_, rfl⟩ := k48qmk (b := b) (w0 := w0) (R := R) (x := (⟨(gt z48 x6iq r6jz).f0, (gt z48 x6iq r6jz).f1, (gt z48 x6iq r6jz).f2, IntKind.i64.wrap (((gt z48 x6iq r6jz).f3) + (IntKind.i64.wrap ((gt z45 p1 x6iv).f5)))⟩ : S48)); exact hk_) (fun a8z1 W8z3 M8z4 h8z2 hr8z5 hS8z6 => ?_)
             obtain ⟨y8z7, hy8z8, H⟩ := lete H
             have hl8z9 : y8z7.length = x6iq.length := by simp [hy8z8]
             have hr8za : Row k48 48 b w0 R (.slice A6ir y8z7.length c6is) y8z7 M8z4 := by rw [hl8z9]; rw [hy8z8]; exact hr8z5
             have h8zb : Hd a8z1 209 [(5, pt g6hy), (6, i6 x6ip), (7, .slice A6ir y8z7.length c6is), (9, pt g6jn), (10, i6 r6jz), (25, .slice A1 p1.length c1), (26, i6 (p1.length : Int)), (27, i6 x6iv), (28, .bool true), (29, .pointer (some (ad6j3.add (x6iv.toNat * 7)))), (30, .agg #[i6 ((gt z45 p1 x6iv).f0), .int .u32 ((gt z45 p1 x6iv).f1), i6 ((gt z45 p1 x6iv).f2), .slice A6jg ((gt z45 p1 x6iv).f3).length c6jh, .bool ((gt z45 p1 x6iv).f4), .int .u32 ((gt z45 p1 x6iv).f5), .int .u32 ((gt z45 p1 x6iv).f6)]), (31, .slice A6ir y8z7.length c6is), (32, .pointer (some ⟨g6jn, 1, none⟩)), (33, .int .u32 ((gt z45 p1 x6iv).f1)), (34, i6 r6jz), (35, pt g6jn), (36, i6 ((gt z45 p1 x6iv).f0)), (41, .bool false), (42, .bool false), (65, .bool false), (66, .bool false), (88, .bool false), (89, .bool false), (176, .bool true), (177, .bool true), (178, pt g6hy), (179, .pointer (some ⟨g6jn, 1, none⟩)), (180, .int .u32 ((gt z45 p1 x6iv).f1)), (181, .pointer (some ⟨g6jn, 5, none⟩)), (182, .int .u32 ((gt z45 p1 x6iv).f5)), (183, .agg #[.int .u8 r8tf.f0, .int .u32 r8tf.f1]), (184, .agg #[.int .u8 0, .int .u32 0]), (185, .bool true), (186, .pointer (some ⟨g6jn, 1, none⟩)), (187, .int .u32 ((gt z45 p1 x6iv).f1)), (188, .bool false), (194, i6 r6jz), (195, .bool true), (196, .slice A6ir y8z7.length c6is), (197, i6 r6jz), (198, .pointer (some (ad8y0.add (r6jz.toNat * 4)))), (199, .pointer (some ((ad8y0.add (r6jz.toNat * 4)).add 3))), (200, i6 ((gt z48 x6iq r6jz).f3)), (201, .pointer (some ⟨g6jn, 5, none⟩)), (202, .int .u32 ((gt z45 p1 x6iv).f5)), (203, i6 (IntKind.i64.wrap ((gt z45 p1 x6iv).f5))), (204, i6 (IntKind.i64.wrap (((gt z48 x6iq r6jz).f3) + (IntKind.i64.wrap ((gt z45 p1 x6iv).f5))))), (205, .pointer (some (ad8yr.add (r6jz.toNat * 4)))), (206, .pointer (some ((ad8yr.add (r6jz.toNat * 4)).add 3)))] := h8z2.keep ⟨rfl, rfl, (by rw [hl8z9] <;> rfl), rfl, rfl, rfl, rfl, rfl, rfl, rfl, rfl, (by rw [hl8z9] <;> rfl), rfl, rfl, rfl, rfl, rfl, rfl, rfl, rfl, rfl, rfl, rfl, rfl, rfl, rfl, rfl, rfl, rfl, rfl, rfl, rfl, rfl, rfl, rfl, rfl, rfl, rfl, (by rw [hl8z9] <;> rfl), rfl, rfl, rfl, rfl, rfl, rfl, rfl, rfl, rfl, rfl, trivial⟩
             clear h8z2
             refine ⟨.inl (by decide), ?_⟩
             refine WT.dn ?_
             refine WL.start ?_
             refine WL.bl 2 2 h8zb [(27, i6 (IntKind.i64.wrap (x6iv + 1))), (207, i6 (IntKind.i64.wrap (x6iv + 1)))] (fun a8zc h8zd => ?_)
             refine WL.dn ?_
             have hS8ze := hS8z6.b1
             have hS8zf := hS8ze.drop_
             have hS8zg := hS8zf.b1
             exact ⟨kk6iy, by omega, r8tg, M8tm, x6ip, y8z7, A6ir, c6is, M8z4, IntKind.i64.wrap (x6iv + 1), h8zd.keep ⟨rfl, rfl, rfl, rfl, rfl, rfl, trivial⟩, ⟨H⟩, ⟨by omega⟩, ⟨hS8zg⟩, ⟨hr8tn⟩, ⟨hr8za⟩⟩
            ·rw [if_neg c8xz] at H
             cases H
           ·rw [if_neg c8xy] at H
            cases H
          ·rw [if_neg c8ud] at H
           have hb_ : (decide (r6jz ≥ 0)) = false := decide_eq_false c8ud
           try rw [hb_] at h8uc
           clear hb_
           refine wp_else h8uc rfl ?_
           refine wp_skip ?_
           refine WL.start ?_
           refine WL.bl 2 2 h8uc [(27, i6 (IntKind.i64.wrap (x6iv + 1))), (207, i6 (IntKind.i64.wrap (x6iv + 1)))] (fun a8zh h8zi => ?_)
           refine WL.dn ?_
           have hS8zj := hS8tw.drop_
           exact ⟨kk6iy, by omega, r8tg, M8tm, x6ip, x6iq, A6ir, c6is, M6it, IntKind.i64.wrap (x6iv + 1), h8zi.keep ⟨rfl, rfl, rfl, rfl, rfl, rfl, trivial⟩, ⟨H⟩, ⟨by omega⟩, ⟨hS8zj⟩, ⟨hr8tn⟩, ⟨hr6iu⟩⟩
        ·rw [if_neg c8tt] at H
         have hb_ : (decide (r8tf.f0 = 0) && decide (r8tf.f1 = 0)) = false := (Bool.eq_false_iff.2 c8tt)
         try rw [hb_] at h8ts
         clear hb_
         refine wp_else h8ts rfl ?_
         refine wp_skip ?_
         refine WL.start ?_
         refine WL.bl 2 2 h8ts [(27, i6 (IntKind.i64.wrap (x6iv + 1))), (207, i6 (IntKind.i64.wrap (x6iv + 1)))] (fun a8zk h8zl => ?_)
         refine WL.dn ?_
         have hS8zm := hS8to.b1
         have hS8zn := hS8zm.drop_
         exact ⟨kk6iy, by omega, r8tg, M8tm, x6ip, x6iq, A6ir, c6is, M6it, IntKind.i64.wrap (x6iv + 1), h8zl.keep ⟨rfl, rfl, rfl, rfl, rfl, rfl, trivial⟩, ⟨H⟩, ⟨by omega⟩, ⟨hS8zn⟩, ⟨hr8tn⟩, ⟨hr6iu⟩⟩
       ·rw [if_neg c8t4] at H
        have hb_ : (decide (((gt z45 p1 x6iv).f0) = 3)) = false := decide_eq_false c8t4
        try rw [hb_] at h8t3
        clear hb_
        refine wp_else h8t3 rfl ?_
        refine WL.start ?_
        refine WL.bl 2 2 h8t3 [(38, .pointer (some ⟨g6jn, 1, none⟩)), (37, pt g6hy)] (fun a8zo h8zp => ?_)
        refine WL.oq h8zp rfl ?_
        refine owp_rn (.int .u32 ((gt z45 p1 x6iv).f1)) h8zp rfl (run_load1 rfl rfl Try.underlying25 rfl (hS6kb.cell (i := 1) rfl)) (fun a8zq h8zr => ?_)
        have hS8zs := hS6kb.b2
        obtain ⟨r8zu, A8zt, H⟩ := bind1 H
        refine WL.oq h8zr rfl ?_
        refine owp_call [(pt g6hy), .int .u32 ((gt z45 p1 x6iv).f1)] h8zr rfl (by kernel_rfl) rfl Try.func20 (by kernel_rfl) rfl (by kernel_rfl) (turns_Ring_Drop.calls kk6iy hr6io A8zt hS8zs) (fun e8zw W8zv hp8zx => ?_)
        obtain ⟨M900, rfl, hr901, hS902⟩ := hp8zx
        refine ⟨_, rfl, fun a8zy h8zz => ?_⟩
        refine WL.dn ?_
        refine WL.start ?_
        refine WL.bl 2 2 h8zz [(27, i6 (IntKind.i64.wrap (x6iv + 1))), (207, i6 (IntKind.i64.wrap (x6iv + 1)))] (fun a903 h904 => ?_)
        refine WL.dn ?_
        have hS905 := hS902.b1
        have hS906 := hS905.drop_
        exact ⟨kk6iy, by omega, r8zu, M900, x6ip, x6iq, A6ir, c6is, M6it, IntKind.i64.wrap (x6iv + 1), h904.keep ⟨rfl, rfl, rfl, rfl, rfl, rfl, trivial⟩, ⟨H⟩, ⟨by omega⟩, ⟨hS906⟩, ⟨hr901⟩, ⟨hr6iu⟩⟩
   ·rw [if_neg c6j2] at H
    cases H
  ·rw [if_neg c6j1] at H
   have hb_ : (decide (x6iv < (p1.length : Int))) = false := decide_eq_false c6j1
   try rw [hb_] at h6j0
   clear hb_
   refine wp_else h6j0 rfl ?_
   refine wp_exit ?_
   refine wp_seq ?_
   refine WL.start ?_
   obtain ⟨r908, A907, H⟩ := bind1 H
   refine WL.oq h6j0 rfl ?_
   refine owp_call [] h6j0 rfl (by kernel_rfl) rfl Try.func12 (by kernel_rfl) rfl (by kernel_rfl) (louverlaw13qfixed.calls kk6iy  A907 hS6ik) (fun e90a W909 hp90b => ?_)
   obtain ⟨rfl, hS90e⟩ := hp90b
   refine ⟨_, rfl, fun a90c h90d => ?_⟩
   refine WL.bl 1 2 h90d [(4, .bool r908)] (fun a90f h90g => ?_)
   refine WL.dn ?_
   refine wp_ret ?_
   have hS90h := hS90e.drop_
   have hS90i := hS90h.drop_
   obtain rfl := Option.some.inj H
   repeat (first | with_reducible refine t1 ?_ | with_reducible refine t2 ?_ | with_reducible refine t3 ?_)
   refine bret (.bool r908) h90g ?_
   exact ⟨rfl, hS90i⟩
end Go.Proofs.Ytikfpmieadfllaa.Sl
