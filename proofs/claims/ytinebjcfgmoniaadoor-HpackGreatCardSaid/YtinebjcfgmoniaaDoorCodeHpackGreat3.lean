/- What the functions of this program compute, told as plain functions, and that the calls come to just that. Printed by this session's program; part 3. -/
import Derived.Test.YtinebjcfgmoniaaDoorCodeHpackGreat2
set_option linter.unusedVariables false
set_option linter.unusedSimpArgs false
set_option linter.unnecessarySimpa false
namespace Go.Proofs.YtinebjcfgmoniaaDoor.Sl
open Go Go.RowKit Go.Proofs.Sl
/-! ### louver/louverlaw06.HpackGreat -/
def louverlaw06qHpackGreat.f (k : Nat) (p0 : (List UInt8)) (p1 : Int) : Option (Bool) := if (p0.length : Int) > 100 then (bnd1 (louverlaw06qfixed.f k) fun r18q => (some r18q)) else (if 0 ≤ (IntKind.i64.wrap ((IntKind.i64.wrap ((IntKind.i64.wrap (4064 - (p0.length : Int))) - 50)) + (Int.tmod (IntKind.i64.wrap p1) 100))) then (if (IntKind.i64.wrap ((IntKind.i64.wrap ((IntKind.i64.wrap (4064 - (p0.length : Int))) - 50)) + (Int.tmod (IntKind.i64.wrap p1) 100))) * 1 ≤ 140737488355328 then (lt1 (List.replicate (IntKind.i64.wrap ((IntKind.i64.wrap ((IntKind.i64.wrap (4064 - (p0.length : Int))) - 50)) + (Int.tmod (IntKind.i64.wrap p1) 100))).toNat (0 : Int) : List Int) fun y19c => (bnd1 (hpack_NewDecoder.f 4096) fun r19v => (bnd1 (hpack_NewEncoder.f 4096) fun r1a7 => (bnd2 (hpack_Encoder_Put.f k r1a7 ([(⟨p0, toS y19c, true⟩ : S52)] : List S52)) fun r1am r1an => (bnd3 (hpack_Decoder_Get.f k r19v r1am) fun r1b5 r1b6 r1b7 => (if 0 < (([(⟨p0, toS y19c, true⟩ : S52)] : List S52).length : Int) then (bnd1 (louverref05qSize.f (⟨(gt z52 ([(⟨p0, toS y19c, true⟩ : S52)] : List S52) (0 : Int)).f0, (gt z52 ([(⟨p0, toS y19c, true⟩ : S52)] : List S52) (0 : Int)).f1, (gt z52 ([(⟨p0, toS y19c, true⟩ : S52)] : List S52) (0 : Int)).f2⟩ : S52)) fun r1ch => (if r1ch > 4096 then (bnd1 (louverlaw06qfixed.f k) fun r1cs => (if r1cs = true then (if (decide (r1b6.f0 = 1) && decide (r1b6.f1 = 11)) = true then (some (decide ((r1b5.length : Int) = 0))) else (some false)) else (some false))) else (bnd1 (louverlaw06qfixed.f k) fun r1eu => (if r1eu = true then (if (decide (r1b6.f0 = 0) && decide (r1b6.f1 = 0)) = true then (bnd1 (louverref06qSame.f k r1b5 ([(⟨p0, toS y19c, true⟩ : S52)] : List S52)) fun r1fl => (some r1fl)) else (some false)) else (some false))))) else (none))))))) else (none)) else (none))
set_option maxHeartbeats 20000000 in
set_option maxRecDepth 100000 in
theorem louverlaw06qHpackGreat.calls (k : Nat) {b : Nat} {w0 W : World} {R : Frag} {Fs : List Frag} {p0 : (List UInt8)} {p1 : Int}  {r0q : Bool} (hg0 : Rds k52 b w0 [] (.slice (some ⟨0, 0, none⟩) 61 61) G0) (hg1 : Rds (kInt .u8) b w0 [] (.slice (some ⟨1, 0, none⟩) 257 257) G1) (H : louverlaw06qHpackGreat.f k p0 p1 = some r0q) (hS : St b w0 W R (Fs)) :
  Calls Tryd.prog 7 ([.string (mkS p0), .int .u16 p1] : List Value).toArray W (fun e W' => e = .returned (.bool r0q) ∧ St b w0 W' R (Fs)) := by
 unfold louverlaw06qHpackGreat.f at H
 refine calls_enter Tryd.func7 rfl 62 rfl (by kernel_rfl) (fun a h => ?_)
 refine wp_seq ?_
 refine WL.start ?_
 refine WL.bl 1 1 h [(4, .bool false)] (fun a18k h18l => ?_)
 refine WL.dn ?_
 refine wp_seq ?_
 refine wp_seq ?_
 refine WL.start ?_
 refine WL.bl 3 3 h18l [(11, .bool (decide ((p0.length : Int) > 100))), (10, i6 (p0.length : Int)), (9, .string (mkS p0))] (fun a18m h18n => ?_)
 refine WL.dn ?_
 clear h18l a18k
 by_cases c18o : (p0.length : Int) > 100
 ·rw [if_pos c18o] at H
  have hb_ : (decide ((p0.length : Int) > 100)) = true := decide_eq_true c18o
  try rw [hb_] at h18n
  clear hb_
  refine wp_then h18n rfl ?_
  refine wp_seq ?_
  refine WL.start ?_
  obtain ⟨r18q, A18p, H⟩ := bind1 H
  refine WL.oq h18n rfl ?_
  refine owp_call [] h18n rfl (by kernel_rfl) rfl Tryd.func10 (by kernel_rfl) rfl (by kernel_rfl) (louverlaw06qfixed.calls k hg0 hg1 A18p hS) (fun e18s W18r hp18t => ?_)
  obtain ⟨rfl, hS18w⟩ := hp18t
  refine ⟨_, rfl, fun a18u h18v => ?_⟩
  refine WL.bl 1 2 h18v [(4, .bool r18q)] (fun a18x h18y => ?_)
  refine WL.dn ?_
  refine wp_ret ?_
  obtain rfl := Option.some.inj H
  repeat (first | with_reducible refine t1 ?_ | with_reducible refine t2 ?_ | with_reducible refine t3 ?_)
  refine bret (.bool r18q) h18y ?_
  exact ⟨rfl, hS18w⟩
 ·rw [if_neg c18o] at H
  have hb_ : (decide ((p0.length : Int) > 100)) = false := decide_eq_false c18o
  try rw [hb_] at h18n
  clear hb_
  refine wp_else h18n rfl ?_
  refine wp_skip ?_
  refine wp_seq ?_
  refine WL.start ?_
  refine WL.bl 9 9 h18n [(5, i6 (IntKind.i64.wrap ((IntKind.i64.wrap ((IntKind.i64.wrap (4064 - (p0.length : Int))) - 50)) + (Int.tmod (IntKind.i64.wrap p1) 100)))), (20, i6 (IntKind.i64.wrap ((IntKind.i64.wrap ((IntKind.i64.wrap (4064 - (p0.length : Int))) - 50)) + (Int.tmod (IntKind.i64.wrap p1) 100)))), (19, i6 (Int.tmod (IntKind.i64.wrap p1) 100)), (18, i6 (IntKind.i64.wrap p1)), (17, .int .u16 p1), (16, i6 (IntKind.i64.wrap ((IntKind.i64.wrap (4064 - (p0.length : Int))) - 50))), (15, i6 (IntKind.i64.wrap (4064 - (p0.length : Int)))), (14, i6 (p0.length : Int)), (13, .string (mkS p0))] (fun a18z h190 => ?_)
  refine WL.dn ?_
  refine wp_seq ?_
  refine WL.start ?_
  refine WL.bl 2 2 h190 [(22, i6 (IntKind.i64.wrap ((IntKind.i64.wrap ((IntKind.i64.wrap (4064 - (p0.length : Int))) - 50)) + (Int.tmod (IntKind.i64.wrap p1) 100)))), (21, .string (mkS p0))] (fun a191 h192 => ?_)
  clear h18n a18m h190 a18z
  by_cases c193 : 0 ≤ (IntKind.i64.wrap ((IntKind.i64.wrap ((IntKind.i64.wrap (4064 - (p0.length : Int))) - 50)) + (Int.tmod (IntKind.i64.wrap p1) 100)))
  ·rw [if_pos c193] at H
   by_cases c194 : (IntKind.i64.wrap ((IntKind.i64.wrap ((IntKind.i64.wrap (4064 - (p0.length : Int))) - 50)) + (Int.tmod (IntKind.i64.wrap p1) 100))) * 1 ≤ 140737488355328
   ·rw [if_pos c194] at H
    refine WL.oq h192 rfl ?_
    refine owp_make' (z := .int .u8 0) (z0 := (0 : Int)) (bytes := 1) (dk := (kInt .u8)) h192 rfl (by kernel_rfl) rfl rfl rfl Tryd.underlying22 (by kernel_rfl) rfl (by decide) ⟨rfl, rfl⟩ hS (by first | assumption | omega) (by first | assumption | omega) (by omega) (fun a195 W197 v198 M199 h196 hr19a hS19b => ?_)
    obtain ⟨y19c, hy19d, H⟩ := lete H
    have hr19e : Row (kInt .u8) 5 b w0 R v198 y19c M199 := by rw [hy19d]; exact hr19a
    clear hr19a
    obtain ⟨A19f, c19g, rfl⟩ := hr19e.form
    refine WL.oq h196 rfl ?_
    refine owp_rn (.string (mkS (toS y19c))) h196 rfl (run_tostr rfl rfl hr19e.rds (fun _ _ hk_ => (hS19b).pool.kn hk_) Tryd.underlying22 Tryd.underlying5 Tryd.underlying9) (fun a19h h19i => ?_)
    refine WL.bl 1 5 h19i [(25, .agg #[.string (mkS p0), .string (mkS (toS y19c)), .bool true])] (fun a19j h19k => ?_)
    obtain ⟨_, hrep_, hMe_⟩ := k52qmk (b := b) (w0 := w0) (R := R) (x := (⟨p0, toS y19c, true⟩ : S52)) 
    subst hMe_
    have hq19l := hrep_; clear hrep_
    refine WL.oq h19k rfl ?_
    refine owp_nw (fun g_ => .slice (some ⟨g_, 0, none⟩) 1 1) (.cells ([.string (mkS p0), .string (mkS (toS y19c)), .bool true] : List Value).toArray 52 (0, 0)) h19k rfl hS19b (fun a19m W19o g19p h19n hS19q => ?_)
    have hr19r : Row k52 52 b w0 R (.slice (some ⟨g19p, 0, none⟩) 1 1) ([(⟨p0, toS y19c, true⟩ : S52)] : List S52) (bx g19p 52 [.string (mkS p0), .string (mkS (toS y19c)), .bool true]) := Row.lit (xs := ([(⟨p0, toS y19c, true⟩ : S52)] : List S52)) (Mi := []) ⟨_, _, [], _, rfl, rfl, hq19l, ⟨rfl, rfl⟩⟩ (by simp [maxLen])
    refine WL.bl 1 7 h19n [(6, .slice (some ⟨g19p, 0, none⟩) 1 1)] (fun a19s h19t => ?_)
    refine WL.dn ?_
    refine wp_seq ?_
    refine WL.start ?_
    obtain ⟨r19v, A19u, H⟩ := bind1 H
    refine WL.oq h19t rfl ?_
    refine owp_call [.int .u32 4096] h19t rfl (by kernel_rfl) rfl Tryd.func18 (by kernel_rfl) rfl (by kernel_rfl) (hpack_NewDecoder.calls  A19u hS19q) (fun e19x W19w hp19y => ?_)
    obtain ⟨v1a1, M1a2, rfl, hr1a3, hS1a4⟩ := hp19y
    refine ⟨_, rfl, fun a19z h1a0 => ?_⟩
    obtain ⟨g1a5, rfl⟩ := hr1a3.ptr_form
    obtain ⟨r1a7, A1a6, H⟩ := bind1 H
    refine WL.oq h1a0 rfl ?_
    refine owp_call [.int .u32 4096] h1a0 rfl (by kernel_rfl) rfl Tryd.func17 (by kernel_rfl) rfl (by kernel_rfl) (hpack_NewEncoder.calls  A1a6 hS1a4) (fun e1a9 W1a8 hp1aa => ?_)
    obtain ⟨v1ad, M1ae, rfl, hr1af, hS1ag⟩ := hp1aa
    refine ⟨_, rfl, fun a1ab h1ac => ?_⟩
    obtain ⟨g1ah, rfl⟩ := hr1af.ptr_form
    refine WL.bl 1 3 h1ac [(30, .slice (some ⟨g19p, 0, none⟩) 1 1)] (fun a1ai h1aj => ?_)
    have hS1ak := hS1ag.b2
    obtain ⟨r1am, r1an, A1al, H⟩ := bind2 H
    refine WL.oq h1aj rfl ?_
    refine owp_call [(pt g1ah), .slice (some ⟨g19p, 0, none⟩) 1 1] h1aj rfl (by kernel_rfl) rfl Tryd.func13 (by kernel_rfl) rfl (by kernel_rfl) (hpack_Encoder_Put.calls k (hr1af.mono (fun _ hp_ => List.mem_append_right _ hp_)) hr19r.rds hg0 hg1 A1al (hS1ak.pool)) (fun e1ap W1ao hp1aq => ?_)
    obtain ⟨v1at, M1au, M1aw, rfl, hr1av, hr1ax, hS1ay⟩ := hp1aq
    have hS1az : St b w0 W1ao R ((bx g19p 52 [.string (mkS p0), .string (mkS (toS y19c)), .bool true]) :: M1au :: M1aw :: M1a2 :: M199 :: Fs) := hS1ay.unpool
    replace hr1av : Row (kInt .u8) 5 b w0 R v1at r1am M1au := hr1av.ind (kInt_ind _)
    replace hr1ax : Ptr k61 61 b w0 R (pt g1ah) r1an M1aw := hr1ax.ind k61qind
    refine ⟨_, rfl, fun a1ar h1as => ?_⟩
    obtain ⟨A1b0, c1b1, rfl⟩ := hr1av.form
    have hS1b2 := hS1az.b3
    have hS1b3 := hS1b2.b2
    obtain ⟨r1b5, r1b6, r1b7, A1b4, H⟩ := bind3 H
    refine WL.oq h1as rfl ?_
    refine owp_call [(pt g1a5), .slice A1b0 r1am.length c1b1] h1as rfl (by kernel_rfl) rfl Tryd.func12 (by kernel_rfl) rfl (by kernel_rfl) (hpack_Decoder_Get.calls k (hr1a3.mono (fun _ hp_ => List.mem_append_right _ hp_)) hr1av.rds hg0 hg1 A1b4 (hS1b3.pool)) (fun e1b9 W1b8 hp1ba => ?_)
    obtain ⟨v1bd, M1be, M1bg, rfl, hr1bf, hr1bh, hS1bi⟩ := hp1ba
    have hS1bj : St b w0 W1b8 R (M1au :: M1be :: M1bg :: (bx g19p 52 [.string (mkS p0), .string (mkS (toS y19c)), .bool true]) :: M1aw :: M199 :: Fs) := hS1bi.unpool
    replace hr1bf : Row k52 52 b w0 R v1bd r1b5 M1be := hr1bf.ind k52qind
    replace hr1bh : Ptr k64 64 b w0 R (pt g1a5) r1b7 M1bg := hr1bh.ind k64qind
    refine ⟨_, rfl, fun a1bb h1bc => ?_⟩
    obtain ⟨A1bk, c1bl, rfl⟩ := hr1bf.form
    refine WL.bl 3 8 h1bc [(34, .agg #[.int .u8 r1b6.f0, .int .u32 r1b6.f1]), (33, .slice A1bk r1b5.length c1bl), (27, .tuple #[.slice A1bk r1b5.length c1bl, .agg #[.int .u8 r1b6.f0, .int .u32 r1b6.f1]])] (fun a1bm h1bn => ?_)
    refine WL.oq h1bn rfl ?_
    refine owp_nw (fun g_ => (pt g_)) (.cells ([.int .u8 0, .int .u32 0] : List Value).toArray 31 (0, 0)) h1bn rfl hS1bj (fun a1bo W1bq g1br h1bp hS1bs => ?_)
    clear h192 a191 h196 a195 h19i a19h h19k a19j h19n a19m h19t a19s h1a0 a19z h1ac a1ab h1aj a1ai h1as a1ar h1bc a1bb h1bn a1bm
    refine WL.bl 1 10 h1bp [(7, .slice A1bk r1b5.length c1bl)] (fun a1bt h1bu => ?_)
    refine WL.oq h1bu rfl ?_
    refine owp_st 0 [.int .u8 r1b6.f0, .int .u32 r1b6.f1] h1bu rfl rfl rfl hS1bs [.int .u8 r1b6.f0, .int .u32 r1b6.f1] (fun a1bv W1bx h1bw hS1by => ?_)
    refine WL.dn ?_
    refine wp_seq ?_
    refine wp_seq ?_
    refine WL.start ?_
    refine WL.bl 1 1 h1bw [(35, .slice (some ⟨g19p, 0, none⟩) 1 1)] (fun a1bz h1c0 => ?_)
    clear h1bp a1bo h1bu a1bt h1bw a1bv
    by_cases c1c1 : 0 < (([(⟨p0, toS y19c, true⟩ : S52)] : List S52).length : Int)
    ·rw [if_pos c1c1] at H
     have hi1c4 : 0 ≤ (0 : Int) := by first | assumption | omega
     have hi1c5 : 0 < (([(⟨p0, toS y19c, true⟩ : S52)] : List S52).length : Int) := by first | assumption | omega
     obtain ⟨ad1c2, _, ha1c3, -, -⟩ := Rds.elemAny hr19r.rds hi1c4 (gt_get (z := z52) hi1c4 hi1c5)
     refine WL.oq h1c0 rfl ?_
     refine owp_rn (.pointer (some (ad1c2.add ((0 : Int).toNat * 3)))) h1c0 rfl (run_idx (ad := ad1c2) (sz := 3) rfl (by rw [← ha1c3]; rfl) rfl Tryd.underlying23 (by kernel_rfl) hi1c4 hi1c5) (fun a1c6 h1c7 => ?_)
     have hS1c8 := hS1by.b4
     obtain ⟨ad1c9, cs1ca, ha1cb, hr1cd, hc1cc⟩ := Rds.elemAny hr19r.rds hi1c4 (gt_get (z := z52) hi1c4 hi1c5)
     rw [ha1c3] at ha1cb; obtain rfl := Option.some.inj ha1cb
     obtain rfl := k52qrd hr1cd
     refine WL.oq h1c7 rfl ?_
     refine owp_rn (.agg #[.string (mkS ((gt z52 ([(⟨p0, toS y19c, true⟩ : S52)] : List S52) (0 : Int)).f0)), .string (mkS ((gt z52 ([(⟨p0, toS y19c, true⟩ : S52)] : List S52) (0 : Int)).f1)), .bool ((gt z52 ([(⟨p0, toS y19c, true⟩ : S52)] : List S52) (0 : Int)).f2)]) h1c7 rfl (run_loadN rfl rfl Tryd.underlying52 rfl (cs := [.string (mkS ((gt z52 ([(⟨p0, toS y19c, true⟩ : S52)] : List S52) (0 : Int)).f0)), .string (mkS ((gt z52 ([(⟨p0, toS y19c, true⟩ : S52)] : List S52) (0 : Int)).f1)), .bool ((gt z52 ([(⟨p0, toS y19c, true⟩ : S52)] : List S52) (0 : Int)).f2)]) (by kernel_rfl) (hc1cc _ (fun _ _ hk_ => (hS1c8).pool.kn hk_))) (fun a1ce h1cf => ?_)
     obtain ⟨r1ch, A1cg, H⟩ := bind1 H
     refine WL.oq h1cf rfl ?_
     refine owp_call [.agg #[.string (mkS ((gt z52 ([(⟨p0, toS y19c, true⟩ : S52)] : List S52) (0 : Int)).f0)), .string (mkS ((gt z52 ([(⟨p0, toS y19c, true⟩ : S52)] : List S52) (0 : Int)).f1)), .bool ((gt z52 ([(⟨p0, toS y19c, true⟩ : S52)] : List S52) (0 : Int)).f2)]] h1cf rfl (by kernel_rfl) rfl Tryd.func23 (by kernel_rfl) rfl (by kernel_rfl) (louverref05qSize.calls (p0 := (⟨(gt z52 ([(⟨p0, toS y19c, true⟩ : S52)] : List S52) (0 : Int)).f0, (gt z52 ([(⟨p0, toS y19c, true⟩ : S52)] : List S52) (0 : Int)).f1, (gt z52 ([(⟨p0, toS y19c, true⟩ : S52)] : List S52) (0 : Int)).f2⟩ : S52))  A1cg hS1c8) (fun e1cj W1ci hp1ck => ?_)
     obtain ⟨rfl, hS1cn⟩ := hp1ck
     refine ⟨_, rfl, fun a1cl h1cm => ?_⟩
     refine WL.bl 1 5 h1cm [(39, .bool (decide (r1ch > 4096)))] (fun a1co h1cp => ?_)
     refine WL.dn ?_
     clear h1c0 a1bz h1c7 a1c6 h1cf a1ce h1cm a1cl
     by_cases c1cq : r1ch > 4096
     ·rw [if_pos c1cq] at H
      have hb_ : (decide (r1ch > 4096)) = true := decide_eq_true c1cq
      try rw [hb_] at h1cp
      clear hb_
      refine wp_then h1cp rfl ?_
      refine wp_seq ?_
      refine WL.start ?_
      obtain ⟨r1cs, A1cr, H⟩ := bind1 H
      refine WL.oq h1cp rfl ?_
      refine owp_call [] h1cp rfl (by kernel_rfl) rfl Tryd.func10 (by kernel_rfl) rfl (by kernel_rfl) (louverlaw06qfixed.calls k hg0 hg1 A1cr hS1cn) (fun e1cu W1ct hp1cv => ?_)
      obtain ⟨rfl, hS1cy⟩ := hp1cv
      refine ⟨_, rfl, fun a1cw h1cx => ?_⟩
      refine WL.bl 1 2 h1cx [(41, .bool r1cs)] (fun a1cz h1d0 => ?_)
      clear h1cp a1co h1cx a1cw
      by_cases c1d1 : r1cs = true
      ·rw [if_pos c1d1] at H
       have hb_ : r1cs = true := c1d1
       try rw [hb_] at h1d0
       clear hb_
       have hS1d2 := hS1cy.b1
       refine WL.oq h1d0 rfl ?_
       refine owp_rn (.agg #[.int .u8 r1b6.f0, .int .u32 r1b6.f1]) h1d0 rfl (run_loadN rfl rfl Tryd.underlying31 rfl (cs := [.int .u8 r1b6.f0, .int .u32 r1b6.f1]) (by kernel_rfl) (hS1d2.cells (vs := [.int .u8 r1b6.f0, .int .u32 r1b6.f1]) rfl)) (fun a1d3 h1d4 => ?_)
       refine WL.oq h1d4 rfl (owp_rk (.agg #[.int .u8 1, .int .u32 11]) h1d4 rfl (fun a1d5 h1d6 => ?_))
       refine WL.oq h1d6 rfl ?_
       refine owp_rn (.bool (decide (r1b6.f0 = 1) && decide (r1b6.f1 = 11))) h1d6 rfl (run_steq (xs := [.int .u8 r1b6.f0, .int .u32 r1b6.f1]) (ys := [.int .u8 1, .int .u32 11]) rfl rfl rfl (by kernel_rfl) (eqs_of Tryd.underlying31 (by kernel_rfl) (eqf_cons rfl (by kernel_rfl) rfl rfl (eqi_int Tryd.underlying5) (eqf_last rfl (by kernel_rfl) rfl rfl (eqi_int Tryd.underlying29))))) (fun a1d7 h1d8 => ?_)
       refine WL.bl 2 7 h1d8 [(46, .bool (decide (r1b6.f0 = 1) && decide (r1b6.f1 = 11))), (45, .bool (decide (r1b6.f0 = 1) && decide (r1b6.f1 = 11)))] (fun a1d9 h1da => ?_)
       clear h1d0 a1cz h1d4 a1d3 h1d6 a1d5 h1d8 a1d7
       by_cases c1db : (decide (r1b6.f0 = 1) && decide (r1b6.f1 = 11)) = true
       ·rw [if_pos c1db] at H
        have hb_ : (decide (r1b6.f0 = 1) && decide (r1b6.f1 = 11)) = true := c1db
        try rw [hb_] at h1da
        clear hb_
        refine WL.oq h1da rfl (owp_rk (.slice A1bk r1b5.length c1bl) h1da rfl (fun a1dc h1dd => ?_))
        refine WL.oq h1dd rfl (owp_rk (i6 (r1b5.length : Int)) h1dd rfl (fun a1de h1df => ?_))
        refine WL.oq h1df rfl (owp_rk (.bool (decide ((r1b5.length : Int) = 0))) h1df rfl (fun a1dg h1dh => ?_))
        refine WL.bl 2 12 h1dh [(4, .bool (decide ((r1b5.length : Int) = 0))), (50, .bool (decide ((r1b5.length : Int) = 0)))] (fun a1di h1dj => ?_)
        refine WL.dn ?_
        refine wp_ret ?_
        have hS1dk := hS1d2.drop_
        have hS1dl := hS1dk.drop_
        have hS1dm := hS1dl.drop_
        have hS1dn := hS1dm.drop_
        have hS1do := hS1dn.drop_
        have hS1dp := hS1do.drop_
        have hS1dq := hS1dp.drop_
        obtain rfl := Option.some.inj H
        repeat (first | with_reducible refine t1 ?_ | with_reducible refine t2 ?_ | with_reducible refine t3 ?_)
        refine bret (.bool (decide ((r1b5.length : Int) = 0))) h1dj ?_
        exact ⟨rfl, hS1dq⟩
       ·rw [if_neg c1db] at H
        have hb_ : (decide (r1b6.f0 = 1) && decide (r1b6.f1 = 11)) = false := (Bool.eq_false_iff.2 c1db)
        try rw [hb_] at h1da
        clear hb_
        refine WL.sk h1da rfl rfl (fun a1dr h1ds => ?_)
        refine WL.sk h1ds rfl rfl (fun a1dt h1du => ?_)
        refine WL.sk h1du rfl rfl (fun a1dv h1dw => ?_)
        refine WL.bl 2 12 h1dw [(4, .bool false), (50, .bool false)] (fun a1dx h1dy => ?_)
        refine WL.dn ?_
        refine wp_ret ?_
        have hS1dz := hS1d2.drop_
        have hS1e0 := hS1dz.drop_
        have hS1e1 := hS1e0.drop_
        have hS1e2 := hS1e1.drop_
        have hS1e3 := hS1e2.drop_
        have hS1e4 := hS1e3.drop_
        have hS1e5 := hS1e4.drop_
        obtain rfl := Option.some.inj H
        repeat (first | with_reducible refine t1 ?_ | with_reducible refine t2 ?_ | with_reducible refine t3 ?_)
        refine bret (.bool false) h1dy ?_
        exact ⟨rfl, hS1e5⟩
      ·rw [if_neg c1d1] at H
       have hb_ : r1cs = false := (Bool.eq_false_iff.2 c1d1)
       try rw [hb_] at h1d0
       clear hb_
       refine WL.sk h1d0 rfl rfl (fun a1e6 h1e7 => ?_)
       refine WL.sk h1e7 rfl rfl (fun a1e8 h1e9 => ?_)
       refine WL.sk h1e9 rfl rfl (fun a1ea h1eb => ?_)
       refine WL.bl 2 7 h1eb [(46, .bool false), (45, .bool false)] (fun a1ec h1ed => ?_)
       refine WL.sk h1ed rfl rfl (fun a1ee h1ef => ?_)
       refine WL.sk h1ef rfl rfl (fun a1eg h1eh => ?_)
       refine WL.sk h1eh rfl rfl (fun a1ei h1ej => ?_)
       refine WL.bl 2 12 h1ej [(4, .bool false), (50, .bool false)] (fun a1ek h1el => ?_)
       refine WL.dn ?_
       refine wp_ret ?_
       have hS1em := hS1cy.drop_
       have hS1en := hS1em.drop_
       have hS1eo := hS1en.drop_
       have hS1ep := hS1eo.drop_
       have hS1eq := hS1ep.drop_
       have hS1er := hS1eq.drop_
       have hS1es := hS1er.drop_
       obtain rfl := Option.some.inj H
       repeat (first | with_reducible refine t1 ?_ | with_reducible refine t2 ?_ | with_reducible refine t3 ?_)
       refine bret (.bool false) h1el ?_
       exact ⟨rfl, hS1es⟩
     ·rw [if_neg c1cq] at H
      have hb_ : (decide (r1ch > 4096)) = false := decide_eq_false c1cq
      try rw [hb_] at h1cp
      clear hb_
      refine wp_else h1cp rfl ?_
      refine wp_skip ?_
      refine wp_seq ?_
      refine WL.start ?_
      obtain ⟨r1eu, A1et, H⟩ := bind1 H
      refine WL.oq h1cp rfl ?_
      refine owp_call [] h1cp rfl (by kernel_rfl) rfl Tryd.func10 (by kernel_rfl) rfl (by kernel_rfl) (louverlaw06qfixed.calls k hg0 hg1 A1et hS1cn) (fun e1ew W1ev hp1ex => ?_)
      obtain ⟨rfl, hS1f0⟩ := hp1ex
      refine ⟨_, rfl, fun a1ey h1ez => ?_⟩
      refine WL.bl 1 2 h1ez [(52, .bool r1eu)] (fun a1f1 h1f2 => ?_)
      clear h1cp a1co h1ez a1ey
      by_cases c1f3 : r1eu = true
      ·rw [if_pos c1f3] at H
       have hb_ : r1eu = true := c1f3
       try rw [hb_] at h1f2
       clear hb_
       have hS1f4 := hS1f0.b1
       refine WL.oq h1f2 rfl ?_
       refine owp_rn (.agg #[.int .u8 r1b6.f0, .int .u32 r1b6.f1]) h1f2 rfl (run_loadN rfl rfl Tryd.underlying31 rfl (cs := [.int .u8 r1b6.f0, .int .u32 r1b6.f1]) (by kernel_rfl) (hS1f4.cells (vs := [.int .u8 r1b6.f0, .int .u32 r1b6.f1]) rfl)) (fun a1f5 h1f6 => ?_)
       refine WL.oq h1f6 rfl (owp_rk (.agg #[.int .u8 0, .int .u32 0]) h1f6 rfl (fun a1f7 h1f8 => ?_))
       refine WL.oq h1f8 rfl ?_
       refine owp_rn (.bool (decide (r1b6.f0 = 0) && decide (r1b6.f1 = 0))) h1f8 rfl (run_steq (xs := [.int .u8 r1b6.f0, .int .u32 r1b6.f1]) (ys := [.int .u8 0, .int .u32 0]) rfl rfl rfl (by kernel_rfl) (eqs_of Tryd.underlying31 (by kernel_rfl) (eqf_cons rfl (by kernel_rfl) rfl rfl (eqi_int Tryd.underlying5) (eqf_last rfl (by kernel_rfl) rfl rfl (eqi_int Tryd.underlying29))))) (fun a1f9 h1fa => ?_)
       refine WL.bl 2 7 h1fa [(57, .bool (decide (r1b6.f0 = 0) && decide (r1b6.f1 = 0))), (56, .bool (decide (r1b6.f0 = 0) && decide (r1b6.f1 = 0)))] (fun a1fb h1fc => ?_)
       clear h1f2 a1f1 h1f6 a1f5 h1f8 a1f7 h1fa a1f9
       by_cases c1fd : (decide (r1b6.f0 = 0) && decide (r1b6.f1 = 0)) = true
       ·rw [if_pos c1fd] at H
        have hb_ : (decide (r1b6.f0 = 0) && decide (r1b6.f1 = 0)) = true := c1fd
        try rw [hb_] at h1fc
        clear hb_
        refine WL.oq h1fc rfl (owp_rk (.slice A1bk r1b5.length c1bl) h1fc rfl (fun a1fe h1ff => ?_))
        refine WL.oq h1ff rfl (owp_rk (.slice (some ⟨g19p, 0, none⟩) 1 1) h1ff rfl (fun a1fg h1fh => ?_))
        have hS1fi := hS1f4.b1
        have hS1fj := hS1fi.b3
        obtain ⟨r1fl, A1fk, H⟩ := bind1 H
        refine WL.oq h1fh rfl ?_
        refine owp_call [.slice A1bk r1b5.length c1bl, .slice (some ⟨g19p, 0, none⟩) 1 1] h1fh rfl (by kernel_rfl) rfl Tryd.func21 (by kernel_rfl) rfl (by kernel_rfl) (louverref06qSame.calls k (Rds.mono (fun _ hp_ => by simp only [List.mem_append] at hp_ ⊢; first | exact hp_ | (rcases hp_ with hp_ | hp_ <;> simp [hp_])) hr1bf.rds) (Rds.mono (fun _ hp_ => by simp only [List.mem_append] at hp_ ⊢; first | exact hp_ | (rcases hp_ with hp_ | hp_ <;> simp [hp_])) hr19r.rds) A1fk (hS1fj.pool.pool)) (fun e1fn W1fm hp1fo => ?_)
        obtain ⟨rfl, hS1fr⟩ := hp1fo
        have hS1fs : St b w0 W1fm R (M1be :: (bx g19p 52 [.string (mkS p0), .string (mkS (toS y19c)), .bool true]) :: (bx g1br 31 [.int .u8 r1b6.f0, .int .u32 r1b6.f1]) :: M1au :: M1bg :: M1aw :: M199 :: Fs) := hS1fr.unpool.unpool
        refine ⟨_, rfl, fun a1fp h1fq => ?_⟩
        refine WL.bl 2 12 h1fq [(4, .bool r1fl), (61, .bool r1fl)] (fun a1ft h1fu => ?_)
        refine WL.dn ?_
        refine wp_ret ?_
        have hS1fv := hS1fs.drop_
        have hS1fw := hS1fv.drop_
        have hS1fx := hS1fw.drop_
        have hS1fy := hS1fx.drop_
        have hS1fz := hS1fy.drop_
        have hS1g0 := hS1fz.drop_
        have hS1g1 := hS1g0.drop_
        obtain rfl := Option.some.inj H
        repeat (first | with_reducible refine t1 ?_ | with_reducible refine t2 ?_ | with_reducible refine t3 ?_)
        refine bret (.bool r1fl) h1fu ?_
        exact ⟨rfl, hS1g1⟩
       ·rw [if_neg c1fd] at H
        have hb_ : (decide (r1b6.f0 = 0) && decide (r1b6.f1 = 0)) = false := (Bool.eq_false_iff.2 c1fd)
        try rw [hb_] at h1fc
        clear hb_
        refine WL.sk h1fc rfl rfl (fun a1g2 h1g3 => ?_)
        refine WL.sk h1g3 rfl rfl (fun a1g4 h1g5 => ?_)
        refine WL.sk h1g5 rfl rfl (fun a1g6 h1g7 => ?_)
        refine WL.bl 2 12 h1g7 [(4, .bool false), (61, .bool false)] (fun a1g8 h1g9 => ?_)
        refine WL.dn ?_
        refine wp_ret ?_
        have hS1ga := hS1f4.drop_
        have hS1gb := hS1ga.drop_
        have hS1gc := hS1gb.drop_
        have hS1gd := hS1gc.drop_
        have hS1ge := hS1gd.drop_
        have hS1gf := hS1ge.drop_
        have hS1gg := hS1gf.drop_
        obtain rfl := Option.some.inj H
        repeat (first | with_reducible refine t1 ?_ | with_reducible refine t2 ?_ | with_reducible refine t3 ?_)
        refine bret (.bool false) h1g9 ?_
        exact ⟨rfl, hS1gg⟩
      ·rw [if_neg c1f3] at H
       have hb_ : r1eu = false := (Bool.eq_false_iff.2 c1f3)
       try rw [hb_] at h1f2
       clear hb_
       refine WL.sk h1f2 rfl rfl (fun a1gh h1gi => ?_)
       refine WL.sk h1gi rfl rfl (fun a1gj h1gk => ?_)
       refine WL.sk h1gk rfl rfl (fun a1gl h1gm => ?_)
       refine WL.bl 2 7 h1gm [(57, .bool false), (56, .bool false)] (fun a1gn h1go => ?_)
       refine WL.sk h1go rfl rfl (fun a1gp h1gq => ?_)
       refine WL.sk h1gq rfl rfl (fun a1gr h1gs => ?_)
       refine WL.sk h1gs rfl rfl (fun a1gt h1gu => ?_)
       refine WL.bl 2 12 h1gu [(4, .bool false), (61, .bool false)] (fun a1gv h1gw => ?_)
       refine WL.dn ?_
       refine wp_ret ?_
       have hS1gx := hS1f0.drop_
       have hS1gy := hS1gx.drop_
       have hS1gz := hS1gy.drop_
       have hS1h0 := hS1gz.drop_
       have hS1h1 := hS1h0.drop_
       have hS1h2 := hS1h1.drop_
       have hS1h3 := hS1h2.drop_
       obtain rfl := Option.some.inj H
       repeat (first | with_reducible refine t1 ?_ | with_reducible refine t2 ?_ | with_reducible refine t3 ?_)
       refine bret (.bool false) h1gw ?_
       exact ⟨rfl, hS1h3⟩
    ·rw [if_neg c1c1] at H
     cases H
   ·rw [if_neg c194] at H
    cases H
  ·rw [if_neg c193] at H
   cases H
end Go.Proofs.YtinebjcfgmoniaaDoor.Sl
