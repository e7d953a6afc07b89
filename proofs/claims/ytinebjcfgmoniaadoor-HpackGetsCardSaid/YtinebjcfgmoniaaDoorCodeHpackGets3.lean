/- What the functions of this program compute, told as plain functions, and that the calls come to just that. Printed by this session's program; part 3. -/
import Derived.Test.YtinebjcfgmoniaaDoorCodeHpackGets2
set_option linter.unusedVariables false
set_option linter.unusedSimpArgs false
set_option linter.unnecessarySimpa false
namespace Go.Proofs.YtinebjcfgmoniaaDoor.Sl
open Go Go.RowKit Go.Proofs.Sl
/-! ### louver/louverref02.Get -/
def louverref02qGet.l0 : Nat → Int → Int → Int → (List Int) → Option (Int × Int × Int)
 | 0, _, _, _, _ => none
 | k + 1, x19w, x19x, x19y, p0 => if x19y < (p0.length : Int) then (if x19y > 4 then (some (0, 0, 4)) else (if 0 ≤ x19y then (if (gt (0 : Int) p0 x19y) < 128 then (if (IntKind.u64.wrap (x19w + (IntKind.u64.wrap ((Int.tmod (IntKind.u64.wrap (gt (0 : Int) p0 x19y)) 128) * x19x)))) > 268435456 then (some (0, 0, 4)) else (some (IntKind.u32.wrap (IntKind.u64.wrap (x19w + (IntKind.u64.wrap ((Int.tmod (IntKind.u64.wrap (gt (0 : Int) p0 x19y)) 128) * x19x)))), IntKind.i64.wrap (x19y + 1), 0))) else (louverref02qGet.l0 k (IntKind.u64.wrap (x19w + (IntKind.u64.wrap ((Int.tmod (IntKind.u64.wrap (gt (0 : Int) p0 x19y)) 128) * x19x)))) (IntKind.u64.wrap (x19x * 128)) (IntKind.i64.wrap (x19y + 1)) p0)) else (none))) else (some (0, 0, 2))
def louverref02qGet.f (k : Nat) (p0 : (List Int)) (p1 : Int) : Option (Int × Int × Int) := if p1 < 1 then (some (0, 0, 1)) else (if p1 > 8 then (some (0, 0, 1)) else (if (p0.length : Int) = 0 then (some (0, 0, 2)) else (bnd1 (louverref02qtop.f k p1) fun r18m => (if 0 < (p0.length : Int) then (if ¬ ((IntKind.u64.wrap (r18m + 1)) = 0) then (if (Int.tmod (IntKind.u64.wrap (gt (0 : Int) p0 (0 : Int))) (IntKind.u64.wrap (r18m + 1))) < r18m then (some (IntKind.u32.wrap (Int.tmod (IntKind.u64.wrap (gt (0 : Int) p0 (0 : Int))) (IntKind.u64.wrap (r18m + 1))), 1, 0)) else (louverref02qGet.l0 k (Int.tmod (IntKind.u64.wrap (gt (0 : Int) p0 (0 : Int))) (IntKind.u64.wrap (r18m + 1))) 1 1 p0)) else (none)) else (none)))))
set_option maxHeartbeats 20000000 in
set_option maxRecDepth 100000 in
theorem louverref02qGet.calls (k : Nat) {b : Nat} {w0 W : World} {R : Frag} {Fs : List Frag} {p0 : (List Int)} {p1 : Int} {v0 : Value} {r0q : Int} {r1q : Int} {r2q : Int} (hp0 : Rds (kInt .u8) b w0 R v0 p0) (H : louverref02qGet.f k p0 p1 = some (r0q, r1q, r2q)) (hS : St b w0 W R (Fs)) :
  Calls Tryd.prog 32 ([v0, i6 p1] : List Value).toArray W (fun e W' => e = .returned (.tuple #[.int .u32 r0q, i6 r1q, i6 r2q]) ∧ St b w0 W' R (Fs)) := by
 obtain ⟨A0, c0, rfl⟩ := hp0.form
 unfold louverref02qGet.f at H
 refine calls_enter Tryd.func32 rfl 65 rfl (by kernel_rfl) (fun a h => ?_)
 refine wp_seq ?_
 refine WL.start ?_
 refine WL.bl 3 3 h [(6, i6 0), (5, i6 0), (4, .int .u32 0)] (fun a17s h17t => ?_)
 refine WL.dn ?_
 refine wp_seq ?_
 refine wp_seq ?_
 refine WL.start ?_
 refine WL.bl 3 3 h17t [(13, .bool (decide (p1 < 1))), (12, .bool (decide (p1 < 1))), (11, i6 p1)] (fun a17u h17v => ?_)
 clear h17t a17s
 by_cases c17w : p1 < 1
 ·rw [if_pos c17w] at H
  have hb_ : (decide (p1 < 1)) = true := decide_eq_true c17w
  try rw [hb_] at h17v
  clear hb_
  refine WL.sk h17v rfl rfl (fun a17x h17y => ?_)
  refine WL.sk h17y rfl rfl (fun a17z h180 => ?_)
  refine WL.bl 1 6 h180 [(16, .bool true)] (fun a181 h182 => ?_)
  refine WL.dn ?_
  refine wp_then h182 rfl ?_
  refine wp_seq ?_
  refine WL.start ?_
  refine WL.bl 3 3 h182 [(6, i6 1), (5, i6 0), (4, .int .u32 0)] (fun a183 h184 => ?_)
  refine WL.dn ?_
  refine wp_ret ?_
  obtain ⟨rfl, rfl, rfl⟩ := ret3 H
  repeat (first | with_reducible refine t1 ?_ | with_reducible refine t2 ?_ | with_reducible refine t3 ?_)
  refine bret (.tuple #[.int .u32 0, i6 0, i6 1]) h184 ?_
  exact ⟨rfl, hS⟩
 ·rw [if_neg c17w] at H
  have hb_ : (decide (p1 < 1)) = false := decide_eq_false c17w
  try rw [hb_] at h17v
  clear hb_
  refine WL.oq h17v rfl (owp_rk (i6 p1) h17v rfl (fun a185 h186 => ?_))
  refine WL.oq h186 rfl (owp_rk (.bool (decide (p1 > 8))) h186 rfl (fun a187 h188 => ?_))
  refine WL.bl 1 6 h188 [(16, .bool (decide (p1 > 8)))] (fun a189 h18a => ?_)
  refine WL.dn ?_
  clear h17v a17u h186 a185 h188 a187
  by_cases c18b : p1 > 8
  ·rw [if_pos c18b] at H
   have hb_ : (decide (p1 > 8)) = true := decide_eq_true c18b
   try rw [hb_] at h18a
   clear hb_
   refine wp_then h18a rfl ?_
   refine wp_seq ?_
   refine WL.start ?_
   refine WL.bl 3 3 h18a [(6, i6 1), (5, i6 0), (4, .int .u32 0)] (fun a18c h18d => ?_)
   refine WL.dn ?_
   refine wp_ret ?_
   obtain ⟨rfl, rfl, rfl⟩ := ret3 H
   repeat (first | with_reducible refine t1 ?_ | with_reducible refine t2 ?_ | with_reducible refine t3 ?_)
   refine bret (.tuple #[.int .u32 0, i6 0, i6 1]) h18d ?_
   exact ⟨rfl, hS⟩
  ·rw [if_neg c18b] at H
   have hb_ : (decide (p1 > 8)) = false := decide_eq_false c18b
   try rw [hb_] at h18a
   clear hb_
   refine wp_else h18a rfl ?_
   refine wp_skip ?_
   refine wp_seq ?_
   refine wp_seq ?_
   refine WL.start ?_
   refine WL.bl 3 3 h18a [(19, .bool (decide ((p0.length : Int) = 0))), (18, i6 (p0.length : Int)), (17, .slice A0 p0.length c0)] (fun a18e h18f => ?_)
   refine WL.dn ?_
   clear h18a a189
   by_cases c18g : (p0.length : Int) = 0
   ·rw [if_pos c18g] at H
    have hb_ : (decide ((p0.length : Int) = 0)) = true := decide_eq_true c18g
    try rw [hb_] at h18f
    clear hb_
    refine wp_then h18f rfl ?_
    refine wp_seq ?_
    refine WL.start ?_
    refine WL.bl 3 3 h18f [(6, i6 2), (5, i6 0), (4, .int .u32 0)] (fun a18h h18i => ?_)
    refine WL.dn ?_
    refine wp_ret ?_
    obtain ⟨rfl, rfl, rfl⟩ := ret3 H
    repeat (first | with_reducible refine t1 ?_ | with_reducible refine t2 ?_ | with_reducible refine t3 ?_)
    refine bret (.tuple #[.int .u32 0, i6 0, i6 2]) h18i ?_
    exact ⟨rfl, hS⟩
   ·rw [if_neg c18g] at H
    have hb_ : (decide ((p0.length : Int) = 0)) = false := decide_eq_false c18g
    try rw [hb_] at h18f
    clear hb_
    refine wp_else h18f rfl ?_
    refine wp_skip ?_
    refine wp_seq ?_
    refine WL.start ?_
    refine WL.bl 1 1 h18f [(20, i6 p1)] (fun a18j h18k => ?_)
    obtain ⟨r18m, A18l, H⟩ := bind1 H
    refine WL.oq h18k rfl ?_
    refine owp_call [i6 p1] h18k rfl (by kernel_rfl) rfl Tryd.func44 (by kernel_rfl) rfl (by kernel_rfl) (louverref02qtop.calls k  A18l hS) (fun e18o W18n hp18p => ?_)
    obtain ⟨rfl, hS18s⟩ := hp18p
    refine ⟨_, rfl, fun a18q h18r => ?_⟩
    refine WL.bl 1 3 h18r [(7, .int .u64 r18m)] (fun a18t h18u => ?_)
    refine WL.dn ?_
    refine wp_seq ?_
    refine WL.start ?_
    refine WL.bl 1 1 h18u [(22, .slice A0 p0.length c0)] (fun a18v h18w => ?_)
    clear h18f a18e h18k a18j h18r a18q h18u a18t
    by_cases c18x : 0 < (p0.length : Int)
    ·rw [if_pos c18x] at H
     have hi190 : 0 ≤ (0 : Int) := by first | assumption | omega
     have hi191 : 0 < (p0.length : Int) := by first | assumption | omega
     obtain ⟨ad18y, _, ha18z, -, -⟩ := Rds.elemAny hp0 hi190 (gt_get (z := (0 : Int)) hi190 hi191)
     refine WL.oq h18w rfl ?_
     refine owp_rn (.pointer (some (ad18y.add ((0 : Int).toNat * 1)))) h18w rfl (run_idx (ad := ad18y) (sz := 1) rfl (by rw [← ha18z]; rfl) rfl Tryd.underlying22 (by kernel_rfl) hi190 hi191) (fun a192 h193 => ?_)
     obtain ⟨ad194, cs195, ha196, hr198, hc197⟩ := Rds.elemAny hp0 hi190 (gt_get (z := (0 : Int)) hi190 hi191)
     rw [ha18z] at ha196; obtain rfl := Option.some.inj ha196
     obtain rfl : cs195 = [.int .u8 (gt (0 : Int) p0 (0 : Int))] := hr198
     refine WL.oq h193 rfl ?_
     refine owp_rn (.int .u8 (gt (0 : Int) p0 (0 : Int))) h193 rfl (run_load1 rfl rfl Tryd.underlying5 rfl (cell0 (hc197 _ (fun _ _ hk_ => hS18s.kn hk_)))) (fun a199 h19a => ?_)
     refine WL.bl 3 6 h19a [(27, .int .u64 (IntKind.u64.wrap (r18m + 1))), (26, .int .u64 r18m), (25, .int .u64 (IntKind.u64.wrap (gt (0 : Int) p0 (0 : Int))))] (fun a19b h19c => ?_)
     clear h18w a18v h193 a192 h19a a199
     by_cases c19d : ¬ ((IntKind.u64.wrap (r18m + 1)) = 0)
     ·rw [if_pos c19d] at H
      refine WL.oq h19c rfl ?_
      refine owp_rn (.int .u64 (Int.tmod (IntKind.u64.wrap (gt (0 : Int) p0 (0 : Int))) (IntKind.u64.wrap (r18m + 1)))) h19c rfl (run_rem rfl rfl rfl (by assumption)) (fun a19e h19f => ?_)
      refine WL.bl 1 8 h19f [(8, .int .u64 (Int.tmod (IntKind.u64.wrap (gt (0 : Int) p0 (0 : Int))) (IntKind.u64.wrap (r18m + 1))))] (fun a19g h19h => ?_)
      refine WL.dn ?_
      refine wp_seq ?_
      refine wp_seq ?_
      refine WL.start ?_
      refine WL.bl 3 3 h19h [(31, .bool (decide ((Int.tmod (IntKind.u64.wrap (gt (0 : Int) p0 (0 : Int))) (IntKind.u64.wrap (r18m + 1))) < r18m))), (30, .int .u64 r18m), (29, .int .u64 (Int.tmod (IntKind.u64.wrap (gt (0 : Int) p0 (0 : Int))) (IntKind.u64.wrap (r18m + 1))))] (fun a19i h19j => ?_)
      refine WL.dn ?_
      clear h19c a19b h19f a19e h19h a19g
      by_cases c19k : (Int.tmod (IntKind.u64.wrap (gt (0 : Int) p0 (0 : Int))) (IntKind.u64.wrap (r18m + 1))) < r18m
      ·rw [if_pos c19k] at H
       have hb_ : (decide ((Int.tmod (IntKind.u64.wrap (gt (0 : Int) p0 (0 : Int))) (IntKind.u64.wrap (r18m + 1))) < r18m)) = true := decide_eq_true c19k
       try rw [hb_] at h19j
       clear hb_
       refine wp_then h19j rfl ?_
       refine wp_seq ?_
       refine WL.start ?_
       refine WL.bl 5 5 h19j [(6, i6 0), (5, i6 1), (4, .int .u32 (IntKind.u32.wrap (Int.tmod (IntKind.u64.wrap (gt (0 : Int) p0 (0 : Int))) (IntKind.u64.wrap (r18m + 1))))), (33, .int .u32 (IntKind.u32.wrap (Int.tmod (IntKind.u64.wrap (gt (0 : Int) p0 (0 : Int))) (IntKind.u64.wrap (r18m + 1))))), (32, .int .u64 (Int.tmod (IntKind.u64.wrap (gt (0 : Int) p0 (0 : Int))) (IntKind.u64.wrap (r18m + 1))))] (fun a19l h19m => ?_)
       refine WL.dn ?_
       refine wp_ret ?_
       obtain ⟨rfl, rfl, rfl⟩ := ret3 H
       repeat (first | with_reducible refine t1 ?_ | with_reducible refine t2 ?_ | with_reducible refine t3 ?_)
       refine bret (.tuple #[.int .u32 (IntKind.u32.wrap (Int.tmod (IntKind.u64.wrap (gt (0 : Int) p0 (0 : Int))) (IntKind.u64.wrap (r18m + 1)))), i6 1, i6 0]) h19m ?_
       exact ⟨rfl, hS18s⟩
      ·rw [if_neg c19k] at H
       have hb_ : (decide ((Int.tmod (IntKind.u64.wrap (gt (0 : Int) p0 (0 : Int))) (IntKind.u64.wrap (r18m + 1))) < r18m)) = false := decide_eq_false c19k
       try rw [hb_] at h19j
       clear hb_
       refine wp_else h19j rfl ?_
       refine wp_skip ?_
       refine wp_seq ?_
       refine WL.start ?_
       refine WL.bl 1 1 h19j [(9, .int .u64 1)] (fun a19n h19o => ?_)
       refine WL.dn ?_
       refine wp_seq ?_
       refine wp_seq ?_
       refine WL.start ?_
       refine WL.bl 1 1 h19o [(10, i6 1)] (fun a19p h19q => ?_)
       refine WL.dn ?_
       refine wp_block ?_
       clear h19j a19i h19o a19n
       refine wp_loop_ghost (fun kq_ a_ W_ => ∃ (x19w : Int), ∃ (x19x : Int), ∃ (x19y : Int), Hd a_ 65 [(0, .slice A0 p0.length c0), (8, .int .u64 x19w), (9, .int .u64 x19x), (10, i6 x19y)] ∧ Asd (louverref02qGet.l0 kq_ x19w x19x x19y p0 = some (r0q, r1q, r2q)) ∧ Asd (kq_ ≤ k) ∧ Asd (St b w0 W_ R (Fs))) k ⟨Int.tmod (IntKind.u64.wrap (gt (0 : Int) p0 (0 : Int))) (IntKind.u64.wrap (r18m + 1)), 1, 1, h19q.keep ⟨rfl, rfl, rfl, rfl, trivial⟩, ⟨H⟩, ⟨Nat.le_refl _⟩, ⟨hS18s⟩⟩ ?_
       clear H hS18s
       rintro kk19v a19s W19t ⟨x19w, x19x, x19y, h19r, ⟨H⟩, ⟨hkkk19v⟩, ⟨hS19u⟩⟩
       obtain _ | kk19z := kk19v
       ·exact absurd H (by simp [louverref02qGet.l0])
       simp only [louverref02qGet.l0] at H
       refine wp_seq ?_
       refine wp_seq ?_
       refine WL.start ?_
       refine WL.bl 4 4 h19r [(37, .bool (decide (x19y < (p0.length : Int)))), (36, i6 (p0.length : Int)), (35, .slice A0 p0.length c0), (34, i6 x19y)] (fun a1a0 h1a1 => ?_)
       refine WL.dn ?_
       clear h19r a19s
       by_cases c1a2 : x19y < (p0.length : Int)
       ·rw [if_pos c1a2] at H
        have hb_ : (decide (x19y < (p0.length : Int))) = true := decide_eq_true c1a2
        try rw [hb_] at h1a1
        clear hb_
        refine wp_then h1a1 rfl ?_
        refine wp_skip ?_
        refine wp_seq ?_
        refine wp_block ?_
        refine wp_seq ?_
        refine wp_seq ?_
        refine WL.start ?_
        refine WL.bl 2 2 h1a1 [(41, .bool (decide (x19y > 4))), (40, i6 x19y)] (fun a1a3 h1a4 => ?_)
        refine WL.dn ?_
        clear h1a1 a1a0
        by_cases c1a5 : x19y > 4
        ·rw [if_pos c1a5] at H
         have hb_ : (decide (x19y > 4)) = true := decide_eq_true c1a5
         try rw [hb_] at h1a4
         clear hb_
         refine wp_then h1a4 rfl ?_
         refine wp_seq ?_
         refine WL.start ?_
         refine WL.bl 3 3 h1a4 [(6, i6 4), (5, i6 0), (4, .int .u32 0)] (fun a1a6 h1a7 => ?_)
         refine WL.dn ?_
         refine wp_ret ?_
         obtain ⟨rfl, rfl, rfl⟩ := ret3 H
         repeat (first | with_reducible refine t1 ?_ | with_reducible refine t2 ?_ | with_reducible refine t3 ?_)
         refine bret (.tuple #[.int .u32 0, i6 0, i6 4]) h1a7 ?_
         exact ⟨rfl, hS19u⟩
        ·rw [if_neg c1a5] at H
         have hb_ : (decide (x19y > 4)) = false := decide_eq_false c1a5
         try rw [hb_] at h1a4
         clear hb_
         refine wp_else h1a4 rfl ?_
         refine wp_skip ?_
         refine wp_seq ?_
         refine WL.start ?_
         refine WL.bl 3 3 h1a4 [(44, i6 x19y), (43, .slice A0 p0.length c0), (42, .int .u64 x19w)] (fun a1a8 h1a9 => ?_)
         clear h1a4 a1a3
         by_cases c1aa : 0 ≤ x19y
         ·rw [if_pos c1aa] at H
          have hi1ad : 0 ≤ x19y := by first | assumption | omega
          have hi1ae : x19y < (p0.length : Int) := by first | assumption | omega
          obtain ⟨ad1ab, _, ha1ac, -, -⟩ := Rds.elemAny hp0 hi1ad (gt_get (z := (0 : Int)) hi1ad hi1ae)
          refine WL.oq h1a9 rfl ?_
          refine owp_rn (.pointer (some (ad1ab.add (x19y.toNat * 1)))) h1a9 rfl (run_idx (ad := ad1ab) (sz := 1) rfl (by rw [← ha1ac]; rfl) rfl Tryd.underlying22 (by kernel_rfl) hi1ad hi1ae) (fun a1af h1ag => ?_)
          obtain ⟨ad1ah, cs1ai, ha1aj, hr1al, hc1ak⟩ := Rds.elemAny hp0 hi1ad (gt_get (z := (0 : Int)) hi1ad hi1ae)
          rw [ha1ac] at ha1aj; obtain rfl := Option.some.inj ha1aj
          obtain rfl : cs1ai = [.int .u8 (gt (0 : Int) p0 x19y)] := hr1al
          refine WL.oq h1ag rfl ?_
          refine owp_rn (.int .u8 (gt (0 : Int) p0 x19y)) h1ag rfl (run_load1 rfl rfl Tryd.underlying5 rfl (cell0 (hc1ak _ (fun _ _ hk_ => hS19u.kn hk_)))) (fun a1am h1an => ?_)
          refine WL.bl 6 11 h1an [(8, .int .u64 (IntKind.u64.wrap (x19w + (IntKind.u64.wrap ((Int.tmod (IntKind.u64.wrap (gt (0 : Int) p0 x19y)) 128) * x19x))))), (51, .int .u64 (IntKind.u64.wrap (x19w + (IntKind.u64.wrap ((Int.tmod (IntKind.u64.wrap (gt (0 : Int) p0 x19y)) 128) * x19x))))), (50, .int .u64 (IntKind.u64.wrap ((Int.tmod (IntKind.u64.wrap (gt (0 : Int) p0 x19y)) 128) * x19x))), (49, .int .u64 x19x), (48, .int .u64 (Int.tmod (IntKind.u64.wrap (gt (0 : Int) p0 x19y)) 128)), (47, .int .u64 (IntKind.u64.wrap (gt (0 : Int) p0 x19y)))] (fun a1ao h1ap => ?_)
          refine WL.dn ?_
          refine wp_seq ?_
          refine WL.start ?_
          refine WL.bl 3 3 h1ap [(9, .int .u64 (IntKind.u64.wrap (x19x * 128))), (53, .int .u64 (IntKind.u64.wrap (x19x * 128))), (52, .int .u64 x19x)] (fun a1aq h1ar => ?_)
          refine WL.dn ?_
          refine wp_seq ?_
          refine WL.start ?_
          refine WL.bl 2 2 h1ar [(55, i6 x19y), (54, .slice A0 p0.length c0)] (fun a1as h1at => ?_)
          have hi1aw : 0 ≤ x19y := by first | assumption | omega
          have hi1ax : x19y < (p0.length : Int) := by first | assumption | omega
          obtain ⟨ad1au, _, ha1av, -, -⟩ := Rds.elemAny hp0 hi1aw (gt_get (z := (0 : Int)) hi1aw hi1ax)
          refine WL.oq h1at rfl ?_
          refine owp_rn (.pointer (some (ad1au.add (x19y.toNat * 1)))) h1at rfl (run_idx (ad := ad1au) (sz := 1) rfl (by rw [← ha1av]; rfl) rfl Tryd.underlying22 (by kernel_rfl) hi1aw hi1ax) (fun a1ay h1az => ?_)
          obtain ⟨ad1b0, cs1b1, ha1b2, hr1b4, hc1b3⟩ := Rds.elemAny hp0 hi1aw (gt_get (z := (0 : Int)) hi1aw hi1ax)
          rw [ha1av] at ha1b2; obtain rfl := Option.some.inj ha1b2
          obtain rfl : cs1b1 = [.int .u8 (gt (0 : Int) p0 x19y)] := hr1b4
          refine WL.oq h1az rfl ?_
          refine owp_rn (.int .u8 (gt (0 : Int) p0 x19y)) h1az rfl (run_load1 rfl rfl Tryd.underlying5 rfl (cell0 (hc1b3 _ (fun _ _ hk_ => hS19u.kn hk_)))) (fun a1b5 h1b6 => ?_)
          refine WL.bl 1 5 h1b6 [(58, .bool (decide ((gt (0 : Int) p0 x19y) < 128)))] (fun a1b7 h1b8 => ?_)
          refine WL.dn ?_
          clear h1a9 a1a8 h1ag a1af h1an a1am h1ap a1ao h1ar a1aq h1at a1as h1az a1ay h1b6 a1b5
          by_cases c1b9 : (gt (0 : Int) p0 x19y) < 128
          ·rw [if_pos c1b9] at H
           have hb_ : (decide ((gt (0 : Int) p0 x19y) < 128)) = true := decide_eq_true c1b9
           try rw [hb_] at h1b8
           clear hb_
           refine wp_then h1b8 rfl ?_
           refine wp_seq ?_
           refine wp_seq ?_
           refine WL.start ?_
           refine WL.bl 2 2 h1b8 [(60, .bool (decide ((IntKind.u64.wrap (x19w + (IntKind.u64.wrap ((Int.tmod (IntKind.u64.wrap (gt (0 : Int) p0 x19y)) 128) * x19x)))) > 268435456))), (59, .int .u64 (IntKind.u64.wrap (x19w + (IntKind.u64.wrap ((Int.tmod (IntKind.u64.wrap (gt (0 : Int) p0 x19y)) 128) * x19x)))))] (fun a1ba h1bb => ?_)
           refine WL.dn ?_
           clear h1b8 a1b7
           by_cases c1bc : (IntKind.u64.wrap (x19w + (IntKind.u64.wrap ((Int.tmod (IntKind.u64.wrap (gt (0 : Int) p0 x19y)) 128) * x19x)))) > 268435456
           ·rw [if_pos c1bc] at H
            have hb_ : (decide ((IntKind.u64.wrap (x19w + (IntKind.u64.wrap ((Int.tmod (IntKind.u64.wrap (gt (0 : Int) p0 x19y)) 128) * x19x)))) > 268435456)) = true := decide_eq_true c1bc
            try rw [hb_] at h1bb
            clear hb_
            refine wp_then h1bb rfl ?_
            refine wp_seq ?_
            refine WL.start ?_
            refine WL.bl 3 3 h1bb [(6, i6 4), (5, i6 0), (4, .int .u32 0)] (fun a1bd h1be => ?_)
            refine WL.dn ?_
            refine wp_ret ?_
            obtain ⟨rfl, rfl, rfl⟩ := ret3 H
            repeat (first | with_reducible refine t1 ?_ | with_reducible refine t2 ?_ | with_reducible refine t3 ?_)
            refine bret (.tuple #[.int .u32 0, i6 0, i6 4]) h1be ?_
            exact ⟨rfl, hS19u⟩
           ·rw [if_neg c1bc] at H
            have hb_ : (decide ((IntKind.u64.wrap (x19w + (IntKind.u64.wrap ((Int.tmod (IntKind.u64.wrap (gt (0 : Int) p0 x19y)) 128) * x19x)))) > 268435456)) = false := decide_eq_false c1bc
            try rw [hb_] at h1bb
            clear hb_
            refine wp_else h1bb rfl ?_
            refine wp_skip ?_
            refine wp_seq ?_
            refine WL.start ?_
            refine WL.bl 7 7 h1bb [(6, i6 0), (5, i6 (IntKind.i64.wrap (x19y + 1))), (4, .int .u32 (IntKind.u32.wrap (IntKind.u64.wrap (x19w + (IntKind.u64.wrap ((Int.tmod (IntKind.u64.wrap (gt (0 : Int) p0 x19y)) 128) * x19x)))))), (64, i6 (IntKind.i64.wrap (x19y + 1))), (63, i6 x19y), (62, .int .u32 (IntKind.u32.wrap (IntKind.u64.wrap (x19w + (IntKind.u64.wrap ((Int.tmod (IntKind.u64.wrap (gt (0 : Int) p0 x19y)) 128) * x19x)))))), (61, .int .u64 (IntKind.u64.wrap (x19w + (IntKind.u64.wrap ((Int.tmod (IntKind.u64.wrap (gt (0 : Int) p0 x19y)) 128) * x19x)))))] (fun a1bf h1bg => ?_)
            refine WL.dn ?_
            refine wp_ret ?_
            obtain ⟨rfl, rfl, rfl⟩ := ret3 H
            repeat (first | with_reducible refine t1 ?_ | with_reducible refine t2 ?_ | with_reducible refine t3 ?_)
            refine bret (.tuple #[.int .u32 (IntKind.u32.wrap (IntKind.u64.wrap (x19w + (IntKind.u64.wrap ((Int.tmod (IntKind.u64.wrap (gt (0 : Int) p0 x19y)) 128) * x19x))))), i6 (IntKind.i64.wrap (x19y + 1)), i6 0]) h1bg ?_
            exact ⟨rfl, hS19u⟩
          ·rw [if_neg c1b9] at H
           have hb_ : (decide ((gt (0 : Int) p0 x19y) < 128)) = false := decide_eq_false c1b9
           try rw [hb_] at h1b8
           clear hb_
           refine wp_else h1b8 rfl ?_
           refine wp_skip ?_
           refine WL.start ?_
           refine WL.bl 3 3 h1b8 [(10, i6 (IntKind.i64.wrap (x19y + 1))), (39, i6 (IntKind.i64.wrap (x19y + 1))), (38, i6 x19y)] (fun a1bh h1bi => ?_)
           refine WL.dn ?_
           exact ⟨kk19z, by omega, IntKind.u64.wrap (x19w + (IntKind.u64.wrap ((Int.tmod (IntKind.u64.wrap (gt (0 : Int) p0 x19y)) 128) * x19x))), IntKind.u64.wrap (x19x * 128), IntKind.i64.wrap (x19y + 1), h1bi.keep ⟨rfl, rfl, rfl, rfl, trivial⟩, ⟨H⟩, ⟨by omega⟩, ⟨hS19u⟩⟩
         ·rw [if_neg c1aa] at H
          cases H
       ·rw [if_neg c1a2] at H
        have hb_ : (decide (x19y < (p0.length : Int))) = false := decide_eq_false c1a2
        try rw [hb_] at h1a1
        clear hb_
        refine wp_else h1a1 rfl ?_
        refine wp_exit ?_
        refine wp_seq ?_
        refine WL.start ?_
        refine WL.bl 3 3 h1a1 [(6, i6 2), (5, i6 0), (4, .int .u32 0)] (fun a1bj h1bk => ?_)
        refine WL.dn ?_
        refine wp_ret ?_
        obtain ⟨rfl, rfl, rfl⟩ := ret3 H
        repeat (first | with_reducible refine t1 ?_ | with_reducible refine t2 ?_ | with_reducible refine t3 ?_)
        refine bret (.tuple #[.int .u32 0, i6 0, i6 2]) h1bk ?_
        exact ⟨rfl, hS19u⟩
     ·rw [if_neg c19d] at H
      cases H
    ·rw [if_neg c18x] at H
     cases H

/-! ### louver/louverref05.Size -/
def louverref05qSize.f (p0 : S52) : Option (Int) := some (IntKind.i64.wrap ((IntKind.i64.wrap (32 + (p0.f0.length : Int))) + (p0.f1.length : Int)))
set_option maxHeartbeats 20000000 in
set_option maxRecDepth 100000 in
theorem louverref05qSize.calls {b : Nat} {w0 W : World} {R : Frag} {Fs : List Frag} {p0 : S52}  {r0q : Int}  (H : louverref05qSize.f p0 = some r0q) (hS : St b w0 W R (Fs)) :
  Calls Tryd.prog 23 ([.agg #[.string (mkS p0.f0), .string (mkS p0.f1), .bool p0.f2]] : List Value).toArray W (fun e W' => e = .returned (i6 r0q) ∧ St b w0 W' R (Fs)) := by
 unfold louverref05qSize.f at H
 refine calls_enter Tryd.func23 rfl 11 rfl (by kernel_rfl) (fun a h => ?_)
 refine wp_seq ?_
 refine WL.start ?_
 refine WL.oq h rfl ?_
 refine owp_nw (fun g_ => (pt g_)) (.cells ([.string (mkS p0.f0), .string (mkS p0.f1), .bool p0.f2] : List Value).toArray 52 (0, 0)) h rfl hS (fun a10i W10k g10l h10j hS10m => ?_)
 refine WL.bl 1 2 h10j [(2, i6 0)] (fun a10n h10o => ?_)
 refine WL.dn ?_
 refine wp_seq ?_
 refine WL.start ?_
 refine WL.bl 1 1 h10o [(3, pt g10l)] (fun a10p h10q => ?_)
 refine WL.oq h10q rfl ?_
 refine owp_rn (.string (mkS p0.f0)) h10q rfl (run_load1 rfl rfl Tryd.underlying9 rfl (hS10m.cell (i := 0) rfl)) (fun a10r h10s => ?_)
 refine WL.bl 3 5 h10s [(7, .pointer (some ⟨g10l, 1, none⟩)), (6, i6 (IntKind.i64.wrap (32 + (p0.f0.length : Int)))), (5, i6 (p0.f0.length : Int))] (fun a10t h10u => ?_)
 refine WL.oq h10u rfl ?_
 refine owp_rn (.string (mkS p0.f1)) h10u rfl (run_load1 rfl rfl Tryd.underlying9 rfl (hS10m.cell (i := 1) rfl)) (fun a10v h10w => ?_)
 refine WL.bl 3 9 h10w [(2, i6 (IntKind.i64.wrap ((IntKind.i64.wrap (32 + (p0.f0.length : Int))) + (p0.f1.length : Int)))), (10, i6 (IntKind.i64.wrap ((IntKind.i64.wrap (32 + (p0.f0.length : Int))) + (p0.f1.length : Int)))), (9, i6 (p0.f1.length : Int))] (fun a10x h10y => ?_)
 refine WL.dn ?_
 refine wp_ret ?_
 have hS10z := hS10m.drop_
 obtain rfl := Option.some.inj H
 repeat (first | with_reducible refine t1 ?_ | with_reducible refine t2 ?_ | with_reducible refine t3 ?_)
 refine bret (i6 (IntKind.i64.wrap ((IntKind.i64.wrap (32 + (p0.f0.length : Int))) + (p0.f1.length : Int)))) h10y ?_
 exact ⟨rfl, hS10z⟩

/-! ### (louver/louverref05.T).Within -/
def louverref05qT_Within.l0 : Nat → (List S52) → Int → Int → S43 → Int → Option (S43)
 | 0, _, _, _, _, _ => none
 | k + 1, x1cw, x1d1, x1d2, p0, p1 => if x1d2 < (p0.f0.length : Int) then (if 0 ≤ x1d2 then (bnd1 (louverref05qSize.f (⟨(gt z52 p0.f0 x1d2).f0, (gt z52 p0.f0 x1d2).f1, (gt z52 p0.f0 x1d2).f2⟩ : S52)) fun r1dx => (if (IntKind.i64.wrap (x1d1 + r1dx)) > p1 then (some (⟨x1cw, p0.f1⟩ : S43)) else (if x1cw.length + 1 ≤ 3518437208883 then (lt1 (x1cw ++ ([(⟨(gt z52 p0.f0 x1d2).f0, (gt z52 p0.f0 x1d2).f1, (gt z52 p0.f0 x1d2).f2⟩ : S52)] : List S52) : List S52) fun y1fn => (louverref05qT_Within.l0 k y1fn (IntKind.i64.wrap (x1d1 + r1dx)) (IntKind.i64.wrap (x1d2 + 1)) p0 p1)) else (none)))) else (none)) else (some (⟨x1cw, p0.f1⟩ : S43))
def louverref05qT_Within.f (k : Nat) (p0 : S43) (p1 : Int) : Option (S43) := louverref05qT_Within.l0 k ([] : List S52) 0 0 p0 p1
set_option maxHeartbeats 20000000 in
set_option maxRecDepth 100000 in
theorem louverref05qT_Within.calls (k : Nat) {b : Nat} {w0 W : World} {R : Frag} {Fs : List Frag} {p0 : S43} {p1 : Int} {v0q0 : Value} {r0q : S43} (hp0q0 : Rds k52 b w0 R v0q0 p0.f0) (H : louverref05qT_Within.f k p0 p1 = some r0q) (hS : St b w0 W R (Fs)) :
  Calls Tryd.prog 45 ([.agg #[v0q0, i6 p0.f1], i6 p1] : List Value).toArray W (fun e W' => ∃ (u0qv0qf0 : Value) (Nu0qv0qf0 : Frag), e = .returned (.agg #[u0qv0qf0, i6 r0q.f1]) ∧ Row k52 52 b w0 R u0qv0qf0 r0q.f0 Nu0qv0qf0 ∧ St b w0 W' R (Nu0qv0qf0 :: Fs)) := by
 obtain ⟨A0q0, c0q0, rfl⟩ := hp0q0.form
 unfold louverref05qT_Within.f at H
 refine calls_enter Tryd.func45 rfl 38 rfl (by kernel_rfl) (fun a h => ?_)
 refine wp_seq ?_
 refine WL.start ?_
 refine WL.oq h rfl ?_
 refine owp_nw (fun g_ => (pt g_)) (.cells ([.slice A0q0 p0.f0.length c0q0, i6 p0.f1] : List Value).toArray 43 (0, 0)) h rfl hS (fun a1c0 W1c2 g1c3 h1c1 hS1c4 => ?_)
 refine WL.oq h1c1 rfl ?_
 refine owp_nw (fun g_ => (pt g_)) (.cells ([.slice none 0 0, i6 0] : List Value).toArray 43 (0, 0)) h1c1 rfl hS1c4 (fun a1c5 W1c7 g1c8 h1c6 hS1c9 => ?_)
 refine WL.dn ?_
 refine wp_seq ?_
 refine WL.start ?_
 refine WL.oq h1c6 rfl ?_
 refine owp_nw (fun g_ => .slice (some ⟨g_, 0, none⟩) 0 0) (.cells ([] : List Value).toArray 52 (0, 0)) h1c6 rfl hS1c9 (fun a1ca W1cc g1cd h1cb hS1ce => ?_)
 have hr1cf : Row k52 52 b w0 R (.slice (some ⟨g1cd, 0, none⟩) 0 0) ([] : List S52) (bx g1cd 52 []) := Row.lit (xs := ([] : List S52)) (Mi := []) ⟨rfl, rfl⟩ (by simp [maxLen])
 refine WL.bl 1 2 h1cb [(5, .slice (some ⟨g1cd, 0, none⟩) 0 0)] (fun a1cg h1ch => ?_)
 refine WL.dn ?_
 refine wp_seq ?_
 refine WL.start ?_
 refine WL.bl 1 1 h1ch [(6, i6 0)] (fun a1ci h1cj => ?_)
 refine WL.dn ?_
 refine wp_seq ?_
 refine wp_seq ?_
 refine WL.start ?_
 refine WL.bl 1 1 h1cj [(9, pt g1c3)] (fun a1ck h1cl => ?_)
 have hS1cm := hS1ce.b2
 refine WL.oq h1cl rfl ?_
 refine owp_rn (.slice A0q0 p0.f0.length c0q0) h1cl rfl (run_load1 rfl rfl Tryd.underlying23 rfl (hS1cm.cell (i := 0) rfl)) (fun a1cn h1co => ?_)
 refine WL.bl 2 4 h1co [(12, i6 0), (11, i6 (p0.f0.length : Int))] (fun a1cp h1cq => ?_)
 refine WL.dn ?_
 refine wp_block ?_
 have hS1d3 := hS1cm.b1
 have hS1d4 := hS1d3.b2
 have hS1d5 := hS1d4.b2
 clear h1c1 a1c0 h1c6 a1c5 h1cb a1ca h1ch a1cg h1cj a1ci h1cl a1ck h1co a1cn
 refine wp_loop_ghost (fun kq_ a_ W_ => ∃ (x1cw : (List S52)), ∃ (A1cx : Option Addr), ∃ (c1cy : Nat), ∃ (M1cz : Frag), ∃ (x1d1 : Int), ∃ (x1d2 : Int), Hd a_ 38 [(1, i6 p1), (2, pt g1c3), (4, pt g1c8), (5, .slice A1cx x1cw.length c1cy), (6, i6 x1d1), (11, i6 (p0.f0.length : Int)), (12, i6 x1d2)] ∧ Asd (louverref05qT_Within.l0 kq_ x1cw x1d1 x1d2 p0 p1 = some r0q) ∧ Asd (kq_ ≤ k) ∧ Asd (St b w0 W_ R ((bx g1c3 43 [.slice A0q0 p0.f0.length c0q0, i6 p0.f1]) :: (bx g1c8 43 [.slice none 0 0, i6 0]) :: M1cz :: Fs)) ∧ Asd (Row k52 52 b w0 R (.slice A1cx x1cw.length c1cy) x1cw M1cz)) k ⟨([] : List S52), (some ⟨g1cd, 0, none⟩), 0, (bx g1cd 52 []), 0, 0, h1cq.keep ⟨rfl, rfl, rfl, rfl, rfl, rfl, rfl, trivial⟩, ⟨H⟩, ⟨Nat.le_refl _⟩, ⟨hS1d5⟩, ⟨hr1cf⟩⟩ ?_
 clear H hS1d5
 rintro kk1cv a1cs W1ct ⟨x1cw, A1cx, c1cy, M1cz, x1d1, x1d2, h1cr, ⟨H⟩, ⟨hkkk1cv⟩, ⟨hS1cu⟩, ⟨hr1d0⟩⟩
 obtain _ | kk1d6 := kk1cv
 ·exact absurd H (by simp [louverref05qT_Within.l0])
 simp only [louverref05qT_Within.l0] at H
 refine wp_seq ?_
 refine WL.start ?_
 refine WL.bl 1 1 h1cr [(13, .bool (decide (x1d2 < (p0.f0.length : Int))))] (fun a1d7 h1d8 => ?_)
 refine WL.dn ?_
 refine wp_seq ?_
 clear h1cr a1cs
 by_cases c1d9 : x1d2 < (p0.f0.length : Int)
 ·rw [if_pos c1d9] at H
  have hb_ : (decide (x1d2 < (p0.f0.length : Int))) = true := decide_eq_true c1d9
  try rw [hb_] at h1d8
  clear hb_
  refine wp_then h1d8 rfl ?_
  refine wp_skip ?_
  refine wp_seq ?_
  refine wp_block ?_
  refine wp_seq ?_
  refine WL.start ?_
  refine WL.bl 2 2 h1d8 [(7, i6 x1d2), (14, i6 x1d2)] (fun a1da h1db => ?_)
  refine WL.dn ?_
  refine wp_seq ?_
  refine WL.start ?_
  refine WL.bl 2 2 h1db [(16, pt g1c3), (15, i6 x1d1)] (fun a1dc h1dd => ?_)
  refine WL.oq h1dd rfl ?_
  refine owp_rn (.slice A0q0 p0.f0.length c0q0) h1dd rfl (run_load1 rfl rfl Tryd.underlying23 rfl (hS1cu.cell (i := 0) rfl)) (fun a1de h1df => ?_)
  refine WL.bl 1 4 h1df [(18, i6 x1d2)] (fun a1dg h1dh => ?_)
  clear h1d8 a1d7 h1db a1da h1dd a1dc h1df a1de
  by_cases c1di : 0 ≤ x1d2
  ·rw [if_pos c1di] at H
   have hi1dl : 0 ≤ x1d2 := by first | assumption | omega
   have hi1dm : x1d2 < (p0.f0.length : Int) := by first | assumption | omega
   obtain ⟨ad1dj, _, ha1dk, -, -⟩ := Rds.elemAny hp0q0 hi1dl (gt_get (z := z52) hi1dl hi1dm)
   refine WL.oq h1dh rfl ?_
   refine owp_rn (.pointer (some (ad1dj.add (x1d2.toNat * 3)))) h1dh rfl (run_idx (ad := ad1dj) (sz := 3) rfl (by rw [← ha1dk]; rfl) rfl Tryd.underlying23 (by kernel_rfl) hi1dl hi1dm) (fun a1dn h1do => ?_)
   obtain ⟨ad1dp, cs1dq, ha1dr, hr1dt, hc1ds⟩ := Rds.elemAny hp0q0 hi1dl (gt_get (z := z52) hi1dl hi1dm)
   rw [ha1dk] at ha1dr; obtain rfl := Option.some.inj ha1dr
   obtain rfl := k52qrd hr1dt
   refine WL.oq h1do rfl ?_
   refine owp_rn (.agg #[.string (mkS ((gt z52 p0.f0 x1d2).f0)), .string (mkS ((gt z52 p0.f0 x1d2).f1)), .bool ((gt z52 p0.f0 x1d2).f2)]) h1do rfl (run_loadN rfl rfl Tryd.underlying52 rfl (cs := [.string (mkS ((gt z52 p0.f0 x1d2).f0)), .string (mkS ((gt z52 p0.f0 x1d2).f1)), .bool ((gt z52 p0.f0 x1d2).f2)]) (by kernel_rfl) (hc1ds _ (fun _ _ hk_ => hS1cu.kn hk_))) (fun a1du h1dv => ?_)
   obtain ⟨r1dx, A1dw, H⟩ := bind1 H
   refine WL.oq h1dv rfl ?_
   refine owp_call [.agg #[.string (mkS ((gt z52 p0.f0 x1d2).f0)), .string (mkS ((gt z52 p0.f0 x1d2).f1)), .bool ((gt z52 p0.f0 x1d2).f2)]] h1dv rfl (by kernel_rfl) rfl Tryd.func23 (by kernel_rfl) rfl (by kernel_rfl) (louverref05qSize.calls (p0 := (⟨(gt z52 p0.f0 x1d2).f0, (gt z52 p0.f0 x1d2).f1, (gt z52 p0.f0 x1d2).f2⟩ : S52))  A1dw hS1cu) (fun e1dz W1dy hp1e0 => ?_)
   obtain ⟨rfl, hS1e3⟩ := hp1e0
   refine ⟨_, rfl, fun a1e1 h1e2 => ?_⟩
   refine WL.bl 2 9 h1e2 [(6, i6 (IntKind.i64.wrap (x1d1 + r1dx))), (22, i6 (IntKind.i64.wrap (x1d1 + r1dx)))] (fun a1e4 h1e5 => ?_)
   refine WL.dn ?_
   refine wp_seq ?_
   refine wp_seq ?_
   refine WL.start ?_
   refine WL.bl 3 3 h1e5 [(25, .bool (decide ((IntKind.i64.wrap (x1d1 + r1dx)) > p1))), (24, i6 p1), (23, i6 (IntKind.i64.wrap (x1d1 + r1dx)))] (fun a1e6 h1e7 => ?_)
   refine WL.dn ?_
   clear h1dh a1dg h1do a1dn h1dv a1du h1e2 a1e1 h1e5 a1e4
   by_cases c1e8 : (IntKind.i64.wrap (x1d1 + r1dx)) > p1
   ·rw [if_pos c1e8] at H
    have hb_ : (decide ((IntKind.i64.wrap (x1d1 + r1dx)) > p1)) = true := decide_eq_true c1e8
    try rw [hb_] at h1e7
    clear hb_
    refine wp_then h1e7 rfl ?_
    refine wp_exit ?_
    refine wp_seq ?_
    refine WL.start ?_
    refine WL.bl 2 2 h1e7 [(36, pt g1c3), (35, .slice A1cx x1cw.length c1cy)] (fun a1e9 h1ea => ?_)
    refine WL.oq h1ea rfl ?_
    refine owp_st 0 [.slice A1cx x1cw.length c1cy] h1ea rfl rfl rfl hS1e3 [.slice A1cx x1cw.length c1cy, i6 p0.f1] (fun a1eb W1ed h1ec hS1ee => ?_)
    refine WL.dn ?_
    refine wp_seq ?_
    refine WL.start ?_
    refine WL.oq h1ec rfl ?_
    refine owp_rn (.agg #[.slice A1cx x1cw.length c1cy, i6 p0.f1]) h1ec rfl (run_loadN rfl rfl Tryd.underlying43 rfl (cs := [.slice A1cx x1cw.length c1cy, i6 p0.f1]) (by kernel_rfl) (hS1ee.cells (vs := [.slice A1cx x1cw.length c1cy, i6 p0.f1]) rfl)) (fun a1ef h1eg => ?_)
    have hS1eh := hS1ee.b1
    refine WL.oq h1eg rfl ?_
    refine owp_st 0 [.slice A1cx x1cw.length c1cy, i6 p0.f1] h1eg rfl rfl rfl hS1eh [.slice A1cx x1cw.length c1cy, i6 p0.f1] (fun a1ei W1ek h1ej hS1el => ?_)
    refine WL.dn ?_
    refine wp_ret ?_
    have hS1em := hS1el.drop_
    have hS1en := hS1em.drop_
    obtain rfl := Option.some.inj H
    repeat (first | with_reducible refine t1 ?_ | with_reducible refine t2 ?_ | with_reducible refine t3 ?_)
    refine body_ret (v := .agg #[.slice A1cx x1cw.length c1cy, i6 p0.f1]) h1ej (by kernel_rfl) (res_one rfl ⟨_, rfl, loadVarN Tryd.underlying43 rfl (cs := [.slice A1cx x1cw.length c1cy, i6 p0.f1]) (by kernel_rfl) (hS1el.cells (vs := [.slice A1cx x1cw.length c1cy, i6 p0.f1]) rfl)⟩) ?_
    exact ⟨.slice A1cx x1cw.length c1cy, M1cz, rfl, hr1d0, hS1en⟩
   ·rw [if_neg c1e8] at H
    have hb_ : (decide ((IntKind.i64.wrap (x1d1 + r1dx)) > p1)) = false := decide_eq_false c1e8
    try rw [hb_] at h1e7
    clear hb_
    refine wp_else h1e7 rfl ?_
    refine wp_skip ?_
    refine WL.start ?_
    refine WL.bl 2 2 h1e7 [(27, pt g1c3), (26, .slice A1cx x1cw.length c1cy)] (fun a1eo h1ep => ?_)
    refine WL.oq h1ep rfl ?_
    refine owp_rn (.slice A0q0 p0.f0.length c0q0) h1ep rfl (run_load1 rfl rfl Tryd.underlying23 rfl (hS1e3.cell (i := 0) rfl)) (fun a1eq h1er => ?_)
    refine WL.bl 1 4 h1er [(29, i6 x1d2)] (fun a1es h1et => ?_)
    have hi1ew : 0 ≤ x1d2 := by first | assumption | omega
    have hi1ex : x1d2 < (p0.f0.length : Int) := by first | assumption | omega
    obtain ⟨ad1eu, _, ha1ev, -, -⟩ := Rds.elemAny hp0q0 hi1ew (gt_get (z := z52) hi1ew hi1ex)
    refine WL.oq h1et rfl ?_
    refine owp_rn (.pointer (some (ad1eu.add (x1d2.toNat * 3)))) h1et rfl (run_idx (ad := ad1eu) (sz := 3) rfl (by rw [← ha1ev]; rfl) rfl Tryd.underlying23 (by kernel_rfl) hi1ew hi1ex) (fun a1ey h1ez => ?_)
    obtain ⟨ad1f0, cs1f1, ha1f2, hr1f4, hc1f3⟩ := Rds.elemAny hp0q0 hi1ew (gt_get (z := z52) hi1ew hi1ex)
    rw [ha1ev] at ha1f2; obtain rfl := Option.some.inj ha1f2
    obtain rfl := k52qrd hr1f4
    refine WL.oq h1ez rfl ?_
    refine owp_rn (.agg #[.string (mkS ((gt z52 p0.f0 x1d2).f0)), .string (mkS ((gt z52 p0.f0 x1d2).f1)), .bool ((gt z52 p0.f0 x1d2).f2)]) h1ez rfl (run_loadN rfl rfl Tryd.underlying52 rfl (cs := [.string (mkS ((gt z52 p0.f0 x1d2).f0)), .string (mkS ((gt z52 p0.f0 x1d2).f1)), .bool ((gt z52 p0.f0 x1d2).f2)]) (by kernel_rfl) (hc1f3 _ (fun _ _ hk_ => hS1e3.kn hk_))) (fun a1f5 h1f6 => ?_)
    obtain ⟨_, hrep_, hMe_⟩ := k52qmk (b := b) (w0 := w0) (R := R) (x := (⟨(gt z52 p0.f0 x1d2).f0, (gt z52 p0.f0 x1d2).f1, (gt z52 p0.f0 x1d2).f2⟩ : S52)) 
    subst hMe_
    have hq1f7 := hrep_; clear hrep_
    refine WL.oq h1f6 rfl ?_
    refine owp_nw (fun g_ => .slice (some ⟨g_, 0, none⟩) 1 1) (.cells ([.string (mkS ((gt z52 p0.f0 x1d2).f0)), .string (mkS ((gt z52 p0.f0 x1d2).f1)), .bool ((gt z52 p0.f0 x1d2).f2)] : List Value).toArray 52 (0, 0)) h1f6 rfl hS1e3 (fun a1f8 W1fa g1fb h1f9 hS1fc => ?_)
    have hr1fd : Row k52 52 b w0 R (.slice (some ⟨g1fb, 0, none⟩) 1 1) ([(⟨(gt z52 p0.f0 x1d2).f0, (gt z52 p0.f0 x1d2).f1, (gt z52 p0.f0 x1d2).f2⟩ : S52)] : List S52) (bx g1fb 52 [.string (mkS ((gt z52 p0.f0 x1d2).f0)), .string (mkS ((gt z52 p0.f0 x1d2).f1)), .bool ((gt z52 p0.f0 x1d2).f2)]) := Row.lit (xs := ([(⟨(gt z52 p0.f0 x1d2).f0, (gt z52 p0.f0 x1d2).f1, (gt z52 p0.f0 x1d2).f2⟩ : S52)] : List S52)) (Mi := []) ⟨_, _, [], _, rfl, rfl, hq1f7, ⟨rfl, rfl⟩⟩ (by simp [maxLen])
    clear h1e7 a1e6 h1ep a1eo h1er a1eq h1et a1es h1ez a1ey h1f6 a1f5
    by_cases c1fe : x1cw.length + 1 ≤ 3518437208883
    ·rw [if_pos c1fe] at H
     have hS1ff := hS1fc.b3
     refine WL.oq h1f9 rfl ?_
     refine owp_app_take (z := .agg #[.string (mkS []), .string (mkS []), .bool false]) (bytes := 40) (dk := k52) h1f9 rfl (by kernel_rfl) rfl rfl rfl hr1d0 hr1fd hS1ff Tryd.underlying23 (by kernel_rfl) rfl (by decide) (by decide) (by first | omega | (simp only [List.length_cons, List.length_nil] at *; omega)) (fun a1fg W1fi v1fj M1fk h1fh hr1fl hS1fm => ?_)
     obtain ⟨y1fn, hy1fo, H⟩ := lete H
     have hr1fp : Row k52 52 b w0 R v1fj y1fn M1fk := by rw [hy1fo]; exact hr1fl
     clear hr1fl
     obtain ⟨A1fq, c1fr, rfl⟩ := hr1fp.form
     refine WL.bl 1 9 h1fh [(5, .slice A1fq y1fn.length c1fr)] (fun a1fs h1ft => ?_)
     refine WL.dn ?_
     refine WL.start ?_
     refine WL.bl 2 2 h1ft [(12, i6 (IntKind.i64.wrap (x1d2 + 1))), (34, i6 (IntKind.i64.wrap (x1d2 + 1)))] (fun a1fu h1fv => ?_)
     refine WL.dn ?_
     have hS1fw := hS1fm.b2
     have hS1fx := hS1fw.b2
     exact ⟨kk1d6, by omega, y1fn, A1fq, c1fr, M1fk, IntKind.i64.wrap (x1d1 + r1dx), IntKind.i64.wrap (x1d2 + 1), h1fv.keep ⟨rfl, rfl, rfl, rfl, rfl, rfl, rfl, trivial⟩, ⟨H⟩, ⟨by omega⟩, ⟨hS1fx⟩, ⟨hr1fp⟩⟩
    ·rw [if_neg c1fe] at H
     cases H
  ·rw [if_neg c1di] at H
   cases H
 ·rw [if_neg c1d9] at H
  have hb_ : (decide (x1d2 < (p0.f0.length : Int))) = false := decide_eq_false c1d9
  try rw [hb_] at h1d8
  clear hb_
  refine wp_else h1d8 rfl ?_
  refine wp_exit ?_
  refine wp_seq ?_
  refine WL.start ?_
  refine WL.bl 2 2 h1d8 [(36, pt g1c3), (35, .slice A1cx x1cw.length c1cy)] (fun a1fy h1fz => ?_)
  refine WL.oq h1fz rfl ?_
  refine owp_st 0 [.slice A1cx x1cw.length c1cy] h1fz rfl rfl rfl hS1cu [.slice A1cx x1cw.length c1cy, i6 p0.f1] (fun a1g0 W1g2 h1g1 hS1g3 => ?_)
  refine WL.dn ?_
  refine wp_seq ?_
  refine WL.start ?_
  refine WL.oq h1g1 rfl ?_
  refine owp_rn (.agg #[.slice A1cx x1cw.length c1cy, i6 p0.f1]) h1g1 rfl (run_loadN rfl rfl Tryd.underlying43 rfl (cs := [.slice A1cx x1cw.length c1cy, i6 p0.f1]) (by kernel_rfl) (hS1g3.cells (vs := [.slice A1cx x1cw.length c1cy, i6 p0.f1]) rfl)) (fun a1g4 h1g5 => ?_)
  have hS1g6 := hS1g3.b1
  refine WL.oq h1g5 rfl ?_
  refine owp_st 0 [.slice A1cx x1cw.length c1cy, i6 p0.f1] h1g5 rfl rfl rfl hS1g6 [.slice A1cx x1cw.length c1cy, i6 p0.f1] (fun a1g7 W1g9 h1g8 hS1ga => ?_)
  refine WL.dn ?_
  refine wp_ret ?_
  have hS1gb := hS1ga.drop_
  have hS1gc := hS1gb.drop_
  obtain rfl := Option.some.inj H
  repeat (first | with_reducible refine t1 ?_ | with_reducible refine t2 ?_ | with_reducible refine t3 ?_)
  refine body_ret (v := .agg #[.slice A1cx x1cw.length c1cy, i6 p0.f1]) h1g8 (by kernel_rfl) (res_one rfl ⟨_, rfl, loadVarN Tryd.underlying43 rfl (cs := [.slice A1cx x1cw.length c1cy, i6 p0.f1]) (by kernel_rfl) (hS1ga.cells (vs := [.slice A1cx x1cw.length c1cy, i6 p0.f1]) rfl)⟩) ?_
  exact ⟨.slice A1cx x1cw.length c1cy, M1cz, rfl, hr1d0, hS1gc⟩

/-! ### (louver/louverref05.T).Limit -/
def louverref05qT_Limit.f (k : Nat) (p0 : S43) (p1 : Int) : Option (S43) := bnd1 (louverref05qT_Within.f k (⟨p0.f0, p1⟩ : S43) p1) fun r11s => (some (⟨r11s.f0, r11s.f1⟩ : S43))
set_option maxHeartbeats 20000000 in
set_option maxRecDepth 100000 in
theorem louverref05qT_Limit.calls (k : Nat) {b : Nat} {w0 W : World} {R : Frag} {Fs : List Frag} {p0 : S43} {p1 : Int} {v0q0 : Value} {r0q : S43} (hp0q0 : Rds k52 b w0 R v0q0 p0.f0) (H : louverref05qT_Limit.f k p0 p1 = some r0q) (hS : St b w0 W R (Fs)) :
  Calls Tryd.prog 33 ([.agg #[v0q0, i6 p0.f1], i6 p1] : List Value).toArray W (fun e W' => ∃ (u0qv0qf0 : Value) (Nu0qv0qf0 : Frag), e = .returned (.agg #[u0qv0qf0, i6 r0q.f1]) ∧ Row k52 52 b w0 R u0qv0qf0 r0q.f0 Nu0qv0qf0 ∧ St b w0 W' R (Nu0qv0qf0 :: Fs)) := by
 obtain ⟨A0q0, c0q0, rfl⟩ := hp0q0.form
 unfold louverref05qT_Limit.f at H
 refine calls_enter Tryd.func33 rfl 10 rfl (by kernel_rfl) (fun a h => ?_)
 refine wp_seq ?_
 refine WL.start ?_
 refine WL.oq h rfl ?_
 refine owp_nw (fun g_ => (pt g_)) (.cells ([.slice A0q0 p0.f0.length c0q0, i6 p0.f1] : List Value).toArray 43 (0, 0)) h rfl hS (fun a116 W118 g119 h117 hS11a => ?_)
 refine WL.oq h117 rfl ?_
 refine owp_nw (fun g_ => (pt g_)) (.cells ([.slice none 0 0, i6 0] : List Value).toArray 43 (0, 0)) h117 rfl hS11a (fun a11b W11d g11e h11c hS11f => ?_)
 refine WL.dn ?_
 refine wp_seq ?_
 refine WL.start ?_
 refine WL.bl 2 2 h11c [(6, .pointer (some ⟨g119, 1, none⟩)), (5, i6 p1)] (fun a11g h11h => ?_)
 have hS11i := hS11f.b1
 refine WL.oq h11h rfl ?_
 refine owp_st 1 [i6 p1] h11h rfl rfl rfl hS11i [.slice A0q0 p0.f0.length c0q0, i6 p1] (fun a11j W11l h11k hS11m => ?_)
 refine WL.dn ?_
 refine wp_seq ?_
 refine WL.start ?_
 refine WL.oq h11k rfl ?_
 refine owp_rn (.agg #[.slice A0q0 p0.f0.length c0q0, i6 p1]) h11k rfl (run_loadN rfl rfl Tryd.underlying43 rfl (cs := [.slice A0q0 p0.f0.length c0q0, i6 p1]) (by kernel_rfl) (hS11m.cells (vs := [.slice A0q0 p0.f0.length c0q0, i6 p1]) rfl)) (fun a11n h11o => ?_)
 refine WL.bl 1 2 h11o [(8, i6 p1)] (fun a11p h11q => ?_)
 obtain ⟨r11s, A11r, H⟩ := bind1 H
 refine WL.oq h11q rfl ?_
 refine owp_call [.agg #[.slice A0q0 p0.f0.length c0q0, i6 p1], i6 p1] h11q rfl (by kernel_rfl) rfl Tryd.func45 (by kernel_rfl) rfl (by kernel_rfl) (louverref05qT_Within.calls (p0 := (⟨p0.f0, p1⟩ : S43)) k hp0q0 A11r hS11m) (fun e11u W11t hp11v => ?_)
 obtain ⟨v11y, M11z, rfl, hr120, hS121⟩ := hp11v
 refine ⟨_, rfl, fun a11w h11x => ?_⟩
 obtain ⟨A122, c123, rfl⟩ := hr120.form
 have hS124 := hS121.b2
 refine WL.oq h11x rfl ?_
 refine owp_st 0 [.slice A122 r11s.f0.length c123, i6 r11s.f1] h11x rfl rfl rfl hS124 [.slice A122 r11s.f0.length c123, i6 r11s.f1] (fun a125 W127 h126 hS128 => ?_)
 refine WL.dn ?_
 refine wp_ret ?_
 have hS129 := hS128.drop_
 have hS12a := hS129.b1
 have hS12b := hS12a.drop_
 obtain rfl := Option.some.inj H
 repeat (first | with_reducible refine t1 ?_ | with_reducible refine t2 ?_ | with_reducible refine t3 ?_)
 refine body_ret (v := .agg #[.slice A122 r11s.f0.length c123, i6 r11s.f1]) h126 (by kernel_rfl) (res_one rfl ⟨_, rfl, loadVarN Tryd.underlying43 rfl (cs := [.slice A122 r11s.f0.length c123, i6 r11s.f1]) (by kernel_rfl) (hS128.cells (vs := [.slice A122 r11s.f0.length c123, i6 r11s.f1]) rfl)⟩) ?_
 exact ⟨.slice A122 r11s.f0.length c123, M11z, rfl, hr120, hS12b⟩

/-! ### louver/louverref04.Table -/
def louverref04qTable.f  : Option ((List (List UInt8))) := some ([([58, 97, 117, 116, 104, 111, 114, 105, 116, 121] : List UInt8), ([] : List UInt8), ([58, 109, 101, 116, 104, 111, 100] : List UInt8), ([71, 69, 84] : List UInt8), ([58, 109, 101, 116, 104, 111, 100] : List UInt8), ([80, 79, 83, 84] : List UInt8), ([58, 112, 97, 116, 104] : List UInt8), ([47] : List UInt8), ([58, 112, 97, 116, 104] : List UInt8), ([47, 105, 110, 100, 101, 120, 46, 104, 116, 109, 108] : List UInt8), ([58, 115, 99, 104, 101, 109, 101] : List UInt8), ([104, 116, 116, 112] : List UInt8), ([58, 115, 99, 104, 101, 109, 101] : List UInt8), ([104, 116, 116, 112, 115] : List UInt8), ([58, 115, 116, 97, 116, 117, 115] : List UInt8), ([50, 48, 48] : List UInt8), ([58, 115, 116, 97, 116, 117, 115] : List UInt8), ([50, 48, 52] : List UInt8), ([58, 115, 116, 97, 116, 117, 115] : List UInt8), ([50, 48, 54] : List UInt8), ([58, 115, 116, 97, 116, 117, 115] : List UInt8), ([51, 48, 52] : List UInt8), ([58, 115, 116, 97, 116, 117, 115] : List UInt8), ([52, 48, 48] : List UInt8), ([58, 115, 116, 97, 116, 117, 115] : List UInt8), ([52, 48, 52] : List UInt8), ([58, 115, 116, 97, 116, 117, 115] : List UInt8), ([53, 48, 48] : List UInt8), ([97, 99, 99, 101, 112, 116, 45, 99, 104, 97, 114, 115, 101, 116] : List UInt8), ([] : List UInt8), ([97, 99, 99, 101, 112, 116, 45, 101, 110, 99, 111, 100, 105, 110, 103] : List UInt8), ([103, 122, 105, 112, 44, 32, 100, 101, 102, 108, 97, 116, 101] : List UInt8), ([97, 99, 99, 101, 112, 116, 45, 108, 97, 110, 103, 117, 97, 103, 101] : List UInt8), ([] : List UInt8), ([97, 99, 99, 101, 112, 116, 45, 114, 97, 110, 103, 101, 115] : List UInt8), ([] : List UInt8), ([97, 99, 99, 101, 112, 116] : List UInt8), ([] : List UInt8), ([97, 99, 99, 101, 115, 115, 45, 99, 111, 110, 116, 114, 111, 108, 45, 97, 108, 108, 111, 119, 45, 111, 114, 105, 103, 105, 110] : List UInt8), ([] : List UInt8), ([97, 103, 101] : List UInt8), ([] : List UInt8), ([97, 108, 108, 111, 119] : List UInt8), ([] : List UInt8), ([97, 117, 116, 104, 111, 114, 105, 122, 97, 116, 105, 111, 110] : List UInt8), ([] : List UInt8), ([99, 97, 99, 104, 101, 45, 99, 111, 110, 116, 114, 111, 108] : List UInt8), ([] : List UInt8), ([99, 111, 110, 116, 101, 110, 116, 45, 100, 105, 115, 112, 111, 115, 105, 116, 105, 111, 110] : List UInt8), ([] : List UInt8), ([99, 111, 110, 116, 101, 110, 116, 45, 101, 110, 99, 111, 100, 105, 110, 103] : List UInt8), ([] : List UInt8), ([99, 111, 110, 116, 101, 110, 116, 45, 108, 97, 110, 103, 117, 97, 103, 101] : List UInt8), ([] : List UInt8), ([99, 111, 110, 116, 101, 110, 116, 45, 108, 101, 110, 103, 116, 104] : List UInt8), ([] : List UInt8), ([99, 111, 110, 116, 101, 110, 116, 45, 108, 111, 99, 97, 116, 105, 111, 110] : List UInt8), ([] : List UInt8), ([99, 111, 110, 116, 101, 110, 116, 45, 114, 97, 110, 103, 101] : List UInt8), ([] : List UInt8), ([99, 111, 110, 116, 101, 110, 116, 45, 116, 121, 112, 101] : List UInt8), ([] : List UInt8), ([99, 111, 111, 107, 105, 101] : List UInt8), ([] : List UInt8), ([100, 97, 116, 101] : List UInt8), ([] : List UInt8), ([101, 116, 97, 103] : List UInt8), ([] : List UInt8), ([101, 120, 112, 101, 99, 116] : List UInt8), ([] : List UInt8), ([101, 120, 112, 105, 114, 101, 115] : List UInt8), ([] : List UInt8), ([102, 114, 111, 109] : List UInt8), ([] : List UInt8), ([104, 111, 115, 116] : List UInt8), ([] : List UInt8), ([105, 102, 45, 109, 97, 116, 99, 104] : List UInt8), ([] : List UInt8), ([105, 102, 45, 109, 111, 100, 105, 102, 105, 101, 100, 45, 115, 105, 110, 99, 101] : List UInt8), ([] : List UInt8), ([105, 102, 45, 110, 111, 110, 101, 45, 109, 97, 116, 99, 104] : List UInt8), ([] : List UInt8), ([105, 102, 45, 114, 97, 110, 103, 101] : List UInt8), ([] : List UInt8), ([105, 102, 45, 117, 110, 109, 111, 100, 105, 102, 105, 101, 100, 45, 115, 105, 110, 99, 101] : List UInt8), ([] : List UInt8), ([108, 97, 115, 116, 45, 109, 111, 100, 105, 102, 105, 101, 100] : List UInt8), ([] : List UInt8), ([108, 105, 110, 107] : List UInt8), ([] : List UInt8), ([108, 111, 99, 97, 116, 105, 111, 110] : List UInt8), ([] : List UInt8), ([109, 97, 120, 45, 102, 111, 114, 119, 97, 114, 100, 115] : List UInt8), ([] : List UInt8), ([112, 114, 111, 120, 121, 45, 97, 117, 116, 104, 101, 110, 116, 105, 99, 97, 116, 101] : List UInt8), ([] : List UInt8), ([112, 114, 111, 120, 121, 45, 97, 117, 116, 104, 111, 114, 105, 122, 97, 116, 105, 111, 110] : List UInt8), ([] : List UInt8), ([114, 97, 110, 103, 101] : List UInt8), ([] : List UInt8), ([114, 101, 102, 101, 114, 101, 114] : List UInt8), ([] : List UInt8), ([114, 101, 102, 114, 101, 115, 104] : List UInt8), ([] : List UInt8), ([114, 101, 116, 114, 121, 45, 97, 102, 116, 101, 114] : List UInt8), ([] : List UInt8), ([115, 101, 114, 118, 101, 114] : List UInt8), ([] : List UInt8), ([115, 101, 116, 45, 99, 111, 111, 107, 105, 101] : List UInt8), ([] : List UInt8), ([115, 116, 114, 105, 99, 116, 45, 116, 114, 97, 110, 115, 112, 111, 114, 116, 45, 115, 101, 99, 117, 114, 105, 116, 121] : List UInt8), ([] : List UInt8), ([116, 114, 97, 110, 115, 102, 101, 114, 45, 101, 110, 99, 111, 100, 105, 110, 103] : List UInt8), ([] : List UInt8), ([117, 115, 101, 114, 45, 97, 103, 101, 110, 116] : List UInt8), ([] : List UInt8), ([118, 97, 114, 121] : List UInt8), ([] : List UInt8), ([118, 105, 97] : List UInt8), ([] : List UInt8), ([119, 119, 119, 45, 97, 117, 116, 104, 101, 110, 116, 105, 99, 97, 116, 101] : List UInt8), ([] : List UInt8)] : List (List UInt8))
set_option maxHeartbeats 20000000 in
set_option maxRecDepth 100000 in
theorem louverref04qTable.calls {b : Nat} {w0 W : World} {R : Frag} {Fs : List Frag}   {r0q : (List (List UInt8))}  (H : louverref04qTable.f = some r0q) (hS : St b w0 W R (Fs)) :
  Calls Tryd.prog 61 ([] : List Value).toArray W (fun e W' => ∃ (u0q : Value) (N0q : Frag), e = .returned (u0q) ∧ Row kStr 9 b w0 R u0q r0q N0q ∧ St b w0 W' R (N0q :: Fs)) := by
 unfold louverref04qTable.f at H
 refine calls_enter Tryd.func61 rfl 2 rfl (by kernel_rfl) (fun a h => ?_)
 refine wp_seq ?_
 refine WL.start ?_
 refine WL.bl 1 1 h [(0, .slice none 0 0)] (fun a10a h10b => ?_)
 refine WL.dn ?_
 refine wp_seq ?_
 refine WL.start ?_
 refine WL.oq h10b rfl ?_
 refine owp_nw (fun g_ => .slice (some ⟨g_, 0, none⟩) 122 122) (.cells ([.string (mkS [58, 97, 117, 116, 104, 111, 114, 105, 116, 121]), .string (mkS []), .string (mkS [58, 109, 101, 116, 104, 111, 100]), .string (mkS [71, 69, 84]), .string (mkS [58, 109, 101, 116, 104, 111, 100]), .string (mkS [80, 79, 83, 84]), .string (mkS [58, 112, 97, 116, 104]), .string (mkS [47]), .string (mkS [58, 112, 97, 116, 104]), .string (mkS [47, 105, 110, 100, 101, 120, 46, 104, 116, 109, 108]), .string (mkS [58, 115, 99, 104, 101, 109, 101]), .string (mkS [104, 116, 116, 112]), .string (mkS [58, 115, 99, 104, 101, 109, 101]), .string (mkS [104, 116, 116, 112, 115]), .string (mkS [58, 115, 116, 97, 116, 117, 115]), .string (mkS [50, 48, 48]), .string (mkS [58, 115, 116, 97, 116, 117, 115]), .string (mkS [50, 48, 52]), .string (mkS [58, 115, 116, 97, 116, 117, 115]), .string (mkS [50, 48, 54]), .string (mkS [58, 115, 116, 97, 116, 117, 115]), .string (mkS [51, 48, 52]), .string (mkS [58, 115, 116, 97, 116, 117, 115]), .string (mkS [52, 48, 48]), .string (mkS [58, 115, 116, 97, 116, 117, 115]), .string (mkS [52, 48, 52]), .string (mkS [58, 115, 116, 97, 116, 117, 115]), .string (mkS [53, 48, 48]), .string (mkS [97, 99, 99, 101, 112, 116, 45, 99, 104, 97, 114, 115, 101, 116]), .string (mkS []), .string (mkS [97, 99, 99, 101, 112, 116, 45, 101, 110, 99, 111, 100, 105, 110, 103]), .string (mkS [103, 122, 105, 112, 44, 32, 100, 101, 102, 108, 97, 116, 101]), .string (mkS [97, 99, 99, 101, 112, 116, 45, 108, 97, 110, 103, 117, 97, 103, 101]), .string (mkS []), .string (mkS [97, 99, 99, 101, 112, 116, 45, 114, 97, 110, 103, 101, 115]), .string (mkS []), .string (mkS [97, 99, 99, 101, 112, 116]), .string (mkS []), .string (mkS [97, 99, 99, 101, 115, 115, 45, 99, 111, 110, 116, 114, 111, 108, 45, 97, 108, 108, 111, 119, 45, 111, 114, 105, 103, 105, 110]), .string (mkS []), .string (mkS [97, 103, 101]), .string (mkS []), .string (mkS [97, 108, 108, 111, 119]), .string (mkS []), .string (mkS [97, 117, 116, 104, 111, 114, 105, 122, 97, 116, 105, 111, 110]), .string (mkS []), .string (mkS [99, 97, 99, 104, 101, 45, 99, 111, 110, 116, 114, 111, 108]), .string (mkS []), .string (mkS [99, 111, 110, 116, 101, 110, 116, 45, 100, 105, 115, 112, 111, 115, 105, 116, 105, 111, 110]), .string (mkS []), .string (mkS [99, 111, 110, 116, 101, 110, 116, 45, 101, 110, 99, 111, 100, 105, 110, 103]), .string (mkS []), .string (mkS [99, 111, 110, 116, 101, 110, 116, 45, 108, 97, 110, 103, 117, 97, 103, 101]), .string (mkS []), .string (mkS [99, 111, 110, 116, 101, 110, 116, 45, 108, 101, 110, 103, 116, 104]), .string (mkS []), .string (mkS [99, 111, 110, 116, 101, 110, 116, 45, 108, 111, 99, 97, 116, 105, 111, 110]), .string (mkS []), .string (mkS [99, 111, 110, 116, 101, 110, 116, 45, 114, 97, 110, 103, 101]), .string (mkS []), .string (mkS [99, 111, 110, 116, 101, 110, 116, 45, 116, 121, 112, 101]), .string (mkS []), .string (mkS [99, 111, 111, 107, 105, 101]), .string (mkS []), .string (mkS [100, 97, 116, 101]), .string (mkS []), .string (mkS [101, 116, 97, 103]), .string (mkS []), .string (mkS [101, 120, 112, 101, 99, 116]), .string (mkS []), .string (mkS [101, 120, 112, 105, 114, 101, 115]), .string (mkS []), .string (mkS [102, 114, 111, 109]), .string (mkS []), .string (mkS [104, 111, 115, 116]), .string (mkS []), .string (mkS [105, 102, 45, 109, 97, 116, 99, 104]), .string (mkS []), .string (mkS [105, 102, 45, 109, 111, 100, 105, 102, 105, 101, 100, 45, 115, 105, 110, 99, 101]), .string (mkS []), .string (mkS [105, 102, 45, 110, 111, 110, 101, 45, 109, 97, 116, 99, 104]), .string (mkS []), .string (mkS [105, 102, 45, 114, 97, 110, 103, 101]), .string (mkS []), .string (mkS [105, 102, 45, 117, 110, 109, 111, 100, 105, 102, 105, 101, 100, 45, 115, 105, 110, 99, 101]), .string (mkS []), .string (mkS [108, 97, 115, 116, 45, 109, 111, 100, 105, 102, 105, 101, 100]), .string (mkS []), .string (mkS [108, 105, 110, 107]), .string (mkS []), .string (mkS [108, 111, 99, 97, 116, 105, 111, 110]), .string (mkS []), .string (mkS [109, 97, 120, 45, 102, 111, 114, 119, 97, 114, 100, 115]), .string (mkS []), .string (mkS [112, 114, 111, 120, 121, 45, 97, 117, 116, 104, 101, 110, 116, 105, 99, 97, 116, 101]), .string (mkS []), .string (mkS [112, 114, 111, 120, 121, 45, 97, 117, 116, 104, 111, 114, 105, 122, 97, 116, 105, 111, 110]), .string (mkS []), .string (mkS [114, 97, 110, 103, 101]), .string (mkS []), .string (mkS [114, 101, 102, 101, 114, 101, 114]), .string (mkS []), .string (mkS [114, 101, 102, 114, 101, 115, 104]), .string (mkS []), .string (mkS [114, 101, 116, 114, 121, 45, 97, 102, 116, 101, 114]), .string (mkS []), .string (mkS [115, 101, 114, 118, 101, 114]), .string (mkS []), .string (mkS [115, 101, 116, 45, 99, 111, 111, 107, 105, 101]), .string (mkS []), .string (mkS [115, 116, 114, 105, 99, 116, 45, 116, 114, 97, 110, 115, 112, 111, 114, 116, 45, 115, 101, 99, 117, 114, 105, 116, 121]), .string (mkS []), .string (mkS [116, 114, 97, 110, 115, 102, 101, 114, 45, 101, 110, 99, 111, 100, 105, 110, 103]), .string (mkS []), .string (mkS [117, 115, 101, 114, 45, 97, 103, 101, 110, 116]), .string (mkS []), .string (mkS [118, 97, 114, 121]), .string (mkS []), .string (mkS [118, 105, 97]), .string (mkS []), .string (mkS [119, 119, 119, 45, 97, 117, 116, 104, 101, 110, 116, 105, 99, 97, 116, 101]), .string (mkS [])] : List Value).toArray 9 (0, 0)) h10b rfl hS (fun a10c W10e g10f h10d hS10g => ?_)
 have hr10h : Row kStr 9 b w0 R (.slice (some ⟨g10f, 0, none⟩) 122 122) ([([58, 97, 117, 116, 104, 111, 114, 105, 116, 121] : List UInt8), ([] : List UInt8), ([58, 109, 101, 116, 104, 111, 100] : List UInt8), ([71, 69, 84] : List UInt8), ([58, 109, 101, 116, 104, 111, 100] : List UInt8), ([80, 79, 83, 84] : List UInt8), ([58, 112, 97, 116, 104] : List UInt8), ([47] : List UInt8), ([58, 112, 97, 116, 104] : List UInt8), ([47, 105, 110, 100, 101, 120, 46, 104, 116, 109, 108] : List UInt8), ([58, 115, 99, 104, 101, 109, 101] : List UInt8), ([104, 116, 116, 112] : List UInt8), ([58, 115, 99, 104, 101, 109, 101] : List UInt8), ([104, 116, 116, 112, 115] : List UInt8), ([58, 115, 116, 97, 116, 117, 115] : List UInt8), ([50, 48, 48] : List UInt8), ([58, 115, 116, 97, 116, 117, 115] : List UInt8), ([50, 48, 52] : List UInt8), ([58, 115, 116, 97, 116, 117, 115] : List UInt8), ([50, 48, 54] : List UInt8), ([58, 115, 116, 97, 116, 117, 115] : List UInt8), ([51, 48, 52] : List UInt8), ([58, 115, 116, 97, 116, 117, 115] : List UInt8), ([52, 48, 48] : List UInt8), ([58, 115, 116, 97, 116, 117, 115] : List UInt8), ([52, 48, 52] : List UInt8), ([58, 115, 116, 97, 116, 117, 115] : List UInt8), ([53, 48, 48] : List UInt8), ([97, 99, 99, 101, 112, 116, 45, 99, 104, 97, 114, 115, 101, 116] : List UInt8), ([] : List UInt8), ([97, 99, 99, 101, 112, 116, 45, 101, 110, 99, 111, 100, 105, 110, 103] : List UInt8), ([103, 122, 105, 112, 44, 32, 100, 101, 102, 108, 97, 116, 101] : List UInt8), ([97, 99, 99, 101, 112, 116, 45, 108, 97, 110, 103, 117, 97, 103, 101] : List UInt8), ([] : List UInt8), ([97, 99, 99, 101, 112, 116, 45, 114, 97, 110, 103, 101, 115] : List UInt8), ([] : List UInt8), ([97, 99, 99, 101, 112, 116] : List UInt8), ([] : List UInt8), ([97, 99, 99, 101, 115, 115, 45, 99, 111, 110, 116, 114, 111, 108, 45, 97, 108, 108, 111, 119, 45, 111, 114, 105, 103, 105, 110] : List UInt8), ([] : List UInt8), ([97, 103, 101] : List UInt8), ([] : List UInt8), ([97, 108, 108, 111, 119] : List UInt8), ([] : List UInt8), ([97, 117, 116, 104, 111, 114, 105, 122, 97, 116, 105, 111, 110] : List UInt8), ([] : List UInt8), ([99, 97, 99, 104, 101, 45, 99, 111, 110, 116, 114, 111, 108] : List UInt8), ([] : List UInt8), ([99, 111, 110, 116, 101, 110, 116, 45, 100, 105, 115, 112, 111, 115, 105, 116, 105, 111, 110] : List UInt8), ([] : List UInt8), ([99, 111, 110, 116, 101, 110, 116, 45, 101, 110, 99, 111, 100, 105, 110, 103] : List UInt8), ([] : List UInt8), ([99, 111, 110, 116, 101, 110, 116, 45, 108, 97, 110, 103, 117, 97, 103, 101] : List UInt8), ([] : List UInt8), ([99, 111, 110, 116, 101, 110, 116, 45, 108, 101, 110, 103, 116, 104] : List UInt8), ([] : List UInt8), ([99, 111, 110, 116, 101, 110, 116, 45, 108, 111, 99, 97, 116, 105, 111, 110] : List UInt8), ([] : List UInt8), ([99, 111, 110, 116, 101, 110, 116, 45, 114, 97, 110, 103, 101] : List UInt8), ([] : List UInt8), ([99, 111, 110, 116, 101, 110, 116, 45, 116, 121, 112, 101] : List UInt8), ([] : List UInt8), ([99, 111, 111, 107, 105, 101] : List UInt8), ([] : List UInt8), ([100, 97, 116, 101] : List UInt8), ([] : List UInt8), ([101, 116, 97, 103] : List UInt8), ([] : List UInt8), ([101, 120, 112, 101, 99, 116] : List UInt8), ([] : List UInt8), ([101, 120, 112, 105, 114, 101, 115] : List UInt8), ([] : List UInt8), ([102, 114, 111, 109] : List UInt8), ([] : List UInt8), ([104, 111, 115, 116] : List UInt8), ([] : List UInt8), ([105, 102, 45, 109, 97, 116, 99, 104] : List UInt8), ([] : List UInt8), ([105, 102, 45, 109, 111, 100, 105, 102, 105, 101, 100, 45, 115, 105, 110, 99, 101] : List UInt8), ([] : List UInt8), ([105, 102, 45, 110, 111, 110, 101, 45, 109, 97, 116, 99, 104] : List UInt8), ([] : List UInt8), ([105, 102, 45, 114, 97, 110, 103, 101] : List UInt8), ([] : List UInt8), ([105, 102, 45, 117, 110, 109, 111, 100, 105, 102, 105, 101, 100, 45, 115, 105, 110, 99, 101] : List UInt8), ([] : List UInt8), ([108, 97, 115, 116, 45, 109, 111, 100, 105, 102, 105, 101, 100] : List UInt8), ([] : List UInt8), ([108, 105, 110, 107] : List UInt8), ([] : List UInt8), ([108, 111, 99, 97, 116, 105, 111, 110] : List UInt8), ([] : List UInt8), ([109, 97, 120, 45, 102, 111, 114, 119, 97, 114, 100, 115] : List UInt8), ([] : List UInt8), ([112, 114, 111, 120, 121, 45, 97, 117, 116, 104, 101, 110, 116, 105, 99, 97, 116, 101] : List UInt8), ([] : List UInt8), ([112, 114, 111, 120, 121, 45, 97, 117, 116, 104, 111, 114, 105, 122, 97, 116, 105, 111, 110] : List UInt8), ([] : List UInt8), ([114, 97, 110, 103, 101] : List UInt8), ([] : List UInt8), ([114, 101, 102, 101, 114, 101, 114] : List UInt8), ([] : List UInt8), ([114, 101, 102, 114, 101, 115, 104] : List UInt8), ([] : List UInt8), ([114, 101, 116, 114, 121, 45, 97, 102, 116, 101, 114] : List UInt8), ([] : List UInt8), ([115, 101, 114, 118, 101, 114] : List UInt8), ([] : List UInt8), ([115, 101, 116, 45, 99, 111, 111, 107, 105, 101] : List UInt8), ([] : List UInt8), ([115, 116, 114, 105, 99, 116, 45, 116, 114, 97, 110, 115, 112, 111, 114, 116, 45, 115, 101, 99, 117, 114, 105, 116, 121] : List UInt8), ([] : List UInt8), ([116, 114, 97, 110, 115, 102, 101, 114, 45, 101, 110, 99, 111, 100, 105, 110, 103] : List UInt8), ([] : List UInt8), ([117, 115, 101, 114, 45, 97, 103, 101, 110, 116] : List UInt8), ([] : List UInt8), ([118, 97, 114, 121] : List UInt8), ([] : List UInt8), ([118, 105, 97] : List UInt8), ([] : List UInt8), ([119, 119, 119, 45, 97, 117, 116, 104, 101, 110, 116, 105, 99, 97, 116, 101] : List UInt8), ([] : List UInt8)] : List (List UInt8)) (bx g10f 9 [.string (mkS [58, 97, 117, 116, 104, 111, 114, 105, 116, 121]), .string (mkS []), .string (mkS [58, 109, 101, 116, 104, 111, 100]), .string (mkS [71, 69, 84]), .string (mkS [58, 109, 101, 116, 104, 111, 100]), .string (mkS [80, 79, 83, 84]), .string (mkS [58, 112, 97, 116, 104]), .string (mkS [47]), .string (mkS [58, 112, 97, 116, 104]), .string (mkS [47, 105, 110, 100, 101, 120, 46, 104, 116, 109, 108]), .string (mkS [58, 115, 99, 104, 101, 109, 101]), .string (mkS [104, 116, 116, 112]), .string (mkS [58, 115, 99, 104, 101, 109, 101]), .string (mkS [104, 116, 116, 112, 115]), .string (mkS [58, 115, 116, 97, 116, 117, 115]), .string (mkS [50, 48, 48]), .string (mkS [58, 115, 116, 97, 116, 117, 115]), .string (mkS [50, 48, 52]), .string (mkS [58, 115, 116, 97, 116, 117, 115]), .string (mkS [50, 48, 54]), .string (mkS [58, 115, 116, 97, 116, 117, 115]), .string (mkS [51, 48, 52]), .string (mkS [58, 115, 116, 97, 116, 117, 115]), .string (mkS [52, 48, 48]), .string (mkS [58, 115, 116, 97, 116, 117, 115]), .string (mkS [52, 48, 52]), .string (mkS [58, 115, 116, 97, 116, 117, 115]), .string (mkS [53, 48, 48]), .string (mkS [97, 99, 99, 101, 112, 116, 45, 99, 104, 97, 114, 115, 101, 116]), .string (mkS []), .string (mkS [97, 99, 99, 101, 112, 116, 45, 101, 110, 99, 111, 100, 105, 110, 103]), .string (mkS [103, 122, 105, 112, 44, 32, 100, 101, 102, 108, 97, 116, 101]), .string (mkS [97, 99, 99, 101, 112, 116, 45, 108, 97, 110, 103, 117, 97, 103, 101]), .string (mkS []), .string (mkS [97, 99, 99, 101, 112, 116, 45, 114, 97, 110, 103, 101, 115]), .string (mkS []), .string (mkS [97, 99, 99, 101, 112, 116]), .string (mkS []), .string (mkS [97, 99, 99, 101, 115, 115, 45, 99, 111, 110, 116, 114, 111, 108, 45, 97, 108, 108, 111, 119, 45, 111, 114, 105, 103, 105, 110]), .string (mkS []), .string (mkS [97, 103, 101]), .string (mkS []), .string (mkS [97, 108, 108, 111, 119]), .string (mkS []), .string (mkS [97, 117, 116, 104, 111, 114, 105, 122, 97, 116, 105, 111, 110]), .string (mkS []), .string (mkS [99, 97, 99, 104, 101, 45, 99, 111, 110, 116, 114, 111, 108]), .string (mkS []), .string (mkS [99, 111, 110, 116, 101, 110, 116, 45, 100, 105, 115, 112, 111, 115, 105, 116, 105, 111, 110]), .string (mkS []), .string (mkS [99, 111, 110, 116, 101, 110, 116, 45, 101, 110, 99, 111, 100, 105, 110, 103]), .string (mkS []), .string (mkS [99, 111, 110, 116, 101, 110, 116, 45, 108, 97, 110, 103, 117, 97, 103, 101]), .string (mkS []), .string (mkS [99, 111, 110, 116, 101, 110, 116, 45, 108, 101, 110, 103, 116, 104]), .string (mkS []), .string (mkS [99, 111, 110, 116, 101, 110, 116, 45, 108, 111, 99, 97, 116, 105, 111, 110]), .string (mkS []), .string (mkS [99, 111, 110, 116, 101, 110, 116, 45, 114, 97, 110, 103, 101]), .string (mkS []), .string (mkS [99, 111, 110, 116, 101, 110, 116, 45, 116, 121, 112, 101]), .string (mkS []), .string (mkS [99, 111, 111, 107, 105, 101]), .string (mkS []), .string (mkS [100, 97, 116, 101]), .string (mkS []), .string (mkS [101, 116, 97, 103]), .string (mkS []), .string (mkS [101, 120, 112, 101, 99, 116]), .string (mkS []), .string (mkS [101, 120, 112, 105, 114, 101, 115]), .string (mkS []), .string (mkS [102, 114, 111, 109]), .string (mkS []), .string (mkS [104, 111, 115, 116]), .string (mkS []), .string (mkS [105, 102, 45, 109, 97, 116, 99, 104]), .string (mkS []), .string (mkS [105, 102, 45, 109, 111, 100, 105, 102, 105, 101, 100, 45, 115, 105, 110, 99, 101]), .string (mkS []), .string (mkS [105, 102, 45, 110, 111, 110, 101, 45, 109, 97, 116, 99, 104]), .string (mkS []), .string (mkS [105, 102, 45, 114, 97, 110, 103, 101]), .string (mkS []), .string (mkS [105, 102, 45, 117, 110, 109, 111, 100, 105, 102, 105, 101, 100, 45, 115, 105, 110, 99, 101]), .string (mkS []), .string (mkS [108, 97, 115, 116, 45, 109, 111, 100, 105, 102, 105, 101, 100]), .string (mkS []), .string (mkS [108, 105, 110, 107]), .string (mkS []), .string (mkS [108, 111, 99, 97, 116, 105, 111, 110]), .string (mkS []), .string (mkS [109, 97, 120, 45, 102, 111, 114, 119, 97, 114, 100, 115]), .string (mkS []), .string (mkS [112, 114, 111, 120, 121, 45, 97, 117, 116, 104, 101, 110, 116, 105, 99, 97, 116, 101]), .string (mkS []), .string (mkS [112, 114, 111, 120, 121, 45, 97, 117, 116, 104, 111, 114, 105, 122, 97, 116, 105, 111, 110]), .string (mkS []), .string (mkS [114, 97, 110, 103, 101]), .string (mkS []), .string (mkS [114, 101, 102, 101, 114, 101, 114]), .string (mkS []), .string (mkS [114, 101, 102, 114, 101, 115, 104]), .string (mkS []), .string (mkS [114, 101, 116, 114, 121, 45, 97, 102, 116, 101, 114]), .string (mkS []), .string (mkS [115, 101, 114, 118, 101, 114]), .string (mkS []), .string (mkS [115, 101, 116, 45, 99, 111, 111, 107, 105, 101]), .string (mkS []), .string (mkS [115, 116, 114, 105, 99, 116, 45, 116, 114, 97, 110, 115, 112, 111, 114, 116, 45, 115, 101, 99, 117, 114, 105, 116, 121]), .string (mkS []), .string (mkS [116, 114, 97, 110, 115, 102, 101, 114, 45, 101, 110, 99, 111, 100, 105, 110, 103]), .string (mkS []), .string (mkS [117, 115, 101, 114, 45, 97, 103, 101, 110, 116]), .string (mkS []), .string (mkS [118, 97, 114, 121]), .string (mkS []), .string (mkS [118, 105, 97]), .string (mkS []), .string (mkS [119, 119, 119, 45, 97, 117, 116, 104, 101, 110, 116, 105, 99, 97, 116, 101]), .string (mkS [])]) := Row.lit (xs := ([([58, 97, 117, 116, 104, 111, 114, 105, 116, 121] : List UInt8), ([] : List UInt8), ([58, 109, 101, 116, 104, 111, 100] : List UInt8), ([71, 69, 84] : List UInt8), ([58, 109, 101, 116, 104, 111, 100] : List UInt8), ([80, 79, 83, 84] : List UInt8), ([58, 112, 97, 116, 104] : List UInt8), ([47] : List UInt8), ([58, 112, 97, 116, 104] : List UInt8), ([47, 105, 110, 100, 101, 120, 46, 104, 116, 109, 108] : List UInt8), ([58, 115, 99, 104, 101, 109, 101] : List UInt8), ([104, 116, 116, 112] : List UInt8), ([58, 115, 99, 104, 101, 109, 101] : List UInt8), ([104, 116, 116, 112, 115] : List UInt8), ([58, 115, 116, 97, 116, 117, 115] : List UInt8), ([50, 48, 48] : List UInt8), ([58, 115, 116, 97, 116, 117, 115] : List UInt8), ([50, 48, 52] : List UInt8), ([58, 115, 116, 97, 116, 117, 115] : List UInt8), ([50, 48, 54] : List UInt8), ([58, 115, 116, 97, 116, 117, 115] : List UInt8), ([51, 48, 52] : List UInt8), ([58, 115, 116, 97, 116, 117, 115] : List UInt8), ([52, 48, 48] : List UInt8), ([58, 115, 116, 97, 116, 117, 115] : List UInt8), ([52, 48, 52] : List UInt8), ([58, 115, 116, 97, 116, 117, 115] : List UInt8), ([53, 48, 48] : List UInt8), ([97, 99, 99, 101, 112, 116, 45, 99, 104, 97, 114, 115, 101, 116] : List UInt8), ([] : List UInt8), ([97, 99, 99, 101, 112, 116, 45, 101, 110, 99, 111, 100, 105, 110, 103] : List UInt8), ([103, 122, 105, 112, 44, 32, 100, 101, 102, 108, 97, 116, 101] : List UInt8), ([97, 99, 99, 101, 112, 116, 45, 108, 97, 110, 103, 117, 97, 103, 101] : List UInt8), ([] : List UInt8), ([97, 99, 99, 101, 112, 116, 45, 114, 97, 110, 103, 101, 115] : List UInt8), ([] : List UInt8), ([97, 99, 99, 101, 112, 116] : List UInt8), ([] : List UInt8), ([97, 99, 99, 101, 115, 115, 45, 99, 111, 110, 116, 114, 111, 108, 45, 97, 108, 108, 111, 119, 45, 111, 114, 105, 103, 105, 110] : List UInt8), ([] : List UInt8), ([97, 103, 101] : List UInt8), ([] : List UInt8), ([97, 108, 108, 111, 119] : List UInt8), ([] : List UInt8), ([97, 117, 116, 104, 111, 114, 105, 122, 97, 116, 105, 111, 110] : List UInt8), ([] : List UInt8), ([99, 97, 99, 104, 101, 45, 99, 111, 110, 116, 114, 111, 108] : List UInt8), ([] : List UInt8), ([99, 111, 110, 116, 101, 110, 116, 45, 100, 105, 115, 112, 111, 115, 105, 116, 105, 111, 110] : List UInt8), ([] : List UInt8), ([99, 111, 110, 116, 101, 110, 116, 45, 101, 110, 99, 111, 100, 105, 110, 103] : List UInt8), ([] : List UInt8), ([99, 111, 110, 116, 101, 110, 116, 45, 108, 97, 110, 103, 117, 97, 103, 101] : List UInt8), ([] : List UInt8), ([99, 111, 110, 116, 101, 110, 116, 45, 108, 101, 110, 103, 116, 104] : List UInt8), ([] : List UInt8), ([99, 111, 110, 116, 101, 110, 116, 45, 108, 111, 99, 97, 116, 105, 111, 110] : List UInt8), ([] : List UInt8), ([99, 111, 110, 116, 101, 110, 116, 45, 114, 97, 110, 103, 101] : List UInt8), ([] : List UInt8), ([99, 111, 110, 116, 101, 110, 116, 45, 116, 121, 112, 101] : List UInt8), ([] : List UInt8), ([99, 111, 111, 107, 105, 101] : List UInt8), ([] : List UInt8), ([100, 97, 116, 101] : List UInt8), ([] : List UInt8), ([101, 116, 97, 103] : List UInt8), ([] : List UInt8), ([101, 120, 112, 101, 99, 116] : List UInt8), ([] : List UInt8), ([101, 120, 112, 105, 114, 101, 115] : List UInt8), ([] : List UInt8), ([102, 114, 111, 109] : List UInt8), ([] : List UInt8), ([104, 111, 115, 116] : List UInt8), ([] : List UInt8), ([105, 102, 45, 109, 97, 116, 99, 104] : List UInt8), ([] : List UInt8), ([105, 102, 45, 109, 111, 100, 105, 102, 105, 101, 100, 45, 115, 105, 110, 99, 101] : List UInt8), ([] : List UInt8), ([105, 102, 45, 110, 111, 110, 101, 45, 109, 97, 116, 99, 104] : List UInt8), ([] : List UInt8), ([105, 102, 45, 114, 97, 110, 103, 101] : List UInt8), ([] : List UInt8), ([105, 102, 45, 117, 110, 109, 111, 100, 105, 102, 105, 101, 100, 45, 115, 105, 110, 99, 101] : List UInt8), ([] : List UInt8), ([108, 97, 115, 116, 45, 109, 111, 100, 105, 102, 105, 101, 100] : List UInt8), ([] : List UInt8), ([108, 105, 110, 107] : List UInt8), ([] : List UInt8), ([108, 111, 99, 97, 116, 105, 111, 110] : List UInt8), ([] : List UInt8), ([109, 97, 120, 45, 102, 111, 114, 119, 97, 114, 100, 115] : List UInt8), ([] : List UInt8), ([112, 114, 111, 120, 121, 45, 97, 117, 116, 104, 101, 110, 116, 105, 99, 97, 116, 101] : List UInt8), ([] : List UInt8), ([112, 114, 111, 120, 121, 45, 97, 117, 116, 104, 111, 114, 105, 122, 97, 116, 105, 111, 110] : List UInt8), ([] : List UInt8), ([114, 97, 110, 103, 101] : List UInt8), ([] : List UInt8), ([114, 101, 102, 101, 114, 101, 114] : List UInt8), ([] : List UInt8), ([114, 101, 102, 114, 101, 115, 104] : List UInt8), ([] : List UInt8), ([114, 101, 116, 114, 121, 45, 97, 102, 116, 101, 114] : List UInt8), ([] : List UInt8), ([115, 101, 114, 118, 101, 114] : List UInt8), ([] : List UInt8), ([115, 101, 116, 45, 99, 111, 111, 107, 105, 101] : List UInt8), ([] : List UInt8), ([115, 116, 114, 105, 99, 116, 45, 116, 114, 97, 110, 115, 112, 111, 114, 116, 45, 115, 101, 99, 117, 114, 105, 116, 121] : List UInt8), ([] : List UInt8), ([116, 114, 97, 110, 115, 102, 101, 114, 45, 101, 110, 99, 111, 100, 105, 110, 103] : List UInt8), ([] : List UInt8), ([117, 115, 101, 114, 45, 97, 103, 101, 110, 116] : List UInt8), ([] : List UInt8), ([118, 97, 114, 121] : List UInt8), ([] : List UInt8), ([118, 105, 97] : List UInt8), ([] : List UInt8), ([119, 119, 119, 45, 97, 117, 116, 104, 101, 110, 116, 105, 99, 97, 116, 101] : List UInt8), ([] : List UInt8)] : List (List UInt8))) (Mi := []) (reps_str _) (by simp [maxLen])
 refine WL.bl 1 2 h10d [(0, .slice (some ⟨g10f, 0, none⟩) 122 122)] (fun a10i h10j => ?_)
 refine WL.dn ?_
 refine wp_ret ?_
 obtain rfl := Option.some.inj H
 repeat (first | with_reducible refine t1 ?_ | with_reducible refine t2 ?_ | with_reducible refine t3 ?_)
 refine bret (.slice (some ⟨g10f, 0, none⟩) 122 122) h10j ?_
 exact ⟨.slice (some ⟨g10f, 0, none⟩) 122 122, (bx g10f 9 [.string (mkS [58, 97, 117, 116, 104, 111, 114, 105, 116, 121]), .string (mkS []), .string (mkS [58, 109, 101, 116, 104, 111, 100]), .string (mkS [71, 69, 84]), .string (mkS [58, 109, 101, 116, 104, 111, 100]), .string (mkS [80, 79, 83, 84]), .string (mkS [58, 112, 97, 116, 104]), .string (mkS [47]), .string (mkS [58, 112, 97, 116, 104]), .string (mkS [47, 105, 110, 100, 101, 120, 46, 104, 116, 109, 108]), .string (mkS [58, 115, 99, 104, 101, 109, 101]), .string (mkS [104, 116, 116, 112]), .string (mkS [58, 115, 99, 104, 101, 109, 101]), .string (mkS [104, 116, 116, 112, 115]), .string (mkS [58, 115, 116, 97, 116, 117, 115]), .string (mkS [50, 48, 48]), .string (mkS [58, 115, 116, 97, 116, 117, 115]), .string (mkS [50, 48, 52]), .string (mkS [58, 115, 116, 97, 116, 117, 115]), .string (mkS [50, 48, 54]), .string (mkS [58, 115, 116, 97, 116, 117, 115]), .string (mkS [51, 48, 52]), .string (mkS [58, 115, 116, 97, 116, 117, 115]), .string (mkS [52, 48, 48]), .string (mkS [58, 115, 116, 97, 116, 117, 115]), .string (mkS [52, 48, 52]), .string (mkS [58, 115, 116, 97, 116, 117, 115]), .string (mkS [53, 48, 48]), .string (mkS [97, 99, 99, 101, 112, 116, 45, 99, 104, 97, 114, 115, 101, 116]), .string (mkS []), .string (mkS [97, 99, 99, 101, 112, 116, 45, 101, 110, 99, 111, 100, 105, 110, 103]), .string (mkS [103, 122, 105, 112, 44, 32, 100, 101, 102, 108, 97, 116, 101]), .string (mkS [97, 99, 99, 101, 112, 116, 45, 108, 97, 110, 103, 117, 97, 103, 101]), .string (mkS []), .string (mkS [97, 99, 99, 101, 112, 116, 45, 114, 97, 110, 103, 101, 115]), .string (mkS []), .string (mkS [97, 99, 99, 101, 112, 116]), .string (mkS []), .string (mkS [97, 99, 99, 101, 115, 115, 45, 99, 111, 110, 116, 114, 111, 108, 45, 97, 108, 108, 111, 119, 45, 111, 114, 105, 103, 105, 110]), .string (mkS []), .string (mkS [97, 103, 101]), .string (mkS []), .string (mkS [97, 108, 108, 111, 119]), .string (mkS []), .string (mkS [97, 117, 116, 104, 111, 114, 105, 122, 97, 116, 105, 111, 110]), .string (mkS []), .string (mkS [99, 97, 99, 104, 101, 45, 99, 111, 110, 116, 114, 111, 108]), .string (mkS []), .string (mkS [99, 111, 110, 116, 101, 110, 116, 45, 100, 105, 115, 112, 111, 115, 105, 116, 105, 111, 110]), .string (mkS []), .string (mkS [99, 111, 110, 116, 101, 110, 116, 45, 101, 110, 99, 111, 100, 105, 110, 103]), .string (mkS []), .string (mkS [99, 111, 110, 116, 101, 110, 116, 45, 108, 97, 110, 103, 117, 97, 103, 101]), .string (mkS []), .string (mkS [99, 111, 110, 116, 101, 110, 116, 45, 108, 101, 110, 103, 116, 104]), .string (mkS []), .string (mkS [99, 111, 110, 116, 101, 110, 116, 45, 108, 111, 99, 97, 116, 105, 111, 110]), .string (mkS []), .string (mkS [99, 111, 110, 116, 101, 110, 116, 45, 114, 97, 110, 103, 101]), .string (mkS []), .string (mkS [99, 111, 110, 116, 101, 110, 116, 45, 116, 121, 112, 101]), .string (mkS []), .string (mkS [99, 111, 111, 107, 105, 101]), .string (mkS []), .string (mkS [100, 97, 116, 101]), .string (mkS []), .string (mkS [101, 116, 97, 103]), .string (mkS []), .string (mkS [101, 120, 112, 101, 99, 116]), .string (mkS []), .string (mkS [101, 120, 112, 105, 114, 101, 115]), .string (mkS []), .string (mkS [102, 114, 111, 109]), .string (mkS []), .string (mkS [104, 111, 115, 116]), .string (mkS []), .string (mkS [105, 102, 45, 109, 97, 116, 99, 104]), .string (mkS []), .string (mkS [105, 102, 45, 109, 111, 100, 105, 102, 105, 101, 100, 45, 115, 105, 110, 99, 101]), .string (mkS []), .string (mkS [105, 102, 45, 110, 111, 110, 101, 45, 109, 97, 116, 99, 104]), .string (mkS []), .string (mkS [105, 102, 45, 114, 97, 110, 103, 101]), .string (mkS []), .string (mkS [105, 102, 45, 117, 110, 109, 111, 100, 105, 102, 105, 101, 100, 45, 115, 105, 110, 99, 101]), .string (mkS []), .string (mkS [108, 97, 115, 116, 45, 109, 111, 100, 105, 102, 105, 101, 100]), .string (mkS []), .string (mkS [108, 105, 110, 107]), .string (mkS []), .string (mkS [108, 111, 99, 97, 116, 105, 111, 110]), .string (mkS []), .string (mkS [109, 97, 120, 45, 102, 111, 114, 119, 97, 114, 100, 115]), .string (mkS []), .string (mkS [112, 114, 111, 120, 121, 45, 97, 117, 116, 104, 101, 110, 116, 105, 99, 97, 116, 101]), .string (mkS []), .string (mkS [112, 114, 111, 120, 121, 45, 97, 117, 116, 104, 111, 114, 105, 122, 97, 116, 105, 111, 110]), .string (mkS []), .string (mkS [114, 97, 110, 103, 101]), .string (mkS []), .string (mkS [114, 101, 102, 101, 114, 101, 114]), .string (mkS []), .string (mkS [114, 101, 102, 114, 101, 115, 104]), .string (mkS []), .string (mkS [114, 101, 116, 114, 121, 45, 97, 102, 116, 101, 114]), .string (mkS []), .string (mkS [115, 101, 114, 118, 101, 114]), .string (mkS []), .string (mkS [115, 101, 116, 45, 99, 111, 111, 107, 105, 101]), .string (mkS []), .string (mkS [115, 116, 114, 105, 99, 116, 45, 116, 114, 97, 110, 115, 112, 111, 114, 116, 45, 115, 101, 99, 117, 114, 105, 116, 121]), .string (mkS []), .string (mkS [116, 114, 97, 110, 115, 102, 101, 114, 45, 101, 110, 99, 111, 100, 105, 110, 103]), .string (mkS []), .string (mkS [117, 115, 101, 114, 45, 97, 103, 101, 110, 116]), .string (mkS []), .string (mkS [118, 97, 114, 121]), .string (mkS []), .string (mkS [118, 105, 97]), .string (mkS []), .string (mkS [119, 119, 119, 45, 97, 117, 116, 104, 101, 110, 116, 105, 99, 97, 116, 101]), .string (mkS [])]), rfl, hr10h, hS10g⟩

/-! ### louver/louverref04.At -/
def louverref04qAt.f (p0 : Int) : Option ((List UInt8) × (List UInt8) × Bool) := bnd1 (louverref04qTable.f) fun r175 => (if p0 < 1 then (some (([] : List UInt8), ([] : List UInt8), false)) else (if p0 > (IntKind.i64.wrap (Int.tdiv (r175.length : Int) 2)) then (some (([] : List UInt8), ([] : List UInt8), false)) else (if 0 ≤ (IntKind.i64.wrap ((IntKind.i64.wrap (2 * p0)) - 2)) then (if (IntKind.i64.wrap ((IntKind.i64.wrap (2 * p0)) - 2)) < (r175.length : Int) then (if 0 ≤ (IntKind.i64.wrap ((IntKind.i64.wrap (2 * p0)) - 1)) then (if (IntKind.i64.wrap ((IntKind.i64.wrap (2 * p0)) - 1)) < (r175.length : Int) then (some ((gt [] r175 (IntKind.i64.wrap ((IntKind.i64.wrap (2 * p0)) - 2))), (gt [] r175 (IntKind.i64.wrap ((IntKind.i64.wrap (2 * p0)) - 1))), true)) else (none)) else (none)) else (none)) else (none))))
set_option maxHeartbeats 20000000 in
set_option maxRecDepth 100000 in
theorem louverref04qAt.calls {b : Nat} {w0 W : World} {R : Frag} {Fs : List Frag} {p0 : Int}  {r0q : (List UInt8)} {r1q : (List UInt8)} {r2q : Bool}  (H : louverref04qAt.f p0 = some (r0q, r1q, r2q)) (hS : St b w0 W R (Fs)) :
  Calls Tryd.prog 57 ([i6 p0] : List Value).toArray W (fun e W' => e = .returned (.tuple #[.string (mkS r0q), .string (mkS r1q), .bool r2q]) ∧ St b w0 W' R (Fs)) := by
 unfold louverref04qAt.f at H
 refine calls_enter Tryd.func57 rfl 28 rfl (by kernel_rfl) (fun a h => ?_)
 refine wp_seq ?_
 refine WL.start ?_
 refine WL.bl 3 3 h [(4, .bool false), (3, .string (mkS [])), (2, .string (mkS []))] (fun a172 h173 => ?_)
 refine WL.dn ?_
 refine wp_seq ?_
 refine WL.start ?_
 obtain ⟨r175, A174, H⟩ := bind1 H
 refine WL.oq h173 rfl ?_
 refine owp_call [] h173 rfl (by kernel_rfl) rfl Tryd.func61 (by kernel_rfl) rfl (by kernel_rfl) (louverref04qTable.calls  A174 hS) (fun e177 W176 hp178 => ?_)
 obtain ⟨v17b, M17c, rfl, hr17d, hS17e⟩ := hp178
 refine ⟨_, rfl, fun a179 h17a => ?_⟩
 obtain ⟨A17f, c17g, rfl⟩ := hr17d.form
 refine WL.bl 1 2 h17a [(5, .slice A17f r175.length c17g)] (fun a17h h17i => ?_)
 refine WL.dn ?_
 refine wp_seq ?_
 refine wp_seq ?_
 refine WL.start ?_
 refine WL.bl 3 3 h17i [(9, .bool (decide (p0 < 1))), (8, .bool (decide (p0 < 1))), (7, i6 p0)] (fun a17j h17k => ?_)
 clear h173 a172 h17a a179 h17i a17h
 by_cases c17l : p0 < 1
 ·rw [if_pos c17l] at H
  have hb_ : (decide (p0 < 1)) = true := decide_eq_true c17l
  try rw [hb_] at h17k
  clear hb_
  refine WL.sk h17k rfl rfl (fun a17m h17n => ?_)
  refine WL.sk h17n rfl rfl (fun a17o h17p => ?_)
  refine WL.sk h17p rfl rfl (fun a17q h17r => ?_)
  refine WL.sk h17r rfl rfl (fun a17s h17t => ?_)
  refine WL.sk h17t rfl rfl (fun a17u h17v => ?_)
  refine WL.bl 1 9 h17v [(15, .bool true)] (fun a17w h17x => ?_)
  refine WL.dn ?_
  refine wp_then h17x rfl ?_
  refine wp_seq ?_
  refine WL.start ?_
  refine WL.bl 3 3 h17x [(4, .bool false), (3, .string (mkS [])), (2, .string (mkS []))] (fun a17y h17z => ?_)
  refine WL.dn ?_
  refine wp_ret ?_
  have hS180 := hS17e.drop_
  obtain ⟨rfl, rfl, rfl⟩ := ret3 H
  repeat (first | with_reducible refine t1 ?_ | with_reducible refine t2 ?_ | with_reducible refine t3 ?_)
  refine bret (.tuple #[.string (mkS []), .string (mkS []), .bool false]) h17z ?_
  exact ⟨rfl, hS180⟩
 ·rw [if_neg c17l] at H
  have hb_ : (decide (p0 < 1)) = false := decide_eq_false c17l
  try rw [hb_] at h17k
  clear hb_
  refine WL.oq h17k rfl (owp_rk (i6 p0) h17k rfl (fun a181 h182 => ?_))
  refine WL.oq h182 rfl (owp_rk (.slice A17f r175.length c17g) h182 rfl (fun a183 h184 => ?_))
  refine WL.oq h184 rfl (owp_rk (i6 (r175.length : Int)) h184 rfl (fun a185 h186 => ?_))
  refine WL.oq h186 rfl (owp_rk (i6 (IntKind.i64.wrap (Int.tdiv (r175.length : Int) 2))) h186 rfl (fun a187 h188 => ?_))
  refine WL.oq h188 rfl (owp_rk (.bool (decide (p0 > (IntKind.i64.wrap (Int.tdiv (r175.length : Int) 2))))) h188 rfl (fun a189 h18a => ?_))
  refine WL.bl 1 9 h18a [(15, .bool (decide (p0 > (IntKind.i64.wrap (Int.tdiv (r175.length : Int) 2)))))] (fun a18b h18c => ?_)
  refine WL.dn ?_
  clear h17k a17j h182 a181 h184 a183 h186 a185 h188 a187 h18a a189
  by_cases c18d : p0 > (IntKind.i64.wrap (Int.tdiv (r175.length : Int) 2))
  ·rw [if_pos c18d] at H
   have hb_ : (decide (p0 > (IntKind.i64.wrap (Int.tdiv (r175.length : Int) 2)))) = true := decide_eq_true c18d
   try rw [hb_] at h18c
   clear hb_
   refine wp_then h18c rfl ?_
   refine wp_seq ?_
   refine WL.start ?_
   refine WL.bl 3 3 h18c [(4, .bool false), (3, .string (mkS [])), (2, .string (mkS []))] (fun a18e h18f => ?_)
   refine WL.dn ?_
   refine wp_ret ?_
   have hS18g := hS17e.drop_
   obtain ⟨rfl, rfl, rfl⟩ := ret3 H
   repeat (first | with_reducible refine t1 ?_ | with_reducible refine t2 ?_ | with_reducible refine t3 ?_)
   refine bret (.tuple #[.string (mkS []), .string (mkS []), .bool false]) h18f ?_
   exact ⟨rfl, hS18g⟩
  ·rw [if_neg c18d] at H
   have hb_ : (decide (p0 > (IntKind.i64.wrap (Int.tdiv (r175.length : Int) 2)))) = false := decide_eq_false c18d
   try rw [hb_] at h18c
   clear hb_
   refine wp_else h18c rfl ?_
   refine wp_skip ?_
   refine wp_seq ?_
   refine WT.start 15 (fun w_ => (∀ a_ u_, Kn b w0 (M17c ++ R) a_ u_ → w_.cell? a_ = some u_) ∧ True) (by kernel_rfl) #[false, false, false, false, false, false, false, false, false, false, false, false, false, false, false] 15 rfl rfl ?_
   have hS1c7 := hS17e.drew
   refine WT.tk 0 h18c rfl rfl (.slice A17f r175.length c17g) (fun _ _ => by kernel_rfl) ⟨(fun _ _ hk_ => (hS1c7).pool.kn hk_), trivial⟩ (fun a1c8 s1ca h1c9 => ?_)
   refine WT.tk 1 h1c9 rfl rfl (i6 p0) (fun _ _ => by kernel_rfl) s1ca (fun a1cb s1cd h1cc => ?_)
   refine WT.tk 2 h1cc rfl rfl (i6 (IntKind.i64.wrap (2 * p0))) (fun _ _ => by kernel_rfl) s1cd (fun a1ce s1cg h1cf => ?_)
   refine WT.tk 3 h1cf rfl rfl (i6 (IntKind.i64.wrap ((IntKind.i64.wrap (2 * p0)) - 2))) (fun _ _ => by kernel_rfl) s1cg (fun a1ch s1cj h1ci => ?_)
   refine WT.tk 6 h1ci rfl rfl (.slice A17f r175.length c17g) (fun _ _ => by kernel_rfl) s1cj (fun a1ck s1cm h1cl => ?_)
   refine WT.tk 7 h1cl rfl rfl (i6 p0) (fun _ _ => by kernel_rfl) s1cm (fun a1cn s1cp h1co => ?_)
   refine WT.tk 8 h1co rfl rfl (i6 (IntKind.i64.wrap (2 * p0))) (fun _ _ => by kernel_rfl) s1cp (fun a1cq s1cs h1cr => ?_)
   refine WT.tk 9 h1cr rfl rfl (i6 (IntKind.i64.wrap ((IntKind.i64.wrap (2 * p0)) - 1))) (fun _ _ => by kernel_rfl) s1cs (fun a1ct s1cv h1cu => ?_)
   clear h18c a18b h1c9 a1c8 h1cc a1cb h1cf a1ce h1ci a1ch h1cl a1ck h1co a1cn h1cr a1cq
   by_cases c1cw : 0 ≤ (IntKind.i64.wrap ((IntKind.i64.wrap (2 * p0)) - 2))
   ·rw [if_pos c1cw] at H
    by_cases c1cx : (IntKind.i64.wrap ((IntKind.i64.wrap (2 * p0)) - 2)) < (r175.length : Int)
    ·rw [if_pos c1cx] at H
     have hi1d0 : 0 ≤ IntKind.i64.wrap ((IntKind.i64.wrap (2 * p0)) - 2) := by first | assumption | omega
     have hi1d1 : (IntKind.i64.wrap ((IntKind.i64.wrap (2 * p0)) - 2)) < (r175.length : Int) := by first | assumption | omega
     obtain ⟨ad1cy, _, ha1cz, -, -⟩ := Rds.elemAny hr17d.rds hi1d0 (gt_get (z := []) hi1d0 hi1d1)
     refine WT.tk 4 h1cu rfl rfl (.pointer (some (ad1cy.add ((IntKind.i64.wrap ((IntKind.i64.wrap (2 * p0)) - 2)).toNat * 1)))) (fun w_ hs_ => (run_idx (ad := ad1cy) (sz := 1) rfl (by rw [← ha1cz]; rfl) rfl Tryd.underlying110 (by kernel_rfl) hi1d0 hi1d1)) s1cv (fun a1d2 s1d4 h1d3 => ?_)
     obtain ⟨ad1d5, cs1d6, ha1d7, hr1d9, hc1d8⟩ := Rds.elemAny hr17d.rds hi1d0 (gt_get (z := []) hi1d0 hi1d1)
     rw [ha1cz] at ha1d7; obtain rfl := Option.some.inj ha1d7
     obtain rfl : cs1d6 = [.string (mkS (gt [] r175 (IntKind.i64.wrap ((IntKind.i64.wrap (2 * p0)) - 2))))] := hr1d9
     refine WT.tk 5 h1d3 rfl rfl (.string (mkS (gt [] r175 (IntKind.i64.wrap ((IntKind.i64.wrap (2 * p0)) - 2))))) (fun w_ hs_ => (run_load1 rfl rfl Tryd.underlying9 rfl (cell0 (hc1d8 _ hs_.1)))) s1d4 (fun a1da s1dc h1db => ?_)
     refine WT.tk 12 h1db rfl rfl (.string (mkS (gt [] r175 (IntKind.i64.wrap ((IntKind.i64.wrap (2 * p0)) - 2))))) (fun _ _ => by kernel_rfl) s1dc (fun a1dd s1df h1de => ?_)
     clear h1cu a1ct h1d3 a1d2 h1db a1da
     by_cases c1dg : 0 ≤ (IntKind.i64.wrap ((IntKind.i64.wrap (2 * p0)) - 1))
     ·rw [if_pos c1dg] at H
      by_cases c1dh : (IntKind.i64.wrap ((IntKind.i64.wrap (2 * p0)) - 1)) < (r175.length : Int)
      ·rw [if_pos c1dh] at H
       have hi1dk : 0 ≤ IntKind.i64.wrap ((IntKind.i64.wrap (2 * p0)) - 1) := by first | assumption | omega
       have hi1dl : (IntKind.i64.wrap ((IntKind.i64.wrap (2 * p0)) - 1)) < (r175.length : Int) := by first | assumption | omega
       obtain ⟨ad1di, _, ha1dj, -, -⟩ := Rds.elemAny hr17d.rds hi1dk (gt_get (z := []) hi1dk hi1dl)
       refine WT.tk 10 h1de rfl rfl (.pointer (some (ad1di.add ((IntKind.i64.wrap ((IntKind.i64.wrap (2 * p0)) - 1)).toNat * 1)))) (fun w_ hs_ => (run_idx (ad := ad1di) (sz := 1) rfl (by rw [← ha1dj]; rfl) rfl Tryd.underlying110 (by kernel_rfl) hi1dk hi1dl)) s1df (fun a1dm s1do h1dn => ?_)
       obtain ⟨ad1dp, cs1dq, ha1dr, hr1dt, hc1ds⟩ := Rds.elemAny hr17d.rds hi1dk (gt_get (z := []) hi1dk hi1dl)
       rw [ha1dj] at ha1dr; obtain rfl := Option.some.inj ha1dr
       obtain rfl : cs1dq = [.string (mkS (gt [] r175 (IntKind.i64.wrap ((IntKind.i64.wrap (2 * p0)) - 1))))] := hr1dt
       refine WT.tk 11 h1dn rfl rfl (.string (mkS (gt [] r175 (IntKind.i64.wrap ((IntKind.i64.wrap (2 * p0)) - 1))))) (fun w_ hs_ => (run_load1 rfl rfl Tryd.underlying9 rfl (cell0 (hc1ds _ hs_.1)))) s1do (fun a1du s1dw h1dv => ?_)
       refine WT.tk 13 h1dv rfl rfl (.string (mkS (gt [] r175 (IntKind.i64.wrap ((IntKind.i64.wrap (2 * p0)) - 1))))) (fun _ _ => by kernel_rfl) s1dw (fun a1dx s1dz h1dy => ?_)
       refine WT.tk 14 h1dy rfl rfl (.bool true) (fun _ _ => by kernel_rfl) s1dz (fun a1e0 s1e2 h1e1 => ?_)
       refine WT.dn ?_
       refine wp_ret ?_
       have hS1e3 := hS1c7.drop_
       obtain ⟨rfl, rfl, rfl⟩ := ret3 H
       repeat (first | with_reducible refine t1 ?_ | with_reducible refine t2 ?_ | with_reducible refine t3 ?_)
       refine bret (.tuple #[.string (mkS (gt [] r175 (IntKind.i64.wrap ((IntKind.i64.wrap (2 * p0)) - 2)))), .string (mkS (gt [] r175 (IntKind.i64.wrap ((IntKind.i64.wrap (2 * p0)) - 1)))), .bool true]) h1e1 ?_
       exact ⟨rfl, hS1e3⟩
      ·rw [if_neg c1dh] at H
       cases H
     ·rw [if_neg c1dg] at H
      cases H
    ·rw [if_neg c1cx] at H
     cases H
   ·rw [if_neg c1cw] at H
    cases H

/-! ### (louver/louverref05.T).At -/
def louverref05qT_At.f (p0 : S43) (p1 : Int) : Option (S52 × Bool) := bnd3 (louverref04qAt.f p1) fun r13u r13v r13w => (if r13w = true then (some ((⟨r13u, r13v, false⟩ : S52), true)) else (if p1 < 62 then (some ((⟨([] : List UInt8), ([] : List UInt8), false⟩ : S52), false)) else (if (IntKind.i64.wrap (p1 - 62)) ≥ (p0.f0.length : Int) then (some ((⟨([] : List UInt8), ([] : List UInt8), false⟩ : S52), false)) else (if 0 ≤ (IntKind.i64.wrap (p1 - 62)) then (if (IntKind.i64.wrap (p1 - 62)) < (p0.f0.length : Int) then (some ((⟨(gt z52 p0.f0 (IntKind.i64.wrap (p1 - 62))).f0, (gt z52 p0.f0 (IntKind.i64.wrap (p1 - 62))).f1, (gt z52 p0.f0 (IntKind.i64.wrap (p1 - 62))).f2⟩ : S52), true)) else (none)) else (none)))))
set_option maxHeartbeats 20000000 in
set_option maxRecDepth 100000 in
theorem louverref05qT_At.calls {b : Nat} {w0 W : World} {R : Frag} {Fs : List Frag} {p0 : S43} {p1 : Int} {v0q0 : Value} {r0q : S52} {r1q : Bool} (hp0q0 : Rds k52 b w0 R v0q0 p0.f0) (H : louverref05qT_At.f p0 p1 = some (r0q, r1q)) (hS : St b w0 W R (Fs)) :
  Calls Tryd.prog 46 ([.agg #[v0q0, i6 p0.f1], i6 p1] : List Value).toArray W (fun e W' => e = .returned (.tuple #[.agg #[.string (mkS r0q.f0), .string (mkS r0q.f1), .bool r0q.f2], .bool r1q]) ∧ St b w0 W' R (Fs)) := by
 obtain ⟨A0q0, c0q0, rfl⟩ := hp0q0.form
 unfold louverref05qT_At.f at H
 refine calls_enter Tryd.func46 rfl 36 rfl (by kernel_rfl) (fun a h => ?_)
 refine wp_seq ?_
 refine WL.start ?_
 refine WL.oq h rfl ?_
 refine owp_nw (fun g_ => (pt g_)) (.cells ([.slice A0q0 p0.f0.length c0q0, i6 p0.f1] : List Value).toArray 43 (0, 0)) h rfl hS (fun a13f W13h g13i h13g hS13j => ?_)
 refine WL.oq h13g rfl ?_
 refine owp_nw (fun g_ => (pt g_)) (.cells ([.string (mkS []), .string (mkS []), .bool false] : List Value).toArray 52 (0, 0)) h13g rfl hS13j (fun a13k W13m g13n h13l hS13o => ?_)
 refine WL.bl 1 3 h13l [(5, .bool false)] (fun a13p h13q => ?_)
 refine WL.dn ?_
 refine wp_seq ?_
 refine WL.start ?_
 refine WL.bl 1 1 h13q [(10, i6 p1)] (fun a13r h13s => ?_)
 obtain ⟨r13u, r13v, r13w, A13t, H⟩ := bind3 H
 refine WL.oq h13s rfl ?_
 refine owp_call [i6 p1] h13s rfl (by kernel_rfl) rfl Tryd.func57 (by kernel_rfl) rfl (by kernel_rfl) (louverref04qAt.calls  A13t hS13o) (fun e13y W13x hp13z => ?_)
 obtain ⟨rfl, hS142⟩ := hp13z
 refine ⟨_, rfl, fun a140 h141 => ?_⟩
 refine WL.bl 7 9 h141 [(8, .bool r13w), (7, .string (mkS r13v)), (6, .string (mkS r13u)), (14, .bool r13w), (13, .string (mkS r13v)), (12, .string (mkS r13u)), (9, .tuple #[.string (mkS r13u), .string (mkS r13v), .bool r13w])] (fun a143 h144 => ?_)
 refine WL.dn ?_
 refine wp_seq ?_
 refine wp_seq ?_
 refine WL.start ?_
 refine WL.bl 1 1 h144 [(15, .bool r13w)] (fun a145 h146 => ?_)
 refine WL.dn ?_
 clear h13g a13f h13l a13k h13q a13p h13s a13r h141 a140 h144 a143
 by_cases c147 : r13w = true
 ·rw [if_pos c147] at H
  have hb_ : r13w = true := c147
  try rw [hb_] at h146
  clear hb_
  refine wp_then h146 rfl ?_
  refine wp_seq ?_
  refine WL.start ?_
  refine WL.bl 3 3 h146 [(18, .agg #[.string (mkS r13u), .string (mkS r13v), .bool false]), (17, .string (mkS r13v)), (16, .string (mkS r13u))] (fun a148 h149 => ?_)
  refine WL.oq h149 rfl ?_
  refine owp_st 0 [.string (mkS r13u), .string (mkS r13v), .bool false] h149 rfl rfl rfl hS142 [.string (mkS r13u), .string (mkS r13v), .bool false] (fun a14a W14c h14b hS14d => ?_)
  refine WL.bl 1 5 h14b [(5, .bool true)] (fun a14e h14f => ?_)
  refine WL.dn ?_
  refine wp_ret ?_
  have hS14g := hS14d.drop_
  have hS14h := hS14g.drop_
  obtain ⟨rfl, rfl⟩ := ret2 H
  repeat (first | with_reducible refine t1 ?_ | with_reducible refine t2 ?_ | with_reducible refine t3 ?_)
  refine body_ret (v := .tuple #[.agg #[.string (mkS r13u), .string (mkS r13v), .bool false], .bool true]) h14f (by kernel_rfl) (res_many (xs := [ResultVar.cell 4 52, ResultVar.tmp 5]) rfl ⟨⟨_, rfl, loadVarN Tryd.underlying52 rfl (cs := [.string (mkS r13u), .string (mkS r13v), .bool false]) (by kernel_rfl) (hS14d.cells (vs := [.string (mkS r13u), .string (mkS r13v), .bool false]) rfl)⟩, rfl, trivial⟩ rfl) ?_
  exact ⟨rfl, hS14h⟩
 ·rw [if_neg c147] at H
  have hb_ : r13w = false := (Bool.eq_false_iff.2 c147)
  try rw [hb_] at h146
  clear hb_
  refine wp_else h146 rfl ?_
  refine wp_skip ?_
  refine wp_seq ?_
  refine wp_seq ?_
  refine WL.start ?_
  refine WL.bl 3 3 h146 [(21, .bool (decide (p1 < 62))), (20, .bool (decide (p1 < 62))), (19, i6 p1)] (fun a14i h14j => ?_)
  clear h146 a145
  by_cases c14k : p1 < 62
  ·rw [if_pos c14k] at H
   have hb_ : (decide (p1 < 62)) = true := decide_eq_true c14k
   try rw [hb_] at h14j
   clear hb_
   refine WL.sk h14j rfl rfl (fun a14l h14m => ?_)
   refine WL.sk h14m rfl rfl (fun a14n h14o => ?_)
   refine WL.sk h14o rfl rfl (fun a14p h14q => ?_)
   refine WL.sk h14q rfl rfl (fun a14r h14s => ?_)
   refine WL.sk h14s rfl rfl (fun a14t h14u => ?_)
   refine WL.sk h14u rfl rfl (fun a14v h14w => ?_)
   refine WL.bl 1 10 h14w [(28, .bool true)] (fun a14x h14y => ?_)
   refine WL.dn ?_
   refine wp_then h14y rfl ?_
   refine wp_seq ?_
   refine WL.start ?_
   refine WL.bl 1 1 h14y [(29, .agg #[.string (mkS []), .string (mkS []), .bool false])] (fun a14z h150 => ?_)
   refine WL.oq h150 rfl ?_
   refine owp_st 0 [.string (mkS []), .string (mkS []), .bool false] h150 rfl rfl rfl hS142 [.string (mkS []), .string (mkS []), .bool false] (fun a151 W153 h152 hS154 => ?_)
   refine WL.bl 1 3 h152 [(5, .bool false)] (fun a155 h156 => ?_)
   refine WL.dn ?_
   refine wp_ret ?_
   have hS157 := hS154.drop_
   have hS158 := hS157.drop_
   obtain ⟨rfl, rfl⟩ := ret2 H
   repeat (first | with_reducible refine t1 ?_ | with_reducible refine t2 ?_ | with_reducible refine t3 ?_)
   refine body_ret (v := .tuple #[.agg #[.string (mkS []), .string (mkS []), .bool false], .bool false]) h156 (by kernel_rfl) (res_many (xs := [ResultVar.cell 4 52, ResultVar.tmp 5]) rfl ⟨⟨_, rfl, loadVarN Tryd.underlying52 rfl (cs := [.string (mkS []), .string (mkS []), .bool false]) (by kernel_rfl) (hS154.cells (vs := [.string (mkS []), .string (mkS []), .bool false]) rfl)⟩, rfl, trivial⟩ rfl) ?_
   exact ⟨rfl, hS158⟩
  ·rw [if_neg c14k] at H
   have hb_ : (decide (p1 < 62)) = false := decide_eq_false c14k
   try rw [hb_] at h14j
   clear hb_
   refine WL.oq h14j rfl (owp_rk (i6 p1) h14j rfl (fun a159 h15a => ?_))
   refine WL.oq h15a rfl (owp_rk (i6 (IntKind.i64.wrap (p1 - 62))) h15a rfl (fun a15b h15c => ?_))
   refine WL.oq h15c rfl (owp_rk (pt g13i) h15c rfl (fun a15d h15e => ?_))
   have hS15f := hS142.b1
   refine WL.oq h15e rfl ?_
   refine owp_rn (.slice A0q0 p0.f0.length c0q0) h15e rfl (run_load1 rfl rfl Tryd.underlying23 rfl (hS15f.cell (i := 0) rfl)) (fun a15g h15h => ?_)
   refine WL.oq h15h rfl (owp_rk (i6 (p0.f0.length : Int)) h15h rfl (fun a15i h15j => ?_))
   refine WL.oq h15j rfl (owp_rk (.bool (decide ((IntKind.i64.wrap (p1 - 62)) ≥ (p0.f0.length : Int)))) h15j rfl (fun a15k h15l => ?_))
   refine WL.bl 1 10 h15l [(28, .bool (decide ((IntKind.i64.wrap (p1 - 62)) ≥ (p0.f0.length : Int))))] (fun a15m h15n => ?_)
   refine WL.dn ?_
   clear h14j a14i h15a a159 h15c a15b h15e a15d h15h a15g h15j a15i h15l a15k
   by_cases c15o : (IntKind.i64.wrap (p1 - 62)) ≥ (p0.f0.length : Int)
   ·rw [if_pos c15o] at H
    have hb_ : (decide ((IntKind.i64.wrap (p1 - 62)) ≥ (p0.f0.length : Int))) = true := decide_eq_true c15o
    try rw [hb_] at h15n
    clear hb_
    refine wp_then h15n rfl ?_
    refine wp_seq ?_
    refine WL.start ?_
    refine WL.bl 1 1 h15n [(29, .agg #[.string (mkS []), .string (mkS []), .bool false])] (fun a15p h15q => ?_)
    have hS15r := hS15f.b1
    refine WL.oq h15q rfl ?_
    refine owp_st 0 [.string (mkS []), .string (mkS []), .bool false] h15q rfl rfl rfl hS15r [.string (mkS []), .string (mkS []), .bool false] (fun a15s W15u h15t hS15v => ?_)
    refine WL.bl 1 3 h15t [(5, .bool false)] (fun a15w h15x => ?_)
    refine WL.dn ?_
    refine wp_ret ?_
    have hS15y := hS15v.drop_
    have hS15z := hS15y.drop_
    obtain ⟨rfl, rfl⟩ := ret2 H
    repeat (first | with_reducible refine t1 ?_ | with_reducible refine t2 ?_ | with_reducible refine t3 ?_)
    refine body_ret (v := .tuple #[.agg #[.string (mkS []), .string (mkS []), .bool false], .bool false]) h15x (by kernel_rfl) (res_many (xs := [ResultVar.cell 4 52, ResultVar.tmp 5]) rfl ⟨⟨_, rfl, loadVarN Tryd.underlying52 rfl (cs := [.string (mkS []), .string (mkS []), .bool false]) (by kernel_rfl) (hS15v.cells (vs := [.string (mkS []), .string (mkS []), .bool false]) rfl)⟩, rfl, trivial⟩ rfl) ?_
    exact ⟨rfl, hS15z⟩
   ·rw [if_neg c15o] at H
    have hb_ : (decide ((IntKind.i64.wrap (p1 - 62)) ≥ (p0.f0.length : Int))) = false := decide_eq_false c15o
    try rw [hb_] at h15n
    clear hb_
    refine wp_else h15n rfl ?_
    refine wp_skip ?_
    refine wp_seq ?_
    refine WL.start ?_
    refine WL.bl 1 1 h15n [(30, pt g13i)] (fun a160 h161 => ?_)
    refine WL.oq h161 rfl ?_
    refine owp_rn (.slice A0q0 p0.f0.length c0q0) h161 rfl (run_load1 rfl rfl Tryd.underlying23 rfl (hS15f.cell (i := 0) rfl)) (fun a162 h163 => ?_)
    refine WL.bl 2 4 h163 [(33, i6 (IntKind.i64.wrap (p1 - 62))), (32, i6 p1)] (fun a164 h165 => ?_)
    clear h15n a15m h161 a160 h163 a162
    by_cases c166 : 0 ≤ (IntKind.i64.wrap (p1 - 62))
    ·rw [if_pos c166] at H
     by_cases c167 : (IntKind.i64.wrap (p1 - 62)) < (p0.f0.length : Int)
     ·rw [if_pos c167] at H
      have hi16a : 0 ≤ IntKind.i64.wrap (p1 - 62) := by first | assumption | omega
      have hi16b : (IntKind.i64.wrap (p1 - 62)) < (p0.f0.length : Int) := by first | assumption | omega
      obtain ⟨ad168, _, ha169, -, -⟩ := Rds.elemAny hp0q0 hi16a (gt_get (z := z52) hi16a hi16b)
      refine WL.oq h165 rfl ?_
      refine owp_rn (.pointer (some (ad168.add ((IntKind.i64.wrap (p1 - 62)).toNat * 3)))) h165 rfl (run_idx (ad := ad168) (sz := 3) rfl (by rw [← ha169]; rfl) rfl Tryd.underlying23 (by kernel_rfl) hi16a hi16b) (fun a16c h16d => ?_)
      obtain ⟨ad16e, cs16f, ha16g, hr16i, hc16h⟩ := Rds.elemAny hp0q0 hi16a (gt_get (z := z52) hi16a hi16b)
      rw [ha169] at ha16g; obtain rfl := Option.some.inj ha16g
      obtain rfl := k52qrd hr16i
      refine WL.oq h16d rfl ?_
      refine owp_rn (.agg #[.string (mkS ((gt z52 p0.f0 (IntKind.i64.wrap (p1 - 62))).f0)), .string (mkS ((gt z52 p0.f0 (IntKind.i64.wrap (p1 - 62))).f1)), .bool ((gt z52 p0.f0 (IntKind.i64.wrap (p1 - 62))).f2)]) h16d rfl (run_loadN rfl rfl Tryd.underlying52 rfl (cs := [.string (mkS ((gt z52 p0.f0 (IntKind.i64.wrap (p1 - 62))).f0)), .string (mkS ((gt z52 p0.f0 (IntKind.i64.wrap (p1 - 62))).f1)), .bool ((gt z52 p0.f0 (IntKind.i64.wrap (p1 - 62))).f2)]) (by kernel_rfl) (hc16h _ (fun _ _ hk_ => hS15f.kn hk_))) (fun a16j h16k => ?_)
      have hS16l := hS15f.b1
      refine WL.oq h16k rfl ?_
      refine owp_st 0 [.string (mkS ((gt z52 p0.f0 (IntKind.i64.wrap (p1 - 62))).f0)), .string (mkS ((gt z52 p0.f0 (IntKind.i64.wrap (p1 - 62))).f1)), .bool ((gt z52 p0.f0 (IntKind.i64.wrap (p1 - 62))).f2)] h16k rfl rfl rfl hS16l [.string (mkS ((gt z52 p0.f0 (IntKind.i64.wrap (p1 - 62))).f0)), .string (mkS ((gt z52 p0.f0 (IntKind.i64.wrap (p1 - 62))).f1)), .bool ((gt z52 p0.f0 (IntKind.i64.wrap (p1 - 62))).f2)] (fun a16m W16o h16n hS16p => ?_)
      refine WL.bl 1 8 h16n [(5, .bool true)] (fun a16q h16r => ?_)
      refine WL.dn ?_
      refine wp_ret ?_
      have hS16s := hS16p.drop_
      have hS16t := hS16s.drop_
      obtain ⟨rfl, rfl⟩ := ret2 H
      repeat (first | with_reducible refine t1 ?_ | with_reducible refine t2 ?_ | with_reducible refine t3 ?_)
      refine body_ret (v := .tuple #[.agg #[.string (mkS ((gt z52 p0.f0 (IntKind.i64.wrap (p1 - 62))).f0)), .string (mkS ((gt z52 p0.f0 (IntKind.i64.wrap (p1 - 62))).f1)), .bool ((gt z52 p0.f0 (IntKind.i64.wrap (p1 - 62))).f2)], .bool true]) h16r (by kernel_rfl) (res_many (xs := [ResultVar.cell 4 52, ResultVar.tmp 5]) rfl ⟨⟨_, rfl, loadVarN Tryd.underlying52 rfl (cs := [.string (mkS ((gt z52 p0.f0 (IntKind.i64.wrap (p1 - 62))).f0)), .string (mkS ((gt z52 p0.f0 (IntKind.i64.wrap (p1 - 62))).f1)), .bool ((gt z52 p0.f0 (IntKind.i64.wrap (p1 - 62))).f2)]) (by kernel_rfl) (hS16p.cells (vs := [.string (mkS ((gt z52 p0.f0 (IntKind.i64.wrap (p1 - 62))).f0)), .string (mkS ((gt z52 p0.f0 (IntKind.i64.wrap (p1 - 62))).f1)), .bool ((gt z52 p0.f0 (IntKind.i64.wrap (p1 - 62))).f2)]) rfl)⟩, rfl, trivial⟩ rfl) ?_
      exact ⟨rfl, hS16t⟩
     ·rw [if_neg c167] at H
      cases H
    ·rw [if_neg c166] at H
     cases H

/-! ### louver/louverref03.Sizes -/
def louverref03qSizes.f  : Option ((List Int)) := some ([13, 23, 28, 28, 28, 28, 28, 28, 28, 24, 30, 28, 28, 30, 28, 28, 28, 28, 28, 28, 28, 28, 30, 28, 28, 28, 28, 28, 28, 28, 28, 28, 6, 10, 10, 12, 13, 6, 8, 11, 10, 10, 8, 11, 8, 6, 6, 6, 5, 5, 5, 6, 6, 6, 6, 6, 6, 6, 7, 8, 15, 6, 12, 10, 13, 6, 7, 7, 7, 7, 7, 7, 7, 7, 7, 7, 7, 7, 7, 7, 7, 7, 7, 7, 7, 7, 7, 7, 8, 7, 8, 13, 19, 13, 14, 6, 15, 5, 6, 5, 6, 5, 6, 6, 6, 5, 7, 7, 6, 6, 6, 5, 6, 7, 6, 5, 5, 6, 7, 7, 7, 7, 7, 15, 11, 14, 13, 28, 20, 22, 20, 20, 22, 22, 22, 23, 22, 23, 23, 23, 23, 23, 24, 23, 24, 24, 22, 23, 24, 23, 23, 23, 23, 21, 22, 23, 22, 23, 23, 24, 22, 21, 20, 22, 22, 23, 23, 21, 23, 22, 22, 24, 21, 22, 23, 23, 21, 21, 22, 21, 23, 22, 23, 23, 20, 22, 22, 22, 23, 22, 22, 23, 26, 26, 20, 19, 22, 23, 22, 25, 26, 26, 26, 27, 27, 26, 24, 25, 19, 21, 26, 27, 27, 26, 27, 24, 21, 21, 26, 26, 28, 27, 27, 27, 20, 24, 20, 21, 22, 21, 21, 23, 22, 22, 25, 25, 24, 24, 26, 23, 26, 27, 26, 26, 27, 27, 27, 27, 27, 28, 27, 27, 27, 27, 27, 26, 30] : List Int)
set_option maxHeartbeats 20000000 in
set_option maxRecDepth 100000 in
theorem louverref03qSizes.calls {b : Nat} {w0 W : World} {R : Frag} {Fs : List Frag}   {r0q : (List Int)}  (H : louverref03qSizes.f = some r0q) (hS : St b w0 W R (Fs)) :
  Calls Tryd.prog 68 ([] : List Value).toArray W (fun e W' => ∃ (u0q : Value) (N0q : Frag), e = .returned (u0q) ∧ Row (kInt .i64) 3 b w0 R u0q r0q N0q ∧ St b w0 W' R (N0q :: Fs)) := by
 unfold louverref03qSizes.f at H
 refine calls_enter Tryd.func68 rfl 2 rfl (by kernel_rfl) (fun a h => ?_)
 refine wp_seq ?_
 refine WL.start ?_
 refine WL.bl 1 1 h [(0, .slice none 0 0)] (fun a10a h10b => ?_)
 refine WL.dn ?_
 refine wp_seq ?_
 refine WL.start ?_
 refine WL.oq h10b rfl ?_
 refine owp_nw (fun g_ => .slice (some ⟨g_, 0, none⟩) 257 257) (.cells ([i6 13, i6 23, i6 28, i6 28, i6 28, i6 28, i6 28, i6 28, i6 28, i6 24, i6 30, i6 28, i6 28, i6 30, i6 28, i6 28, i6 28, i6 28, i6 28, i6 28, i6 28, i6 28, i6 30, i6 28, i6 28, i6 28, i6 28, i6 28, i6 28, i6 28, i6 28, i6 28, i6 6, i6 10, i6 10, i6 12, i6 13, i6 6, i6 8, i6 11, i6 10, i6 10, i6 8, i6 11, i6 8, i6 6, i6 6, i6 6, i6 5, i6 5, i6 5, i6 6, i6 6, i6 6, i6 6, i6 6, i6 6, i6 6, i6 7, i6 8, i6 15, i6 6, i6 12, i6 10, i6 13, i6 6, i6 7, i6 7, i6 7, i6 7, i6 7, i6 7, i6 7, i6 7, i6 7, i6 7, i6 7, i6 7, i6 7, i6 7, i6 7, i6 7, i6 7, i6 7, i6 7, i6 7, i6 7, i6 7, i6 8, i6 7, i6 8, i6 13, i6 19, i6 13, i6 14, i6 6, i6 15, i6 5, i6 6, i6 5, i6 6, i6 5, i6 6, i6 6, i6 6, i6 5, i6 7, i6 7, i6 6, i6 6, i6 6, i6 5, i6 6, i6 7, i6 6, i6 5, i6 5, i6 6, i6 7, i6 7, i6 7, i6 7, i6 7, i6 15, i6 11, i6 14, i6 13, i6 28, i6 20, i6 22, i6 20, i6 20, i6 22, i6 22, i6 22, i6 23, i6 22, i6 23, i6 23, i6 23, i6 23, i6 23, i6 24, i6 23, i6 24, i6 24, i6 22, i6 23, i6 24, i6 23, i6 23, i6 23, i6 23, i6 21, i6 22, i6 23, i6 22, i6 23, i6 23, i6 24, i6 22, i6 21, i6 20, i6 22, i6 22, i6 23, i6 23, i6 21, i6 23, i6 22, i6 22, i6 24, i6 21, i6 22, i6 23, i6 23, i6 21, i6 21, i6 22, i6 21, i6 23, i6 22, i6 23, i6 23, i6 20, i6 22, i6 22, i6 22, i6 23, i6 22, i6 22, i6 23, i6 26, i6 26, i6 20, i6 19, i6 22, i6 23, i6 22, i6 25, i6 26, i6 26, i6 26, i6 27, i6 27, i6 26, i6 24, i6 25, i6 19, i6 21, i6 26, i6 27, i6 27, i6 26, i6 27, i6 24, i6 21, i6 21, i6 26, i6 26, i6 28, i6 27, i6 27, i6 27, i6 20, i6 24, i6 20, i6 21, i6 22, i6 21, i6 21, i6 23, i6 22, i6 22, i6 25, i6 25, i6 24, i6 24, i6 26, i6 23, i6 26, i6 27, i6 26, i6 26, i6 27, i6 27, i6 27, i6 27, i6 27, i6 28, i6 27, i6 27, i6 27, i6 27, i6 27, i6 26, i6 30] : List Value).toArray 3 (0, 0)) h10b rfl hS (fun a10c W10e g10f h10d hS10g => ?_)
 have hr10h : Row (kInt .i64) 3 b w0 R (.slice (some ⟨g10f, 0, none⟩) 257 257) ([13, 23, 28, 28, 28, 28, 28, 28, 28, 24, 30, 28, 28, 30, 28, 28, 28, 28, 28, 28, 28, 28, 30, 28, 28, 28, 28, 28, 28, 28, 28, 28, 6, 10, 10, 12, 13, 6, 8, 11, 10, 10, 8, 11, 8, 6, 6, 6, 5, 5, 5, 6, 6, 6, 6, 6, 6, 6, 7, 8, 15, 6, 12, 10, 13, 6, 7, 7, 7, 7, 7, 7, 7, 7, 7, 7, 7, 7, 7, 7, 7, 7, 7, 7, 7, 7, 7, 7, 8, 7, 8, 13, 19, 13, 14, 6, 15, 5, 6, 5, 6, 5, 6, 6, 6, 5, 7, 7, 6, 6, 6, 5, 6, 7, 6, 5, 5, 6, 7, 7, 7, 7, 7, 15, 11, 14, 13, 28, 20, 22, 20, 20, 22, 22, 22, 23, 22, 23, 23, 23, 23, 23, 24, 23, 24, 24, 22, 23, 24, 23, 23, 23, 23, 21, 22, 23, 22, 23, 23, 24, 22, 21, 20, 22, 22, 23, 23, 21, 23, 22, 22, 24, 21, 22, 23, 23, 21, 21, 22, 21, 23, 22, 23, 23, 20, 22, 22, 22, 23, 22, 22, 23, 26, 26, 20, 19, 22, 23, 22, 25, 26, 26, 26, 27, 27, 26, 24, 25, 19, 21, 26, 27, 27, 26, 27, 24, 21, 21, 26, 26, 28, 27, 27, 27, 20, 24, 20, 21, 22, 21, 21, 23, 22, 22, 25, 25, 24, 24, 26, 23, 26, 27, 26, 26, 27, 27, 27, 27, 27, 28, 27, 27, 27, 27, 27, 26, 30] : List Int) (bx g10f 3 [i6 13, i6 23, i6 28, i6 28, i6 28, i6 28, i6 28, i6 28, i6 28, i6 24, i6 30, i6 28, i6 28, i6 30, i6 28, i6 28, i6 28, i6 28, i6 28, i6 28, i6 28, i6 28, i6 30, i6 28, i6 28, i6 28, i6 28, i6 28, i6 28, i6 28, i6 28, i6 28, i6 6, i6 10, i6 10, i6 12, i6 13, i6 6, i6 8, i6 11, i6 10, i6 10, i6 8, i6 11, i6 8, i6 6, i6 6, i6 6, i6 5, i6 5, i6 5, i6 6, i6 6, i6 6, i6 6, i6 6, i6 6, i6 6, i6 7, i6 8, i6 15, i6 6, i6 12, i6 10, i6 13, i6 6, i6 7, i6 7, i6 7, i6 7, i6 7, i6 7, i6 7, i6 7, i6 7, i6 7, i6 7, i6 7, i6 7, i6 7, i6 7, i6 7, i6 7, i6 7, i6 7, i6 7, i6 7, i6 7, i6 8, i6 7, i6 8, i6 13, i6 19, i6 13, i6 14, i6 6, i6 15, i6 5, i6 6, i6 5, i6 6, i6 5, i6 6, i6 6, i6 6, i6 5, i6 7, i6 7, i6 6, i6 6, i6 6, i6 5, i6 6, i6 7, i6 6, i6 5, i6 5, i6 6, i6 7, i6 7, i6 7, i6 7, i6 7, i6 15, i6 11, i6 14, i6 13, i6 28, i6 20, i6 22, i6 20, i6 20, i6 22, i6 22, i6 22, i6 23, i6 22, i6 23, i6 23, i6 23, i6 23, i6 23, i6 24, i6 23, i6 24, i6 24, i6 22, i6 23, i6 24, i6 23, i6 23, i6 23, i6 23, i6 21, i6 22, i6 23, i6 22, i6 23, i6 23, i6 24, i6 22, i6 21, i6 20, i6 22, i6 22, i6 23, i6 23, i6 21, i6 23, i6 22, i6 22, i6 24, i6 21, i6 22, i6 23, i6 23, i6 21, i6 21, i6 22, i6 21, i6 23, i6 22, i6 23, i6 23, i6 20, i6 22, i6 22, i6 22, i6 23, i6 22, i6 22, i6 23, i6 26, i6 26, i6 20, i6 19, i6 22, i6 23, i6 22, i6 25, i6 26, i6 26, i6 26, i6 27, i6 27, i6 26, i6 24, i6 25, i6 19, i6 21, i6 26, i6 27, i6 27, i6 26, i6 27, i6 24, i6 21, i6 21, i6 26, i6 26, i6 28, i6 27, i6 27, i6 27, i6 20, i6 24, i6 20, i6 21, i6 22, i6 21, i6 21, i6 23, i6 22, i6 22, i6 25, i6 25, i6 24, i6 24, i6 26, i6 23, i6 26, i6 27, i6 26, i6 26, i6 27, i6 27, i6 27, i6 27, i6 27, i6 28, i6 27, i6 27, i6 27, i6 27, i6 27, i6 26, i6 30]) := Row.lit (xs := ([13, 23, 28, 28, 28, 28, 28, 28, 28, 24, 30, 28, 28, 30, 28, 28, 28, 28, 28, 28, 28, 28, 30, 28, 28, 28, 28, 28, 28, 28, 28, 28, 6, 10, 10, 12, 13, 6, 8, 11, 10, 10, 8, 11, 8, 6, 6, 6, 5, 5, 5, 6, 6, 6, 6, 6, 6, 6, 7, 8, 15, 6, 12, 10, 13, 6, 7, 7, 7, 7, 7, 7, 7, 7, 7, 7, 7, 7, 7, 7, 7, 7, 7, 7, 7, 7, 7, 7, 8, 7, 8, 13, 19, 13, 14, 6, 15, 5, 6, 5, 6, 5, 6, 6, 6, 5, 7, 7, 6, 6, 6, 5, 6, 7, 6, 5, 5, 6, 7, 7, 7, 7, 7, 15, 11, 14, 13, 28, 20, 22, 20, 20, 22, 22, 22, 23, 22, 23, 23, 23, 23, 23, 24, 23, 24, 24, 22, 23, 24, 23, 23, 23, 23, 21, 22, 23, 22, 23, 23, 24, 22, 21, 20, 22, 22, 23, 23, 21, 23, 22, 22, 24, 21, 22, 23, 23, 21, 21, 22, 21, 23, 22, 23, 23, 20, 22, 22, 22, 23, 22, 22, 23, 26, 26, 20, 19, 22, 23, 22, 25, 26, 26, 26, 27, 27, 26, 24, 25, 19, 21, 26, 27, 27, 26, 27, 24, 21, 21, 26, 26, 28, 27, 27, 27, 20, 24, 20, 21, 22, 21, 21, 23, 22, 22, 25, 25, 24, 24, 26, 23, 26, 27, 26, 26, 27, 27, 27, 27, 27, 28, 27, 27, 27, 27, 27, 26, 30] : List Int)) (Mi := []) (reps_int .i64 _) (by simp [maxLen])
 refine WL.bl 1 2 h10d [(0, .slice (some ⟨g10f, 0, none⟩) 257 257)] (fun a10i h10j => ?_)
 refine WL.dn ?_
 refine wp_ret ?_
 obtain rfl := Option.some.inj H
 repeat (first | with_reducible refine t1 ?_ | with_reducible refine t2 ?_ | with_reducible refine t3 ?_)
 refine bret (.slice (some ⟨g10f, 0, none⟩) 257 257) h10j ?_
 exact ⟨.slice (some ⟨g10f, 0, none⟩) 257 257, (bx g10f 3 [i6 13, i6 23, i6 28, i6 28, i6 28, i6 28, i6 28, i6 28, i6 28, i6 24, i6 30, i6 28, i6 28, i6 30, i6 28, i6 28, i6 28, i6 28, i6 28, i6 28, i6 28, i6 28, i6 30, i6 28, i6 28, i6 28, i6 28, i6 28, i6 28, i6 28, i6 28, i6 28, i6 6, i6 10, i6 10, i6 12, i6 13, i6 6, i6 8, i6 11, i6 10, i6 10, i6 8, i6 11, i6 8, i6 6, i6 6, i6 6, i6 5, i6 5, i6 5, i6 6, i6 6, i6 6, i6 6, i6 6, i6 6, i6 6, i6 7, i6 8, i6 15, i6 6, i6 12, i6 10, i6 13, i6 6, i6 7, i6 7, i6 7, i6 7, i6 7, i6 7, i6 7, i6 7, i6 7, i6 7, i6 7, i6 7, i6 7, i6 7, i6 7, i6 7, i6 7, i6 7, i6 7, i6 7, i6 7, i6 7, i6 8, i6 7, i6 8, i6 13, i6 19, i6 13, i6 14, i6 6, i6 15, i6 5, i6 6, i6 5, i6 6, i6 5, i6 6, i6 6, i6 6, i6 5, i6 7, i6 7, i6 6, i6 6, i6 6, i6 5, i6 6, i6 7, i6 6, i6 5, i6 5, i6 6, i6 7, i6 7, i6 7, i6 7, i6 7, i6 15, i6 11, i6 14, i6 13, i6 28, i6 20, i6 22, i6 20, i6 20, i6 22, i6 22, i6 22, i6 23, i6 22, i6 23, i6 23, i6 23, i6 23, i6 23, i6 24, i6 23, i6 24, i6 24, i6 22, i6 23, i6 24, i6 23, i6 23, i6 23, i6 23, i6 21, i6 22, i6 23, i6 22, i6 23, i6 23, i6 24, i6 22, i6 21, i6 20, i6 22, i6 22, i6 23, i6 23, i6 21, i6 23, i6 22, i6 22, i6 24, i6 21, i6 22, i6 23, i6 23, i6 21, i6 21, i6 22, i6 21, i6 23, i6 22, i6 23, i6 23, i6 20, i6 22, i6 22, i6 22, i6 23, i6 22, i6 22, i6 23, i6 26, i6 26, i6 20, i6 19, i6 22, i6 23, i6 22, i6 25, i6 26, i6 26, i6 26, i6 27, i6 27, i6 26, i6 24, i6 25, i6 19, i6 21, i6 26, i6 27, i6 27, i6 26, i6 27, i6 24, i6 21, i6 21, i6 26, i6 26, i6 28, i6 27, i6 27, i6 27, i6 20, i6 24, i6 20, i6 21, i6 22, i6 21, i6 21, i6 23, i6 22, i6 22, i6 25, i6 25, i6 24, i6 24, i6 26, i6 23, i6 26, i6 27, i6 26, i6 26, i6 27, i6 27, i6 27, i6 27, i6 27, i6 28, i6 27, i6 27, i6 27, i6 27, i6 27, i6 26, i6 30]), rfl, hr10h, hS10g⟩

/-! ### louver/louverref03.one -/
def louverref03qone.l0 : Nat → (List UInt8) → Bool → Int → (List UInt8) → Option ((List UInt8))
 | 0, _, _, _, _ => none
 | k + 1, x14d, x14e, x14f, p0 => if x14f ≥ 0 then (if 0 ≤ x14f then (if x14f ≤ (IntKind.i64.wrap (x14f + 1)) then (if (IntKind.i64.wrap (x14f + 1)) ≤ (p0.length : Int) then (if x14e = true then (if ((p0.take (IntKind.i64.wrap (x14f + 1)).toNat).drop x14f.toNat) = ([48] : List UInt8) then (if ([49] : List UInt8).length + x14d.length ≤ 9223372036854775807 then (louverref03qone.l0 k (([49] : List UInt8) ++ x14d) false (IntKind.i64.wrap (x14f - 1)) p0) else (none)) else (if ([48] : List UInt8).length + x14d.length ≤ 9223372036854775807 then (louverref03qone.l0 k (([48] : List UInt8) ++ x14d) true (IntKind.i64.wrap (x14f - 1)) p0) else (none))) else (if ((p0.take (IntKind.i64.wrap (x14f + 1)).toNat).drop x14f.toNat).length + x14d.length ≤ 9223372036854775807 then (louverref03qone.l0 k (((p0.take (IntKind.i64.wrap (x14f + 1)).toNat).drop x14f.toNat) ++ x14d) false (IntKind.i64.wrap (x14f - 1)) p0) else (none))) else (none)) else (none)) else (none)) else (some x14d)
def louverref03qone.f (k : Nat) (p0 : (List UInt8)) : Option ((List UInt8)) := louverref03qone.l0 k ([] : List UInt8) true (IntKind.i64.wrap ((p0.length : Int) - 1)) p0
set_option maxHeartbeats 20000000 in
set_option maxRecDepth 100000 in
theorem louverref03qone.calls (k : Nat) {b : Nat} {w0 W : World} {R : Frag} {Fs : List Frag} {p0 : (List UInt8)}  {r0q : (List UInt8)}  (H : louverref03qone.f k p0 = some r0q) (hS : St b w0 W R (Fs)) :
  Calls Tryd.prog 69 ([.string (mkS p0)] : List Value).toArray W (fun e W' => e = .returned (.string (mkS r0q)) ∧ St b w0 W' R (Fs)) := by
 unfold louverref03qone.f at H
 refine calls_enter Tryd.func69 rfl 26 rfl (by kernel_rfl) (fun a h => ?_)
 refine wp_seq ?_
 refine WL.start ?_
 refine WL.bl 1 1 h [(2, .string (mkS []))] (fun a140 h141 => ?_)
 refine WL.dn ?_
 refine wp_seq ?_
 refine WL.start ?_
 refine WL.bl 1 1 h141 [(3, .string (mkS []))] (fun a142 h143 => ?_)
 refine WL.dn ?_
 refine wp_seq ?_
 refine WL.start ?_
 refine WL.bl 1 1 h143 [(4, .bool true)] (fun a144 h145 => ?_)
 refine WL.dn ?_
 refine wp_seq ?_
 refine wp_seq ?_
 refine WL.start ?_
 refine WL.bl 4 4 h145 [(5, i6 (IntKind.i64.wrap ((p0.length : Int) - 1))), (9, i6 (IntKind.i64.wrap ((p0.length : Int) - 1))), (8, i6 (p0.length : Int)), (7, .string (mkS p0))] (fun a146 h147 => ?_)
 refine WL.dn ?_
 refine wp_block ?_
 clear h141 a140 h143 a142 h145 a144
 refine wp_loop_ghost (fun kq_ a_ W_ => ∃ (x14d : (List UInt8)), ∃ (x14e : Bool), ∃ (x14f : Int), Hd a_ 26 [(0, .string (mkS p0)), (3, .string (mkS x14d)), (4, .bool x14e), (5, i6 x14f)] ∧ Asd (louverref03qone.l0 kq_ x14d x14e x14f p0 = some r0q) ∧ Asd (kq_ ≤ k) ∧ Asd (St b w0 W_ R (Fs))) k ⟨([] : List UInt8), true, IntKind.i64.wrap ((p0.length : Int) - 1), h147.keep ⟨rfl, rfl, rfl, rfl, trivial⟩, ⟨H⟩, ⟨Nat.le_refl _⟩, ⟨hS⟩⟩ ?_
 clear H hS
 rintro kk14c a149 W14a ⟨x14d, x14e, x14f, h148, ⟨H⟩, ⟨hkkk14c⟩, ⟨hS14b⟩⟩
 obtain _ | kk14g := kk14c
 ·exact absurd H (by simp [louverref03qone.l0])
 simp only [louverref03qone.l0] at H
 refine wp_seq ?_
 refine wp_seq ?_
 refine WL.start ?_
 refine WL.bl 2 2 h148 [(11, .bool (decide (x14f ≥ 0))), (10, i6 x14f)] (fun a14h h14i => ?_)
 refine WL.dn ?_
 clear h148 a149
 by_cases c14j : x14f ≥ 0
 ·rw [if_pos c14j] at H
  have hb_ : (decide (x14f ≥ 0)) = true := decide_eq_true c14j
  try rw [hb_] at h14i
  clear hb_
  refine wp_then h14i rfl ?_
  refine wp_skip ?_
  refine wp_seq ?_
  refine wp_block ?_
  refine wp_seq ?_
  refine WL.start ?_
  refine WL.bl 4 4 h14i [(17, i6 (IntKind.i64.wrap (x14f + 1))), (16, i6 x14f), (15, i6 x14f), (14, .string (mkS p0))] (fun a14k h14l => ?_)
  clear h14i a14h
  by_cases c14m : 0 ≤ x14f
  ·rw [if_pos c14m] at H
   by_cases c14n : x14f ≤ (IntKind.i64.wrap (x14f + 1))
   ·rw [if_pos c14n] at H
    by_cases c14o : (IntKind.i64.wrap (x14f + 1)) ≤ (p0.length : Int)
    ·rw [if_pos c14o] at H
     refine WL.oq h14l rfl ?_
     refine owp_rn (.string (mkS ((p0.take (IntKind.i64.wrap (x14f + 1)).toNat).drop x14f.toNat))) h14l rfl (run_strcut' (l := x14f) (h := IntKind.i64.wrap (x14f + 1)) rfl rfl Tryd.underlying9 ⟨_, rfl⟩ ⟨_, rfl⟩ (by first | assumption | omega) (by first | assumption | omega) (by first | assumption | omega) rfl) (fun a14p h14q => ?_)
     refine WL.bl 1 6 h14q [(6, .string (mkS ((p0.take (IntKind.i64.wrap (x14f + 1)).toNat).drop x14f.toNat)))] (fun a14r h14s => ?_)
     refine WL.dn ?_
     refine wp_seq ?_
     refine wp_seq ?_
     refine WL.start ?_
     refine WL.bl 1 1 h14s [(19, .bool x14e)] (fun a14t h14u => ?_)
     refine WL.dn ?_
     clear h14l a14k h14q a14p h14s a14r
     by_cases c14v : x14e = true
     ·rw [if_pos c14v] at H
      have hb_ : x14e = true := c14v
      try rw [hb_] at h14u
      clear hb_
      refine wp_then h14u rfl ?_
      refine wp_seq ?_
      refine WL.start ?_
      refine WL.bl 1 1 h14u [(20, .string (mkS ((p0.take (IntKind.i64.wrap (x14f + 1)).toNat).drop x14f.toNat)))] (fun a14w h14x => ?_)
      refine WL.oq h14x rfl ?_
      refine owp_rn (.bool (decide (((p0.take (IntKind.i64.wrap (x14f + 1)).toNat).drop x14f.toNat) = ([48] : List UInt8)))) h14x rfl (run_streq rfl rfl rfl) (fun a14y h14z => ?_)
      refine WL.dn ?_
      clear h14u a14t h14x a14w
      by_cases c150 : ((p0.take (IntKind.i64.wrap (x14f + 1)).toNat).drop x14f.toNat) = ([48] : List UInt8)
      ·rw [if_pos c150] at H
       have hb_ : (decide (((p0.take (IntKind.i64.wrap (x14f + 1)).toNat).drop x14f.toNat) = ([48] : List UInt8))) = true := decide_eq_true c150
       try rw [hb_] at h14z
       clear hb_
       refine wp_then h14z rfl ?_
       refine wp_seq ?_
       refine WL.start ?_
       refine WL.bl 1 1 h14z [(6, .string (mkS [49]))] (fun a151 h152 => ?_)
       refine WL.dn ?_
       refine WL.start ?_
       refine WL.bl 1 1 h152 [(4, .bool false)] (fun a153 h154 => ?_)
       refine WL.dn ?_
       refine WL.start ?_
       refine WL.bl 2 2 h154 [(23, .string (mkS x14d)), (22, .string (mkS [49]))] (fun a155 h156 => ?_)
       clear h14z a14y h152 a151 h154 a153
       by_cases c157 : ([49] : List UInt8).length + x14d.length ≤ 9223372036854775807
       ·rw [if_pos c157] at H
        refine WL.oq h156 rfl ?_
        refine owp_rn (.string (mkS (([49] : List UInt8) ++ x14d))) h156 rfl (run_concat rfl rfl rfl (by assumption)) (fun a158 h159 => ?_)
        refine WL.bl 1 4 h159 [(3, .string (mkS (([49] : List UInt8) ++ x14d)))] (fun a15a h15b => ?_)
        refine WL.dn ?_
        refine WL.start ?_
        refine WL.bl 3 3 h15b [(5, i6 (IntKind.i64.wrap (x14f - 1))), (13, i6 (IntKind.i64.wrap (x14f - 1))), (12, i6 x14f)] (fun a15c h15d => ?_)
        refine WL.dn ?_
        exact ⟨kk14g, by omega, ([49] : List UInt8) ++ x14d, false, IntKind.i64.wrap (x14f - 1), h15d.keep ⟨rfl, rfl, rfl, rfl, trivial⟩, ⟨H⟩, ⟨by omega⟩, ⟨hS14b⟩⟩
       ·rw [if_neg c157] at H
        cases H
      ·rw [if_neg c150] at H
       have hb_ : (decide (((p0.take (IntKind.i64.wrap (x14f + 1)).toNat).drop x14f.toNat) = ([48] : List UInt8))) = false := decide_eq_false c150
       try rw [hb_] at h14z
       clear hb_
       refine wp_else h14z rfl ?_
       refine WL.start ?_
       refine WL.bl 1 1 h14z [(6, .string (mkS [48]))] (fun a15e h15f => ?_)
       refine WL.dn ?_
       refine WL.start ?_
       refine WL.bl 2 2 h15f [(23, .string (mkS x14d)), (22, .string (mkS [48]))] (fun a15g h15h => ?_)
       clear h14z a14y h15f a15e
       by_cases c15i : ([48] : List UInt8).length + x14d.length ≤ 9223372036854775807
       ·rw [if_pos c15i] at H
        refine WL.oq h15h rfl ?_
        refine owp_rn (.string (mkS (([48] : List UInt8) ++ x14d))) h15h rfl (run_concat rfl rfl rfl (by assumption)) (fun a15j h15k => ?_)
        refine WL.bl 1 4 h15k [(3, .string (mkS (([48] : List UInt8) ++ x14d)))] (fun a15l h15m => ?_)
        refine WL.dn ?_
        refine WL.start ?_
        refine WL.bl 3 3 h15m [(5, i6 (IntKind.i64.wrap (x14f - 1))), (13, i6 (IntKind.i64.wrap (x14f - 1))), (12, i6 x14f)] (fun a15n h15o => ?_)
        refine WL.dn ?_
        exact ⟨kk14g, by omega, ([48] : List UInt8) ++ x14d, true, IntKind.i64.wrap (x14f - 1), h15o.keep ⟨rfl, rfl, rfl, rfl, trivial⟩, ⟨H⟩, ⟨by omega⟩, ⟨hS14b⟩⟩
       ·rw [if_neg c15i] at H
        cases H
     ·rw [if_neg c14v] at H
      have hb_ : x14e = false := (Bool.eq_false_iff.2 c14v)
      try rw [hb_] at h14u
      clear hb_
      refine wp_else h14u rfl ?_
      refine wp_skip ?_
      refine WL.start ?_
      refine WL.bl 2 2 h14u [(23, .string (mkS x14d)), (22, .string (mkS ((p0.take (IntKind.i64.wrap (x14f + 1)).toNat).drop x14f.toNat)))] (fun a15p h15q => ?_)
      clear h14u a14t
      by_cases c15r : ((p0.take (IntKind.i64.wrap (x14f + 1)).toNat).drop x14f.toNat).length + x14d.length ≤ 9223372036854775807
      ·rw [if_pos c15r] at H
       refine WL.oq h15q rfl ?_
       refine owp_rn (.string (mkS (((p0.take (IntKind.i64.wrap (x14f + 1)).toNat).drop x14f.toNat) ++ x14d))) h15q rfl (run_concat rfl rfl rfl (by assumption)) (fun a15s h15t => ?_)
       refine WL.bl 1 4 h15t [(3, .string (mkS (((p0.take (IntKind.i64.wrap (x14f + 1)).toNat).drop x14f.toNat) ++ x14d)))] (fun a15u h15v => ?_)
       refine WL.dn ?_
       refine WL.start ?_
       refine WL.bl 3 3 h15v [(5, i6 (IntKind.i64.wrap (x14f - 1))), (13, i6 (IntKind.i64.wrap (x14f - 1))), (12, i6 x14f)] (fun a15w h15x => ?_)
       refine WL.dn ?_
       exact ⟨kk14g, by omega, ((p0.take (IntKind.i64.wrap (x14f + 1)).toNat).drop x14f.toNat) ++ x14d, false, IntKind.i64.wrap (x14f - 1), h15x.keep ⟨rfl, rfl, rfl, rfl, trivial⟩, ⟨H⟩, ⟨by omega⟩, ⟨hS14b⟩⟩
      ·rw [if_neg c15r] at H
       cases H
    ·rw [if_neg c14o] at H
     cases H
   ·rw [if_neg c14n] at H
    cases H
  ·rw [if_neg c14m] at H
   cases H
 ·rw [if_neg c14j] at H
  have hb_ : (decide (x14f ≥ 0)) = false := decide_eq_false c14j
  try rw [hb_] at h14i
  clear hb_
  refine wp_else h14i rfl ?_
  refine wp_exit ?_
  refine wp_seq ?_
  refine WL.start ?_
  refine WL.bl 2 2 h14i [(2, .string (mkS x14d)), (25, .string (mkS x14d))] (fun a15y h15z => ?_)
  refine WL.dn ?_
  refine wp_ret ?_
  obtain rfl := Option.some.inj H
  repeat (first | with_reducible refine t1 ?_ | with_reducible refine t2 ?_ | with_reducible refine t3 ?_)
  refine bret (.string (mkS x14d)) h15z ?_
  exact ⟨rfl, hS14b⟩

/-! ### louver/louverref03.Codes -/
mutual
def louverref03qCodes.l0 : Nat → (List (List UInt8)) → (List UInt8) → Int → (List Int) → Option ((List (List UInt8)))
 | 0, _, _, _, _ => none
 | k + 1, x1fj, x1fo, x1fp, r1ei => if x1fp ≤ 30 then (louverref03qCodes.l1 k x1fj x1fo 0 r1ei x1fp) else (some x1fj)
def louverref03qCodes.l1 : Nat → (List (List UInt8)) → (List UInt8) → Int → (List Int) → Int → Option ((List (List UInt8)))
 | 0, _, _, _, _, _ => none
 | k + 1, x1g2, x1g7, x1g8, r1ei, x1fp => if x1g8 < (r1ei.length : Int) then (if 0 ≤ x1g8 then (if (gt (0 : Int) r1ei x1g8) = x1fp then (if x1g7 = ([] : List UInt8) then (louverref03qCodes.j2 k x1g7 r1ei x1fp x1g2 x1g8) else (bnd1 (louverref03qone.f k x1g7) fun r1hp => (louverref03qCodes.j2 k r1hp r1ei x1fp x1g2 x1g8))) else (louverref03qCodes.l1 k x1g2 x1g7 (IntKind.i64.wrap (x1g8 + 1)) r1ei x1fp)) else (none)) else (louverref03qCodes.l0 k x1g2 x1g7 (IntKind.i64.wrap (x1fp + 1)) r1ei)
def louverref03qCodes.j2 : Nat → (List UInt8) → (List Int) → Int → (List (List UInt8)) → Int → Option ((List (List UInt8)))
 | 0, _, _, _, _, _ => none
 | k + 1, x1hk, r1ei, x1fp, x1g2, x1g8 => louverref03qCodes.l3 k x1hk r1ei x1fp x1g2 x1g8
def louverref03qCodes.l3 : Nat → (List UInt8) → (List Int) → Int → (List (List UInt8)) → Int → Option ((List (List UInt8)))
 | 0, _, _, _, _, _ => none
 | k + 1, x1i4, r1ei, x1fp, x1g2, x1g8 => if (x1i4.length : Int) < x1fp then (if x1i4.length + ([48] : List UInt8).length ≤ 9223372036854775807 then (louverref03qCodes.l3 k (x1i4 ++ ([48] : List UInt8)) r1ei x1fp x1g2 x1g8) else (none)) else (if 0 ≤ x1g8 then (if x1g8 < (x1g2.length : Int) then (lt1 (x1g2.set x1g8.toNat x1i4 : List (List UInt8)) fun y1ix => (louverref03qCodes.l1 k y1ix x1i4 (IntKind.i64.wrap (x1g8 + 1)) r1ei x1fp)) else (none)) else (none))
end
def louverref03qCodes.f (k : Nat)  : Option ((List (List UInt8))) := bnd1 (louverref03qSizes.f) fun r1ei => (lt1 (List.replicate (257 : Int).toNat [] : List (List UInt8)) fun y1f3 => (louverref03qCodes.l0 k y1f3 ([] : List UInt8) 1 r1ei))
set_option maxHeartbeats 20000000 in
set_option maxRecDepth 100000 in
theorem louverref03qCodes.calls (k : Nat) {b : Nat} {w0 W : World} {R : Frag} {Fs : List Frag}   {r0q : (List (List UInt8))}  (H : louverref03qCodes.f k = some r0q) (hS : St b w0 W R (Fs)) :
  Calls Tryd.prog 65 ([] : List Value).toArray W (fun e W' => ∃ (u0q : Value) (N0q : Frag), e = .returned (u0q) ∧ Row kStr 9 b w0 R u0q r0q N0q ∧ St b w0 W' R (N0q :: Fs)) := by
 unfold louverref03qCodes.f at H
 refine calls_enter Tryd.func65 rfl 39 rfl (by kernel_rfl) (fun a h => ?_)
 refine wp_seq ?_
 refine WL.start ?_
 refine WL.bl 1 1 h [(0, .slice none 0 0)] (fun a1ef h1eg => ?_)
 refine WL.dn ?_
 refine wp_seq ?_
 refine WL.start ?_
 obtain ⟨r1ei, A1eh, H⟩ := bind1 H
 refine WL.oq h1eg rfl ?_
 refine owp_call [] h1eg rfl (by kernel_rfl) rfl Tryd.func68 (by kernel_rfl) rfl (by kernel_rfl) (louverref03qSizes.calls  A1eh hS) (fun e1ek W1ej hp1el => ?_)
 obtain ⟨v1eo, M1ep, rfl, hr1eq, hS1er⟩ := hp1el
 refine ⟨_, rfl, fun a1em h1en => ?_⟩
 obtain ⟨A1es, c1et, rfl⟩ := hr1eq.form
 refine WL.bl 1 2 h1en [(1, .slice A1es r1ei.length c1et)] (fun a1eu h1ev => ?_)
 refine WL.dn ?_
 refine wp_seq ?_
 refine WL.start ?_
 refine WL.oq h1ev rfl ?_
 refine owp_make' (z := .string (mkS [])) (z0 := []) (bytes := 16) (dk := kStr) h1ev rfl (by kernel_rfl) rfl rfl rfl Tryd.underlying110 (by kernel_rfl) rfl (by decide) ⟨rfl, rfl⟩ hS1er (by first | assumption | omega) (by first | assumption | omega) (by omega) (fun a1ew W1ey v1ez M1f0 h1ex hr1f1 hS1f2 => ?_)
 obtain ⟨y1f3, hy1f4, H⟩ := lete H
 have hr1f5 : Row kStr 9 b w0 R v1ez y1f3 M1f0 := by rw [hy1f4]; exact hr1f1
 clear hr1f1
 obtain ⟨A1f6, c1f7, rfl⟩ := hr1f5.form
 refine WL.bl 1 2 h1ex [(2, .slice A1f6 y1f3.length c1f7)] (fun a1f8 h1f9 => ?_)
 refine WL.dn ?_
 refine wp_seq ?_
 refine WL.start ?_
 refine WL.bl 1 1 h1f9 [(3, .string (mkS []))] (fun a1fa h1fb => ?_)
 refine WL.dn ?_
 refine wp_seq ?_
 refine wp_seq ?_
 refine WL.start ?_
 refine WL.bl 1 1 h1fb [(4, i6 1)] (fun a1fc h1fd => ?_)
 refine WL.dn ?_
 refine wp_block ?_
 have hS1fq := hS1f2.b1
 clear h1eg a1ef h1en a1em h1ev a1eu h1ex a1ew h1f9 a1f8 h1fb a1fa
 refine wp_loop_ghost (fun kq_ a_ W_ => ∃ (x1fj : (List (List UInt8))), ∃ (A1fk : Option Addr), ∃ (c1fl : Nat), ∃ (M1fm : Frag), ∃ (x1fo : (List UInt8)), ∃ (x1fp : Int), Hd a_ 39 [(1, .slice A1es r1ei.length c1et), (2, .slice A1fk x1fj.length c1fl), (3, .string (mkS x1fo)), (4, i6 x1fp)] ∧ Asd (louverref03qCodes.l0 kq_ x1fj x1fo x1fp r1ei = some r0q) ∧ Asd (kq_ ≤ k) ∧ Asd (St b w0 W_ R (M1ep :: M1fm :: Fs)) ∧ Asd (Row kStr 9 b w0 R (.slice A1fk x1fj.length c1fl) x1fj M1fm)) k ⟨y1f3, A1f6, c1f7, M1f0, ([] : List UInt8), 1, h1fd.keep ⟨rfl, rfl, rfl, rfl, trivial⟩, ⟨H⟩, ⟨Nat.le_refl _⟩, ⟨hS1fq⟩, ⟨hr1f5⟩⟩ ?_
 clear H hS1fq
 rintro kk1fi a1ff W1fg ⟨x1fj, A1fk, c1fl, M1fm, x1fo, x1fp, h1fe, ⟨H⟩, ⟨hkkk1fi⟩, ⟨hS1fh⟩, ⟨hr1fn⟩⟩
 obtain _ | kk1fr := kk1fi
 ·exact absurd H (by simp [louverref03qCodes.l0])
 simp only [louverref03qCodes.l0] at H
 refine wp_seq ?_
 refine wp_seq ?_
 refine WL.start ?_
 refine WL.bl 2 2 h1fe [(9, .bool (decide (x1fp ≤ 30))), (8, i6 x1fp)] (fun a1fs h1ft => ?_)
 refine WL.dn ?_
 clear h1fe a1ff
 by_cases c1fu : x1fp ≤ 30
 ·rw [if_pos c1fu] at H
  have hb_ : (decide (x1fp ≤ 30)) = true := decide_eq_true c1fu
  try rw [hb_] at h1ft
  clear hb_
  refine wp_then h1ft rfl ?_
  refine wp_skip ?_
  refine wp_seq ?_
  refine wp_block ?_
  refine wp_seq ?_
  refine WL.start ?_
  refine WL.bl 3 3 h1ft [(14, i6 0), (13, i6 (r1ei.length : Int)), (12, .slice A1es r1ei.length c1et)] (fun a1fv h1fw => ?_)
  refine WL.dn ?_
  refine wp_block ?_
  clear h1ft a1fs
  refine wp_loop_ghost (fun kq_ a_ W_ => ∃ (x1g2 : (List (List UInt8))), ∃ (A1g3 : Option Addr), ∃ (c1g4 : Nat), ∃ (M1g5 : Frag), ∃ (x1g7 : (List UInt8)), ∃ (x1g8 : Int), Hd a_ 39 [(1, .slice A1es r1ei.length c1et), (2, .slice A1g3 x1g2.length c1g4), (3, .string (mkS x1g7)), (4, i6 x1fp), (13, i6 (r1ei.length : Int)), (14, i6 x1g8)] ∧ Asd (louverref03qCodes.l1 kq_ x1g2 x1g7 x1g8 r1ei x1fp = some r0q) ∧ Asd (kq_ ≤ kk1fr) ∧ Asd (St b w0 W_ R (M1ep :: M1g5 :: Fs)) ∧ Asd (Row kStr 9 b w0 R (.slice A1g3 x1g2.length c1g4) x1g2 M1g5)) kk1fr ⟨x1fj, A1fk, c1fl, M1fm, x1fo, 0, h1fw.keep ⟨rfl, rfl, rfl, rfl, rfl, rfl, trivial⟩, ⟨H⟩, ⟨Nat.le_refl _⟩, ⟨hS1fh⟩, ⟨hr1fn⟩⟩ ?_
  clear H hS1fh
  rintro kk1g1 a1fy W1fz ⟨x1g2, A1g3, c1g4, M1g5, x1g7, x1g8, h1fx, ⟨H⟩, ⟨hkkk1g1⟩, ⟨hS1g0⟩, ⟨hr1g6⟩⟩
  obtain _ | kk1g9 := kk1g1
  ·exact absurd H (by simp [louverref03qCodes.l1])
  simp only [louverref03qCodes.l1] at H
  refine wp_seq ?_
  refine WL.start ?_
  refine WL.bl 1 1 h1fx [(15, .bool (decide (x1g8 < (r1ei.length : Int))))] (fun a1ga h1gb => ?_)
  refine WL.dn ?_
  refine wp_seq ?_
  clear h1fx a1fy
  by_cases c1gc : x1g8 < (r1ei.length : Int)
  ·rw [if_pos c1gc] at H
   have hb_ : (decide (x1g8 < (r1ei.length : Int))) = true := decide_eq_true c1gc
   try rw [hb_] at h1gb
   clear hb_
   refine wp_then h1gb rfl ?_
   refine wp_skip ?_
   refine wp_seq ?_
   refine wp_block ?_
   refine wp_seq ?_
   refine WL.start ?_
   refine WL.bl 2 2 h1gb [(5, i6 x1g8), (16, i6 x1g8)] (fun a1gd h1ge => ?_)
   refine WL.dn ?_
   refine wp_seq ?_
   refine wp_seq ?_
   refine WL.start ?_
   refine WL.bl 2 2 h1ge [(18, i6 x1g8), (17, .slice A1es r1ei.length c1et)] (fun a1gf h1gg => ?_)
   clear h1gb a1ga h1ge a1gd
   by_cases c1gh : 0 ≤ x1g8
   ·rw [if_pos c1gh] at H
    have hi1gk : 0 ≤ x1g8 := by first | assumption | omega
    have hi1gl : x1g8 < (r1ei.length : Int) := by first | assumption | omega
    obtain ⟨ad1gi, _, ha1gj, -, -⟩ := Rds.elemAny hr1eq.rds hi1gk (gt_get (z := (0 : Int)) hi1gk hi1gl)
    refine WL.oq h1gg rfl ?_
    refine owp_rn (.pointer (some (ad1gi.add (x1g8.toNat * 1)))) h1gg rfl (run_idx (ad := ad1gi) (sz := 1) rfl (by rw [← ha1gj]; rfl) rfl Tryd.underlying123 (by kernel_rfl) hi1gk hi1gl) (fun a1gm h1gn => ?_)
    obtain ⟨ad1go, cs1gp, ha1gq, hr1gs, hc1gr⟩ := Rds.elemAny hr1eq.rds hi1gk (gt_get (z := (0 : Int)) hi1gk hi1gl)
    rw [ha1gj] at ha1gq; obtain rfl := Option.some.inj ha1gq
    obtain rfl : cs1gp = [i6 (gt (0 : Int) r1ei x1g8)] := hr1gs
    refine WL.oq h1gn rfl ?_
    refine owp_rn (i6 (gt (0 : Int) r1ei x1g8)) h1gn rfl (run_load1 rfl rfl Tryd.underlying3 rfl (cell0 (hc1gr _ (fun _ _ hk_ => (hS1g0).pool.kn hk_)))) (fun a1gt h1gu => ?_)
    refine WL.bl 2 6 h1gu [(22, .bool (!decide ((gt (0 : Int) r1ei x1g8) = x1fp))), (21, i6 x1fp)] (fun a1gv h1gw => ?_)
    refine WL.dn ?_
    clear h1gg a1gf h1gn a1gm h1gu a1gt
    by_cases c1gx : (gt (0 : Int) r1ei x1g8) = x1fp
    ·rw [if_pos c1gx] at H
     have hb_ : (decide ((gt (0 : Int) r1ei x1g8) = x1fp)) = true := decide_eq_true c1gx
     try rw [hb_] at h1gw
     clear hb_
     refine wp_else h1gw rfl ?_
     refine wp_skip ?_
     refine wp_seq ?_
     refine wp_seq ?_
     refine WL.start ?_
     refine WL.bl 1 1 h1gw [(23, .string (mkS x1g7))] (fun a1gy h1gz => ?_)
     refine WL.oq h1gz rfl ?_
     refine owp_rn (.bool (!decide (x1g7 = ([] : List UInt8)))) h1gz rfl (run_strne rfl rfl rfl) (fun a1h0 h1h1 => ?_)
     refine WL.dn ?_
     clear h1gw a1gv h1gz a1gy
     refine wp_meet (I := fun a_ W_ => ∃ kq_, ∃ (x1hk : (List UInt8)), Hd a_ 39 [(1, .slice A1es r1ei.length c1et), (2, .slice A1g3 x1g2.length c1g4), (3, .string (mkS x1hk)), (4, i6 x1fp), (5, i6 x1g8), (13, i6 (r1ei.length : Int)), (14, i6 x1g8)] ∧ Asd (louverref03qCodes.j2 kq_ x1hk r1ei x1fp x1g2 x1g8 = some r0q) ∧ Asd (kq_ ≤ kk1g9) ∧ Asd (St b w0 W_ R (M1ep :: M1g5 :: Fs))) ?_ ?_
     ·by_cases c1hl : x1g7 = ([] : List UInt8)
      ·rw [if_pos c1hl] at H
       have hb_ : (decide (x1g7 = ([] : List UInt8))) = true := decide_eq_true c1hl
       try rw [hb_] at h1h1
       clear hb_
       refine wp_else h1h1 rfl ?_
       refine wp_skip ?_
       exact ⟨kk1g9, x1g7, h1h1.keep ⟨rfl, rfl, rfl, rfl, rfl, rfl, rfl, trivial⟩, ⟨H⟩, ⟨by omega⟩, ⟨hS1g0⟩⟩
      ·rw [if_neg c1hl] at H
       have hb_ : (decide (x1g7 = ([] : List UInt8))) = false := decide_eq_false c1hl
       try rw [hb_] at h1h1
       clear hb_
       refine wp_then h1h1 rfl ?_
       refine WL.start ?_
       refine WL.bl 1 1 h1h1 [(25, .string (mkS x1g7))] (fun a1hm h1hn => ?_)
       obtain ⟨r1hp, A1ho, H⟩ := bind1 H
       refine WL.oq h1hn rfl ?_
       refine owp_call [.string (mkS x1g7)] h1hn rfl (by kernel_rfl) rfl Tryd.func69 (by kernel_rfl) rfl (by kernel_rfl) (louverref03qone.calls kk1g9  A1ho hS1g0) (fun e1hr W1hq hp1hs => ?_)
       obtain ⟨rfl, hS1hv⟩ := hp1hs
       refine ⟨_, rfl, fun a1ht h1hu => ?_⟩
       refine WL.bl 1 3 h1hu [(3, .string (mkS r1hp))] (fun a1hw h1hx => ?_)
       refine WL.dn ?_
       exact ⟨kk1g9, r1hp, h1hx.keep ⟨rfl, rfl, rfl, rfl, rfl, rfl, rfl, trivial⟩, ⟨H⟩, ⟨by omega⟩, ⟨hS1hv⟩⟩
     ·clear H hS1g0
      rintro a1hg W1hh ⟨kk1hj, x1hk, h1hf, ⟨H⟩, ⟨hkkk1hj⟩, ⟨hS1hi⟩⟩
      obtain _ | kk1hy := kk1hj
      ·exact absurd H (by simp [louverref03qCodes.j2])
      simp only [louverref03qCodes.j2] at H
      refine wp_seq ?_
      refine wp_block ?_
      refine wp_loop_ghost (fun kq_ a_ W_ => ∃ (x1i4 : (List UInt8)), Hd a_ 39 [(1, .slice A1es r1ei.length c1et), (2, .slice A1g3 x1g2.length c1g4), (3, .string (mkS x1i4)), (4, i6 x1fp), (5, i6 x1g8), (13, i6 (r1ei.length : Int)), (14, i6 x1g8)] ∧ Asd (louverref03qCodes.l3 kq_ x1i4 r1ei x1fp x1g2 x1g8 = some r0q) ∧ Asd (kq_ ≤ kk1hy) ∧ Asd (St b w0 W_ R (M1ep :: M1g5 :: Fs))) kk1hy ⟨x1hk, h1hf.keep ⟨rfl, rfl, rfl, rfl, rfl, rfl, rfl, trivial⟩, ⟨H⟩, ⟨Nat.le_refl _⟩, ⟨hS1hi⟩⟩ ?_
      clear H hS1hi
      rintro kk1i3 a1i0 W1i1 ⟨x1i4, h1hz, ⟨H⟩, ⟨hkkk1i3⟩, ⟨hS1i2⟩⟩
      obtain _ | kk1i5 := kk1i3
      ·exact absurd H (by simp [louverref03qCodes.l3])
      simp only [louverref03qCodes.l3] at H
      refine wp_seq ?_
      refine wp_seq ?_
      refine WL.start ?_
      refine WL.bl 4 4 h1hz [(30, .bool (decide ((x1i4.length : Int) < x1fp))), (29, i6 x1fp), (28, i6 (x1i4.length : Int)), (27, .string (mkS x1i4))] (fun a1i6 h1i7 => ?_)
      refine WL.dn ?_
      clear h1hz a1i0
      by_cases c1i8 : (x1i4.length : Int) < x1fp
      ·rw [if_pos c1i8] at H
       have hb_ : (decide ((x1i4.length : Int) < x1fp)) = true := decide_eq_true c1i8
       try rw [hb_] at h1i7
       clear hb_
       refine wp_then h1i7 rfl ?_
       refine wp_skip ?_
       refine wp_block ?_
       refine WL.start ?_
       refine WL.bl 1 1 h1i7 [(31, .string (mkS x1i4))] (fun a1i9 h1ia => ?_)
       clear h1i7 a1i6
       by_cases c1ib : x1i4.length + ([48] : List UInt8).length ≤ 9223372036854775807
       ·rw [if_pos c1ib] at H
        refine WL.oq h1ia rfl ?_
        refine owp_rn (.string (mkS (x1i4 ++ ([48] : List UInt8)))) h1ia rfl (run_concat rfl rfl rfl (by assumption)) (fun a1ic h1id => ?_)
        refine WL.bl 1 3 h1id [(3, .string (mkS (x1i4 ++ ([48] : List UInt8))))] (fun a1ie h1if => ?_)
        refine WL.dn ?_
        exact ⟨kk1i5, by omega, x1i4 ++ ([48] : List UInt8), h1if.keep ⟨rfl, rfl, rfl, rfl, rfl, rfl, rfl, trivial⟩, ⟨H⟩, ⟨by omega⟩, ⟨hS1i2⟩⟩
       ·rw [if_neg c1ib] at H
        cases H
      ·rw [if_neg c1i8] at H
       have hb_ : (decide ((x1i4.length : Int) < x1fp)) = false := decide_eq_false c1i8
       try rw [hb_] at h1i7
       clear hb_
       refine wp_else h1i7 rfl ?_
       refine wp_exit ?_
       refine WL.start ?_
       refine WL.bl 3 3 h1i7 [(35, .string (mkS x1i4)), (34, i6 x1g8), (33, .slice A1g3 x1g2.length c1g4)] (fun a1ig h1ih => ?_)
       clear h1i7 a1i6
       by_cases c1ii : 0 ≤ x1g8
       ·rw [if_pos c1ii] at H
        by_cases c1ij : x1g8 < (x1g2.length : Int)
        ·rw [if_pos c1ij] at H
         have hi1im : 0 ≤ x1g8 := by first | assumption | omega
         have hi1in : x1g8 < (x1g2.length : Int) := by first | assumption | omega
         obtain ⟨ad1ik, _, ha1il, -, -⟩ := Rds.elemAny hr1g6.rds hi1im (gt_get (z := []) hi1im hi1in)
         refine WL.oq h1ih rfl ?_
         refine owp_rn (.pointer (some (ad1ik.add (x1g8.toNat * 1)))) h1ih rfl (run_idx (ad := ad1ik) (sz := 1) rfl (by rw [← ha1il]; rfl) rfl Tryd.underlying110 (by kernel_rfl) hi1im hi1in) (fun a1io h1ip => ?_)
         have hS1iq := hS1i2.b1
         refine WL.oq h1ip rfl ?_
         refine owp_setelem (j := 0) (vs := [.string (mkS x1i4)]) (x' := x1i4) h1ip rfl (by kernel_rfl) rfl rfl rfl rfl (by simp [Value.oneCell']) (by kernel_rfl) ha1il hr1g6 hS1iq hi1im (gt_get (z := []) hi1im hi1in) (Nat.le_refl _) (by rintro _ _ ⟨rfl, rfl⟩; exact ⟨rfl, rfl⟩) (fun a1ir W1it M1iu h1is hr1iv hS1iw => ?_)
         obtain ⟨y1ix, hy1iy, H⟩ := lete H
         have hl1iz : y1ix.length = x1g2.length := by simp [hy1iy]
         have hr1j0 : Row kStr 9 b w0 R (.slice A1g3 y1ix.length c1g4) y1ix M1iu := by rw [hl1iz]; rw [hy1iy]; exact hr1iv
         have h1j1 : Hd a1ir 39 [(1, .slice A1es r1ei.length c1et), (2, .slice A1g3 y1ix.length c1g4), (3, .string (mkS x1i4)), (4, i6 x1fp), (5, i6 x1g8), (13, i6 (r1ei.length : Int)), (14, i6 x1g8), (27, .string (mkS x1i4)), (28, i6 (x1i4.length : Int)), (29, i6 x1fp), (30, .bool false), (33, .slice A1g3 y1ix.length c1g4), (34, i6 x1g8), (35, .string (mkS x1i4)), (36, .pointer (some (ad1ik.add (x1g8.toNat * 1))))] := h1is.keep ⟨rfl, (by rw [hl1iz] <;> rfl), rfl, rfl, rfl, rfl, rfl, rfl, rfl, rfl, rfl, (by rw [hl1iz] <;> rfl), rfl, rfl, rfl, trivial⟩
         clear h1is
         refine WL.dn ?_
         refine WL.start ?_
         refine WL.bl 2 2 h1j1 [(14, i6 (IntKind.i64.wrap (x1g8 + 1))), (37, i6 (IntKind.i64.wrap (x1g8 + 1)))] (fun a1j2 h1j3 => ?_)
         refine WL.dn ?_
         have hS1j4 := hS1iw.b1
         exact ⟨kk1i5, by omega, y1ix, A1g3, c1g4, M1iu, x1i4, IntKind.i64.wrap (x1g8 + 1), h1j3.keep ⟨rfl, rfl, rfl, rfl, rfl, rfl, trivial⟩, ⟨H⟩, ⟨by omega⟩, ⟨hS1j4⟩, ⟨hr1j0⟩⟩
        ·rw [if_neg c1ij] at H
         cases H
       ·rw [if_neg c1ii] at H
        cases H
    ·rw [if_neg c1gx] at H
     have hb_ : (decide ((gt (0 : Int) r1ei x1g8) = x1fp)) = false := decide_eq_false c1gx
     try rw [hb_] at h1gw
     clear hb_
     refine wp_then h1gw rfl ?_
     refine wp_exit ?_
     refine WL.start ?_
     refine WL.bl 2 2 h1gw [(14, i6 (IntKind.i64.wrap (x1g8 + 1))), (37, i6 (IntKind.i64.wrap (x1g8 + 1)))] (fun a1j5 h1j6 => ?_)
     refine WL.dn ?_
     exact ⟨kk1g9, by omega, x1g2, A1g3, c1g4, M1g5, x1g7, IntKind.i64.wrap (x1g8 + 1), h1j6.keep ⟨rfl, rfl, rfl, rfl, rfl, rfl, trivial⟩, ⟨H⟩, ⟨by omega⟩, ⟨hS1g0⟩, ⟨hr1g6⟩⟩
   ·rw [if_neg c1gh] at H
    cases H
  ·rw [if_neg c1gc] at H
   have hb_ : (decide (x1g8 < (r1ei.length : Int))) = false := decide_eq_false c1gc
   try rw [hb_] at h1gb
   clear hb_
   refine wp_else h1gb rfl ?_
   refine wp_exit ?_
   refine WL.start ?_
   refine WL.bl 3 3 h1gb [(4, i6 (IntKind.i64.wrap (x1fp + 1))), (11, i6 (IntKind.i64.wrap (x1fp + 1))), (10, i6 x1fp)] (fun a1j7 h1j8 => ?_)
   refine WL.dn ?_
   exact ⟨kk1g9, by omega, x1g2, A1g3, c1g4, M1g5, x1g7, IntKind.i64.wrap (x1fp + 1), h1j8.keep ⟨rfl, rfl, rfl, rfl, trivial⟩, ⟨H⟩, ⟨by omega⟩, ⟨hS1g0⟩, ⟨hr1g6⟩⟩
 ·rw [if_neg c1fu] at H
  have hb_ : (decide (x1fp ≤ 30)) = false := decide_eq_false c1fu
  try rw [hb_] at h1ft
  clear hb_
  refine wp_else h1ft rfl ?_
  refine wp_exit ?_
  refine wp_seq ?_
  refine WL.start ?_
  refine WL.bl 2 2 h1ft [(0, .slice A1fk x1fj.length c1fl), (38, .slice A1fk x1fj.length c1fl)] (fun a1j9 h1ja => ?_)
  refine WL.dn ?_
  refine wp_ret ?_
  have hS1jb := hS1fh.drop_
  obtain rfl := Option.some.inj H
  repeat (first | with_reducible refine t1 ?_ | with_reducible refine t2 ?_ | with_reducible refine t3 ?_)
  refine bret (.slice A1fk x1fj.length c1fl) h1ja ?_
  exact ⟨.slice A1fk x1fj.length c1fl, M1fm, rfl, hr1fn, hS1jb⟩

/-! ### louver/louverref03.bits -/
mutual
def louverref03qbits.l0 : Nat → (List UInt8) → Int → (List Int) → Option ((List UInt8))
 | 0, _, _, _ => none
 | k + 1, x14v, x14w, p0 => if x14w < (p0.length : Int) then (if 0 ≤ x14w then (louverref03qbits.l1 k (gt (0 : Int) p0 x14w) ([] : List UInt8) 0 p0 x14v x14w) else (none)) else (some x14v)
def louverref03qbits.l1 : Nat → Int → (List UInt8) → Int → (List Int) → (List UInt8) → Int → Option ((List UInt8))
 | 0, _, _, _, _, _, _ => none
 | k + 1, x15u, x15v, x15w, p0, x14v, x14w => if x15w < 8 then (if 0 ≤ (Int.tmod x15u 2) then (if (Int.tmod x15u 2) ≤ (IntKind.u8.wrap ((Int.tmod x15u 2) + 1)) then (if (IntKind.u8.wrap ((Int.tmod x15u 2) + 1)) ≤ (([48, 49] : List UInt8).length : Int) then (if ((([48, 49] : List UInt8).take (IntKind.u8.wrap ((Int.tmod x15u 2) + 1)).toNat).drop (Int.tmod x15u 2).toNat).length + x15v.length ≤ 9223372036854775807 then (louverref03qbits.l1 k (IntKind.u8.wrap (Int.tdiv x15u 2)) (((([48, 49] : List UInt8).take (IntKind.u8.wrap ((Int.tmod x15u 2) + 1)).toNat).drop (Int.tmod x15u 2).toNat) ++ x15v) (IntKind.i64.wrap (x15w + 1)) p0 x14v x14w) else (none)) else (none)) else (none)) else (none)) else (if x14v.length + x15v.length ≤ 9223372036854775807 then (louverref03qbits.l0 k (x14v ++ x15v) (IntKind.i64.wrap (x14w + 1)) p0) else (none))
end
def louverref03qbits.f (k : Nat) (p0 : (List Int)) : Option ((List UInt8)) := louverref03qbits.l0 k ([] : List UInt8) 0 p0
set_option maxHeartbeats 20000000 in
set_option maxRecDepth 100000 in
theorem louverref03qbits.calls (k : Nat) {b : Nat} {w0 W : World} {R : Frag} {Fs : List Frag} {p0 : (List Int)} {v0 : Value} {r0q : (List UInt8)} (hp0 : Rds (kInt .u8) b w0 R v0 p0) (H : louverref03qbits.f k p0 = some r0q) (hS : St b w0 W R (Fs)) :
  Calls Tryd.prog 66 ([v0] : List Value).toArray W (fun e W' => e = .returned (.string (mkS r0q)) ∧ St b w0 W' R (Fs)) := by
 obtain ⟨A0, c0, rfl⟩ := hp0.form
 unfold louverref03qbits.f at H
 refine calls_enter Tryd.func66 rfl 36 rfl (by kernel_rfl) (fun a h => ?_)
 refine wp_seq ?_
 refine WL.start ?_
 refine WL.bl 1 1 h [(2, .string (mkS []))] (fun a14k h14l => ?_)
 refine WL.dn ?_
 refine wp_seq ?_
 refine WL.start ?_
 refine WL.bl 1 1 h14l [(3, .string (mkS []))] (fun a14m h14n => ?_)
 refine WL.dn ?_
 refine wp_seq ?_
 refine wp_seq ?_
 refine WL.start ?_
 refine WL.bl 3 3 h14n [(10, i6 0), (9, i6 (p0.length : Int)), (8, .slice A0 p0.length c0)] (fun a14o h14p => ?_)
 refine WL.dn ?_
 refine wp_block ?_
 clear h14l a14k h14n a14m
 refine wp_loop_ghost (fun kq_ a_ W_ => ∃ (x14v : (List UInt8)), ∃ (x14w : Int), Hd a_ 36 [(0, .slice A0 p0.length c0), (3, .string (mkS x14v)), (9, i6 (p0.length : Int)), (10, i6 x14w)] ∧ Asd (louverref03qbits.l0 kq_ x14v x14w p0 = some r0q) ∧ Asd (kq_ ≤ k) ∧ Asd (St b w0 W_ R (Fs))) k ⟨([] : List UInt8), 0, h14p.keep ⟨rfl, rfl, rfl, rfl, trivial⟩, ⟨H⟩, ⟨Nat.le_refl _⟩, ⟨hS⟩⟩ ?_
 clear H hS
 rintro kk14u a14r W14s ⟨x14v, x14w, h14q, ⟨H⟩, ⟨hkkk14u⟩, ⟨hS14t⟩⟩
 obtain _ | kk14x := kk14u
 ·exact absurd H (by simp [louverref03qbits.l0])
 simp only [louverref03qbits.l0] at H
 refine wp_seq ?_
 refine WL.start ?_
 refine WL.bl 1 1 h14q [(11, .bool (decide (x14w < (p0.length : Int))))] (fun a14y h14z => ?_)
 refine WL.dn ?_
 refine wp_seq ?_
 clear h14q a14r
 by_cases c150 : x14w < (p0.length : Int)
 ·rw [if_pos c150] at H
  have hb_ : (decide (x14w < (p0.length : Int))) = true := decide_eq_true c150
  try rw [hb_] at h14z
  clear hb_
  refine wp_then h14z rfl ?_
  refine wp_skip ?_
  refine wp_seq ?_
  refine wp_block ?_
  refine wp_seq ?_
  refine WL.start ?_
  refine WL.bl 2 2 h14z [(4, i6 x14w), (12, i6 x14w)] (fun a151 h152 => ?_)
  refine WL.dn ?_
  refine wp_seq ?_
  refine WL.start ?_
  refine WL.bl 2 2 h152 [(14, i6 x14w), (13, .slice A0 p0.length c0)] (fun a153 h154 => ?_)
  clear h14z a14y h152 a151
  by_cases c155 : 0 ≤ x14w
  ·rw [if_pos c155] at H
   have hi158 : 0 ≤ x14w := by first | assumption | omega
   have hi159 : x14w < (p0.length : Int) := by first | assumption | omega
   obtain ⟨ad156, _, ha157, -, -⟩ := Rds.elemAny hp0 hi158 (gt_get (z := (0 : Int)) hi158 hi159)
   refine WL.oq h154 rfl ?_
   refine owp_rn (.pointer (some (ad156.add (x14w.toNat * 1)))) h154 rfl (run_idx (ad := ad156) (sz := 1) rfl (by rw [← ha157]; rfl) rfl Tryd.underlying22 (by kernel_rfl) hi158 hi159) (fun a15a h15b => ?_)
   obtain ⟨ad15c, cs15d, ha15e, hr15g, hc15f⟩ := Rds.elemAny hp0 hi158 (gt_get (z := (0 : Int)) hi158 hi159)
   rw [ha157] at ha15e; obtain rfl := Option.some.inj ha15e
   obtain rfl : cs15d = [.int .u8 (gt (0 : Int) p0 x14w)] := hr15g
   refine WL.oq h15b rfl ?_
   refine owp_rn (.int .u8 (gt (0 : Int) p0 x14w)) h15b rfl (run_load1 rfl rfl Tryd.underlying5 rfl (cell0 (hc15f _ (fun _ _ hk_ => hS14t.kn hk_)))) (fun a15h h15i => ?_)
   refine WL.bl 1 5 h15i [(5, .int .u8 (gt (0 : Int) p0 x14w))] (fun a15j h15k => ?_)
   refine WL.dn ?_
   refine wp_seq ?_
   refine WL.start ?_
   refine WL.bl 1 1 h15k [(6, .string (mkS []))] (fun a15l h15m => ?_)
   refine WL.dn ?_
   refine wp_seq ?_
   refine wp_seq ?_
   refine WL.start ?_
   refine WL.bl 1 1 h15m [(7, i6 0)] (fun a15n h15o => ?_)
   refine WL.dn ?_
   refine wp_block ?_
   clear h154 a153 h15b a15a h15i a15h h15k a15j h15m a15l
   refine wp_loop_ghost (fun kq_ a_ W_ => ∃ (x15u : Int), ∃ (x15v : (List UInt8)), ∃ (x15w : Int), Hd a_ 36 [(0, .slice A0 p0.length c0), (3, .string (mkS x14v)), (5, .int .u8 x15u), (6, .string (mkS x15v)), (7, i6 x15w), (9, i6 (p0.length : Int)), (10, i6 x14w)] ∧ Asd (louverref03qbits.l1 kq_ x15u x15v x15w p0 x14v x14w = some r0q) ∧ Asd (kq_ ≤ kk14x) ∧ Asd (St b w0 W_ R (Fs))) kk14x ⟨(gt (0 : Int) p0 x14w), ([] : List UInt8), 0, h15o.keep ⟨rfl, rfl, rfl, rfl, rfl, rfl, rfl, trivial⟩, ⟨H⟩, ⟨Nat.le_refl _⟩, ⟨hS14t⟩⟩ ?_
   clear H hS14t
   rintro kk15t a15q W15r ⟨x15u, x15v, x15w, h15p, ⟨H⟩, ⟨hkkk15t⟩, ⟨hS15s⟩⟩
   obtain _ | kk15x := kk15t
   ·exact absurd H (by simp [louverref03qbits.l1])
   simp only [louverref03qbits.l1] at H
   refine wp_seq ?_
   refine wp_seq ?_
   refine WL.start ?_
   refine WL.bl 2 2 h15p [(18, .bool (decide (x15w < 8))), (17, i6 x15w)] (fun a15y h15z => ?_)
   refine WL.dn ?_
   clear h15p a15q
   by_cases c160 : x15w < 8
   ·rw [if_pos c160] at H
    have hb_ : (decide (x15w < 8)) = true := decide_eq_true c160
    try rw [hb_] at h15z
    clear hb_
    refine wp_then h15z rfl ?_
    refine wp_skip ?_
    refine wp_seq ?_
    refine wp_block ?_
    refine wp_seq ?_
    refine WL.start ?_
    refine WL.bl 5 5 h15z [(25, .int .u8 (IntKind.u8.wrap ((Int.tmod x15u 2) + 1))), (24, .int .u8 (Int.tmod x15u 2)), (23, .int .u8 x15u), (22, .int .u8 (Int.tmod x15u 2)), (21, .int .u8 x15u)] (fun a161 h162 => ?_)
    clear h15z a15y
    by_cases c163 : 0 ≤ (Int.tmod x15u 2)
    ·rw [if_pos c163] at H
     by_cases c164 : (Int.tmod x15u 2) ≤ (IntKind.u8.wrap ((Int.tmod x15u 2) + 1))
     ·rw [if_pos c164] at H
      by_cases c165 : (IntKind.u8.wrap ((Int.tmod x15u 2) + 1)) ≤ (([48, 49] : List UInt8).length : Int)
      ·rw [if_pos c165] at H
       refine WL.oq h162 rfl ?_
       refine owp_rn (.string (mkS ((([48, 49] : List UInt8).take (IntKind.u8.wrap ((Int.tmod x15u 2) + 1)).toNat).drop (Int.tmod x15u 2).toNat))) h162 rfl (run_strcut' (l := Int.tmod x15u 2) (h := IntKind.u8.wrap ((Int.tmod x15u 2) + 1)) rfl rfl Tryd.underlying9 ⟨_, rfl⟩ ⟨_, rfl⟩ (by first | assumption | omega) (by first | assumption | omega) (by first | assumption | omega) rfl) (fun a166 h167 => ?_)
       refine WL.bl 1 7 h167 [(27, .string (mkS x15v))] (fun a168 h169 => ?_)
       clear h162 a161 h167 a166
       by_cases c16a : ((([48, 49] : List UInt8).take (IntKind.u8.wrap ((Int.tmod x15u 2) + 1)).toNat).drop (Int.tmod x15u 2).toNat).length + x15v.length ≤ 9223372036854775807
       ·rw [if_pos c16a] at H
        refine WL.oq h169 rfl ?_
        refine owp_rn (.string (mkS (((([48, 49] : List UInt8).take (IntKind.u8.wrap ((Int.tmod x15u 2) + 1)).toNat).drop (Int.tmod x15u 2).toNat) ++ x15v))) h169 rfl (run_concat rfl rfl rfl (by assumption)) (fun a16b h16c => ?_)
        refine WL.bl 1 9 h16c [(6, .string (mkS (((([48, 49] : List UInt8).take (IntKind.u8.wrap ((Int.tmod x15u 2) + 1)).toNat).drop (Int.tmod x15u 2).toNat) ++ x15v)))] (fun a16d h16e => ?_)
        refine WL.dn ?_
        refine WL.start ?_
        refine WL.bl 3 3 h16e [(5, .int .u8 (IntKind.u8.wrap (Int.tdiv x15u 2))), (30, .int .u8 (IntKind.u8.wrap (Int.tdiv x15u 2))), (29, .int .u8 x15u)] (fun a16f h16g => ?_)
        refine WL.dn ?_
        refine WL.start ?_
        refine WL.bl 3 3 h16g [(7, i6 (IntKind.i64.wrap (x15w + 1))), (20, i6 (IntKind.i64.wrap (x15w + 1))), (19, i6 x15w)] (fun a16h h16i => ?_)
        refine WL.dn ?_
        exact ⟨kk15x, by omega, IntKind.u8.wrap (Int.tdiv x15u 2), ((([48, 49] : List UInt8).take (IntKind.u8.wrap ((Int.tmod x15u 2) + 1)).toNat).drop (Int.tmod x15u 2).toNat) ++ x15v, IntKind.i64.wrap (x15w + 1), h16i.keep ⟨rfl, rfl, rfl, rfl, rfl, rfl, rfl, trivial⟩, ⟨H⟩, ⟨by omega⟩, ⟨hS15s⟩⟩
       ·rw [if_neg c16a] at H
        cases H
      ·rw [if_neg c165] at H
       cases H
     ·rw [if_neg c164] at H
      cases H
    ·rw [if_neg c163] at H
     cases H
   ·rw [if_neg c160] at H
    have hb_ : (decide (x15w < 8)) = false := decide_eq_false c160
    try rw [hb_] at h15z
    clear hb_
    refine wp_else h15z rfl ?_
    refine wp_exit ?_
    refine WL.start ?_
    refine WL.bl 2 2 h15z [(32, .string (mkS x15v)), (31, .string (mkS x14v))] (fun a16j h16k => ?_)
    clear h15z a15y
    by_cases c16l : x14v.length + x15v.length ≤ 9223372036854775807
    ·rw [if_pos c16l] at H
     refine WL.oq h16k rfl ?_
     refine owp_rn (.string (mkS (x14v ++ x15v))) h16k rfl (run_concat rfl rfl rfl (by assumption)) (fun a16m h16n => ?_)
     refine WL.bl 1 4 h16n [(3, .string (mkS (x14v ++ x15v)))] (fun a16o h16p => ?_)
     refine WL.dn ?_
     refine WL.start ?_
     refine WL.bl 2 2 h16p [(10, i6 (IntKind.i64.wrap (x14w + 1))), (34, i6 (IntKind.i64.wrap (x14w + 1)))] (fun a16q h16r => ?_)
     refine WL.dn ?_
     exact ⟨kk15x, by omega, x14v ++ x15v, IntKind.i64.wrap (x14w + 1), h16r.keep ⟨rfl, rfl, rfl, rfl, trivial⟩, ⟨H⟩, ⟨by omega⟩, ⟨hS15s⟩⟩
    ·rw [if_neg c16l] at H
     cases H
  ·rw [if_neg c155] at H
   cases H
 ·rw [if_neg c150] at H
  have hb_ : (decide (x14w < (p0.length : Int))) = false := decide_eq_false c150
  try rw [hb_] at h14z
  clear hb_
  refine wp_else h14z rfl ?_
  refine wp_exit ?_
  refine wp_seq ?_
  refine WL.start ?_
  refine WL.bl 2 2 h14z [(2, .string (mkS x14v)), (35, .string (mkS x14v))] (fun a16s h16t => ?_)
  refine WL.dn ?_
  refine wp_ret ?_
  obtain rfl := Option.some.inj H
  repeat (first | with_reducible refine t1 ?_ | with_reducible refine t2 ?_ | with_reducible refine t3 ?_)
  refine bret (.string (mkS x14v)) h16t ?_
  exact ⟨rfl, hS14t⟩

/-! ### louver/louverref03.begins -/
def louverref03qbegins.f (p0 : (List UInt8)) (p1 : (List UInt8)) (p2 : Int) : Option (Bool) := if (IntKind.i64.wrap (p2 + (p0.length : Int))) ≤ (p1.length : Int) then (if 0 ≤ p2 then (if p2 ≤ (IntKind.i64.wrap (p2 + (p0.length : Int))) then (some (decide (((p1.take (IntKind.i64.wrap (p2 + (p0.length : Int))).toNat).drop p2.toNat) = p0))) else (none)) else (none)) else (some false)
set_option maxHeartbeats 20000000 in
set_option maxRecDepth 100000 in
theorem louverref03qbegins.calls {b : Nat} {w0 W : World} {R : Frag} {Fs : List Frag} {p0 : (List UInt8)} {p1 : (List UInt8)} {p2 : Int}  {r0q : Bool}  (H : louverref03qbegins.f p0 p1 p2 = some r0q) (hS : St b w0 W R (Fs)) :
  Calls Tryd.prog 67 ([.string (mkS p0), .string (mkS p1), i6 p2] : List Value).toArray W (fun e W' => e = .returned (.bool r0q) ∧ St b w0 W' R (Fs)) := by
 unfold louverref03qbegins.f at H
 refine calls_enter Tryd.func67 rfl 25 rfl (by kernel_rfl) (fun a h => ?_)
 refine wp_seq ?_
 refine WL.start ?_
 refine WL.bl 1 1 h [(6, .bool false)] (fun a11b h11c => ?_)
 refine WL.dn ?_
 refine wp_seq ?_
 refine WL.start ?_
 refine WL.bl 8 8 h11c [(14, .bool (decide ((IntKind.i64.wrap (p2 + (p0.length : Int))) ≤ (p1.length : Int)))), (13, .bool (decide ((IntKind.i64.wrap (p2 + (p0.length : Int))) ≤ (p1.length : Int)))), (12, i6 (p1.length : Int)), (11, .string (mkS p1)), (10, i6 (IntKind.i64.wrap (p2 + (p0.length : Int)))), (9, i6 (p0.length : Int)), (8, .string (mkS p0)), (7, i6 p2)] (fun a11d h11e => ?_)
 clear h11c a11b
 by_cases c11f : (IntKind.i64.wrap (p2 + (p0.length : Int))) ≤ (p1.length : Int)
 ·rw [if_pos c11f] at H
  have hb_ : (decide ((IntKind.i64.wrap (p2 + (p0.length : Int))) ≤ (p1.length : Int))) = true := decide_eq_true c11f
  try rw [hb_] at h11e
  clear hb_
  refine WL.oq h11e rfl (owp_rk (.string (mkS p1)) h11e rfl (fun a11g h11h => ?_))
  refine WL.oq h11h rfl (owp_rk (i6 p2) h11h rfl (fun a11i h11j => ?_))
  refine WL.oq h11j rfl (owp_rk (i6 p2) h11j rfl (fun a11k h11l => ?_))
  refine WL.oq h11l rfl (owp_rk (.string (mkS p0)) h11l rfl (fun a11m h11n => ?_))
  refine WL.oq h11n rfl (owp_rk (i6 (p0.length : Int)) h11n rfl (fun a11o h11p => ?_))
  refine WL.oq h11p rfl (owp_rk (i6 (IntKind.i64.wrap (p2 + (p0.length : Int)))) h11p rfl (fun a11q h11r => ?_))
  clear h11e a11d h11h a11g h11j a11i h11l a11k h11n a11m h11p a11o
  by_cases c11s : 0 ≤ p2
  ·rw [if_pos c11s] at H
   by_cases c11t : p2 ≤ (IntKind.i64.wrap (p2 + (p0.length : Int)))
   ·rw [if_pos c11t] at H
    refine WL.oq h11r rfl ?_
    refine owp_rn (.string (mkS ((p1.take (IntKind.i64.wrap (p2 + (p0.length : Int))).toNat).drop p2.toNat))) h11r rfl (run_strcut' (l := p2) (h := IntKind.i64.wrap (p2 + (p0.length : Int))) rfl rfl Tryd.underlying9 ⟨_, rfl⟩ ⟨_, rfl⟩ (by first | assumption | omega) (by first | assumption | omega) (by first | assumption | omega) rfl) (fun a11u h11v => ?_)
    refine WL.oq h11v rfl (owp_rk (.string (mkS p0)) h11v rfl (fun a11w h11x => ?_))
    refine WL.oq h11x rfl ?_
    refine owp_rn (.bool (decide (((p1.take (IntKind.i64.wrap (p2 + (p0.length : Int))).toNat).drop p2.toNat) = p0))) h11x rfl (run_streq rfl rfl rfl) (fun a11y h11z => ?_)
    refine WL.bl 2 19 h11z [(6, .bool (decide (((p1.take (IntKind.i64.wrap (p2 + (p0.length : Int))).toNat).drop p2.toNat) = p0))), (24, .bool (decide (((p1.take (IntKind.i64.wrap (p2 + (p0.length : Int))).toNat).drop p2.toNat) = p0)))] (fun a120 h121 => ?_)
    refine WL.dn ?_
    refine wp_ret ?_
    obtain rfl := Option.some.inj H
    repeat (first | with_reducible refine t1 ?_ | with_reducible refine t2 ?_ | with_reducible refine t3 ?_)
    refine bret (.bool (decide (((p1.take (IntKind.i64.wrap (p2 + (p0.length : Int))).toNat).drop p2.toNat) = p0))) h121 ?_
    exact ⟨rfl, hS⟩
   ·rw [if_neg c11t] at H
    cases H
  ·rw [if_neg c11s] at H
   cases H
 ·rw [if_neg c11f] at H
  have hb_ : (decide ((IntKind.i64.wrap (p2 + (p0.length : Int))) ≤ (p1.length : Int))) = false := decide_eq_false c11f
  try rw [hb_] at h11e
  clear hb_
  refine WL.sk h11e rfl rfl (fun a122 h123 => ?_)
  refine WL.sk h123 rfl rfl (fun a124 h125 => ?_)
  refine WL.sk h125 rfl rfl (fun a126 h127 => ?_)
  refine WL.sk h127 rfl rfl (fun a128 h129 => ?_)
  refine WL.sk h129 rfl rfl (fun a12a h12b => ?_)
  refine WL.sk h12b rfl rfl (fun a12c h12d => ?_)
  refine WL.sk h12d rfl rfl (fun a12e h12f => ?_)
  refine WL.sk h12f rfl rfl (fun a12g h12h => ?_)
  refine WL.sk h12h rfl rfl (fun a12i h12j => ?_)
  refine WL.bl 2 19 h12j [(6, .bool false), (24, .bool false)] (fun a12k h12l => ?_)
  refine WL.dn ?_
  refine wp_ret ?_
  obtain rfl := Option.some.inj H
  repeat (first | with_reducible refine t1 ?_ | with_reducible refine t2 ?_ | with_reducible refine t3 ?_)
  refine bret (.bool false) h12l ?_
  exact ⟨rfl, hS⟩

/-! ### louver/louverref03.Decode -/
mutual
def louverref03qDecode.j0 : Nat → (List Int) → Int → (List UInt8) → Option ((List UInt8) × Int)
 | 0, _, _, _ => none
 | k + 1, x25y, x263, r21y => if (IntKind.i64.wrap ((r21y.length : Int) - x263)) > 7 then (some (([] : List UInt8), 3)) else (louverref03qDecode.l3 k x263 r21y x25y)
def louverref03qDecode.l1 : Nat → (List Int) → Int → (List UInt8) → (List (List UInt8)) → Option ((List UInt8) × Int)
 | 0, _, _, _, _ => none
 | k + 1, x269, x26e, r21y, r21h => if x26e < (r21y.length : Int) then (louverref03qDecode.l2 k (-1) 0 r21h r21y x269 x26e) else (louverref03qDecode.j0 k x269 x26e r21y)
def louverref03qDecode.l2 : Nat → Int → Int → (List (List UInt8)) → (List UInt8) → (List Int) → Int → Option ((List UInt8) × Int)
 | 0, _, _, _, _, _, _ => none
 | k + 1, x26t, x26u, r21h, r21y, x269, x26e => if x26u < (r21h.length : Int) then (if 0 ≤ x26u then (bnd1 (louverref03qbegins.f (gt [] r21h x26u) r21y x26e) fun r27k => (if r27k = true then (louverref03qDecode.l2 k x26u (IntKind.i64.wrap (x26u + 1)) r21h r21y x269 x26e) else (louverref03qDecode.l2 k x26t (IntKind.i64.wrap (x26u + 1)) r21h r21y x269 x26e))) else (none)) else (if x26t = 256 then (some (([] : List UInt8), 3)) else (if x26t < 0 then (louverref03qDecode.j0 k x269 x26e r21y) else (if x269.length + 1 ≤ 140737488355328 then (lt1 (x269 ++ ([IntKind.u8.wrap x26t] : List Int) : List Int) fun y28q => (if 0 ≤ x26t then (if x26t < (r21h.length : Int) then (louverref03qDecode.l1 k y28q (IntKind.i64.wrap (x26e + ((gt [] r21h x26t).length : Int))) r21y r21h) else (none)) else (none))) else (none))))
def louverref03qDecode.l3 : Nat → Int → (List UInt8) → (List Int) → Option ((List UInt8) × Int)
 | 0, _, _, _ => none
 | k + 1, x29u, r21y, x25y => if x29u < (r21y.length : Int) then (if 0 ≤ x29u then (if (btI r21y x29u) = 49 then (louverref03qDecode.l3 k (IntKind.i64.wrap (x29u + 1)) r21y x25y) else (some (([] : List UInt8), 3))) else (none)) else (some (toS x25y, 0))
end
def louverref03qDecode.f (k : Nat) (p0 : (List Int)) : Option ((List UInt8) × Int) := bnd1 (louverref03qCodes.f k) fun r21h => (bnd1 (louverref03qbits.f k p0) fun r21y => (louverref03qDecode.l1 k ([] : List Int) 0 r21y r21h))
set_option maxHeartbeats 20000000 in
set_option maxRecDepth 100000 in
theorem louverref03qDecode.calls (k : Nat) {b : Nat} {w0 W : World} {R : Frag} {Fs : List Frag} {p0 : (List Int)} {v0 : Value} {r0q : (List UInt8)} {r1q : Int} (hp0 : Rds (kInt .u8) b w0 R v0 p0) (H : louverref03qDecode.f k p0 = some (r0q, r1q)) (hS : St b w0 W R (Fs)) :
  Calls Tryd.prog 62 ([v0] : List Value).toArray W (fun e W' => e = .returned (.tuple #[.string (mkS r0q), i6 r1q]) ∧ St b w0 W' R (Fs)) := by
 obtain ⟨A0, c0, rfl⟩ := hp0.form
 unfold louverref03qDecode.f at H
 refine calls_enter Tryd.func62 rfl 65 rfl (by kernel_rfl) (fun a h => ?_)
 refine wp_seq ?_
 refine WL.start ?_
 refine WL.bl 2 2 h [(3, i6 0), (2, .string (mkS []))] (fun a21e h21f => ?_)
 refine WL.dn ?_
 refine wp_seq ?_
 refine WL.start ?_
 obtain ⟨r21h, A21g, H⟩ := bind1 H
 refine WL.oq h21f rfl ?_
 refine owp_call [] h21f rfl (by kernel_rfl) rfl Tryd.func65 (by kernel_rfl) rfl (by kernel_rfl) (louverref03qCodes.calls k  A21g hS) (fun e21j W21i hp21k => ?_)
 obtain ⟨v21n, M21o, rfl, hr21p, hS21q⟩ := hp21k
 refine ⟨_, rfl, fun a21l h21m => ?_⟩
 obtain ⟨A21r, c21s, rfl⟩ := hr21p.form
 refine WL.bl 1 2 h21m [(4, .slice A21r r21h.length c21s)] (fun a21t h21u => ?_)
 refine WL.dn ?_
 refine wp_seq ?_
 refine WL.start ?_
 refine WL.bl 1 1 h21u [(11, .slice A0 p0.length c0)] (fun a21v h21w => ?_)
 obtain ⟨r21y, A21x, H⟩ := bind1 H
 refine WL.oq h21w rfl ?_
 refine owp_call [.slice A0 p0.length c0] h21w rfl (by kernel_rfl) rfl Tryd.func66 (by kernel_rfl) rfl (by kernel_rfl) (louverref03qbits.calls k hp0 A21x hS21q) (fun e220 W21z hp221 => ?_)
 obtain ⟨rfl, hS224⟩ := hp221
 refine ⟨_, rfl, fun a222 h223 => ?_⟩
 refine WL.bl 1 3 h223 [(5, .string (mkS r21y))] (fun a225 h226 => ?_)
 refine WL.dn ?_
 refine wp_seq ?_
 refine WL.start ?_
 refine WL.oq h226 rfl ?_
 refine owp_nw (fun g_ => .slice (some ⟨g_, 0, none⟩) 0 0) (.cells ([] : List Value).toArray 5 (0, 0)) h226 rfl hS224 (fun a227 W229 g22a h228 hS22b => ?_)
 have hr22c : Row (kInt .u8) 5 b w0 R (.slice (some ⟨g22a, 0, none⟩) 0 0) ([] : List Int) (bx g22a 5 []) := Row.lit (xs := ([] : List Int)) (Mi := []) ⟨rfl, rfl⟩ (by simp [maxLen])
 refine WL.bl 1 2 h228 [(6, .slice (some ⟨g22a, 0, none⟩) 0 0)] (fun a22d h22e => ?_)
 refine WL.dn ?_
 refine wp_seq ?_
 refine WL.start ?_
 refine WL.bl 1 1 h22e [(7, i6 0)] (fun a22f h22g => ?_)
 refine WL.dn ?_
 refine wp_seq ?_
 clear h21f a21e h21m a21l h21u a21t h21w a21v h223 a222 h226 a225 h228 a227 h22e a22d
 refine wp_meet (I := fun a_ W_ => ∃ kq_, ∃ (x25y : (List Int)), ∃ (A25z : Option Addr), ∃ (c260 : Nat), ∃ (M261 : Frag), ∃ (x263 : Int), Hd a_ 65 [(5, .string (mkS r21y)), (6, .slice A25z x25y.length c260), (7, i6 x263)] ∧ Asd (louverref03qDecode.j0 kq_ x25y x263 r21y = some (r0q, r1q)) ∧ Asd (kq_ ≤ k) ∧ Asd (St b w0 W_ R (M261 :: Fs)) ∧ Asd (Row (kInt .u8) 5 b w0 R (.slice A25z x25y.length c260) x25y M261)) ?_ ?_
 ·refine wp_block ?_
  have hS26f := hS22b.b1
  refine wp_loop_ghost (fun kq_ a_ W_ => ∃ (x269 : (List Int)), ∃ (A26a : Option Addr), ∃ (c26b : Nat), ∃ (M26c : Frag), ∃ (x26e : Int), Hd a_ 65 [(4, .slice A21r r21h.length c21s), (5, .string (mkS r21y)), (6, .slice A26a x269.length c26b), (7, i6 x26e)] ∧ Asd (louverref03qDecode.l1 kq_ x269 x26e r21y r21h = some (r0q, r1q)) ∧ Asd (kq_ ≤ k) ∧ Asd (St b w0 W_ R (M21o :: M26c :: Fs)) ∧ Asd (Row (kInt .u8) 5 b w0 R (.slice A26a x269.length c26b) x269 M26c)) k ⟨([] : List Int), (some ⟨g22a, 0, none⟩), 0, (bx g22a 5 []), 0, h22g.keep ⟨rfl, rfl, rfl, rfl, trivial⟩, ⟨H⟩, ⟨Nat.le_refl _⟩, ⟨hS26f⟩, ⟨hr22c⟩⟩ ?_
  clear H hS26f
  rintro kk268 a265 W266 ⟨x269, A26a, c26b, M26c, x26e, h264, ⟨H⟩, ⟨hkkk268⟩, ⟨hS267⟩, ⟨hr26d⟩⟩
  obtain _ | kk26g := kk268
  ·exact absurd H (by simp [louverref03qDecode.l1])
  simp only [louverref03qDecode.l1] at H
  refine wp_seq ?_
  refine wp_seq ?_
  refine WL.start ?_
  refine WL.bl 4 4 h264 [(17, .bool (decide (x26e < (r21y.length : Int)))), (16, i6 (r21y.length : Int)), (15, .string (mkS r21y)), (14, i6 x26e)] (fun a26h h26i => ?_)
  refine WL.dn ?_
  clear h264 a265
  by_cases c26j : x26e < (r21y.length : Int)
  ·rw [if_pos c26j] at H
   have hb_ : (decide (x26e < (r21y.length : Int))) = true := decide_eq_true c26j
   try rw [hb_] at h26i
   clear hb_
   refine wp_then h26i rfl ?_
   refine wp_skip ?_
   refine wp_block ?_
   refine wp_seq ?_
   refine WL.start ?_
   refine WL.bl 1 1 h26i [(8, i6 (-1))] (fun a26k h26l => ?_)
   refine WL.dn ?_
   refine wp_seq ?_
   refine wp_seq ?_
   refine WL.start ?_
   refine WL.bl 3 3 h26l [(20, i6 0), (19, i6 (r21h.length : Int)), (18, .slice A21r r21h.length c21s)] (fun a26m h26n => ?_)
   refine WL.dn ?_
   refine wp_block ?_
   clear h26i a26h h26l a26k
   refine wp_loop_ghost (fun kq_ a_ W_ => ∃ (x26t : Int), ∃ (x26u : Int), Hd a_ 65 [(4, .slice A21r r21h.length c21s), (5, .string (mkS r21y)), (6, .slice A26a x269.length c26b), (7, i6 x26e), (8, i6 x26t), (19, i6 (r21h.length : Int)), (20, i6 x26u)] ∧ Asd (louverref03qDecode.l2 kq_ x26t x26u r21h r21y x269 x26e = some (r0q, r1q)) ∧ Asd (kq_ ≤ kk26g) ∧ Asd (St b w0 W_ R (M21o :: M26c :: Fs))) kk26g ⟨(-1), 0, h26n.keep ⟨rfl, rfl, rfl, rfl, rfl, rfl, rfl, trivial⟩, ⟨H⟩, ⟨Nat.le_refl _⟩, ⟨hS267⟩⟩ ?_
   clear H hS267
   rintro kk26s a26p W26q ⟨x26t, x26u, h26o, ⟨H⟩, ⟨hkkk26s⟩, ⟨hS26r⟩⟩
   obtain _ | kk26v := kk26s
   ·exact absurd H (by simp [louverref03qDecode.l2])
   simp only [louverref03qDecode.l2] at H
   refine wp_seq ?_
   refine WL.start ?_
   refine WL.bl 1 1 h26o [(21, .bool (decide (x26u < (r21h.length : Int))))] (fun a26w h26x => ?_)
   refine WL.dn ?_
   refine wp_seq ?_
   clear h26o a26p
   by_cases c26y : x26u < (r21h.length : Int)
   ·rw [if_pos c26y] at H
    have hb_ : (decide (x26u < (r21h.length : Int))) = true := decide_eq_true c26y
    try rw [hb_] at h26x
    clear hb_
    refine wp_then h26x rfl ?_
    refine wp_skip ?_
    refine wp_seq ?_
    refine wp_block ?_
    refine wp_seq ?_
    refine WL.start ?_
    refine WL.bl 2 2 h26x [(9, i6 x26u), (22, i6 x26u)] (fun a26z h270 => ?_)
    refine WL.dn ?_
    refine wp_seq ?_
    refine WL.start ?_
    refine WL.bl 2 2 h270 [(24, i6 x26u), (23, .slice A21r r21h.length c21s)] (fun a271 h272 => ?_)
    clear h26x a26w h270 a26z
    by_cases c273 : 0 ≤ x26u
    ·rw [if_pos c273] at H
     have hi276 : 0 ≤ x26u := by first | assumption | omega
     have hi277 : x26u < (r21h.length : Int) := by first | assumption | omega
     obtain ⟨ad274, _, ha275, -, -⟩ := Rds.elemAny hr21p.rds hi276 (gt_get (z := []) hi276 hi277)
     refine WL.oq h272 rfl ?_
     refine owp_rn (.pointer (some (ad274.add (x26u.toNat * 1)))) h272 rfl (run_idx (ad := ad274) (sz := 1) rfl (by rw [← ha275]; rfl) rfl Tryd.underlying110 (by kernel_rfl) hi276 hi277) (fun a278 h279 => ?_)
     obtain ⟨ad27a, cs27b, ha27c, hr27e, hc27d⟩ := Rds.elemAny hr21p.rds hi276 (gt_get (z := []) hi276 hi277)
     rw [ha275] at ha27c; obtain rfl := Option.some.inj ha27c
     obtain rfl : cs27b = [.string (mkS (gt [] r21h x26u))] := hr27e
     refine WL.oq h279 rfl ?_
     refine owp_rn (.string (mkS (gt [] r21h x26u))) h279 rfl (run_load1 rfl rfl Tryd.underlying9 rfl (cell0 (hc27d _ (fun _ _ hk_ => (hS26r).pool.kn hk_)))) (fun a27f h27g => ?_)
     refine WL.bl 2 6 h27g [(28, i6 x26e), (27, .string (mkS r21y))] (fun a27h h27i => ?_)
     obtain ⟨r27k, A27j, H⟩ := bind1 H
     refine WL.oq h27i rfl ?_
     refine owp_call [.string (mkS (gt [] r21h x26u)), .string (mkS r21y), i6 x26e] h27i rfl (by kernel_rfl) rfl Tryd.func67 (by kernel_rfl) rfl (by kernel_rfl) (louverref03qbegins.calls  A27j hS26r) (fun e27m W27l hp27n => ?_)
     obtain ⟨rfl, hS27q⟩ := hp27n
     refine ⟨_, rfl, fun a27o h27p => ?_⟩
     refine WL.dn ?_
     clear h272 a271 h279 a278 h27g a27f h27i a27h
     by_cases c27r : r27k = true
     ·rw [if_pos c27r] at H
      have hb_ : r27k = true := c27r
      try rw [hb_] at h27p
      clear hb_
      refine wp_then h27p rfl ?_
      refine WL.start ?_
      refine WL.bl 2 2 h27p [(8, i6 x26u), (30, i6 x26u)] (fun a27s h27t => ?_)
      refine WL.dn ?_
      refine WL.start ?_
      refine WL.bl 2 2 h27t [(20, i6 (IntKind.i64.wrap (x26u + 1))), (31, i6 (IntKind.i64.wrap (x26u + 1)))] (fun a27u h27v => ?_)
      refine WL.dn ?_
      exact ⟨kk26v, by omega, x26u, IntKind.i64.wrap (x26u + 1), h27v.keep ⟨rfl, rfl, rfl, rfl, rfl, rfl, rfl, trivial⟩, ⟨H⟩, ⟨by omega⟩, ⟨hS27q⟩⟩
     ·rw [if_neg c27r] at H
      have hb_ : r27k = false := (Bool.eq_false_iff.2 c27r)
      try rw [hb_] at h27p
      clear hb_
      refine wp_else h27p rfl ?_
      refine wp_skip ?_
      refine WL.start ?_
      refine WL.bl 2 2 h27p [(20, i6 (IntKind.i64.wrap (x26u + 1))), (31, i6 (IntKind.i64.wrap (x26u + 1)))] (fun a27w h27x => ?_)
      refine WL.dn ?_
      exact ⟨kk26v, by omega, x26t, IntKind.i64.wrap (x26u + 1), h27x.keep ⟨rfl, rfl, rfl, rfl, rfl, rfl, rfl, trivial⟩, ⟨H⟩, ⟨by omega⟩, ⟨hS27q⟩⟩
    ·rw [if_neg c273] at H
     cases H
   ·rw [if_neg c26y] at H
    have hb_ : (decide (x26u < (r21h.length : Int))) = false := decide_eq_false c26y
    try rw [hb_] at h26x
    clear hb_
    refine wp_else h26x rfl ?_
    refine wp_exit ?_
    refine wp_seq ?_
    refine wp_seq ?_
    refine WL.start ?_
    refine WL.bl 2 2 h26x [(33, .bool (decide (x26t = 256))), (32, i6 x26t)] (fun a27y h27z => ?_)
    refine WL.dn ?_
    clear h26x a26w
    by_cases c280 : x26t = 256
    ·rw [if_pos c280] at H
     have hb_ : (decide (x26t = 256)) = true := decide_eq_true c280
     try rw [hb_] at h27z
     clear hb_
     refine wp_then h27z rfl ?_
     refine wp_seq ?_
     refine WL.start ?_
     refine WL.bl 2 2 h27z [(3, i6 3), (2, .string (mkS []))] (fun a281 h282 => ?_)
     refine WL.dn ?_
     refine wp_ret ?_
     have hS283 := hS26r.drop_
     have hS284 := hS283.drop_
     obtain ⟨rfl, rfl⟩ := ret2 H
     repeat (first | with_reducible refine t1 ?_ | with_reducible refine t2 ?_ | with_reducible refine t3 ?_)
     refine bret (.tuple #[.string (mkS []), i6 3]) h282 ?_
     exact ⟨rfl, hS284⟩
    ·rw [if_neg c280] at H
     have hb_ : (decide (x26t = 256)) = false := decide_eq_false c280
     try rw [hb_] at h27z
     clear hb_
     refine wp_else h27z rfl ?_
     refine wp_skip ?_
     refine wp_seq ?_
     refine wp_seq ?_
     refine WL.start ?_
     refine WL.bl 2 2 h27z [(35, .bool (decide (x26t < 0))), (34, i6 x26t)] (fun a285 h286 => ?_)
     refine WL.dn ?_
     clear h27z a27y
     by_cases c287 : x26t < 0
     ·rw [if_pos c287] at H
      have hb_ : (decide (x26t < 0)) = true := decide_eq_true c287
      try rw [hb_] at h286
      clear hb_
      refine wp_then h286 rfl ?_
      refine wp_exit ?_
      have hS288 := hS26r.drop_
      exact ⟨kk26v, x269, A26a, c26b, M26c, x26e, h286.keep ⟨rfl, rfl, rfl, trivial⟩, ⟨H⟩, ⟨by omega⟩, ⟨hS288⟩, ⟨hr26d⟩⟩
     ·rw [if_neg c287] at H
      have hb_ : (decide (x26t < 0)) = false := decide_eq_false c287
      try rw [hb_] at h286
      clear hb_
      refine wp_else h286 rfl ?_
      refine wp_skip ?_
      refine wp_seq ?_
      refine WL.start ?_
      refine WL.bl 3 3 h286 [(38, .int .u8 (IntKind.u8.wrap x26t)), (37, i6 x26t), (36, .slice A26a x269.length c26b)] (fun a289 h28a => ?_)
      refine WL.oq h28a rfl ?_
      refine owp_nw (fun g_ => .slice (some ⟨g_, 0, none⟩) 1 1) (.cells ([.int .u8 (IntKind.u8.wrap x26t)] : List Value).toArray 5 (0, 0)) h28a rfl hS26r (fun a28b W28d g28e h28c hS28f => ?_)
      have hr28g : Row (kInt .u8) 5 b w0 R (.slice (some ⟨g28e, 0, none⟩) 1 1) ([IntKind.u8.wrap x26t] : List Int) (bx g28e 5 [.int .u8 (IntKind.u8.wrap x26t)]) := Row.lit (xs := ([IntKind.u8.wrap x26t] : List Int)) (Mi := []) ⟨_, _, [], _, rfl, rfl, ⟨rfl, rfl⟩, ⟨rfl, rfl⟩⟩ (by simp [maxLen])
      clear h286 a285 h28a a289
      by_cases c28h : x269.length + 1 ≤ 140737488355328
      ·rw [if_pos c28h] at H
       have hS28i := hS28f.b2
       refine WL.oq h28c rfl ?_
       refine owp_app_take (z := .int .u8 0) (bytes := 1) (dk := (kInt .u8)) h28c rfl (by kernel_rfl) rfl rfl rfl hr26d hr28g hS28i Tryd.underlying22 (by kernel_rfl) rfl (by decide) (by decide) (by first | omega | (simp only [List.length_cons, List.length_nil] at *; omega)) (fun a28j W28l v28m M28n h28k hr28o hS28p => ?_)
       obtain ⟨y28q, hy28r, H⟩ := lete H
       have hr28s : Row (kInt .u8) 5 b w0 R v28m y28q M28n := by rw [hy28r]; exact hr28o
       clear hr28o
       obtain ⟨A28t, c28u, rfl⟩ := hr28s.form
       refine WL.bl 1 6 h28k [(6, .slice A28t y28q.length c28u)] (fun a28v h28w => ?_)
       refine WL.dn ?_
       refine WL.start ?_
       refine WL.bl 3 3 h28w [(43, i6 x26t), (42, .slice A21r r21h.length c21s), (41, i6 x26e)] (fun a28x h28y => ?_)
       clear h28c a28b h28k a28j h28w a28v
       by_cases c28z : 0 ≤ x26t
       ·rw [if_pos c28z] at H
        by_cases c290 : x26t < (r21h.length : Int)
        ·rw [if_pos c290] at H
         have hi293 : 0 ≤ x26t := by first | assumption | omega
         have hi294 : x26t < (r21h.length : Int) := by first | assumption | omega
         obtain ⟨ad291, _, ha292, -, -⟩ := Rds.elemAny hr21p.rds hi293 (gt_get (z := []) hi293 hi294)
         refine WL.oq h28y rfl ?_
         refine owp_rn (.pointer (some (ad291.add (x26t.toNat * 1)))) h28y rfl (run_idx (ad := ad291) (sz := 1) rfl (by rw [← ha292]; rfl) rfl Tryd.underlying110 (by kernel_rfl) hi293 hi294) (fun a295 h296 => ?_)
         have hS297 := hS28p.b1
         obtain ⟨ad298, cs299, ha29a, hr29c, hc29b⟩ := Rds.elemAny hr21p.rds hi293 (gt_get (z := []) hi293 hi294)
         rw [ha292] at ha29a; obtain rfl := Option.some.inj ha29a
         obtain rfl : cs299 = [.string (mkS (gt [] r21h x26t))] := hr29c
         refine WL.oq h296 rfl ?_
         refine owp_rn (.string (mkS (gt [] r21h x26t))) h296 rfl (run_load1 rfl rfl Tryd.underlying9 rfl (cell0 (hc29b _ (fun _ _ hk_ => (hS297).pool.kn hk_)))) (fun a29d h29e => ?_)
         refine WL.bl 3 8 h29e [(7, i6 (IntKind.i64.wrap (x26e + ((gt [] r21h x26t).length : Int)))), (47, i6 (IntKind.i64.wrap (x26e + ((gt [] r21h x26t).length : Int)))), (46, i6 ((gt [] r21h x26t).length : Int))] (fun a29f h29g => ?_)
         refine WL.dn ?_
         exact ⟨kk26v, by omega, y28q, A28t, c28u, M28n, IntKind.i64.wrap (x26e + ((gt [] r21h x26t).length : Int)), h29g.keep ⟨rfl, rfl, rfl, rfl, trivial⟩, ⟨H⟩, ⟨by omega⟩, ⟨hS297⟩, ⟨hr28s⟩⟩
        ·rw [if_neg c290] at H
         cases H
       ·rw [if_neg c28z] at H
        cases H
      ·rw [if_neg c28h] at H
       cases H
  ·rw [if_neg c26j] at H
   have hb_ : (decide (x26e < (r21y.length : Int))) = false := decide_eq_false c26j
   try rw [hb_] at h26i
   clear hb_
   refine wp_else h26i rfl ?_
   refine wp_exit ?_
   have hS29h := hS267.drop_
   exact ⟨kk26g, x269, A26a, c26b, M26c, x26e, h26i.keep ⟨rfl, rfl, rfl, trivial⟩, ⟨H⟩, ⟨by omega⟩, ⟨hS29h⟩, ⟨hr26d⟩⟩
 ·clear H hS22b
  rintro a25u W25v ⟨kk25x, x25y, A25z, c260, M261, x263, h25t, ⟨H⟩, ⟨hkkk25x⟩, ⟨hS25w⟩, ⟨hr262⟩⟩
  obtain _ | kk29i := kk25x
  ·exact absurd H (by simp [louverref03qDecode.j0])
  simp only [louverref03qDecode.j0] at H
  refine wp_seq ?_
  refine wp_seq ?_
  refine WL.start ?_
  refine WL.bl 5 5 h25t [(52, .bool (decide ((IntKind.i64.wrap ((r21y.length : Int) - x263)) > 7))), (51, i6 (IntKind.i64.wrap ((r21y.length : Int) - x263))), (50, i6 x263), (49, i6 (r21y.length : Int)), (48, .string (mkS r21y))] (fun a29j h29k => ?_)
  refine WL.dn ?_
  clear h25t a25u
  by_cases c29l : (IntKind.i64.wrap ((r21y.length : Int) - x263)) > 7
  ·rw [if_pos c29l] at H
   have hb_ : (decide ((IntKind.i64.wrap ((r21y.length : Int) - x263)) > 7)) = true := decide_eq_true c29l
   try rw [hb_] at h29k
   clear hb_
   refine wp_then h29k rfl ?_
   refine wp_seq ?_
   refine WL.start ?_
   refine WL.bl 2 2 h29k [(3, i6 3), (2, .string (mkS []))] (fun a29m h29n => ?_)
   refine WL.dn ?_
   refine wp_ret ?_
   have hS29o := hS25w.drop_
   obtain ⟨rfl, rfl⟩ := ret2 H
   repeat (first | with_reducible refine t1 ?_ | with_reducible refine t2 ?_ | with_reducible refine t3 ?_)
   refine bret (.tuple #[.string (mkS []), i6 3]) h29n ?_
   exact ⟨rfl, hS29o⟩
  ·rw [if_neg c29l] at H
   have hb_ : (decide ((IntKind.i64.wrap ((r21y.length : Int) - x263)) > 7)) = false := decide_eq_false c29l
   try rw [hb_] at h29k
   clear hb_
   refine wp_else h29k rfl ?_
   refine wp_skip ?_
   refine wp_seq ?_
   refine wp_block ?_
   refine wp_loop_ghost (fun kq_ a_ W_ => ∃ (x29u : Int), Hd a_ 65 [(5, .string (mkS r21y)), (6, .slice A25z x25y.length c260), (7, i6 x29u)] ∧ Asd (louverref03qDecode.l3 kq_ x29u r21y x25y = some (r0q, r1q)) ∧ Asd (kq_ ≤ kk29i) ∧ Asd (St b w0 W_ R (M261 :: Fs))) kk29i ⟨x263, h29k.keep ⟨rfl, rfl, rfl, trivial⟩, ⟨H⟩, ⟨Nat.le_refl _⟩, ⟨hS25w⟩⟩ ?_
   clear H hS25w
   rintro kk29t a29q W29r ⟨x29u, h29p, ⟨H⟩, ⟨hkkk29t⟩, ⟨hS29s⟩⟩
   obtain _ | kk29v := kk29t
   ·exact absurd H (by simp [louverref03qDecode.l3])
   simp only [louverref03qDecode.l3] at H
   refine wp_seq ?_
   refine wp_seq ?_
   refine WL.start ?_
   refine WL.bl 4 4 h29p [(56, .bool (decide (x29u < (r21y.length : Int)))), (55, i6 (r21y.length : Int)), (54, .string (mkS r21y)), (53, i6 x29u)] (fun a29w h29x => ?_)
   refine WL.dn ?_
   clear h29p a29q
   by_cases c29y : x29u < (r21y.length : Int)
   ·rw [if_pos c29y] at H
    have hb_ : (decide (x29u < (r21y.length : Int))) = true := decide_eq_true c29y
    try rw [hb_] at h29x
    clear hb_
    refine wp_then h29x rfl ?_
    refine wp_skip ?_
    refine wp_block ?_
    refine wp_seq ?_
    refine wp_seq ?_
    refine WL.start ?_
    refine WL.bl 2 2 h29x [(58, i6 x29u), (57, .string (mkS r21y))] (fun a29z h2a0 => ?_)
    clear h29x a29w
    by_cases c2a1 : 0 ≤ x29u
    ·rw [if_pos c2a1] at H
     refine WL.oq h2a0 rfl ?_
     refine owp_rn (.int .u8 (btI r21y x29u)) h2a0 rfl (run_stridx rfl rfl rfl Tryd.underlying9 (by first | assumption | omega) (by first | assumption | omega)) (fun a2a2 h2a3 => ?_)
     refine WL.bl 1 4 h2a3 [(60, .bool (!decide ((btI r21y x29u) = 49)))] (fun a2a4 h2a5 => ?_)
     refine WL.dn ?_
     clear h2a0 a29z h2a3 a2a2
     by_cases c2a6 : (btI r21y x29u) = 49
     ·rw [if_pos c2a6] at H
      have hb_ : (decide ((btI r21y x29u) = 49)) = true := decide_eq_true c2a6
      try rw [hb_] at h2a5
      clear hb_
      refine wp_else h2a5 rfl ?_
      refine wp_skip ?_
      refine WL.start ?_
      refine WL.bl 3 3 h2a5 [(7, i6 (IntKind.i64.wrap (x29u + 1))), (62, i6 (IntKind.i64.wrap (x29u + 1))), (61, i6 x29u)] (fun a2a7 h2a8 => ?_)
      refine WL.dn ?_
      exact ⟨kk29v, by omega, IntKind.i64.wrap (x29u + 1), h2a8.keep ⟨rfl, rfl, rfl, trivial⟩, ⟨H⟩, ⟨by omega⟩, ⟨hS29s⟩⟩
     ·rw [if_neg c2a6] at H
      have hb_ : (decide ((btI r21y x29u) = 49)) = false := decide_eq_false c2a6
      try rw [hb_] at h2a5
      clear hb_
      refine wp_then h2a5 rfl ?_
      refine wp_seq ?_
      refine WL.start ?_
      refine WL.bl 2 2 h2a5 [(3, i6 3), (2, .string (mkS []))] (fun a2a9 h2aa => ?_)
      refine WL.dn ?_
      refine wp_ret ?_
      have hS2ab := hS29s.drop_
      obtain ⟨rfl, rfl⟩ := ret2 H
      repeat (first | with_reducible refine t1 ?_ | with_reducible refine t2 ?_ | with_reducible refine t3 ?_)
      refine bret (.tuple #[.string (mkS []), i6 3]) h2aa ?_
      exact ⟨rfl, hS2ab⟩
    ·rw [if_neg c2a1] at H
     cases H
   ·rw [if_neg c29y] at H
    have hb_ : (decide (x29u < (r21y.length : Int))) = false := decide_eq_false c29y
    try rw [hb_] at h29x
    clear hb_
    refine wp_else h29x rfl ?_
    refine wp_exit ?_
    refine wp_seq ?_
    refine WL.start ?_
    refine WL.bl 1 1 h29x [(63, .slice A25z x25y.length c260)] (fun a2ac h2ad => ?_)
    refine WL.oq h2ad rfl ?_
    refine owp_rn (.string (mkS (toS x25y))) h2ad rfl (run_tostr rfl rfl hr262.rds (fun _ _ hk_ => (hS29s).pool.kn hk_) Tryd.underlying22 Tryd.underlying5 Tryd.underlying9) (fun a2ae h2af => ?_)
    refine WL.bl 2 4 h2af [(3, i6 0), (2, .string (mkS (toS x25y)))] (fun a2ag h2ah => ?_)
    refine WL.dn ?_
    refine wp_ret ?_
    have hS2ai := hS29s.drop_
    obtain ⟨rfl, rfl⟩ := ret2 H
    repeat (first | with_reducible refine t1 ?_ | with_reducible refine t2 ?_ | with_reducible refine t3 ?_)
    refine bret (.tuple #[.string (mkS (toS x25y)), i6 0]) h2ah ?_
    exact ⟨rfl, hS2ai⟩

/-! ### louver/louverref06.text -/
def louverref06qtext.f (k : Nat) (p0 : (List Int)) (p1 : Int) : Option ((List UInt8) × Int × Bool) := if 0 ≤ p1 then (if p1 ≤ (p0.length : Int) then (bnd3 (louverref02qGet.f k (p0.drop p1.toNat) 7) fun r13x r13y r13z => (if r13z = 0 then (if (IntKind.i64.wrap ((IntKind.i64.wrap (p1 + r13y)) + (IntKind.i64.wrap r13x))) > (p0.length : Int) then (some (([] : List UInt8), 0, false)) else (if 0 ≤ (IntKind.i64.wrap (p1 + r13y)) then (if (IntKind.i64.wrap (p1 + r13y)) ≤ (IntKind.i64.wrap ((IntKind.i64.wrap (p1 + r13y)) + (IntKind.i64.wrap r13x))) then (if (IntKind.i64.wrap ((IntKind.i64.wrap (p1 + r13y)) + (IntKind.i64.wrap r13x))) ≤ (p0.length : Int) then (if p1 < (p0.length : Int) then (if (gt (0 : Int) p0 p1) < 128 then (some (toS ((p0.take (IntKind.i64.wrap ((IntKind.i64.wrap (p1 + r13y)) + (IntKind.i64.wrap r13x))).toNat).drop (IntKind.i64.wrap (p1 + r13y)).toNat), IntKind.i64.wrap ((IntKind.i64.wrap (p1 + r13y)) + (IntKind.i64.wrap r13x)), true)) else (bnd2 (louverref03qDecode.f k ((p0.take (IntKind.i64.wrap ((IntKind.i64.wrap (p1 + r13y)) + (IntKind.i64.wrap r13x))).toNat).drop (IntKind.i64.wrap (p1 + r13y)).toNat)) fun r164 r165 => (some (r164, IntKind.i64.wrap ((IntKind.i64.wrap (p1 + r13y)) + (IntKind.i64.wrap r13x)), decide (r165 = 0))))) else (none)) else (none)) else (none)) else (none))) else (some (([] : List UInt8), 0, false)))) else (none)) else (none)
set_option maxHeartbeats 20000000 in
set_option maxRecDepth 100000 in
theorem louverref06qtext.calls (k : Nat) {b : Nat} {w0 W : World} {R : Frag} {Fs : List Frag} {p0 : (List Int)} {p1 : Int} {v0 : Value} {r0q : (List UInt8)} {r1q : Int} {r2q : Bool} (hp0 : Rds (kInt .u8) b w0 R v0 p0) (H : louverref06qtext.f k p0 p1 = some (r0q, r1q, r2q)) (hS : St b w0 W R (Fs)) :
  Calls Tryd.prog 58 ([v0, i6 p1] : List Value).toArray W (fun e W' => e = .returned (.tuple #[.string (mkS r0q), i6 r1q, .bool r2q]) ∧ St b w0 W' R (Fs)) := by
 obtain ⟨A0, c0, rfl⟩ := hp0.form
 unfold louverref06qtext.f at H
 refine calls_enter Tryd.func58 rfl 72 rfl (by kernel_rfl) (fun a h => ?_)
 refine wp_seq ?_
 refine WL.start ?_
 refine WL.bl 3 3 h [(6, .bool false), (5, i6 0), (4, .string (mkS []))] (fun a13j h13k => ?_)
 refine WL.dn ?_
 refine wp_seq ?_
 refine WL.start ?_
 refine WL.bl 2 2 h13k [(15, i6 p1), (14, .slice A0 p0.length c0)] (fun a13l h13m => ?_)
 clear h13k a13j
 by_cases c13n : 0 ≤ p1
 ·rw [if_pos c13n] at H
  by_cases c13o : p1 ≤ (p0.length : Int)
  ·rw [if_pos c13o] at H
   refine WL.oq h13m rfl ?_
   refine owp_rn (sliced A0 p1.toNat (p0.length : Int).toNat c0 1) h13m rfl (run_cut (l := p1) (h := (p0.length : Int)) rfl rfl Tryd.underlying22 (by kernel_rfl) ⟨_, rfl⟩ rfl (by first | assumption | omega) (by first | assumption | omega) (by have q_ := Rds.cap hp0; omega) (by have q_ := Rds.cap hp0; omega)) (fun a13q h13r => ?_)
   have hx13p := Rds.cut hp0 (l := p1.toNat) (h := (p0.length : Int).toNat) (by omega) (by omega)
   obtain ⟨v13s, ev13t⟩ : ∃ y_, y_ = sliced A0 p1.toNat (p0.length : Int).toNat c0 1 := ⟨_, rfl⟩
   have hx_ : Rds (kInt .u8) b w0 R v13s (p0.drop p1.toNat) := hx13p.as_ ev13t.symm (by simp)
   rw [← ev13t] at h13r; clear ev13t hx13p
   have hx13p := hx_; clear hx_
   obtain ⟨A13u, c13v, rfl⟩ := hx13p.form
   obtain ⟨r13x, r13y, r13z, A13w, H⟩ := bind3 H
   refine WL.oq h13r rfl ?_
   refine owp_call [.slice A13u (p0.drop p1.toNat).length c13v, i6 7] h13r rfl (by kernel_rfl) rfl Tryd.func32 (by kernel_rfl) rfl (by kernel_rfl) (louverref02qGet.calls k hx13p A13w hS) (fun e141 W140 hp142 => ?_)
   obtain ⟨rfl, hS145⟩ := hp142
   refine ⟨_, rfl, fun a143 h144 => ?_⟩
   refine WL.bl 7 11 h144 [(9, i6 r13z), (8, i6 r13y), (7, .int .u32 r13x), (20, i6 r13z), (19, i6 r13y), (18, .int .u32 r13x), (13, .tuple #[.int .u32 r13x, i6 r13y, i6 r13z])] (fun a146 h147 => ?_)
   refine WL.dn ?_
   refine wp_seq ?_
   refine wp_seq ?_
   refine WL.start ?_
   refine WL.bl 3 3 h147 [(23, .bool (!decide (r13z = 0))), (22, .bool (!decide (r13z = 0))), (21, i6 r13z)] (fun a148 h149 => ?_)
   clear h13m a13l h13r a13q h144 a143 h147 a146
   by_cases c14a : r13z = 0
   ·rw [if_pos c14a] at H
    have hb_ : (decide (r13z = 0)) = true := decide_eq_true c14a
    try rw [hb_] at h149
    clear hb_
    refine WL.oq h149 rfl (owp_rk (i6 p1) h149 rfl (fun a14b h14c => ?_))
    refine WL.oq h14c rfl (owp_rk (i6 r13y) h14c rfl (fun a14d h14e => ?_))
    refine WL.oq h14e rfl (owp_rk (i6 (IntKind.i64.wrap (p1 + r13y))) h14e rfl (fun a14f h14g => ?_))
    refine WL.oq h14g rfl (owp_rk (.int .u32 r13x) h14g rfl (fun a14h h14i => ?_))
    refine WL.oq h14i rfl (owp_rk (i6 (IntKind.i64.wrap r13x)) h14i rfl (fun a14j h14k => ?_))
    refine WL.oq h14k rfl (owp_rk (i6 (IntKind.i64.wrap ((IntKind.i64.wrap (p1 + r13y)) + (IntKind.i64.wrap r13x)))) h14k rfl (fun a14l h14m => ?_))
    refine WL.oq h14m rfl (owp_rk (.slice A0 p0.length c0) h14m rfl (fun a14n h14o => ?_))
    refine WL.oq h14o rfl (owp_rk (i6 (p0.length : Int)) h14o rfl (fun a14p h14q => ?_))
    refine WL.oq h14q rfl (owp_rk (.bool (decide ((IntKind.i64.wrap ((IntKind.i64.wrap (p1 + r13y)) + (IntKind.i64.wrap r13x))) > (p0.length : Int)))) h14q rfl (fun a14r h14s => ?_))
    refine WL.bl 1 13 h14s [(33, .bool (decide ((IntKind.i64.wrap ((IntKind.i64.wrap (p1 + r13y)) + (IntKind.i64.wrap r13x))) > (p0.length : Int))))] (fun a14t h14u => ?_)
    refine WL.dn ?_
    clear h149 a148 h14c a14b h14e a14d h14g a14f h14i a14h h14k a14j h14m a14l h14o a14n h14q a14p h14s a14r
    by_cases c14v : (IntKind.i64.wrap ((IntKind.i64.wrap (p1 + r13y)) + (IntKind.i64.wrap r13x))) > (p0.length : Int)
    ·rw [if_pos c14v] at H
     have hb_ : (decide ((IntKind.i64.wrap ((IntKind.i64.wrap (p1 + r13y)) + (IntKind.i64.wrap r13x))) > (p0.length : Int))) = true := decide_eq_true c14v
     try rw [hb_] at h14u
     clear hb_
     refine wp_then h14u rfl ?_
     refine wp_seq ?_
     refine WL.start ?_
     refine WL.bl 3 3 h14u [(6, .bool false), (5, i6 0), (4, .string (mkS []))] (fun a14w h14x => ?_)
     refine WL.dn ?_
     refine wp_ret ?_
     obtain ⟨rfl, rfl, rfl⟩ := ret3 H
     repeat (first | with_reducible refine t1 ?_ | with_reducible refine t2 ?_ | with_reducible refine t3 ?_)
     refine bret (.tuple #[.string (mkS []), i6 0, .bool false]) h14x ?_
     exact ⟨rfl, hS145⟩
    ·rw [if_neg c14v] at H
     have hb_ : (decide ((IntKind.i64.wrap ((IntKind.i64.wrap (p1 + r13y)) + (IntKind.i64.wrap r13x))) > (p0.length : Int))) = false := decide_eq_false c14v
     try rw [hb_] at h14u
     clear hb_
     refine wp_else h14u rfl ?_
     refine wp_skip ?_
     refine wp_seq ?_
     refine WL.start ?_
     refine WL.bl 10 10 h14u [(43, i6 (IntKind.i64.wrap ((IntKind.i64.wrap (p1 + r13y)) + (IntKind.i64.wrap r13x)))), (42, i6 (IntKind.i64.wrap r13x)), (41, .int .u32 r13x), (40, i6 (IntKind.i64.wrap (p1 + r13y))), (39, i6 r13y), (38, i6 p1), (37, i6 (IntKind.i64.wrap (p1 + r13y))), (36, i6 r13y), (35, i6 p1), (34, .slice A0 p0.length c0)] (fun a14y h14z => ?_)
     clear h14u a14t
     by_cases c150 : 0 ≤ (IntKind.i64.wrap (p1 + r13y))
     ·rw [if_pos c150] at H
      by_cases c151 : (IntKind.i64.wrap (p1 + r13y)) ≤ (IntKind.i64.wrap ((IntKind.i64.wrap (p1 + r13y)) + (IntKind.i64.wrap r13x)))
      ·rw [if_pos c151] at H
       by_cases c152 : (IntKind.i64.wrap ((IntKind.i64.wrap (p1 + r13y)) + (IntKind.i64.wrap r13x))) ≤ (p0.length : Int)
       ·rw [if_pos c152] at H
        refine WL.oq h14z rfl ?_
        refine owp_rn (sliced A0 (IntKind.i64.wrap (p1 + r13y)).toNat (IntKind.i64.wrap ((IntKind.i64.wrap (p1 + r13y)) + (IntKind.i64.wrap r13x))).toNat c0 1) h14z rfl (run_cut (l := IntKind.i64.wrap (p1 + r13y)) (h := IntKind.i64.wrap ((IntKind.i64.wrap (p1 + r13y)) + (IntKind.i64.wrap r13x))) rfl rfl Tryd.underlying22 (by kernel_rfl) ⟨_, rfl⟩ ⟨_, rfl⟩ (by first | assumption | omega) (by first | assumption | omega) (by have q_ := Rds.cap hp0; omega) (by have q_ := Rds.cap hp0; omega)) (fun a154 h155 => ?_)
        have hx153 := Rds.cut hp0 (l := (IntKind.i64.wrap (p1 + r13y)).toNat) (h := (IntKind.i64.wrap ((IntKind.i64.wrap (p1 + r13y)) + (IntKind.i64.wrap r13x))).toNat) (by omega) (by omega)
        obtain ⟨v156, ev157⟩ : ∃ y_, y_ = sliced A0 (IntKind.i64.wrap (p1 + r13y)).toNat (IntKind.i64.wrap ((IntKind.i64.wrap (p1 + r13y)) + (IntKind.i64.wrap r13x))).toNat c0 1 := ⟨_, rfl⟩
        have hx_ : Rds (kInt .u8) b w0 R v156 ((p0.take (IntKind.i64.wrap ((IntKind.i64.wrap (p1 + r13y)) + (IntKind.i64.wrap r13x))).toNat).drop (IntKind.i64.wrap (p1 + r13y)).toNat) := hx153.as_ ev157.symm rfl
        rw [← ev157] at h155; clear ev157 hx153
        have hx153 := hx_; clear hx_
        obtain ⟨A158, c159, rfl⟩ := hx153.form
        refine WL.bl 1 12 h155 [(10, .slice A158 ((p0.take (IntKind.i64.wrap ((IntKind.i64.wrap (p1 + r13y)) + (IntKind.i64.wrap r13x))).toNat).drop (IntKind.i64.wrap (p1 + r13y)).toNat).length c159)] (fun a15a h15b => ?_)
        refine WL.dn ?_
        refine wp_seq ?_
        refine wp_seq ?_
        refine WL.start ?_
        refine WL.bl 2 2 h15b [(46, i6 p1), (45, .slice A0 p0.length c0)] (fun a15c h15d => ?_)
        clear h14z a14y h155 a154 h15b a15a
        by_cases c15e : p1 < (p0.length : Int)
        ·rw [if_pos c15e] at H
         have hi15h : 0 ≤ p1 := by first | assumption | omega
         have hi15i : p1 < (p0.length : Int) := by first | assumption | omega
         obtain ⟨ad15f, _, ha15g, -, -⟩ := Rds.elemAny hp0 hi15h (gt_get (z := (0 : Int)) hi15h hi15i)
         refine WL.oq h15d rfl ?_
         refine owp_rn (.pointer (some (ad15f.add (p1.toNat * 1)))) h15d rfl (run_idx (ad := ad15f) (sz := 1) rfl (by rw [← ha15g]; rfl) rfl Tryd.underlying22 (by kernel_rfl) hi15h hi15i) (fun a15j h15k => ?_)
         obtain ⟨ad15l, cs15m, ha15n, hr15p, hc15o⟩ := Rds.elemAny hp0 hi15h (gt_get (z := (0 : Int)) hi15h hi15i)
         rw [ha15g] at ha15n; obtain rfl := Option.some.inj ha15n
         obtain rfl : cs15m = [.int .u8 (gt (0 : Int) p0 p1)] := hr15p
         refine WL.oq h15k rfl ?_
         refine owp_rn (.int .u8 (gt (0 : Int) p0 p1)) h15k rfl (run_load1 rfl rfl Tryd.underlying5 rfl (cell0 (hc15o _ (fun _ _ hk_ => hS145.kn hk_)))) (fun a15q h15r => ?_)
         refine WL.bl 1 5 h15r [(49, .bool (decide ((gt (0 : Int) p0 p1) < 128)))] (fun a15s h15t => ?_)
         refine WL.dn ?_
         clear h15d a15c h15k a15j h15r a15q
         by_cases c15u : (gt (0 : Int) p0 p1) < 128
         ·rw [if_pos c15u] at H
          have hb_ : (decide ((gt (0 : Int) p0 p1) < 128)) = true := decide_eq_true c15u
          try rw [hb_] at h15t
          clear hb_
          refine wp_then h15t rfl ?_
          refine wp_seq ?_
          refine WL.start ?_
          refine WL.bl 1 1 h15t [(50, .slice A158 ((p0.take (IntKind.i64.wrap ((IntKind.i64.wrap (p1 + r13y)) + (IntKind.i64.wrap r13x))).toNat).drop (IntKind.i64.wrap (p1 + r13y)).toNat).length c159)] (fun a15v h15w => ?_)
          refine WL.oq h15w rfl ?_
          refine owp_rn (.string (mkS (toS ((p0.take (IntKind.i64.wrap ((IntKind.i64.wrap (p1 + r13y)) + (IntKind.i64.wrap r13x))).toNat).drop (IntKind.i64.wrap (p1 + r13y)).toNat)))) h15w rfl (run_tostr rfl rfl hx153 (fun _ _ hk_ => hS145.kn hk_) Tryd.underlying22 Tryd.underlying5 Tryd.underlying9) (fun a15x h15y => ?_)
          refine WL.bl 9 11 h15y [(6, .bool true), (5, i6 (IntKind.i64.wrap ((IntKind.i64.wrap (p1 + r13y)) + (IntKind.i64.wrap r13x)))), (4, .string (mkS (toS ((p0.take (IntKind.i64.wrap ((IntKind.i64.wrap (p1 + r13y)) + (IntKind.i64.wrap r13x))).toNat).drop (IntKind.i64.wrap (p1 + r13y)).toNat)))), (57, i6 (IntKind.i64.wrap ((IntKind.i64.wrap (p1 + r13y)) + (IntKind.i64.wrap r13x)))), (56, i6 (IntKind.i64.wrap r13x)), (55, .int .u32 r13x), (54, i6 (IntKind.i64.wrap (p1 + r13y))), (53, i6 r13y), (52, i6 p1)] (fun a15z h160 => ?_)
          refine WL.dn ?_
          refine wp_ret ?_
          obtain ⟨rfl, rfl, rfl⟩ := ret3 H
          repeat (first | with_reducible refine t1 ?_ | with_reducible refine t2 ?_ | with_reducible refine t3 ?_)
          refine bret (.tuple #[.string (mkS (toS ((p0.take (IntKind.i64.wrap ((IntKind.i64.wrap (p1 + r13y)) + (IntKind.i64.wrap r13x))).toNat).drop (IntKind.i64.wrap (p1 + r13y)).toNat))), i6 (IntKind.i64.wrap ((IntKind.i64.wrap (p1 + r13y)) + (IntKind.i64.wrap r13x))), .bool true]) h160 ?_
          exact ⟨rfl, hS145⟩
         ·rw [if_neg c15u] at H
          have hb_ : (decide ((gt (0 : Int) p0 p1) < 128)) = false := decide_eq_false c15u
          try rw [hb_] at h15t
          clear hb_
          refine wp_else h15t rfl ?_
          refine wp_skip ?_
          refine wp_seq ?_
          refine WL.start ?_
          refine WL.bl 1 1 h15t [(59, .slice A158 ((p0.take (IntKind.i64.wrap ((IntKind.i64.wrap (p1 + r13y)) + (IntKind.i64.wrap r13x))).toNat).drop (IntKind.i64.wrap (p1 + r13y)).toNat).length c159)] (fun a161 h162 => ?_)
          obtain ⟨r164, r165, A163, H⟩ := bind2 H
          refine WL.oq h162 rfl ?_
          refine owp_call [.slice A158 ((p0.take (IntKind.i64.wrap ((IntKind.i64.wrap (p1 + r13y)) + (IntKind.i64.wrap r13x))).toNat).drop (IntKind.i64.wrap (p1 + r13y)).toNat).length c159] h162 rfl (by kernel_rfl) rfl Tryd.func62 (by kernel_rfl) rfl (by kernel_rfl) (louverref03qDecode.calls k hx153 A163 hS145) (fun e167 W166 hp168 => ?_)
          obtain ⟨rfl, hS16b⟩ := hp168
          refine ⟨_, rfl, fun a169 h16a => ?_⟩
          refine WL.bl 5 7 h16a [(12, i6 r165), (11, .string (mkS r164)), (62, i6 r165), (61, .string (mkS r164)), (58, .tuple #[.string (mkS r164), i6 r165])] (fun a16c h16d => ?_)
          refine WL.dn ?_
          refine wp_seq ?_
          refine WL.start ?_
          refine WL.bl 12 12 h16d [(6, .bool (decide (r165 = 0))), (5, i6 (IntKind.i64.wrap ((IntKind.i64.wrap (p1 + r13y)) + (IntKind.i64.wrap r13x)))), (4, .string (mkS r164)), (71, .bool (decide (r165 = 0))), (70, i6 r165), (69, i6 (IntKind.i64.wrap ((IntKind.i64.wrap (p1 + r13y)) + (IntKind.i64.wrap r13x)))), (68, i6 (IntKind.i64.wrap r13x)), (67, .int .u32 r13x), (66, i6 (IntKind.i64.wrap (p1 + r13y))), (65, i6 r13y), (64, i6 p1), (63, .string (mkS r164))] (fun a16e h16f => ?_)
          refine WL.dn ?_
          refine wp_ret ?_
          obtain ⟨rfl, rfl, rfl⟩ := ret3 H
          repeat (first | with_reducible refine t1 ?_ | with_reducible refine t2 ?_ | with_reducible refine t3 ?_)
          refine bret (.tuple #[.string (mkS r164), i6 (IntKind.i64.wrap ((IntKind.i64.wrap (p1 + r13y)) + (IntKind.i64.wrap r13x))), .bool (decide (r165 = 0))]) h16f ?_
          exact ⟨rfl, hS16b⟩
        ·rw [if_neg c15e] at H
         cases H
       ·rw [if_neg c152] at H
        cases H
      ·rw [if_neg c151] at H
       cases H
     ·rw [if_neg c150] at H
      cases H
   ·rw [if_neg c14a] at H
    have hb_ : (decide (r13z = 0)) = false := decide_eq_false c14a
    try rw [hb_] at h149
    clear hb_
    refine WL.sk h149 rfl rfl (fun a16g h16h => ?_)
    refine WL.sk h16h rfl rfl (fun a16i h16j => ?_)
    refine WL.sk h16j rfl rfl (fun a16k h16l => ?_)
    refine WL.sk h16l rfl rfl (fun a16m h16n => ?_)
    refine WL.sk h16n rfl rfl (fun a16o h16p => ?_)
    refine WL.sk h16p rfl rfl (fun a16q h16r => ?_)
    refine WL.sk h16r rfl rfl (fun a16s h16t => ?_)
    refine WL.sk h16t rfl rfl (fun a16u h16v => ?_)
    refine WL.sk h16v rfl rfl (fun a16w h16x => ?_)
    refine WL.bl 1 13 h16x [(33, .bool true)] (fun a16y h16z => ?_)
    refine WL.dn ?_
    refine wp_then h16z rfl ?_
    refine wp_seq ?_
    refine WL.start ?_
    refine WL.bl 3 3 h16z [(6, .bool false), (5, i6 0), (4, .string (mkS []))] (fun a170 h171 => ?_)
    refine WL.dn ?_
    refine wp_ret ?_
    obtain ⟨rfl, rfl, rfl⟩ := ret3 H
    repeat (first | with_reducible refine t1 ?_ | with_reducible refine t2 ?_ | with_reducible refine t3 ?_)
    refine bret (.tuple #[.string (mkS []), i6 0, .bool false]) h171 ?_
    exact ⟨rfl, hS145⟩
  ·rw [if_neg c13o] at H
   cases H
 ·rw [if_neg c13n] at H
  cases H

/-! ### (louver/louverref06.D).literal -/
def louverref06qD_literal.f (k : Nat) (p0 : S45) (p1 : (List Int)) (p2 : Int) (p3 : Int) : Option (S52 × Int × Bool) := if 0 ≤ p2 then (if p2 ≤ (p1.length : Int) then (bnd3 (louverref02qGet.f k (p1.drop p2.toNat) p3) fun r17w r17x r17y => (if r17y = 0 then (if r17w = 0 then (bnd3 (louverref06qtext.f k p1 (IntKind.i64.wrap (p2 + r17x))) fun r18t r18u r18v => (if r18v = true then (bnd3 (louverref06qtext.f k p1 r18u) fun r19i r19j r19k => (some ((⟨r18t, r19i, false⟩ : S52), r19j, r19k))) else (some ((⟨([] : List UInt8), ([] : List UInt8), false⟩ : S52), 0, false)))) else (bnd2 (louverref05qT_At.f (⟨p0.f0.f0, p0.f0.f1⟩ : S43) (IntKind.i64.wrap r17w)) fun r1b0 r1b1 => (if r1b1 = true then (bnd3 (louverref06qtext.f k p1 (IntKind.i64.wrap (p2 + r17x))) fun r1c2 r1c3 r1c4 => (some ((⟨r1b0.f0, r1c2, false⟩ : S52), r1c3, r1c4))) else (some ((⟨([] : List UInt8), ([] : List UInt8), false⟩ : S52), 0, false))))) else (some ((⟨([] : List UInt8), ([] : List UInt8), false⟩ : S52), 0, false)))) else (none)) else (none)
set_option maxHeartbeats 20000000 in
set_option maxRecDepth 100000 in
theorem louverref06qD_literal.calls (k : Nat) {b : Nat} {w0 W : World} {R : Frag} {Fs : List Frag} {p0 : S45} {p1 : (List Int)} {p2 : Int} {p3 : Int} {v0q0 : Value} {v1 : Value} {r0q : S52} {r1q : Int} {r2q : Bool} (hp0q0 : Rds k52 b w0 R v0q0 p0.f0.f0) (hp1 : Rds (kInt .u8) b w0 R v1 p1) (H : louverref06qD_literal.f k p0 p1 p2 p3 = some (r0q, r1q, r2q)) (hS : St b w0 W R (Fs)) :
  Calls Tryd.prog 47 ([.agg #[v0q0, i6 p0.f0.f1, i6 p0.f1], v1, i6 p2, i6 p3] : List Value).toArray W (fun e W' => e = .returned (.tuple #[.agg #[.string (mkS r0q.f0), .string (mkS r0q.f1), .bool r0q.f2], i6 r1q, .bool r2q]) ∧ St b w0 W' R (Fs)) := by
 obtain ⟨A0q0, c0q0, rfl⟩ := hp0q0.form
 obtain ⟨A1, c1, rfl⟩ := hp1.form
 unfold louverref06qD_literal.f at H
 refine calls_enter Tryd.func47 rfl 82 rfl (by kernel_rfl) (fun a h => ?_)
 refine wp_seq ?_
 refine WL.start ?_
 refine WL.oq h rfl ?_
 refine owp_nw (fun g_ => (pt g_)) (.cells ([.slice A0q0 p0.f0.f0.length c0q0, i6 p0.f0.f1, i6 p0.f1] : List Value).toArray 45 (0, 0)) h rfl hS (fun a16v W16x g16y h16w hS16z => ?_)
 refine WL.oq h16w rfl ?_
 refine owp_nw (fun g_ => (pt g_)) (.cells ([.string (mkS []), .string (mkS []), .bool false] : List Value).toArray 52 (0, 0)) h16w rfl hS16z (fun a170 W172 g173 h171 hS174 => ?_)
 refine WL.bl 2 4 h171 [(10, .bool false), (9, i6 0)] (fun a175 h176 => ?_)
 refine WL.dn ?_
 refine wp_seq ?_
 refine WL.start ?_
 refine WL.bl 1 1 h176 [(24, .agg #[.string (mkS []), .string (mkS []), .bool false])] (fun a177 h178 => ?_)
 refine WL.oq h178 rfl ?_
 refine owp_nw (fun g_ => (pt g_)) (.cells ([.string (mkS []), .string (mkS []), .bool false] : List Value).toArray 52 (0, 0)) h178 rfl hS174 (fun a179 W17b g17c h17a hS17d => ?_)
 refine WL.oq h17a rfl ?_
 refine owp_st 0 [.string (mkS []), .string (mkS []), .bool false] h17a rfl rfl rfl hS17d [.string (mkS []), .string (mkS []), .bool false] (fun a17e W17g h17f hS17h => ?_)
 refine WL.dn ?_
 refine wp_seq ?_
 refine WL.start ?_
 refine WL.bl 2 2 h17f [(27, i6 p2), (26, .slice A1 p1.length c1)] (fun a17i h17j => ?_)
 clear h16w a16v h171 a170 h176 a175 h178 a177 h17a a179 h17f a17e
 by_cases c17k : 0 ≤ p2
 ·rw [if_pos c17k] at H
  by_cases c17l : p2 ≤ (p1.length : Int)
  ·rw [if_pos c17l] at H
   refine WL.oq h17j rfl ?_
   refine owp_rn (sliced A1 p2.toNat (p1.length : Int).toNat c1 1) h17j rfl (run_cut (l := p2) (h := (p1.length : Int)) rfl rfl Tryd.underlying22 (by kernel_rfl) ⟨_, rfl⟩ rfl (by first | assumption | omega) (by first | assumption | omega) (by have q_ := Rds.cap hp1; omega) (by have q_ := Rds.cap hp1; omega)) (fun a17n h17o => ?_)
   have hx17m := Rds.cut hp1 (l := p2.toNat) (h := (p1.length : Int).toNat) (by omega) (by omega)
   obtain ⟨v17p, ev17q⟩ : ∃ y_, y_ = sliced A1 p2.toNat (p1.length : Int).toNat c1 1 := ⟨_, rfl⟩
   have hx_ : Rds (kInt .u8) b w0 R v17p (p1.drop p2.toNat) := hx17m.as_ ev17q.symm (by simp)
   rw [← ev17q] at h17o; clear ev17q hx17m
   have hx17m := hx_; clear hx_
   obtain ⟨A17r, c17s, rfl⟩ := hx17m.form
   refine WL.bl 1 4 h17o [(29, i6 p3)] (fun a17t h17u => ?_)
   obtain ⟨r17w, r17x, r17y, A17v, H⟩ := bind3 H
   refine WL.oq h17u rfl ?_
   refine owp_call [.slice A17r (p1.drop p2.toNat).length c17s, i6 p3] h17u rfl (by kernel_rfl) rfl Tryd.func32 (by kernel_rfl) rfl (by kernel_rfl) (louverref02qGet.calls k hx17m A17v hS17h) (fun e180 W17z hp181 => ?_)
   obtain ⟨rfl, hS184⟩ := hp181
   refine ⟨_, rfl, fun a182 h183 => ?_⟩
   refine WL.bl 7 12 h183 [(14, i6 r17y), (13, i6 r17x), (12, .int .u32 r17w), (33, i6 r17y), (32, i6 r17x), (31, .int .u32 r17w), (25, .tuple #[.int .u32 r17w, i6 r17x, i6 r17y])] (fun a185 h186 => ?_)
   refine WL.dn ?_
   refine wp_seq ?_
   refine wp_seq ?_
   refine WL.start ?_
   refine WL.bl 2 2 h186 [(35, .bool (!decide (r17y = 0))), (34, i6 r17y)] (fun a187 h188 => ?_)
   refine WL.dn ?_
   clear h17j a17i h17o a17n h17u a17t h183 a182 h186 a185
   by_cases c189 : r17y = 0
   ·rw [if_pos c189] at H
    have hb_ : (decide (r17y = 0)) = true := decide_eq_true c189
    try rw [hb_] at h188
    clear hb_
    refine wp_else h188 rfl ?_
    refine wp_skip ?_
    refine wp_seq ?_
    refine WL.start ?_
    refine WL.bl 4 4 h188 [(2, i6 (IntKind.i64.wrap (p2 + r17x))), (39, i6 (IntKind.i64.wrap (p2 + r17x))), (38, i6 r17x), (37, i6 p2)] (fun a18a h18b => ?_)
    refine WL.dn ?_
    refine wp_seq ?_
    refine WL.start ?_
    refine WL.bl 1 1 h18b [(40, .agg #[.string (mkS []), .string (mkS []), .bool false])] (fun a18c h18d => ?_)
    refine WL.oq h18d rfl ?_
    refine owp_nw (fun g_ => (pt g_)) (.cells ([.string (mkS []), .string (mkS []), .bool false] : List Value).toArray 52 (0, 0)) h18d rfl hS184 (fun a18e W18g g18h h18f hS18i => ?_)
    refine WL.oq h18f rfl ?_
    refine owp_st 0 [.string (mkS []), .string (mkS []), .bool false] h18f rfl rfl rfl hS18i [.string (mkS []), .string (mkS []), .bool false] (fun a18j W18l h18k hS18m => ?_)
    refine WL.dn ?_
    refine wp_seq ?_
    refine wp_seq ?_
    refine WL.start ?_
    refine WL.bl 2 2 h18k [(42, .bool (decide (r17w = 0))), (41, .int .u32 r17w)] (fun a18n h18o => ?_)
    refine WL.dn ?_
    clear h188 a187 h18b a18a h18d a18c h18f a18e h18k a18j
    by_cases c18p : r17w = 0
    ·rw [if_pos c18p] at H
     have hb_ : (decide (r17w = 0)) = true := decide_eq_true c18p
     try rw [hb_] at h18o
     clear hb_
     refine wp_then h18o rfl ?_
     refine wp_seq ?_
     refine WL.start ?_
     refine WL.bl 2 2 h18o [(45, i6 (IntKind.i64.wrap (p2 + r17x))), (44, .slice A1 p1.length c1)] (fun a18q h18r => ?_)
     obtain ⟨r18t, r18u, r18v, A18s, H⟩ := bind3 H
     refine WL.oq h18r rfl ?_
     refine owp_call [.slice A1 p1.length c1, i6 (IntKind.i64.wrap (p2 + r17x))] h18r rfl (by kernel_rfl) rfl Tryd.func58 (by kernel_rfl) rfl (by kernel_rfl) (louverref06qtext.calls k hp1 A18s hS18m) (fun e18x W18w hp18y => ?_)
     obtain ⟨rfl, hS191⟩ := hp18y
     refine ⟨_, rfl, fun a18z h190 => ?_⟩
     refine WL.bl 7 10 h190 [(18, .bool r18v), (17, i6 r18u), (16, .string (mkS r18t)), (49, .bool r18v), (48, i6 r18u), (47, .string (mkS r18t)), (43, .tuple #[.string (mkS r18t), i6 r18u, .bool r18v])] (fun a192 h193 => ?_)
     refine WL.dn ?_
     refine wp_seq ?_
     refine wp_seq ?_
     refine WL.start ?_
     refine WL.bl 2 2 h193 [(51, .bool (!r18v)), (50, .bool r18v)] (fun a194 h195 => ?_)
     refine WL.dn ?_
     clear h18o a18n h18r a18q h190 a18z h193 a192
     by_cases c196 : r18v = true
     ·rw [if_pos c196] at H
      have hb_ : r18v = true := c196
      try rw [hb_] at h195
      clear hb_
      refine wp_else h195 rfl ?_
      refine wp_skip ?_
      refine wp_seq ?_
      refine WL.start ?_
      refine WL.bl 2 2 h195 [(54, pt g18h), (53, .string (mkS r18t))] (fun a197 h198 => ?_)
      refine WL.oq h198 rfl ?_
      refine owp_st 0 [.string (mkS r18t)] h198 rfl rfl rfl hS191 [.string (mkS r18t), .string (mkS []), .bool false] (fun a199 W19b h19a hS19c => ?_)
      refine WL.dn ?_
      refine WL.start ?_
      refine WL.bl 2 2 h19a [(2, i6 r18u), (55, i6 r18u)] (fun a19d h19e => ?_)
      refine WL.dn ?_
      refine wp_seq ?_
      refine WL.start ?_
      refine WL.bl 2 2 h19e [(72, i6 r18u), (71, .slice A1 p1.length c1)] (fun a19f h19g => ?_)
      obtain ⟨r19i, r19j, r19k, A19h, H⟩ := bind3 H
      refine WL.oq h19g rfl ?_
      refine owp_call [.slice A1 p1.length c1, i6 r18u] h19g rfl (by kernel_rfl) rfl Tryd.func58 (by kernel_rfl) rfl (by kernel_rfl) (louverref06qtext.calls k hp1 A19h hS19c) (fun e19m W19l hp19n => ?_)
      obtain ⟨rfl, hS19q⟩ := hp19n
      refine ⟨_, rfl, fun a19o h19p => ?_⟩
      refine WL.bl 7 10 h19p [(23, .bool r19k), (22, i6 r19j), (21, .string (mkS r19i)), (76, .bool r19k), (75, i6 r19j), (74, .string (mkS r19i)), (70, .tuple #[.string (mkS r19i), i6 r19j, .bool r19k])] (fun a19r h19s => ?_)
      refine WL.dn ?_
      refine wp_seq ?_
      refine WL.start ?_
      refine WL.bl 2 2 h19s [(78, .pointer (some ⟨g18h, 1, none⟩)), (77, .string (mkS r19i))] (fun a19t h19u => ?_)
      refine WL.oq h19u rfl ?_
      refine owp_st 1 [.string (mkS r19i)] h19u rfl rfl rfl hS19q [.string (mkS r18t), .string (mkS r19i), .bool false] (fun a19v W19x h19w hS19y => ?_)
      refine WL.dn ?_
      refine wp_seq ?_
      refine WL.start ?_
      refine WL.oq h19w rfl ?_
      refine owp_rn (.agg #[.string (mkS r18t), .string (mkS r19i), .bool false]) h19w rfl (run_loadN rfl rfl Tryd.underlying52 rfl (cs := [.string (mkS r18t), .string (mkS r19i), .bool false]) (by kernel_rfl) (hS19y.cells (vs := [.string (mkS r18t), .string (mkS r19i), .bool false]) rfl)) (fun a19z h1a0 => ?_)
      refine WL.bl 2 3 h1a0 [(81, .bool r19k), (80, i6 r19j)] (fun a1a1 h1a2 => ?_)
      have hS1a3 := hS19y.b2
      refine WL.oq h1a2 rfl ?_
      refine owp_st 0 [.string (mkS r18t), .string (mkS r19i), .bool false] h1a2 rfl rfl rfl hS1a3 [.string (mkS r18t), .string (mkS r19i), .bool false] (fun a1a4 W1a6 h1a5 hS1a7 => ?_)
      refine WL.bl 2 6 h1a5 [(10, .bool r19k), (9, i6 r19j)] (fun a1a8 h1a9 => ?_)
      clear h195 a194 h198 a197 h19a a199 h19e a19d h19g a19f h19p a19o h19s a19r h19u a19t h19w a19v h1a0 a19z h1a2 a1a1 h1a5 a1a4
      refine WL.dn ?_
      refine wp_ret ?_
      have hS1aa := hS1a7.drop_
      have hS1ab := hS1aa.drop_
      have hS1ac := hS1ab.drop_
      have hS1ad := hS1ac.drop_
      obtain ⟨rfl, rfl, rfl⟩ := ret3 H
      repeat (first | with_reducible refine t1 ?_ | with_reducible refine t2 ?_ | with_reducible refine t3 ?_)
      refine body_ret (v := .tuple #[.agg #[.string (mkS r18t), .string (mkS r19i), .bool false], i6 r19j, .bool r19k]) h1a9 (by kernel_rfl) (res_many (xs := [ResultVar.cell 8 52, ResultVar.tmp 9, ResultVar.tmp 10]) rfl ⟨⟨_, rfl, loadVarN Tryd.underlying52 rfl (cs := [.string (mkS r18t), .string (mkS r19i), .bool false]) (by kernel_rfl) (hS1a7.cells (vs := [.string (mkS r18t), .string (mkS r19i), .bool false]) rfl)⟩, rfl, rfl, trivial⟩ rfl) ?_
      exact ⟨rfl, hS1ad⟩
     ·rw [if_neg c196] at H
      have hb_ : r18v = false := (Bool.eq_false_iff.2 c196)
      try rw [hb_] at h195
      clear hb_
      refine wp_then h195 rfl ?_
      refine wp_seq ?_
      refine WL.start ?_
      have hS1ae := hS191.b1
      refine WL.oq h195 rfl ?_
      refine owp_rn (.agg #[.string (mkS []), .string (mkS []), .bool false]) h195 rfl (run_loadN rfl rfl Tryd.underlying52 rfl (cs := [.string (mkS []), .string (mkS []), .bool false]) (by kernel_rfl) (hS1ae.cells (vs := [.string (mkS []), .string (mkS []), .bool false]) rfl)) (fun a1af h1ag => ?_)
      have hS1ah := hS1ae.b2
      refine WL.oq h1ag rfl ?_
      refine owp_st 0 [.string (mkS []), .string (mkS []), .bool false] h1ag rfl rfl rfl hS1ah [.string (mkS []), .string (mkS []), .bool false] (fun a1ai W1ak h1aj hS1al => ?_)
      refine WL.bl 2 4 h1aj [(10, .bool false), (9, i6 0)] (fun a1am h1an => ?_)
      refine WL.dn ?_
      refine wp_ret ?_
      have hS1ao := hS1al.drop_
      have hS1ap := hS1ao.drop_
      have hS1aq := hS1ap.drop_
      have hS1ar := hS1aq.drop_
      obtain ⟨rfl, rfl, rfl⟩ := ret3 H
      repeat (first | with_reducible refine t1 ?_ | with_reducible refine t2 ?_ | with_reducible refine t3 ?_)
      refine body_ret (v := .tuple #[.agg #[.string (mkS []), .string (mkS []), .bool false], i6 0, .bool false]) h1an (by kernel_rfl) (res_many (xs := [ResultVar.cell 8 52, ResultVar.tmp 9, ResultVar.tmp 10]) rfl ⟨⟨_, rfl, loadVarN Tryd.underlying52 rfl (cs := [.string (mkS []), .string (mkS []), .bool false]) (by kernel_rfl) (hS1al.cells (vs := [.string (mkS []), .string (mkS []), .bool false]) rfl)⟩, rfl, rfl, trivial⟩ rfl) ?_
      exact ⟨rfl, hS1ar⟩
    ·rw [if_neg c18p] at H
     have hb_ : (decide (r17w = 0)) = false := decide_eq_false c18p
     try rw [hb_] at h18o
     clear hb_
     refine wp_else h18o rfl ?_
     refine wp_seq ?_
     refine WL.start ?_
     refine WL.bl 1 1 h18o [(57, pt g16y)] (fun a1as h1at => ?_)
     have hS1au := hS18m.b3
     refine WL.oq h1at rfl ?_
     refine owp_rn (.agg #[.slice A0q0 p0.f0.f0.length c0q0, i6 p0.f0.f1]) h1at rfl (run_loadN rfl rfl Tryd.underlying43 rfl (cs := [.slice A0q0 p0.f0.f0.length c0q0, i6 p0.f0.f1]) (by kernel_rfl) (hS1au.cells (vs := [.slice A0q0 p0.f0.f0.length c0q0, i6 p0.f0.f1]) rfl)) (fun a1av h1aw => ?_)
     refine WL.bl 2 4 h1aw [(60, i6 (IntKind.i64.wrap r17w)), (59, .int .u32 r17w)] (fun a1ax h1ay => ?_)
     obtain ⟨r1b0, r1b1, A1az, H⟩ := bind2 H
     refine WL.oq h1ay rfl ?_
     refine owp_call [.agg #[.slice A0q0 p0.f0.f0.length c0q0, i6 p0.f0.f1], i6 (IntKind.i64.wrap r17w)] h1ay rfl (by kernel_rfl) rfl Tryd.func46 (by kernel_rfl) rfl (by kernel_rfl) (louverref05qT_At.calls (p0 := (⟨p0.f0.f0, p0.f0.f1⟩ : S43)) hp0q0 A1az hS1au) (fun e1b3 W1b2 hp1b4 => ?_)
     obtain ⟨rfl, hS1b7⟩ := hp1b4
     refine ⟨_, rfl, fun a1b5 h1b6 => ?_⟩
     refine WL.bl 3 8 h1b6 [(63, .bool r1b1), (62, .agg #[.string (mkS r1b0.f0), .string (mkS r1b0.f1), .bool r1b0.f2]), (56, .tuple #[.agg #[.string (mkS r1b0.f0), .string (mkS r1b0.f1), .bool r1b0.f2], .bool r1b1])] (fun a1b8 h1b9 => ?_)
     refine WL.oq h1b9 rfl ?_
     refine owp_nw (fun g_ => (pt g_)) (.cells ([.string (mkS []), .string (mkS []), .bool false] : List Value).toArray 52 (0, 0)) h1b9 rfl hS1b7 (fun a1ba W1bc g1bd h1bb hS1be => ?_)
     refine WL.oq h1bb rfl ?_
     refine owp_st 0 [.string (mkS r1b0.f0), .string (mkS r1b0.f1), .bool r1b0.f2] h1bb rfl rfl rfl hS1be [.string (mkS r1b0.f0), .string (mkS r1b0.f1), .bool r1b0.f2] (fun a1bf W1bh h1bg hS1bi => ?_)
     refine WL.bl 1 11 h1bg [(20, .bool r1b1)] (fun a1bj h1bk => ?_)
     refine WL.dn ?_
     refine wp_seq ?_
     refine wp_seq ?_
     refine WL.start ?_
     refine WL.bl 2 2 h1bk [(65, .bool (!r1b1)), (64, .bool r1b1)] (fun a1bl h1bm => ?_)
     refine WL.dn ?_
     clear h18o a18n h1at a1as h1aw a1av h1ay a1ax h1b6 a1b5 h1b9 a1b8 h1bb a1ba h1bg a1bf h1bk a1bj
     by_cases c1bn : r1b1 = true
     ·rw [if_pos c1bn] at H
      have hb_ : r1b1 = true := c1bn
      try rw [hb_] at h1bm
      clear hb_
      refine wp_else h1bm rfl ?_
      refine wp_skip ?_
      refine WL.start ?_
      refine WL.bl 1 1 h1bm [(67, pt g1bd)] (fun a1bo h1bp => ?_)
      refine WL.oq h1bp rfl ?_
      refine owp_rn (.string (mkS r1b0.f0)) h1bp rfl (run_load1 rfl rfl Tryd.underlying9 rfl (hS1bi.cell (i := 0) rfl)) (fun a1bq h1br => ?_)
      refine WL.bl 1 3 h1br [(69, pt g18h)] (fun a1bs h1bt => ?_)
      have hS1bu := hS1bi.b2
      refine WL.oq h1bt rfl ?_
      refine owp_st 0 [.string (mkS r1b0.f0)] h1bt rfl rfl rfl hS1bu [.string (mkS r1b0.f0), .string (mkS []), .bool false] (fun a1bv W1bx h1bw hS1by => ?_)
      refine WL.dn ?_
      refine wp_seq ?_
      refine WL.start ?_
      refine WL.bl 2 2 h1bw [(72, i6 (IntKind.i64.wrap (p2 + r17x))), (71, .slice A1 p1.length c1)] (fun a1bz h1c0 => ?_)
      obtain ⟨r1c2, r1c3, r1c4, A1c1, H⟩ := bind3 H
      refine WL.oq h1c0 rfl ?_
      refine owp_call [.slice A1 p1.length c1, i6 (IntKind.i64.wrap (p2 + r17x))] h1c0 rfl (by kernel_rfl) rfl Tryd.func58 (by kernel_rfl) rfl (by kernel_rfl) (louverref06qtext.calls k hp1 A1c1 hS1by) (fun e1c6 W1c5 hp1c7 => ?_)
      obtain ⟨rfl, hS1ca⟩ := hp1c7
      refine ⟨_, rfl, fun a1c8 h1c9 => ?_⟩
      refine WL.bl 7 10 h1c9 [(23, .bool r1c4), (22, i6 r1c3), (21, .string (mkS r1c2)), (76, .bool r1c4), (75, i6 r1c3), (74, .string (mkS r1c2)), (70, .tuple #[.string (mkS r1c2), i6 r1c3, .bool r1c4])] (fun a1cb h1cc => ?_)
      refine WL.dn ?_
      refine wp_seq ?_
      refine WL.start ?_
      refine WL.bl 2 2 h1cc [(78, .pointer (some ⟨g18h, 1, none⟩)), (77, .string (mkS r1c2))] (fun a1cd h1ce => ?_)
      refine WL.oq h1ce rfl ?_
      refine owp_st 1 [.string (mkS r1c2)] h1ce rfl rfl rfl hS1ca [.string (mkS r1b0.f0), .string (mkS r1c2), .bool false] (fun a1cf W1ch h1cg hS1ci => ?_)
      refine WL.dn ?_
      refine wp_seq ?_
      refine WL.start ?_
      refine WL.oq h1cg rfl ?_
      refine owp_rn (.agg #[.string (mkS r1b0.f0), .string (mkS r1c2), .bool false]) h1cg rfl (run_loadN rfl rfl Tryd.underlying52 rfl (cs := [.string (mkS r1b0.f0), .string (mkS r1c2), .bool false]) (by kernel_rfl) (hS1ci.cells (vs := [.string (mkS r1b0.f0), .string (mkS r1c2), .bool false]) rfl)) (fun a1cj h1ck => ?_)
      refine WL.bl 2 3 h1ck [(81, .bool r1c4), (80, i6 r1c3)] (fun a1cl h1cm => ?_)
      have hS1cn := hS1ci.b4
      refine WL.oq h1cm rfl ?_
      refine owp_st 0 [.string (mkS r1b0.f0), .string (mkS r1c2), .bool false] h1cm rfl rfl rfl hS1cn [.string (mkS r1b0.f0), .string (mkS r1c2), .bool false] (fun a1co W1cq h1cp hS1cr => ?_)
      clear h1bm a1bl h1bp a1bo h1br a1bq h1bt a1bs h1bw a1bv h1c0 a1bz h1c9 a1c8 h1cc a1cb h1ce a1cd h1cg a1cf h1ck a1cj h1cm a1cl
      refine WL.bl 2 6 h1cp [(10, .bool r1c4), (9, i6 r1c3)] (fun a1cs h1ct => ?_)
      refine WL.dn ?_
      refine wp_ret ?_
      have hS1cu := hS1cr.drop_
      have hS1cv := hS1cu.drop_
      have hS1cw := hS1cv.drop_
      have hS1cx := hS1cw.drop_
      have hS1cy := hS1cx.drop_
      obtain ⟨rfl, rfl, rfl⟩ := ret3 H
      repeat (first | with_reducible refine t1 ?_ | with_reducible refine t2 ?_ | with_reducible refine t3 ?_)
      refine body_ret (v := .tuple #[.agg #[.string (mkS r1b0.f0), .string (mkS r1c2), .bool false], i6 r1c3, .bool r1c4]) h1ct (by kernel_rfl) (res_many (xs := [ResultVar.cell 8 52, ResultVar.tmp 9, ResultVar.tmp 10]) rfl ⟨⟨_, rfl, loadVarN Tryd.underlying52 rfl (cs := [.string (mkS r1b0.f0), .string (mkS r1c2), .bool false]) (by kernel_rfl) (hS1cr.cells (vs := [.string (mkS r1b0.f0), .string (mkS r1c2), .bool false]) rfl)⟩, rfl, rfl, trivial⟩ rfl) ?_
      exact ⟨rfl, hS1cy⟩
     ·rw [if_neg c1bn] at H
      have hb_ : r1b1 = false := (Bool.eq_false_iff.2 c1bn)
      try rw [hb_] at h1bm
      clear hb_
      refine wp_then h1bm rfl ?_
      refine wp_seq ?_
      refine WL.start ?_
      have hS1cz := hS1bi.b3
      refine WL.oq h1bm rfl ?_
      refine owp_rn (.agg #[.string (mkS []), .string (mkS []), .bool false]) h1bm rfl (run_loadN rfl rfl Tryd.underlying52 rfl (cs := [.string (mkS []), .string (mkS []), .bool false]) (by kernel_rfl) (hS1cz.cells (vs := [.string (mkS []), .string (mkS []), .bool false]) rfl)) (fun a1d0 h1d1 => ?_)
      have hS1d2 := hS1cz.b4
      refine WL.oq h1d1 rfl ?_
      refine owp_st 0 [.string (mkS []), .string (mkS []), .bool false] h1d1 rfl rfl rfl hS1d2 [.string (mkS []), .string (mkS []), .bool false] (fun a1d3 W1d5 h1d4 hS1d6 => ?_)
      refine WL.bl 2 4 h1d4 [(10, .bool false), (9, i6 0)] (fun a1d7 h1d8 => ?_)
      refine WL.dn ?_
      refine wp_ret ?_
      have hS1d9 := hS1d6.drop_
      have hS1da := hS1d9.drop_
      have hS1db := hS1da.drop_
      have hS1dc := hS1db.drop_
      have hS1dd := hS1dc.drop_
      obtain ⟨rfl, rfl, rfl⟩ := ret3 H
      repeat (first | with_reducible refine t1 ?_ | with_reducible refine t2 ?_ | with_reducible refine t3 ?_)
      refine body_ret (v := .tuple #[.agg #[.string (mkS []), .string (mkS []), .bool false], i6 0, .bool false]) h1d8 (by kernel_rfl) (res_many (xs := [ResultVar.cell 8 52, ResultVar.tmp 9, ResultVar.tmp 10]) rfl ⟨⟨_, rfl, loadVarN Tryd.underlying52 rfl (cs := [.string (mkS []), .string (mkS []), .bool false]) (by kernel_rfl) (hS1d6.cells (vs := [.string (mkS []), .string (mkS []), .bool false]) rfl)⟩, rfl, rfl, trivial⟩ rfl) ?_
      exact ⟨rfl, hS1dd⟩
   ·rw [if_neg c189] at H
    have hb_ : (decide (r17y = 0)) = false := decide_eq_false c189
    try rw [hb_] at h188
    clear hb_
    refine wp_then h188 rfl ?_
    refine wp_seq ?_
    refine WL.start ?_
    refine WL.oq h188 rfl ?_
    refine owp_rn (.agg #[.string (mkS []), .string (mkS []), .bool false]) h188 rfl (run_loadN rfl rfl Tryd.underlying52 rfl (cs := [.string (mkS []), .string (mkS []), .bool false]) (by kernel_rfl) (hS184.cells (vs := [.string (mkS []), .string (mkS []), .bool false]) rfl)) (fun a1de h1df => ?_)
    have hS1dg := hS184.b1
    refine WL.oq h1df rfl ?_
    refine owp_st 0 [.string (mkS []), .string (mkS []), .bool false] h1df rfl rfl rfl hS1dg [.string (mkS []), .string (mkS []), .bool false] (fun a1dh W1dj h1di hS1dk => ?_)
    refine WL.bl 2 4 h1di [(10, .bool false), (9, i6 0)] (fun a1dl h1dm => ?_)
    refine WL.dn ?_
    refine wp_ret ?_
    have hS1dn := hS1dk.drop_
    have hS1do := hS1dn.drop_
    have hS1dp := hS1do.drop_
    obtain ⟨rfl, rfl, rfl⟩ := ret3 H
    repeat (first | with_reducible refine t1 ?_ | with_reducible refine t2 ?_ | with_reducible refine t3 ?_)
    refine body_ret (v := .tuple #[.agg #[.string (mkS []), .string (mkS []), .bool false], i6 0, .bool false]) h1dm (by kernel_rfl) (res_many (xs := [ResultVar.cell 8 52, ResultVar.tmp 9, ResultVar.tmp 10]) rfl ⟨⟨_, rfl, loadVarN Tryd.underlying52 rfl (cs := [.string (mkS []), .string (mkS []), .bool false]) (by kernel_rfl) (hS1dk.cells (vs := [.string (mkS []), .string (mkS []), .bool false]) rfl)⟩, rfl, rfl, trivial⟩ rfl) ?_
    exact ⟨rfl, hS1dp⟩
  ·rw [if_neg c17l] at H
   cases H
 ·rw [if_neg c17k] at H
  cases H

/-! ### (louver/louverref05.T).Add -/
def louverref05qT_Add.f (k : Nat) (p0 : S43) (p1 : S52) : Option (S43) := bnd1 (louverref05qSize.f (⟨p1.f0, p1.f1, p1.f2⟩ : S52)) fun r1an => (bnd1 (louverref05qT_Within.f k (⟨p0.f0, p0.f1⟩ : S43) (IntKind.i64.wrap (p0.f1 - r1an))) fun r1ay => (bnd1 (louverref05qSize.f (⟨p1.f0, p1.f1, p1.f2⟩ : S52)) fun r1cu => (if r1cu > r1ay.f1 then (some (⟨r1ay.f0, r1ay.f1⟩ : S43)) else (if ([(⟨p1.f0, p1.f1, false⟩ : S52)] : List S52).length + r1ay.f0.length ≤ 3518437208883 then (lt1 (([(⟨p1.f0, p1.f1, false⟩ : S52)] : List S52) ++ r1ay.f0 : List S52) fun y1ef => (some (⟨y1ef, r1ay.f1⟩ : S43))) else (none)))))
set_option maxHeartbeats 20000000 in
set_option maxRecDepth 100000 in
theorem louverref05qT_Add.calls (k : Nat) {b : Nat} {w0 W : World} {R : Frag} {Fs : List Frag} {p0 : S43} {p1 : S52} {v0q0 : Value} {r0q : S43} (hp0q0 : Rds k52 b w0 R v0q0 p0.f0) (H : louverref05qT_Add.f k p0 p1 = some r0q) (hS : St b w0 W R (Fs)) :
  Calls Tryd.prog 48 ([.agg #[v0q0, i6 p0.f1], .agg #[.string (mkS p1.f0), .string (mkS p1.f1), .bool p1.f2]] : List Value).toArray W (fun e W' => ∃ (u0qv0qf0 : Value) (Nu0qv0qf0 : Frag), e = .returned (.agg #[u0qv0qf0, i6 r0q.f1]) ∧ Row k52 52 b w0 R u0qv0qf0 r0q.f0 Nu0qv0qf0 ∧ St b w0 W' R (Nu0qv0qf0 :: Fs)) := by
 obtain ⟨A0q0, c0q0, rfl⟩ := hp0q0.form
 unfold louverref05qT_Add.f at H
 refine calls_enter Tryd.func48 rfl 31 rfl (by kernel_rfl) (fun a h => ?_)
 refine wp_seq ?_
 refine WL.start ?_
 refine WL.oq h rfl ?_
 refine owp_nw (fun g_ => (pt g_)) (.cells ([.slice A0q0 p0.f0.length c0q0, i6 p0.f1] : List Value).toArray 43 (0, 0)) h rfl hS (fun a17k W17m g17n h17l hS17o => ?_)
 refine WL.oq h17l rfl ?_
 refine owp_nw (fun g_ => (pt g_)) (.cells ([.string (mkS p1.f0), .string (mkS p1.f1), .bool p1.f2] : List Value).toArray 52 (0, 0)) h17l rfl hS17o (fun a17p W17r g17s h17q hS17t => ?_)
 refine WL.oq h17q rfl ?_
 refine owp_nw (fun g_ => (pt g_)) (.cells ([.slice none 0 0, i6 0] : List Value).toArray 43 (0, 0)) h17q rfl hS17t (fun a17u W17w g17x h17v hS17y => ?_)
 refine WL.dn ?_
 refine wp_seq ?_
 refine WT.start 7 (fun w_ => (∀ j_ u_, ([.slice A0q0 p0.f0.length c0q0, i6 p0.f1] : List Value)[j_]? = some u_ → w_.cell? ((⟨g17n, 0, none⟩ : Addr).add j_) = some u_) ∧ (w_.cell? ⟨g17n, 1, none⟩ = some (i6 p0.f1)) ∧ (∀ j_ u_, ([.string (mkS p1.f0), .string (mkS p1.f1), .bool p1.f2] : List Value)[j_]? = some u_ → w_.cell? ((⟨g17s, 0, none⟩ : Addr).add j_) = some u_) ∧ True) (by kernel_rfl) #[false, false, false, false, false, false, false, false] 8 rfl rfl ?_
 have hS1a9 := hS17y.drew
 refine WT.tk 1 h17v rfl rfl (.pointer (some ⟨g17n, 1, none⟩)) (fun _ _ => by kernel_rfl) ⟨(hS1a9.b2.cells (vs := [.slice A0q0 p0.f0.length c0q0, i6 p0.f1]) rfl), (hS1a9.b2.cell (i := 1) rfl), (hS1a9.b1.cells (vs := [.string (mkS p1.f0), .string (mkS p1.f1), .bool p1.f2]) rfl), trivial⟩ (fun a1aa s1ac h1ab => ?_)
 refine WT.tk 0 h1ab rfl rfl (.agg #[.slice A0q0 p0.f0.length c0q0, i6 p0.f1]) (fun w_ hs_ => (run_loadN rfl rfl Tryd.underlying43 rfl (cs := [.slice A0q0 p0.f0.length c0q0, i6 p0.f1]) (by kernel_rfl) hs_.1)) s1ac (fun a1ad s1af h1ae => ?_)
 refine WT.tk 2 h1ae rfl rfl (i6 p0.f1) (fun w_ hs_ => (run_load1 rfl rfl Tryd.underlying3 rfl hs_.2.1)) s1af (fun a1ag s1ai h1ah => ?_)
 refine WT.tk 3 h1ah rfl rfl (.agg #[.string (mkS p1.f0), .string (mkS p1.f1), .bool p1.f2]) (fun w_ hs_ => (run_loadN rfl rfl Tryd.underlying52 rfl (cs := [.string (mkS p1.f0), .string (mkS p1.f1), .bool p1.f2]) (by kernel_rfl) hs_.2.2.1)) s1ai (fun a1aj s1al h1ak => ?_)
 obtain ⟨r1an, A1am, H⟩ := bind1 H
 refine WT.o1 4 h1ak rfl ?_
 refine owp_call [.agg #[.string (mkS p1.f0), .string (mkS p1.f1), .bool p1.f2]] h1ak rfl (by kernel_rfl) rfl Tryd.func23 (by kernel_rfl) rfl (by kernel_rfl) (louverref05qSize.calls (p0 := (⟨p1.f0, p1.f1, p1.f2⟩ : S52))  A1am hS1a9) (fun e1ap W1ao hp1aq => ?_)
 obtain ⟨rfl, hS1at⟩ := hp1aq
 refine ⟨_, rfl, fun a1ar h1as => ?_⟩
 refine ⟨.inr ⟨(hS1at.b2.cells (vs := [.slice A0q0 p0.f0.length c0q0, i6 p0.f1]) rfl), (hS1at.b2.cell (i := 1) rfl), (hS1at.b1.cells (vs := [.string (mkS p1.f0), .string (mkS p1.f1), .bool p1.f2]) rfl), trivial⟩, ?_⟩
 refine WT.tk 5 h1as rfl rfl (i6 (IntKind.i64.wrap (p0.f1 - r1an))) (fun _ _ => by kernel_rfl) ⟨(hS1at.b2.cells (vs := [.slice A0q0 p0.f0.length c0q0, i6 p0.f1]) rfl), (hS1at.b2.cell (i := 1) rfl), (hS1at.b1.cells (vs := [.string (mkS p1.f0), .string (mkS p1.f1), .bool p1.f2]) rfl), trivial⟩ (fun a1au s1aw h1av => ?_)
 obtain ⟨r1ay, A1ax, H⟩ := bind1 H
 refine WT.o1 6 h1av rfl ?_
 refine owp_call [.agg #[.slice A0q0 p0.f0.length c0q0, i6 p0.f1], i6 (IntKind.i64.wrap (p0.f1 - r1an))] h1av rfl (by kernel_rfl) rfl Tryd.func45 (by kernel_rfl) rfl (by kernel_rfl) (louverref05qT_Within.calls (p0 := (⟨p0.f0, p0.f1⟩ : S43)) k hp0q0 A1ax hS1at) (fun e1b0 W1az hp1b1 => ?_)
 obtain ⟨v1b4, M1b5, rfl, hr1b6, hS1b7⟩ := hp1b1
 refine ⟨_, rfl, fun a1b2 h1b3 => ?_⟩
 obtain ⟨A1b8, c1b9, rfl⟩ := hr1b6.form
 refine ⟨.inr ⟨(hS1b7.b3.cells (vs := [.slice A0q0 p0.f0.length c0q0, i6 p0.f1]) rfl), (hS1b7.b3.cell (i := 1) rfl), (hS1b7.b2.cells (vs := [.string (mkS p1.f0), .string (mkS p1.f1), .bool p1.f2]) rfl), trivial⟩, ?_⟩
 have hS1ba := hS1b7.b3
 refine WT.o1 7 h1b3 rfl ?_
 refine owp_st 0 [.slice A1b8 r1ay.f0.length c1b9, i6 r1ay.f1] h1b3 rfl rfl rfl hS1ba [.slice A1b8 r1ay.f0.length c1b9, i6 r1ay.f1] (fun a1bb W1bd h1bc hS1be => ?_)
 refine ⟨.inl (by decide), ?_⟩
 refine WT.dn ?_
 refine wp_seq ?_
 refine wp_seq ?_
 refine WT.start 5 (fun w_ => (∀ j_ u_, ([.string (mkS p1.f0), .string (mkS p1.f1), .bool p1.f2] : List Value)[j_]? = some u_ → w_.cell? ((⟨g17s, 0, none⟩ : Addr).add j_) = some u_) ∧ (w_.cell? ⟨g17n, 1, none⟩ = some (i6 r1ay.f1)) ∧ True) (by kernel_rfl) #[false, false, false, false, false] 5 rfl rfl ?_
 have hS1cj := hS1be.drew
 refine WT.tk 2 h1bc rfl rfl (.pointer (some ⟨g17n, 1, none⟩)) (fun _ _ => by kernel_rfl) ⟨(hS1cj.b3.cells (vs := [.string (mkS p1.f0), .string (mkS p1.f1), .bool p1.f2]) rfl), (hS1cj.cell (i := 1) rfl), trivial⟩ (fun a1ck s1cm h1cl => ?_)
 refine WT.tk 0 h1cl rfl rfl (.agg #[.string (mkS p1.f0), .string (mkS p1.f1), .bool p1.f2]) (fun w_ hs_ => (run_loadN rfl rfl Tryd.underlying52 rfl (cs := [.string (mkS p1.f0), .string (mkS p1.f1), .bool p1.f2]) (by kernel_rfl) hs_.1)) s1cm (fun a1cn s1cp h1co => ?_)
 clear h17l a17k h17q a17p h17v a17u h1ab a1aa h1ae a1ad h1ah a1ag h1ak a1aj h1as a1ar h1av a1au h1b3 a1b2 h1bc a1bb h1cl a1ck
 refine WT.tk 3 h1co rfl rfl (i6 r1ay.f1) (fun w_ hs_ => (run_load1 rfl rfl Tryd.underlying3 rfl hs_.2.1)) s1cp (fun a1cq s1cs h1cr => ?_)
 obtain ⟨r1cu, A1ct, H⟩ := bind1 H
 refine WT.o1 1 h1cr rfl ?_
 refine owp_call [.agg #[.string (mkS p1.f0), .string (mkS p1.f1), .bool p1.f2]] h1cr rfl (by kernel_rfl) rfl Tryd.func23 (by kernel_rfl) rfl (by kernel_rfl) (louverref05qSize.calls (p0 := (⟨p1.f0, p1.f1, p1.f2⟩ : S52))  A1ct hS1cj) (fun e1cw W1cv hp1cx => ?_)
 obtain ⟨rfl, hS1d0⟩ := hp1cx
 refine ⟨_, rfl, fun a1cy h1cz => ?_⟩
 refine ⟨.inr ⟨(hS1d0.b3.cells (vs := [.string (mkS p1.f0), .string (mkS p1.f1), .bool p1.f2]) rfl), (hS1d0.cell (i := 1) rfl), trivial⟩, ?_⟩
 refine WT.tk 4 h1cz rfl rfl (.bool (decide (r1cu > r1ay.f1))) (fun _ _ => by kernel_rfl) ⟨(hS1d0.b3.cells (vs := [.string (mkS p1.f0), .string (mkS p1.f1), .bool p1.f2]) rfl), (hS1d0.cell (i := 1) rfl), trivial⟩ (fun a1d1 s1d3 h1d2 => ?_)
 refine WT.dn ?_
 clear h1co a1cn h1cr a1cq h1cz a1cy
 by_cases c1d4 : r1cu > r1ay.f1
 ·rw [if_pos c1d4] at H
  have hb_ : (decide (r1cu > r1ay.f1)) = true := decide_eq_true c1d4
  try rw [hb_] at h1d2
  clear hb_
  refine wp_then h1d2 rfl ?_
  refine wp_seq ?_
  refine WL.start ?_
  refine WL.oq h1d2 rfl ?_
  refine owp_rn (.agg #[.slice A1b8 r1ay.f0.length c1b9, i6 r1ay.f1]) h1d2 rfl (run_loadN rfl rfl Tryd.underlying43 rfl (cs := [.slice A1b8 r1ay.f0.length c1b9, i6 r1ay.f1]) (by kernel_rfl) (hS1d0.cells (vs := [.slice A1b8 r1ay.f0.length c1b9, i6 r1ay.f1]) rfl)) (fun a1d5 h1d6 => ?_)
  have hS1d7 := hS1d0.b2
  refine WL.oq h1d6 rfl ?_
  refine owp_st 0 [.slice A1b8 r1ay.f0.length c1b9, i6 r1ay.f1] h1d6 rfl rfl rfl hS1d7 [.slice A1b8 r1ay.f0.length c1b9, i6 r1ay.f1] (fun a1d8 W1da h1d9 hS1db => ?_)
  refine WL.dn ?_
  refine wp_ret ?_
  have hS1dc := hS1db.drop_
  have hS1dd := hS1dc.drop_
  have hS1de := hS1dd.b1
  have hS1df := hS1de.drop_
  obtain rfl := Option.some.inj H
  repeat (first | with_reducible refine t1 ?_ | with_reducible refine t2 ?_ | with_reducible refine t3 ?_)
  refine body_ret (v := .agg #[.slice A1b8 r1ay.f0.length c1b9, i6 r1ay.f1]) h1d9 (by kernel_rfl) (res_one rfl ⟨_, rfl, loadVarN Tryd.underlying43 rfl (cs := [.slice A1b8 r1ay.f0.length c1b9, i6 r1ay.f1]) (by kernel_rfl) (hS1db.cells (vs := [.slice A1b8 r1ay.f0.length c1b9, i6 r1ay.f1]) rfl)⟩) ?_
  exact ⟨.slice A1b8 r1ay.f0.length c1b9, M1b5, rfl, hr1b6, hS1df⟩
 ·rw [if_neg c1d4] at H
  have hb_ : (decide (r1cu > r1ay.f1)) = false := decide_eq_false c1d4
  try rw [hb_] at h1d2
  clear hb_
  refine wp_else h1d2 rfl ?_
  refine wp_skip ?_
  refine wp_seq ?_
  refine WL.start ?_
  refine WL.bl 1 1 h1d2 [(19, pt g17s)] (fun a1dg h1dh => ?_)
  have hS1di := hS1d0.b3
  refine WL.oq h1dh rfl ?_
  refine owp_rn (.string (mkS p1.f0)) h1dh rfl (run_load1 rfl rfl Tryd.underlying9 rfl (hS1di.cell (i := 0) rfl)) (fun a1dj h1dk => ?_)
  refine WL.bl 1 3 h1dk [(21, .pointer (some ⟨g17s, 1, none⟩))] (fun a1dl h1dm => ?_)
  refine WL.oq h1dm rfl ?_
  refine owp_rn (.string (mkS p1.f1)) h1dm rfl (run_load1 rfl rfl Tryd.underlying9 rfl (hS1di.cell (i := 1) rfl)) (fun a1dn h1do => ?_)
  refine WL.bl 1 5 h1do [(23, .agg #[.string (mkS p1.f0), .string (mkS p1.f1), .bool false])] (fun a1dp h1dq => ?_)
  obtain ⟨_, hrep_, hMe_⟩ := k52qmk (b := b) (w0 := w0) (R := R) (x := (⟨p1.f0, p1.f1, false⟩ : S52)) 
  subst hMe_
  have hq1dr := hrep_; clear hrep_
  refine WL.oq h1dq rfl ?_
  refine owp_nw (fun g_ => .slice (some ⟨g_, 0, none⟩) 1 1) (.cells ([.string (mkS p1.f0), .string (mkS p1.f1), .bool false] : List Value).toArray 52 (0, 0)) h1dq rfl hS1di (fun a1ds W1du g1dv h1dt hS1dw => ?_)
  have hr1dx : Row k52 52 b w0 R (.slice (some ⟨g1dv, 0, none⟩) 1 1) ([(⟨p1.f0, p1.f1, false⟩ : S52)] : List S52) (bx g1dv 52 [.string (mkS p1.f0), .string (mkS p1.f1), .bool false]) := Row.lit (xs := ([(⟨p1.f0, p1.f1, false⟩ : S52)] : List S52)) (Mi := []) ⟨_, _, [], _, rfl, rfl, hq1dr, ⟨rfl, rfl⟩⟩ (by simp [maxLen])
  refine WL.bl 1 7 h1dt [(5, .slice (some ⟨g1dv, 0, none⟩) 1 1)] (fun a1dy h1dz => ?_)
  refine WL.dn ?_
  refine wp_seq ?_
  refine WL.start ?_
  refine WL.bl 2 2 h1dz [(26, pt g17n), (25, .slice (some ⟨g1dv, 0, none⟩) 1 1)] (fun a1e0 h1e1 => ?_)
  have hS1e2 := hS1dw.b2
  refine WL.oq h1e1 rfl ?_
  refine owp_rn (.slice A1b8 r1ay.f0.length c1b9) h1e1 rfl (run_load1 rfl rfl Tryd.underlying23 rfl (hS1e2.cell (i := 0) rfl)) (fun a1e3 h1e4 => ?_)
  clear h1d2 a1d1 h1dh a1dg h1dk a1dj h1dm a1dl h1do a1dn h1dq a1dp h1dt a1ds h1dz a1dy h1e1 a1e0
  by_cases c1e5 : ([(⟨p1.f0, p1.f1, false⟩ : S52)] : List S52).length + r1ay.f0.length ≤ 3518437208883
  ·rw [if_pos c1e5] at H
   have hS1e6 := hS1e2.b3
   have hS1e7 := hS1e6.b2
   refine WL.oq h1e4 rfl ?_
   refine owp_app_keep (z := .agg #[.string (mkS []), .string (mkS []), .bool false]) (bytes := 40) (dk := k52) h1e4 rfl (by kernel_rfl) rfl rfl rfl k52qno hr1dx hr1b6 hS1e7 Tryd.underlying23 (by kernel_rfl) rfl (by decide) (by decide) (by first | omega | (simp only [List.length_cons, List.length_nil] at *; omega)) (fun a1e8 W1ea v1eb M1ec h1e9 hr1ed hS1ee => ?_)
   obtain ⟨y1ef, hy1eg, H⟩ := lete H
   have hr1eh : Row k52 52 b w0 R v1eb y1ef M1ec := by rw [hy1eg]; exact hr1ed
   clear hr1ed
   obtain ⟨A1ei, c1ej, rfl⟩ := hr1eh.form
   refine WL.bl 1 5 h1e9 [(29, pt g17n)] (fun a1ek h1el => ?_)
   have hS1em := hS1ee.b2
   refine WL.oq h1el rfl ?_
   refine owp_st 0 [.slice A1ei y1ef.length c1ej] h1el rfl rfl rfl hS1em [.slice A1ei y1ef.length c1ej, i6 r1ay.f1] (fun a1en W1ep h1eo hS1eq => ?_)
   refine WL.dn ?_
   refine wp_seq ?_
   refine WL.start ?_
   refine WL.oq h1eo rfl ?_
   refine owp_rn (.agg #[.slice A1ei y1ef.length c1ej, i6 r1ay.f1]) h1eo rfl (run_loadN rfl rfl Tryd.underlying43 rfl (cs := [.slice A1ei y1ef.length c1ej, i6 r1ay.f1]) (by kernel_rfl) (hS1eq.cells (vs := [.slice A1ei y1ef.length c1ej, i6 r1ay.f1]) rfl)) (fun a1er h1es => ?_)
   have hS1et := hS1eq.b4
   refine WL.oq h1es rfl ?_
   refine owp_st 0 [.slice A1ei y1ef.length c1ej, i6 r1ay.f1] h1es rfl rfl rfl hS1et [.slice A1ei y1ef.length c1ej, i6 r1ay.f1] (fun a1eu W1ew h1ev hS1ex => ?_)
   refine WL.dn ?_
   refine wp_ret ?_
   have hS1ey := hS1ex.drop_
   have hS1ez := hS1ey.drop_
   have hS1f0 := hS1ez.b1
   have hS1f1 := hS1f0.drop_
   have hS1f2 := hS1f1.b1
   have hS1f3 := hS1f2.drop_
   obtain rfl := Option.some.inj H
   repeat (first | with_reducible refine t1 ?_ | with_reducible refine t2 ?_ | with_reducible refine t3 ?_)
   refine body_ret (v := .agg #[.slice A1ei y1ef.length c1ej, i6 r1ay.f1]) h1ev (by kernel_rfl) (res_one rfl ⟨_, rfl, loadVarN Tryd.underlying43 rfl (cs := [.slice A1ei y1ef.length c1ej, i6 r1ay.f1]) (by kernel_rfl) (hS1ex.cells (vs := [.slice A1ei y1ef.length c1ej, i6 r1ay.f1]) rfl)⟩) ?_
   exact ⟨.slice A1ei y1ef.length c1ej, M1ec, rfl, hr1eh, hS1f3⟩
  ·rw [if_neg c1e5] at H
   cases H
end Go.Proofs.YtinebjcfgmoniaaDoor.Sl
