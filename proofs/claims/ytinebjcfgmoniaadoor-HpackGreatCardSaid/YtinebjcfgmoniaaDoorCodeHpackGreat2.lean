/- What the functions of this program compute, told as plain functions, and that the calls come to just that. Printed by this session's program; part 2. -/
import Derived.Test.YtinebjcfgmoniaaDoorCodeHpackGreat1
set_option linter.unusedVariables false
set_option linter.unusedSimpArgs false
set_option linter.unnecessarySimpa false
namespace Go.Proofs.YtinebjcfgmoniaaDoor.Sl
open Go Go.RowKit Go.Proofs.Sl
/-! ### louver/prefix.Get -/
def prefix_Get.l0 : Nat → Int → Int → (List Int) → Option (Int × Int × Int)
 | 0, _, _, _ => none
 | k + 1, x18n, x18o, p0 => if x18o < ((p0.drop (1 : Int).toNat).length : Int) then (if 0 ≤ x18o then (if x18o = 4 then (some (0, 0, 4)) else (if 0 ≤ (IntKind.i64.wrap (7 * x18o)) then (if (gt (0 : Int) (p0.drop (1 : Int).toNat) x18o) < 128 then (if (IntKind.u64.wrap (x18n + (shlI .u64 (IntKind.u64.wrap (bAnd .u8 (gt (0 : Int) (p0.drop (1 : Int).toNat) x18o) 127)) (IntKind.i64.wrap (7 * x18o))))) > 268435456 then (some (0, 0, 4)) else (some (IntKind.u32.wrap (IntKind.u64.wrap (x18n + (shlI .u64 (IntKind.u64.wrap (bAnd .u8 (gt (0 : Int) (p0.drop (1 : Int).toNat) x18o) 127)) (IntKind.i64.wrap (7 * x18o))))), IntKind.i64.wrap (x18o + 2), 0))) else (prefix_Get.l0 k (IntKind.u64.wrap (x18n + (shlI .u64 (IntKind.u64.wrap (bAnd .u8 (gt (0 : Int) (p0.drop (1 : Int).toNat) x18o) 127)) (IntKind.i64.wrap (7 * x18o))))) (IntKind.i64.wrap (x18o + 1)) p0)) else (none))) else (none)) else (some (0, 0, 2))
def prefix_Get.f (k : Nat) (p0 : (List Int)) (p1 : Int) : Option (Int × Int × Int) := bnd1 (prefix_right.f p1) fun r16x => (if r16x = true then (if (p0.length : Int) = 0 then (some (0, 0, 2)) else (if 0 ≤ p1 then (if 0 < (p0.length : Int) then (if (bAnd .u64 (IntKind.u64.wrap (gt (0 : Int) p0 (0 : Int))) (IntKind.u64.wrap (IntKind.u32.wrap ((shlI .u32 1 p1) - 1)))) < (IntKind.u64.wrap (IntKind.u32.wrap ((shlI .u32 1 p1) - 1))) then (some (IntKind.u32.wrap (bAnd .u64 (IntKind.u64.wrap (gt (0 : Int) p0 (0 : Int))) (IntKind.u64.wrap (IntKind.u32.wrap ((shlI .u32 1 p1) - 1)))), 1, 0)) else (if 1 ≤ (p0.length : Int) then (prefix_Get.l0 k (bAnd .u64 (IntKind.u64.wrap (gt (0 : Int) p0 (0 : Int))) (IntKind.u64.wrap (IntKind.u32.wrap ((shlI .u32 1 p1) - 1)))) 0 p0) else (none))) else (none)) else (none))) else (some (0, 0, 1)))
set_option maxHeartbeats 20000000 in
set_option maxRecDepth 100000 in
theorem prefix_Get.calls (k : Nat) {b : Nat} {w0 W : World} {R : Frag} {Fs : List Frag} {p0 : (List Int)} {p1 : Int} {v0 : Value} {r0q : Int} {r1q : Int} {r2q : Int} (hp0 : Rds (kInt .u8) b w0 R v0 p0) (H : prefix_Get.f k p0 p1 = some (r0q, r1q, r2q)) (hS : St b w0 W R (Fs)) :
  Calls Tryd.prog 53 ([v0, i6 p1] : List Value).toArray W (fun e W' => e = .returned (.tuple #[.int .u32 r0q, i6 r1q, i6 r2q]) ∧ St b w0 W' R (Fs)) := by
 obtain ⟨A0, c0, rfl⟩ := hp0.form
 unfold prefix_Get.f at H
 refine calls_enter Tryd.func53 rfl 62 rfl (by kernel_rfl) (fun a h => ?_)
 refine wp_seq ?_
 refine WL.start ?_
 refine WL.bl 3 3 h [(6, i6 0), (5, i6 0), (4, .int .u32 0)] (fun a16s h16t => ?_)
 refine WL.dn ?_
 refine wp_seq ?_
 refine wp_block ?_
 refine wp_seq ?_
 refine WL.start ?_
 refine WL.bl 1 1 h16t [(12, i6 p1)] (fun a16u h16v => ?_)
 obtain ⟨r16x, A16w, H⟩ := bind1 H
 refine WL.oq h16v rfl ?_
 refine owp_call [i6 p1] h16v rfl (by kernel_rfl) rfl Tryd.func41 (by kernel_rfl) rfl (by kernel_rfl) (prefix_right.calls  A16w hS) (fun e16z W16y hp170 => ?_)
 obtain ⟨rfl, hS173⟩ := hp170
 refine ⟨_, rfl, fun a171 h172 => ?_⟩
 refine WL.bl 2 4 h172 [(11, .bool (!r16x)), (14, .bool (!r16x))] (fun a174 h175 => ?_)
 refine WL.dn ?_
 clear h16t a16s h16v a16u h172 a171
 by_cases c176 : r16x = true
 ·rw [if_pos c176] at H
  have hb_ : r16x = true := c176
  try rw [hb_] at h175
  clear hb_
  refine wp_else h175 rfl ?_
  refine wp_seq ?_
  refine WL.start ?_
  refine WL.bl 4 4 h175 [(15, .bool (decide ((p0.length : Int) = 0))), (18, .bool (decide ((p0.length : Int) = 0))), (17, i6 (p0.length : Int)), (16, .slice A0 p0.length c0)] (fun a177 h178 => ?_)
  refine WL.dn ?_
  clear h175 a174
  by_cases c179 : (p0.length : Int) = 0
  ·rw [if_pos c179] at H
   have hb_ : (decide ((p0.length : Int) = 0)) = true := decide_eq_true c179
   try rw [hb_] at h178
   clear hb_
   refine wp_then h178 rfl ?_
   refine wp_seq ?_
   refine WL.start ?_
   refine WL.bl 3 3 h178 [(6, i6 2), (5, i6 0), (4, .int .u32 0)] (fun a17a h17b => ?_)
   refine WL.dn ?_
   refine wp_ret ?_
   obtain ⟨rfl, rfl, rfl⟩ := ret3 H
   repeat (first | with_reducible refine t1 ?_ | with_reducible refine t2 ?_ | with_reducible refine t3 ?_)
   refine bret (.tuple #[.int .u32 0, i6 0, i6 2]) h17b ?_
   exact ⟨rfl, hS173⟩
  ·rw [if_neg c179] at H
   have hb_ : (decide ((p0.length : Int) = 0)) = false := decide_eq_false c179
   try rw [hb_] at h178
   clear hb_
   refine wp_else h178 rfl ?_
   refine wp_skip ?_
   refine wp_seq ?_
   refine WL.start ?_
   refine WL.bl 1 1 h178 [(19, i6 p1)] (fun a17c h17d => ?_)
   clear h178 a177
   by_cases c17e : 0 ≤ p1
   ·rw [if_pos c17e] at H
    refine WL.oq h17d rfl ?_
    refine owp_rn (.int .u32 (shlI .u32 1 p1)) h17d rfl (run_shl rfl rfl rfl (by assumption)) (fun a17f h17g => ?_)
    refine WL.bl 2 4 h17g [(7, .int .u32 (IntKind.u32.wrap ((shlI .u32 1 p1) - 1))), (21, .int .u32 (IntKind.u32.wrap ((shlI .u32 1 p1) - 1)))] (fun a17h h17i => ?_)
    refine WL.dn ?_
    refine wp_seq ?_
    refine WL.start ?_
    refine WL.bl 1 1 h17i [(22, .slice A0 p0.length c0)] (fun a17j h17k => ?_)
    clear h17d a17c h17g a17f h17i a17h
    by_cases c17l : 0 < (p0.length : Int)
    ·rw [if_pos c17l] at H
     have hi17o : 0 ≤ (0 : Int) := by first | assumption | omega
     have hi17p : 0 < (p0.length : Int) := by first | assumption | omega
     obtain ⟨ad17m, _, ha17n, -, -⟩ := Rds.elemAny hp0 hi17o (gt_get (z := (0 : Int)) hi17o hi17p)
     refine WL.oq h17k rfl ?_
     refine owp_rn (.pointer (some (ad17m.add ((0 : Int).toNat * 1)))) h17k rfl (run_idx (ad := ad17m) (sz := 1) rfl (by rw [← ha17n]; rfl) rfl Tryd.underlying22 (by kernel_rfl) hi17o hi17p) (fun a17q h17r => ?_)
     obtain ⟨ad17s, cs17t, ha17u, hr17w, hc17v⟩ := Rds.elemAny hp0 hi17o (gt_get (z := (0 : Int)) hi17o hi17p)
     rw [ha17n] at ha17u; obtain rfl := Option.some.inj ha17u
     obtain rfl : cs17t = [.int .u8 (gt (0 : Int) p0 (0 : Int))] := hr17w
     refine WL.oq h17r rfl ?_
     refine owp_rn (.int .u8 (gt (0 : Int) p0 (0 : Int))) h17r rfl (run_load1 rfl rfl Tryd.underlying5 rfl (cell0 (hc17v _ (fun _ _ hk_ => hS173.kn hk_)))) (fun a17x h17y => ?_)
     refine WL.bl 5 8 h17y [(8, .int .u64 (bAnd .u64 (IntKind.u64.wrap (gt (0 : Int) p0 (0 : Int))) (IntKind.u64.wrap (IntKind.u32.wrap ((shlI .u32 1 p1) - 1))))), (28, .int .u64 (bAnd .u64 (IntKind.u64.wrap (gt (0 : Int) p0 (0 : Int))) (IntKind.u64.wrap (IntKind.u32.wrap ((shlI .u32 1 p1) - 1))))), (27, .int .u64 (IntKind.u64.wrap (IntKind.u32.wrap ((shlI .u32 1 p1) - 1)))), (26, .int .u32 (IntKind.u32.wrap ((shlI .u32 1 p1) - 1))), (25, .int .u64 (IntKind.u64.wrap (gt (0 : Int) p0 (0 : Int))))] (fun a17z h180 => ?_)
     refine WL.dn ?_
     refine wp_seq ?_
     refine wp_seq ?_
     refine WL.start ?_
     refine WL.bl 4 4 h180 [(32, .bool (decide ((bAnd .u64 (IntKind.u64.wrap (gt (0 : Int) p0 (0 : Int))) (IntKind.u64.wrap (IntKind.u32.wrap ((shlI .u32 1 p1) - 1)))) < (IntKind.u64.wrap (IntKind.u32.wrap ((shlI .u32 1 p1) - 1)))))), (31, .int .u64 (IntKind.u64.wrap (IntKind.u32.wrap ((shlI .u32 1 p1) - 1)))), (30, .int .u32 (IntKind.u32.wrap ((shlI .u32 1 p1) - 1))), (29, .int .u64 (bAnd .u64 (IntKind.u64.wrap (gt (0 : Int) p0 (0 : Int))) (IntKind.u64.wrap (IntKind.u32.wrap ((shlI .u32 1 p1) - 1)))))] (fun a181 h182 => ?_)
     refine WL.dn ?_
     clear h17k a17j h17r a17q h17y a17x h180 a17z
     by_cases c183 : (bAnd .u64 (IntKind.u64.wrap (gt (0 : Int) p0 (0 : Int))) (IntKind.u64.wrap (IntKind.u32.wrap ((shlI .u32 1 p1) - 1)))) < (IntKind.u64.wrap (IntKind.u32.wrap ((shlI .u32 1 p1) - 1)))
     ·rw [if_pos c183] at H
      have hb_ : (decide ((bAnd .u64 (IntKind.u64.wrap (gt (0 : Int) p0 (0 : Int))) (IntKind.u64.wrap (IntKind.u32.wrap ((shlI .u32 1 p1) - 1)))) < (IntKind.u64.wrap (IntKind.u32.wrap ((shlI .u32 1 p1) - 1))))) = true := decide_eq_true c183
      try rw [hb_] at h182
      clear hb_
      refine wp_then h182 rfl ?_
      refine wp_seq ?_
      refine WL.start ?_
      refine WL.bl 5 5 h182 [(6, i6 0), (5, i6 1), (4, .int .u32 (IntKind.u32.wrap (bAnd .u64 (IntKind.u64.wrap (gt (0 : Int) p0 (0 : Int))) (IntKind.u64.wrap (IntKind.u32.wrap ((shlI .u32 1 p1) - 1)))))), (34, .int .u32 (IntKind.u32.wrap (bAnd .u64 (IntKind.u64.wrap (gt (0 : Int) p0 (0 : Int))) (IntKind.u64.wrap (IntKind.u32.wrap ((shlI .u32 1 p1) - 1)))))), (33, .int .u64 (bAnd .u64 (IntKind.u64.wrap (gt (0 : Int) p0 (0 : Int))) (IntKind.u64.wrap (IntKind.u32.wrap ((shlI .u32 1 p1) - 1)))))] (fun a184 h185 => ?_)
      refine WL.dn ?_
      refine wp_ret ?_
      obtain ⟨rfl, rfl, rfl⟩ := ret3 H
      repeat (first | with_reducible refine t1 ?_ | with_reducible refine t2 ?_ | with_reducible refine t3 ?_)
      refine bret (.tuple #[.int .u32 (IntKind.u32.wrap (bAnd .u64 (IntKind.u64.wrap (gt (0 : Int) p0 (0 : Int))) (IntKind.u64.wrap (IntKind.u32.wrap ((shlI .u32 1 p1) - 1))))), i6 1, i6 0]) h185 ?_
      exact ⟨rfl, hS173⟩
     ·rw [if_neg c183] at H
      have hb_ : (decide ((bAnd .u64 (IntKind.u64.wrap (gt (0 : Int) p0 (0 : Int))) (IntKind.u64.wrap (IntKind.u32.wrap ((shlI .u32 1 p1) - 1)))) < (IntKind.u64.wrap (IntKind.u32.wrap ((shlI .u32 1 p1) - 1))))) = false := decide_eq_false c183
      try rw [hb_] at h182
      clear hb_
      refine wp_else h182 rfl ?_
      refine wp_skip ?_
      refine wp_seq ?_
      refine wp_seq ?_
      refine WL.start ?_
      refine WL.bl 1 1 h182 [(35, .slice A0 p0.length c0)] (fun a186 h187 => ?_)
      clear h182 a181
      by_cases c188 : 1 ≤ (p0.length : Int)
      ·rw [if_pos c188] at H
       refine WL.oq h187 rfl ?_
       refine owp_rn (sliced A0 (1 : Int).toNat (p0.length : Int).toNat c0 1) h187 rfl (run_cut (l := 1) (h := (p0.length : Int)) rfl rfl Tryd.underlying22 (by kernel_rfl) ⟨_, rfl⟩ rfl (by first | assumption | omega) (by first | assumption | omega) (by have q_ := Rds.cap hp0; omega) (by have q_ := Rds.cap hp0; omega)) (fun a18a h18b => ?_)
       have hx189 := Rds.cut hp0 (l := (1 : Int).toNat) (h := (p0.length : Int).toNat) (by omega) (by omega)
       obtain ⟨v18c, ev18d⟩ : ∃ y_, y_ = sliced A0 (1 : Int).toNat (p0.length : Int).toNat c0 1 := ⟨_, rfl⟩
       have hx_ : Rds (kInt .u8) b w0 R v18c (p0.drop (1 : Int).toNat) := hx189.as_ ev18d.symm (by simp)
       rw [← ev18d] at h18b; clear ev18d hx189
       have hx189 := hx_; clear hx_
       obtain ⟨A18e, c18f, rfl⟩ := hx189.form
       refine WL.bl 2 4 h18b [(38, i6 0), (37, i6 ((p0.drop (1 : Int).toNat).length : Int))] (fun a18g h18h => ?_)
       refine WL.dn ?_
       refine wp_block ?_
       clear h187 a186 h18b a18a
       refine wp_loop_ghost (fun kq_ a_ W_ => ∃ (x18n : Int), ∃ (x18o : Int), Hd a_ 62 [(8, .int .u64 x18n), (36, .slice A18e (p0.drop (1 : Int).toNat).length c18f), (37, i6 ((p0.drop (1 : Int).toNat).length : Int)), (38, i6 x18o)] ∧ Asd (prefix_Get.l0 kq_ x18n x18o p0 = some (r0q, r1q, r2q)) ∧ Asd (kq_ ≤ k) ∧ Asd (St b w0 W_ R (Fs))) k ⟨bAnd .u64 (IntKind.u64.wrap (gt (0 : Int) p0 (0 : Int))) (IntKind.u64.wrap (IntKind.u32.wrap ((shlI .u32 1 p1) - 1))), 0, h18h.keep ⟨rfl, rfl, rfl, rfl, trivial⟩, ⟨H⟩, ⟨Nat.le_refl _⟩, ⟨hS173⟩⟩ ?_
       clear H hS173
       rintro kk18m a18j W18k ⟨x18n, x18o, h18i, ⟨H⟩, ⟨hkkk18m⟩, ⟨hS18l⟩⟩
       obtain _ | kk18p := kk18m
       ·exact absurd H (by simp [prefix_Get.l0])
       simp only [prefix_Get.l0] at H
       refine wp_seq ?_
       refine WL.start ?_
       refine WL.bl 1 1 h18i [(39, .bool (decide (x18o < ((p0.drop (1 : Int).toNat).length : Int))))] (fun a18q h18r => ?_)
       refine WL.dn ?_
       refine wp_seq ?_
       clear h18i a18j
       by_cases c18s : x18o < ((p0.drop (1 : Int).toNat).length : Int)
       ·rw [if_pos c18s] at H
        have hb_ : (decide (x18o < ((p0.drop (1 : Int).toNat).length : Int))) = true := decide_eq_true c18s
        try rw [hb_] at h18r
        clear hb_
        refine wp_then h18r rfl ?_
        refine wp_skip ?_
        refine wp_seq ?_
        refine wp_block ?_
        refine wp_seq ?_
        refine WL.start ?_
        refine WL.bl 1 1 h18r [(40, i6 x18o)] (fun a18t h18u => ?_)
        clear h18r a18q
        by_cases c18v : 0 ≤ x18o
        ·rw [if_pos c18v] at H
         have hi18y : 0 ≤ x18o := by first | assumption | omega
         have hi18z : x18o < ((p0.drop (1 : Int).toNat).length : Int) := by first | assumption | omega
         obtain ⟨ad18w, _, ha18x, -, -⟩ := Rds.elemAny hx189 hi18y (gt_get (z := (0 : Int)) hi18y hi18z)
         refine WL.oq h18u rfl ?_
         refine owp_rn (.pointer (some (ad18w.add (x18o.toNat * 1)))) h18u rfl (run_idx (ad := ad18w) (sz := 1) rfl (by rw [← ha18x]; rfl) rfl Tryd.underlying22 (by kernel_rfl) hi18y hi18z) (fun a190 h191 => ?_)
         obtain ⟨ad192, cs193, ha194, hr196, hc195⟩ := Rds.elemAny hx189 hi18y (gt_get (z := (0 : Int)) hi18y hi18z)
         rw [ha18x] at ha194; obtain rfl := Option.some.inj ha194
         obtain rfl : cs193 = [.int .u8 (gt (0 : Int) (p0.drop (1 : Int).toNat) x18o)] := hr196
         refine WL.oq h191 rfl ?_
         refine owp_rn (.int .u8 (gt (0 : Int) (p0.drop (1 : Int).toNat) x18o)) h191 rfl (run_load1 rfl rfl Tryd.underlying5 rfl (cell0 (hc195 _ (fun _ _ hk_ => hS18l.kn hk_)))) (fun a197 h198 => ?_)
         refine WL.bl 2 5 h198 [(10, .int .u8 (gt (0 : Int) (p0.drop (1 : Int).toNat) x18o)), (9, i6 x18o)] (fun a199 h19a => ?_)
         refine WL.dn ?_
         refine wp_seq ?_
         refine wp_seq ?_
         refine WL.start ?_
         refine WL.bl 2 2 h19a [(44, .bool (decide (x18o = 4))), (43, i6 x18o)] (fun a19b h19c => ?_)
         refine WL.dn ?_
         clear h18u a18t h191 a190 h198 a197 h19a a199
         by_cases c19d : x18o = 4
         ·rw [if_pos c19d] at H
          have hb_ : (decide (x18o = 4)) = true := decide_eq_true c19d
          try rw [hb_] at h19c
          clear hb_
          refine wp_then h19c rfl ?_
          refine wp_seq ?_
          refine WL.start ?_
          refine WL.bl 3 3 h19c [(6, i6 4), (5, i6 0), (4, .int .u32 0)] (fun a19e h19f => ?_)
          refine WL.dn ?_
          refine wp_ret ?_
          obtain ⟨rfl, rfl, rfl⟩ := ret3 H
          repeat (first | with_reducible refine t1 ?_ | with_reducible refine t2 ?_ | with_reducible refine t3 ?_)
          refine bret (.tuple #[.int .u32 0, i6 0, i6 4]) h19f ?_
          exact ⟨rfl, hS18l⟩
         ·rw [if_neg c19d] at H
          have hb_ : (decide (x18o = 4)) = false := decide_eq_false c19d
          try rw [hb_] at h19c
          clear hb_
          refine wp_else h19c rfl ?_
          refine wp_skip ?_
          refine wp_seq ?_
          refine WL.start ?_
          refine WL.bl 6 6 h19c [(50, i6 (IntKind.i64.wrap (7 * x18o))), (49, i6 x18o), (48, .int .u64 (IntKind.u64.wrap (bAnd .u8 (gt (0 : Int) (p0.drop (1 : Int).toNat) x18o) 127))), (47, .int .u8 (bAnd .u8 (gt (0 : Int) (p0.drop (1 : Int).toNat) x18o) 127)), (46, .int .u8 (gt (0 : Int) (p0.drop (1 : Int).toNat) x18o)), (45, .int .u64 x18n)] (fun a19g h19h => ?_)
          clear h19c a19b
          by_cases c19i : 0 ≤ (IntKind.i64.wrap (7 * x18o))
          ·rw [if_pos c19i] at H
           refine WL.oq h19h rfl ?_
           refine owp_rn (.int .u64 (shlI .u64 (IntKind.u64.wrap (bAnd .u8 (gt (0 : Int) (p0.drop (1 : Int).toNat) x18o) 127)) (IntKind.i64.wrap (7 * x18o)))) h19h rfl (run_shl rfl rfl rfl (by assumption)) (fun a19j h19k => ?_)
           refine WL.bl 2 9 h19k [(8, .int .u64 (IntKind.u64.wrap (x18n + (shlI .u64 (IntKind.u64.wrap (bAnd .u8 (gt (0 : Int) (p0.drop (1 : Int).toNat) x18o) 127)) (IntKind.i64.wrap (7 * x18o)))))), (52, .int .u64 (IntKind.u64.wrap (x18n + (shlI .u64 (IntKind.u64.wrap (bAnd .u8 (gt (0 : Int) (p0.drop (1 : Int).toNat) x18o) 127)) (IntKind.i64.wrap (7 * x18o))))))] (fun a19l h19m => ?_)
           refine WL.dn ?_
           refine wp_seq ?_
           refine WL.start ?_
           refine WL.bl 2 2 h19m [(54, .bool (decide ((gt (0 : Int) (p0.drop (1 : Int).toNat) x18o) < 128))), (53, .int .u8 (gt (0 : Int) (p0.drop (1 : Int).toNat) x18o))] (fun a19n h19o => ?_)
           refine WL.dn ?_
           clear h19h a19g h19k a19j h19m a19l
           by_cases c19p : (gt (0 : Int) (p0.drop (1 : Int).toNat) x18o) < 128
           ·rw [if_pos c19p] at H
            have hb_ : (decide ((gt (0 : Int) (p0.drop (1 : Int).toNat) x18o) < 128)) = true := decide_eq_true c19p
            try rw [hb_] at h19o
            clear hb_
            refine wp_then h19o rfl ?_
            refine wp_seq ?_
            refine wp_seq ?_
            refine WL.start ?_
            refine WL.bl 2 2 h19o [(56, .bool (decide ((IntKind.u64.wrap (x18n + (shlI .u64 (IntKind.u64.wrap (bAnd .u8 (gt (0 : Int) (p0.drop (1 : Int).toNat) x18o) 127)) (IntKind.i64.wrap (7 * x18o))))) > 268435456))), (55, .int .u64 (IntKind.u64.wrap (x18n + (shlI .u64 (IntKind.u64.wrap (bAnd .u8 (gt (0 : Int) (p0.drop (1 : Int).toNat) x18o) 127)) (IntKind.i64.wrap (7 * x18o))))))] (fun a19q h19r => ?_)
            refine WL.dn ?_
            clear h19o a19n
            by_cases c19s : (IntKind.u64.wrap (x18n + (shlI .u64 (IntKind.u64.wrap (bAnd .u8 (gt (0 : Int) (p0.drop (1 : Int).toNat) x18o) 127)) (IntKind.i64.wrap (7 * x18o))))) > 268435456
            ·rw [if_pos c19s] at H
             have hb_ : (decide ((IntKind.u64.wrap (x18n + (shlI .u64 (IntKind.u64.wrap (bAnd .u8 (gt (0 : Int) (p0.drop (1 : Int).toNat) x18o) 127)) (IntKind.i64.wrap (7 * x18o))))) > 268435456)) = true := decide_eq_true c19s
             try rw [hb_] at h19r
             clear hb_
             refine wp_then h19r rfl ?_
             refine wp_seq ?_
             refine WL.start ?_
             refine WL.bl 3 3 h19r [(6, i6 4), (5, i6 0), (4, .int .u32 0)] (fun a19t h19u => ?_)
             refine WL.dn ?_
             refine wp_ret ?_
             obtain ⟨rfl, rfl, rfl⟩ := ret3 H
             repeat (first | with_reducible refine t1 ?_ | with_reducible refine t2 ?_ | with_reducible refine t3 ?_)
             refine bret (.tuple #[.int .u32 0, i6 0, i6 4]) h19u ?_
             exact ⟨rfl, hS18l⟩
            ·rw [if_neg c19s] at H
             have hb_ : (decide ((IntKind.u64.wrap (x18n + (shlI .u64 (IntKind.u64.wrap (bAnd .u8 (gt (0 : Int) (p0.drop (1 : Int).toNat) x18o) 127)) (IntKind.i64.wrap (7 * x18o))))) > 268435456)) = false := decide_eq_false c19s
             try rw [hb_] at h19r
             clear hb_
             refine wp_else h19r rfl ?_
             refine wp_skip ?_
             refine wp_seq ?_
             refine WL.start ?_
             refine WL.bl 7 7 h19r [(6, i6 0), (5, i6 (IntKind.i64.wrap (x18o + 2))), (4, .int .u32 (IntKind.u32.wrap (IntKind.u64.wrap (x18n + (shlI .u64 (IntKind.u64.wrap (bAnd .u8 (gt (0 : Int) (p0.drop (1 : Int).toNat) x18o) 127)) (IntKind.i64.wrap (7 * x18o))))))), (60, i6 (IntKind.i64.wrap (x18o + 2))), (59, i6 x18o), (58, .int .u32 (IntKind.u32.wrap (IntKind.u64.wrap (x18n + (shlI .u64 (IntKind.u64.wrap (bAnd .u8 (gt (0 : Int) (p0.drop (1 : Int).toNat) x18o) 127)) (IntKind.i64.wrap (7 * x18o))))))), (57, .int .u64 (IntKind.u64.wrap (x18n + (shlI .u64 (IntKind.u64.wrap (bAnd .u8 (gt (0 : Int) (p0.drop (1 : Int).toNat) x18o) 127)) (IntKind.i64.wrap (7 * x18o))))))] (fun a19v h19w => ?_)
             refine WL.dn ?_
             refine wp_ret ?_
             obtain ⟨rfl, rfl, rfl⟩ := ret3 H
             repeat (first | with_reducible refine t1 ?_ | with_reducible refine t2 ?_ | with_reducible refine t3 ?_)
             refine bret (.tuple #[.int .u32 (IntKind.u32.wrap (IntKind.u64.wrap (x18n + (shlI .u64 (IntKind.u64.wrap (bAnd .u8 (gt (0 : Int) (p0.drop (1 : Int).toNat) x18o) 127)) (IntKind.i64.wrap (7 * x18o)))))), i6 (IntKind.i64.wrap (x18o + 2)), i6 0]) h19w ?_
             exact ⟨rfl, hS18l⟩
           ·rw [if_neg c19p] at H
            have hb_ : (decide ((gt (0 : Int) (p0.drop (1 : Int).toNat) x18o) < 128)) = false := decide_eq_false c19p
            try rw [hb_] at h19o
            clear hb_
            refine wp_else h19o rfl ?_
            refine wp_skip ?_
            refine WL.start ?_
            refine WL.bl 2 2 h19o [(38, i6 (IntKind.i64.wrap (x18o + 1))), (61, i6 (IntKind.i64.wrap (x18o + 1)))] (fun a19x h19y => ?_)
            refine WL.dn ?_
            exact ⟨kk18p, by omega, IntKind.u64.wrap (x18n + (shlI .u64 (IntKind.u64.wrap (bAnd .u8 (gt (0 : Int) (p0.drop (1 : Int).toNat) x18o) 127)) (IntKind.i64.wrap (7 * x18o)))), IntKind.i64.wrap (x18o + 1), h19y.keep ⟨rfl, rfl, rfl, rfl, trivial⟩, ⟨H⟩, ⟨by omega⟩, ⟨hS18l⟩⟩
          ·rw [if_neg c19i] at H
           cases H
        ·rw [if_neg c18v] at H
         cases H
       ·rw [if_neg c18s] at H
        have hb_ : (decide (x18o < ((p0.drop (1 : Int).toNat).length : Int))) = false := decide_eq_false c18s
        try rw [hb_] at h18r
        clear hb_
        refine wp_else h18r rfl ?_
        refine wp_exit ?_
        refine wp_seq ?_
        refine WL.start ?_
        refine WL.bl 3 3 h18r [(6, i6 2), (5, i6 0), (4, .int .u32 0)] (fun a19z h1a0 => ?_)
        refine WL.dn ?_
        refine wp_ret ?_
        obtain ⟨rfl, rfl, rfl⟩ := ret3 H
        repeat (first | with_reducible refine t1 ?_ | with_reducible refine t2 ?_ | with_reducible refine t3 ?_)
        refine bret (.tuple #[.int .u32 0, i6 0, i6 2]) h1a0 ?_
        exact ⟨rfl, hS18l⟩
      ·rw [if_neg c188] at H
       cases H
    ·rw [if_neg c17l] at H
     cases H
   ·rw [if_neg c17e] at H
    cases H
 ·rw [if_neg c176] at H
  have hb_ : r16x = false := (Bool.eq_false_iff.2 c176)
  try rw [hb_] at h175
  clear hb_
  refine wp_then h175 rfl ?_
  refine wp_seq ?_
  refine WL.start ?_
  refine WL.bl 3 3 h175 [(6, i6 1), (5, i6 0), (4, .int .u32 0)] (fun a1a1 h1a2 => ?_)
  refine WL.dn ?_
  refine wp_ret ?_
  obtain ⟨rfl, rfl, rfl⟩ := ret3 H
  repeat (first | with_reducible refine t1 ?_ | with_reducible refine t2 ?_ | with_reducible refine t3 ?_)
  refine bret (.tuple #[.int .u32 0, i6 0, i6 1]) h1a2 ?_
  exact ⟨rfl, hS173⟩

structure S66 where
 f0 : S79
 f1 : (List Int)
 f2 : Bool
 deriving DecidableEq
def z66 : S66 := ⟨z79, [], false⟩
def k66 (g_ : Nat) : Kd S66 := kIso (kPair (kAtPtr g_ k79 79) (kPair (kRds (kInt .u8)) kBool)) (fun x : S66 => (x.f0, (x.f1, x.f2)))
theorem k66qrep {g_ : Nat} {b : Nat} {w0 : World} {R : Frag} {x : S66} {cs : List Value} {M : Frag} (h : (k66 g_).rep b w0 R x cs M) : ∃ (vf0 : Value) (vf1 : Value), ∃ (Mvf0 : Frag), cs = [vf0, vf1, .bool x.f2] ∧ M = Mvf0 ∧ PtrAt g_ k79 79 b w0 R vf0 x.f0 Mvf0 ∧ Rds (kInt .u8) b w0 R vf1 x.f1 := by
 obtain ⟨c100, c101, M104, M105, rfl, rfl, h102, h103⟩ := h
 obtain ⟨c106, c107, M10a, M10b, rfl, rfl, h108, h109⟩ := h103
 obtain ⟨v10c, rfl, g10d⟩ := h102
 obtain ⟨⟨v10e, rfl, g10f⟩, rfl⟩ := h108
 obtain ⟨rfl, rfl⟩ := h109
 exact ⟨v10c, v10e, _, rfl, by simp, g10d, g10f⟩
theorem k66qmk {g_ : Nat} {b : Nat} {w0 : World} {R : Frag} {x : S66} {vf0 : Value} {Mvf0 : Frag} (gvf0 : PtrAt g_ k79 79 b w0 R vf0 x.f0 Mvf0) {vf1 : Value} (gvf1 : Rds (kInt .u8) b w0 R vf1 x.f1) : ∃ M, (k66 g_).rep b w0 R x [vf0, vf1, .bool x.f2] M ∧ M = Mvf0 := ⟨_, ⟨_, _, _, _, rfl, rfl, ⟨vf0, rfl, gvf0⟩, ⟨_, _, _, _, rfl, rfl, ⟨⟨vf1, rfl, gvf1⟩, rfl⟩, ⟨rfl, rfl⟩⟩⟩, by simp⟩
theorem k66qop {g_ : Nat} {b : Nat} {w0 W : World} {R : Frag} {Ms : List Frag} {v : Value} {M : Frag} {y0 : S79} {y1 : (List Int)} {y2 : Bool} (h : Ptr (k66 g_) 66 b w0 R v (⟨y0, y1, y2⟩ : S66) M) (hS : St b w0 W R (M :: Ms)) : ∃ (g : Nat) (A1 : Option Addr) (c1 : Nat) (M0 : Frag), v = (pt g) ∧ Ptr k79 79 b w0 R (pt g_) y0 M0 ∧ Rds (kInt .u8) b w0 R (.slice A1 y1.length c1) y1 ∧ St b w0 W R ((bx g 66 [(pt g_), .slice A1 y1.length c1, .bool y2]) :: M0 :: Ms) := by
 obtain ⟨g, cs, Mx, rfl, rfl, hr⟩ := h
 obtain ⟨v0, v1, M0, rfl, hM2q, h0, h1⟩ := k66qrep hr
 rw [hM2q] at hS
 obtain ⟨h0, rfl⟩ := h0
 obtain ⟨A1, c1, rfl⟩ := h1.form
 exact ⟨g, A1, c1, M0, rfl, h0, h1, hS.assoc (by simp only [List.flatten_cons, List.append_assoc, List.cons_append, List.nil_append, List.append_nil])⟩
theorem k66qoq {g_ : Nat} {b : Nat} {w0 W : World} {R : Frag} {Ms : List Frag} {g : Nat} {M : Frag} {y0 : S79} {y1 : (List Int)} {y2 : Bool} (h : Ptr (k66 g_) 66 b w0 R (pt g) (⟨y0, y1, y2⟩ : S66) M) (hS : St b w0 W R (M :: Ms)) : ∃ (A1 : Option Addr) (c1 : Nat) (M0 : Frag), Ptr k79 79 b w0 R (pt g_) y0 M0 ∧ Rds (kInt .u8) b w0 R (.slice A1 y1.length c1) y1 ∧ St b w0 W R ((bx g 66 [(pt g_), .slice A1 y1.length c1, .bool y2]) :: M0 :: Ms) := by
 obtain ⟨g', A1, c1, M0, hv, h0, h1, hS'⟩ := k66qop h hS
 obtain rfl : g = g' := by simpa using hv
 exact ⟨A1, c1, M0, h0, h1, hS'⟩
theorem k66qfo {g_ : Nat} {b : Nat} {w0 W : World} {R : Frag} {Ms : List Frag} {g : Nat} {y0 : S79} {y1 : (List Int)} {y2 : Bool} {A1 : Option Addr} {c1 : Nat} {M0 : Frag} (x : S66) (h0 : Ptr k79 79 b w0 R (pt g_) y0 M0) (h1 : Rds (kInt .u8) b w0 R (.slice A1 y1.length c1) y1) (hS : St b w0 W R ((bx g 66 [(pt g_), .slice A1 y1.length c1, .bool y2]) :: M0 :: Ms)) (hx : x = (⟨y0, y1, y2⟩ : S66) := by rfl) : ∃ M, Ptr (k66 g_) 66 b w0 R (pt g) x M ∧ St b w0 W R (M :: Ms) := by
 subst hx
 obtain ⟨M, hr, hM⟩ := k66qmk (b := b) (w0 := w0) (R := R) (x := (⟨y0, y1, y2⟩ : S66)) (g_ := g_) (gvf0 := ⟨h0, rfl⟩) (gvf1 := h1)
 exact ⟨_, ⟨g, _, M, rfl, rfl, hr⟩, hS.assoc (by rw [hM]; simp only [List.flatten_cons, List.append_assoc, List.cons_append, List.nil_append, List.append_nil])⟩
/-! ### (*louver/hpack.reader).number -/
def hpack_reader_number.f (k : Nat) (p0 : S66) (p1 : Int) : Option (Int × S66) := bnd3 (prefix_Get.f k p0.f1 p1) fun r14i r14j r14k => (if r14k = 0 then (if 0 ≤ r14j then (if r14j ≤ (p0.f1.length : Int) then (some (IntKind.i64.wrap r14i, (⟨p0.f0, p0.f1.drop r14j.toNat, p0.f2⟩ : S66))) else (none)) else (none)) else (some (0, (⟨p0.f0, ([] : List Int), true⟩ : S66))))
set_option maxHeartbeats 20000000 in
set_option maxRecDepth 100000 in
theorem hpack_reader_number.calls (k : Nat) {b : Nat} {w0 W : World} {R : Frag} {Fs : List Frag} {p0 : S66} {p1 : Int}  {v0 : Value} {M0 : Frag} {gp0 : Nat} {r0q : Int} {r1q : S66} (hp0 : Ptr (k66 gp0) 66 b w0 R v0 p0 M0) (H : hpack_reader_number.f k p0 p1 = some (r0q, r1q)) (hS : St b w0 W R (M0 :: Fs)) :
  Calls Tryd.prog 37 ([v0, i6 p1] : List Value).toArray W (fun e W' => ∃ (O0q : Frag), e = .returned (i6 r0q) ∧ Ptr (k66 gp0) 66 b w0 R v0 r1q O0q ∧ St b w0 W' R (O0q :: Fs)) := by
 unfold hpack_reader_number.f at H
 refine calls_enter Tryd.func37 rfl 37 rfl (by kernel_rfl) (fun a h => ?_)
 refine wp_seq ?_
 refine WL.start ?_
 refine WL.bl 1 1 h [(4, i6 0)] (fun a140 h141 => ?_)
 refine WL.dn ?_
 refine wp_seq ?_
 refine WL.start ?_
 refine WL.bl 1 1 h141 [(9, v0)] (fun a142 h143 => ?_)
 obtain ⟨g145, A148, c149, M146, rfl, hr147, hr14a, hS144⟩ := k66qop hp0 hS
 refine WL.bl 2 3 h143 [(11, .pointer (some ⟨g145, 1, none⟩)), (10, pt g145)] (fun a14b h14c => ?_)
 refine WL.oq h14c rfl ?_
 refine owp_rn (.slice A148 p0.f1.length c149) h14c rfl (run_load1 rfl rfl Tryd.underlying22 rfl (hS144.cell (i := 1) rfl)) (fun a14d h14e => ?_)
 refine WL.bl 1 5 h14e [(13, i6 p1)] (fun a14f h14g => ?_)
 obtain ⟨r14i, r14j, r14k, A14h, H⟩ := bind3 H
 refine WL.oq h14g rfl ?_
 refine owp_call [.slice A148 p0.f1.length c149, i6 p1] h14g rfl (by kernel_rfl) rfl Tryd.func53 (by kernel_rfl) rfl (by kernel_rfl) (prefix_Get.calls k hr14a A14h hS144) (fun e14m W14l hp14n => ?_)
 obtain ⟨rfl, hS14q⟩ := hp14n
 refine ⟨_, rfl, fun a14o h14p => ?_⟩
 refine WL.bl 7 13 h14p [(7, i6 r14k), (6, i6 r14j), (5, .int .u32 r14i), (17, i6 r14k), (16, i6 r14j), (15, .int .u32 r14i), (8, .tuple #[.int .u32 r14i, i6 r14j, i6 r14k])] (fun a14r h14s => ?_)
 refine WL.dn ?_
 refine wp_seq ?_
 refine wp_seq ?_
 refine WL.start ?_
 refine WL.bl 2 2 h14s [(19, .bool (!decide (r14k = 0))), (18, i6 r14k)] (fun a14t h14u => ?_)
 refine WL.dn ?_
 clear h141 a140 h143 a142 h14c a14b h14e a14d h14g a14f h14p a14o h14s a14r
 by_cases c14v : r14k = 0
 ·rw [if_pos c14v] at H
  have hb_ : (decide (r14k = 0)) = true := decide_eq_true c14v
  try rw [hb_] at h14u
  clear hb_
  refine wp_else h14u rfl ?_
  refine wp_skip ?_
  refine wp_seq ?_
  refine WL.start ?_
  refine WL.bl 4 4 h14u [(29, .pointer (some ⟨g145, 1, none⟩)), (28, pt g145), (27, pt g145), (26, pt g145)] (fun a14w h14x => ?_)
  refine WL.oq h14x rfl ?_
  refine owp_rn (.slice A148 p0.f1.length c149) h14x rfl (run_load1 rfl rfl Tryd.underlying22 rfl (hS14q.cell (i := 1) rfl)) (fun a14y h14z => ?_)
  refine WL.bl 1 6 h14z [(31, i6 r14j)] (fun a150 h151 => ?_)
  clear h14u a14t h14x a14w h14z a14y
  by_cases c152 : 0 ≤ r14j
  ·rw [if_pos c152] at H
   by_cases c153 : r14j ≤ (p0.f1.length : Int)
   ·rw [if_pos c153] at H
    refine WL.oq h151 rfl ?_
    refine owp_rn (sliced A148 r14j.toNat (p0.f1.length : Int).toNat c149 1) h151 rfl (run_cut (l := r14j) (h := (p0.f1.length : Int)) rfl rfl Tryd.underlying22 (by kernel_rfl) ⟨_, rfl⟩ rfl (by first | assumption | omega) (by first | assumption | omega) (by have q_ := Rds.cap hr14a; omega) (by have q_ := Rds.cap hr14a; omega)) (fun a155 h156 => ?_)
    have hx154 := Rds.cut hr14a (l := r14j.toNat) (h := (p0.f1.length : Int).toNat) (by omega) (by omega)
    obtain ⟨v157, ev158⟩ : ∃ y_, y_ = sliced A148 r14j.toNat (p0.f1.length : Int).toNat c149 1 := ⟨_, rfl⟩
    have hx_ : Rds (kInt .u8) b w0 R v157 (p0.f1.drop r14j.toNat) := hx154.as_ ev158.symm (by simp)
    rw [← ev158] at h156; clear ev158 hx154
    have hx154 := hx_; clear hx_
    obtain ⟨A159, c15a, rfl⟩ := hx154.form
    refine WL.bl 2 9 h156 [(34, .pointer (some ⟨g145, 1, none⟩)), (33, pt g145)] (fun a15b h15c => ?_)
    refine WL.oq h15c rfl ?_
    refine owp_st 1 [.slice A159 (p0.f1.drop r14j.toNat).length c15a] h15c rfl rfl rfl hS14q [(pt gp0), .slice A159 (p0.f1.drop r14j.toNat).length c15a, .bool p0.f2] (fun a15d W15f h15e hS15g => ?_)
    refine WL.dn ?_
    refine wp_seq ?_
    refine WL.start ?_
    refine WL.bl 3 3 h15e [(4, i6 (IntKind.i64.wrap r14i)), (36, i6 (IntKind.i64.wrap r14i)), (35, .int .u32 r14i)] (fun a15h h15i => ?_)
    refine WL.dn ?_
    refine wp_ret ?_
    have hS15j := hS15g.b1
    have hS15k := hS15j.b1
    obtain ⟨M15l, hp15m, hS15n⟩ := k66qfo (⟨p0.f0, p0.f1.drop r14j.toNat, p0.f2⟩ : S66) hr147 hx154 hS15k
    obtain ⟨rfl, rfl⟩ := ret2 H
    repeat (first | with_reducible refine t1 ?_ | with_reducible refine t2 ?_ | with_reducible refine t3 ?_)
    refine bret (i6 (IntKind.i64.wrap r14i)) h15i ?_
    exact ⟨M15l, rfl, hp15m, hS15n⟩
   ·rw [if_neg c153] at H
    cases H
  ·rw [if_neg c152] at H
   cases H
 ·rw [if_neg c14v] at H
  have hb_ : (decide (r14k = 0)) = false := decide_eq_false c14v
  try rw [hb_] at h14u
  clear hb_
  refine wp_then h14u rfl ?_
  refine wp_seq ?_
  refine WL.start ?_
  refine WL.bl 3 3 h14u [(22, .pointer (some ⟨g145, 2, none⟩)), (21, pt g145), (20, pt g145)] (fun a15o h15p => ?_)
  refine WL.oq h15p rfl ?_
  refine owp_st 2 [.bool true] h15p rfl rfl rfl hS14q [(pt gp0), .slice A148 p0.f1.length c149, .bool true] (fun a15q W15s h15r hS15t => ?_)
  refine WL.dn ?_
  refine wp_seq ?_
  refine WL.start ?_
  refine WL.bl 3 3 h15r [(25, .pointer (some ⟨g145, 1, none⟩)), (24, pt g145), (23, pt g145)] (fun a15u h15v => ?_)
  refine WL.oq h15v rfl ?_
  refine owp_st 1 [.slice none 0 0] h15v rfl rfl rfl hS15t [(pt gp0), .slice none 0 0, .bool true] (fun a15w W15y h15x hS15z => ?_)
  refine WL.dn ?_
  refine wp_seq ?_
  refine WL.start ?_
  refine WL.bl 1 1 h15x [(4, i6 0)] (fun a160 h161 => ?_)
  refine WL.dn ?_
  refine wp_ret ?_
  have hS162 := hS15z.b1
  have hS163 := hS162.b1
  obtain ⟨M164, hp165, hS166⟩ := k66qfo (⟨p0.f0, ([] : List Int), true⟩ : S66) (y1 := []) hr147 Rds.nil hS163
  obtain ⟨rfl, rfl⟩ := ret2 H
  repeat (first | with_reducible refine t1 ?_ | with_reducible refine t2 ?_ | with_reducible refine t3 ?_)
  refine bret (i6 0) h161 ?_
  exact ⟨M164, rfl, hp165, hS166⟩

/-! ### louver/statics.At -/
def statics_At.f (p0 : Int) : Option (S52 × Bool) := if p0 < 1 then (some ((⟨([] : List UInt8), ([] : List UInt8), false⟩ : S52), false)) else (if p0 > 61 then (some ((⟨([] : List UInt8), ([] : List UInt8), false⟩ : S52), false)) else (if 0 ≤ (IntKind.i64.wrap (p0 - 1)) then (if (IntKind.i64.wrap (p0 - 1)) < (61 : Int) then (some ((⟨(gt z52 G0 (IntKind.i64.wrap (p0 - 1))).f0, (gt z52 G0 (IntKind.i64.wrap (p0 - 1))).f1, (gt z52 G0 (IntKind.i64.wrap (p0 - 1))).f2⟩ : S52), true)) else (none)) else (none)))
set_option maxHeartbeats 20000000 in
set_option maxRecDepth 100000 in
theorem statics_At.calls {b : Nat} {w0 W : World} {R : Frag} {Fs : List Frag} {p0 : Int}  {r0q : S52} {r1q : Bool} (hg0 : Rds k52 b w0 [] (.slice (some ⟨0, 0, none⟩) 61 61) G0) (H : statics_At.f p0 = some (r0q, r1q)) (hS : St b w0 W R (Fs)) :
  Calls Tryd.prog 50 ([i6 p0] : List Value).toArray W (fun e W' => e = .returned (.tuple #[.agg #[.string (mkS r0q.f0), .string (mkS r0q.f1), .bool r0q.f2], .bool r1q]) ∧ St b w0 W' R (Fs)) := by
 unfold statics_At.f at H
 refine calls_enter Tryd.func50 rfl 15 rfl (by kernel_rfl) (fun a h => ?_)
 refine wp_seq ?_
 refine WL.start ?_
 refine WL.oq h rfl ?_
 refine owp_nw (fun g_ => (pt g_)) (.cells ([.string (mkS []), .string (mkS []), .bool false] : List Value).toArray 52 (0, 0)) h rfl hS (fun a11t W11v g11w h11u hS11x => ?_)
 refine WL.bl 1 2 h11u [(3, .bool false)] (fun a11y h11z => ?_)
 refine WL.dn ?_
 refine wp_seq ?_
 refine wp_seq ?_
 refine WL.start ?_
 refine WL.bl 3 3 h11z [(6, .bool (decide (p0 < 1))), (5, .bool (decide (p0 < 1))), (4, i6 p0)] (fun a120 h121 => ?_)
 clear h11u a11t h11z a11y
 by_cases c122 : p0 < 1
 ·rw [if_pos c122] at H
  have hb_ : (decide (p0 < 1)) = true := decide_eq_true c122
  try rw [hb_] at h121
  clear hb_
  refine WL.sk h121 rfl rfl (fun a123 h124 => ?_)
  refine WL.sk h124 rfl rfl (fun a125 h126 => ?_)
  refine WL.bl 1 6 h126 [(9, .bool true)] (fun a127 h128 => ?_)
  refine WL.dn ?_
  refine wp_then h128 rfl ?_
  refine wp_seq ?_
  refine WL.start ?_
  refine WL.bl 1 1 h128 [(10, .agg #[.string (mkS []), .string (mkS []), .bool false])] (fun a129 h12a => ?_)
  refine WL.oq h12a rfl ?_
  refine owp_st 0 [.string (mkS []), .string (mkS []), .bool false] h12a rfl rfl rfl hS11x [.string (mkS []), .string (mkS []), .bool false] (fun a12b W12d h12c hS12e => ?_)
  refine WL.bl 1 3 h12c [(3, .bool false)] (fun a12f h12g => ?_)
  refine WL.dn ?_
  refine wp_ret ?_
  have hS12h := hS12e.drop_
  obtain ⟨rfl, rfl⟩ := ret2 H
  repeat (first | with_reducible refine t1 ?_ | with_reducible refine t2 ?_ | with_reducible refine t3 ?_)
  refine body_ret (v := .tuple #[.agg #[.string (mkS []), .string (mkS []), .bool false], .bool false]) h12g (by kernel_rfl) (res_many (xs := [ResultVar.cell 2 52, ResultVar.tmp 3]) rfl ⟨⟨_, rfl, loadVarN Tryd.underlying52 rfl (cs := [.string (mkS []), .string (mkS []), .bool false]) (by kernel_rfl) (hS12e.cells (vs := [.string (mkS []), .string (mkS []), .bool false]) rfl)⟩, rfl, trivial⟩ rfl) ?_
  exact ⟨rfl, hS12h⟩
 ·rw [if_neg c122] at H
  have hb_ : (decide (p0 < 1)) = false := decide_eq_false c122
  try rw [hb_] at h121
  clear hb_
  refine WL.oq h121 rfl (owp_rk (i6 p0) h121 rfl (fun a12i h12j => ?_))
  refine WL.oq h12j rfl (owp_rk (.bool (decide (p0 > 61))) h12j rfl (fun a12k h12l => ?_))
  refine WL.bl 1 6 h12l [(9, .bool (decide (p0 > 61)))] (fun a12m h12n => ?_)
  refine WL.dn ?_
  clear h121 a120 h12j a12i h12l a12k
  by_cases c12o : p0 > 61
  ·rw [if_pos c12o] at H
   have hb_ : (decide (p0 > 61)) = true := decide_eq_true c12o
   try rw [hb_] at h12n
   clear hb_
   refine wp_then h12n rfl ?_
   refine wp_seq ?_
   refine WL.start ?_
   refine WL.bl 1 1 h12n [(10, .agg #[.string (mkS []), .string (mkS []), .bool false])] (fun a12p h12q => ?_)
   refine WL.oq h12q rfl ?_
   refine owp_st 0 [.string (mkS []), .string (mkS []), .bool false] h12q rfl rfl rfl hS11x [.string (mkS []), .string (mkS []), .bool false] (fun a12r W12t h12s hS12u => ?_)
   refine WL.bl 1 3 h12s [(3, .bool false)] (fun a12v h12w => ?_)
   refine WL.dn ?_
   refine wp_ret ?_
   have hS12x := hS12u.drop_
   obtain ⟨rfl, rfl⟩ := ret2 H
   repeat (first | with_reducible refine t1 ?_ | with_reducible refine t2 ?_ | with_reducible refine t3 ?_)
   refine body_ret (v := .tuple #[.agg #[.string (mkS []), .string (mkS []), .bool false], .bool false]) h12w (by kernel_rfl) (res_many (xs := [ResultVar.cell 2 52, ResultVar.tmp 3]) rfl ⟨⟨_, rfl, loadVarN Tryd.underlying52 rfl (cs := [.string (mkS []), .string (mkS []), .bool false]) (by kernel_rfl) (hS12u.cells (vs := [.string (mkS []), .string (mkS []), .bool false]) rfl)⟩, rfl, trivial⟩ rfl) ?_
   exact ⟨rfl, hS12x⟩
  ·rw [if_neg c12o] at H
   have hb_ : (decide (p0 > 61)) = false := decide_eq_false c12o
   try rw [hb_] at h12n
   clear hb_
   refine wp_else h12n rfl ?_
   refine wp_skip ?_
   refine wp_seq ?_
   refine WL.start ?_
   refine WL.bl 2 2 h12n [(12, i6 (IntKind.i64.wrap (p0 - 1))), (11, i6 p0)] (fun a12y h12z => ?_)
   clear h12n a12m
   by_cases c130 : 0 ≤ (IntKind.i64.wrap (p0 - 1))
   ·rw [if_pos c130] at H
    by_cases c131 : (IntKind.i64.wrap (p0 - 1)) < (61 : Int)
    ·rw [if_pos c131] at H
     have hx132 : Rds k52 b w0 R (.slice (some ⟨0, 0, none⟩) 61 61) G0 := Rds.mono (fun _ h_ => by cases h_) hg0
     have hi133 : 0 ≤ (IntKind.i64.wrap (p0 - 1)) := by first | assumption | omega
     have hi135 : (IntKind.i64.wrap (p0 - 1)) < ((61 : Nat) : Int) := by omega
     have hi134 : (IntKind.i64.wrap (p0 - 1)) < (G0.length : Int) := by rw [G0qlen]; exact hi135
     refine WL.oq h12z rfl ?_
     refine owp_rn (.pointer (some ((⟨0, 0, none⟩ : Addr).add ((IntKind.i64.wrap (p0 - 1)).toNat * 3)))) h12z rfl (run_idxarr (ad := ⟨0, 0, none⟩) (sz := 3) rfl rfl rfl Tryd.underlying106 (by kernel_rfl) hi133 hi135) (fun a136 h137 => ?_)
     obtain ⟨ad138, cs139, ha13a, hr13c, hc13b⟩ := Rds.elemAny hx132 hi133 (gt_get (z := z52) hi133 hi134)
     obtain rfl := Option.some.inj ha13a
     obtain rfl := k52qrd hr13c
     refine WL.oq h137 rfl ?_
     refine owp_rn (.agg #[.string (mkS ((gt z52 G0 (IntKind.i64.wrap (p0 - 1))).f0)), .string (mkS ((gt z52 G0 (IntKind.i64.wrap (p0 - 1))).f1)), .bool ((gt z52 G0 (IntKind.i64.wrap (p0 - 1))).f2)]) h137 rfl (run_loadN rfl rfl Tryd.underlying52 rfl (cs := [.string (mkS ((gt z52 G0 (IntKind.i64.wrap (p0 - 1))).f0)), .string (mkS ((gt z52 G0 (IntKind.i64.wrap (p0 - 1))).f1)), .bool ((gt z52 G0 (IntKind.i64.wrap (p0 - 1))).f2)]) (by kernel_rfl) (hc13b _ (fun _ _ hk_ => hS11x.kn hk_))) (fun a13d h13e => ?_)
     refine WL.oq h13e rfl ?_
     refine owp_st 0 [.string (mkS ((gt z52 G0 (IntKind.i64.wrap (p0 - 1))).f0)), .string (mkS ((gt z52 G0 (IntKind.i64.wrap (p0 - 1))).f1)), .bool ((gt z52 G0 (IntKind.i64.wrap (p0 - 1))).f2)] h13e rfl rfl rfl hS11x [.string (mkS ((gt z52 G0 (IntKind.i64.wrap (p0 - 1))).f0)), .string (mkS ((gt z52 G0 (IntKind.i64.wrap (p0 - 1))).f1)), .bool ((gt z52 G0 (IntKind.i64.wrap (p0 - 1))).f2)] (fun a13f W13h h13g hS13i => ?_)
     refine WL.bl 1 6 h13g [(3, .bool true)] (fun a13j h13k => ?_)
     refine WL.dn ?_
     refine wp_ret ?_
     have hS13l := hS13i.drop_
     obtain ⟨rfl, rfl⟩ := ret2 H
     repeat (first | with_reducible refine t1 ?_ | with_reducible refine t2 ?_ | with_reducible refine t3 ?_)
     refine body_ret (v := .tuple #[.agg #[.string (mkS ((gt z52 G0 (IntKind.i64.wrap (p0 - 1))).f0)), .string (mkS ((gt z52 G0 (IntKind.i64.wrap (p0 - 1))).f1)), .bool ((gt z52 G0 (IntKind.i64.wrap (p0 - 1))).f2)], .bool true]) h13k (by kernel_rfl) (res_many (xs := [ResultVar.cell 2 52, ResultVar.tmp 3]) rfl ⟨⟨_, rfl, loadVarN Tryd.underlying52 rfl (cs := [.string (mkS ((gt z52 G0 (IntKind.i64.wrap (p0 - 1))).f0)), .string (mkS ((gt z52 G0 (IntKind.i64.wrap (p0 - 1))).f1)), .bool ((gt z52 G0 (IntKind.i64.wrap (p0 - 1))).f2)]) (by kernel_rfl) (hS13i.cells (vs := [.string (mkS ((gt z52 G0 (IntKind.i64.wrap (p0 - 1))).f0)), .string (mkS ((gt z52 G0 (IntKind.i64.wrap (p0 - 1))).f1)), .bool ((gt z52 G0 (IntKind.i64.wrap (p0 - 1))).f2)]) rfl)⟩, rfl, trivial⟩ rfl) ?_
     exact ⟨rfl, hS13l⟩
    ·rw [if_neg c131] at H
     cases H
   ·rw [if_neg c130] at H
    cases H

/-! ### (*louver/dyntable.Table).Len -/
def dyntable_Table_Len.f (p0 : S79) : Option (Int) := some (p0.f0.length : Int)
set_option maxHeartbeats 20000000 in
set_option maxRecDepth 100000 in
theorem dyntable_Table_Len.calls {b : Nat} {w0 W : World} {R : Frag} {Fs : List Frag} {p0 : S79}  {v0 : Value} {M0 : Frag} {r0q : Int} (hp0 : Ptr k79 79 b w0 R v0 p0 M0) (H : dyntable_Table_Len.f p0 = some r0q) (hS : St b w0 W R (M0 :: Fs)) :
  Calls Tryd.prog 52 ([v0] : List Value).toArray W (fun e W' => ∃ (O0q : Frag), e = .returned (i6 r0q) ∧ Ptr k79 79 b w0 R v0 p0 O0q ∧ St b w0 W' R (O0q :: Fs)) := by
 unfold dyntable_Table_Len.f at H
 refine calls_enter Tryd.func52 rfl 10 rfl (by kernel_rfl) (fun a h => ?_)
 refine wp_seq ?_
 refine WL.start ?_
 refine WL.bl 1 1 h [(2, i6 0)] (fun a10n h10o => ?_)
 refine WL.dn ?_
 refine wp_seq ?_
 refine wp_seq ?_
 refine WL.start ?_
 refine WL.bl 1 1 h10o [(3, v0)] (fun a10p h10q => ?_)
 obtain ⟨g10s, A10t, c10u, M10v, rfl, hr10w, hS10r⟩ := k79qop hp0 hS
 refine WL.bl 1 2 h10q [(4, .bool false)] (fun a10x h10y => ?_)
 refine WL.dn ?_
 refine wp_else h10y rfl ?_
 refine wp_skip ?_
 refine wp_seq ?_
 refine WL.start ?_
 refine WL.bl 3 3 h10y [(7, pt g10s), (6, pt g10s), (5, pt g10s)] (fun a10z h110 => ?_)
 refine WL.oq h110 rfl ?_
 refine owp_rn (.slice A10t p0.f0.length c10u) h110 rfl (run_load1 rfl rfl Tryd.underlying23 rfl (hS10r.cell (i := 0) rfl)) (fun a111 h112 => ?_)
 refine WL.bl 2 6 h112 [(2, i6 (p0.f0.length : Int)), (9, i6 (p0.f0.length : Int))] (fun a113 h114 => ?_)
 refine WL.dn ?_
 refine wp_ret ?_
 have hS115 := hS10r.b1
 have hS116 := hS115.b1
 obtain ⟨M117, hp118, hS119⟩ := k79qfo p0 hr10w hS116
 obtain rfl := Option.some.inj H
 repeat (first | with_reducible refine t1 ?_ | with_reducible refine t2 ?_ | with_reducible refine t3 ?_)
 refine bret (i6 (p0.f0.length : Int)) h114 ?_
 exact ⟨M117, rfl, hp118, hS119⟩

/-! ### (*louver/dyntable.Table).At -/
def dyntable_Table_At.f (p0 : S79) (p1 : Int) : Option (S52 × Bool) := bnd2 (statics_At.f p1) fun r19v r19w => (if r19w = true then (some ((⟨r19v.f0, r19v.f1, r19v.f2⟩ : S52), true)) else (bnd1 (statics_Len.f) fun r1ax => (if p1 ≤ r1ax then (some ((⟨([] : List UInt8), ([] : List UInt8), false⟩ : S52), false)) else (bnd1 (statics_Len.f) fun r1bz => (bnd1 (dyntable_Table_Len.f p0) fun r1cc => (if (IntKind.i64.wrap (p1 - r1bz)) > r1cc then (some ((⟨([] : List UInt8), ([] : List UInt8), false⟩ : S52), false)) else (bnd1 (statics_Len.f) fun r1hw => (if 0 ≤ (IntKind.i64.wrap ((p0.f0.length : Int) - (IntKind.i64.wrap (p1 - r1hw)))) then (if (IntKind.i64.wrap ((p0.f0.length : Int) - (IntKind.i64.wrap (p1 - r1hw)))) < (p0.f0.length : Int) then (some ((⟨(gt z52 p0.f0 (IntKind.i64.wrap ((p0.f0.length : Int) - (IntKind.i64.wrap (p1 - r1hw))))).f0, (gt z52 p0.f0 (IntKind.i64.wrap ((p0.f0.length : Int) - (IntKind.i64.wrap (p1 - r1hw))))).f1, (gt z52 p0.f0 (IntKind.i64.wrap ((p0.f0.length : Int) - (IntKind.i64.wrap (p1 - r1hw))))).f2⟩ : S52), true)) else (none)) else (none)))))))))
set_option maxHeartbeats 20000000 in
set_option maxRecDepth 100000 in
theorem dyntable_Table_At.calls {b : Nat} {w0 W : World} {R : Frag} {Fs : List Frag} {p0 : S79} {p1 : Int}  {v0 : Value} {M0 : Frag} {r0q : S52} {r1q : Bool} (hp0 : Ptr k79 79 b w0 R v0 p0 M0) (hg0 : Rds k52 b w0 [] (.slice (some ⟨0, 0, none⟩) 61 61) G0) (H : dyntable_Table_At.f p0 p1 = some (r0q, r1q)) (hS : St b w0 W R (M0 :: Fs)) :
  Calls Tryd.prog 36 ([v0, i6 p1] : List Value).toArray W (fun e W' => ∃ (O0q : Frag), e = .returned (.tuple #[.agg #[.string (mkS r0q.f0), .string (mkS r0q.f1), .bool r0q.f2], .bool r1q]) ∧ Ptr k79 79 b w0 R v0 p0 O0q ∧ St b w0 W' R (O0q :: Fs)) := by
 unfold dyntable_Table_At.f at H
 refine calls_enter Tryd.func36 rfl 42 rfl (by kernel_rfl) (fun a h => ?_)
 refine wp_seq ?_
 refine WL.start ?_
 refine WL.oq h rfl ?_
 refine owp_nw (fun g_ => (pt g_)) (.cells ([.string (mkS []), .string (mkS []), .bool false] : List Value).toArray 52 (0, 0)) h rfl hS (fun a19l W19n g19o h19m hS19p => ?_)
 refine WL.bl 1 2 h19m [(5, .bool false)] (fun a19q h19r => ?_)
 refine WL.dn ?_
 refine wp_seq ?_
 refine wp_seq ?_
 refine WL.start ?_
 refine WL.bl 1 1 h19r [(9, i6 p1)] (fun a19s h19t => ?_)
 obtain ⟨r19v, r19w, A19u, H⟩ := bind2 H
 refine WL.oq h19t rfl ?_
 refine owp_call [i6 p1] h19t rfl (by kernel_rfl) rfl Tryd.func50 (by kernel_rfl) rfl (by kernel_rfl) (statics_At.calls hg0 A19u hS19p) (fun e19y W19x hp19z => ?_)
 obtain ⟨rfl, hS1a2⟩ := hp19z
 refine ⟨_, rfl, fun a1a0 h1a1 => ?_⟩
 refine WL.bl 3 5 h1a1 [(12, .bool r19w), (11, .agg #[.string (mkS r19v.f0), .string (mkS r19v.f1), .bool r19v.f2]), (8, .tuple #[.agg #[.string (mkS r19v.f0), .string (mkS r19v.f1), .bool r19v.f2], .bool r19w])] (fun a1a3 h1a4 => ?_)
 refine WL.oq h1a4 rfl ?_
 refine owp_nw (fun g_ => (pt g_)) (.cells ([.string (mkS []), .string (mkS []), .bool false] : List Value).toArray 52 (0, 0)) h1a4 rfl hS1a2 (fun a1a5 W1a7 g1a8 h1a6 hS1a9 => ?_)
 refine WL.oq h1a6 rfl ?_
 refine owp_st 0 [.string (mkS r19v.f0), .string (mkS r19v.f1), .bool r19v.f2] h1a6 rfl rfl rfl hS1a9 [.string (mkS r19v.f0), .string (mkS r19v.f1), .bool r19v.f2] (fun a1aa W1ac h1ab hS1ad => ?_)
 refine WL.bl 1 8 h1ab [(7, .bool r19w)] (fun a1ae h1af => ?_)
 refine WL.dn ?_
 refine wp_seq ?_
 refine WL.start ?_
 refine WL.bl 1 1 h1af [(13, .bool r19w)] (fun a1ag h1ah => ?_)
 refine WL.dn ?_
 clear h19m a19l h19r a19q h19t a19s h1a1 a1a0 h1a4 a1a3 h1a6 a1a5 h1ab a1aa h1af a1ae
 by_cases c1ai : r19w = true
 ·rw [if_pos c1ai] at H
  have hb_ : r19w = true := c1ai
  try rw [hb_] at h1ah
  clear hb_
  refine wp_then h1ah rfl ?_
  refine wp_seq ?_
  refine WL.start ?_
  refine WL.oq h1ah rfl ?_
  refine owp_rn (.agg #[.string (mkS r19v.f0), .string (mkS r19v.f1), .bool r19v.f2]) h1ah rfl (run_loadN rfl rfl Tryd.underlying52 rfl (cs := [.string (mkS r19v.f0), .string (mkS r19v.f1), .bool r19v.f2]) (by kernel_rfl) (hS1ad.cells (vs := [.string (mkS r19v.f0), .string (mkS r19v.f1), .bool r19v.f2]) rfl)) (fun a1aj h1ak => ?_)
  have hS1al := hS1ad.b1
  refine WL.oq h1ak rfl ?_
  refine owp_st 0 [.string (mkS r19v.f0), .string (mkS r19v.f1), .bool r19v.f2] h1ak rfl rfl rfl hS1al [.string (mkS r19v.f0), .string (mkS r19v.f1), .bool r19v.f2] (fun a1am W1ao h1an hS1ap => ?_)
  refine WL.bl 1 3 h1an [(5, .bool true)] (fun a1aq h1ar => ?_)
  refine WL.dn ?_
  refine wp_ret ?_
  have hS1as := hS1ap.drop_
  have hS1at := hS1as.drop_
  obtain ⟨rfl, rfl⟩ := ret2 H
  repeat (first | with_reducible refine t1 ?_ | with_reducible refine t2 ?_ | with_reducible refine t3 ?_)
  refine body_ret (v := .tuple #[.agg #[.string (mkS r19v.f0), .string (mkS r19v.f1), .bool r19v.f2], .bool true]) h1ar (by kernel_rfl) (res_many (xs := [ResultVar.cell 4 52, ResultVar.tmp 5]) rfl ⟨⟨_, rfl, loadVarN Tryd.underlying52 rfl (cs := [.string (mkS r19v.f0), .string (mkS r19v.f1), .bool r19v.f2]) (by kernel_rfl) (hS1ap.cells (vs := [.string (mkS r19v.f0), .string (mkS r19v.f1), .bool r19v.f2]) rfl)⟩, rfl, trivial⟩ rfl) ?_
  exact ⟨M0, rfl, hp0, hS1at⟩
 ·rw [if_neg c1ai] at H
  have hb_ : r19w = false := (Bool.eq_false_iff.2 c1ai)
  try rw [hb_] at h1ah
  clear hb_
  refine wp_else h1ah rfl ?_
  refine wp_skip ?_
  refine wp_seq ?_
  refine wp_seq ?_
  refine WL.start ?_
  refine WL.bl 1 1 h1ah [(15, i6 p1)] (fun a1au h1av => ?_)
  obtain ⟨r1ax, A1aw, H⟩ := bind1 H
  refine WL.oq h1av rfl ?_
  refine owp_call [] h1av rfl (by kernel_rfl) rfl Tryd.func51 (by kernel_rfl) rfl (by kernel_rfl) (statics_Len.calls  A1aw hS1ad) (fun e1az W1ay hp1b0 => ?_)
  obtain ⟨rfl, hS1b3⟩ := hp1b0
  refine ⟨_, rfl, fun a1b1 h1b2 => ?_⟩
  refine WL.bl 2 4 h1b2 [(18, .bool (decide (p1 ≤ r1ax))), (17, .bool (decide (p1 ≤ r1ax)))] (fun a1b4 h1b5 => ?_)
  clear h1ah a1ag h1av a1au h1b2 a1b1
  by_cases c1b6 : p1 ≤ r1ax
  ·rw [if_pos c1b6] at H
   have hb_ : (decide (p1 ≤ r1ax)) = true := decide_eq_true c1b6
   try rw [hb_] at h1b5
   clear hb_
   refine WL.sk h1b5 rfl rfl (fun a1b7 h1b8 => ?_)
   refine WL.sk h1b8 rfl rfl (fun a1b9 h1ba => ?_)
   refine WL.sk h1ba rfl rfl (fun a1bb h1bc => ?_)
   refine WL.sk h1bc rfl rfl (fun a1bd h1be => ?_)
   refine WL.sk h1be rfl rfl (fun a1bf h1bg => ?_)
   refine WL.sk h1bg rfl rfl (fun a1bh h1bi => ?_)
   refine WL.bl 1 11 h1bi [(25, .bool true)] (fun a1bj h1bk => ?_)
   refine WL.dn ?_
   refine wp_then h1bk rfl ?_
   refine wp_seq ?_
   refine WL.start ?_
   refine WL.bl 1 1 h1bk [(26, .agg #[.string (mkS []), .string (mkS []), .bool false])] (fun a1bl h1bm => ?_)
   have hS1bn := hS1b3.b1
   refine WL.oq h1bm rfl ?_
   refine owp_st 0 [.string (mkS []), .string (mkS []), .bool false] h1bm rfl rfl rfl hS1bn [.string (mkS []), .string (mkS []), .bool false] (fun a1bo W1bq h1bp hS1br => ?_)
   refine WL.bl 1 3 h1bp [(5, .bool false)] (fun a1bs h1bt => ?_)
   refine WL.dn ?_
   refine wp_ret ?_
   have hS1bu := hS1br.drop_
   have hS1bv := hS1bu.drop_
   obtain ⟨rfl, rfl⟩ := ret2 H
   repeat (first | with_reducible refine t1 ?_ | with_reducible refine t2 ?_ | with_reducible refine t3 ?_)
   refine body_ret (v := .tuple #[.agg #[.string (mkS []), .string (mkS []), .bool false], .bool false]) h1bt (by kernel_rfl) (res_many (xs := [ResultVar.cell 4 52, ResultVar.tmp 5]) rfl ⟨⟨_, rfl, loadVarN Tryd.underlying52 rfl (cs := [.string (mkS []), .string (mkS []), .bool false]) (by kernel_rfl) (hS1br.cells (vs := [.string (mkS []), .string (mkS []), .bool false]) rfl)⟩, rfl, trivial⟩ rfl) ?_
   exact ⟨M0, rfl, hp0, hS1bv⟩
  ·rw [if_neg c1b6] at H
   have hb_ : (decide (p1 ≤ r1ax)) = false := decide_eq_false c1b6
   try rw [hb_] at h1b5
   clear hb_
   refine WL.oq h1b5 rfl (owp_rk (i6 p1) h1b5 rfl (fun a1bw h1bx => ?_))
   obtain ⟨r1bz, A1by, H⟩ := bind1 H
   refine WL.oq h1bx rfl ?_
   refine owp_call [] h1bx rfl (by kernel_rfl) rfl Tryd.func51 (by kernel_rfl) rfl (by kernel_rfl) (statics_Len.calls  A1by hS1b3) (fun e1c1 W1c0 hp1c2 => ?_)
   obtain ⟨rfl, hS1c5⟩ := hp1c2
   refine ⟨_, rfl, fun a1c3 h1c4 => ?_⟩
   refine WL.oq h1c4 rfl (owp_rk (i6 (IntKind.i64.wrap (p1 - r1bz))) h1c4 rfl (fun a1c6 h1c7 => ?_))
   refine WL.oq h1c7 rfl (owp_rk v0 h1c7 rfl (fun a1c8 h1c9 => ?_))
   have hS1ca := hS1c5.b2
   obtain ⟨r1cc, A1cb, H⟩ := bind1 H
   refine WL.oq h1c9 rfl ?_
   refine owp_call [v0] h1c9 rfl (by kernel_rfl) rfl Tryd.func52 (by kernel_rfl) rfl (by kernel_rfl) (dyntable_Table_Len.calls hp0 A1cb hS1ca) (fun e1ce W1cd hp1cf => ?_)
   obtain ⟨M1ci, rfl, hr1cj, hS1ck⟩ := hp1cf
   refine ⟨_, rfl, fun a1cg h1ch => ?_⟩
   refine WL.oq h1ch rfl (owp_rk (.bool (decide ((IntKind.i64.wrap (p1 - r1bz)) > r1cc))) h1ch rfl (fun a1cl h1cm => ?_))
   refine WL.bl 1 11 h1cm [(25, .bool (decide ((IntKind.i64.wrap (p1 - r1bz)) > r1cc)))] (fun a1cn h1co => ?_)
   refine WL.dn ?_
   clear h1b5 a1b4 h1bx a1bw h1c4 a1c3 h1c7 a1c6 h1c9 a1c8 h1ch a1cg h1cm a1cl
   by_cases c1cp : (IntKind.i64.wrap (p1 - r1bz)) > r1cc
   ·rw [if_pos c1cp] at H
    have hb_ : (decide ((IntKind.i64.wrap (p1 - r1bz)) > r1cc)) = true := decide_eq_true c1cp
    try rw [hb_] at h1co
    clear hb_
    refine wp_then h1co rfl ?_
    refine wp_seq ?_
    refine WL.start ?_
    refine WL.bl 1 1 h1co [(26, .agg #[.string (mkS []), .string (mkS []), .bool false])] (fun a1cq h1cr => ?_)
    have hS1cs := hS1ck.b2
    refine WL.oq h1cr rfl ?_
    refine owp_st 0 [.string (mkS []), .string (mkS []), .bool false] h1cr rfl rfl rfl hS1cs [.string (mkS []), .string (mkS []), .bool false] (fun a1ct W1cv h1cu hS1cw => ?_)
    refine WL.bl 1 3 h1cu [(5, .bool false)] (fun a1cx h1cy => ?_)
    refine WL.dn ?_
    refine wp_ret ?_
    have hS1cz := hS1cw.drop_
    have hS1d0 := hS1cz.b1
    have hS1d1 := hS1d0.drop_
    obtain ⟨rfl, rfl⟩ := ret2 H
    repeat (first | with_reducible refine t1 ?_ | with_reducible refine t2 ?_ | with_reducible refine t3 ?_)
    refine body_ret (v := .tuple #[.agg #[.string (mkS []), .string (mkS []), .bool false], .bool false]) h1cy (by kernel_rfl) (res_many (xs := [ResultVar.cell 4 52, ResultVar.tmp 5]) rfl ⟨⟨_, rfl, loadVarN Tryd.underlying52 rfl (cs := [.string (mkS []), .string (mkS []), .bool false]) (by kernel_rfl) (hS1cw.cells (vs := [.string (mkS []), .string (mkS []), .bool false]) rfl)⟩, rfl, trivial⟩ rfl) ?_
    exact ⟨M1ci, rfl, hr1cj, hS1d1⟩
   ·rw [if_neg c1cp] at H
    have hb_ : (decide ((IntKind.i64.wrap (p1 - r1bz)) > r1cc)) = false := decide_eq_false c1cp
    try rw [hb_] at h1co
    clear hb_
    refine wp_else h1co rfl ?_
    refine wp_skip ?_
    refine wp_seq ?_
    obtain ⟨g1d3, A1d4, c1d5, M1d6, rfl, hr1d7, hS1d2⟩ := k79qop hr1cj hS1ck
    refine WT.start 15 (fun w_ => (w_.cell? ⟨g1d3, 0, none⟩ = some (.slice A1d4 p0.f0.length c1d5)) ∧ (∀ a_ u_, Kn b w0 (M1d6 ++ R) a_ u_ → w_.cell? a_ = some u_) ∧ True) (by kernel_rfl) #[false, false, false, false, false, false, false, false, false, false, false, false, false, false, false, false, false] 17 rfl rfl ?_
    have hS1h0 := hS1d2.drew
    refine WT.tk 0 h1co rfl rfl (pt g1d3) (fun _ _ => by kernel_rfl) ⟨(hS1h0.cell (i := 0) rfl), (fun _ _ hk_ => (hS1h0.bring 1 rfl rfl).pool.kn hk_), trivial⟩ (fun a1h1 s1h3 h1h2 => ?_)
    refine WT.tk 1 h1h2 rfl rfl (pt g1d3) (fun _ _ => by kernel_rfl) s1h3 (fun a1h4 s1h6 h1h5 => ?_)
    refine WT.tk 2 h1h5 rfl rfl (pt g1d3) (fun _ _ => by kernel_rfl) s1h6 (fun a1h7 s1h9 h1h8 => ?_)
    refine WT.tk 4 h1h8 rfl rfl (pt g1d3) (fun _ _ => by kernel_rfl) s1h9 (fun a1ha s1hc h1hb => ?_)
    refine WT.tk 5 h1hb rfl rfl (pt g1d3) (fun _ _ => by kernel_rfl) s1hc (fun a1hd s1hf h1he => ?_)
    refine WT.tk 6 h1he rfl rfl (pt g1d3) (fun _ _ => by kernel_rfl) s1hf (fun a1hg s1hi h1hh => ?_)
    refine WT.tk 9 h1hh rfl rfl (i6 p1) (fun _ _ => by kernel_rfl) s1hi (fun a1hj s1hl h1hk => ?_)
    refine WT.tk 3 h1hk rfl rfl (.slice A1d4 p0.f0.length c1d5) (fun w_ hs_ => (run_load1 rfl rfl Tryd.underlying23 rfl hs_.1)) s1hl (fun a1hm s1ho h1hn => ?_)
    refine WT.tk 7 h1hn rfl rfl (.slice A1d4 p0.f0.length c1d5) (fun w_ hs_ => (run_load1 rfl rfl Tryd.underlying23 rfl hs_.1)) s1ho (fun a1hp s1hr h1hq => ?_)
    refine WT.tk 8 h1hq rfl rfl (i6 (p0.f0.length : Int)) (fun _ _ => by kernel_rfl) s1hr (fun a1hs s1hu h1ht => ?_)
    obtain ⟨r1hw, A1hv, H⟩ := bind1 H
    refine WT.o1 10 h1ht rfl ?_
    refine owp_call [] h1ht rfl (by kernel_rfl) rfl Tryd.func51 (by kernel_rfl) rfl (by kernel_rfl) (statics_Len.calls  A1hv hS1h0) (fun e1hy W1hx hp1hz => ?_)
    obtain ⟨rfl, hS1i2⟩ := hp1hz
    refine ⟨_, rfl, fun a1i0 h1i1 => ?_⟩
    refine ⟨.inr ⟨(hS1i2.cell (i := 0) rfl), (fun _ _ hk_ => (hS1i2.bring 1 rfl rfl).pool.kn hk_), trivial⟩, ?_⟩
    refine WT.tk 11 h1i1 rfl rfl (i6 (IntKind.i64.wrap (p1 - r1hw))) (fun _ _ => by kernel_rfl) ⟨(hS1i2.cell (i := 0) rfl), (fun _ _ hk_ => (hS1i2.bring 1 rfl rfl).pool.kn hk_), trivial⟩ (fun a1i3 s1i5 h1i4 => ?_)
    clear h1co a1cn h1h2 a1h1 h1h5 a1h4 h1h8 a1h7 h1hb a1ha h1he a1hd h1hh a1hg h1hk a1hj h1hn a1hm h1hq a1hp h1ht a1hs h1i1 a1i0
    refine WT.tk 12 h1i4 rfl rfl (i6 (IntKind.i64.wrap ((p0.f0.length : Int) - (IntKind.i64.wrap (p1 - r1hw))))) (fun _ _ => by kernel_rfl) s1i5 (fun a1i6 s1i8 h1i7 => ?_)
    clear h1i4 a1i3
    by_cases c1i9 : 0 ≤ (IntKind.i64.wrap ((p0.f0.length : Int) - (IntKind.i64.wrap (p1 - r1hw))))
    ·rw [if_pos c1i9] at H
     by_cases c1ia : (IntKind.i64.wrap ((p0.f0.length : Int) - (IntKind.i64.wrap (p1 - r1hw)))) < (p0.f0.length : Int)
     ·rw [if_pos c1ia] at H
      have hi1id : 0 ≤ IntKind.i64.wrap ((p0.f0.length : Int) - (IntKind.i64.wrap (p1 - r1hw))) := by first | assumption | omega
      have hi1ie : (IntKind.i64.wrap ((p0.f0.length : Int) - (IntKind.i64.wrap (p1 - r1hw)))) < (p0.f0.length : Int) := by first | assumption | omega
      obtain ⟨ad1ib, _, ha1ic, -, -⟩ := Rds.elemAny hr1d7.rds hi1id (gt_get (z := z52) hi1id hi1ie)
      refine WT.tk 13 h1i7 rfl rfl (.pointer (some (ad1ib.add ((IntKind.i64.wrap ((p0.f0.length : Int) - (IntKind.i64.wrap (p1 - r1hw)))).toNat * 3)))) (fun w_ hs_ => (run_idx (ad := ad1ib) (sz := 3) rfl (by rw [← ha1ic]; rfl) rfl Tryd.underlying23 (by kernel_rfl) hi1id hi1ie)) s1i8 (fun a1if s1ih h1ig => ?_)
      obtain ⟨ad1ii, cs1ij, ha1ik, hr1im, hc1il⟩ := Rds.elemAny hr1d7.rds hi1id (gt_get (z := z52) hi1id hi1ie)
      rw [ha1ic] at ha1ik; obtain rfl := Option.some.inj ha1ik
      obtain rfl := k52qrd hr1im
      refine WT.tk 14 h1ig rfl rfl (.agg #[.string (mkS ((gt z52 p0.f0 (IntKind.i64.wrap ((p0.f0.length : Int) - (IntKind.i64.wrap (p1 - r1hw))))).f0)), .string (mkS ((gt z52 p0.f0 (IntKind.i64.wrap ((p0.f0.length : Int) - (IntKind.i64.wrap (p1 - r1hw))))).f1)), .bool ((gt z52 p0.f0 (IntKind.i64.wrap ((p0.f0.length : Int) - (IntKind.i64.wrap (p1 - r1hw))))).f2)]) (fun w_ hs_ => (run_loadN rfl rfl Tryd.underlying52 rfl (cs := [.string (mkS ((gt z52 p0.f0 (IntKind.i64.wrap ((p0.f0.length : Int) - (IntKind.i64.wrap (p1 - r1hw))))).f0)), .string (mkS ((gt z52 p0.f0 (IntKind.i64.wrap ((p0.f0.length : Int) - (IntKind.i64.wrap (p1 - r1hw))))).f1)), .bool ((gt z52 p0.f0 (IntKind.i64.wrap ((p0.f0.length : Int) - (IntKind.i64.wrap (p1 - r1hw))))).f2)]) (by kernel_rfl) (hc1il _ hs_.2.1))) s1ih (fun a1in s1ip h1io => ?_)
      have hS1iq := hS1i2.b3
      refine WT.o1 15 h1io rfl ?_
      refine owp_st 0 [.string (mkS ((gt z52 p0.f0 (IntKind.i64.wrap ((p0.f0.length : Int) - (IntKind.i64.wrap (p1 - r1hw))))).f0)), .string (mkS ((gt z52 p0.f0 (IntKind.i64.wrap ((p0.f0.length : Int) - (IntKind.i64.wrap (p1 - r1hw))))).f1)), .bool ((gt z52 p0.f0 (IntKind.i64.wrap ((p0.f0.length : Int) - (IntKind.i64.wrap (p1 - r1hw))))).f2)] h1io rfl rfl rfl hS1iq [.string (mkS ((gt z52 p0.f0 (IntKind.i64.wrap ((p0.f0.length : Int) - (IntKind.i64.wrap (p1 - r1hw))))).f0)), .string (mkS ((gt z52 p0.f0 (IntKind.i64.wrap ((p0.f0.length : Int) - (IntKind.i64.wrap (p1 - r1hw))))).f1)), .bool ((gt z52 p0.f0 (IntKind.i64.wrap ((p0.f0.length : Int) - (IntKind.i64.wrap (p1 - r1hw))))).f2)] (fun a1ir W1it h1is hS1iu => ?_)
      refine ⟨.inl (by decide), ?_⟩
      refine WT.lt 16 h1is rfl rfl (.bool true) (fun _ => by kernel_rfl) (fun a1iv h1iw => ?_)
      refine WT.dn ?_
      refine wp_ret ?_
      have hS1ix := hS1iu.b2
      have hS1iy := hS1ix.b2
      obtain ⟨M1iz, hp1j0, hS1j1⟩ := k79qfo p0 hr1d7 hS1iy
      have hS1j2 := hS1j1.b1
      have hS1j3 := hS1j2.drop_
      have hS1j4 := hS1j3.b1
      have hS1j5 := hS1j4.drop_
      obtain ⟨rfl, rfl⟩ := ret2 H
      repeat (first | with_reducible refine t1 ?_ | with_reducible refine t2 ?_ | with_reducible refine t3 ?_)
      refine body_ret (v := .tuple #[.agg #[.string (mkS ((gt z52 p0.f0 (IntKind.i64.wrap ((p0.f0.length : Int) - (IntKind.i64.wrap (p1 - r1hw))))).f0)), .string (mkS ((gt z52 p0.f0 (IntKind.i64.wrap ((p0.f0.length : Int) - (IntKind.i64.wrap (p1 - r1hw))))).f1)), .bool ((gt z52 p0.f0 (IntKind.i64.wrap ((p0.f0.length : Int) - (IntKind.i64.wrap (p1 - r1hw))))).f2)], .bool true]) h1iw (by kernel_rfl) (res_many (xs := [ResultVar.cell 4 52, ResultVar.tmp 5]) rfl ⟨⟨_, rfl, loadVarN Tryd.underlying52 rfl (cs := [.string (mkS ((gt z52 p0.f0 (IntKind.i64.wrap ((p0.f0.length : Int) - (IntKind.i64.wrap (p1 - r1hw))))).f0)), .string (mkS ((gt z52 p0.f0 (IntKind.i64.wrap ((p0.f0.length : Int) - (IntKind.i64.wrap (p1 - r1hw))))).f1)), .bool ((gt z52 p0.f0 (IntKind.i64.wrap ((p0.f0.length : Int) - (IntKind.i64.wrap (p1 - r1hw))))).f2)]) (by kernel_rfl) (hS1iu.cells (vs := [.string (mkS ((gt z52 p0.f0 (IntKind.i64.wrap ((p0.f0.length : Int) - (IntKind.i64.wrap (p1 - r1hw))))).f0)), .string (mkS ((gt z52 p0.f0 (IntKind.i64.wrap ((p0.f0.length : Int) - (IntKind.i64.wrap (p1 - r1hw))))).f1)), .bool ((gt z52 p0.f0 (IntKind.i64.wrap ((p0.f0.length : Int) - (IntKind.i64.wrap (p1 - r1hw))))).f2)]) rfl)⟩, rfl, trivial⟩ rfl) ?_
      exact ⟨M1iz, rfl, hp1j0, hS1j5⟩
     ·rw [if_neg c1ia] at H
      cases H
    ·rw [if_neg c1i9] at H
     cases H

/-! ### louver/huffman.Decode -/
mutual
def huffman_Decode.l0 : Nat → (List (S116 × Int)) → Int → (List S116) → (List Int) → Option ((List UInt8) × Int)
 | 0, _, _, _, _ => none
 | k + 1, x242, x245, r23n, p0 => if x245 < 257 then (if 0 ≤ x245 then (if x245 < (257 : Int) then (if mget x242 (⟨(gt z116 r23n x245).f0, (gt z116 r23n x245).f1⟩ : S116) = none then (huffman_Decode.l0 k (x242 ++ [((⟨(gt z116 r23n x245).f0, (gt z116 r23n x245).f1⟩ : S116), x245)]) (IntKind.i64.wrap (x245 + 1)) r23n p0) else (none)) else (none)) else (none)) else (huffman_Decode.l1 k ([] : List Int) 0 0 0 p0 x242)
def huffman_Decode.l1 : Nat → (List Int) → Int → Int → Int → (List Int) → (List (S116 × Int)) → Option ((List UInt8) × Int)
 | 0, _, _, _, _, _, _ => none
 | k + 1, x25q, x25v, x25w, x25x, p0, x242 => if x25x < (p0.length : Int) then (if 0 ≤ x25x then (huffman_Decode.l2 k x25q x25v x25w 7 p0 x242 x25x) else (none)) else (if x25w > 7 then (some (([] : List UInt8), 3)) else (if 0 ≤ x25w then (if x25v = (IntKind.u32.wrap ((shlI .u32 1 x25w) - 1)) then (some (toS x25q, 0)) else (some (([] : List UInt8), 3))) else (none)))
def huffman_Decode.l2 : Nat → (List Int) → Int → Int → Int → (List Int) → (List (S116 × Int)) → Int → Option ((List UInt8) × Int)
 | 0, _, _, _, _, _, _, _ => none
 | k + 1, x26t, x26y, x26z, x270, p0, x242, x25x => if x270 ≥ 0 then (if 0 ≤ x270 then (if (mget x242 (⟨bOr .u32 (shlI .u32 x26y 1) (bAnd .u32 (IntKind.u32.wrap (shrI .u8 (gt (0 : Int) p0 x25x) x270)) 1), IntKind.u8.wrap (x26z + 1)⟩ : S116)).isSome = true then (if ((mget x242 (⟨bOr .u32 (shlI .u32 x26y 1) (bAnd .u32 (IntKind.u32.wrap (shrI .u8 (gt (0 : Int) p0 x25x) x270)) 1), IntKind.u8.wrap (x26z + 1)⟩ : S116)).getD 0) = 256 then (some (([] : List UInt8), 3)) else (if x26t.length + 1 ≤ 140737488355328 then (lt1 (x26t ++ ([IntKind.u8.wrap ((mget x242 (⟨bOr .u32 (shlI .u32 x26y 1) (bAnd .u32 (IntKind.u32.wrap (shrI .u8 (gt (0 : Int) p0 x25x) x270)) 1), IntKind.u8.wrap (x26z + 1)⟩ : S116)).getD 0)] : List Int) : List Int) fun y2bn => (huffman_Decode.l2 k y2bn 0 0 (IntKind.i64.wrap (x270 - 1)) p0 x242 x25x)) else (none))) else (huffman_Decode.l2 k x26t (bOr .u32 (shlI .u32 x26y 1) (bAnd .u32 (IntKind.u32.wrap (shrI .u8 (gt (0 : Int) p0 x25x) x270)) 1)) (IntKind.u8.wrap (x26z + 1)) (IntKind.i64.wrap (x270 - 1)) p0 x242 x25x)) else (none)) else (huffman_Decode.l1 k x26t x26y x26z (IntKind.i64.wrap (x25x + 1)) p0 x242)
end
def huffman_Decode.f (k : Nat) (p0 : (List Int)) : Option ((List UInt8) × Int) := bnd1 (huffman_codes.f k) fun r23n => (huffman_Decode.l0 k ([] : List (S116 × Int)) 0 r23n p0)
set_option maxHeartbeats 20000000 in
set_option maxRecDepth 100000 in
theorem huffman_Decode.calls (k : Nat) {b : Nat} {w0 W : World} {R : Frag} {Fs : List Frag} {p0 : (List Int)} {v0 : Value} {r0q : (List UInt8)} {r1q : Int} (hp0 : Rds (kInt .u8) b w0 R v0 p0) (hg1 : Rds (kInt .u8) b w0 [] (.slice (some ⟨1, 0, none⟩) 257 257) G1) (H : huffman_Decode.f k p0 = some (r0q, r1q)) (hS : St b w0 W R (Fs)) :
  Calls Tryd.prog 59 ([v0] : List Value).toArray W (fun e W' => e = .returned (.tuple #[.string (mkS r0q), i6 r1q]) ∧ St b w0 W' R (Fs)) := by
 obtain ⟨A0, c0, rfl⟩ := hp0.form
 unfold huffman_Decode.f at H
 refine calls_enter Tryd.func59 rfl 83 rfl (by kernel_rfl) (fun a h => ?_)
 refine wp_seq ?_
 refine WL.start ?_
 refine WL.bl 2 2 h [(3, i6 0), (2, .string (mkS []))] (fun a23b h23c => ?_)
 refine WL.dn ?_
 refine wp_seq ?_
 refine WL.start ?_
 refine WL.oq h23c rfl ?_
 refine owp_makemap (fk := (fun x : S116 => (.agg #[.int .u32 x.f0, .int .u8 x.f1] : Value))) (fv := (fun x : Int => (i6 x : Value))) h23c rfl (by kernel_rfl) rfl hS (fun a23d W23f g23g M23h h23e hm23i hS23j => ?_)
 refine WL.bl 1 2 h23e [(4, .map (some g23g))] (fun a23k h23l => ?_)
 refine WL.dn ?_
 refine wp_seq ?_
 refine wp_seq ?_
 refine WL.start ?_
 obtain ⟨r23n, A23m, H⟩ := bind1 H
 refine WL.oq h23l rfl ?_
 refine owp_call [] h23l rfl (by kernel_rfl) rfl Tryd.func63 (by kernel_rfl) rfl (by kernel_rfl) (huffman_codes.calls k hg1 A23m hS23j) (fun e23p W23o hp23q => ?_)
 obtain ⟨rfl, hl23t, hS23u⟩ := hp23q
 refine ⟨_, rfl, fun a23r h23s => ?_⟩
 refine WL.bl 1 2 h23s [(16, i6 0)] (fun a23v h23w => ?_)
 refine WL.dn ?_
 refine wp_block ?_
 clear h23c a23b h23e a23d h23l a23k h23s a23r
 refine wp_loop_ghost (fun kq_ a_ W_ => ∃ (x242 : (List (S116 × Int))), ∃ (M243 : Frag), ∃ (x245 : Int), Hd a_ 83 [(0, .slice A0 p0.length c0), (4, .map (some g23g)), (15, .agg (r23n.flatMap (fun x : S116 => ([.int .u32 x.f0, .int .u8 x.f1] : List Value))).toArray), (16, i6 x245)] ∧ Asd (huffman_Decode.l0 kq_ x242 x245 r23n p0 = some (r0q, r1q)) ∧ Asd (kq_ ≤ k) ∧ Asd (St b w0 W_ R (M243 :: Fs)) ∧ Asd (MapF (fun x : S116 => (.agg #[.int .u32 x.f0, .int .u8 x.f1] : Value)) (fun x : Int => (i6 x : Value)) g23g x242 M243)) k ⟨([] : List (S116 × Int)), M23h, 0, h23w.keep ⟨rfl, rfl, rfl, rfl, trivial⟩, ⟨H⟩, ⟨Nat.le_refl _⟩, ⟨hS23u⟩, ⟨hm23i⟩⟩ ?_
 clear H hS23u
 rintro kk241 a23y W23z ⟨x242, M243, x245, h23x, ⟨H⟩, ⟨hkkk241⟩, ⟨hS240⟩, ⟨hm244⟩⟩
 obtain _ | kk246 := kk241
 ·exact absurd H (by simp [huffman_Decode.l0])
 simp only [huffman_Decode.l0] at H
 refine wp_seq ?_
 refine WL.start ?_
 refine WL.bl 1 1 h23x [(17, .bool (decide (x245 < 257)))] (fun a247 h248 => ?_)
 refine WL.dn ?_
 refine wp_seq ?_
 clear h23x a23y
 by_cases c249 : x245 < 257
 ·rw [if_pos c249] at H
  have hb_ : (decide (x245 < 257)) = true := decide_eq_true c249
  try rw [hb_] at h248
  clear hb_
  refine wp_then h248 rfl ?_
  refine wp_skip ?_
  refine wp_seq ?_
  refine wp_block ?_
  refine wp_seq ?_
  refine WL.start ?_
  refine WL.bl 1 1 h248 [(18, i6 x245)] (fun a24a h24b => ?_)
  clear h248 a247
  by_cases c24c : 0 ≤ x245
  ·rw [if_pos c24c] at H
   by_cases c24d : x245 < (257 : Int)
   ·rw [if_pos c24d] at H
    have hi24e : 0 ≤ x245 := by first | assumption | omega
    have hi24g : x245 < ((257 : Nat) : Int) := by omega
    have hi24f : x245 < (r23n.length : Int) := by rw [hl23t]; exact hi24g
    refine WL.oq h24b rfl ?_
    refine owp_rn (.agg #[.int .u32 ((gt z116 r23n x245).f0), .int .u8 ((gt z116 r23n x245).f1)]) h24b rfl (run_index_st rfl rfl rfl Tryd.underlying117 Tryd.underlying116 rfl (by kernel_rfl) hi24e hi24g (sz := 2) (cs' := [.int .u32 ((gt z116 r23n x245).f0), .int .u8 ((gt z116 r23n x245).f1)]) (flat_at (f := (fun x : S116 => ([.int .u32 x.f0, .int .u8 x.f1] : List Value))) (sz := 2) (fun _ => rfl) r23n _ _ (gt_get (z := z116) hi24e hi24f))) (fun a24h h24i => ?_)
    refine WL.oq h24i rfl ?_
    refine owp_nw (fun g_ => (pt g_)) (.cells ([.int .u32 0, .int .u8 0] : List Value).toArray 116 (0, 0)) h24i rfl hS240 (fun a24j W24l g24m h24k hS24n => ?_)
    refine WL.bl 1 4 h24k [(5, i6 x245)] (fun a24o h24p => ?_)
    refine WL.oq h24p rfl ?_
    refine owp_st 0 [.int .u32 ((gt z116 r23n x245).f0), .int .u8 ((gt z116 r23n x245).f1)] h24p rfl rfl rfl hS24n [.int .u32 ((gt z116 r23n x245).f0), .int .u8 ((gt z116 r23n x245).f1)] (fun a24q W24s h24r hS24t => ?_)
    refine WL.dn ?_
    refine WL.start ?_
    refine WL.bl 1 1 h24r [(20, .map (some g23g))] (fun a24u h24v => ?_)
    refine WL.oq h24v rfl ?_
    refine owp_rn (.agg #[.int .u32 ((gt z116 r23n x245).f0), .int .u8 ((gt z116 r23n x245).f1)]) h24v rfl (run_loadN rfl rfl Tryd.underlying116 rfl (cs := [.int .u32 ((gt z116 r23n x245).f0), .int .u8 ((gt z116 r23n x245).f1)]) (by kernel_rfl) (hS24t.cells (vs := [.int .u32 ((gt z116 r23n x245).f0), .int .u8 ((gt z116 r23n x245).f1)]) rfl)) (fun a24w h24x => ?_)
    refine WL.bl 1 3 h24x [(22, i6 x245)] (fun a24y h24z => ?_)
    clear h24b a24a h24i a24h h24k a24j h24p a24o h24r a24q h24v a24u h24x a24w
    by_cases c250 : mget x242 (⟨(gt z116 r23n x245).f0, (gt z116 r23n x245).f1⟩ : S116) = none
    ·rw [if_pos c250] at H
     have hS251 := hS24t.b1
     refine WL.oq h24z rfl ?_
     refine owp_mapput (fk := (fun x : S116 => (.agg #[.int .u32 x.f0, .int .u8 x.f1] : Value))) (fv := (fun x : Int => (i6 x : Value))) (kk := (⟨(gt z116 r23n x245).f0, (gt z116 r23n x245).f1⟩ : S116)) (vv := x245) h24z rfl (by kernel_rfl) rfl rfl rfl rfl Tryd.underlying114 Tryd.underlying116 (fun _ _ => by kernel_rfl) (fun x_ y_ w_ => eq_dec (eqs_of (xs := [.int .u32 x_.f0, .int .u8 x_.f1]) (ys := [.int .u32 y_.f0, .int .u8 y_.f1]) Tryd.underlying116 (by kernel_rfl) (eqf_cons rfl (by kernel_rfl) rfl rfl (eqi_int Tryd.underlying29) (eqf_last rfl (by kernel_rfl) rfl rfl (eqi_int Tryd.underlying5)))) (by cases x_; cases y_; simp)) (by assumption) hm244 hS251 (fun a252 W254 M255 h253 hm256 hS257 => ?_)
     refine WL.dn ?_
     refine WL.start ?_
     refine WL.bl 2 2 h253 [(16, i6 (IntKind.i64.wrap (x245 + 1))), (23, i6 (IntKind.i64.wrap (x245 + 1)))] (fun a258 h259 => ?_)
     refine WL.dn ?_
     have hS25a := hS257.b1
     have hS25b := hS25a.drop_
     exact ⟨kk246, by omega, x242 ++ [((⟨(gt z116 r23n x245).f0, (gt z116 r23n x245).f1⟩ : S116), x245)], M255, IntKind.i64.wrap (x245 + 1), h259.keep ⟨rfl, rfl, rfl, rfl, trivial⟩, ⟨H⟩, ⟨by omega⟩, ⟨hS25b⟩, ⟨hm256⟩⟩
    ·rw [if_neg c250] at H
     cases H
   ·rw [if_neg c24d] at H
    cases H
  ·rw [if_neg c24c] at H
   cases H
 ·rw [if_neg c249] at H
  have hb_ : (decide (x245 < 257)) = false := decide_eq_false c249
  try rw [hb_] at h248
  clear hb_
  refine wp_else h248 rfl ?_
  refine wp_exit ?_
  refine wp_seq ?_
  refine WL.start ?_
  refine WL.bl 1 1 h248 [(7, .slice none 0 0)] (fun a25c h25d => ?_)
  refine WL.dn ?_
  refine wp_seq ?_
  refine WL.start ?_
  refine WL.oq h25d rfl ?_
  refine owp_nw (fun g_ => (pt g_)) (.cells ([.int .u32 0, .int .u8 0] : List Value).toArray 116 (0, 0)) h25d rfl hS240 (fun a25e W25g g25h h25f hS25i => ?_)
  refine WL.dn ?_
  refine wp_seq ?_
  refine wp_seq ?_
  refine WL.start ?_
  refine WL.bl 3 3 h25f [(26, i6 0), (25, i6 (p0.length : Int)), (24, .slice A0 p0.length c0)] (fun a25j h25k => ?_)
  refine WL.dn ?_
  refine wp_block ?_
  have hS25y := hS25i.nil_
  have hS25z := hS25y.b1
  have hS260 := hS25z.b1
  have hS261 := hS260.b2
  clear h248 a247 h25d a25c h25f a25e
  refine wp_loop_ghost (fun kq_ a_ W_ => ∃ (x25q : (List Int)), ∃ (A25r : Option Addr), ∃ (c25s : Nat), ∃ (M25t : Frag), ∃ (x25v : Int), ∃ (x25w : Int), ∃ (x25x : Int), Hd a_ 83 [(4, .map (some g23g)), (7, .slice A25r x25q.length c25s), (8, pt g25h), (24, .slice A0 p0.length c0), (25, i6 (p0.length : Int)), (26, i6 x25x)] ∧ Asd (huffman_Decode.l1 kq_ x25q x25v x25w x25x p0 x242 = some (r0q, r1q)) ∧ Asd (kq_ ≤ kk246) ∧ Asd (St b w0 W_ R (M243 :: M25t :: (bx g25h 116 [.int .u32 x25v, .int .u8 x25w]) :: Fs)) ∧ Asd (Row (kInt .u8) 5 b w0 R (.slice A25r x25q.length c25s) x25q M25t)) kk246 ⟨([] : List Int), none, 0, ([] : Frag), 0, 0, 0, h25k.keep ⟨rfl, rfl, rfl, rfl, rfl, rfl, trivial⟩, ⟨H⟩, ⟨Nat.le_refl _⟩, ⟨hS261⟩, ⟨Row.nil⟩⟩ ?_
  clear H hS261
  rintro kk25p a25m W25n ⟨x25q, A25r, c25s, M25t, x25v, x25w, x25x, h25l, ⟨H⟩, ⟨hkkk25p⟩, ⟨hS25o⟩, ⟨hr25u⟩⟩
  obtain _ | kk262 := kk25p
  ·exact absurd H (by simp [huffman_Decode.l1])
  simp only [huffman_Decode.l1] at H
  refine wp_seq ?_
  refine WL.start ?_
  refine WL.bl 1 1 h25l [(27, .bool (decide (x25x < (p0.length : Int))))] (fun a263 h264 => ?_)
  refine WL.dn ?_
  refine wp_seq ?_
  clear h25l a25m
  by_cases c265 : x25x < (p0.length : Int)
  ·rw [if_pos c265] at H
   have hb_ : (decide (x25x < (p0.length : Int))) = true := decide_eq_true c265
   try rw [hb_] at h264
   clear hb_
   refine wp_then h264 rfl ?_
   refine wp_skip ?_
   refine wp_seq ?_
   refine wp_block ?_
   refine wp_seq ?_
   refine WL.start ?_
   by_cases c266 : 0 ≤ x25x
   ·rw [if_pos c266] at H
    have hi269 : 0 ≤ x25x := by first | assumption | omega
    have hi26a : x25x < (p0.length : Int) := by first | assumption | omega
    obtain ⟨ad267, _, ha268, -, -⟩ := Rds.elemAny hp0 hi269 (gt_get (z := (0 : Int)) hi269 hi26a)
    refine WL.oq h264 rfl ?_
    refine owp_rn (.pointer (some (ad267.add (x25x.toNat * 1)))) h264 rfl (run_idx (ad := ad267) (sz := 1) rfl (by rw [← ha268]; rfl) rfl Tryd.underlying22 (by kernel_rfl) hi269 hi26a) (fun a26b h26c => ?_)
    obtain ⟨ad26d, cs26e, ha26f, hr26h, hc26g⟩ := Rds.elemAny hp0 hi269 (gt_get (z := (0 : Int)) hi269 hi26a)
    rw [ha268] at ha26f; obtain rfl := Option.some.inj ha26f
    obtain rfl : cs26e = [.int .u8 (gt (0 : Int) p0 x25x)] := hr26h
    refine WL.oq h26c rfl ?_
    refine owp_rn (.int .u8 (gt (0 : Int) p0 x25x)) h26c rfl (run_load1 rfl rfl Tryd.underlying5 rfl (cell0 (hc26g _ (fun _ _ hk_ => hS25o.kn hk_)))) (fun a26i h26j => ?_)
    refine WL.bl 1 3 h26j [(10, .int .u8 (gt (0 : Int) p0 x25x))] (fun a26k h26l => ?_)
    refine WL.dn ?_
    refine wp_seq ?_
    refine WL.start ?_
    refine WL.bl 1 1 h26l [(11, i6 7)] (fun a26m h26n => ?_)
    refine WL.dn ?_
    refine wp_block ?_
    clear h264 a263 h26c a26b h26j a26i h26l a26k
    refine wp_loop_ghost (fun kq_ a_ W_ => ∃ (x26t : (List Int)), ∃ (A26u : Option Addr), ∃ (c26v : Nat), ∃ (M26w : Frag), ∃ (x26y : Int), ∃ (x26z : Int), ∃ (x270 : Int), Hd a_ 83 [(4, .map (some g23g)), (7, .slice A26u x26t.length c26v), (8, pt g25h), (10, .int .u8 (gt (0 : Int) p0 x25x)), (11, i6 x270), (24, .slice A0 p0.length c0), (25, i6 (p0.length : Int)), (26, i6 x25x)] ∧ Asd (huffman_Decode.l2 kq_ x26t x26y x26z x270 p0 x242 x25x = some (r0q, r1q)) ∧ Asd (kq_ ≤ kk262) ∧ Asd (St b w0 W_ R (M243 :: M26w :: (bx g25h 116 [.int .u32 x26y, .int .u8 x26z]) :: Fs)) ∧ Asd (Row (kInt .u8) 5 b w0 R (.slice A26u x26t.length c26v) x26t M26w)) kk262 ⟨x25q, A25r, c25s, M25t, x25v, x25w, 7, h26n.keep ⟨rfl, rfl, rfl, rfl, rfl, rfl, rfl, rfl, trivial⟩, ⟨H⟩, ⟨Nat.le_refl _⟩, ⟨hS25o⟩, ⟨hr25u⟩⟩ ?_
    clear H hS25o
    rintro kk26s a26p W26q ⟨x26t, A26u, c26v, M26w, x26y, x26z, x270, h26o, ⟨H⟩, ⟨hkkk26s⟩, ⟨hS26r⟩, ⟨hr26x⟩⟩
    obtain _ | kk271 := kk26s
    ·exact absurd H (by simp [huffman_Decode.l2])
    simp only [huffman_Decode.l2] at H
    refine wp_seq ?_
    refine wp_seq ?_
    refine WL.start ?_
    refine WL.bl 2 2 h26o [(31, .bool (decide (x270 ≥ 0))), (30, i6 x270)] (fun a272 h273 => ?_)
    refine WL.dn ?_
    clear h26o a26p
    by_cases c274 : x270 ≥ 0
    ·rw [if_pos c274] at H
     have hb_ : (decide (x270 ≥ 0)) = true := decide_eq_true c274
     try rw [hb_] at h273
     clear hb_
     refine wp_then h273 rfl ?_
     refine wp_skip ?_
     refine wp_seq ?_
     refine wp_block ?_
     refine wp_seq ?_
     refine WT.start 10 (fun w_ => (w_.cell? ⟨g25h, 0, none⟩ = some (.int .u32 x26y)) ∧ True) (by kernel_rfl) #[false, false, false, false, false, false, false, false, false, false, false] 11 rfl rfl ?_
     have hS295 := hS26r.drew
     refine WT.tk 0 h273 rfl rfl (pt g25h) (fun _ _ => by kernel_rfl) ⟨(hS295.b2.cell (i := 0) rfl), trivial⟩ (fun a296 s298 h297 => ?_)
     refine WT.tk 3 h297 rfl rfl (.int .u8 (gt (0 : Int) p0 x25x)) (fun _ _ => by kernel_rfl) s298 (fun a299 s29b h29a => ?_)
     refine WT.tk 4 h29a rfl rfl (i6 x270) (fun _ _ => by kernel_rfl) s29b (fun a29c s29e h29d => ?_)
     refine WT.tk 1 h29d rfl rfl (.int .u32 x26y) (fun w_ hs_ => (run_load1 rfl rfl Tryd.underlying29 rfl hs_.1)) s29e (fun a29f s29h h29g => ?_)
     refine WT.tk 2 h29g rfl rfl (.int .u32 (shlI .u32 x26y 1)) (fun _ _ => by kernel_rfl) s29h (fun a29i s29k h29j => ?_)
     clear h273 a272 h297 a296 h29a a299 h29d a29c h29g a29f
     by_cases c29l : 0 ≤ x270
     ·rw [if_pos c29l] at H
      refine WT.tk 5 h29j rfl rfl (.int .u8 (shrI .u8 (gt (0 : Int) p0 x25x) x270)) (fun w_ hs_ => (run_shr rfl rfl rfl (by assumption))) s29k (fun a29m s29o h29n => ?_)
      refine WT.tk 6 h29n rfl rfl (.int .u32 (IntKind.u32.wrap (shrI .u8 (gt (0 : Int) p0 x25x) x270))) (fun _ _ => by kernel_rfl) s29o (fun a29p s29r h29q => ?_)
      refine WT.tk 7 h29q rfl rfl (.int .u32 (bAnd .u32 (IntKind.u32.wrap (shrI .u8 (gt (0 : Int) p0 x25x) x270)) 1)) (fun _ _ => by kernel_rfl) s29r (fun a29s s29u h29t => ?_)
      refine WT.tk 8 h29t rfl rfl (.int .u32 (bOr .u32 (shlI .u32 x26y 1) (bAnd .u32 (IntKind.u32.wrap (shrI .u8 (gt (0 : Int) p0 x25x) x270)) 1))) (fun _ _ => by kernel_rfl) s29u (fun a29v s29x h29w => ?_)
      refine WT.tk 9 h29w rfl rfl (pt g25h) (fun _ _ => by kernel_rfl) s29x (fun a29y s2a0 h29z => ?_)
      have hS2a1 := hS295.b2
      refine WT.o1 10 h29z rfl ?_
      refine owp_st 0 [.int .u32 (bOr .u32 (shlI .u32 x26y 1) (bAnd .u32 (IntKind.u32.wrap (shrI .u8 (gt (0 : Int) p0 x25x) x270)) 1))] h29z rfl rfl rfl hS2a1 [.int .u32 (bOr .u32 (shlI .u32 x26y 1) (bAnd .u32 (IntKind.u32.wrap (shrI .u8 (gt (0 : Int) p0 x25x) x270)) 1)), .int .u8 x26z] (fun a2a2 W2a4 h2a3 hS2a5 => ?_)
      refine ⟨.inl (by decide), ?_⟩
      refine WT.dn ?_
      refine wp_seq ?_
      refine WL.start ?_
      refine WL.bl 1 1 h2a3 [(44, .pointer (some ⟨g25h, 1, none⟩))] (fun a2a6 h2a7 => ?_)
      refine WL.oq h2a7 rfl ?_
      refine owp_rn (.int .u8 x26z) h2a7 rfl (run_load1 rfl rfl Tryd.underlying5 rfl (hS2a5.cell (i := 1) rfl)) (fun a2a8 h2a9 => ?_)
      refine WL.bl 2 4 h2a9 [(47, .pointer (some ⟨g25h, 1, none⟩)), (46, .int .u8 (IntKind.u8.wrap (x26z + 1)))] (fun a2aa h2ab => ?_)
      refine WL.oq h2ab rfl ?_
      refine owp_st 1 [.int .u8 (IntKind.u8.wrap (x26z + 1))] h2ab rfl rfl rfl hS2a5 [.int .u32 (bOr .u32 (shlI .u32 x26y 1) (bAnd .u32 (IntKind.u32.wrap (shrI .u8 (gt (0 : Int) p0 x25x) x270)) 1)), .int .u8 (IntKind.u8.wrap (x26z + 1))] (fun a2ac W2ae h2ad hS2af => ?_)
      refine WL.dn ?_
      refine wp_seq ?_
      refine WL.start ?_
      refine WL.bl 1 1 h2ad [(49, .map (some g23g))] (fun a2ag h2ah => ?_)
      refine WL.oq h2ah rfl ?_
      refine owp_rn (.agg #[.int .u32 (bOr .u32 (shlI .u32 x26y 1) (bAnd .u32 (IntKind.u32.wrap (shrI .u8 (gt (0 : Int) p0 x25x) x270)) 1)), .int .u8 (IntKind.u8.wrap (x26z + 1))]) h2ah rfl (run_loadN rfl rfl Tryd.underlying116 rfl (cs := [.int .u32 (bOr .u32 (shlI .u32 x26y 1) (bAnd .u32 (IntKind.u32.wrap (shrI .u8 (gt (0 : Int) p0 x25x) x270)) 1)), .int .u8 (IntKind.u8.wrap (x26z + 1))]) (by kernel_rfl) (hS2af.cells (vs := [.int .u32 (bOr .u32 (shlI .u32 x26y 1) (bAnd .u32 (IntKind.u32.wrap (shrI .u8 (gt (0 : Int) p0 x25x) x270)) 1)), .int .u8 (IntKind.u8.wrap (x26z + 1))]) rfl)) (fun a2ai h2aj => ?_)
      clear h29j a29i h29n a29m h29q a29p h29t a29s h29w a29v h29z a29y h2a3 a2a2 h2a7 a2a6 h2a9 a2a8 h2ab a2aa h2ad a2ac h2ah a2ag
      have hS2ak := hS2af.b1
      refine WL.oq h2aj rfl ?_
      refine owp_rn (.tuple #[i6 ((mget x242 (⟨bOr .u32 (shlI .u32 x26y 1) (bAnd .u32 (IntKind.u32.wrap (shrI .u8 (gt (0 : Int) p0 x25x) x270)) 1), IntKind.u8.wrap (x26z + 1)⟩ : S116)).getD 0), .bool ((mget x242 (⟨bOr .u32 (shlI .u32 x26y 1) (bAnd .u32 (IntKind.u32.wrap (shrI .u8 (gt (0 : Int) p0 x25x) x270)) 1), IntKind.u8.wrap (x26z + 1)⟩ : S116)).isSome)]) h2aj rfl (run_mapget (fk := (fun x : S116 => (.agg #[.int .u32 x.f0, .int .u8 x.f1] : Value))) (fv := (fun x : Int => (i6 x : Value))) (kk := (⟨bOr .u32 (shlI .u32 x26y 1) (bAnd .u32 (IntKind.u32.wrap (shrI .u8 (gt (0 : Int) p0 x25x) x270)) 1), IntKind.u8.wrap (x26z + 1)⟩ : S116)) (z0 := 0) rfl rfl rfl Tryd.underlying114 Tryd.underlying116 (fun _ _ => by kernel_rfl) (fun x_ y_ w_ => eq_dec (eqs_of (xs := [.int .u32 x_.f0, .int .u8 x_.f1]) (ys := [.int .u32 y_.f0, .int .u8 y_.f1]) Tryd.underlying116 (by kernel_rfl) (eqf_cons rfl (by kernel_rfl) rfl rfl (eqi_int Tryd.underlying29) (eqf_last rfl (by kernel_rfl) rfl rfl (eqi_int Tryd.underlying5)))) (by cases x_; cases y_; simp)) (fun _ => by kernel_rfl) hm244 hS2ak) (fun a2al h2am => ?_)
      refine WL.bl 5 8 h2am [(13, .bool ((mget x242 (⟨bOr .u32 (shlI .u32 x26y 1) (bAnd .u32 (IntKind.u32.wrap (shrI .u8 (gt (0 : Int) p0 x25x) x270)) 1), IntKind.u8.wrap (x26z + 1)⟩ : S116)).isSome)), (12, i6 ((mget x242 (⟨bOr .u32 (shlI .u32 x26y 1) (bAnd .u32 (IntKind.u32.wrap (shrI .u8 (gt (0 : Int) p0 x25x) x270)) 1), IntKind.u8.wrap (x26z + 1)⟩ : S116)).getD 0)), (53, .bool ((mget x242 (⟨bOr .u32 (shlI .u32 x26y 1) (bAnd .u32 (IntKind.u32.wrap (shrI .u8 (gt (0 : Int) p0 x25x) x270)) 1), IntKind.u8.wrap (x26z + 1)⟩ : S116)).isSome)), (52, i6 ((mget x242 (⟨bOr .u32 (shlI .u32 x26y 1) (bAnd .u32 (IntKind.u32.wrap (shrI .u8 (gt (0 : Int) p0 x25x) x270)) 1), IntKind.u8.wrap (x26z + 1)⟩ : S116)).getD 0)), (48, .tuple #[i6 ((mget x242 (⟨bOr .u32 (shlI .u32 x26y 1) (bAnd .u32 (IntKind.u32.wrap (shrI .u8 (gt (0 : Int) p0 x25x) x270)) 1), IntKind.u8.wrap (x26z + 1)⟩ : S116)).getD 0), .bool ((mget x242 (⟨bOr .u32 (shlI .u32 x26y 1) (bAnd .u32 (IntKind.u32.wrap (shrI .u8 (gt (0 : Int) p0 x25x) x270)) 1), IntKind.u8.wrap (x26z + 1)⟩ : S116)).isSome)])] (fun a2an h2ao => ?_)
      refine WL.dn ?_
      refine wp_block ?_
      refine wp_seq ?_
      refine WL.start ?_
      refine WL.bl 2 2 h2ao [(56, .bool ((mget x242 (⟨bOr .u32 (shlI .u32 x26y 1) (bAnd .u32 (IntKind.u32.wrap (shrI .u8 (gt (0 : Int) p0 x25x) x270)) 1), IntKind.u8.wrap (x26z + 1)⟩ : S116)).isSome)), (55, .bool ((mget x242 (⟨bOr .u32 (shlI .u32 x26y 1) (bAnd .u32 (IntKind.u32.wrap (shrI .u8 (gt (0 : Int) p0 x25x) x270)) 1), IntKind.u8.wrap (x26z + 1)⟩ : S116)).isSome))] (fun a2ap h2aq => ?_)
      clear h2aj a2ai h2am a2al h2ao a2an
      by_cases c2ar : (mget x242 (⟨bOr .u32 (shlI .u32 x26y 1) (bAnd .u32 (IntKind.u32.wrap (shrI .u8 (gt (0 : Int) p0 x25x) x270)) 1), IntKind.u8.wrap (x26z + 1)⟩ : S116)).isSome = true
      ·rw [if_pos c2ar] at H
       have hb_ : ((mget x242 (⟨bOr .u32 (shlI .u32 x26y 1) (bAnd .u32 (IntKind.u32.wrap (shrI .u8 (gt (0 : Int) p0 x25x) x270)) 1), IntKind.u8.wrap (x26z + 1)⟩ : S116)).isSome) = true := c2ar
       try rw [hb_] at h2aq
       clear hb_
       refine WL.oq h2aq rfl (owp_rk (i6 ((mget x242 (⟨bOr .u32 (shlI .u32 x26y 1) (bAnd .u32 (IntKind.u32.wrap (shrI .u8 (gt (0 : Int) p0 x25x) x270)) 1), IntKind.u8.wrap (x26z + 1)⟩ : S116)).getD 0)) h2aq rfl (fun a2as h2at => ?_))
       refine WL.oq h2at rfl (owp_rk (.bool (decide (((mget x242 (⟨bOr .u32 (shlI .u32 x26y 1) (bAnd .u32 (IntKind.u32.wrap (shrI .u8 (gt (0 : Int) p0 x25x) x270)) 1), IntKind.u8.wrap (x26z + 1)⟩ : S116)).getD 0) = 256))) h2at rfl (fun a2au h2av => ?_))
       refine WL.bl 2 6 h2av [(54, .bool (decide (((mget x242 (⟨bOr .u32 (shlI .u32 x26y 1) (bAnd .u32 (IntKind.u32.wrap (shrI .u8 (gt (0 : Int) p0 x25x) x270)) 1), IntKind.u8.wrap (x26z + 1)⟩ : S116)).getD 0) = 256))), (59, .bool (decide (((mget x242 (⟨bOr .u32 (shlI .u32 x26y 1) (bAnd .u32 (IntKind.u32.wrap (shrI .u8 (gt (0 : Int) p0 x25x) x270)) 1), IntKind.u8.wrap (x26z + 1)⟩ : S116)).getD 0) = 256)))] (fun a2aw h2ax => ?_)
       refine WL.dn ?_
       clear h2aq a2ap h2at a2as h2av a2au
       by_cases c2ay : ((mget x242 (⟨bOr .u32 (shlI .u32 x26y 1) (bAnd .u32 (IntKind.u32.wrap (shrI .u8 (gt (0 : Int) p0 x25x) x270)) 1), IntKind.u8.wrap (x26z + 1)⟩ : S116)).getD 0) = 256
       ·rw [if_pos c2ay] at H
        have hb_ : (decide (((mget x242 (⟨bOr .u32 (shlI .u32 x26y 1) (bAnd .u32 (IntKind.u32.wrap (shrI .u8 (gt (0 : Int) p0 x25x) x270)) 1), IntKind.u8.wrap (x26z + 1)⟩ : S116)).getD 0) = 256)) = true := decide_eq_true c2ay
        try rw [hb_] at h2ax
        clear hb_
        refine wp_then h2ax rfl ?_
        refine wp_seq ?_
        refine WL.start ?_
        refine WL.bl 2 2 h2ax [(3, i6 3), (2, .string (mkS []))] (fun a2az h2b0 => ?_)
        refine WL.dn ?_
        refine wp_ret ?_
        have hS2b1 := hS2ak.drop_
        have hS2b2 := hS2b1.drop_
        have hS2b3 := hS2b2.drop_
        obtain ⟨rfl, rfl⟩ := ret2 H
        repeat (first | with_reducible refine t1 ?_ | with_reducible refine t2 ?_ | with_reducible refine t3 ?_)
        refine bret (.tuple #[.string (mkS []), i6 3]) h2b0 ?_
        exact ⟨rfl, hS2b3⟩
       ·rw [if_neg c2ay] at H
        have hb_ : (decide (((mget x242 (⟨bOr .u32 (shlI .u32 x26y 1) (bAnd .u32 (IntKind.u32.wrap (shrI .u8 (gt (0 : Int) p0 x25x) x270)) 1), IntKind.u8.wrap (x26z + 1)⟩ : S116)).getD 0) = 256)) = false := decide_eq_false c2ay
        try rw [hb_] at h2ax
        clear hb_
        refine wp_else h2ax rfl ?_
        refine wp_seq ?_
        refine WL.start ?_
        refine WL.bl 2 2 h2ax [(60, .bool true), (61, .bool true)] (fun a2b4 h2b5 => ?_)
        refine WL.dn ?_
        refine wp_then h2b5 rfl ?_
        refine wp_seq ?_
        refine WL.start ?_
        refine WL.bl 3 3 h2b5 [(64, .int .u8 (IntKind.u8.wrap ((mget x242 (⟨bOr .u32 (shlI .u32 x26y 1) (bAnd .u32 (IntKind.u32.wrap (shrI .u8 (gt (0 : Int) p0 x25x) x270)) 1), IntKind.u8.wrap (x26z + 1)⟩ : S116)).getD 0))), (63, i6 ((mget x242 (⟨bOr .u32 (shlI .u32 x26y 1) (bAnd .u32 (IntKind.u32.wrap (shrI .u8 (gt (0 : Int) p0 x25x) x270)) 1), IntKind.u8.wrap (x26z + 1)⟩ : S116)).getD 0)), (62, .slice A26u x26t.length c26v)] (fun a2b6 h2b7 => ?_)
        refine WL.oq h2b7 rfl ?_
        refine owp_nw (fun g_ => .slice (some ⟨g_, 0, none⟩) 1 1) (.cells ([.int .u8 (IntKind.u8.wrap ((mget x242 (⟨bOr .u32 (shlI .u32 x26y 1) (bAnd .u32 (IntKind.u32.wrap (shrI .u8 (gt (0 : Int) p0 x25x) x270)) 1), IntKind.u8.wrap (x26z + 1)⟩ : S116)).getD 0))] : List Value).toArray 5 (0, 0)) h2b7 rfl hS2ak (fun a2b8 W2ba g2bb h2b9 hS2bc => ?_)
        have hr2bd : Row (kInt .u8) 5 b w0 R (.slice (some ⟨g2bb, 0, none⟩) 1 1) ([IntKind.u8.wrap ((mget x242 (⟨bOr .u32 (shlI .u32 x26y 1) (bAnd .u32 (IntKind.u32.wrap (shrI .u8 (gt (0 : Int) p0 x25x) x270)) 1), IntKind.u8.wrap (x26z + 1)⟩ : S116)).getD 0)] : List Int) (bx g2bb 5 [.int .u8 (IntKind.u8.wrap ((mget x242 (⟨bOr .u32 (shlI .u32 x26y 1) (bAnd .u32 (IntKind.u32.wrap (shrI .u8 (gt (0 : Int) p0 x25x) x270)) 1), IntKind.u8.wrap (x26z + 1)⟩ : S116)).getD 0))]) := Row.lit (xs := ([IntKind.u8.wrap ((mget x242 (⟨bOr .u32 (shlI .u32 x26y 1) (bAnd .u32 (IntKind.u32.wrap (shrI .u8 (gt (0 : Int) p0 x25x) x270)) 1), IntKind.u8.wrap (x26z + 1)⟩ : S116)).getD 0)] : List Int)) (Mi := []) ⟨_, _, [], _, rfl, rfl, ⟨rfl, rfl⟩, ⟨rfl, rfl⟩⟩ (by simp [maxLen])
        clear h2ax a2aw h2b5 a2b4 h2b7 a2b6
        by_cases c2be : x26t.length + 1 ≤ 140737488355328
        ·rw [if_pos c2be] at H
         have hS2bf := hS2bc.b3
         refine WL.oq h2b9 rfl ?_
         refine owp_app_take (z := .int .u8 0) (bytes := 1) (dk := (kInt .u8)) h2b9 rfl (by kernel_rfl) rfl rfl rfl hr26x hr2bd hS2bf Tryd.underlying22 (by kernel_rfl) rfl (by decide) (by decide) (by first | omega | (simp only [List.length_cons, List.length_nil] at *; omega)) (fun a2bg W2bi v2bj M2bk h2bh hr2bl hS2bm => ?_)
         obtain ⟨y2bn, hy2bo, H⟩ := lete H
         have hr2bp : Row (kInt .u8) 5 b w0 R v2bj y2bn M2bk := by rw [hy2bo]; exact hr2bl
         clear hr2bl
         obtain ⟨A2bq, c2br, rfl⟩ := hr2bp.form
         refine WL.bl 1 6 h2bh [(7, .slice A2bq y2bn.length c2br)] (fun a2bs h2bt => ?_)
         refine WL.dn ?_
         refine WL.start ?_
         refine WL.bl 1 1 h2bt [(67, .agg #[.int .u32 0, .int .u8 0])] (fun a2bu h2bv => ?_)
         have hS2bw := hS2bm.b2
         refine WL.oq h2bv rfl ?_
         refine owp_st 0 [.int .u32 0, .int .u8 0] h2bv rfl rfl rfl hS2bw [.int .u32 0, .int .u8 0] (fun a2bx W2bz h2by hS2c0 => ?_)
         refine WL.dn ?_
         refine WL.start ?_
         refine WL.bl 3 3 h2by [(11, i6 (IntKind.i64.wrap (x270 - 1))), (33, i6 (IntKind.i64.wrap (x270 - 1))), (32, i6 x270)] (fun a2c1 h2c2 => ?_)
         refine WL.dn ?_
         have hS2c3 := hS2c0.b1
         have hS2c4 := hS2c3.b2
         exact ⟨kk271, by omega, y2bn, A2bq, c2br, M2bk, 0, 0, IntKind.i64.wrap (x270 - 1), h2c2.keep ⟨rfl, rfl, rfl, rfl, rfl, rfl, rfl, rfl, trivial⟩, ⟨H⟩, ⟨by omega⟩, ⟨hS2c4⟩, ⟨hr2bp⟩⟩
        ·rw [if_neg c2be] at H
         cases H
      ·rw [if_neg c2ar] at H
       have hb_ : ((mget x242 (⟨bOr .u32 (shlI .u32 x26y 1) (bAnd .u32 (IntKind.u32.wrap (shrI .u8 (gt (0 : Int) p0 x25x) x270)) 1), IntKind.u8.wrap (x26z + 1)⟩ : S116)).isSome) = false := (Bool.eq_false_iff.2 c2ar)
       try rw [hb_] at h2aq
       clear hb_
       refine WL.sk h2aq rfl rfl (fun a2c5 h2c6 => ?_)
       refine WL.sk h2c6 rfl rfl (fun a2c7 h2c8 => ?_)
       refine WL.bl 2 6 h2c8 [(54, .bool false), (59, .bool false)] (fun a2c9 h2ca => ?_)
       refine WL.dn ?_
       refine wp_else h2ca rfl ?_
       refine wp_seq ?_
       refine WL.start ?_
       refine WL.bl 2 2 h2ca [(60, .bool false), (61, .bool false)] (fun a2cb h2cc => ?_)
       refine WL.dn ?_
       refine wp_else h2cc rfl ?_
       refine wp_skip ?_
       refine WL.start ?_
       refine WL.bl 3 3 h2cc [(11, i6 (IntKind.i64.wrap (x270 - 1))), (33, i6 (IntKind.i64.wrap (x270 - 1))), (32, i6 x270)] (fun a2cd h2ce => ?_)
       refine WL.dn ?_
       have hS2cf := hS2ak.b1
       have hS2cg := hS2cf.b2
       have hS2ch := hS2cg.b2
       exact ⟨kk271, by omega, x26t, A26u, c26v, M26w, bOr .u32 (shlI .u32 x26y 1) (bAnd .u32 (IntKind.u32.wrap (shrI .u8 (gt (0 : Int) p0 x25x) x270)) 1), IntKind.u8.wrap (x26z + 1), IntKind.i64.wrap (x270 - 1), h2ce.keep ⟨rfl, rfl, rfl, rfl, rfl, rfl, rfl, rfl, trivial⟩, ⟨H⟩, ⟨by omega⟩, ⟨hS2ch⟩, ⟨hr26x⟩⟩
     ·rw [if_neg c29l] at H
      cases H
    ·rw [if_neg c274] at H
     have hb_ : (decide (x270 ≥ 0)) = false := decide_eq_false c274
     try rw [hb_] at h273
     clear hb_
     refine wp_else h273 rfl ?_
     refine wp_exit ?_
     refine WL.start ?_
     refine WL.bl 2 2 h273 [(26, i6 (IntKind.i64.wrap (x25x + 1))), (68, i6 (IntKind.i64.wrap (x25x + 1)))] (fun a2ci h2cj => ?_)
     refine WL.dn ?_
     exact ⟨kk271, by omega, x26t, A26u, c26v, M26w, x26y, x26z, IntKind.i64.wrap (x25x + 1), h2cj.keep ⟨rfl, rfl, rfl, rfl, rfl, rfl, trivial⟩, ⟨H⟩, ⟨by omega⟩, ⟨hS26r⟩, ⟨hr26x⟩⟩
   ·rw [if_neg c266] at H
    cases H
  ·rw [if_neg c265] at H
   have hb_ : (decide (x25x < (p0.length : Int))) = false := decide_eq_false c265
   try rw [hb_] at h264
   clear hb_
   refine wp_else h264 rfl ?_
   refine wp_exit ?_
   refine wp_seq ?_
   refine wp_seq ?_
   refine WL.start ?_
   refine WL.bl 1 1 h264 [(69, .pointer (some ⟨g25h, 1, none⟩))] (fun a2ck h2cl => ?_)
   have hS2cm := hS25o.b2
   refine WL.oq h2cl rfl ?_
   refine owp_rn (.int .u8 x25w) h2cl rfl (run_load1 rfl rfl Tryd.underlying5 rfl (hS2cm.cell (i := 1) rfl)) (fun a2cn h2co => ?_)
   refine WL.bl 2 4 h2co [(72, .bool (decide (x25w > 7))), (71, .bool (decide (x25w > 7)))] (fun a2cp h2cq => ?_)
   clear h264 a263 h2cl a2ck h2co a2cn
   by_cases c2cr : x25w > 7
   ·rw [if_pos c2cr] at H
    have hb_ : (decide (x25w > 7)) = true := decide_eq_true c2cr
    try rw [hb_] at h2cq
    clear hb_
    refine WL.sk h2cq rfl rfl (fun a2cs h2ct => ?_)
    refine WL.sk h2ct rfl rfl (fun a2cu h2cv => ?_)
    refine WL.sk h2cv rfl rfl (fun a2cw h2cx => ?_)
    refine WL.sk h2cx rfl rfl (fun a2cy h2cz => ?_)
    refine WL.sk h2cz rfl rfl (fun a2d0 h2d1 => ?_)
    refine WL.sk h2d1 rfl rfl (fun a2d2 h2d3 => ?_)
    refine WL.sk h2d3 rfl rfl (fun a2d4 h2d5 => ?_)
    refine WL.bl 1 12 h2d5 [(80, .bool true)] (fun a2d6 h2d7 => ?_)
    refine WL.dn ?_
    refine wp_then h2d7 rfl ?_
    refine wp_seq ?_
    refine WL.start ?_
    refine WL.bl 2 2 h2d7 [(3, i6 3), (2, .string (mkS []))] (fun a2d8 h2d9 => ?_)
    refine WL.dn ?_
    refine wp_ret ?_
    have hS2da := hS2cm.drop_
    have hS2db := hS2da.drop_
    have hS2dc := hS2db.drop_
    obtain ⟨rfl, rfl⟩ := ret2 H
    repeat (first | with_reducible refine t1 ?_ | with_reducible refine t2 ?_ | with_reducible refine t3 ?_)
    refine bret (.tuple #[.string (mkS []), i6 3]) h2d9 ?_
    exact ⟨rfl, hS2dc⟩
   ·rw [if_neg c2cr] at H
    have hb_ : (decide (x25w > 7)) = false := decide_eq_false c2cr
    try rw [hb_] at h2cq
    clear hb_
    refine WL.oq h2cq rfl (owp_rk (pt g25h) h2cq rfl (fun a2dd h2de => ?_))
    refine WL.oq h2de rfl ?_
    refine owp_rn (.int .u32 x25v) h2de rfl (run_load1 rfl rfl Tryd.underlying29 rfl (hS2cm.cell (i := 0) rfl)) (fun a2df h2dg => ?_)
    refine WL.oq h2dg rfl (owp_rk (.pointer (some ⟨g25h, 1, none⟩)) h2dg rfl (fun a2dh h2di => ?_))
    refine WL.oq h2di rfl ?_
    refine owp_rn (.int .u8 x25w) h2di rfl (run_load1 rfl rfl Tryd.underlying5 rfl (hS2cm.cell (i := 1) rfl)) (fun a2dj h2dk => ?_)
    clear h2cq a2cp h2de a2dd h2dg a2df h2di a2dh
    by_cases c2dl : 0 ≤ x25w
    ·rw [if_pos c2dl] at H
     refine WL.oq h2dk rfl ?_
     refine owp_rn (.int .u32 (shlI .u32 1 x25w)) h2dk rfl (run_shl rfl rfl rfl (by assumption)) (fun a2dm h2dn => ?_)
     refine WL.oq h2dn rfl (owp_rk (.int .u32 (IntKind.u32.wrap ((shlI .u32 1 x25w) - 1))) h2dn rfl (fun a2do h2dp => ?_))
     refine WL.oq h2dp rfl (owp_rk (.bool (!decide (x25v = (IntKind.u32.wrap ((shlI .u32 1 x25w) - 1))))) h2dp rfl (fun a2dq h2dr => ?_))
     refine WL.bl 1 12 h2dr [(80, .bool (!decide (x25v = (IntKind.u32.wrap ((shlI .u32 1 x25w) - 1)))))] (fun a2ds h2dt => ?_)
     refine WL.dn ?_
     clear h2dk a2dj h2dn a2dm h2dp a2do h2dr a2dq
     by_cases c2du : x25v = (IntKind.u32.wrap ((shlI .u32 1 x25w) - 1))
     ·rw [if_pos c2du] at H
      have hb_ : (decide (x25v = (IntKind.u32.wrap ((shlI .u32 1 x25w) - 1)))) = true := decide_eq_true c2du
      try rw [hb_] at h2dt
      clear hb_
      refine wp_else h2dt rfl ?_
      refine wp_skip ?_
      refine wp_seq ?_
      refine WL.start ?_
      refine WL.bl 1 1 h2dt [(81, .slice A25r x25q.length c25s)] (fun a2dv h2dw => ?_)
      have hS2dx := hS2cm.b2
      refine WL.oq h2dw rfl ?_
      refine owp_rn (.string (mkS (toS x25q))) h2dw rfl (run_tostr rfl rfl hr25u.rds (fun _ _ hk_ => (hS2dx).pool.kn hk_) Tryd.underlying22 Tryd.underlying5 Tryd.underlying9) (fun a2dy h2dz => ?_)
      refine WL.bl 2 4 h2dz [(3, i6 0), (2, .string (mkS (toS x25q)))] (fun a2e0 h2e1 => ?_)
      refine WL.dn ?_
      refine wp_ret ?_
      have hS2e2 := hS2dx.drop_
      have hS2e3 := hS2e2.drop_
      have hS2e4 := hS2e3.drop_
      obtain ⟨rfl, rfl⟩ := ret2 H
      repeat (first | with_reducible refine t1 ?_ | with_reducible refine t2 ?_ | with_reducible refine t3 ?_)
      refine bret (.tuple #[.string (mkS (toS x25q)), i6 0]) h2e1 ?_
      exact ⟨rfl, hS2e4⟩
     ·rw [if_neg c2du] at H
      have hb_ : (decide (x25v = (IntKind.u32.wrap ((shlI .u32 1 x25w) - 1)))) = false := decide_eq_false c2du
      try rw [hb_] at h2dt
      clear hb_
      refine wp_then h2dt rfl ?_
      refine wp_seq ?_
      refine WL.start ?_
      refine WL.bl 2 2 h2dt [(3, i6 3), (2, .string (mkS []))] (fun a2e5 h2e6 => ?_)
      refine WL.dn ?_
      refine wp_ret ?_
      have hS2e7 := hS2cm.drop_
      have hS2e8 := hS2e7.drop_
      have hS2e9 := hS2e8.drop_
      obtain ⟨rfl, rfl⟩ := ret2 H
      repeat (first | with_reducible refine t1 ?_ | with_reducible refine t2 ?_ | with_reducible refine t3 ?_)
      refine bret (.tuple #[.string (mkS []), i6 3]) h2e6 ?_
      exact ⟨rfl, hS2e9⟩
    ·rw [if_neg c2dl] at H
     cases H

/-! ### (*louver/hpack.reader).text -/
def hpack_reader_text.f (k : Nat) (p0 : S66) : Option ((List UInt8) × S66) := if (p0.f1.length : Int) = 0 then (some (([] : List UInt8), (⟨p0.f0, p0.f1, true⟩ : S66))) else (if 0 < (p0.f1.length : Int) then (bnd2 (hpack_reader_number.f k p0 7) fun r180 r181 => (if r180 > (r181.f1.length : Int) then (some (([] : List UInt8), (⟨r181.f0, ([] : List Int), true⟩ : S66))) else (if 0 ≤ r180 then (if r180 ≤ (r181.f1.length : Int) then (if (gt (0 : Int) p0.f1 (0 : Int)) < 128 then (some (toS (r181.f1.take r180.toNat), (⟨r181.f0, r181.f1.drop r180.toNat, r181.f2⟩ : S66))) else (bnd2 (huffman_Decode.f k (r181.f1.take r180.toNat)) fun r1ar r1as => (if r181.f2 = true then (some (r1ar, (⟨r181.f0, r181.f1.drop r180.toNat, true⟩ : S66))) else (some (r1ar, (⟨r181.f0, r181.f1.drop r180.toNat, !decide (r1as = 0)⟩ : S66)))))) else (none)) else (none)))) else (none))
set_option maxHeartbeats 20000000 in
set_option maxRecDepth 100000 in
theorem hpack_reader_text.calls (k : Nat) {b : Nat} {w0 W : World} {R : Frag} {Fs : List Frag} {p0 : S66}  {v0 : Value} {M0 : Frag} {gp0 : Nat} {r0q : (List UInt8)} {r1q : S66} (hp0 : Ptr (k66 gp0) 66 b w0 R v0 p0 M0) (hg1 : Rds (kInt .u8) b w0 [] (.slice (some ⟨1, 0, none⟩) 257 257) G1) (H : hpack_reader_text.f k p0 = some (r0q, r1q)) (hS : St b w0 W R (M0 :: Fs)) :
  Calls Tryd.prog 54 ([v0] : List Value).toArray W (fun e W' => ∃ (O0q : Frag), e = .returned (.string (mkS r0q)) ∧ Ptr (k66 gp0) 66 b w0 R v0 r1q O0q ∧ St b w0 W' R (O0q :: Fs)) := by
 unfold hpack_reader_text.f at H
 refine calls_enter Tryd.func54 rfl 74 rfl (by kernel_rfl) (fun a h => ?_)
 refine wp_seq ?_
 refine WL.start ?_
 refine WL.bl 1 1 h [(2, .string (mkS []))] (fun a16d h16e => ?_)
 refine WL.dn ?_
 refine wp_seq ?_
 refine wp_seq ?_
 refine WL.start ?_
 refine WL.bl 1 1 h16e [(8, v0)] (fun a16f h16g => ?_)
 obtain ⟨g16i, A16l, c16m, M16j, rfl, hr16k, hr16n, hS16h⟩ := k66qop hp0 hS
 refine WL.bl 2 3 h16g [(10, .pointer (some ⟨g16i, 1, none⟩)), (9, pt g16i)] (fun a16o h16p => ?_)
 refine WL.oq h16p rfl ?_
 refine owp_rn (.slice A16l p0.f1.length c16m) h16p rfl (run_load1 rfl rfl Tryd.underlying22 rfl (hS16h.cell (i := 1) rfl)) (fun a16q h16r => ?_)
 refine WL.bl 2 6 h16r [(13, .bool (decide ((p0.f1.length : Int) = 0))), (12, i6 (p0.f1.length : Int))] (fun a16s h16t => ?_)
 refine WL.dn ?_
 clear h16e a16d h16g a16f h16p a16o h16r a16q
 by_cases c16u : (p0.f1.length : Int) = 0
 ·rw [if_pos c16u] at H
  have hb_ : (decide ((p0.f1.length : Int) = 0)) = true := decide_eq_true c16u
  try rw [hb_] at h16t
  clear hb_
  refine wp_then h16t rfl ?_
  refine wp_seq ?_
  refine WL.start ?_
  refine WL.bl 3 3 h16t [(16, .pointer (some ⟨g16i, 2, none⟩)), (15, pt g16i), (14, pt g16i)] (fun a16v h16w => ?_)
  refine WL.oq h16w rfl ?_
  refine owp_st 2 [.bool true] h16w rfl rfl rfl hS16h [(pt gp0), .slice A16l p0.f1.length c16m, .bool true] (fun a16x W16z h16y hS170 => ?_)
  refine WL.dn ?_
  refine wp_seq ?_
  refine WL.start ?_
  refine WL.bl 1 1 h16y [(2, .string (mkS []))] (fun a171 h172 => ?_)
  refine WL.dn ?_
  refine wp_ret ?_
  have hS173 := hS170.b1
  have hS174 := hS173.b1
  obtain ⟨M175, hp176, hS177⟩ := k66qfo (⟨p0.f0, p0.f1, true⟩ : S66) hr16k hr16n hS174
  obtain ⟨rfl, rfl⟩ := ret2 H
  repeat (first | with_reducible refine t1 ?_ | with_reducible refine t2 ?_ | with_reducible refine t3 ?_)
  refine bret (.string (mkS [])) h172 ?_
  exact ⟨M175, rfl, hp176, hS177⟩
 ·rw [if_neg c16u] at H
  have hb_ : (decide ((p0.f1.length : Int) = 0)) = false := decide_eq_false c16u
  try rw [hb_] at h16t
  clear hb_
  refine wp_else h16t rfl ?_
  refine wp_skip ?_
  refine wp_seq ?_
  refine WL.start ?_
  refine WL.bl 3 3 h16t [(19, .pointer (some ⟨g16i, 1, none⟩)), (18, pt g16i), (17, pt g16i)] (fun a178 h179 => ?_)
  refine WL.oq h179 rfl ?_
  refine owp_rn (.slice A16l p0.f1.length c16m) h179 rfl (run_load1 rfl rfl Tryd.underlying22 rfl (hS16h.cell (i := 1) rfl)) (fun a17a h17b => ?_)
  clear h16t a16s h179 a178
  by_cases c17c : 0 < (p0.f1.length : Int)
  ·rw [if_pos c17c] at H
   have hi17f : 0 ≤ (0 : Int) := by first | assumption | omega
   have hi17g : 0 < (p0.f1.length : Int) := by first | assumption | omega
   obtain ⟨ad17d, _, ha17e, -, -⟩ := Rds.elemAny hr16n hi17f (gt_get (z := (0 : Int)) hi17f hi17g)
   refine WL.oq h17b rfl ?_
   refine owp_rn (.pointer (some (ad17d.add ((0 : Int).toNat * 1)))) h17b rfl (run_idx (ad := ad17d) (sz := 1) rfl (by rw [← ha17e]; rfl) rfl Tryd.underlying22 (by kernel_rfl) hi17f hi17g) (fun a17h h17i => ?_)
   obtain ⟨ad17j, cs17k, ha17l, hr17n, hc17m⟩ := Rds.elemAny hr16n hi17f (gt_get (z := (0 : Int)) hi17f hi17g)
   rw [ha17e] at ha17l; obtain rfl := Option.some.inj ha17l
   obtain rfl : cs17k = [.int .u8 (gt (0 : Int) p0.f1 (0 : Int))] := hr17n
   refine WL.oq h17i rfl ?_
   refine owp_rn (.int .u8 (gt (0 : Int) p0.f1 (0 : Int))) h17i rfl (run_load1 rfl rfl Tryd.underlying5 rfl (cell0 (hc17m _ (fun _ _ hk_ => hS16h.kn hk_)))) (fun a17o h17p => ?_)
   refine WL.bl 1 7 h17p [(3, .int .u8 (gt (0 : Int) p0.f1 (0 : Int)))] (fun a17q h17r => ?_)
   refine WL.dn ?_
   refine wp_seq ?_
   refine WL.start ?_
   refine WL.bl 1 1 h17r [(23, pt g16i)] (fun a17s h17t => ?_)
   have hS17u := hS16h.b1
   have hS17v := hS17u.b1
   obtain ⟨M17w, hp17x, hS17y⟩ := k66qfo p0 hr16k hr16n hS17v
   obtain ⟨r180, r181, A17z, H⟩ := bind2 H
   refine WL.oq h17t rfl ?_
   refine owp_call [(pt g16i), i6 7] h17t rfl (by kernel_rfl) rfl Tryd.func37 (by kernel_rfl) rfl (by kernel_rfl) (hpack_reader_number.calls k hp17x A17z hS17y) (fun e183 W182 hp184 => ?_)
   obtain ⟨M187, rfl, hr188, hS189⟩ := hp184
   refine ⟨_, rfl, fun a185 h186 => ?_⟩
   refine WL.bl 1 3 h186 [(4, i6 r180)] (fun a18a h18b => ?_)
   refine WL.dn ?_
   refine wp_seq ?_
   refine wp_seq ?_
   refine WL.start ?_
   refine WL.bl 2 2 h18b [(26, pt g16i), (25, i6 r180)] (fun a18c h18d => ?_)
   obtain ⟨A18h, c18i, M18f, hr18g, hr18j, hS18e⟩ := k66qoq hr188 hS189
   refine WL.bl 2 4 h18d [(28, .pointer (some ⟨g16i, 1, none⟩)), (27, pt g16i)] (fun a18k h18l => ?_)
   refine WL.oq h18l rfl ?_
   refine owp_rn (.slice A18h r181.f1.length c18i) h18l rfl (run_load1 rfl rfl Tryd.underlying22 rfl (hS18e.cell (i := 1) rfl)) (fun a18m h18n => ?_)
   refine WL.bl 2 7 h18n [(31, .bool (decide (r180 > (r181.f1.length : Int)))), (30, i6 (r181.f1.length : Int))] (fun a18o h18p => ?_)
   refine WL.dn ?_
   clear h17b a17a h17i a17h h17p a17o h17r a17q h17t a17s h186 a185 h18b a18a h18d a18c h18l a18k h18n a18m
   by_cases c18q : r180 > (r181.f1.length : Int)
   ·rw [if_pos c18q] at H
    have hb_ : (decide (r180 > (r181.f1.length : Int))) = true := decide_eq_true c18q
    try rw [hb_] at h18p
    clear hb_
    refine wp_then h18p rfl ?_
    refine wp_seq ?_
    refine WL.start ?_
    refine WL.bl 3 3 h18p [(34, .pointer (some ⟨g16i, 2, none⟩)), (33, pt g16i), (32, pt g16i)] (fun a18r h18s => ?_)
    refine WL.oq h18s rfl ?_
    refine owp_st 2 [.bool true] h18s rfl rfl rfl hS18e [(pt gp0), .slice A18h r181.f1.length c18i, .bool true] (fun a18t W18v h18u hS18w => ?_)
    refine WL.dn ?_
    refine wp_seq ?_
    refine WL.start ?_
    refine WL.bl 3 3 h18u [(37, .pointer (some ⟨g16i, 1, none⟩)), (36, pt g16i), (35, pt g16i)] (fun a18x h18y => ?_)
    refine WL.oq h18y rfl ?_
    refine owp_st 1 [.slice none 0 0] h18y rfl rfl rfl hS18w [(pt gp0), .slice none 0 0, .bool true] (fun a18z W191 h190 hS192 => ?_)
    refine WL.dn ?_
    refine wp_seq ?_
    refine WL.start ?_
    refine WL.bl 1 1 h190 [(2, .string (mkS []))] (fun a193 h194 => ?_)
    refine WL.dn ?_
    refine wp_ret ?_
    have hS195 := hS192.b1
    have hS196 := hS195.b1
    obtain ⟨M197, hp198, hS199⟩ := k66qfo (⟨r181.f0, ([] : List Int), true⟩ : S66) (y1 := []) hr18g Rds.nil hS196
    obtain ⟨rfl, rfl⟩ := ret2 H
    repeat (first | with_reducible refine t1 ?_ | with_reducible refine t2 ?_ | with_reducible refine t3 ?_)
    refine bret (.string (mkS [])) h194 ?_
    exact ⟨M197, rfl, hp198, hS199⟩
   ·rw [if_neg c18q] at H
    have hb_ : (decide (r180 > (r181.f1.length : Int))) = false := decide_eq_false c18q
    try rw [hb_] at h18p
    clear hb_
    refine wp_else h18p rfl ?_
    refine wp_skip ?_
    refine wp_seq ?_
    refine WL.start ?_
    refine WL.bl 3 3 h18p [(40, .pointer (some ⟨g16i, 1, none⟩)), (39, pt g16i), (38, pt g16i)] (fun a19a h19b => ?_)
    refine WL.oq h19b rfl ?_
    refine owp_rn (.slice A18h r181.f1.length c18i) h19b rfl (run_load1 rfl rfl Tryd.underlying22 rfl (hS18e.cell (i := 1) rfl)) (fun a19c h19d => ?_)
    refine WL.bl 1 5 h19d [(42, i6 r180)] (fun a19e h19f => ?_)
    clear h18p a18o h19b a19a h19d a19c
    by_cases c19g : 0 ≤ r180
    ·rw [if_pos c19g] at H
     by_cases c19h : r180 ≤ (r181.f1.length : Int)
     ·rw [if_pos c19h] at H
      refine WL.oq h19f rfl ?_
      refine owp_rn (sliced A18h (0 : Int).toNat r180.toNat c18i 1) h19f rfl (run_cut (l := 0) (h := r180) rfl rfl Tryd.underlying22 (by kernel_rfl) rfl ⟨_, rfl⟩ (by first | assumption | omega) (by first | assumption | omega) (by have q_ := Rds.cap hr18j; omega) (by have q_ := Rds.cap hr18j; omega)) (fun a19j h19k => ?_)
      have hx19i := Rds.cut hr18j (l := (0 : Int).toNat) (h := r180.toNat) (by omega) (by omega)
      obtain ⟨v19l, ev19m⟩ : ∃ y_, y_ = sliced A18h (0 : Int).toNat r180.toNat c18i 1 := ⟨_, rfl⟩
      have hx_ : Rds (kInt .u8) b w0 R v19l (r181.f1.take r180.toNat) := hx19i.as_ ev19m.symm (by simp)
      rw [← ev19m] at h19k; clear ev19m hx19i
      have hx19i := hx_; clear hx_
      obtain ⟨A19n, c19o, rfl⟩ := hx19i.form
      refine WL.bl 1 7 h19k [(5, .slice A19n (r181.f1.take r180.toNat).length c19o)] (fun a19p h19q => ?_)
      refine WL.dn ?_
      refine wp_seq ?_
      refine WL.start ?_
      refine WL.bl 4 4 h19q [(47, .pointer (some ⟨g16i, 1, none⟩)), (46, pt g16i), (45, pt g16i), (44, pt g16i)] (fun a19r h19s => ?_)
      refine WL.oq h19s rfl ?_
      refine owp_rn (.slice A18h r181.f1.length c18i) h19s rfl (run_load1 rfl rfl Tryd.underlying22 rfl (hS18e.cell (i := 1) rfl)) (fun a19t h19u => ?_)
      refine WL.bl 1 6 h19u [(49, i6 r180)] (fun a19v h19w => ?_)
      refine WL.oq h19w rfl ?_
      refine owp_rn (sliced A18h r180.toNat (r181.f1.length : Int).toNat c18i 1) h19w rfl (run_cut (l := r180) (h := (r181.f1.length : Int)) rfl rfl Tryd.underlying22 (by kernel_rfl) ⟨_, rfl⟩ rfl (by first | assumption | omega) (by first | assumption | omega) (by have q_ := Rds.cap hr18j; omega) (by have q_ := Rds.cap hr18j; omega)) (fun a19y h19z => ?_)
      have hx19x := Rds.cut hr18j (l := r180.toNat) (h := (r181.f1.length : Int).toNat) (by omega) (by omega)
      obtain ⟨v1a0, ev1a1⟩ : ∃ y_, y_ = sliced A18h r180.toNat (r181.f1.length : Int).toNat c18i 1 := ⟨_, rfl⟩
      have hx_ : Rds (kInt .u8) b w0 R v1a0 (r181.f1.drop r180.toNat) := hx19x.as_ ev1a1.symm (by simp)
      rw [← ev1a1] at h19z; clear ev1a1 hx19x
      have hx19x := hx_; clear hx_
      obtain ⟨A1a2, c1a3, rfl⟩ := hx19x.form
      refine WL.bl 2 9 h19z [(52, .pointer (some ⟨g16i, 1, none⟩)), (51, pt g16i)] (fun a1a4 h1a5 => ?_)
      refine WL.oq h1a5 rfl ?_
      refine owp_st 1 [.slice A1a2 (r181.f1.drop r180.toNat).length c1a3] h1a5 rfl rfl rfl hS18e [(pt gp0), .slice A1a2 (r181.f1.drop r180.toNat).length c1a3, .bool r181.f2] (fun a1a6 W1a8 h1a7 hS1a9 => ?_)
      refine WL.dn ?_
      refine wp_seq ?_
      refine wp_seq ?_
      refine WL.start ?_
      refine WL.bl 2 2 h1a7 [(54, .bool (decide ((gt (0 : Int) p0.f1 (0 : Int)) < 128))), (53, .int .u8 (gt (0 : Int) p0.f1 (0 : Int)))] (fun a1aa h1ab => ?_)
      refine WL.dn ?_
      clear h19f a19e h19k a19j h19q a19p h19s a19r h19u a19t h19w a19v h19z a19y h1a5 a1a4 h1a7 a1a6
      by_cases c1ac : (gt (0 : Int) p0.f1 (0 : Int)) < 128
      ·rw [if_pos c1ac] at H
       have hb_ : (decide ((gt (0 : Int) p0.f1 (0 : Int)) < 128)) = true := decide_eq_true c1ac
       try rw [hb_] at h1ab
       clear hb_
       refine wp_then h1ab rfl ?_
       refine wp_seq ?_
       refine WL.start ?_
       refine WL.bl 1 1 h1ab [(55, .slice A19n (r181.f1.take r180.toNat).length c19o)] (fun a1ad h1ae => ?_)
       refine WL.oq h1ae rfl ?_
       refine owp_rn (.string (mkS (toS (r181.f1.take r180.toNat)))) h1ae rfl (run_tostr rfl rfl hx19i (fun _ _ hk_ => hS1a9.kn hk_) Tryd.underlying22 Tryd.underlying5 Tryd.underlying9) (fun a1af h1ag => ?_)
       refine WL.bl 1 3 h1ag [(2, .string (mkS (toS (r181.f1.take r180.toNat))))] (fun a1ah h1ai => ?_)
       refine WL.dn ?_
       refine wp_ret ?_
       have hS1aj := hS1a9.b1
       have hS1ak := hS1aj.b1
       obtain ⟨M1al, hp1am, hS1an⟩ := k66qfo (⟨r181.f0, r181.f1.drop r180.toNat, r181.f2⟩ : S66) hr18g hx19x hS1ak
       obtain ⟨rfl, rfl⟩ := ret2 H
       repeat (first | with_reducible refine t1 ?_ | with_reducible refine t2 ?_ | with_reducible refine t3 ?_)
       refine bret (.string (mkS (toS (r181.f1.take r180.toNat)))) h1ai ?_
       exact ⟨M1al, rfl, hp1am, hS1an⟩
      ·rw [if_neg c1ac] at H
       have hb_ : (decide ((gt (0 : Int) p0.f1 (0 : Int)) < 128)) = false := decide_eq_false c1ac
       try rw [hb_] at h1ab
       clear hb_
       refine wp_else h1ab rfl ?_
       refine wp_skip ?_
       refine wp_seq ?_
       refine WL.start ?_
       refine WL.bl 1 1 h1ab [(58, .slice A19n (r181.f1.take r180.toNat).length c19o)] (fun a1ao h1ap => ?_)
       obtain ⟨r1ar, r1as, A1aq, H⟩ := bind2 H
       refine WL.oq h1ap rfl ?_
       refine owp_call [.slice A19n (r181.f1.take r180.toNat).length c19o] h1ap rfl (by kernel_rfl) rfl Tryd.func59 (by kernel_rfl) rfl (by kernel_rfl) (huffman_Decode.calls k hx19i hg1 A1aq hS1a9) (fun e1au W1at hp1av => ?_)
       obtain ⟨rfl, hS1ay⟩ := hp1av
       refine ⟨_, rfl, fun a1aw h1ax => ?_⟩
       refine WL.bl 5 7 h1ax [(7, i6 r1as), (6, .string (mkS r1ar)), (61, i6 r1as), (60, .string (mkS r1ar)), (57, .tuple #[.string (mkS r1ar), i6 r1as])] (fun a1az h1b0 => ?_)
       refine WL.dn ?_
       refine wp_seq ?_
       refine WL.start ?_
       refine WL.bl 4 4 h1b0 [(65, .pointer (some ⟨g16i, 2, none⟩)), (64, pt g16i), (63, pt g16i), (62, pt g16i)] (fun a1b1 h1b2 => ?_)
       refine WL.oq h1b2 rfl ?_
       refine owp_rn (.bool r181.f2) h1b2 rfl (run_load1 rfl rfl Tryd.underlying4 rfl (hS1ay.cell (i := 2) rfl)) (fun a1b3 h1b4 => ?_)
       refine WL.bl 1 6 h1b4 [(67, .bool r181.f2)] (fun a1b5 h1b6 => ?_)
       clear h1ab a1aa h1ap a1ao h1ax a1aw h1b0 a1az h1b2 a1b1 h1b4 a1b3
       by_cases c1b7 : r181.f2 = true
       ·rw [if_pos c1b7] at H
        have hb_ : r181.f2 = true := c1b7
        try rw [hb_] at h1b6
        clear hb_
        refine WL.sk h1b6 rfl rfl (fun a1b8 h1b9 => ?_)
        refine WL.sk h1b9 rfl rfl (fun a1ba h1bb => ?_)
        refine WL.bl 3 11 h1bb [(72, .pointer (some ⟨g16i, 2, none⟩)), (71, pt g16i), (70, .bool true)] (fun a1bc h1bd => ?_)
        refine WL.oq h1bd rfl ?_
        refine owp_st 2 [.bool true] h1bd rfl rfl rfl hS1ay [(pt gp0), .slice A1a2 (r181.f1.drop r180.toNat).length c1a3, .bool true] (fun a1be W1bg h1bf hS1bh => ?_)
        refine WL.dn ?_
        refine wp_seq ?_
        refine WL.start ?_
        refine WL.bl 2 2 h1bf [(2, .string (mkS r1ar)), (73, .string (mkS r1ar))] (fun a1bi h1bj => ?_)
        refine WL.dn ?_
        refine wp_ret ?_
        have hS1bk := hS1bh.b1
        have hS1bl := hS1bk.b1
        obtain ⟨M1bm, hp1bn, hS1bo⟩ := k66qfo (⟨r181.f0, r181.f1.drop r180.toNat, true⟩ : S66) hr18g hx19x hS1bl
        obtain ⟨rfl, rfl⟩ := ret2 H
        repeat (first | with_reducible refine t1 ?_ | with_reducible refine t2 ?_ | with_reducible refine t3 ?_)
        refine bret (.string (mkS r1ar)) h1bj ?_
        exact ⟨M1bm, rfl, hp1bn, hS1bo⟩
       ·rw [if_neg c1b7] at H
        have hb_ : r181.f2 = false := (Bool.eq_false_iff.2 c1b7)
        try rw [hb_] at h1b6
        clear hb_
        refine WL.oq h1b6 rfl (owp_rk (i6 r1as) h1b6 rfl (fun a1bp h1bq => ?_))
        refine WL.oq h1bq rfl (owp_rk (.bool (!decide (r1as = 0))) h1bq rfl (fun a1br h1bs => ?_))
        refine WL.bl 3 11 h1bs [(72, .pointer (some ⟨g16i, 2, none⟩)), (71, pt g16i), (70, .bool (!decide (r1as = 0)))] (fun a1bt h1bu => ?_)
        refine WL.oq h1bu rfl ?_
        refine owp_st 2 [.bool (!decide (r1as = 0))] h1bu rfl rfl rfl hS1ay [(pt gp0), .slice A1a2 (r181.f1.drop r180.toNat).length c1a3, .bool (!decide (r1as = 0))] (fun a1bv W1bx h1bw hS1by => ?_)
        refine WL.dn ?_
        refine wp_seq ?_
        refine WL.start ?_
        refine WL.bl 2 2 h1bw [(2, .string (mkS r1ar)), (73, .string (mkS r1ar))] (fun a1bz h1c0 => ?_)
        refine WL.dn ?_
        refine wp_ret ?_
        have hS1c1 := hS1by.b1
        have hS1c2 := hS1c1.b1
        obtain ⟨M1c3, hp1c4, hS1c5⟩ := k66qfo (⟨r181.f0, r181.f1.drop r180.toNat, !decide (r1as = 0)⟩ : S66) hr18g hx19x hS1c2
        obtain ⟨rfl, rfl⟩ := ret2 H
        repeat (first | with_reducible refine t1 ?_ | with_reducible refine t2 ?_ | with_reducible refine t3 ?_)
        refine bret (.string (mkS r1ar)) h1c0 ?_
        exact ⟨M1c3, rfl, hp1c4, hS1c5⟩
     ·rw [if_neg c19h] at H
      cases H
    ·rw [if_neg c19g] at H
     cases H
  ·rw [if_neg c17c] at H
   cases H

/-! ### (*louver/hpack.reader).field -/
def hpack_reader_field.f (k : Nat) (p0 : S66) (p1 : Int) : Option (S52 × S66) := bnd2 (hpack_reader_number.f k p0 p1) fun r17s r17t => (if r17s = 0 then (bnd2 (hpack_reader_text.f k r17t) fun r18a r18b => (bnd2 (hpack_reader_text.f k r18b) fun r18v r18w => (some ((⟨r18a, r18v, false⟩ : S52), r18w)))) else (bnd2 (dyntable_Table_At.f r17t.f0 r17s) fun r1a2 r1a3 => (if r17t.f2 = true then (bnd2 (hpack_reader_text.f k (⟨r17t.f0, r17t.f1, true⟩ : S66)) fun r1br r1bs => (some ((⟨r1a2.f0, r1br, false⟩ : S52), r1bs))) else (bnd2 (hpack_reader_text.f k (⟨r17t.f0, r17t.f1, !r1a3⟩ : S66)) fun r1dd r1de => (some ((⟨r1a2.f0, r1dd, false⟩ : S52), r1de))))))
set_option maxHeartbeats 20000000 in
set_option maxRecDepth 100000 in
theorem hpack_reader_field.calls (k : Nat) {b : Nat} {w0 W : World} {R : Frag} {Fs : List Frag} {p0 : S66} {p1 : Int}  {v0 : Value} {M0 : Frag} {gp0 : Nat} {r0q : S52} {r1q : S66} (hp0 : Ptr (k66 gp0) 66 b w0 R v0 p0 M0) (hg0 : Rds k52 b w0 [] (.slice (some ⟨0, 0, none⟩) 61 61) G0) (hg1 : Rds (kInt .u8) b w0 [] (.slice (some ⟨1, 0, none⟩) 257 257) G1) (H : hpack_reader_field.f k p0 p1 = some (r0q, r1q)) (hS : St b w0 W R (M0 :: Fs)) :
  Calls Tryd.prog 38 ([v0, i6 p1] : List Value).toArray W (fun e W' => ∃ (O0q : Frag), e = .returned (.agg #[.string (mkS r0q.f0), .string (mkS r0q.f1), .bool r0q.f2]) ∧ Ptr (k66 gp0) 66 b w0 R v0 r1q O0q ∧ St b w0 W' R (O0q :: Fs)) := by
 unfold hpack_reader_field.f at H
 refine calls_enter Tryd.func38 rfl 44 rfl (by kernel_rfl) (fun a h => ?_)
 refine wp_seq ?_
 refine WL.start ?_
 refine WL.oq h rfl ?_
 refine owp_nw (fun g_ => (pt g_)) (.cells ([.string (mkS []), .string (mkS []), .bool false] : List Value).toArray 52 (0, 0)) h rfl hS (fun a17e W17g g17h h17f hS17i => ?_)
 refine WL.dn ?_
 refine wp_seq ?_
 refine WL.start ?_
 refine WL.oq h17f rfl ?_
 refine owp_nw (fun g_ => (pt g_)) (.cells ([.string (mkS []), .string (mkS []), .bool false] : List Value).toArray 52 (0, 0)) h17f rfl hS17i (fun a17j W17l g17m h17k hS17n => ?_)
 refine WL.dn ?_
 refine wp_seq ?_
 refine WL.start ?_
 refine WL.bl 2 2 h17k [(10, i6 p1), (9, v0)] (fun a17o h17p => ?_)
 have hS17q := hS17n.b2
 obtain ⟨r17s, r17t, A17r, H⟩ := bind2 H
 refine WL.oq h17p rfl ?_
 refine owp_call [v0, i6 p1] h17p rfl (by kernel_rfl) rfl Tryd.func37 (by kernel_rfl) rfl (by kernel_rfl) (hpack_reader_number.calls k hp0 A17r hS17q) (fun e17v W17u hp17w => ?_)
 obtain ⟨M17z, rfl, hr180, hS181⟩ := hp17w
 refine ⟨_, rfl, fun a17x h17y => ?_⟩
 refine WL.bl 1 4 h17y [(6, i6 r17s)] (fun a182 h183 => ?_)
 refine WL.dn ?_
 refine wp_seq ?_
 refine wp_seq ?_
 refine WL.start ?_
 refine WL.bl 2 2 h183 [(13, .bool (decide (r17s = 0))), (12, i6 r17s)] (fun a184 h185 => ?_)
 refine WL.dn ?_
 clear h17f a17e h17k a17j h17p a17o h17y a17x h183 a182
 by_cases c186 : r17s = 0
 ·rw [if_pos c186] at H
  have hb_ : (decide (r17s = 0)) = true := decide_eq_true c186
  try rw [hb_] at h185
  clear hb_
  refine wp_then h185 rfl ?_
  refine WL.start ?_
  refine WL.bl 1 1 h185 [(14, v0)] (fun a187 h188 => ?_)
  obtain ⟨r18a, r18b, A189, H⟩ := bind2 H
  refine WL.oq h188 rfl ?_
  refine owp_call [v0] h188 rfl (by kernel_rfl) rfl Tryd.func54 (by kernel_rfl) rfl (by kernel_rfl) (hpack_reader_text.calls k hr180 hg1 A189 hS181) (fun e18d W18c hp18e => ?_)
  obtain ⟨M18h, rfl, hr18i, hS18j⟩ := hp18e
  refine ⟨_, rfl, fun a18f h18g => ?_⟩
  refine WL.bl 1 3 h18g [(16, pt g17m)] (fun a18k h18l => ?_)
  have hS18m := hS18j.b1
  refine WL.oq h18l rfl ?_
  refine owp_st 0 [.string (mkS r18a)] h18l rfl rfl rfl hS18m [.string (mkS r18a), .string (mkS []), .bool false] (fun a18n W18p h18o hS18q => ?_)
  refine WL.dn ?_
  refine wp_seq ?_
  refine WL.start ?_
  refine WL.bl 1 1 h18o [(40, v0)] (fun a18r h18s => ?_)
  have hS18t := hS18q.b1
  obtain ⟨r18v, r18w, A18u, H⟩ := bind2 H
  refine WL.oq h18s rfl ?_
  refine owp_call [v0] h18s rfl (by kernel_rfl) rfl Tryd.func54 (by kernel_rfl) rfl (by kernel_rfl) (hpack_reader_text.calls k hr18i hg1 A18u hS18t) (fun e18y W18x hp18z => ?_)
  obtain ⟨M192, rfl, hr193, hS194⟩ := hp18z
  refine ⟨_, rfl, fun a190 h191 => ?_⟩
  refine WL.bl 1 3 h191 [(42, .pointer (some ⟨g17m, 1, none⟩))] (fun a195 h196 => ?_)
  have hS197 := hS194.b1
  refine WL.oq h196 rfl ?_
  refine owp_st 1 [.string (mkS r18v)] h196 rfl rfl rfl hS197 [.string (mkS r18a), .string (mkS r18v), .bool false] (fun a198 W19a h199 hS19b => ?_)
  refine WL.dn ?_
  refine wp_seq ?_
  refine WL.start ?_
  refine WL.oq h199 rfl ?_
  refine owp_rn (.agg #[.string (mkS r18a), .string (mkS r18v), .bool false]) h199 rfl (run_loadN rfl rfl Tryd.underlying52 rfl (cs := [.string (mkS r18a), .string (mkS r18v), .bool false]) (by kernel_rfl) (hS19b.cells (vs := [.string (mkS r18a), .string (mkS r18v), .bool false]) rfl)) (fun a19c h19d => ?_)
  have hS19e := hS19b.b2
  refine WL.oq h19d rfl ?_
  refine owp_st 0 [.string (mkS r18a), .string (mkS r18v), .bool false] h19d rfl rfl rfl hS19e [.string (mkS r18a), .string (mkS r18v), .bool false] (fun a19f W19h h19g hS19i => ?_)
  refine WL.dn ?_
  refine wp_ret ?_
  have hS19j := hS19i.drop_
  have hS19k := hS19j.drop_
  obtain ⟨rfl, rfl⟩ := ret2 H
  repeat (first | with_reducible refine t1 ?_ | with_reducible refine t2 ?_ | with_reducible refine t3 ?_)
  refine body_ret (v := .agg #[.string (mkS r18a), .string (mkS r18v), .bool false]) h19g (by kernel_rfl) (res_one rfl ⟨_, rfl, loadVarN Tryd.underlying52 rfl (cs := [.string (mkS r18a), .string (mkS r18v), .bool false]) (by kernel_rfl) (hS19i.cells (vs := [.string (mkS r18a), .string (mkS r18v), .bool false]) rfl)⟩) ?_
  exact ⟨M192, rfl, hr193, hS19k⟩
 ·rw [if_neg c186] at H
  have hb_ : (decide (r17s = 0)) = false := decide_eq_false c186
  try rw [hb_] at h185
  clear hb_
  refine wp_else h185 rfl ?_
  refine wp_seq ?_
  refine WL.start ?_
  refine WL.bl 1 1 h185 [(18, v0)] (fun a19l h19m => ?_)
  obtain ⟨g19o, A19r, c19s, M19p, rfl, hr19q, hr19t, hS19n⟩ := k66qop hr180 hS181
  refine WL.bl 2 3 h19m [(20, pt g19o), (19, pt g19o)] (fun a19u h19v => ?_)
  refine WL.oq h19v rfl ?_
  refine owp_rn (pt gp0) h19v rfl (run_load1 rfl rfl Tryd.underlying59 rfl (hS19n.cell (i := 0) rfl)) (fun a19w h19x => ?_)
  refine WL.bl 1 5 h19x [(22, i6 r17s)] (fun a19y h19z => ?_)
  have hS1a0 := hS19n.b1
  obtain ⟨r1a2, r1a3, A1a1, H⟩ := bind2 H
  refine WL.oq h19z rfl ?_
  refine owp_call [(pt gp0), i6 r17s] h19z rfl (by kernel_rfl) rfl Tryd.func36 (by kernel_rfl) rfl (by kernel_rfl) (dyntable_Table_At.calls hr19q hg0 A1a1 hS1a0) (fun e1a5 W1a4 hp1a6 => ?_)
  obtain ⟨M1a9, rfl, hr1aa, hS1ab⟩ := hp1a6
  refine ⟨_, rfl, fun a1a7 h1a8 => ?_⟩
  refine WL.bl 3 9 h1a8 [(25, .bool r1a3), (24, .agg #[.string (mkS r1a2.f0), .string (mkS r1a2.f1), .bool r1a2.f2]), (17, .tuple #[.agg #[.string (mkS r1a2.f0), .string (mkS r1a2.f1), .bool r1a2.f2], .bool r1a3])] (fun a1ac h1ad => ?_)
  refine WL.oq h1ad rfl ?_
  refine owp_nw (fun g_ => (pt g_)) (.cells ([.string (mkS []), .string (mkS []), .bool false] : List Value).toArray 52 (0, 0)) h1ad rfl hS1ab (fun a1ae W1ag g1ah h1af hS1ai => ?_)
  refine WL.oq h1af rfl ?_
  refine owp_st 0 [.string (mkS r1a2.f0), .string (mkS r1a2.f1), .bool r1a2.f2] h1af rfl rfl rfl hS1ai [.string (mkS r1a2.f0), .string (mkS r1a2.f1), .bool r1a2.f2] (fun a1aj W1al h1ak hS1am => ?_)
  refine WL.bl 1 12 h1ak [(8, .bool r1a3)] (fun a1an h1ao => ?_)
  refine WL.dn ?_
  refine wp_seq ?_
  refine WL.start ?_
  refine WL.bl 4 4 h1ao [(29, .pointer (some ⟨g19o, 2, none⟩)), (28, pt g19o), (27, pt g19o), (26, pt g19o)] (fun a1ap h1aq => ?_)
  have hS1ar := hS1am.b2
  refine WL.oq h1aq rfl ?_
  refine owp_rn (.bool r17t.f2) h1aq rfl (run_load1 rfl rfl Tryd.underlying4 rfl (hS1ar.cell (i := 2) rfl)) (fun a1as h1at => ?_)
  refine WL.bl 1 6 h1at [(31, .bool r17t.f2)] (fun a1au h1av => ?_)
  clear h185 a184 h19m a19l h19v a19u h19x a19w h19z a19y h1a8 a1a7 h1ad a1ac h1af a1ae h1ak a1aj h1ao a1an h1aq a1ap h1at a1as
  by_cases c1aw : r17t.f2 = true
  ·rw [if_pos c1aw] at H
   have hb_ : r17t.f2 = true := c1aw
   try rw [hb_] at h1av
   clear hb_
   refine WL.sk h1av rfl rfl (fun a1ax h1ay => ?_)
   refine WL.sk h1ay rfl rfl (fun a1az h1b0 => ?_)
   refine WL.bl 3 11 h1b0 [(36, .pointer (some ⟨g19o, 2, none⟩)), (35, pt g19o), (34, .bool true)] (fun a1b1 h1b2 => ?_)
   refine WL.oq h1b2 rfl ?_
   refine owp_st 2 [.bool true] h1b2 rfl rfl rfl hS1ar [(pt gp0), .slice A19r r17t.f1.length c19s, .bool true] (fun a1b3 W1b5 h1b4 hS1b6 => ?_)
   refine WL.dn ?_
   refine WL.start ?_
   refine WL.bl 1 1 h1b4 [(37, pt g1ah)] (fun a1b7 h1b8 => ?_)
   have hS1b9 := hS1b6.b1
   refine WL.oq h1b8 rfl ?_
   refine owp_rn (.string (mkS r1a2.f0)) h1b8 rfl (run_load1 rfl rfl Tryd.underlying9 rfl (hS1b9.cell (i := 0) rfl)) (fun a1ba h1bb => ?_)
   refine WL.bl 1 3 h1bb [(39, pt g17m)] (fun a1bc h1bd => ?_)
   have hS1be := hS1b9.b3
   refine WL.oq h1bd rfl ?_
   refine owp_st 0 [.string (mkS r1a2.f0)] h1bd rfl rfl rfl hS1be [.string (mkS r1a2.f0), .string (mkS []), .bool false] (fun a1bf W1bh h1bg hS1bi => ?_)
   refine WL.dn ?_
   refine wp_seq ?_
   refine WL.start ?_
   refine WL.bl 1 1 h1bg [(40, pt g19o)] (fun a1bj h1bk => ?_)
   have hS1bl := hS1bi.b3
   have hS1bm := hS1bl.b3
   obtain ⟨M1bn, hp1bo, hS1bp⟩ := k66qfo (⟨r17t.f0, r17t.f1, true⟩ : S66) hr1aa hr19t hS1bm
   obtain ⟨r1br, r1bs, A1bq, H⟩ := bind2 H
   refine WL.oq h1bk rfl ?_
   refine owp_call [(pt g19o)] h1bk rfl (by kernel_rfl) rfl Tryd.func54 (by kernel_rfl) rfl (by kernel_rfl) (hpack_reader_text.calls k hp1bo hg1 A1bq hS1bp) (fun e1bu W1bt hp1bv => ?_)
   obtain ⟨M1by, rfl, hr1bz, hS1c0⟩ := hp1bv
   refine ⟨_, rfl, fun a1bw h1bx => ?_⟩
   refine WL.bl 1 3 h1bx [(42, .pointer (some ⟨g17m, 1, none⟩))] (fun a1c1 h1c2 => ?_)
   have hS1c3 := hS1c0.b1
   refine WL.oq h1c2 rfl ?_
   refine owp_st 1 [.string (mkS r1br)] h1c2 rfl rfl rfl hS1c3 [.string (mkS r1a2.f0), .string (mkS r1br), .bool false] (fun a1c4 W1c6 h1c5 hS1c7 => ?_)
   clear h1av a1au h1ay a1ax h1b0 a1az h1b2 a1b1 h1b4 a1b3 h1b8 a1b7 h1bb a1ba h1bd a1bc h1bg a1bf h1bk a1bj h1bx a1bw h1c2 a1c1
   refine WL.dn ?_
   refine wp_seq ?_
   refine WL.start ?_
   refine WL.oq h1c5 rfl ?_
   refine owp_rn (.agg #[.string (mkS r1a2.f0), .string (mkS r1br), .bool false]) h1c5 rfl (run_loadN rfl rfl Tryd.underlying52 rfl (cs := [.string (mkS r1a2.f0), .string (mkS r1br), .bool false]) (by kernel_rfl) (hS1c7.cells (vs := [.string (mkS r1a2.f0), .string (mkS r1br), .bool false]) rfl)) (fun a1c8 h1c9 => ?_)
   have hS1ca := hS1c7.b3
   refine WL.oq h1c9 rfl ?_
   refine owp_st 0 [.string (mkS r1a2.f0), .string (mkS r1br), .bool false] h1c9 rfl rfl rfl hS1ca [.string (mkS r1a2.f0), .string (mkS r1br), .bool false] (fun a1cb W1cd h1cc hS1ce => ?_)
   refine WL.dn ?_
   refine wp_ret ?_
   have hS1cf := hS1ce.drop_
   have hS1cg := hS1cf.drop_
   have hS1ch := hS1cg.b1
   have hS1ci := hS1ch.drop_
   obtain ⟨rfl, rfl⟩ := ret2 H
   repeat (first | with_reducible refine t1 ?_ | with_reducible refine t2 ?_ | with_reducible refine t3 ?_)
   refine body_ret (v := .agg #[.string (mkS r1a2.f0), .string (mkS r1br), .bool false]) h1cc (by kernel_rfl) (res_one rfl ⟨_, rfl, loadVarN Tryd.underlying52 rfl (cs := [.string (mkS r1a2.f0), .string (mkS r1br), .bool false]) (by kernel_rfl) (hS1ce.cells (vs := [.string (mkS r1a2.f0), .string (mkS r1br), .bool false]) rfl)⟩) ?_
   exact ⟨M1by, rfl, hr1bz, hS1ci⟩
  ·rw [if_neg c1aw] at H
   have hb_ : r17t.f2 = false := (Bool.eq_false_iff.2 c1aw)
   try rw [hb_] at h1av
   clear hb_
   refine WL.oq h1av rfl (owp_rk (.bool r1a3) h1av rfl (fun a1cj h1ck => ?_))
   refine WL.oq h1ck rfl (owp_rk (.bool (!r1a3)) h1ck rfl (fun a1cl h1cm => ?_))
   refine WL.bl 3 11 h1cm [(36, .pointer (some ⟨g19o, 2, none⟩)), (35, pt g19o), (34, .bool (!r1a3))] (fun a1cn h1co => ?_)
   refine WL.oq h1co rfl ?_
   refine owp_st 2 [.bool (!r1a3)] h1co rfl rfl rfl hS1ar [(pt gp0), .slice A19r r17t.f1.length c19s, .bool (!r1a3)] (fun a1cp W1cr h1cq hS1cs => ?_)
   refine WL.dn ?_
   refine WL.start ?_
   refine WL.bl 1 1 h1cq [(37, pt g1ah)] (fun a1ct h1cu => ?_)
   have hS1cv := hS1cs.b1
   refine WL.oq h1cu rfl ?_
   refine owp_rn (.string (mkS r1a2.f0)) h1cu rfl (run_load1 rfl rfl Tryd.underlying9 rfl (hS1cv.cell (i := 0) rfl)) (fun a1cw h1cx => ?_)
   refine WL.bl 1 3 h1cx [(39, pt g17m)] (fun a1cy h1cz => ?_)
   have hS1d0 := hS1cv.b3
   refine WL.oq h1cz rfl ?_
   refine owp_st 0 [.string (mkS r1a2.f0)] h1cz rfl rfl rfl hS1d0 [.string (mkS r1a2.f0), .string (mkS []), .bool false] (fun a1d1 W1d3 h1d2 hS1d4 => ?_)
   refine WL.dn ?_
   refine wp_seq ?_
   refine WL.start ?_
   refine WL.bl 1 1 h1d2 [(40, pt g19o)] (fun a1d5 h1d6 => ?_)
   have hS1d7 := hS1d4.b3
   have hS1d8 := hS1d7.b3
   obtain ⟨M1d9, hp1da, hS1db⟩ := k66qfo (⟨r17t.f0, r17t.f1, !r1a3⟩ : S66) hr1aa hr19t hS1d8
   obtain ⟨r1dd, r1de, A1dc, H⟩ := bind2 H
   refine WL.oq h1d6 rfl ?_
   refine owp_call [(pt g19o)] h1d6 rfl (by kernel_rfl) rfl Tryd.func54 (by kernel_rfl) rfl (by kernel_rfl) (hpack_reader_text.calls k hp1da hg1 A1dc hS1db) (fun e1dg W1df hp1dh => ?_)
   obtain ⟨M1dk, rfl, hr1dl, hS1dm⟩ := hp1dh
   refine ⟨_, rfl, fun a1di h1dj => ?_⟩
   refine WL.bl 1 3 h1dj [(42, .pointer (some ⟨g17m, 1, none⟩))] (fun a1dn h1do => ?_)
   have hS1dp := hS1dm.b1
   refine WL.oq h1do rfl ?_
   refine owp_st 1 [.string (mkS r1dd)] h1do rfl rfl rfl hS1dp [.string (mkS r1a2.f0), .string (mkS r1dd), .bool false] (fun a1dq W1ds h1dr hS1dt => ?_)
   clear h1av a1au h1ck a1cj h1cm a1cl h1co a1cn h1cq a1cp h1cu a1ct h1cx a1cw h1cz a1cy h1d2 a1d1 h1d6 a1d5 h1dj a1di h1do a1dn
   refine WL.dn ?_
   refine wp_seq ?_
   refine WL.start ?_
   refine WL.oq h1dr rfl ?_
   refine owp_rn (.agg #[.string (mkS r1a2.f0), .string (mkS r1dd), .bool false]) h1dr rfl (run_loadN rfl rfl Tryd.underlying52 rfl (cs := [.string (mkS r1a2.f0), .string (mkS r1dd), .bool false]) (by kernel_rfl) (hS1dt.cells (vs := [.string (mkS r1a2.f0), .string (mkS r1dd), .bool false]) rfl)) (fun a1du h1dv => ?_)
   have hS1dw := hS1dt.b3
   refine WL.oq h1dv rfl ?_
   refine owp_st 0 [.string (mkS r1a2.f0), .string (mkS r1dd), .bool false] h1dv rfl rfl rfl hS1dw [.string (mkS r1a2.f0), .string (mkS r1dd), .bool false] (fun a1dx W1dz h1dy hS1e0 => ?_)
   refine WL.dn ?_
   refine wp_ret ?_
   have hS1e1 := hS1e0.drop_
   have hS1e2 := hS1e1.drop_
   have hS1e3 := hS1e2.b1
   have hS1e4 := hS1e3.drop_
   obtain ⟨rfl, rfl⟩ := ret2 H
   repeat (first | with_reducible refine t1 ?_ | with_reducible refine t2 ?_ | with_reducible refine t3 ?_)
   refine body_ret (v := .agg #[.string (mkS r1a2.f0), .string (mkS r1dd), .bool false]) h1dy (by kernel_rfl) (res_one rfl ⟨_, rfl, loadVarN Tryd.underlying52 rfl (cs := [.string (mkS r1a2.f0), .string (mkS r1dd), .bool false]) (by kernel_rfl) (hS1e0.cells (vs := [.string (mkS r1a2.f0), .string (mkS r1dd), .bool false]) rfl)⟩) ?_
   exact ⟨M1dk, rfl, hr1dl, hS1e4⟩

/-! ### (*louver/dyntable.Table).Limit -/
def dyntable_Table_Limit.f (k : Nat) (p0 : S79) (p1 : Int) : Option (S79) := bnd1 (dyntable_Table_within.f k (⟨p0.f0, p0.f1, IntKind.i64.wrap p1⟩ : S79) 0) fun r11x => (some r11x)
set_option maxHeartbeats 20000000 in
set_option maxRecDepth 100000 in
theorem dyntable_Table_Limit.calls (k : Nat) {b : Nat} {w0 W : World} {R : Frag} {Fs : List Frag} {p0 : S79} {p1 : Int}  {v0 : Value} {M0 : Frag} {r0q : S79} (hp0 : Ptr k79 79 b w0 R v0 p0 M0) (H : dyntable_Table_Limit.f k p0 p1 = some r0q) (hS : St b w0 W R (M0 :: Fs)) :
  Calls Tryd.prog 24 ([v0, .int .u32 p1] : List Value).toArray W (fun e W' => ∃ (O0q : Frag), e = .returned (.tuple #[]) ∧ Ptr k79 79 b w0 R v0 r0q O0q ∧ St b w0 W' R (O0q :: Fs)) := by
 unfold dyntable_Table_Limit.f at H
 refine calls_enter Tryd.func24 rfl 13 rfl (by kernel_rfl) (fun a h => ?_)
 refine wp_seq ?_
 refine wp_seq ?_
 refine WL.start ?_
 refine WL.bl 1 1 h [(4, v0)] (fun a119 h11a => ?_)
 obtain ⟨g11c, A11d, c11e, M11f, rfl, hr11g, hS11b⟩ := k79qop hp0 hS
 refine WL.bl 1 2 h11a [(5, .bool false)] (fun a11h h11i => ?_)
 refine WL.dn ?_
 refine wp_else h11i rfl ?_
 refine wp_skip ?_
 refine wp_seq ?_
 refine WL.start ?_
 refine WL.bl 5 5 h11i [(10, .pointer (some ⟨g11c, 2, none⟩)), (9, pt g11c), (8, i6 (IntKind.i64.wrap p1)), (7, .int .u32 p1), (6, pt g11c)] (fun a11j h11k => ?_)
 refine WL.oq h11k rfl ?_
 refine owp_st 2 [i6 (IntKind.i64.wrap p1)] h11k rfl rfl rfl hS11b [.slice A11d p0.f0.length c11e, i6 p0.f1, i6 (IntKind.i64.wrap p1)] (fun a11l W11n h11m hS11o => ?_)
 refine WL.dn ?_
 refine WL.start ?_
 refine WL.bl 1 1 h11m [(11, pt g11c)] (fun a11p h11q => ?_)
 have hS11r := hS11o.b1
 have hS11s := hS11r.b1
 obtain ⟨M11t, hp11u, hS11v⟩ := k79qfo (⟨p0.f0, p0.f1, IntKind.i64.wrap p1⟩ : S79) hr11g hS11s
 obtain ⟨r11x, A11w, H⟩ := bind1 H
 refine WL.oq h11q rfl ?_
 refine owp_call [(pt g11c), i6 0] h11q rfl (by kernel_rfl) rfl Tryd.func35 (by kernel_rfl) rfl (by kernel_rfl) (dyntable_Table_within.calls k hp11u A11w hS11v) (fun e11z W11y hp120 => ?_)
 obtain ⟨M123, rfl, hr124, hS125⟩ := hp120
 refine ⟨_, rfl, fun a121 h122 => ?_⟩
 refine WL.dn ?_
 obtain rfl := Option.some.inj H
 repeat (first | with_reducible refine t4 ?_ | with_reducible refine t3 ?_)
 refine bend (.tuple #[]) h122 ?_
 exact ⟨M123, rfl, hr124, hS125⟩

/-! ### (*louver/hpack.reader).piece -/
def hpack_reader_piece.j0 : Nat → S66 → S52 → Option (S52 × Bool × S66)
 | 0, _, _ => none
 | k + 1, x4ho, r4e2 => some ((⟨r4e2.f0, r4e2.f1, r4e2.f2⟩ : S52), true, x4ho)
def hpack_reader_piece.f (k : Nat) (p0 : S66) (p1 : Int) (p2 : Bool) : Option (S52 × Bool × S66) := if 0 < (p0.f1.length : Int) then (if (gt (0 : Int) p0.f1 (0 : Int)) ≥ 128 then (bnd2 (hpack_reader_number.f k p0 7) fun r442 r443 => (bnd2 (dyntable_Table_At.f r443.f0 r442) fun r44k r44l => (if r443.f2 = true then (some ((⟨r44k.f0, r44k.f1, r44k.f2⟩ : S52), true, (⟨r443.f0, r443.f1, true⟩ : S66))) else (some ((⟨r44k.f0, r44k.f1, r44k.f2⟩ : S52), true, (⟨r443.f0, r443.f1, !r44l⟩ : S66)))))) else (if (gt (0 : Int) p0.f1 (0 : Int)) ≥ 64 then (bnd2 (hpack_reader_field.f k p0 6) fun r4e2 r4e3 => (if r4e3.f2 = true then (hpack_reader_piece.j0 k r4e3 r4e2) else (bnd1 (dyntable_Table_Add.f k r4e3.f0 (⟨r4e2.f0, r4e2.f1, r4e2.f2⟩ : S52)) fun r4jy => (hpack_reader_piece.j0 k (⟨r4jy, r4e3.f1, r4e3.f2⟩ : S66) r4e2)))) else (if (gt (0 : Int) p0.f1 (0 : Int)) ≥ 32 then (bnd2 (hpack_reader_number.f k p0 5) fun r4l1 r4l2 => (if r4l2.f2 = true then (some ((⟨([] : List UInt8), ([] : List UInt8), false⟩ : S52), false, (⟨r4l2.f0, r4l2.f1, true⟩ : S66))) else (if p2 = true then (if r4l1 > (IntKind.i64.wrap p1) then (some ((⟨([] : List UInt8), ([] : List UInt8), false⟩ : S52), false, (⟨r4l2.f0, r4l2.f1, decide (r4l1 > (IntKind.i64.wrap p1))⟩ : S66))) else (bnd1 (dyntable_Table_Limit.f k r4l2.f0 (IntKind.u32.wrap r4l1)) fun r4ok => (some ((⟨([] : List UInt8), ([] : List UInt8), false⟩ : S52), false, (⟨r4ok, r4l2.f1, decide (r4l1 > (IntKind.i64.wrap p1))⟩ : S66))))) else (some ((⟨([] : List UInt8), ([] : List UInt8), false⟩ : S52), false, (⟨r4l2.f0, r4l2.f1, true⟩ : S66)))))) else (if (gt (0 : Int) p0.f1 (0 : Int)) ≥ 16 then (bnd2 (hpack_reader_field.f k p0 4) fun r4r3 r4r4 => (some ((⟨r4r3.f0, r4r3.f1, true⟩ : S52), true, r4r4))) else (bnd2 (hpack_reader_field.f k p0 4) fun r4se r4sf => (some ((⟨r4se.f0, r4se.f1, false⟩ : S52), true, r4sf))))))) else (none)
set_option maxHeartbeats 20000000 in
set_option maxRecDepth 100000 in
theorem hpack_reader_piece.calls (k : Nat) {b : Nat} {w0 W : World} {R : Frag} {Fs : List Frag} {p0 : S66} {p1 : Int} {p2 : Bool}  {v0 : Value} {M0 : Frag} {gp0 : Nat} {r0q : S52} {r1q : Bool} {r2q : S66} (hp0 : Ptr (k66 gp0) 66 b w0 R v0 p0 M0) (hg0 : Rds k52 b w0 [] (.slice (some ⟨0, 0, none⟩) 61 61) G0) (hg1 : Rds (kInt .u8) b w0 [] (.slice (some ⟨1, 0, none⟩) 257 257) G1) (H : hpack_reader_piece.f k p0 p1 p2 = some (r0q, r1q, r2q)) (hS : St b w0 W R (M0 :: Fs)) :
  Calls Tryd.prog 25 ([v0, .int .u32 p1, .bool p2] : List Value).toArray W (fun e W' => ∃ (O0q : Frag), e = .returned (.tuple #[.agg #[.string (mkS r0q.f0), .string (mkS r0q.f1), .bool r0q.f2], .bool r1q]) ∧ Ptr (k66 gp0) 66 b w0 R v0 r2q O0q ∧ St b w0 W' R (O0q :: Fs)) := by
 unfold hpack_reader_piece.f at H
 refine calls_enter Tryd.func25 rfl 107 rfl (by kernel_rfl) (fun a h => ?_)
 refine wp_seq ?_
 refine WL.start ?_
 refine WL.oq h rfl ?_
 refine owp_nw (fun g_ => (pt g_)) (.cells ([.string (mkS []), .string (mkS []), .bool false] : List Value).toArray 52 (0, 0)) h rfl hS (fun a3tb W3td g3te h3tc hS3tf => ?_)
 refine WL.bl 1 2 h3tc [(7, .bool false)] (fun a3tg h3th => ?_)
 refine WL.dn ?_
 refine wp_seq ?_
 refine WL.start ?_
 refine WL.oq h3th rfl ?_
 refine owp_nw (fun g_ => (pt g_)) (.cells ([.string (mkS []), .string (mkS []), .bool false] : List Value).toArray 52 (0, 0)) h3th rfl hS3tf (fun a3ti W3tk g3tl h3tj hS3tm => ?_)
 refine WL.dn ?_
 refine wp_seq ?_
 refine wp_seq ?_
 refine WL.start ?_
 refine WL.bl 1 1 h3tj [(14, v0)] (fun a3tn h3to => ?_)
 have hS3tp := hS3tm.b2
 obtain ⟨g3tr, A3tu, c3tv, M3ts, rfl, hr3tt, hr3tw, hS3tq⟩ := k66qop hp0 hS3tp
 refine WL.bl 2 3 h3to [(16, .pointer (some ⟨g3tr, 1, none⟩)), (15, pt g3tr)] (fun a3tx h3ty => ?_)
 refine WL.oq h3ty rfl ?_
 refine owp_rn (.slice A3tu p0.f1.length c3tv) h3ty rfl (run_load1 rfl rfl Tryd.underlying22 rfl (hS3tq.cell (i := 1) rfl)) (fun a3tz h3u0 => ?_)
 clear h3tc a3tb h3th a3tg h3tj a3ti h3to a3tn h3ty a3tx
 by_cases c3u1 : 0 < (p0.f1.length : Int)
 ·rw [if_pos c3u1] at H
  have hi3u4 : 0 ≤ (0 : Int) := by first | assumption | omega
  have hi3u5 : 0 < (p0.f1.length : Int) := by first | assumption | omega
  obtain ⟨ad3u2, _, ha3u3, -, -⟩ := Rds.elemAny hr3tw hi3u4 (gt_get (z := (0 : Int)) hi3u4 hi3u5)
  refine WL.oq h3u0 rfl ?_
  refine owp_rn (.pointer (some (ad3u2.add ((0 : Int).toNat * 1)))) h3u0 rfl (run_idx (ad := ad3u2) (sz := 1) rfl (by rw [← ha3u3]; rfl) rfl Tryd.underlying22 (by kernel_rfl) hi3u4 hi3u5) (fun a3u6 h3u7 => ?_)
  obtain ⟨ad3u8, cs3u9, ha3ua, hr3uc, hc3ub⟩ := Rds.elemAny hr3tw hi3u4 (gt_get (z := (0 : Int)) hi3u4 hi3u5)
  rw [ha3u3] at ha3ua; obtain rfl := Option.some.inj ha3ua
  obtain rfl : cs3u9 = [.int .u8 (gt (0 : Int) p0.f1 (0 : Int))] := hr3uc
  refine WL.oq h3u7 rfl ?_
  refine owp_rn (.int .u8 (gt (0 : Int) p0.f1 (0 : Int))) h3u7 rfl (run_load1 rfl rfl Tryd.underlying5 rfl (cell0 (hc3ub _ (fun _ _ hk_ => hS3tq.kn hk_)))) (fun a3ud h3ue => ?_)
  refine WL.bl 1 7 h3ue [(9, .int .u8 (gt (0 : Int) p0.f1 (0 : Int)))] (fun a3uf h3ug => ?_)
  refine WL.dn ?_
  refine wp_block ?_
  refine wp_seq ?_
  refine wp_block ?_
  refine wp_seq ?_
  refine wp_block ?_
  refine wp_seq ?_
  refine wp_block ?_
  refine wp_seq ?_
  refine wp_block ?_
  refine wp_seq ?_
  refine wp_block ?_
  refine wp_seq ?_
  refine wp_seq ?_
  refine wp_seq ?_
  refine WL.start ?_
  refine WL.bl 3 3 h3ug [(20, .bool (decide ((gt (0 : Int) p0.f1 (0 : Int)) ≥ 128))), (22, .bool (decide ((gt (0 : Int) p0.f1 (0 : Int)) ≥ 128))), (21, .int .u8 (gt (0 : Int) p0.f1 (0 : Int)))] (fun a3uh h3ui => ?_)
  refine WL.dn ?_
  clear h3u0 a3tz h3u7 a3u6 h3ue a3ud h3ug a3uf
  by_cases c3uj : (gt (0 : Int) p0.f1 (0 : Int)) ≥ 128
  ·rw [if_pos c3uj] at H
   have hb_ : (decide ((gt (0 : Int) p0.f1 (0 : Int)) ≥ 128)) = true := decide_eq_true c3uj
   try rw [hb_] at h3ui
   clear hb_
   refine wp_then h3ui rfl ?_
   refine wp_exit ?_
   refine wp_seq ?_
   refine wp_seq ?_
   refine WT.start 13 (fun w_ => (w_.cell? ⟨g3tr, 0, none⟩ = some (pt gp0)) ∧ True) (by kernel_rfl) #[false, false, false, false, false, false, false, false, false, false, false, false, false] 13 rfl rfl ?_
   have hS43g := hS3tq.drew
   refine WT.tk 0 h3ui rfl rfl (pt g3tr) (fun _ _ => by kernel_rfl) ⟨(hS43g.cell (i := 0) rfl), trivial⟩ (fun a43h s43j h43i => ?_)
   refine WT.tk 1 h43i rfl rfl (pt g3tr) (fun _ _ => by kernel_rfl) s43j (fun a43k s43m h43l => ?_)
   refine WT.tk 2 h43l rfl rfl (pt g3tr) (fun _ _ => by kernel_rfl) s43m (fun a43n s43p h43o => ?_)
   refine WT.tk 4 h43o rfl rfl (pt g3tr) (fun _ _ => by kernel_rfl) s43p (fun a43q s43s h43r => ?_)
   refine WT.tk 3 h43r rfl rfl (pt gp0) (fun w_ hs_ => (run_load1 rfl rfl Tryd.underlying59 rfl hs_.1)) s43s (fun a43t s43v h43u => ?_)
   clear h3ui a3uh h43i a43h h43l a43k h43o a43n h43r a43q
   refine WT.two 5 10 h43u rfl rfl (by kernel_rfl) rfl rfl ?_ ?_
   ·have hS43w := hS43g.b1
    have hS43x := hS43w.b1
    obtain ⟨M43y, hp43z, hS440⟩ := k66qfo p0 hr3tt hr3tw hS43x
    obtain ⟨r442, r443, A441, H⟩ := bind2 H
    skip
    refine owp_call [(pt g3tr), i6 7] h43u rfl (by kernel_rfl) rfl Tryd.func37 (by kernel_rfl) rfl (by kernel_rfl) (hpack_reader_number.calls k hp43z A441 hS440) (fun e445 W444 hp446 => ?_)
    obtain ⟨M449, rfl, hr44a, hS44b⟩ := hp446
    refine ⟨_, rfl, fun a447 h448 => ?_⟩
    obtain ⟨A44f, c44g, M44d, hr44e, hr44h, hS44c⟩ := k66qoq hr44a hS44b
    refine ⟨.inr ⟨(hS44c.cell (i := 0) rfl), trivial⟩, ?_⟩
    clear h43u a43t
    refine WT.two 6 10 h448 rfl rfl (by kernel_rfl) rfl rfl ?_ ?_
    ·have hS44i := hS44c.b1
     obtain ⟨r44k, r44l, A44j, H⟩ := bind2 H
     skip
     refine owp_call [(pt gp0), i6 r442] h448 rfl (by kernel_rfl) rfl Tryd.func36 (by kernel_rfl) rfl (by kernel_rfl) (dyntable_Table_At.calls hr44e hg0 A44j hS44i) (fun e44n W44m hp44o => ?_)
     obtain ⟨M44r, rfl, hr44s, hS44t⟩ := hp44o
     refine ⟨_, rfl, fun a44p h44q => ?_⟩
     refine ⟨.inr ⟨(hS44t.b1.cell (i := 0) rfl), trivial⟩, ?_⟩
     refine WT.tk 7 h44q rfl rfl (.tuple #[.agg #[.string (mkS r44k.f0), .string (mkS r44k.f1), .bool r44k.f2], .bool r44l]) (fun _ _ => by kernel_rfl) ⟨(hS44t.b1.cell (i := 0) rfl), trivial⟩ (fun a44u s44w h44v => ?_)
     refine WT.tk 8 h44v rfl rfl (.agg #[.string (mkS r44k.f0), .string (mkS r44k.f1), .bool r44k.f2]) (fun _ _ => by kernel_rfl) s44w (fun a44x s44z h44y => ?_)
     refine WT.tk 9 h44y rfl rfl (.bool r44l) (fun _ _ => by kernel_rfl) s44z (fun a450 s452 h451 => ?_)
     refine WT.o1 10 h451 rfl ?_
     refine owp_nw (fun g_ => (pt g_)) (.cells ([.string (mkS []), .string (mkS []), .bool false] : List Value).toArray 52 (0, 0)) h451 rfl hS44t (fun a453 W455 g456 h454 hS457 => ?_)
     refine ⟨.inr ⟨(hS457.b2.cell (i := 0) rfl), trivial⟩, ?_⟩
     refine WT.o1 11 h454 rfl ?_
     refine owp_st 0 [.string (mkS r44k.f0), .string (mkS r44k.f1), .bool r44k.f2] h454 rfl rfl rfl hS457 [.string (mkS r44k.f0), .string (mkS r44k.f1), .bool r44k.f2] (fun a458 W45a h459 hS45b => ?_)
     refine ⟨.inr ⟨(hS45b.b2.cell (i := 0) rfl), trivial⟩, ?_⟩
     refine WT.tk 12 h459 rfl rfl (.bool r44l) (fun _ _ => by kernel_rfl) ⟨(hS45b.b2.cell (i := 0) rfl), trivial⟩ (fun a45c s45e h45d => ?_)
     refine WT.dn ?_
     refine wp_seq ?_
     refine WL.start ?_
     refine WL.bl 4 4 h45d [(45, .pointer (some ⟨g3tr, 2, none⟩)), (44, pt g3tr), (43, pt g3tr), (42, pt g3tr)] (fun a45f h45g => ?_)
     have hS45h := hS45b.b2
     refine WL.oq h45g rfl ?_
     refine owp_rn (.bool r443.f2) h45g rfl (run_load1 rfl rfl Tryd.underlying4 rfl (hS45h.cell (i := 2) rfl)) (fun a45i h45j => ?_)
     refine WL.bl 1 6 h45j [(47, .bool r443.f2)] (fun a45k h45l => ?_)
     clear h448 a447 h44q a44p h44v a44u h44y a44x h451 a450 h454 a453 h459 a458 h45d a45c h45g a45f h45j a45i
     by_cases c45m : r443.f2 = true
     ·rw [if_pos c45m] at H
      have hb_ : r443.f2 = true := c45m
      try rw [hb_] at h45l
      clear hb_
      refine WL.sk h45l rfl rfl (fun a45n h45o => ?_)
      refine WL.sk h45o rfl rfl (fun a45p h45q => ?_)
      refine WL.bl 3 11 h45q [(52, .pointer (some ⟨g3tr, 2, none⟩)), (51, pt g3tr), (50, .bool true)] (fun a45r h45s => ?_)
      refine WL.oq h45s rfl ?_
      refine owp_st 2 [.bool true] h45s rfl rfl rfl hS45h [(pt gp0), .slice A44f r443.f1.length c44g, .bool true] (fun a45t W45v h45u hS45w => ?_)
      refine WL.dn ?_
      refine wp_seq ?_
      refine WL.start ?_
      have hS45x := hS45w.b1
      refine WL.oq h45u rfl ?_
      refine owp_rn (.agg #[.string (mkS r44k.f0), .string (mkS r44k.f1), .bool r44k.f2]) h45u rfl (run_loadN rfl rfl Tryd.underlying52 rfl (cs := [.string (mkS r44k.f0), .string (mkS r44k.f1), .bool r44k.f2]) (by kernel_rfl) (hS45x.cells (vs := [.string (mkS r44k.f0), .string (mkS r44k.f1), .bool r44k.f2]) rfl)) (fun a45y h45z => ?_)
      have hS460 := hS45x.b4
      refine WL.oq h45z rfl ?_
      refine owp_st 0 [.string (mkS r44k.f0), .string (mkS r44k.f1), .bool r44k.f2] h45z rfl rfl rfl hS460 [.string (mkS r44k.f0), .string (mkS r44k.f1), .bool r44k.f2] (fun a461 W463 h462 hS464 => ?_)
      refine WL.bl 1 3 h462 [(7, .bool true)] (fun a465 h466 => ?_)
      refine WL.dn ?_
      refine wp_ret ?_
      have hS467 := hS464.b3
      have hS468 := hS467.b3
      obtain ⟨M469, hp46a, hS46b⟩ := k66qfo (⟨r443.f0, r443.f1, true⟩ : S66) hr44s hr44h hS468
      have hS46c := hS46b.b1
      have hS46d := hS46c.drop_
      have hS46e := hS46d.b1
      have hS46f := hS46e.drop_
      have hS46g := hS46f.b1
      have hS46h := hS46g.drop_
      obtain ⟨rfl, rfl, rfl⟩ := ret3 H
      repeat (first | with_reducible refine t1 ?_ | with_reducible refine t2 ?_ | with_reducible refine t3 ?_)
      refine body_ret (v := .tuple #[.agg #[.string (mkS r44k.f0), .string (mkS r44k.f1), .bool r44k.f2], .bool true]) h466 (by kernel_rfl) (res_many (xs := [ResultVar.cell 6 52, ResultVar.tmp 7]) rfl ⟨⟨_, rfl, loadVarN Tryd.underlying52 rfl (cs := [.string (mkS r44k.f0), .string (mkS r44k.f1), .bool r44k.f2]) (by kernel_rfl) (hS464.cells (vs := [.string (mkS r44k.f0), .string (mkS r44k.f1), .bool r44k.f2]) rfl)⟩, rfl, trivial⟩ rfl) ?_
      exact ⟨M469, rfl, hp46a, hS46h⟩
     ·rw [if_neg c45m] at H
      have hb_ : r443.f2 = false := (Bool.eq_false_iff.2 c45m)
      try rw [hb_] at h45l
      clear hb_
      refine WL.oq h45l rfl (owp_rk (.bool r44l) h45l rfl (fun a46i h46j => ?_))
      refine WL.oq h46j rfl (owp_rk (.bool (!r44l)) h46j rfl (fun a46k h46l => ?_))
      refine WL.bl 3 11 h46l [(52, .pointer (some ⟨g3tr, 2, none⟩)), (51, pt g3tr), (50, .bool (!r44l))] (fun a46m h46n => ?_)
      refine WL.oq h46n rfl ?_
      refine owp_st 2 [.bool (!r44l)] h46n rfl rfl rfl hS45h [(pt gp0), .slice A44f r443.f1.length c44g, .bool (!r44l)] (fun a46o W46q h46p hS46r => ?_)
      refine WL.dn ?_
      refine wp_seq ?_
      refine WL.start ?_
      have hS46s := hS46r.b1
      refine WL.oq h46p rfl ?_
      refine owp_rn (.agg #[.string (mkS r44k.f0), .string (mkS r44k.f1), .bool r44k.f2]) h46p rfl (run_loadN rfl rfl Tryd.underlying52 rfl (cs := [.string (mkS r44k.f0), .string (mkS r44k.f1), .bool r44k.f2]) (by kernel_rfl) (hS46s.cells (vs := [.string (mkS r44k.f0), .string (mkS r44k.f1), .bool r44k.f2]) rfl)) (fun a46t h46u => ?_)
      have hS46v := hS46s.b4
      refine WL.oq h46u rfl ?_
      refine owp_st 0 [.string (mkS r44k.f0), .string (mkS r44k.f1), .bool r44k.f2] h46u rfl rfl rfl hS46v [.string (mkS r44k.f0), .string (mkS r44k.f1), .bool r44k.f2] (fun a46w W46y h46x hS46z => ?_)
      refine WL.bl 1 3 h46x [(7, .bool true)] (fun a470 h471 => ?_)
      refine WL.dn ?_
      refine wp_ret ?_
      have hS472 := hS46z.b3
      have hS473 := hS472.b3
      obtain ⟨M474, hp475, hS476⟩ := k66qfo (⟨r443.f0, r443.f1, !r44l⟩ : S66) hr44s hr44h hS473
      have hS477 := hS476.b1
      have hS478 := hS477.drop_
      have hS479 := hS478.b1
      have hS47a := hS479.drop_
      have hS47b := hS47a.b1
      have hS47c := hS47b.drop_
      obtain ⟨rfl, rfl, rfl⟩ := ret3 H
      repeat (first | with_reducible refine t1 ?_ | with_reducible refine t2 ?_ | with_reducible refine t3 ?_)
      refine body_ret (v := .tuple #[.agg #[.string (mkS r44k.f0), .string (mkS r44k.f1), .bool r44k.f2], .bool true]) h471 (by kernel_rfl) (res_many (xs := [ResultVar.cell 6 52, ResultVar.tmp 7]) rfl ⟨⟨_, rfl, loadVarN Tryd.underlying52 rfl (cs := [.string (mkS r44k.f0), .string (mkS r44k.f1), .bool r44k.f2]) (by kernel_rfl) (hS46z.cells (vs := [.string (mkS r44k.f0), .string (mkS r44k.f1), .bool r44k.f2]) rfl)⟩, rfl, trivial⟩ rfl) ?_
      exact ⟨M474, rfl, hp475, hS47c⟩
    ·skip
     refine owp_nw (fun g_ => (pt g_)) (.cells ([.string (mkS []), .string (mkS []), .bool false] : List Value).toArray 52 (0, 0)) h448 rfl hS44c (fun a47d W47f g47g h47e hS47h => ?_)
     refine ⟨.inr ⟨(hS47h.b1.cell (i := 0) rfl), trivial⟩, ?_⟩
     have hS47i := hS47h.b2
     obtain ⟨r47k, r47l, A47j, H⟩ := bind2 H
     refine WT.o1 6 h47e rfl ?_
     refine owp_call [(pt gp0), i6 r442] h47e rfl (by kernel_rfl) rfl Tryd.func36 (by kernel_rfl) rfl (by kernel_rfl) (dyntable_Table_At.calls hr44e hg0 A47j hS47i) (fun e47n W47m hp47o => ?_)
     obtain ⟨M47r, rfl, hr47s, hS47t⟩ := hp47o
     refine ⟨_, rfl, fun a47p h47q => ?_⟩
     refine ⟨.inr ⟨(hS47t.b2.cell (i := 0) rfl), trivial⟩, ?_⟩
     refine WT.tk 7 h47q rfl rfl (.tuple #[.agg #[.string (mkS r47k.f0), .string (mkS r47k.f1), .bool r47k.f2], .bool r47l]) (fun _ _ => by kernel_rfl) ⟨(hS47t.b2.cell (i := 0) rfl), trivial⟩ (fun a47u s47w h47v => ?_)
     refine WT.tk 8 h47v rfl rfl (.agg #[.string (mkS r47k.f0), .string (mkS r47k.f1), .bool r47k.f2]) (fun _ _ => by kernel_rfl) s47w (fun a47x s47z h47y => ?_)
     refine WT.tk 9 h47y rfl rfl (.bool r47l) (fun _ _ => by kernel_rfl) s47z (fun a480 s482 h481 => ?_)
     have hS483 := hS47t.b1
     refine WT.o1 11 h481 rfl ?_
     refine owp_st 0 [.string (mkS r47k.f0), .string (mkS r47k.f1), .bool r47k.f2] h481 rfl rfl rfl hS483 [.string (mkS r47k.f0), .string (mkS r47k.f1), .bool r47k.f2] (fun a484 W486 h485 hS487 => ?_)
     refine ⟨.inr ⟨(hS487.b2.cell (i := 0) rfl), trivial⟩, ?_⟩
     refine WT.tk 12 h485 rfl rfl (.bool r47l) (fun _ _ => by kernel_rfl) ⟨(hS487.b2.cell (i := 0) rfl), trivial⟩ (fun a488 s48a h489 => ?_)
     refine WT.dn ?_
     refine wp_seq ?_
     refine WL.start ?_
     refine WL.bl 4 4 h489 [(45, .pointer (some ⟨g3tr, 2, none⟩)), (44, pt g3tr), (43, pt g3tr), (42, pt g3tr)] (fun a48b h48c => ?_)
     have hS48d := hS487.b2
     refine WL.oq h48c rfl ?_
     refine owp_rn (.bool r443.f2) h48c rfl (run_load1 rfl rfl Tryd.underlying4 rfl (hS48d.cell (i := 2) rfl)) (fun a48e h48f => ?_)
     refine WL.bl 1 6 h48f [(47, .bool r443.f2)] (fun a48g h48h => ?_)
     clear h448 a447 h47e a47d h47q a47p h47v a47u h47y a47x h481 a480 h485 a484 h489 a488 h48c a48b h48f a48e
     by_cases c48i : r443.f2 = true
     ·rw [if_pos c48i] at H
      have hb_ : r443.f2 = true := c48i
      try rw [hb_] at h48h
      clear hb_
      refine WL.sk h48h rfl rfl (fun a48j h48k => ?_)
      refine WL.sk h48k rfl rfl (fun a48l h48m => ?_)
      refine WL.bl 3 11 h48m [(52, .pointer (some ⟨g3tr, 2, none⟩)), (51, pt g3tr), (50, .bool true)] (fun a48n h48o => ?_)
      refine WL.oq h48o rfl ?_
      refine owp_st 2 [.bool true] h48o rfl rfl rfl hS48d [(pt gp0), .slice A44f r443.f1.length c44g, .bool true] (fun a48p W48r h48q hS48s => ?_)
      refine WL.dn ?_
      refine wp_seq ?_
      refine WL.start ?_
      have hS48t := hS48s.b1
      refine WL.oq h48q rfl ?_
      refine owp_rn (.agg #[.string (mkS r47k.f0), .string (mkS r47k.f1), .bool r47k.f2]) h48q rfl (run_loadN rfl rfl Tryd.underlying52 rfl (cs := [.string (mkS r47k.f0), .string (mkS r47k.f1), .bool r47k.f2]) (by kernel_rfl) (hS48t.cells (vs := [.string (mkS r47k.f0), .string (mkS r47k.f1), .bool r47k.f2]) rfl)) (fun a48u h48v => ?_)
      have hS48w := hS48t.b4
      refine WL.oq h48v rfl ?_
      refine owp_st 0 [.string (mkS r47k.f0), .string (mkS r47k.f1), .bool r47k.f2] h48v rfl rfl rfl hS48w [.string (mkS r47k.f0), .string (mkS r47k.f1), .bool r47k.f2] (fun a48x W48z h48y hS490 => ?_)
      refine WL.bl 1 3 h48y [(7, .bool true)] (fun a491 h492 => ?_)
      refine WL.dn ?_
      refine wp_ret ?_
      have hS493 := hS490.b3
      have hS494 := hS493.b3
      obtain ⟨M495, hp496, hS497⟩ := k66qfo (⟨r443.f0, r443.f1, true⟩ : S66) hr47s hr44h hS494
      have hS498 := hS497.b1
      have hS499 := hS498.drop_
      have hS49a := hS499.b1
      have hS49b := hS49a.drop_
      have hS49c := hS49b.b1
      have hS49d := hS49c.drop_
      obtain ⟨rfl, rfl, rfl⟩ := ret3 H
      repeat (first | with_reducible refine t1 ?_ | with_reducible refine t2 ?_ | with_reducible refine t3 ?_)
      refine body_ret (v := .tuple #[.agg #[.string (mkS r47k.f0), .string (mkS r47k.f1), .bool r47k.f2], .bool true]) h492 (by kernel_rfl) (res_many (xs := [ResultVar.cell 6 52, ResultVar.tmp 7]) rfl ⟨⟨_, rfl, loadVarN Tryd.underlying52 rfl (cs := [.string (mkS r47k.f0), .string (mkS r47k.f1), .bool r47k.f2]) (by kernel_rfl) (hS490.cells (vs := [.string (mkS r47k.f0), .string (mkS r47k.f1), .bool r47k.f2]) rfl)⟩, rfl, trivial⟩ rfl) ?_
      exact ⟨M495, rfl, hp496, hS49d⟩
     ·rw [if_neg c48i] at H
      have hb_ : r443.f2 = false := (Bool.eq_false_iff.2 c48i)
      try rw [hb_] at h48h
      clear hb_
      refine WL.oq h48h rfl (owp_rk (.bool r47l) h48h rfl (fun a49e h49f => ?_))
      refine WL.oq h49f rfl (owp_rk (.bool (!r47l)) h49f rfl (fun a49g h49h => ?_))
      refine WL.bl 3 11 h49h [(52, .pointer (some ⟨g3tr, 2, none⟩)), (51, pt g3tr), (50, .bool (!r47l))] (fun a49i h49j => ?_)
      refine WL.oq h49j rfl ?_
      refine owp_st 2 [.bool (!r47l)] h49j rfl rfl rfl hS48d [(pt gp0), .slice A44f r443.f1.length c44g, .bool (!r47l)] (fun a49k W49m h49l hS49n => ?_)
      refine WL.dn ?_
      refine wp_seq ?_
      refine WL.start ?_
      have hS49o := hS49n.b1
      refine WL.oq h49l rfl ?_
      refine owp_rn (.agg #[.string (mkS r47k.f0), .string (mkS r47k.f1), .bool r47k.f2]) h49l rfl (run_loadN rfl rfl Tryd.underlying52 rfl (cs := [.string (mkS r47k.f0), .string (mkS r47k.f1), .bool r47k.f2]) (by kernel_rfl) (hS49o.cells (vs := [.string (mkS r47k.f0), .string (mkS r47k.f1), .bool r47k.f2]) rfl)) (fun a49p h49q => ?_)
      have hS49r := hS49o.b4
      refine WL.oq h49q rfl ?_
      refine owp_st 0 [.string (mkS r47k.f0), .string (mkS r47k.f1), .bool r47k.f2] h49q rfl rfl rfl hS49r [.string (mkS r47k.f0), .string (mkS r47k.f1), .bool r47k.f2] (fun a49s W49u h49t hS49v => ?_)
      refine WL.bl 1 3 h49t [(7, .bool true)] (fun a49w h49x => ?_)
      refine WL.dn ?_
      refine wp_ret ?_
      have hS49y := hS49v.b3
      have hS49z := hS49y.b3
      obtain ⟨M4a0, hp4a1, hS4a2⟩ := k66qfo (⟨r443.f0, r443.f1, !r47l⟩ : S66) hr47s hr44h hS49z
      have hS4a3 := hS4a2.b1
      have hS4a4 := hS4a3.drop_
      have hS4a5 := hS4a4.b1
      have hS4a6 := hS4a5.drop_
      have hS4a7 := hS4a6.b1
      have hS4a8 := hS4a7.drop_
      obtain ⟨rfl, rfl, rfl⟩ := ret3 H
      repeat (first | with_reducible refine t1 ?_ | with_reducible refine t2 ?_ | with_reducible refine t3 ?_)
      refine body_ret (v := .tuple #[.agg #[.string (mkS r47k.f0), .string (mkS r47k.f1), .bool r47k.f2], .bool true]) h49x (by kernel_rfl) (res_many (xs := [ResultVar.cell 6 52, ResultVar.tmp 7]) rfl ⟨⟨_, rfl, loadVarN Tryd.underlying52 rfl (cs := [.string (mkS r47k.f0), .string (mkS r47k.f1), .bool r47k.f2]) (by kernel_rfl) (hS49v.cells (vs := [.string (mkS r47k.f0), .string (mkS r47k.f1), .bool r47k.f2]) rfl)⟩, rfl, trivial⟩ rfl) ?_
      exact ⟨M4a0, rfl, hp4a1, hS4a8⟩
   ·skip
    refine owp_nw (fun g_ => (pt g_)) (.cells ([.string (mkS []), .string (mkS []), .bool false] : List Value).toArray 52 (0, 0)) h43u rfl hS43g (fun a4a9 W4ab g4ac h4aa hS4ad => ?_)
    refine ⟨.inr ⟨(hS4ad.b1.cell (i := 0) rfl), trivial⟩, ?_⟩
    have hS4ae := hS4ad.b2
    have hS4af := hS4ae.b2
    obtain ⟨M4ag, hp4ah, hS4ai⟩ := k66qfo p0 hr3tt hr3tw hS4af
    obtain ⟨r4ak, r4al, A4aj, H⟩ := bind2 H
    refine WT.o1 5 h4aa rfl ?_
    refine owp_call [(pt g3tr), i6 7] h4aa rfl (by kernel_rfl) rfl Tryd.func37 (by kernel_rfl) rfl (by kernel_rfl) (hpack_reader_number.calls k hp4ah A4aj hS4ai) (fun e4an W4am hp4ao => ?_)
    obtain ⟨M4ar, rfl, hr4as, hS4at⟩ := hp4ao
    refine ⟨_, rfl, fun a4ap h4aq => ?_⟩
    obtain ⟨A4ax, c4ay, M4av, hr4aw, hr4az, hS4au⟩ := k66qoq hr4as hS4at
    refine ⟨.inr ⟨(hS4au.cell (i := 0) rfl), trivial⟩, ?_⟩
    have hS4b0 := hS4au.b1
    obtain ⟨r4b2, r4b3, A4b1, H⟩ := bind2 H
    refine WT.o1 6 h4aq rfl ?_
    refine owp_call [(pt gp0), i6 r4ak] h4aq rfl (by kernel_rfl) rfl Tryd.func36 (by kernel_rfl) rfl (by kernel_rfl) (dyntable_Table_At.calls hr4aw hg0 A4b1 hS4b0) (fun e4b5 W4b4 hp4b6 => ?_)
    obtain ⟨M4b9, rfl, hr4ba, hS4bb⟩ := hp4b6
    refine ⟨_, rfl, fun a4b7 h4b8 => ?_⟩
    refine ⟨.inr ⟨(hS4bb.b1.cell (i := 0) rfl), trivial⟩, ?_⟩
    refine WT.tk 7 h4b8 rfl rfl (.tuple #[.agg #[.string (mkS r4b2.f0), .string (mkS r4b2.f1), .bool r4b2.f2], .bool r4b3]) (fun _ _ => by kernel_rfl) ⟨(hS4bb.b1.cell (i := 0) rfl), trivial⟩ (fun a4bc s4be h4bd => ?_)
    refine WT.tk 8 h4bd rfl rfl (.agg #[.string (mkS r4b2.f0), .string (mkS r4b2.f1), .bool r4b2.f2]) (fun _ _ => by kernel_rfl) s4be (fun a4bf s4bh h4bg => ?_)
    refine WT.tk 9 h4bg rfl rfl (.bool r4b3) (fun _ _ => by kernel_rfl) s4bh (fun a4bi s4bk h4bj => ?_)
    have hS4bl := hS4bb.b2
    refine WT.o1 11 h4bj rfl ?_
    refine owp_st 0 [.string (mkS r4b2.f0), .string (mkS r4b2.f1), .bool r4b2.f2] h4bj rfl rfl rfl hS4bl [.string (mkS r4b2.f0), .string (mkS r4b2.f1), .bool r4b2.f2] (fun a4bm W4bo h4bn hS4bp => ?_)
    refine ⟨.inr ⟨(hS4bp.b2.cell (i := 0) rfl), trivial⟩, ?_⟩
    refine WT.tk 12 h4bn rfl rfl (.bool r4b3) (fun _ _ => by kernel_rfl) ⟨(hS4bp.b2.cell (i := 0) rfl), trivial⟩ (fun a4bq s4bs h4br => ?_)
    refine WT.dn ?_
    refine wp_seq ?_
    refine WL.start ?_
    refine WL.bl 4 4 h4br [(45, .pointer (some ⟨g3tr, 2, none⟩)), (44, pt g3tr), (43, pt g3tr), (42, pt g3tr)] (fun a4bt h4bu => ?_)
    have hS4bv := hS4bp.b2
    refine WL.oq h4bu rfl ?_
    refine owp_rn (.bool r4al.f2) h4bu rfl (run_load1 rfl rfl Tryd.underlying4 rfl (hS4bv.cell (i := 2) rfl)) (fun a4bw h4bx => ?_)
    refine WL.bl 1 6 h4bx [(47, .bool r4al.f2)] (fun a4by h4bz => ?_)
    clear h43u a43t h4aa a4a9 h4aq a4ap h4b8 a4b7 h4bd a4bc h4bg a4bf h4bj a4bi h4bn a4bm h4br a4bq h4bu a4bt h4bx a4bw
    by_cases c4c0 : r4al.f2 = true
    ·rw [if_pos c4c0] at H
     have hb_ : r4al.f2 = true := c4c0
     try rw [hb_] at h4bz
     clear hb_
     refine WL.sk h4bz rfl rfl (fun a4c1 h4c2 => ?_)
     refine WL.sk h4c2 rfl rfl (fun a4c3 h4c4 => ?_)
     refine WL.bl 3 11 h4c4 [(52, .pointer (some ⟨g3tr, 2, none⟩)), (51, pt g3tr), (50, .bool true)] (fun a4c5 h4c6 => ?_)
     refine WL.oq h4c6 rfl ?_
     refine owp_st 2 [.bool true] h4c6 rfl rfl rfl hS4bv [(pt gp0), .slice A4ax r4al.f1.length c4ay, .bool true] (fun a4c7 W4c9 h4c8 hS4ca => ?_)
     refine WL.dn ?_
     refine wp_seq ?_
     refine WL.start ?_
     have hS4cb := hS4ca.b1
     refine WL.oq h4c8 rfl ?_
     refine owp_rn (.agg #[.string (mkS r4b2.f0), .string (mkS r4b2.f1), .bool r4b2.f2]) h4c8 rfl (run_loadN rfl rfl Tryd.underlying52 rfl (cs := [.string (mkS r4b2.f0), .string (mkS r4b2.f1), .bool r4b2.f2]) (by kernel_rfl) (hS4cb.cells (vs := [.string (mkS r4b2.f0), .string (mkS r4b2.f1), .bool r4b2.f2]) rfl)) (fun a4cc h4cd => ?_)
     have hS4ce := hS4cb.b4
     refine WL.oq h4cd rfl ?_
     refine owp_st 0 [.string (mkS r4b2.f0), .string (mkS r4b2.f1), .bool r4b2.f2] h4cd rfl rfl rfl hS4ce [.string (mkS r4b2.f0), .string (mkS r4b2.f1), .bool r4b2.f2] (fun a4cf W4ch h4cg hS4ci => ?_)
     refine WL.bl 1 3 h4cg [(7, .bool true)] (fun a4cj h4ck => ?_)
     refine WL.dn ?_
     refine wp_ret ?_
     have hS4cl := hS4ci.b3
     have hS4cm := hS4cl.b3
     obtain ⟨M4cn, hp4co, hS4cp⟩ := k66qfo (⟨r4al.f0, r4al.f1, true⟩ : S66) hr4ba hr4az hS4cm
     have hS4cq := hS4cp.b1
     have hS4cr := hS4cq.drop_
     have hS4cs := hS4cr.b1
     have hS4ct := hS4cs.drop_
     have hS4cu := hS4ct.b1
     have hS4cv := hS4cu.drop_
     obtain ⟨rfl, rfl, rfl⟩ := ret3 H
     repeat (first | with_reducible refine t1 ?_ | with_reducible refine t2 ?_ | with_reducible refine t3 ?_)
     refine body_ret (v := .tuple #[.agg #[.string (mkS r4b2.f0), .string (mkS r4b2.f1), .bool r4b2.f2], .bool true]) h4ck (by kernel_rfl) (res_many (xs := [ResultVar.cell 6 52, ResultVar.tmp 7]) rfl ⟨⟨_, rfl, loadVarN Tryd.underlying52 rfl (cs := [.string (mkS r4b2.f0), .string (mkS r4b2.f1), .bool r4b2.f2]) (by kernel_rfl) (hS4ci.cells (vs := [.string (mkS r4b2.f0), .string (mkS r4b2.f1), .bool r4b2.f2]) rfl)⟩, rfl, trivial⟩ rfl) ?_
     exact ⟨M4cn, rfl, hp4co, hS4cv⟩
    ·rw [if_neg c4c0] at H
     have hb_ : r4al.f2 = false := (Bool.eq_false_iff.2 c4c0)
     try rw [hb_] at h4bz
     clear hb_
     refine WL.oq h4bz rfl (owp_rk (.bool r4b3) h4bz rfl (fun a4cw h4cx => ?_))
     refine WL.oq h4cx rfl (owp_rk (.bool (!r4b3)) h4cx rfl (fun a4cy h4cz => ?_))
     refine WL.bl 3 11 h4cz [(52, .pointer (some ⟨g3tr, 2, none⟩)), (51, pt g3tr), (50, .bool (!r4b3))] (fun a4d0 h4d1 => ?_)
     refine WL.oq h4d1 rfl ?_
     refine owp_st 2 [.bool (!r4b3)] h4d1 rfl rfl rfl hS4bv [(pt gp0), .slice A4ax r4al.f1.length c4ay, .bool (!r4b3)] (fun a4d2 W4d4 h4d3 hS4d5 => ?_)
     refine WL.dn ?_
     refine wp_seq ?_
     refine WL.start ?_
     have hS4d6 := hS4d5.b1
     refine WL.oq h4d3 rfl ?_
     refine owp_rn (.agg #[.string (mkS r4b2.f0), .string (mkS r4b2.f1), .bool r4b2.f2]) h4d3 rfl (run_loadN rfl rfl Tryd.underlying52 rfl (cs := [.string (mkS r4b2.f0), .string (mkS r4b2.f1), .bool r4b2.f2]) (by kernel_rfl) (hS4d6.cells (vs := [.string (mkS r4b2.f0), .string (mkS r4b2.f1), .bool r4b2.f2]) rfl)) (fun a4d7 h4d8 => ?_)
     have hS4d9 := hS4d6.b4
     refine WL.oq h4d8 rfl ?_
     refine owp_st 0 [.string (mkS r4b2.f0), .string (mkS r4b2.f1), .bool r4b2.f2] h4d8 rfl rfl rfl hS4d9 [.string (mkS r4b2.f0), .string (mkS r4b2.f1), .bool r4b2.f2] (fun a4da W4dc h4db hS4dd => ?_)
     refine WL.bl 1 3 h4db [(7, .bool true)] (fun a4de h4df => ?_)
     refine WL.dn ?_
     refine wp_ret ?_
     have hS4dg := hS4dd.b3
     have hS4dh := hS4dg.b3
     obtain ⟨M4di, hp4dj, hS4dk⟩ := k66qfo (⟨r4al.f0, r4al.f1, !r4b3⟩ : S66) hr4ba hr4az hS4dh
     have hS4dl := hS4dk.b1
     have hS4dm := hS4dl.drop_
     have hS4dn := hS4dm.b1
     have hS4do := hS4dn.drop_
     have hS4dp := hS4do.b1
     have hS4dq := hS4dp.drop_
     obtain ⟨rfl, rfl, rfl⟩ := ret3 H
     repeat (first | with_reducible refine t1 ?_ | with_reducible refine t2 ?_ | with_reducible refine t3 ?_)
     refine body_ret (v := .tuple #[.agg #[.string (mkS r4b2.f0), .string (mkS r4b2.f1), .bool r4b2.f2], .bool true]) h4df (by kernel_rfl) (res_many (xs := [ResultVar.cell 6 52, ResultVar.tmp 7]) rfl ⟨⟨_, rfl, loadVarN Tryd.underlying52 rfl (cs := [.string (mkS r4b2.f0), .string (mkS r4b2.f1), .bool r4b2.f2]) (by kernel_rfl) (hS4dd.cells (vs := [.string (mkS r4b2.f0), .string (mkS r4b2.f1), .bool r4b2.f2]) rfl)⟩, rfl, trivial⟩ rfl) ?_
     exact ⟨M4di, rfl, hp4dj, hS4dq⟩
  ·rw [if_neg c3uj] at H
   have hb_ : (decide ((gt (0 : Int) p0.f1 (0 : Int)) ≥ 128)) = false := decide_eq_false c3uj
   try rw [hb_] at h3ui
   clear hb_
   refine wp_else h3ui rfl ?_
   refine wp_skip ?_
   refine wp_seq ?_
   refine wp_seq ?_
   refine WL.start ?_
   refine WL.bl 3 3 h3ui [(23, .bool (decide ((gt (0 : Int) p0.f1 (0 : Int)) ≥ 64))), (25, .bool (decide ((gt (0 : Int) p0.f1 (0 : Int)) ≥ 64))), (24, .int .u8 (gt (0 : Int) p0.f1 (0 : Int)))] (fun a4dr h4ds => ?_)
   refine WL.dn ?_
   clear h3ui a3uh
   by_cases c4dt : (gt (0 : Int) p0.f1 (0 : Int)) ≥ 64
   ·rw [if_pos c4dt] at H
    have hb_ : (decide ((gt (0 : Int) p0.f1 (0 : Int)) ≥ 64)) = true := decide_eq_true c4dt
    try rw [hb_] at h4ds
    clear hb_
    refine wp_then h4ds rfl ?_
    refine wp_exit ?_
    refine wp_seq ?_
    refine wp_seq ?_
    refine WL.start ?_
    refine WL.bl 1 1 h4ds [(54, pt g3tr)] (fun a4du h4dv => ?_)
    have hS4dw := hS3tq.b1
    have hS4dx := hS4dw.b1
    obtain ⟨M4dy, hp4dz, hS4e0⟩ := k66qfo p0 hr3tt hr3tw hS4dx
    obtain ⟨r4e2, r4e3, A4e1, H⟩ := bind2 H
    refine WL.oq h4dv rfl ?_
    refine owp_call [(pt g3tr), i6 6] h4dv rfl (by kernel_rfl) rfl Tryd.func38 (by kernel_rfl) rfl (by kernel_rfl) (hpack_reader_field.calls k hp4dz hg0 hg1 A4e1 hS4e0) (fun e4e5 W4e4 hp4e6 => ?_)
    obtain ⟨M4e9, rfl, hr4ea, hS4eb⟩ := hp4e6
    refine ⟨_, rfl, fun a4e7 h4e8 => ?_⟩
    have hS4ec := hS4eb.b1
    refine WL.oq h4e8 rfl ?_
    refine owp_st 0 [.string (mkS r4e2.f0), .string (mkS r4e2.f1), .bool r4e2.f2] h4e8 rfl rfl rfl hS4ec [.string (mkS r4e2.f0), .string (mkS r4e2.f1), .bool r4e2.f2] (fun a4ed W4ef h4ee hS4eg => ?_)
    refine WL.dn ?_
    refine wp_seq ?_
    refine WL.start ?_
    refine WL.bl 1 1 h4ee [(56, pt g3tr)] (fun a4eh h4ei => ?_)
    have hS4ej := hS4eg.b1
    obtain ⟨A4en, c4eo, M4el, hr4em, hr4ep, hS4ek⟩ := k66qoq hr4ea hS4ej
    refine WL.bl 2 3 h4ei [(58, .pointer (some ⟨g3tr, 2, none⟩)), (57, pt g3tr)] (fun a4eq h4er => ?_)
    refine WL.oq h4er rfl ?_
    refine owp_rn (.bool r4e3.f2) h4er rfl (run_load1 rfl rfl Tryd.underlying4 rfl (hS4ek.cell (i := 2) rfl)) (fun a4es h4et => ?_)
    refine WL.bl 1 5 h4et [(60, .bool (!r4e3.f2))] (fun a4eu h4ev => ?_)
    refine WL.dn ?_
    have hS4ew := hS4ek.b1
    have hS4ex := hS4ew.b1
    obtain ⟨M4ey, hp4ez, hS4f0⟩ := k66qfo r4e3 hr4em hr4ep hS4ex
    clear h4ds a4dr h4dv a4du h4e8 a4e7 h4ee a4ed h4ei a4eh h4er a4eq h4et a4es
    refine wp_meet (I := fun a_ W_ => ∃ kq_, ∃ (x4ho : S66), ∃ (M4hp : Frag), Hd a_ 107 [(6, pt g3te), (8, pt g3tl)] ∧ Asd (hpack_reader_piece.j0 kq_ x4ho r4e2 = some (r0q, r1q, r2q)) ∧ Asd (kq_ ≤ k) ∧ Asd (St b w0 W_ R ((bx g3te 52 [.string (mkS []), .string (mkS []), .bool false]) :: (bx g3tl 52 [.string (mkS r4e2.f0), .string (mkS r4e2.f1), .bool r4e2.f2]) :: M4hp :: Fs)) ∧ Asd (Ptr (k66 gp0) 66 b w0 R (pt g3tr) x4ho M4hp)) ?_ ?_
    ·by_cases c4hr : r4e3.f2 = true
     ·rw [if_pos c4hr] at H
      have hb_ : r4e3.f2 = true := c4hr
      try rw [hb_] at h4ev
      clear hb_
      refine wp_else h4ev rfl ?_
      refine wp_skip ?_
      have hS4hs := hS4f0.b1
      have hS4ht := hS4hs.b2
      exact ⟨k, r4e3, M4ey, h4ev.keep ⟨rfl, rfl, trivial⟩, ⟨H⟩, ⟨by omega⟩, ⟨hS4ht⟩, ⟨hp4ez⟩⟩
     ·rw [if_neg c4hr] at H
      have hb_ : r4e3.f2 = false := (Bool.eq_false_iff.2 c4hr)
      try rw [hb_] at h4ev
      clear hb_
      refine wp_then h4ev rfl ?_
      obtain ⟨A4hx, c4hy, M4hv, hr4hw, hr4hz, hS4hu⟩ := k66qoq hp4ez hS4f0
      refine WT.start 6 (fun w_ => (w_.cell? ⟨g3tr, 0, none⟩ = some (pt gp0)) ∧ (∀ j_ u_, ([.string (mkS r4e2.f0), .string (mkS r4e2.f1), .bool r4e2.f2] : List Value)[j_]? = some u_ → w_.cell? ((⟨g3tl, 0, none⟩ : Addr).add j_) = some u_) ∧ True) (by kernel_rfl) #[false, false, false, false, false, false] 6 rfl rfl ?_
      have hS4jg := hS4hu.drew
      refine WT.tk 0 h4ev rfl rfl (pt g3tr) (fun _ _ => by kernel_rfl) ⟨(hS4jg.cell (i := 0) rfl), (hS4jg.b2.cells (vs := [.string (mkS r4e2.f0), .string (mkS r4e2.f1), .bool r4e2.f2]) rfl), trivial⟩ (fun a4jh s4jj h4ji => ?_)
      refine WT.tk 1 h4ji rfl rfl (pt g3tr) (fun _ _ => by kernel_rfl) s4jj (fun a4jk s4jm h4jl => ?_)
      refine WT.tk 2 h4jl rfl rfl (pt g3tr) (fun _ _ => by kernel_rfl) s4jm (fun a4jn s4jp h4jo => ?_)
      refine WT.tk 3 h4jo rfl rfl (pt gp0) (fun w_ hs_ => (run_load1 rfl rfl Tryd.underlying59 rfl hs_.1)) s4jp (fun a4jq s4js h4jr => ?_)
      refine WT.tk 4 h4jr rfl rfl (.agg #[.string (mkS r4e2.f0), .string (mkS r4e2.f1), .bool r4e2.f2]) (fun w_ hs_ => (run_loadN rfl rfl Tryd.underlying52 rfl (cs := [.string (mkS r4e2.f0), .string (mkS r4e2.f1), .bool r4e2.f2]) (by kernel_rfl) hs_.2.1)) s4js (fun a4jt s4jv h4ju => ?_)
      have hS4jw := hS4jg.b1
      obtain ⟨r4jy, A4jx, H⟩ := bind1 H
      refine WT.o1 5 h4ju rfl ?_
      refine owp_call [(pt gp0), .agg #[.string (mkS r4e2.f0), .string (mkS r4e2.f1), .bool r4e2.f2]] h4ju rfl (by kernel_rfl) rfl Tryd.func39 (by kernel_rfl) rfl (by kernel_rfl) (dyntable_Table_Add.calls (p1 := (⟨r4e2.f0, r4e2.f1, r4e2.f2⟩ : S52)) k hr4hw A4jx hS4jw) (fun e4k0 W4jz hp4k1 => ?_)
      obtain ⟨M4k4, rfl, hr4k5, hS4k6⟩ := hp4k1
      refine ⟨_, rfl, fun a4k2 h4k3 => ?_⟩
      refine ⟨.inr ⟨(hS4k6.b1.cell (i := 0) rfl), (hS4k6.b2.cells (vs := [.string (mkS r4e2.f0), .string (mkS r4e2.f1), .bool r4e2.f2]) rfl), trivial⟩, ?_⟩
      refine WT.dn ?_
      have hS4k7 := hS4k6.b1
      obtain ⟨M4k8, hp4k9, hS4ka⟩ := k66qfo (⟨r4jy, r4e3.f1, r4e3.f2⟩ : S66) hr4k5 hr4hz hS4k7
      have hS4kb := hS4ka.b1
      have hS4kc := hS4kb.b2
      exact ⟨k, (⟨r4jy, r4e3.f1, r4e3.f2⟩ : S66), M4k8, h4k3.keep ⟨rfl, rfl, trivial⟩, ⟨H⟩, ⟨by omega⟩, ⟨hS4kc⟩, ⟨hp4k9⟩⟩
    ·clear H hS4f0
     rintro a4hk W4hl ⟨kk4hn, x4ho, M4hp, h4hj, ⟨H⟩, ⟨hkkk4hn⟩, ⟨hS4hm⟩, ⟨hr4hq⟩⟩
     obtain _ | kk4kd := kk4hn
     ·exact absurd H (by simp [hpack_reader_piece.j0])
     simp only [hpack_reader_piece.j0] at H
     refine wp_exit ?_
     refine wp_seq ?_
     refine WL.start ?_
     have hS4ke := hS4hm.b1
     refine WL.oq h4hj rfl ?_
     refine owp_rn (.agg #[.string (mkS r4e2.f0), .string (mkS r4e2.f1), .bool r4e2.f2]) h4hj rfl (run_loadN rfl rfl Tryd.underlying52 rfl (cs := [.string (mkS r4e2.f0), .string (mkS r4e2.f1), .bool r4e2.f2]) (by kernel_rfl) (hS4ke.cells (vs := [.string (mkS r4e2.f0), .string (mkS r4e2.f1), .bool r4e2.f2]) rfl)) (fun a4kf h4kg => ?_)
     have hS4kh := hS4ke.b1
     refine WL.oq h4kg rfl ?_
     refine owp_st 0 [.string (mkS r4e2.f0), .string (mkS r4e2.f1), .bool r4e2.f2] h4kg rfl rfl rfl hS4kh [.string (mkS r4e2.f0), .string (mkS r4e2.f1), .bool r4e2.f2] (fun a4ki W4kk h4kj hS4kl => ?_)
     refine WL.bl 1 3 h4kj [(7, .bool true)] (fun a4km h4kn => ?_)
     refine WL.dn ?_
     refine wp_ret ?_
     have hS4ko := hS4kl.drop_
     have hS4kp := hS4ko.drop_
     obtain ⟨rfl, rfl, rfl⟩ := ret3 H
     repeat (first | with_reducible refine t1 ?_ | with_reducible refine t2 ?_ | with_reducible refine t3 ?_)
     refine body_ret (v := .tuple #[.agg #[.string (mkS r4e2.f0), .string (mkS r4e2.f1), .bool r4e2.f2], .bool true]) h4kn (by kernel_rfl) (res_many (xs := [ResultVar.cell 6 52, ResultVar.tmp 7]) rfl ⟨⟨_, rfl, loadVarN Tryd.underlying52 rfl (cs := [.string (mkS r4e2.f0), .string (mkS r4e2.f1), .bool r4e2.f2]) (by kernel_rfl) (hS4kl.cells (vs := [.string (mkS r4e2.f0), .string (mkS r4e2.f1), .bool r4e2.f2]) rfl)⟩, rfl, trivial⟩ rfl) ?_
     exact ⟨M4hp, rfl, hr4hq, hS4kp⟩
   ·rw [if_neg c4dt] at H
    have hb_ : (decide ((gt (0 : Int) p0.f1 (0 : Int)) ≥ 64)) = false := decide_eq_false c4dt
    try rw [hb_] at h4ds
    clear hb_
    refine wp_else h4ds rfl ?_
    refine wp_skip ?_
    refine wp_seq ?_
    refine wp_seq ?_
    refine WL.start ?_
    refine WL.bl 3 3 h4ds [(26, .bool (decide ((gt (0 : Int) p0.f1 (0 : Int)) ≥ 32))), (28, .bool (decide ((gt (0 : Int) p0.f1 (0 : Int)) ≥ 32))), (27, .int .u8 (gt (0 : Int) p0.f1 (0 : Int)))] (fun a4kq h4kr => ?_)
    refine WL.dn ?_
    clear h4ds a4dr
    by_cases c4ks : (gt (0 : Int) p0.f1 (0 : Int)) ≥ 32
    ·rw [if_pos c4ks] at H
     have hb_ : (decide ((gt (0 : Int) p0.f1 (0 : Int)) ≥ 32)) = true := decide_eq_true c4ks
     try rw [hb_] at h4kr
     clear hb_
     refine wp_then h4kr rfl ?_
     refine wp_exit ?_
     refine wp_seq ?_
     refine wp_seq ?_
     refine WL.start ?_
     refine WL.bl 1 1 h4kr [(67, pt g3tr)] (fun a4kt h4ku => ?_)
     have hS4kv := hS3tq.b1
     have hS4kw := hS4kv.b1
     obtain ⟨M4kx, hp4ky, hS4kz⟩ := k66qfo p0 hr3tt hr3tw hS4kw
     obtain ⟨r4l1, r4l2, A4l0, H⟩ := bind2 H
     refine WL.oq h4ku rfl ?_
     refine owp_call [(pt g3tr), i6 5] h4ku rfl (by kernel_rfl) rfl Tryd.func37 (by kernel_rfl) rfl (by kernel_rfl) (hpack_reader_number.calls k hp4ky A4l0 hS4kz) (fun e4l4 W4l3 hp4l5 => ?_)
     obtain ⟨M4l8, rfl, hr4l9, hS4la⟩ := hp4l5
     refine ⟨_, rfl, fun a4l6 h4l7 => ?_⟩
     refine WL.bl 1 3 h4l7 [(12, i6 r4l1)] (fun a4lb h4lc => ?_)
     refine WL.dn ?_
     refine wp_seq ?_
     refine WL.start ?_
     refine WL.bl 2 2 h4lc [(70, pt g3tr), (69, pt g3tr)] (fun a4ld h4le => ?_)
     obtain ⟨A4li, c4lj, M4lg, hr4lh, hr4lk, hS4lf⟩ := k66qoq hr4l9 hS4la
     refine WL.bl 2 4 h4le [(72, .pointer (some ⟨g3tr, 2, none⟩)), (71, pt g3tr)] (fun a4ll h4lm => ?_)
     refine WL.oq h4lm rfl ?_
     refine owp_rn (.bool r4l2.f2) h4lm rfl (run_load1 rfl rfl Tryd.underlying4 rfl (hS4lf.cell (i := 2) rfl)) (fun a4ln h4lo => ?_)
     refine WL.bl 1 6 h4lo [(74, .bool r4l2.f2)] (fun a4lp h4lq => ?_)
     clear h4kr a4kq h4ku a4kt h4l7 a4l6 h4lc a4lb h4le a4ld h4lm a4ll h4lo a4ln
     by_cases c4lr : r4l2.f2 = true
     ·rw [if_pos c4lr] at H
      have hb_ : r4l2.f2 = true := c4lr
      try rw [hb_] at h4lq
      clear hb_
      refine WL.sk h4lq rfl rfl (fun a4ls h4lt => ?_)
      refine WL.sk h4lt rfl rfl (fun a4lu h4lv => ?_)
      refine WL.bl 2 10 h4lv [(78, .bool true), (77, .bool true)] (fun a4lw h4lx => ?_)
      refine WL.sk h4lx rfl rfl (fun a4ly h4lz => ?_)
      refine WL.sk h4lz rfl rfl (fun a4m0 h4m1 => ?_)
      refine WL.sk h4m1 rfl rfl (fun a4m2 h4m3 => ?_)
      refine WL.sk h4m3 rfl rfl (fun a4m4 h4m5 => ?_)
      refine WL.bl 3 17 h4m5 [(85, .pointer (some ⟨g3tr, 2, none⟩)), (84, pt g3tr), (83, .bool true)] (fun a4m6 h4m7 => ?_)
      refine WL.oq h4m7 rfl ?_
      refine owp_st 2 [.bool true] h4m7 rfl rfl rfl hS4lf [(pt gp0), .slice A4li r4l2.f1.length c4lj, .bool true] (fun a4m8 W4ma h4m9 hS4mb => ?_)
      refine WL.dn ?_
      refine wp_seq ?_
      refine wp_seq ?_
      refine WL.start ?_
      refine WL.bl 3 3 h4m9 [(88, .pointer (some ⟨g3tr, 2, none⟩)), (87, pt g3tr), (86, pt g3tr)] (fun a4mc h4md => ?_)
      refine WL.oq h4md rfl ?_
      refine owp_rn (.bool true) h4md rfl (run_load1 rfl rfl Tryd.underlying4 rfl (hS4mb.cell (i := 2) rfl)) (fun a4me h4mf => ?_)
      refine WL.bl 1 5 h4mf [(90, .bool false)] (fun a4mg h4mh => ?_)
      clear h4lq a4lp h4lt a4ls h4lv a4lu h4lx a4lw h4lz a4ly h4m1 a4m0 h4m3 a4m2 h4m5 a4m4 h4m7 a4m6 h4m9 a4m8 h4md a4mc h4mf a4me
      refine WL.dn ?_
      refine wp_else h4mh rfl ?_
      refine wp_skip ?_
      refine wp_seq ?_
      refine WL.start ?_
      have hS4mi := hS4mb.b2
      refine WL.oq h4mh rfl ?_
      refine owp_rn (.agg #[.string (mkS []), .string (mkS []), .bool false]) h4mh rfl (run_loadN rfl rfl Tryd.underlying52 rfl (cs := [.string (mkS []), .string (mkS []), .bool false]) (by kernel_rfl) (hS4mi.cells (vs := [.string (mkS []), .string (mkS []), .bool false]) rfl)) (fun a4mj h4mk => ?_)
      have hS4ml := hS4mi.b3
      refine WL.oq h4mk rfl ?_
      refine owp_st 0 [.string (mkS []), .string (mkS []), .bool false] h4mk rfl rfl rfl hS4ml [.string (mkS []), .string (mkS []), .bool false] (fun a4mm W4mo h4mn hS4mp => ?_)
      refine WL.bl 1 3 h4mn [(7, .bool false)] (fun a4mq h4mr => ?_)
      refine WL.dn ?_
      refine wp_ret ?_
      have hS4ms := hS4mp.b3
      have hS4mt := hS4ms.b3
      obtain ⟨M4mu, hp4mv, hS4mw⟩ := k66qfo (⟨r4l2.f0, r4l2.f1, true⟩ : S66) hr4lh hr4lk hS4mt
      have hS4mx := hS4mw.b1
      have hS4my := hS4mx.drop_
      have hS4mz := hS4my.b1
      have hS4n0 := hS4mz.drop_
      obtain ⟨rfl, rfl, rfl⟩ := ret3 H
      repeat (first | with_reducible refine t1 ?_ | with_reducible refine t2 ?_ | with_reducible refine t3 ?_)
      refine body_ret (v := .tuple #[.agg #[.string (mkS []), .string (mkS []), .bool false], .bool false]) h4mr (by kernel_rfl) (res_many (xs := [ResultVar.cell 6 52, ResultVar.tmp 7]) rfl ⟨⟨_, rfl, loadVarN Tryd.underlying52 rfl (cs := [.string (mkS []), .string (mkS []), .bool false]) (by kernel_rfl) (hS4mp.cells (vs := [.string (mkS []), .string (mkS []), .bool false]) rfl)⟩, rfl, trivial⟩ rfl) ?_
      exact ⟨M4mu, rfl, hp4mv, hS4n0⟩
     ·rw [if_neg c4lr] at H
      have hb_ : r4l2.f2 = false := (Bool.eq_false_iff.2 c4lr)
      try rw [hb_] at h4lq
      clear hb_
      refine WL.oq h4lq rfl (owp_rk (.bool p2) h4lq rfl (fun a4n1 h4n2 => ?_))
      refine WL.oq h4n2 rfl (owp_rk (.bool (!p2)) h4n2 rfl (fun a4n3 h4n4 => ?_))
      refine WL.bl 2 10 h4n4 [(78, .bool (!p2)), (77, .bool (!p2))] (fun a4n5 h4n6 => ?_)
      clear h4lq a4lp h4n2 a4n1 h4n4 a4n3
      by_cases c4n7 : p2 = true
      ·rw [if_pos c4n7] at H
       have hb_ : p2 = true := c4n7
       try rw [hb_] at h4n6
       clear hb_
       refine WL.oq h4n6 rfl (owp_rk (i6 r4l1) h4n6 rfl (fun a4n8 h4n9 => ?_))
       refine WL.oq h4n9 rfl (owp_rk (.int .u32 p1) h4n9 rfl (fun a4na h4nb => ?_))
       refine WL.oq h4nb rfl (owp_rk (i6 (IntKind.i64.wrap p1)) h4nb rfl (fun a4nc h4nd => ?_))
       refine WL.oq h4nd rfl (owp_rk (.bool (decide (r4l1 > (IntKind.i64.wrap p1)))) h4nd rfl (fun a4ne h4nf => ?_))
       refine WL.bl 3 17 h4nf [(85, .pointer (some ⟨g3tr, 2, none⟩)), (84, pt g3tr), (83, .bool (decide (r4l1 > (IntKind.i64.wrap p1))))] (fun a4ng h4nh => ?_)
       refine WL.oq h4nh rfl ?_
       refine owp_st 2 [.bool (decide (r4l1 > (IntKind.i64.wrap p1)))] h4nh rfl rfl rfl hS4lf [(pt gp0), .slice A4li r4l2.f1.length c4lj, .bool (decide (r4l1 > (IntKind.i64.wrap p1)))] (fun a4ni W4nk h4nj hS4nl => ?_)
       refine WL.dn ?_
       refine wp_seq ?_
       refine wp_seq ?_
       refine WL.start ?_
       refine WL.bl 3 3 h4nj [(88, .pointer (some ⟨g3tr, 2, none⟩)), (87, pt g3tr), (86, pt g3tr)] (fun a4nm h4nn => ?_)
       refine WL.oq h4nn rfl ?_
       refine owp_rn (.bool (decide (r4l1 > (IntKind.i64.wrap p1)))) h4nn rfl (run_load1 rfl rfl Tryd.underlying4 rfl (hS4nl.cell (i := 2) rfl)) (fun a4no h4np => ?_)
       refine WL.bl 1 5 h4np [(90, .bool (!(decide (r4l1 > (IntKind.i64.wrap p1)))))] (fun a4nq h4nr => ?_)
       refine WL.dn ?_
       clear h4n6 a4n5 h4n9 a4n8 h4nb a4na h4nd a4nc h4nf a4ne h4nh a4ng h4nj a4ni h4nn a4nm h4np a4no
       by_cases c4ns : r4l1 > (IntKind.i64.wrap p1)
       ·rw [if_pos c4ns] at H
        have hb_ : (decide (r4l1 > (IntKind.i64.wrap p1))) = true := decide_eq_true c4ns
        try rw [hb_] at h4nr
        clear hb_
        refine wp_else h4nr rfl ?_
        refine wp_skip ?_
        refine wp_seq ?_
        refine WL.start ?_
        have hS4nt := hS4nl.b2
        refine WL.oq h4nr rfl ?_
        refine owp_rn (.agg #[.string (mkS []), .string (mkS []), .bool false]) h4nr rfl (run_loadN rfl rfl Tryd.underlying52 rfl (cs := [.string (mkS []), .string (mkS []), .bool false]) (by kernel_rfl) (hS4nt.cells (vs := [.string (mkS []), .string (mkS []), .bool false]) rfl)) (fun a4nu h4nv => ?_)
        have hS4nw := hS4nt.b3
        refine WL.oq h4nv rfl ?_
        refine owp_st 0 [.string (mkS []), .string (mkS []), .bool false] h4nv rfl rfl rfl hS4nw [.string (mkS []), .string (mkS []), .bool false] (fun a4nx W4nz h4ny hS4o0 => ?_)
        refine WL.bl 1 3 h4ny [(7, .bool false)] (fun a4o1 h4o2 => ?_)
        refine WL.dn ?_
        refine wp_ret ?_
        have hS4o3 := hS4o0.b3
        have hS4o4 := hS4o3.b3
        obtain ⟨M4o5, hp4o6, hS4o7⟩ := k66qfo (⟨r4l2.f0, r4l2.f1, decide (r4l1 > (IntKind.i64.wrap p1))⟩ : S66) hr4lh hr4lk hS4o4
        have hS4o8 := hS4o7.b1
        have hS4o9 := hS4o8.drop_
        have hS4oa := hS4o9.b1
        have hS4ob := hS4oa.drop_
        obtain ⟨rfl, rfl, rfl⟩ := ret3 H
        repeat (first | with_reducible refine t1 ?_ | with_reducible refine t2 ?_ | with_reducible refine t3 ?_)
        refine body_ret (v := .tuple #[.agg #[.string (mkS []), .string (mkS []), .bool false], .bool false]) h4o2 (by kernel_rfl) (res_many (xs := [ResultVar.cell 6 52, ResultVar.tmp 7]) rfl ⟨⟨_, rfl, loadVarN Tryd.underlying52 rfl (cs := [.string (mkS []), .string (mkS []), .bool false]) (by kernel_rfl) (hS4o0.cells (vs := [.string (mkS []), .string (mkS []), .bool false]) rfl)⟩, rfl, trivial⟩ rfl) ?_
        exact ⟨M4o5, rfl, hp4o6, hS4ob⟩
       ·rw [if_neg c4ns] at H
        have hb_ : (decide (r4l1 > (IntKind.i64.wrap p1))) = false := decide_eq_false c4ns
        try rw [hb_] at h4nr
        clear hb_
        refine wp_then h4nr rfl ?_
        refine WL.start ?_
        refine WL.bl 3 3 h4nr [(93, pt g3tr), (92, pt g3tr), (91, pt g3tr)] (fun a4oc h4od => ?_)
        refine WL.oq h4od rfl ?_
        refine owp_rn (pt gp0) h4od rfl (run_load1 rfl rfl Tryd.underlying59 rfl (hS4nl.cell (i := 0) rfl)) (fun a4oe h4of => ?_)
        refine WL.bl 2 6 h4of [(96, .int .u32 (IntKind.u32.wrap r4l1)), (95, i6 r4l1)] (fun a4og h4oh => ?_)
        have hS4oi := hS4nl.b1
        obtain ⟨r4ok, A4oj, H⟩ := bind1 H
        refine WL.oq h4oh rfl ?_
        refine owp_call [(pt gp0), .int .u32 (IntKind.u32.wrap r4l1)] h4oh rfl (by kernel_rfl) rfl Tryd.func24 (by kernel_rfl) rfl (by kernel_rfl) (dyntable_Table_Limit.calls k hr4lh A4oj hS4oi) (fun e4om W4ol hp4on => ?_)
        obtain ⟨M4oq, rfl, hr4or, hS4os⟩ := hp4on
        refine ⟨_, rfl, fun a4oo h4op => ?_⟩
        refine WL.dn ?_
        refine wp_seq ?_
        refine WL.start ?_
        have hS4ot := hS4os.b2
        refine WL.oq h4op rfl ?_
        refine owp_rn (.agg #[.string (mkS []), .string (mkS []), .bool false]) h4op rfl (run_loadN rfl rfl Tryd.underlying52 rfl (cs := [.string (mkS []), .string (mkS []), .bool false]) (by kernel_rfl) (hS4ot.cells (vs := [.string (mkS []), .string (mkS []), .bool false]) rfl)) (fun a4ou h4ov => ?_)
        have hS4ow := hS4ot.b3
        refine WL.oq h4ov rfl ?_
        refine owp_st 0 [.string (mkS []), .string (mkS []), .bool false] h4ov rfl rfl rfl hS4ow [.string (mkS []), .string (mkS []), .bool false] (fun a4ox W4oz h4oy hS4p0 => ?_)
        refine WL.bl 1 3 h4oy [(7, .bool false)] (fun a4p1 h4p2 => ?_)
        refine WL.dn ?_
        refine wp_ret ?_
        have hS4p3 := hS4p0.b2
        have hS4p4 := hS4p3.b3
        obtain ⟨M4p5, hp4p6, hS4p7⟩ := k66qfo (⟨r4ok, r4l2.f1, decide (r4l1 > (IntKind.i64.wrap p1))⟩ : S66) hr4or hr4lk hS4p4
        have hS4p8 := hS4p7.b1
        have hS4p9 := hS4p8.drop_
        have hS4pa := hS4p9.b1
        have hS4pb := hS4pa.drop_
        obtain ⟨rfl, rfl, rfl⟩ := ret3 H
        repeat (first | with_reducible refine t1 ?_ | with_reducible refine t2 ?_ | with_reducible refine t3 ?_)
        refine body_ret (v := .tuple #[.agg #[.string (mkS []), .string (mkS []), .bool false], .bool false]) h4p2 (by kernel_rfl) (res_many (xs := [ResultVar.cell 6 52, ResultVar.tmp 7]) rfl ⟨⟨_, rfl, loadVarN Tryd.underlying52 rfl (cs := [.string (mkS []), .string (mkS []), .bool false]) (by kernel_rfl) (hS4p0.cells (vs := [.string (mkS []), .string (mkS []), .bool false]) rfl)⟩, rfl, trivial⟩ rfl) ?_
        exact ⟨M4p5, rfl, hp4p6, hS4pb⟩
      ·rw [if_neg c4n7] at H
       have hb_ : p2 = false := (Bool.eq_false_iff.2 c4n7)
       try rw [hb_] at h4n6
       clear hb_
       refine WL.sk h4n6 rfl rfl (fun a4pc h4pd => ?_)
       refine WL.sk h4pd rfl rfl (fun a4pe h4pf => ?_)
       refine WL.sk h4pf rfl rfl (fun a4pg h4ph => ?_)
       refine WL.sk h4ph rfl rfl (fun a4pi h4pj => ?_)
       refine WL.bl 3 17 h4pj [(85, .pointer (some ⟨g3tr, 2, none⟩)), (84, pt g3tr), (83, .bool true)] (fun a4pk h4pl => ?_)
       refine WL.oq h4pl rfl ?_
       refine owp_st 2 [.bool true] h4pl rfl rfl rfl hS4lf [(pt gp0), .slice A4li r4l2.f1.length c4lj, .bool true] (fun a4pm W4po h4pn hS4pp => ?_)
       refine WL.dn ?_
       refine wp_seq ?_
       refine wp_seq ?_
       refine WL.start ?_
       refine WL.bl 3 3 h4pn [(88, .pointer (some ⟨g3tr, 2, none⟩)), (87, pt g3tr), (86, pt g3tr)] (fun a4pq h4pr => ?_)
       refine WL.oq h4pr rfl ?_
       refine owp_rn (.bool true) h4pr rfl (run_load1 rfl rfl Tryd.underlying4 rfl (hS4pp.cell (i := 2) rfl)) (fun a4ps h4pt => ?_)
       refine WL.bl 1 5 h4pt [(90, .bool false)] (fun a4pu h4pv => ?_)
       refine WL.dn ?_
       refine wp_else h4pv rfl ?_
       refine wp_skip ?_
       refine wp_seq ?_
       refine WL.start ?_
       have hS4pw := hS4pp.b2
       refine WL.oq h4pv rfl ?_
       refine owp_rn (.agg #[.string (mkS []), .string (mkS []), .bool false]) h4pv rfl (run_loadN rfl rfl Tryd.underlying52 rfl (cs := [.string (mkS []), .string (mkS []), .bool false]) (by kernel_rfl) (hS4pw.cells (vs := [.string (mkS []), .string (mkS []), .bool false]) rfl)) (fun a4px h4py => ?_)
       have hS4pz := hS4pw.b3
       refine WL.oq h4py rfl ?_
       refine owp_st 0 [.string (mkS []), .string (mkS []), .bool false] h4py rfl rfl rfl hS4pz [.string (mkS []), .string (mkS []), .bool false] (fun a4q0 W4q2 h4q1 hS4q3 => ?_)
       refine WL.bl 1 3 h4q1 [(7, .bool false)] (fun a4q4 h4q5 => ?_)
       clear h4n6 a4n5 h4pd a4pc h4pf a4pe h4ph a4pg h4pj a4pi h4pl a4pk h4pn a4pm h4pr a4pq h4pt a4ps h4pv a4pu h4py a4px h4q1 a4q0
       refine WL.dn ?_
       refine wp_ret ?_
       have hS4q6 := hS4q3.b3
       have hS4q7 := hS4q6.b3
       obtain ⟨M4q8, hp4q9, hS4qa⟩ := k66qfo (⟨r4l2.f0, r4l2.f1, true⟩ : S66) hr4lh hr4lk hS4q7
       have hS4qb := hS4qa.b1
       have hS4qc := hS4qb.drop_
       have hS4qd := hS4qc.b1
       have hS4qe := hS4qd.drop_
       obtain ⟨rfl, rfl, rfl⟩ := ret3 H
       repeat (first | with_reducible refine t1 ?_ | with_reducible refine t2 ?_ | with_reducible refine t3 ?_)
       refine body_ret (v := .tuple #[.agg #[.string (mkS []), .string (mkS []), .bool false], .bool false]) h4q5 (by kernel_rfl) (res_many (xs := [ResultVar.cell 6 52, ResultVar.tmp 7]) rfl ⟨⟨_, rfl, loadVarN Tryd.underlying52 rfl (cs := [.string (mkS []), .string (mkS []), .bool false]) (by kernel_rfl) (hS4q3.cells (vs := [.string (mkS []), .string (mkS []), .bool false]) rfl)⟩, rfl, trivial⟩ rfl) ?_
       exact ⟨M4q8, rfl, hp4q9, hS4qe⟩
    ·rw [if_neg c4ks] at H
     have hb_ : (decide ((gt (0 : Int) p0.f1 (0 : Int)) ≥ 32)) = false := decide_eq_false c4ks
     try rw [hb_] at h4kr
     clear hb_
     refine wp_else h4kr rfl ?_
     refine wp_skip ?_
     refine wp_seq ?_
     refine WL.start ?_
     refine WL.bl 3 3 h4kr [(29, .bool (decide ((gt (0 : Int) p0.f1 (0 : Int)) ≥ 16))), (31, .bool (decide ((gt (0 : Int) p0.f1 (0 : Int)) ≥ 16))), (30, .int .u8 (gt (0 : Int) p0.f1 (0 : Int)))] (fun a4qf h4qg => ?_)
     refine WL.dn ?_
     clear h4kr a4kq
     by_cases c4qh : (gt (0 : Int) p0.f1 (0 : Int)) ≥ 16
     ·rw [if_pos c4qh] at H
      have hb_ : (decide ((gt (0 : Int) p0.f1 (0 : Int)) ≥ 16)) = true := decide_eq_true c4qh
      try rw [hb_] at h4qg
      clear hb_
      refine wp_then h4qg rfl ?_
      refine wp_exit ?_
      refine WL.start ?_
      refine WL.bl 1 1 h4qg [(99, .pointer (some ⟨g3tl, 2, none⟩))] (fun a4qi h4qj => ?_)
      have hS4qk := hS3tq.b2
      refine WL.oq h4qj rfl ?_
      refine owp_st 2 [.bool true] h4qj rfl rfl rfl hS4qk [.string (mkS []), .string (mkS []), .bool true] (fun a4ql W4qn h4qm hS4qo => ?_)
      refine WL.dn ?_
      refine wp_seq ?_
      refine wp_seq ?_
      refine WL.start ?_
      refine WL.bl 1 1 h4qm [(100, .pointer (some ⟨g3tl, 2, none⟩))] (fun a4qp h4qq => ?_)
      refine WL.oq h4qq rfl ?_
      refine owp_rn (.bool true) h4qq rfl (run_load1 rfl rfl Tryd.underlying4 rfl (hS4qo.cell (i := 2) rfl)) (fun a4qr h4qs => ?_)
      refine WL.bl 1 3 h4qs [(13, .bool true)] (fun a4qt h4qu => ?_)
      refine WL.dn ?_
      refine wp_seq ?_
      refine WL.start ?_
      refine WL.bl 1 1 h4qu [(102, pt g3tr)] (fun a4qv h4qw => ?_)
      have hS4qx := hS4qo.b2
      have hS4qy := hS4qx.b2
      obtain ⟨M4qz, hp4r0, hS4r1⟩ := k66qfo p0 hr3tt hr3tw hS4qy
      obtain ⟨r4r3, r4r4, A4r2, H⟩ := bind2 H
      refine WL.oq h4qw rfl ?_
      refine owp_call [(pt g3tr), i6 4] h4qw rfl (by kernel_rfl) rfl Tryd.func38 (by kernel_rfl) rfl (by kernel_rfl) (hpack_reader_field.calls k hp4r0 hg0 hg1 A4r2 hS4r1) (fun e4r6 W4r5 hp4r7 => ?_)
      obtain ⟨M4ra, rfl, hr4rb, hS4rc⟩ := hp4r7
      refine ⟨_, rfl, fun a4r8 h4r9 => ?_⟩
      have hS4rd := hS4rc.b1
      refine WL.oq h4r9 rfl ?_
      refine owp_st 0 [.string (mkS r4r3.f0), .string (mkS r4r3.f1), .bool r4r3.f2] h4r9 rfl rfl rfl hS4rd [.string (mkS r4r3.f0), .string (mkS r4r3.f1), .bool r4r3.f2] (fun a4re W4rg h4rf hS4rh => ?_)
      refine WL.dn ?_
      refine WL.start ?_
      refine WL.bl 2 2 h4rf [(105, .pointer (some ⟨g3tl, 2, none⟩)), (104, .bool true)] (fun a4ri h4rj => ?_)
      refine WL.oq h4rj rfl ?_
      refine owp_st 2 [.bool true] h4rj rfl rfl rfl hS4rh [.string (mkS r4r3.f0), .string (mkS r4r3.f1), .bool true] (fun a4rk W4rm h4rl hS4rn => ?_)
      refine WL.dn ?_
      refine wp_exit ?_
      refine wp_seq ?_
      refine WL.start ?_
      refine WL.oq h4rl rfl ?_
      refine owp_rn (.agg #[.string (mkS r4r3.f0), .string (mkS r4r3.f1), .bool true]) h4rl rfl (run_loadN rfl rfl Tryd.underlying52 rfl (cs := [.string (mkS r4r3.f0), .string (mkS r4r3.f1), .bool true]) (by kernel_rfl) (hS4rn.cells (vs := [.string (mkS r4r3.f0), .string (mkS r4r3.f1), .bool true]) rfl)) (fun a4ro h4rp => ?_)
      have hS4rq := hS4rn.b2
      refine WL.oq h4rp rfl ?_
      refine owp_st 0 [.string (mkS r4r3.f0), .string (mkS r4r3.f1), .bool true] h4rp rfl rfl rfl hS4rq [.string (mkS r4r3.f0), .string (mkS r4r3.f1), .bool true] (fun a4rr W4rt h4rs hS4ru => ?_)
      clear h4qg a4qf h4qj a4qi h4qm a4ql h4qq a4qp h4qs a4qr h4qu a4qt h4qw a4qv h4r9 a4r8 h4rf a4re h4rj a4ri h4rl a4rk h4rp a4ro
      refine WL.bl 1 3 h4rs [(7, .bool true)] (fun a4rv h4rw => ?_)
      refine WL.dn ?_
      refine wp_ret ?_
      have hS4rx := hS4ru.drop_
      have hS4ry := hS4rx.drop_
      obtain ⟨rfl, rfl, rfl⟩ := ret3 H
      repeat (first | with_reducible refine t1 ?_ | with_reducible refine t2 ?_ | with_reducible refine t3 ?_)
      refine body_ret (v := .tuple #[.agg #[.string (mkS r4r3.f0), .string (mkS r4r3.f1), .bool true], .bool true]) h4rw (by kernel_rfl) (res_many (xs := [ResultVar.cell 6 52, ResultVar.tmp 7]) rfl ⟨⟨_, rfl, loadVarN Tryd.underlying52 rfl (cs := [.string (mkS r4r3.f0), .string (mkS r4r3.f1), .bool true]) (by kernel_rfl) (hS4ru.cells (vs := [.string (mkS r4r3.f0), .string (mkS r4r3.f1), .bool true]) rfl)⟩, rfl, trivial⟩ rfl) ?_
      exact ⟨M4ra, rfl, hr4rb, hS4ry⟩
     ·rw [if_neg c4qh] at H
      have hb_ : (decide ((gt (0 : Int) p0.f1 (0 : Int)) ≥ 16)) = false := decide_eq_false c4qh
      try rw [hb_] at h4qg
      clear hb_
      refine wp_else h4qg rfl ?_
      refine wp_skip ?_
      refine wp_exit ?_
      refine wp_seq ?_
      refine wp_seq ?_
      refine WL.start ?_
      refine WL.bl 1 1 h4qg [(100, .pointer (some ⟨g3tl, 2, none⟩))] (fun a4rz h4s0 => ?_)
      have hS4s1 := hS3tq.b2
      refine WL.oq h4s0 rfl ?_
      refine owp_rn (.bool false) h4s0 rfl (run_load1 rfl rfl Tryd.underlying4 rfl (hS4s1.cell (i := 2) rfl)) (fun a4s2 h4s3 => ?_)
      refine WL.bl 1 3 h4s3 [(13, .bool false)] (fun a4s4 h4s5 => ?_)
      refine WL.dn ?_
      refine wp_seq ?_
      refine WL.start ?_
      refine WL.bl 1 1 h4s5 [(102, pt g3tr)] (fun a4s6 h4s7 => ?_)
      have hS4s8 := hS4s1.b2
      have hS4s9 := hS4s8.b2
      obtain ⟨M4sa, hp4sb, hS4sc⟩ := k66qfo p0 hr3tt hr3tw hS4s9
      obtain ⟨r4se, r4sf, A4sd, H⟩ := bind2 H
      refine WL.oq h4s7 rfl ?_
      refine owp_call [(pt g3tr), i6 4] h4s7 rfl (by kernel_rfl) rfl Tryd.func38 (by kernel_rfl) rfl (by kernel_rfl) (hpack_reader_field.calls k hp4sb hg0 hg1 A4sd hS4sc) (fun e4sh W4sg hp4si => ?_)
      obtain ⟨M4sl, rfl, hr4sm, hS4sn⟩ := hp4si
      refine ⟨_, rfl, fun a4sj h4sk => ?_⟩
      have hS4so := hS4sn.b1
      refine WL.oq h4sk rfl ?_
      refine owp_st 0 [.string (mkS r4se.f0), .string (mkS r4se.f1), .bool r4se.f2] h4sk rfl rfl rfl hS4so [.string (mkS r4se.f0), .string (mkS r4se.f1), .bool r4se.f2] (fun a4sp W4sr h4sq hS4ss => ?_)
      refine WL.dn ?_
      refine WL.start ?_
      refine WL.bl 2 2 h4sq [(105, .pointer (some ⟨g3tl, 2, none⟩)), (104, .bool false)] (fun a4st h4su => ?_)
      refine WL.oq h4su rfl ?_
      refine owp_st 2 [.bool false] h4su rfl rfl rfl hS4ss [.string (mkS r4se.f0), .string (mkS r4se.f1), .bool false] (fun a4sv W4sx h4sw hS4sy => ?_)
      refine WL.dn ?_
      refine wp_exit ?_
      refine wp_seq ?_
      refine WL.start ?_
      refine WL.oq h4sw rfl ?_
      refine owp_rn (.agg #[.string (mkS r4se.f0), .string (mkS r4se.f1), .bool false]) h4sw rfl (run_loadN rfl rfl Tryd.underlying52 rfl (cs := [.string (mkS r4se.f0), .string (mkS r4se.f1), .bool false]) (by kernel_rfl) (hS4sy.cells (vs := [.string (mkS r4se.f0), .string (mkS r4se.f1), .bool false]) rfl)) (fun a4sz h4t0 => ?_)
      have hS4t1 := hS4sy.b2
      refine WL.oq h4t0 rfl ?_
      refine owp_st 0 [.string (mkS r4se.f0), .string (mkS r4se.f1), .bool false] h4t0 rfl rfl rfl hS4t1 [.string (mkS r4se.f0), .string (mkS r4se.f1), .bool false] (fun a4t2 W4t4 h4t3 hS4t5 => ?_)
      refine WL.bl 1 3 h4t3 [(7, .bool true)] (fun a4t6 h4t7 => ?_)
      refine WL.dn ?_
      refine wp_ret ?_
      have hS4t8 := hS4t5.drop_
      have hS4t9 := hS4t8.drop_
      obtain ⟨rfl, rfl, rfl⟩ := ret3 H
      repeat (first | with_reducible refine t1 ?_ | with_reducible refine t2 ?_ | with_reducible refine t3 ?_)
      refine body_ret (v := .tuple #[.agg #[.string (mkS r4se.f0), .string (mkS r4se.f1), .bool false], .bool true]) h4t7 (by kernel_rfl) (res_many (xs := [ResultVar.cell 6 52, ResultVar.tmp 7]) rfl ⟨⟨_, rfl, loadVarN Tryd.underlying52 rfl (cs := [.string (mkS r4se.f0), .string (mkS r4se.f1), .bool false]) (by kernel_rfl) (hS4t5.cells (vs := [.string (mkS r4se.f0), .string (mkS r4se.f1), .bool false]) rfl)⟩, rfl, trivial⟩ rfl) ?_
      exact ⟨M4sl, rfl, hr4sm, hS4t9⟩
 ·rw [if_neg c3u1] at H
  cases H

structure S31 where
 f0 : Int
 f1 : Int
 deriving DecidableEq
def z31 : S31 := ⟨(0 : Int), (0 : Int)⟩
def k31 : Kd S31 := kIso (kPair (kInt .u8) (kInt .u32)) (fun x : S31 => (x.f0, x.f1))
theorem k31qflat : k31.Flat := kIso_flat (kPair_flat (kInt_flat _) (kInt_flat _))
theorem k31qind : k31.Ind := kIso_ind (kPair_ind (kInt_ind _) (kInt_ind _))
theorem k31qrd {b : Nat} {w0 : World} {R : Frag} {x : S31} {cs : List Value} (h : k31.rd b w0 R x cs) : cs = [.int .u8 x.f0, .int .u32 x.f1] := by
 obtain ⟨c100, c101, rfl, h102, h103⟩ := h
 obtain rfl := h102
 obtain rfl := h103
 exact rfl
theorem k31qrep {b : Nat} {w0 : World} {R : Frag} {x : S31} {cs : List Value} {M : Frag} (h : k31.rep b w0 R x cs M) : cs = [.int .u8 x.f0, .int .u32 x.f1] ∧ M = [] := by
 obtain ⟨c104, c105, M108, M109, rfl, rfl, h106, h107⟩ := h
 obtain ⟨rfl, rfl⟩ := h106
 obtain ⟨rfl, rfl⟩ := h107
 exact ⟨rfl, by simp⟩
theorem k31qno {b : Nat} {w0 : World} {R : Frag} {x : S31} {cs : List Value} {M : Frag} (h : k31.rep b w0 R x cs M) : M = [] := by
 obtain ⟨_, hM_⟩ := k31qrep h
 exact hM_
theorem k31qmk {b : Nat} {w0 : World} {R : Frag} {x : S31}  : ∃ M, k31.rep b w0 R x [.int .u8 x.f0, .int .u32 x.f1] M ∧ M = [] := ⟨_, ⟨_, _, _, _, rfl, rfl, ⟨rfl, rfl⟩, ⟨rfl, rfl⟩⟩, by simp⟩
/-! ### (*louver/hpack.Decoder).Get -/
def hpack_Decoder_Get.l0 : Nat → Int → Int → S66 → (List S52) → Int → S64 → Option ((List S52) × S31 × S64)
 | 0, _, _, _, _, _, _ => none
 | k + 1, x1pn, x1po, x1pp, x1ps, x1px, p0 => if (x1pp.f1.length : Int) > 0 then (bnd3 (hpack_reader_piece.f k x1pp p0.f1 (decide ((x1ps.length : Int) = 0))) fun r1qw r1qx r1qy => (if r1qy.f2 = true then (some (([] : List S52), (⟨1, 9⟩ : S31), (⟨r1qy.f0, p0.f1⟩ : S64))) else (if r1qx = true then (if x1ps.length + 1 ≤ 3518437208883 then (lt1 (x1ps ++ ([(⟨r1qw.f0, r1qw.f1, r1qw.f2⟩ : S52)] : List S52) : List S52) fun y1t6 => (bnd1 (dyntable_Size.f (⟨r1qw.f0, r1qw.f1, r1qw.f2⟩ : S52)) fun r1tj => (hpack_Decoder_Get.l0 k x1pn x1po r1qy y1t6 (IntKind.i64.wrap (x1px + r1tj)) p0))) else (none)) else (hpack_Decoder_Get.l0 k x1pn x1po r1qy x1ps x1px p0)))) else (if x1px > 4096 then (some (([] : List S52), (⟨1, 11⟩ : S31), (⟨x1pp.f0, p0.f1⟩ : S64))) else (some (x1ps, (⟨0, 0⟩ : S31), (⟨x1pp.f0, p0.f1⟩ : S64))))
def hpack_Decoder_Get.f (k : Nat) (p0 : S64) (p1 : (List Int)) : Option ((List S52) × S31 × S64) := hpack_Decoder_Get.l0 k 0 0 (⟨p0.f0, p1, false⟩ : S66) ([] : List S52) 0 p0
set_option maxHeartbeats 20000000 in
set_option maxRecDepth 100000 in
theorem hpack_Decoder_Get.calls (k : Nat) {b : Nat} {w0 W : World} {R : Frag} {Fs : List Frag} {p0 : S64} {p1 : (List Int)} {v1 : Value} {v0 : Value} {M0 : Frag} {r0q : (List S52)} {r1q : S31} {r2q : S64} (hp0 : Ptr k64 64 b w0 R v0 p0 M0) (hp1 : Rds (kInt .u8) b w0 R v1 p1) (hg0 : Rds k52 b w0 [] (.slice (some ⟨0, 0, none⟩) 61 61) G0) (hg1 : Rds (kInt .u8) b w0 [] (.slice (some ⟨1, 0, none⟩) 257 257) G1) (H : hpack_Decoder_Get.f k p0 p1 = some (r0q, r1q, r2q)) (hS : St b w0 W R (M0 :: Fs)) :
  Calls Tryd.prog 12 ([v0, v1] : List Value).toArray W (fun e W' => ∃ (u0q : Value) (N0q : Frag) (O0q : Frag), e = .returned (.tuple #[u0q, .agg #[.int .u8 r1q.f0, .int .u32 r1q.f1]]) ∧ Row k52 52 b w0 R u0q r0q N0q ∧ Ptr k64 64 b w0 R v0 r2q O0q ∧ St b w0 W' R (N0q :: O0q :: Fs)) := by
 obtain ⟨A1, c1, rfl⟩ := hp1.form
 unfold hpack_Decoder_Get.f at H
 refine calls_enter Tryd.func12 rfl 58 rfl (by kernel_rfl) (fun a h => ?_)
 refine wp_seq ?_
 refine WL.start ?_
 refine WL.bl 1 1 h [(4, .slice none 0 0)] (fun a1of h1og => ?_)
 refine WL.oq h1og rfl ?_
 refine owp_nw (fun g_ => (pt g_)) (.cells ([.int .u8 0, .int .u32 0] : List Value).toArray 31 (0, 0)) h1og rfl hS (fun a1oh W1oj g1ok h1oi hS1ol => ?_)
 refine WL.dn ?_
 refine wp_seq ?_
 refine wp_seq ?_
 refine WL.start ?_
 refine WL.bl 1 1 h1oi [(11, v0)] (fun a1om h1on => ?_)
 have hS1oo := hS1ol.b1
 obtain ⟨g1oq, g1or, M1os, rfl, hr1ot, hS1op⟩ := k64qop hp0 hS1oo
 refine WL.bl 1 2 h1on [(12, .bool false)] (fun a1ou h1ov => ?_)
 refine WL.dn ?_
 refine wp_else h1ov rfl ?_
 refine wp_skip ?_
 refine wp_seq ?_
 refine WL.start ?_
 refine WL.bl 3 3 h1ov [(16, pt g1oq), (15, pt g1oq), (14, pt g1oq)] (fun a1ow h1ox => ?_)
 refine WL.oq h1ox rfl ?_
 refine owp_rn (pt g1or) h1ox rfl (run_load1 rfl rfl Tryd.underlying59 rfl (hS1op.cell (i := 0) rfl)) (fun a1oy h1oz => ?_)
 refine WL.bl 2 6 h1oz [(19, .agg #[(pt g1or), .slice A1 p1.length c1, .bool false]), (18, .slice A1 p1.length c1)] (fun a1p0 h1p1 => ?_)
 refine WL.oq h1p1 rfl ?_
 refine owp_nw (fun g_ => (pt g_)) (.cells ([(pt g1or), .slice A1 p1.length c1, .bool false] : List Value).toArray 66 (0, 0)) h1p1 rfl hS1op (fun a1p2 W1p4 g1p5 h1p3 hS1p6 => ?_)
 refine WL.bl 1 8 h1p3 [(6, pt g1p5)] (fun a1p7 h1p8 => ?_)
 refine WL.dn ?_
 refine wp_seq ?_
 refine WL.start ?_
 refine WL.bl 1 1 h1p8 [(7, .slice none 0 0)] (fun a1p9 h1pa => ?_)
 refine WL.dn ?_
 refine wp_seq ?_
 refine WL.start ?_
 refine WL.bl 1 1 h1pa [(8, i6 0)] (fun a1pb h1pc => ?_)
 refine WL.dn ?_
 refine wp_seq ?_
 refine wp_block ?_
 have hS1pd := hS1p6.b2
 have hS1pe := hS1pd.b1
 obtain ⟨M1pf, hp1pg, hS1ph⟩ := k66qfo (⟨p0.f0, p1, false⟩ : S66) hr1ot hp1 hS1pe
 have hS1py := hS1ph.nil_
 have hS1pz := hS1py.b1
 have hS1q0 := hS1pz.b3
 have hS1q1 := hS1q0.b3
 clear h1og a1of h1oi a1oh h1on a1om h1ov a1ou h1ox a1ow h1oz a1oy h1p1 a1p0 h1p3 a1p2 h1p8 a1p7 h1pa a1p9
 refine wp_loop_ghost (fun kq_ a_ W_ => ∃ (x1pn : Int), ∃ (x1po : Int), ∃ (x1pp : S66), ∃ (M1pq : Frag), ∃ (x1ps : (List S52)), ∃ (A1pt : Option Addr), ∃ (c1pu : Nat), ∃ (M1pv : Frag), ∃ (x1px : Int), Hd a_ 58 [(0, pt g1oq), (5, pt g1ok), (6, pt g1p5), (7, .slice A1pt x1ps.length c1pu), (8, i6 x1px)] ∧ Asd (hpack_Decoder_Get.l0 kq_ x1pn x1po x1pp x1ps x1px p0 = some (r0q, r1q, r2q)) ∧ Asd (kq_ ≤ k) ∧ Asd (St b w0 W_ R ((bx g1oq 64 [(pt g1or), .int .u32 p0.f1]) :: (bx g1ok 31 [.int .u8 x1pn, .int .u32 x1po]) :: M1pq :: M1pv :: Fs)) ∧ Asd (Ptr (k66 g1or) 66 b w0 R (pt g1p5) x1pp M1pq) ∧ Asd (Row k52 52 b w0 R (.slice A1pt x1ps.length c1pu) x1ps M1pv)) k ⟨0, 0, (⟨p0.f0, p1, false⟩ : S66), M1pf, ([] : List S52), none, 0, ([] : Frag), 0, h1pc.keep ⟨rfl, rfl, rfl, rfl, rfl, trivial⟩, ⟨H⟩, ⟨Nat.le_refl _⟩, ⟨hS1q1⟩, ⟨hp1pg⟩, ⟨Row.nil⟩⟩ ?_
 clear H hS1q1
 rintro kk1pm a1pj W1pk ⟨x1pn, x1po, x1pp, M1pq, x1ps, A1pt, c1pu, M1pv, x1px, h1pi, ⟨H⟩, ⟨hkkk1pm⟩, ⟨hS1pl⟩, ⟨hr1pr⟩, ⟨hr1pw⟩⟩
 obtain _ | kk1q2 := kk1pm
 ·exact absurd H (by simp [hpack_Decoder_Get.l0])
 simp only [hpack_Decoder_Get.l0] at H
 refine wp_seq ?_
 refine wp_seq ?_
 refine WL.start ?_
 refine WL.bl 1 1 h1pi [(21, pt g1p5)] (fun a1q3 h1q4 => ?_)
 have hS1q5 := hS1pl.b2
 obtain ⟨A1q9, c1qa, M1q7, hr1q8, hr1qb, hS1q6⟩ := k66qoq hr1pr hS1q5
 refine WL.bl 2 3 h1q4 [(23, .pointer (some ⟨g1p5, 1, none⟩)), (22, pt g1p5)] (fun a1qc h1qd => ?_)
 refine WL.oq h1qd rfl ?_
 refine owp_rn (.slice A1q9 x1pp.f1.length c1qa) h1qd rfl (run_load1 rfl rfl Tryd.underlying22 rfl (hS1q6.cell (i := 1) rfl)) (fun a1qe h1qf => ?_)
 refine WL.bl 2 6 h1qf [(26, .bool (decide ((x1pp.f1.length : Int) > 0))), (25, i6 (x1pp.f1.length : Int))] (fun a1qg h1qh => ?_)
 refine WL.dn ?_
 clear h1pi a1pj h1q4 a1q3 h1qd a1qc h1qf a1qe
 by_cases c1qi : (x1pp.f1.length : Int) > 0
 ·rw [if_pos c1qi] at H
  have hb_ : (decide ((x1pp.f1.length : Int) > 0)) = true := decide_eq_true c1qi
  try rw [hb_] at h1qh
  clear hb_
  refine wp_then h1qh rfl ?_
  refine wp_skip ?_
  refine wp_block ?_
  refine wp_seq ?_
  refine WL.start ?_
  refine WL.bl 4 4 h1qh [(31, .pointer (some ⟨g1oq, 1, none⟩)), (30, pt g1oq), (29, pt g1oq), (28, pt g1p5)] (fun a1qj h1qk => ?_)
  have hS1ql := hS1q6.b2
  refine WL.oq h1qk rfl ?_
  refine owp_rn (.int .u32 p0.f1) h1qk rfl (run_load1 rfl rfl Tryd.underlying29 rfl (hS1ql.cell (i := 1) rfl)) (fun a1qm h1qn => ?_)
  refine WL.bl 3 8 h1qn [(35, .bool (decide ((x1ps.length : Int) = 0))), (34, i6 (x1ps.length : Int)), (33, .slice A1pt x1ps.length c1pu)] (fun a1qo h1qp => ?_)
  have hS1qq := hS1ql.b2
  have hS1qr := hS1qq.b2
  obtain ⟨M1qs, hp1qt, hS1qu⟩ := k66qfo x1pp hr1q8 hr1qb hS1qr
  obtain ⟨r1qw, r1qx, r1qy, A1qv, H⟩ := bind3 H
  refine WL.oq h1qp rfl ?_
  refine owp_call [(pt g1p5), .int .u32 p0.f1, .bool (decide ((x1ps.length : Int) = 0))] h1qp rfl (by kernel_rfl) rfl Tryd.func25 (by kernel_rfl) rfl (by kernel_rfl) (hpack_reader_piece.calls kk1q2 hp1qt hg0 hg1 A1qv hS1qu) (fun e1r0 W1qz hp1r1 => ?_)
  obtain ⟨M1r4, rfl, hr1r5, hS1r6⟩ := hp1r1
  refine ⟨_, rfl, fun a1r2 h1r3 => ?_⟩
  refine WL.bl 3 12 h1r3 [(38, .bool r1qx), (37, .agg #[.string (mkS r1qw.f0), .string (mkS r1qw.f1), .bool r1qw.f2]), (27, .tuple #[.agg #[.string (mkS r1qw.f0), .string (mkS r1qw.f1), .bool r1qw.f2], .bool r1qx])] (fun a1r7 h1r8 => ?_)
  refine WL.oq h1r8 rfl ?_
  refine owp_nw (fun g_ => (pt g_)) (.cells ([.string (mkS []), .string (mkS []), .bool false] : List Value).toArray 52 (0, 0)) h1r8 rfl hS1r6 (fun a1r9 W1rb g1rc h1ra hS1rd => ?_)
  refine WL.oq h1ra rfl ?_
  refine owp_st 0 [.string (mkS r1qw.f0), .string (mkS r1qw.f1), .bool r1qw.f2] h1ra rfl rfl rfl hS1rd [.string (mkS r1qw.f0), .string (mkS r1qw.f1), .bool r1qw.f2] (fun a1re W1rg h1rf hS1rh => ?_)
  refine WL.bl 1 15 h1rf [(10, .bool r1qx)] (fun a1ri h1rj => ?_)
  refine WL.dn ?_
  refine wp_seq ?_
  refine wp_seq ?_
  refine WL.start ?_
  refine WL.bl 1 1 h1rj [(39, pt g1p5)] (fun a1rk h1rl => ?_)
  have hS1rm := hS1rh.b1
  obtain ⟨A1rq, c1rr, M1ro, hr1rp, hr1rs, hS1rn⟩ := k66qoq hr1r5 hS1rm
  refine WL.bl 2 3 h1rl [(41, .pointer (some ⟨g1p5, 2, none⟩)), (40, pt g1p5)] (fun a1rt h1ru => ?_)
  refine WL.oq h1ru rfl ?_
  refine owp_rn (.bool r1qy.f2) h1ru rfl (run_load1 rfl rfl Tryd.underlying4 rfl (hS1rn.cell (i := 2) rfl)) (fun a1rv h1rw => ?_)
  refine WL.dn ?_
  clear h1qh a1qg h1qk a1qj h1qn a1qm h1qp a1qo h1r3 a1r2 h1r8 a1r7 h1ra a1r9 h1rf a1re h1rj a1ri h1rl a1rk h1ru a1rt
  by_cases c1rx : r1qy.f2 = true
  ·rw [if_pos c1rx] at H
   have hb_ : r1qy.f2 = true := c1rx
   try rw [hb_] at h1rw
   clear hb_
   refine wp_then h1rw rfl ?_
   refine wp_seq ?_
   refine WL.start ?_
   refine WL.bl 2 2 h1rw [(4, .slice none 0 0), (43, .agg #[.int .u8 1, .int .u32 9])] (fun a1ry h1rz => ?_)
   have hS1s0 := hS1rn.b4
   refine WL.oq h1rz rfl ?_
   refine owp_st 0 [.int .u8 1, .int .u32 9] h1rz rfl rfl rfl hS1s0 [.int .u8 1, .int .u32 9] (fun a1s1 W1s3 h1s2 hS1s4 => ?_)
   refine WL.dn ?_
   refine wp_ret ?_
   have hS1s5 := hS1s4.b2
   have hS1s6 := hS1s5.b4
   obtain ⟨M1s7, hp1s8, hS1s9⟩ := k64qfo (⟨r1qy.f0, p0.f1⟩ : S64) hr1rp hS1s6
   have hS1sa := hS1s9.b1
   have hS1sb := hS1sa.drop_
   have hS1sc := hS1sb.b1
   have hS1sd := hS1sc.drop_
   have hS1se := hS1sd.b1
   have hS1sf := hS1se.drop_
   have hS1sg := hS1sf.b1
   have hS1sh := hS1sg.drop_
   obtain ⟨rfl, rfl, rfl⟩ := ret3 H
   repeat (first | with_reducible refine t1 ?_ | with_reducible refine t2 ?_ | with_reducible refine t3 ?_)
   refine body_ret (v := .tuple #[.slice none 0 0, .agg #[.int .u8 1, .int .u32 9]]) h1s2 (by kernel_rfl) (res_many (xs := [ResultVar.tmp 4, ResultVar.cell 5 31]) rfl ⟨rfl, ⟨_, rfl, loadVarN Tryd.underlying31 rfl (cs := [.int .u8 1, .int .u32 9]) (by kernel_rfl) (hS1s4.cells (vs := [.int .u8 1, .int .u32 9]) rfl)⟩, trivial⟩ rfl) ?_
   exact ⟨.slice none 0 0, [], M1s7, rfl, Row.nil, hp1s8, hS1sh.nil_⟩
  ·rw [if_neg c1rx] at H
   have hb_ : r1qy.f2 = false := (Bool.eq_false_iff.2 c1rx)
   try rw [hb_] at h1rw
   clear hb_
   refine wp_else h1rw rfl ?_
   refine wp_skip ?_
   refine wp_seq ?_
   refine WL.start ?_
   refine WL.bl 1 1 h1rw [(44, .bool r1qx)] (fun a1si h1sj => ?_)
   refine WL.dn ?_
   clear h1rw a1rv
   by_cases c1sk : r1qx = true
   ·rw [if_pos c1sk] at H
    have hb_ : r1qx = true := c1sk
    try rw [hb_] at h1sj
    clear hb_
    refine wp_then h1sj rfl ?_
    refine wp_seq ?_
    refine WL.start ?_
    refine WL.bl 1 1 h1sj [(45, .slice A1pt x1ps.length c1pu)] (fun a1sl h1sm => ?_)
    have hS1sn := hS1rn.b2
    refine WL.oq h1sm rfl ?_
    refine owp_rn (.agg #[.string (mkS r1qw.f0), .string (mkS r1qw.f1), .bool r1qw.f2]) h1sm rfl (run_loadN rfl rfl Tryd.underlying52 rfl (cs := [.string (mkS r1qw.f0), .string (mkS r1qw.f1), .bool r1qw.f2]) (by kernel_rfl) (hS1sn.cells (vs := [.string (mkS r1qw.f0), .string (mkS r1qw.f1), .bool r1qw.f2]) rfl)) (fun a1so h1sp => ?_)
    obtain ⟨_, hrep_, hMe_⟩ := k52qmk (b := b) (w0 := w0) (R := R) (x := (⟨r1qw.f0, r1qw.f1, r1qw.f2⟩ : S52)) 
    subst hMe_
    have hq1sq := hrep_; clear hrep_
    refine WL.oq h1sp rfl ?_
    refine owp_nw (fun g_ => .slice (some ⟨g_, 0, none⟩) 1 1) (.cells ([.string (mkS r1qw.f0), .string (mkS r1qw.f1), .bool r1qw.f2] : List Value).toArray 52 (0, 0)) h1sp rfl hS1sn (fun a1sr W1st g1su h1ss hS1sv => ?_)
    have hr1sw : Row k52 52 b w0 R (.slice (some ⟨g1su, 0, none⟩) 1 1) ([(⟨r1qw.f0, r1qw.f1, r1qw.f2⟩ : S52)] : List S52) (bx g1su 52 [.string (mkS r1qw.f0), .string (mkS r1qw.f1), .bool r1qw.f2]) := Row.lit (xs := ([(⟨r1qw.f0, r1qw.f1, r1qw.f2⟩ : S52)] : List S52)) (Mi := []) ⟨_, _, [], _, rfl, rfl, hq1sq, ⟨rfl, rfl⟩⟩ (by simp [maxLen])
    clear h1sj a1si h1sm a1sl h1sp a1so
    by_cases c1sx : x1ps.length + 1 ≤ 3518437208883
    ·rw [if_pos c1sx] at H
     have hS1sy := hS1sv.b6
     refine WL.oq h1ss rfl ?_
     refine owp_app_take (z := .agg #[.string (mkS []), .string (mkS []), .bool false]) (bytes := 40) (dk := k52) h1ss rfl (by kernel_rfl) rfl rfl rfl hr1pw hr1sw hS1sy Tryd.underlying23 (by kernel_rfl) rfl (by decide) (by decide) (by first | omega | (simp only [List.length_cons, List.length_nil] at *; omega)) (fun a1sz W1t1 v1t2 M1t3 h1t0 hr1t4 hS1t5 => ?_)
     obtain ⟨y1t6, hy1t7, H⟩ := lete H
     have hr1t8 : Row k52 52 b w0 R v1t2 y1t6 M1t3 := by rw [hy1t7]; exact hr1t4
     clear hr1t4
     obtain ⟨A1t9, c1ta, rfl⟩ := hr1t8.form
     refine WL.bl 1 5 h1t0 [(7, .slice A1t9 y1t6.length c1ta)] (fun a1tb h1tc => ?_)
     refine WL.dn ?_
     refine WL.start ?_
     refine WL.bl 1 1 h1tc [(49, i6 x1px)] (fun a1td h1te => ?_)
     have hS1tf := hS1t5.b1
     refine WL.oq h1te rfl ?_
     refine owp_rn (.agg #[.string (mkS r1qw.f0), .string (mkS r1qw.f1), .bool r1qw.f2]) h1te rfl (run_loadN rfl rfl Tryd.underlying52 rfl (cs := [.string (mkS r1qw.f0), .string (mkS r1qw.f1), .bool r1qw.f2]) (by kernel_rfl) (hS1tf.cells (vs := [.string (mkS r1qw.f0), .string (mkS r1qw.f1), .bool r1qw.f2]) rfl)) (fun a1tg h1th => ?_)
     obtain ⟨r1tj, A1ti, H⟩ := bind1 H
     refine WL.oq h1th rfl ?_
     refine owp_call [.agg #[.string (mkS r1qw.f0), .string (mkS r1qw.f1), .bool r1qw.f2]] h1th rfl (by kernel_rfl) rfl Tryd.func26 (by kernel_rfl) rfl (by kernel_rfl) (dyntable_Size.calls (p0 := (⟨r1qw.f0, r1qw.f1, r1qw.f2⟩ : S52))  A1ti hS1tf) (fun e1tl W1tk hp1tm => ?_)
     obtain ⟨rfl, hS1tp⟩ := hp1tm
     refine ⟨_, rfl, fun a1tn h1to => ?_⟩
     refine WL.bl 2 5 h1to [(8, i6 (IntKind.i64.wrap (x1px + r1tj))), (52, i6 (IntKind.i64.wrap (x1px + r1tj)))] (fun a1tq h1tr => ?_)
     refine WL.dn ?_
     have hS1ts := hS1tp.b3
     have hS1tt := hS1ts.b3
     obtain ⟨M1tu, hp1tv, hS1tw⟩ := k66qfo r1qy hr1rp hr1rs hS1tt
     have hS1tx := hS1tw.b1
     have hS1ty := hS1tx.drop_
     have hS1tz := hS1ty.b1
     have hS1u0 := hS1tz.b1
     have hS1u1 := hS1u0.b3
     have hS1u2 := hS1u1.b3
     exact ⟨kk1q2, by omega, x1pn, x1po, r1qy, M1tu, y1t6, A1t9, c1ta, M1t3, IntKind.i64.wrap (x1px + r1tj), h1tr.keep ⟨rfl, rfl, rfl, rfl, rfl, trivial⟩, ⟨H⟩, ⟨by omega⟩, ⟨hS1u2⟩, ⟨hp1tv⟩, ⟨hr1t8⟩⟩
    ·rw [if_neg c1sx] at H
     cases H
   ·rw [if_neg c1sk] at H
    have hb_ : r1qx = false := (Bool.eq_false_iff.2 c1sk)
    try rw [hb_] at h1sj
    clear hb_
    refine wp_else h1sj rfl ?_
    refine wp_skip ?_
    have hS1u3 := hS1rn.b1
    have hS1u4 := hS1u3.b1
    obtain ⟨M1u5, hp1u6, hS1u7⟩ := k66qfo r1qy hr1rp hr1rs hS1u4
    have hS1u8 := hS1u7.b1
    have hS1u9 := hS1u8.drop_
    have hS1ua := hS1u9.b3
    have hS1ub := hS1ua.b1
    have hS1uc := hS1ub.b3
    have hS1ud := hS1uc.b3
    exact ⟨kk1q2, by omega, x1pn, x1po, r1qy, M1u5, x1ps, A1pt, c1pu, M1pv, x1px, h1sj.keep ⟨rfl, rfl, rfl, rfl, rfl, trivial⟩, ⟨H⟩, ⟨by omega⟩, ⟨hS1ud⟩, ⟨hp1u6⟩, ⟨hr1pw⟩⟩
 ·rw [if_neg c1qi] at H
  have hb_ : (decide ((x1pp.f1.length : Int) > 0)) = false := decide_eq_false c1qi
  try rw [hb_] at h1qh
  clear hb_
  refine wp_else h1qh rfl ?_
  refine wp_exit ?_
  refine wp_seq ?_
  refine wp_seq ?_
  refine WL.start ?_
  refine WL.bl 2 2 h1qh [(54, .bool (decide (x1px > 4096))), (53, i6 x1px)] (fun a1ue h1uf => ?_)
  refine WL.dn ?_
  clear h1qh a1qg
  by_cases c1ug : x1px > 4096
  ·rw [if_pos c1ug] at H
   have hb_ : (decide (x1px > 4096)) = true := decide_eq_true c1ug
   try rw [hb_] at h1uf
   clear hb_
   refine wp_then h1uf rfl ?_
   refine wp_seq ?_
   refine WL.start ?_
   refine WL.bl 2 2 h1uf [(4, .slice none 0 0), (55, .agg #[.int .u8 1, .int .u32 11])] (fun a1uh h1ui => ?_)
   have hS1uj := hS1q6.b3
   refine WL.oq h1ui rfl ?_
   refine owp_st 0 [.int .u8 1, .int .u32 11] h1ui rfl rfl rfl hS1uj [.int .u8 1, .int .u32 11] (fun a1uk W1um h1ul hS1un => ?_)
   refine WL.dn ?_
   refine wp_ret ?_
   have hS1uo := hS1un.b2
   have hS1up := hS1uo.b3
   obtain ⟨M1uq, hp1ur, hS1us⟩ := k64qfo (⟨x1pp.f0, p0.f1⟩ : S64) hr1q8 hS1up
   have hS1ut := hS1us.b1
   have hS1uu := hS1ut.drop_
   have hS1uv := hS1uu.b1
   have hS1uw := hS1uv.drop_
   have hS1ux := hS1uw.b1
   have hS1uy := hS1ux.drop_
   obtain ⟨rfl, rfl, rfl⟩ := ret3 H
   repeat (first | with_reducible refine t1 ?_ | with_reducible refine t2 ?_ | with_reducible refine t3 ?_)
   refine body_ret (v := .tuple #[.slice none 0 0, .agg #[.int .u8 1, .int .u32 11]]) h1ul (by kernel_rfl) (res_many (xs := [ResultVar.tmp 4, ResultVar.cell 5 31]) rfl ⟨rfl, ⟨_, rfl, loadVarN Tryd.underlying31 rfl (cs := [.int .u8 1, .int .u32 11]) (by kernel_rfl) (hS1un.cells (vs := [.int .u8 1, .int .u32 11]) rfl)⟩, trivial⟩ rfl) ?_
   exact ⟨.slice none 0 0, [], M1uq, rfl, Row.nil, hp1ur, hS1uy.nil_⟩
  ·rw [if_neg c1ug] at H
   have hb_ : (decide (x1px > 4096)) = false := decide_eq_false c1ug
   try rw [hb_] at h1uf
   clear hb_
   refine wp_else h1uf rfl ?_
   refine wp_skip ?_
   refine wp_seq ?_
   refine WL.start ?_
   refine WL.bl 3 3 h1uf [(4, .slice A1pt x1ps.length c1pu), (57, .agg #[.int .u8 0, .int .u32 0]), (56, .slice A1pt x1ps.length c1pu)] (fun a1uz h1v0 => ?_)
   have hS1v1 := hS1q6.b3
   refine WL.oq h1v0 rfl ?_
   refine owp_st 0 [.int .u8 0, .int .u32 0] h1v0 rfl rfl rfl hS1v1 [.int .u8 0, .int .u32 0] (fun a1v2 W1v4 h1v3 hS1v5 => ?_)
   refine WL.dn ?_
   refine wp_ret ?_
   have hS1v6 := hS1v5.b2
   have hS1v7 := hS1v6.b3
   obtain ⟨M1v8, hp1v9, hS1va⟩ := k64qfo (⟨x1pp.f0, p0.f1⟩ : S64) hr1q8 hS1v7
   have hS1vb := hS1va.b1
   have hS1vc := hS1vb.drop_
   have hS1vd := hS1vc.b1
   have hS1ve := hS1vd.drop_
   have hS1vf := hS1ve.b1
   obtain ⟨rfl, rfl, rfl⟩ := ret3 H
   repeat (first | with_reducible refine t1 ?_ | with_reducible refine t2 ?_ | with_reducible refine t3 ?_)
   refine body_ret (v := .tuple #[.slice A1pt x1ps.length c1pu, .agg #[.int .u8 0, .int .u32 0]]) h1v3 (by kernel_rfl) (res_many (xs := [ResultVar.tmp 4, ResultVar.cell 5 31]) rfl ⟨rfl, ⟨_, rfl, loadVarN Tryd.underlying31 rfl (cs := [.int .u8 0, .int .u32 0]) (by kernel_rfl) (hS1v5.cells (vs := [.int .u8 0, .int .u32 0]) rfl)⟩, trivial⟩ rfl) ?_
   exact ⟨.slice A1pt x1ps.length c1pu, M1pv, M1v8, rfl, hr1pw, hp1v9, hS1vf⟩

/-! ### (*louver/hpack.Decoder).Get -/
def hpack_Decoder_Get_nil.f (p1 : (List Int)) : Option ((List S52) × S31) := some (([] : List S52), (⟨1, 2⟩ : S31))
set_option maxHeartbeats 20000000 in
set_option maxRecDepth 100000 in
theorem hpack_Decoder_Get_nil.calls {b : Nat} {w0 W : World} {R : Frag} {Fs : List Frag} {p1 : (List Int)} {v1 : Value} {r0q : (List S52)} {r1q : S31} (hp1 : Rds (kInt .u8) b w0 R v1 p1) (hg0 : Rds k52 b w0 [] (.slice (some ⟨0, 0, none⟩) 61 61) G0) (hg1 : Rds (kInt .u8) b w0 [] (.slice (some ⟨1, 0, none⟩) 257 257) G1) (H : hpack_Decoder_Get_nil.f p1 = some (r0q, r1q)) (hS : St b w0 W R (Fs)) :
  Calls Tryd.prog 12 ([.pointer none, v1] : List Value).toArray W (fun e W' => ∃ (u0q : Value) (N0q : Frag), e = .returned (.tuple #[u0q, .agg #[.int .u8 r1q.f0, .int .u32 r1q.f1]]) ∧ Row k52 52 b w0 R u0q r0q N0q ∧ St b w0 W' R (N0q :: Fs)) := by
 obtain ⟨A1, c1, rfl⟩ := hp1.form
 unfold hpack_Decoder_Get_nil.f at H
 refine calls_enter Tryd.func12 rfl 58 rfl (by kernel_rfl) (fun a h => ?_)
 refine wp_seq ?_
 refine WL.start ?_
 refine WL.bl 1 1 h [(4, .slice none 0 0)] (fun a10g h10h => ?_)
 refine WL.oq h10h rfl ?_
 refine owp_nw (fun g_ => (pt g_)) (.cells ([.int .u8 0, .int .u32 0] : List Value).toArray 31 (0, 0)) h10h rfl hS (fun a10i W10k g10l h10j hS10m => ?_)
 refine WL.dn ?_
 refine wp_seq ?_
 refine wp_seq ?_
 refine WL.start ?_
 refine WL.bl 2 2 h10j [(12, .bool true), (11, .pointer none)] (fun a10n h10o => ?_)
 refine WL.dn ?_
 refine wp_then h10o rfl ?_
 refine wp_seq ?_
 refine WL.start ?_
 refine WL.bl 2 2 h10o [(4, .slice none 0 0), (13, .agg #[.int .u8 1, .int .u32 2])] (fun a10p h10q => ?_)
 refine WL.oq h10q rfl ?_
 refine owp_st 0 [.int .u8 1, .int .u32 2] h10q rfl rfl rfl hS10m [.int .u8 1, .int .u32 2] (fun a10r W10t h10s hS10u => ?_)
 refine WL.dn ?_
 refine wp_ret ?_
 have hS10v := hS10u.drop_
 obtain ⟨rfl, rfl⟩ := ret2 H
 repeat (first | with_reducible refine t1 ?_ | with_reducible refine t2 ?_ | with_reducible refine t3 ?_)
 refine body_ret (v := .tuple #[.slice none 0 0, .agg #[.int .u8 1, .int .u32 2]]) h10s (by kernel_rfl) (res_many (xs := [ResultVar.tmp 4, ResultVar.cell 5 31]) rfl ⟨rfl, ⟨_, rfl, loadVarN Tryd.underlying31 rfl (cs := [.int .u8 1, .int .u32 2]) (by kernel_rfl) (hS10u.cells (vs := [.int .u8 1, .int .u32 2]) rfl)⟩, trivial⟩ rfl) ?_
 exact ⟨.slice none 0 0, [], rfl, Row.nil, hS10v.nil_⟩

/-! ### louver/louverref05.Size -/
def louverref05qSize.f (p0 : S52) : Option (Int) := some (IntKind.i64.wrap ((IntKind.i64.wrap (32 + (p0.f0.length : Int))) + (p0.f1.length : Int)))
set_option maxHeartbeats 20000000 in
set_option maxRecDepth 100000 in
theorem louverref05qSize.calls {b : Nat} {w0 W : World} {R : Frag} {Fs : List Frag} {p0 : S52}  {r0q : Int}  (H : louverref05qSize.f p0 = some r0q) (hS : St b w0 W R (Fs)) :
  Calls Tryd.prog 23 ([.agg #[.string (mkS p0.f0), .string (mkS p0.f1), .bool p0.f2]] : List Value).toArray W (fun e W' => e = .returned (i6 r0q) ∧ St b w0 W' R (Fs)) := by
 unfold louverref05qSize.f at H
 refine calls_enter Tryd.func23 rfl 11 rfl (by kernel_rfl) (fun a h => ?_)
 refine wp_seq ?_
 refine WL.start ?_
 refine WL.oq h rfl ?_
 refine owp_nw (fun g_ => (pt g_)) (.cells ([.string (mkS p0.f0), .string (mkS p0.f1), .bool p0.f2] : List Value).toArray 52 (0, 0)) h rfl hS (fun a10i W10k g10l h10j hS10m => ?_)
 refine WL.bl 1 2 h10j [(2, i6 0)] (fun a10n h10o => ?_)
 refine WL.dn ?_
 refine wp_seq ?_
 refine WL.start ?_
 refine WL.bl 1 1 h10o [(3, pt g10l)] (fun a10p h10q => ?_)
 refine WL.oq h10q rfl ?_
 refine owp_rn (.string (mkS p0.f0)) h10q rfl (run_load1 rfl rfl Tryd.underlying9 rfl (hS10m.cell (i := 0) rfl)) (fun a10r h10s => ?_)
 refine WL.bl 3 5 h10s [(7, .pointer (some ⟨g10l, 1, none⟩)), (6, i6 (IntKind.i64.wrap (32 + (p0.f0.length : Int)))), (5, i6 (p0.f0.length : Int))] (fun a10t h10u => ?_)
 refine WL.oq h10u rfl ?_
 refine owp_rn (.string (mkS p0.f1)) h10u rfl (run_load1 rfl rfl Tryd.underlying9 rfl (hS10m.cell (i := 1) rfl)) (fun a10v h10w => ?_)
 refine WL.bl 3 9 h10w [(2, i6 (IntKind.i64.wrap ((IntKind.i64.wrap (32 + (p0.f0.length : Int))) + (p0.f1.length : Int)))), (10, i6 (IntKind.i64.wrap ((IntKind.i64.wrap (32 + (p0.f0.length : Int))) + (p0.f1.length : Int)))), (9, i6 (p0.f1.length : Int))] (fun a10x h10y => ?_)
 refine WL.dn ?_
 refine wp_ret ?_
 have hS10z := hS10m.drop_
 obtain rfl := Option.some.inj H
 repeat (first | with_reducible refine t1 ?_ | with_reducible refine t2 ?_ | with_reducible refine t3 ?_)
 refine bret (i6 (IntKind.i64.wrap ((IntKind.i64.wrap (32 + (p0.f0.length : Int))) + (p0.f1.length : Int)))) h10y ?_
 exact ⟨rfl, hS10z⟩

/-! ### louver/louverref06.Same -/
def louverref06qSame.l0 : Nat → Int → (List S52) → (List S52) → Option (Bool)
 | 0, _, _, _ => none
 | k + 1, x19u, p0, p1 => if x19u < (p0.length : Int) then (if 0 ≤ x19u then (if x19u < (p1.length : Int) then (if (decide (((gt z52 p0 x19u).f0) = ((gt z52 p1 x19u).f0)) && (decide (((gt z52 p0 x19u).f1) = ((gt z52 p1 x19u).f1)) && decide (((gt z52 p0 x19u).f2) = ((gt z52 p1 x19u).f2)))) = true then (louverref06qSame.l0 k (IntKind.i64.wrap (x19u + 1)) p0 p1) else (some false)) else (none)) else (none)) else (some true)
def louverref06qSame.f (k : Nat) (p0 : (List S52)) (p1 : (List S52)) : Option (Bool) := if (p0.length : Int) = (p1.length : Int) then (louverref06qSame.l0 k 0 p0 p1) else (some false)
set_option maxHeartbeats 20000000 in
set_option maxRecDepth 100000 in
theorem louverref06qSame.calls (k : Nat) {b : Nat} {w0 W : World} {R : Frag} {Fs : List Frag} {p0 : (List S52)} {p1 : (List S52)} {v0 : Value} {v1 : Value} {r0q : Bool} (hp0 : Rds k52 b w0 R v0 p0) (hp1 : Rds k52 b w0 R v1 p1) (H : louverref06qSame.f k p0 p1 = some r0q) (hS : St b w0 W R (Fs)) :
  Calls Tryd.prog 21 ([v0, v1] : List Value).toArray W (fun e W' => e = .returned (.bool r0q) ∧ St b w0 W' R (Fs)) := by
 obtain ⟨A0, c0, rfl⟩ := hp0.form
 obtain ⟨A1, c1, rfl⟩ := hp1.form
 unfold louverref06qSame.f at H
 refine calls_enter Tryd.func21 rfl 26 rfl (by kernel_rfl) (fun a h => ?_)
 refine wp_seq ?_
 refine WL.start ?_
 refine WL.bl 1 1 h [(4, .bool false)] (fun a19i h19j => ?_)
 refine WL.dn ?_
 refine wp_seq ?_
 refine wp_seq ?_
 refine WL.start ?_
 refine WL.bl 5 5 h19j [(10, .bool (!decide ((p0.length : Int) = (p1.length : Int)))), (9, i6 (p1.length : Int)), (8, .slice A1 p1.length c1), (7, i6 (p0.length : Int)), (6, .slice A0 p0.length c0)] (fun a19k h19l => ?_)
 refine WL.dn ?_
 clear h19j a19i
 by_cases c19m : (p0.length : Int) = (p1.length : Int)
 ·rw [if_pos c19m] at H
  have hb_ : (decide ((p0.length : Int) = (p1.length : Int))) = true := decide_eq_true c19m
  try rw [hb_] at h19l
  clear hb_
  refine wp_else h19l rfl ?_
  refine wp_skip ?_
  refine wp_seq ?_
  refine wp_seq ?_
  refine WL.start ?_
  refine WL.bl 3 3 h19l [(13, i6 0), (12, i6 (p0.length : Int)), (11, .slice A0 p0.length c0)] (fun a19n h19o => ?_)
  refine WL.dn ?_
  refine wp_block ?_
  clear h19l a19k
  refine wp_loop_ghost (fun kq_ a_ W_ => ∃ (x19u : Int), Hd a_ 26 [(0, .slice A0 p0.length c0), (1, .slice A1 p1.length c1), (12, i6 (p0.length : Int)), (13, i6 x19u)] ∧ Asd (louverref06qSame.l0 kq_ x19u p0 p1 = some r0q) ∧ Asd (kq_ ≤ k) ∧ Asd (St b w0 W_ R (Fs))) k ⟨0, h19o.keep ⟨rfl, rfl, rfl, rfl, trivial⟩, ⟨H⟩, ⟨Nat.le_refl _⟩, ⟨hS⟩⟩ ?_
  clear H hS
  rintro kk19t a19q W19r ⟨x19u, h19p, ⟨H⟩, ⟨hkkk19t⟩, ⟨hS19s⟩⟩
  obtain _ | kk19v := kk19t
  ·exact absurd H (by simp [louverref06qSame.l0])
  simp only [louverref06qSame.l0] at H
  refine wp_seq ?_
  refine WL.start ?_
  refine WL.bl 1 1 h19p [(14, .bool (decide (x19u < (p0.length : Int))))] (fun a19w h19x => ?_)
  refine WL.dn ?_
  refine wp_seq ?_
  clear h19p a19q
  by_cases c19y : x19u < (p0.length : Int)
  ·rw [if_pos c19y] at H
   have hb_ : (decide (x19u < (p0.length : Int))) = true := decide_eq_true c19y
   try rw [hb_] at h19x
   clear hb_
   refine wp_then h19x rfl ?_
   refine wp_skip ?_
   refine wp_seq ?_
   refine wp_block ?_
   refine wp_seq ?_
   refine WL.start ?_
   refine WL.bl 2 2 h19x [(5, i6 x19u), (15, i6 x19u)] (fun a19z h1a0 => ?_)
   refine WL.dn ?_
   refine wp_seq ?_
   refine WT.start 9 (fun w_ => (∀ a_ u_, Kn b w0 R a_ u_ → w_.cell? a_ = some u_) ∧ True) (by kernel_rfl) #[false, false, false, false, false, false, false, false, false] 9 rfl rfl ?_
   have hS1cn := hS19s.drew
   refine WT.tk 0 h1a0 rfl rfl (.slice A0 p0.length c0) (fun _ _ => by kernel_rfl) ⟨(fun _ _ hk_ => hS1cn.kn hk_), trivial⟩ (fun a1co s1cq h1cp => ?_)
   refine WT.tk 1 h1cp rfl rfl (i6 x19u) (fun _ _ => by kernel_rfl) s1cq (fun a1cr s1ct h1cs => ?_)
   refine WT.tk 4 h1cs rfl rfl (.slice A1 p1.length c1) (fun _ _ => by kernel_rfl) s1ct (fun a1cu s1cw h1cv => ?_)
   refine WT.tk 5 h1cv rfl rfl (i6 x19u) (fun _ _ => by kernel_rfl) s1cw (fun a1cx s1cz h1cy => ?_)
   clear h19x a19w h1a0 a19z h1cp a1co h1cs a1cr h1cv a1cu
   by_cases c1d0 : 0 ≤ x19u
   ·rw [if_pos c1d0] at H
    have hi1d3 : 0 ≤ x19u := by first | assumption | omega
    have hi1d4 : x19u < (p0.length : Int) := by first | assumption | omega
    obtain ⟨ad1d1, _, ha1d2, -, -⟩ := Rds.elemAny hp0 hi1d3 (gt_get (z := z52) hi1d3 hi1d4)
    refine WT.tk 2 h1cy rfl rfl (.pointer (some (ad1d1.add (x19u.toNat * 3)))) (fun w_ hs_ => (run_idx (ad := ad1d1) (sz := 3) rfl (by rw [← ha1d2]; rfl) rfl Tryd.underlying23 (by kernel_rfl) hi1d3 hi1d4)) s1cz (fun a1d5 s1d7 h1d6 => ?_)
    obtain ⟨ad1d8, cs1d9, ha1da, hr1dc, hc1db⟩ := Rds.elemAny hp0 hi1d3 (gt_get (z := z52) hi1d3 hi1d4)
    rw [ha1d2] at ha1da; obtain rfl := Option.some.inj ha1da
    obtain rfl := k52qrd hr1dc
    refine WT.tk 3 h1d6 rfl rfl (.agg #[.string (mkS ((gt z52 p0 x19u).f0)), .string (mkS ((gt z52 p0 x19u).f1)), .bool ((gt z52 p0 x19u).f2)]) (fun w_ hs_ => (run_loadN rfl rfl Tryd.underlying52 rfl (cs := [.string (mkS ((gt z52 p0 x19u).f0)), .string (mkS ((gt z52 p0 x19u).f1)), .bool ((gt z52 p0 x19u).f2)]) (by kernel_rfl) (hc1db _ hs_.1))) s1d7 (fun a1dd s1df h1de => ?_)
    clear h1cy a1cx h1d6 a1d5
    by_cases c1dg : x19u < (p1.length : Int)
    ·rw [if_pos c1dg] at H
     have hi1dj : 0 ≤ x19u := by first | assumption | omega
     have hi1dk : x19u < (p1.length : Int) := by first | assumption | omega
     obtain ⟨ad1dh, _, ha1di, -, -⟩ := Rds.elemAny hp1 hi1dj (gt_get (z := z52) hi1dj hi1dk)
     refine WT.tk 6 h1de rfl rfl (.pointer (some (ad1dh.add (x19u.toNat * 3)))) (fun w_ hs_ => (run_idx (ad := ad1dh) (sz := 3) rfl (by rw [← ha1di]; rfl) rfl Tryd.underlying23 (by kernel_rfl) hi1dj hi1dk)) s1df (fun a1dl s1dn h1dm => ?_)
     obtain ⟨ad1do, cs1dp, ha1dq, hr1ds, hc1dr⟩ := Rds.elemAny hp1 hi1dj (gt_get (z := z52) hi1dj hi1dk)
     rw [ha1di] at ha1dq; obtain rfl := Option.some.inj ha1dq
     obtain rfl := k52qrd hr1ds
     refine WT.tk 7 h1dm rfl rfl (.agg #[.string (mkS ((gt z52 p1 x19u).f0)), .string (mkS ((gt z52 p1 x19u).f1)), .bool ((gt z52 p1 x19u).f2)]) (fun w_ hs_ => (run_loadN rfl rfl Tryd.underlying52 rfl (cs := [.string (mkS ((gt z52 p1 x19u).f0)), .string (mkS ((gt z52 p1 x19u).f1)), .bool ((gt z52 p1 x19u).f2)]) (by kernel_rfl) (hc1dr _ hs_.1))) s1dn (fun a1dt s1dv h1du => ?_)
     refine WT.tk 8 h1du rfl rfl (.bool (!(decide (((gt z52 p0 x19u).f0) = ((gt z52 p1 x19u).f0)) && (decide (((gt z52 p0 x19u).f1) = ((gt z52 p1 x19u).f1)) && decide (((gt z52 p0 x19u).f2) = ((gt z52 p1 x19u).f2)))))) (fun w_ hs_ => (run_stne (xs := [.string (mkS ((gt z52 p0 x19u).f0)), .string (mkS ((gt z52 p0 x19u).f1)), .bool ((gt z52 p0 x19u).f2)]) (ys := [.string (mkS ((gt z52 p1 x19u).f0)), .string (mkS ((gt z52 p1 x19u).f1)), .bool ((gt z52 p1 x19u).f2)]) rfl rfl rfl (by kernel_rfl) (eqs_of Tryd.underlying52 (by kernel_rfl) (eqf_cons rfl (by kernel_rfl) rfl rfl (eqi_str Tryd.underlying9) (eqf_cons rfl (by kernel_rfl) rfl rfl (eqi_str Tryd.underlying9) (eqf_last rfl (by kernel_rfl) rfl rfl (eqi_bool Tryd.underlying4))))))) s1dv (fun a1dw s1dy h1dx => ?_)
     refine WT.dn ?_
     clear h1de a1dd h1dm a1dl h1du a1dt
     by_cases c1dz : (decide (((gt z52 p0 x19u).f0) = ((gt z52 p1 x19u).f0)) && (decide (((gt z52 p0 x19u).f1) = ((gt z52 p1 x19u).f1)) && decide (((gt z52 p0 x19u).f2) = ((gt z52 p1 x19u).f2)))) = true
     ·rw [if_pos c1dz] at H
      have hb_ : (decide (((gt z52 p0 x19u).f0) = ((gt z52 p1 x19u).f0)) && (decide (((gt z52 p0 x19u).f1) = ((gt z52 p1 x19u).f1)) && decide (((gt z52 p0 x19u).f2) = ((gt z52 p1 x19u).f2)))) = true := c1dz
      try rw [hb_] at h1dx
      clear hb_
      refine wp_else h1dx rfl ?_
      refine wp_skip ?_
      refine WL.start ?_
      refine WL.bl 2 2 h1dx [(13, i6 (IntKind.i64.wrap (x19u + 1))), (25, i6 (IntKind.i64.wrap (x19u + 1)))] (fun a1e0 h1e1 => ?_)
      refine WL.dn ?_
      exact ⟨kk19v, by omega, IntKind.i64.wrap (x19u + 1), h1e1.keep ⟨rfl, rfl, rfl, rfl, trivial⟩, ⟨H⟩, ⟨by omega⟩, ⟨hS1cn⟩⟩
     ·rw [if_neg c1dz] at H
      have hb_ : (decide (((gt z52 p0 x19u).f0) = ((gt z52 p1 x19u).f0)) && (decide (((gt z52 p0 x19u).f1) = ((gt z52 p1 x19u).f1)) && decide (((gt z52 p0 x19u).f2) = ((gt z52 p1 x19u).f2)))) = false := (Bool.eq_false_iff.2 c1dz)
      try rw [hb_] at h1dx
      clear hb_
      refine wp_then h1dx rfl ?_
      refine wp_seq ?_
      refine WL.start ?_
      refine WL.bl 1 1 h1dx [(4, .bool false)] (fun a1e2 h1e3 => ?_)
      refine WL.dn ?_
      refine wp_ret ?_
      obtain rfl := Option.some.inj H
      repeat (first | with_reducible refine t1 ?_ | with_reducible refine t2 ?_ | with_reducible refine t3 ?_)
      refine bret (.bool false) h1e3 ?_
      exact ⟨rfl, hS1cn⟩
    ·rw [if_neg c1dg] at H
     cases H
   ·rw [if_neg c1d0] at H
    cases H
  ·rw [if_neg c19y] at H
   have hb_ : (decide (x19u < (p0.length : Int))) = false := decide_eq_false c19y
   try rw [hb_] at h19x
   clear hb_
   refine wp_else h19x rfl ?_
   refine wp_exit ?_
   refine wp_seq ?_
   refine WL.start ?_
   refine WL.bl 1 1 h19x [(4, .bool true)] (fun a1e4 h1e5 => ?_)
   refine WL.dn ?_
   refine wp_ret ?_
   obtain rfl := Option.some.inj H
   repeat (first | with_reducible refine t1 ?_ | with_reducible refine t2 ?_ | with_reducible refine t3 ?_)
   refine bret (.bool true) h1e5 ?_
   exact ⟨rfl, hS19s⟩
 ·rw [if_neg c19m] at H
  have hb_ : (decide ((p0.length : Int) = (p1.length : Int))) = false := decide_eq_false c19m
  try rw [hb_] at h19l
  clear hb_
  refine wp_then h19l rfl ?_
  refine wp_seq ?_
  refine WL.start ?_
  refine WL.bl 1 1 h19l [(4, .bool false)] (fun a1e6 h1e7 => ?_)
  refine WL.dn ?_
  refine wp_ret ?_
  obtain rfl := Option.some.inj H
  repeat (first | with_reducible refine t1 ?_ | with_reducible refine t2 ?_ | with_reducible refine t3 ?_)
  refine bret (.bool false) h1e7 ?_
  exact ⟨rfl, hS⟩
end Go.Proofs.YtinebjcfgmoniaaDoor.Sl
