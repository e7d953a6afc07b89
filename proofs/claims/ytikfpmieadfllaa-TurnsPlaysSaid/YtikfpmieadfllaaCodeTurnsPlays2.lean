/- What the functions of this program compute, told as plain functions, and that the calls come to just that. Printed by this session's program; part 2. -/
import Derived.Test.YtikfpmieadfllaaCodeTurnsPlays1
set_option linter.unusedVariables false
set_option linter.unusedSimpArgs false
set_option linter.unnecessarySimpa false
namespace Go.Proofs.Ytikfpmieadfllaa.Sl
open Go Go.RowKit Go.Proofs.Sl
/-! ### (louver/louverref13.R).Put -/
def louverref13qR_Put.f (k : Nat) (p0 : S56) (p1 : Int) (p2 : (List UInt8)) (p3 : Bool) : Option (S56 × Bool) := bnd1 (louverref13qR_Find.f k (⟨p0.f0, p0.f1, (⟨p0.f2.f0, p0.f2.f1⟩ : S41)⟩ : S56) p1) fun r15m => (if r15m < 0 then (some ((⟨p0.f0, p0.f1, (⟨p0.f2.f0, p0.f2.f1⟩ : S41)⟩ : S56), false)) else (if 0 ≤ r15m then (if r15m < (p0.f0.length : Int) then (if (gt z61 p0.f0 r15m).f2 = true then (some ((⟨p0.f0, p0.f1, (⟨p0.f2.f0, p0.f2.f1⟩ : S41)⟩ : S56), false)) else (if ((gt z61 p0.f0 r15m).f1).length + p2.length ≤ 9223372036854775807 then (bnd1 (louverref13qR_with.f (⟨p0.f0, p0.f1, (⟨p0.f2.f0, p0.f2.f1⟩ : S41)⟩ : S56) r15m (⟨(gt z61 p0.f0 r15m).f0, ((gt z61 p0.f0 r15m).f1) ++ p2, p3, (gt z61 p0.f0 r15m).f3, (⟨(gt z61 p0.f0 r15m).f4.f0, (gt z61 p0.f0 r15m).f4.f1⟩ : S41)⟩ : S61)) fun r19i => (some ((⟨r19i.f0, r19i.f1, (⟨r19i.f2.f0, r19i.f2.f1⟩ : S41)⟩ : S56), true))) else (none))) else (none)) else (none)))
set_option maxHeartbeats 20000000 in
set_option maxRecDepth 100000 in
theorem louverref13qR_Put.calls (k : Nat) {b : Nat} {w0 W : World} {R : Frag} {Fs : List Frag} {p0 : S56} {p1 : Int} {p2 : (List UInt8)} {p3 : Bool} {v0q0 : Value} {M0q0 : Frag} {r0q : S56} {r1q : Bool} (hp0q0 : Row k61 61 b w0 R v0q0 p0.f0 M0q0) (H : louverref13qR_Put.f k p0 p1 p2 p3 = some (r0q, r1q)) (hS : St b w0 W R (M0q0 :: Fs)) :
  Calls Try.prog 39 ([.agg #[v0q0, i6 p0.f1, i6 p0.f2.f0, .bool p0.f2.f1], .int .u32 p1, .string (mkS p2), .bool p3] : List Value).toArray W (fun e W' => ∃ (u0qv0qf0 : Value) (Nu0qv0qf0 : Frag), e = .returned (.tuple #[.agg #[u0qv0qf0, i6 r0q.f1, i6 r0q.f2.f0, .bool r0q.f2.f1], .bool r1q]) ∧ Row k61 61 b w0 R u0qv0qf0 r0q.f0 Nu0qv0qf0 ∧ St b w0 W' R (Nu0qv0qf0 :: Fs)) := by
 obtain ⟨A0q0, c0q0, rfl⟩ := hp0q0.form
 unfold louverref13qR_Put.f at H
 refine calls_enter Try.func39 rfl 42 rfl (by kernel_rfl) (fun a h => ?_)
 refine wp_seq ?_
 refine WL.start ?_
 refine WL.oq h rfl ?_
 refine owp_nw (fun g_ => (pt g_)) (.cells ([.slice A0q0 p0.f0.length c0q0, i6 p0.f1, i6 p0.f2.f0, .bool p0.f2.f1] : List Value).toArray 56 (0, 0)) h rfl hS (fun a153 W155 g156 h154 hS157 => ?_)
 refine WL.oq h154 rfl ?_
 refine owp_nw (fun g_ => (pt g_)) (.cells ([.slice none 0 0, i6 0, i6 0, .bool false] : List Value).toArray 56 (0, 0)) h154 rfl hS157 (fun a158 W15a g15b h159 hS15c => ?_)
 refine WL.bl 1 3 h159 [(9, .bool false)] (fun a15d h15e => ?_)
 refine WL.dn ?_
 refine wp_seq ?_
 refine WL.start ?_
 have hS15f := hS15c.b1
 refine WL.oq h15e rfl ?_
 refine owp_rn (.agg #[.slice A0q0 p0.f0.length c0q0, i6 p0.f1, i6 p0.f2.f0, .bool p0.f2.f1]) h15e rfl (run_loadN rfl rfl Try.underlying56 rfl (cs := [.slice A0q0 p0.f0.length c0q0, i6 p0.f1, i6 p0.f2.f0, .bool p0.f2.f1]) (by kernel_rfl) (hS15f.cells (vs := [.slice A0q0 p0.f0.length c0q0, i6 p0.f1, i6 p0.f2.f0, .bool p0.f2.f1]) rfl)) (fun a15g h15h => ?_)
 refine WL.bl 1 2 h15h [(13, .int .u32 p1)] (fun a15i h15j => ?_)
 have hS15k := hS15f.b2
 obtain ⟨r15m, A15l, H⟩ := bind1 H
 refine WL.oq h15j rfl ?_
 refine owp_call [.agg #[.slice A0q0 p0.f0.length c0q0, i6 p0.f1, i6 p0.f2.f0, .bool p0.f2.f1], .int .u32 p1] h15j rfl (by kernel_rfl) rfl Try.func25 (by kernel_rfl) rfl (by kernel_rfl) (louverref13qR_Find.calls (p0 := (⟨p0.f0, p0.f1, (⟨p0.f2.f0, p0.f2.f1⟩ : S41)⟩ : S56)) k hp0q0.rds A15l (hS15k.pool)) (fun e15o W15n hp15p => ?_)
 obtain ⟨rfl, hS15s⟩ := hp15p
 have hS15t : St b w0 W15n R (M0q0 :: (bx g156 56 [.slice A0q0 p0.f0.length c0q0, i6 p0.f1, i6 p0.f2.f0, .bool p0.f2.f1]) :: (bx g15b 56 [.slice none 0 0, i6 0, i6 0, .bool false]) :: Fs) := hS15s.unpool
 refine ⟨_, rfl, fun a15q h15r => ?_⟩
 refine WL.bl 1 4 h15r [(10, i6 r15m)] (fun a15u h15v => ?_)
 refine WL.dn ?_
 refine wp_seq ?_
 refine wp_seq ?_
 refine WL.start ?_
 refine WL.bl 3 3 h15v [(17, .bool (decide (r15m < 0))), (16, .bool (decide (r15m < 0))), (15, i6 r15m)] (fun a15w h15x => ?_)
 clear h154 a153 h159 a158 h15e a15d h15h a15g h15j a15i h15r a15q h15v a15u
 by_cases c15y : r15m < 0
 ·rw [if_pos c15y] at H
  have hb_ : (decide (r15m < 0)) = true := decide_eq_true c15y
  try rw [hb_] at h15x
  clear hb_
  refine WL.sk h15x rfl rfl (fun a15z h160 => ?_)
  refine WL.sk h160 rfl rfl (fun a161 h162 => ?_)
  refine WL.sk h162 rfl rfl (fun a163 h164 => ?_)
  refine WL.sk h164 rfl rfl (fun a165 h166 => ?_)
  refine WL.sk h166 rfl rfl (fun a167 h168 => ?_)
  refine WL.sk h168 rfl rfl (fun a169 h16a => ?_)
  refine WL.bl 1 10 h16a [(24, .bool true)] (fun a16b h16c => ?_)
  refine WL.dn ?_
  refine wp_then h16c rfl ?_
  refine wp_seq ?_
  refine WL.start ?_
  have hS16d := hS15t.b1
  refine WL.oq h16c rfl ?_
  refine owp_rn (.agg #[.slice A0q0 p0.f0.length c0q0, i6 p0.f1, i6 p0.f2.f0, .bool p0.f2.f1]) h16c rfl (run_loadN rfl rfl Try.underlying56 rfl (cs := [.slice A0q0 p0.f0.length c0q0, i6 p0.f1, i6 p0.f2.f0, .bool p0.f2.f1]) (by kernel_rfl) (hS16d.cells (vs := [.slice A0q0 p0.f0.length c0q0, i6 p0.f1, i6 p0.f2.f0, .bool p0.f2.f1]) rfl)) (fun a16e h16f => ?_)
  have hS16g := hS16d.b2
  refine WL.oq h16f rfl ?_
  refine owp_st 0 [.slice A0q0 p0.f0.length c0q0, i6 p0.f1, i6 p0.f2.f0, .bool p0.f2.f1] h16f rfl rfl rfl hS16g [.slice A0q0 p0.f0.length c0q0, i6 p0.f1, i6 p0.f2.f0, .bool p0.f2.f1] (fun a16h W16j h16i hS16k => ?_)
  refine WL.bl 1 3 h16i [(9, .bool false)] (fun a16l h16m => ?_)
  refine WL.dn ?_
  refine wp_ret ?_
  have hS16n := hS16k.drop_
  have hS16o := hS16n.drop_
  obtain ⟨rfl, rfl⟩ := ret2 H
  repeat (first | with_reducible refine t1 ?_ | with_reducible refine t2 ?_ | with_reducible refine t3 ?_)
  refine body_ret (v := .tuple #[.agg #[.slice A0q0 p0.f0.length c0q0, i6 p0.f1, i6 p0.f2.f0, .bool p0.f2.f1], .bool false]) h16m (by kernel_rfl) (res_many (xs := [ResultVar.cell 8 56, ResultVar.tmp 9]) rfl ⟨⟨_, rfl, loadVarN Try.underlying56 rfl (cs := [.slice A0q0 p0.f0.length c0q0, i6 p0.f1, i6 p0.f2.f0, .bool p0.f2.f1]) (by kernel_rfl) (hS16k.cells (vs := [.slice A0q0 p0.f0.length c0q0, i6 p0.f1, i6 p0.f2.f0, .bool p0.f2.f1]) rfl)⟩, rfl, trivial⟩ rfl) ?_
  exact ⟨.slice A0q0 p0.f0.length c0q0, M0q0, rfl, hp0q0, hS16o⟩
 ·rw [if_neg c15y] at H
  have hb_ : (decide (r15m < 0)) = false := decide_eq_false c15y
  try rw [hb_] at h15x
  clear hb_
  refine WL.oq h15x rfl (owp_rk (pt g156) h15x rfl (fun a16p h16q => ?_))
  have hS16r := hS15t.b1
  refine WL.oq h16q rfl ?_
  refine owp_rn (.slice A0q0 p0.f0.length c0q0) h16q rfl (run_load1 rfl rfl Try.underlying54 rfl (hS16r.cell (i := 0) rfl)) (fun a16s h16t => ?_)
  refine WL.oq h16t rfl (owp_rk (i6 r15m) h16t rfl (fun a16u h16v => ?_))
  clear h15x a15w h16q a16p h16t a16s
  by_cases c16w : 0 ≤ r15m
  ·rw [if_pos c16w] at H
   by_cases c16x : r15m < (p0.f0.length : Int)
   ·rw [if_pos c16x] at H
    have hi170 : 0 ≤ r15m := by first | assumption | omega
    have hi171 : r15m < (p0.f0.length : Int) := by first | assumption | omega
    obtain ⟨ad16y, _, ha16z, -, -⟩ := Rds.elemAny hp0q0.rds hi170 (gt_get (z := z61) hi170 hi171)
    refine WL.oq h16v rfl ?_
    refine owp_rn (.pointer (some (ad16y.add (r15m.toNat * 6)))) h16v rfl (run_idx (ad := ad16y) (sz := 6) rfl (by rw [← ha16z]; rfl) rfl Try.underlying54 (by kernel_rfl) hi170 hi171) (fun a172 h173 => ?_)
    refine WL.oq h173 rfl (owp_rk (.pointer (some ((ad16y.add (r15m.toNat * 6)).add 2))) h173 rfl (fun a174 h175 => ?_))
    have hS176 := hS16r.b1
    obtain ⟨ad177, cs178, ha179, hr17b, hc17a⟩ := Rds.elemAny hp0q0.rds hi170 (gt_get (z := z61) hi170 hi171)
    rw [ha16z] at ha179; obtain rfl := Option.some.inj ha179
    obtain rfl := k61qrd hr17b
    refine WL.oq h175 rfl ?_
    refine owp_rn (.bool ((gt z61 p0.f0 r15m).f2)) h175 rfl (run_load1 rfl rfl Try.underlying4 rfl (hc17a _ (fun _ _ hk_ => (hS176).pool.kn hk_) 2 _ rfl)) (fun a17c h17d => ?_)
    refine WL.bl 1 10 h17d [(24, .bool ((gt z61 p0.f0 r15m).f2))] (fun a17e h17f => ?_)
    refine WL.dn ?_
    clear h16v a16u h173 a172 h175 a174 h17d a17c
    by_cases c17g : (gt z61 p0.f0 r15m).f2 = true
    ·rw [if_pos c17g] at H
     have hb_ : ((gt z61 p0.f0 r15m).f2) = true := c17g
     try rw [hb_] at h17f
     clear hb_
     refine wp_then h17f rfl ?_
     refine wp_seq ?_
     refine WL.start ?_
     have hS17h := hS176.b1
     refine WL.oq h17f rfl ?_
     refine owp_rn (.agg #[.slice A0q0 p0.f0.length c0q0, i6 p0.f1, i6 p0.f2.f0, .bool p0.f2.f1]) h17f rfl (run_loadN rfl rfl Try.underlying56 rfl (cs := [.slice A0q0 p0.f0.length c0q0, i6 p0.f1, i6 p0.f2.f0, .bool p0.f2.f1]) (by kernel_rfl) (hS17h.cells (vs := [.slice A0q0 p0.f0.length c0q0, i6 p0.f1, i6 p0.f2.f0, .bool p0.f2.f1]) rfl)) (fun a17i h17j => ?_)
     have hS17k := hS17h.b2
     refine WL.oq h17j rfl ?_
     refine owp_st 0 [.slice A0q0 p0.f0.length c0q0, i6 p0.f1, i6 p0.f2.f0, .bool p0.f2.f1] h17j rfl rfl rfl hS17k [.slice A0q0 p0.f0.length c0q0, i6 p0.f1, i6 p0.f2.f0, .bool p0.f2.f1] (fun a17l W17n h17m hS17o => ?_)
     refine WL.bl 1 3 h17m [(9, .bool false)] (fun a17p h17q => ?_)
     refine WL.dn ?_
     refine wp_ret ?_
     have hS17r := hS17o.drop_
     have hS17s := hS17r.drop_
     obtain ⟨rfl, rfl⟩ := ret2 H
     repeat (first | with_reducible refine t1 ?_ | with_reducible refine t2 ?_ | with_reducible refine t3 ?_)
     refine body_ret (v := .tuple #[.agg #[.slice A0q0 p0.f0.length c0q0, i6 p0.f1, i6 p0.f2.f0, .bool p0.f2.f1], .bool false]) h17q (by kernel_rfl) (res_many (xs := [ResultVar.cell 8 56, ResultVar.tmp 9]) rfl ⟨⟨_, rfl, loadVarN Try.underlying56 rfl (cs := [.slice A0q0 p0.f0.length c0q0, i6 p0.f1, i6 p0.f2.f0, .bool p0.f2.f1]) (by kernel_rfl) (hS17o.cells (vs := [.slice A0q0 p0.f0.length c0q0, i6 p0.f1, i6 p0.f2.f0, .bool p0.f2.f1]) rfl)⟩, rfl, trivial⟩ rfl) ?_
     exact ⟨.slice A0q0 p0.f0.length c0q0, M0q0, rfl, hp0q0, hS17s⟩
    ·rw [if_neg c17g] at H
     have hb_ : ((gt z61 p0.f0 r15m).f2) = false := (Bool.eq_false_iff.2 c17g)
     try rw [hb_] at h17f
     clear hb_
     refine wp_else h17f rfl ?_
     refine wp_skip ?_
     refine wp_seq ?_
     refine WL.start ?_
     refine WL.bl 1 1 h17f [(26, pt g156)] (fun a17t h17u => ?_)
     have hS17v := hS176.b1
     refine WL.oq h17u rfl ?_
     refine owp_rn (.slice A0q0 p0.f0.length c0q0) h17u rfl (run_load1 rfl rfl Try.underlying54 rfl (hS17v.cell (i := 0) rfl)) (fun a17w h17x => ?_)
     refine WL.bl 1 3 h17x [(28, i6 r15m)] (fun a17y h17z => ?_)
     have hi182 : 0 ≤ r15m := by first | assumption | omega
     have hi183 : r15m < (p0.f0.length : Int) := by first | assumption | omega
     obtain ⟨ad180, _, ha181, -, -⟩ := Rds.elemAny hp0q0.rds hi182 (gt_get (z := z61) hi182 hi183)
     refine WL.oq h17z rfl ?_
     refine owp_rn (.pointer (some (ad180.add (r15m.toNat * 6)))) h17z rfl (run_idx (ad := ad180) (sz := 6) rfl (by rw [← ha181]; rfl) rfl Try.underlying54 (by kernel_rfl) hi182 hi183) (fun a184 h185 => ?_)
     have hS186 := hS17v.b1
     obtain ⟨ad187, cs188, ha189, hr18b, hc18a⟩ := Rds.elemAny hp0q0.rds hi182 (gt_get (z := z61) hi182 hi183)
     rw [ha181] at ha189; obtain rfl := Option.some.inj ha189
     obtain rfl := k61qrd hr18b
     refine WL.oq h185 rfl ?_
     refine owp_rn (.agg #[.int .u32 ((gt z61 p0.f0 r15m).f0), .string (mkS ((gt z61 p0.f0 r15m).f1)), .bool ((gt z61 p0.f0 r15m).f2), .bool ((gt z61 p0.f0 r15m).f3), i6 ((gt z61 p0.f0 r15m).f4.f0), .bool ((gt z61 p0.f0 r15m).f4.f1)]) h185 rfl (run_loadN rfl rfl Try.underlying61 rfl (cs := [.int .u32 ((gt z61 p0.f0 r15m).f0), .string (mkS ((gt z61 p0.f0 r15m).f1)), .bool ((gt z61 p0.f0 r15m).f2), .bool ((gt z61 p0.f0 r15m).f3), i6 ((gt z61 p0.f0 r15m).f4.f0), .bool ((gt z61 p0.f0 r15m).f4.f1)]) (by kernel_rfl) (hc18a _ (fun _ _ hk_ => (hS186).pool.kn hk_))) (fun a18c h18d => ?_)
     refine WL.oq h18d rfl ?_
     refine owp_nw (fun g_ => (pt g_)) (.cells ([.int .u32 0, .string (mkS []), .bool false, .bool false, i6 0, .bool false] : List Value).toArray 61 (0, 0)) h18d rfl hS186 (fun a18e W18g g18h h18f hS18i => ?_)
     refine WL.oq h18f rfl ?_
     refine owp_st 0 [.int .u32 ((gt z61 p0.f0 r15m).f0), .string (mkS ((gt z61 p0.f0 r15m).f1)), .bool ((gt z61 p0.f0 r15m).f2), .bool ((gt z61 p0.f0 r15m).f3), i6 ((gt z61 p0.f0 r15m).f4.f0), .bool ((gt z61 p0.f0 r15m).f4.f1)] h18f rfl rfl rfl hS18i [.int .u32 ((gt z61 p0.f0 r15m).f0), .string (mkS ((gt z61 p0.f0 r15m).f1)), .bool ((gt z61 p0.f0 r15m).f2), .bool ((gt z61 p0.f0 r15m).f3), i6 ((gt z61 p0.f0 r15m).f4.f0), .bool ((gt z61 p0.f0 r15m).f4.f1)] (fun a18j W18l h18k hS18m => ?_)
     refine WL.dn ?_
     refine wp_seq ?_
     refine WL.start ?_
     refine WL.bl 1 1 h18k [(31, .pointer (some ⟨g18h, 1, none⟩))] (fun a18n h18o => ?_)
     refine WL.oq h18o rfl ?_
     refine owp_rn (.string (mkS ((gt z61 p0.f0 r15m).f1))) h18o rfl (run_load1 rfl rfl Try.underlying9 rfl (hS18m.cell (i := 1) rfl)) (fun a18p h18q => ?_)
     refine WL.bl 1 3 h18q [(33, .string (mkS p2))] (fun a18r h18s => ?_)
     clear h17f a17e h17u a17t h17x a17w h17z a17y h185 a184 h18d a18c h18f a18e h18k a18j h18o a18n h18q a18p
     by_cases c18t : ((gt z61 p0.f0 r15m).f1).length + p2.length ≤ 9223372036854775807
     ·rw [if_pos c18t] at H
      refine WL.oq h18s rfl ?_
      refine owp_rn (.string (mkS (((gt z61 p0.f0 r15m).f1) ++ p2))) h18s rfl (run_concat rfl rfl rfl (by assumption)) (fun a18u h18v => ?_)
      refine WL.bl 1 5 h18v [(35, .pointer (some ⟨g18h, 1, none⟩))] (fun a18w h18x => ?_)
      refine WL.oq h18x rfl ?_
      refine owp_st 1 [.string (mkS (((gt z61 p0.f0 r15m).f1) ++ p2))] h18x rfl rfl rfl hS18m [.int .u32 ((gt z61 p0.f0 r15m).f0), .string (mkS (((gt z61 p0.f0 r15m).f1) ++ p2)), .bool ((gt z61 p0.f0 r15m).f2), .bool ((gt z61 p0.f0 r15m).f3), i6 ((gt z61 p0.f0 r15m).f4.f0), .bool ((gt z61 p0.f0 r15m).f4.f1)] (fun a18y W190 h18z hS191 => ?_)
      refine WL.dn ?_
      refine wp_seq ?_
      refine WL.start ?_
      refine WL.bl 2 2 h18z [(37, .pointer (some ⟨g18h, 2, none⟩)), (36, .bool p3)] (fun a192 h193 => ?_)
      refine WL.oq h193 rfl ?_
      refine owp_st 2 [.bool p3] h193 rfl rfl rfl hS191 [.int .u32 ((gt z61 p0.f0 r15m).f0), .string (mkS (((gt z61 p0.f0 r15m).f1) ++ p2)), .bool p3, .bool ((gt z61 p0.f0 r15m).f3), i6 ((gt z61 p0.f0 r15m).f4.f0), .bool ((gt z61 p0.f0 r15m).f4.f1)] (fun a194 W196 h195 hS197 => ?_)
      refine WL.dn ?_
      refine wp_seq ?_
      refine WL.start ?_
      have hS198 := hS197.b2
      refine WL.oq h195 rfl ?_
      refine owp_rn (.agg #[.slice A0q0 p0.f0.length c0q0, i6 p0.f1, i6 p0.f2.f0, .bool p0.f2.f1]) h195 rfl (run_loadN rfl rfl Try.underlying56 rfl (cs := [.slice A0q0 p0.f0.length c0q0, i6 p0.f1, i6 p0.f2.f0, .bool p0.f2.f1]) (by kernel_rfl) (hS198.cells (vs := [.slice A0q0 p0.f0.length c0q0, i6 p0.f1, i6 p0.f2.f0, .bool p0.f2.f1]) rfl)) (fun a199 h19a => ?_)
      refine WL.bl 1 2 h19a [(39, i6 r15m)] (fun a19b h19c => ?_)
      have hS19d := hS198.b1
      refine WL.oq h19c rfl ?_
      refine owp_rn (.agg #[.int .u32 ((gt z61 p0.f0 r15m).f0), .string (mkS (((gt z61 p0.f0 r15m).f1) ++ p2)), .bool p3, .bool ((gt z61 p0.f0 r15m).f3), i6 ((gt z61 p0.f0 r15m).f4.f0), .bool ((gt z61 p0.f0 r15m).f4.f1)]) h19c rfl (run_loadN rfl rfl Try.underlying61 rfl (cs := [.int .u32 ((gt z61 p0.f0 r15m).f0), .string (mkS (((gt z61 p0.f0 r15m).f1) ++ p2)), .bool p3, .bool ((gt z61 p0.f0 r15m).f3), i6 ((gt z61 p0.f0 r15m).f4.f0), .bool ((gt z61 p0.f0 r15m).f4.f1)]) (by kernel_rfl) (hS19d.cells (vs := [.int .u32 ((gt z61 p0.f0 r15m).f0), .string (mkS (((gt z61 p0.f0 r15m).f1) ++ p2)), .bool p3, .bool ((gt z61 p0.f0 r15m).f3), i6 ((gt z61 p0.f0 r15m).f4.f0), .bool ((gt z61 p0.f0 r15m).f4.f1)]) rfl)) (fun a19e h19f => ?_)
      have hS19g := hS19d.b2
      obtain ⟨r19i, A19h, H⟩ := bind1 H
      refine WL.oq h19f rfl ?_
      refine owp_call [.agg #[.slice A0q0 p0.f0.length c0q0, i6 p0.f1, i6 p0.f2.f0, .bool p0.f2.f1], i6 r15m, .agg #[.int .u32 ((gt z61 p0.f0 r15m).f0), .string (mkS (((gt z61 p0.f0 r15m).f1) ++ p2)), .bool p3, .bool ((gt z61 p0.f0 r15m).f3), i6 ((gt z61 p0.f0 r15m).f4.f0), .bool ((gt z61 p0.f0 r15m).f4.f1)]] h19f rfl (by kernel_rfl) rfl Try.func52 (by kernel_rfl) rfl (by kernel_rfl) (louverref13qR_with.calls (p0 := (⟨p0.f0, p0.f1, (⟨p0.f2.f0, p0.f2.f1⟩ : S41)⟩ : S56)) (p2 := (⟨(gt z61 p0.f0 r15m).f0, ((gt z61 p0.f0 r15m).f1) ++ p2, p3, (gt z61 p0.f0 r15m).f3, (⟨(gt z61 p0.f0 r15m).f4.f0, (gt z61 p0.f0 r15m).f4.f1⟩ : S41)⟩ : S61)) hp0q0 A19h hS19g) (fun e19k W19j hp19l => ?_)
      obtain ⟨v19o, M19p, rfl, hr19q, hS19r⟩ := hp19l
      refine ⟨_, rfl, fun a19m h19n => ?_⟩
      obtain ⟨A19s, c19t, rfl⟩ := hr19q.form
      have hS19u := hS19r.b3
      refine WL.oq h19n rfl ?_
      refine owp_st 0 [.slice A19s r19i.f0.length c19t, i6 r19i.f1, i6 r19i.f2.f0, .bool r19i.f2.f1] h19n rfl rfl rfl hS19u [.slice A19s r19i.f0.length c19t, i6 r19i.f1, i6 r19i.f2.f0, .bool r19i.f2.f1] (fun a19v W19x h19w hS19y => ?_)
      refine WL.bl 1 6 h19w [(9, .bool true)] (fun a19z h1a0 => ?_)
      refine WL.dn ?_
      refine wp_ret ?_
      have hS1a1 := hS19y.drop_
      have hS1a2 := hS1a1.b1
      have hS1a3 := hS1a2.drop_
      have hS1a4 := hS1a3.b1
      have hS1a5 := hS1a4.drop_
      obtain ⟨rfl, rfl⟩ := ret2 H
      repeat (first | with_reducible refine t1 ?_ | with_reducible refine t2 ?_ | with_reducible refine t3 ?_)
      refine body_ret (v := .tuple #[.agg #[.slice A19s r19i.f0.length c19t, i6 r19i.f1, i6 r19i.f2.f0, .bool r19i.f2.f1], .bool true]) h1a0 (by kernel_rfl) (res_many (xs := [ResultVar.cell 8 56, ResultVar.tmp 9]) rfl ⟨⟨_, rfl, loadVarN Try.underlying56 rfl (cs := [.slice A19s r19i.f0.length c19t, i6 r19i.f1, i6 r19i.f2.f0, .bool r19i.f2.f1]) (by kernel_rfl) (hS19y.cells (vs := [.slice A19s r19i.f0.length c19t, i6 r19i.f1, i6 r19i.f2.f0, .bool r19i.f2.f1]) rfl)⟩, rfl, trivial⟩ rfl) ?_
      exact ⟨.slice A19s r19i.f0.length c19t, M19p, rfl, hr19q, hS1a5⟩
     ·rw [if_neg c18t] at H
      cases H
   ·rw [if_neg c16x] at H
    cases H
  ·rw [if_neg c16w] at H
   cases H

/-! ### (louver/louverref13.R).Can -/
def louverref13qR_Can.f (p0 : S56) (p1 : S61) : Option (Bool) := if p1.f1 = ([] : List UInt8) then (if p1.f2 = true then (some (!p1.f3)) else (some false)) else (if p1.f4.f0 > 0 then (some (decide (p0.f2.f0 > 0))) else (some false))
set_option maxHeartbeats 20000000 in
set_option maxRecDepth 100000 in
theorem louverref13qR_Can.calls {b : Nat} {w0 W : World} {R : Frag} {Fs : List Frag} {p0 : S56} {p1 : S61} {v0q0 : Value} {r0q : Bool} (hp0q0 : Rds k61 b w0 R v0q0 p0.f0) (H : louverref13qR_Can.f p0 p1 = some r0q) (hS : St b w0 W R (Fs)) :
  Calls Try.prog 23 ([.agg #[v0q0, i6 p0.f1, i6 p0.f2.f0, .bool p0.f2.f1], .agg #[.int .u32 p1.f0, .string (mkS p1.f1), .bool p1.f2, .bool p1.f3, i6 p1.f4.f0, .bool p1.f4.f1]] : List Value).toArray W (fun e W' => e = .returned (.bool r0q) ∧ St b w0 W' R (Fs)) := by
 obtain ⟨A0q0, c0q0, rfl⟩ := hp0q0.form
 unfold louverref13qR_Can.f at H
 refine calls_enter Try.func23 rfl 25 rfl (by kernel_rfl) (fun a h => ?_)
 refine wp_seq ?_
 refine WL.start ?_
 refine WL.oq h rfl ?_
 refine owp_nw (fun g_ => (pt g_)) (.cells ([.slice A0q0 p0.f0.length c0q0, i6 p0.f1, i6 p0.f2.f0, .bool p0.f2.f1] : List Value).toArray 56 (0, 0)) h rfl hS (fun a126 W128 g129 h127 hS12a => ?_)
 refine WL.oq h127 rfl ?_
 refine owp_nw (fun g_ => (pt g_)) (.cells ([.int .u32 p1.f0, .string (mkS p1.f1), .bool p1.f2, .bool p1.f3, i6 p1.f4.f0, .bool p1.f4.f1] : List Value).toArray 61 (0, 0)) h127 rfl hS12a (fun a12b W12d g12e h12c hS12f => ?_)
 refine WL.bl 1 3 h12c [(4, .bool false)] (fun a12g h12h => ?_)
 refine WL.dn ?_
 refine wp_seq ?_
 refine wp_seq ?_
 refine WL.start ?_
 refine WL.bl 1 1 h12h [(5, .pointer (some ⟨g12e, 1, none⟩))] (fun a12i h12j => ?_)
 refine WL.oq h12j rfl ?_
 refine owp_rn (.string (mkS p1.f1)) h12j rfl (run_load1 rfl rfl Try.underlying9 rfl (hS12f.cell (i := 1) rfl)) (fun a12k h12l => ?_)
 refine WL.oq h12l rfl ?_
 refine owp_rn (.bool (decide (p1.f1 = ([] : List UInt8)))) h12l rfl (run_streq rfl rfl rfl) (fun a12m h12n => ?_)
 refine WL.dn ?_
 clear h127 a126 h12c a12b h12h a12g h12j a12i h12l a12k
 by_cases c12o : p1.f1 = ([] : List UInt8)
 ·rw [if_pos c12o] at H
  have hb_ : (decide (p1.f1 = ([] : List UInt8))) = true := decide_eq_true c12o
  try rw [hb_] at h12n
  clear hb_
  refine wp_then h12n rfl ?_
  refine wp_seq ?_
  refine WL.start ?_
  refine WL.bl 1 1 h12n [(8, .pointer (some ⟨g12e, 2, none⟩))] (fun a12p h12q => ?_)
  refine WL.oq h12q rfl ?_
  refine owp_rn (.bool p1.f2) h12q rfl (run_load1 rfl rfl Try.underlying4 rfl (hS12f.cell (i := 2) rfl)) (fun a12r h12s => ?_)
  refine WL.bl 1 3 h12s [(10, .bool p1.f2)] (fun a12t h12u => ?_)
  clear h12n a12m h12q a12p h12s a12r
  by_cases c12v : p1.f2 = true
  ·rw [if_pos c12v] at H
   have hb_ : p1.f2 = true := c12v
   try rw [hb_] at h12u
   clear hb_
   refine WL.oq h12u rfl (owp_rk (.pointer (some ⟨g12e, 3, none⟩)) h12u rfl (fun a12w h12x => ?_))
   refine WL.oq h12x rfl ?_
   refine owp_rn (.bool p1.f3) h12x rfl (run_load1 rfl rfl Try.underlying4 rfl (hS12f.cell (i := 3) rfl)) (fun a12y h12z => ?_)
   refine WL.oq h12z rfl (owp_rk (.bool (!p1.f3)) h12z rfl (fun a130 h131 => ?_))
   refine WL.bl 2 8 h131 [(4, .bool (!p1.f3)), (14, .bool (!p1.f3))] (fun a132 h133 => ?_)
   refine WL.dn ?_
   refine wp_ret ?_
   have hS134 := hS12f.drop_
   have hS135 := hS134.drop_
   obtain rfl := Option.some.inj H
   repeat (first | with_reducible refine t1 ?_ | with_reducible refine t2 ?_ | with_reducible refine t3 ?_)
   refine bret (.bool (!p1.f3)) h133 ?_
   exact ⟨rfl, hS135⟩
  ·rw [if_neg c12v] at H
   have hb_ : p1.f2 = false := (Bool.eq_false_iff.2 c12v)
   try rw [hb_] at h12u
   clear hb_
   refine WL.sk h12u rfl rfl (fun a136 h137 => ?_)
   refine WL.sk h137 rfl rfl (fun a138 h139 => ?_)
   refine WL.sk h139 rfl rfl (fun a13a h13b => ?_)
   refine WL.bl 2 8 h13b [(4, .bool false), (14, .bool false)] (fun a13c h13d => ?_)
   refine WL.dn ?_
   refine wp_ret ?_
   have hS13e := hS12f.drop_
   have hS13f := hS13e.drop_
   obtain rfl := Option.some.inj H
   repeat (first | with_reducible refine t1 ?_ | with_reducible refine t2 ?_ | with_reducible refine t3 ?_)
   refine bret (.bool false) h13d ?_
   exact ⟨rfl, hS13f⟩
 ·rw [if_neg c12o] at H
  have hb_ : (decide (p1.f1 = ([] : List UInt8))) = false := decide_eq_false c12o
  try rw [hb_] at h12n
  clear hb_
  refine wp_else h12n rfl ?_
  refine wp_skip ?_
  refine wp_seq ?_
  refine WL.start ?_
  refine WL.bl 2 2 h12n [(16, .pointer (some ⟨g12e, 4, none⟩)), (15, .pointer (some ⟨g12e, 4, none⟩))] (fun a13g h13h => ?_)
  refine WL.oq h13h rfl ?_
  refine owp_rn (i6 p1.f4.f0) h13h rfl (run_load1 rfl rfl Try.underlying2 rfl (hS12f.cell (i := 4) rfl)) (fun a13i h13j => ?_)
  refine WL.bl 2 5 h13j [(19, .bool (decide (p1.f4.f0 > 0))), (18, .bool (decide (p1.f4.f0 > 0)))] (fun a13k h13l => ?_)
  clear h12n a12m h13h a13g h13j a13i
  by_cases c13m : p1.f4.f0 > 0
  ·rw [if_pos c13m] at H
   have hb_ : (decide (p1.f4.f0 > 0)) = true := decide_eq_true c13m
   try rw [hb_] at h13l
   clear hb_
   refine WL.oq h13l rfl (owp_rk (.pointer (some ⟨g129, 2, none⟩)) h13l rfl (fun a13n h13o => ?_))
   refine WL.oq h13o rfl (owp_rk (.pointer (some ⟨g129, 2, none⟩)) h13o rfl (fun a13p h13q => ?_))
   have hS13r := hS12f.b1
   refine WL.oq h13q rfl ?_
   refine owp_rn (i6 p0.f2.f0) h13q rfl (run_load1 rfl rfl Try.underlying2 rfl (hS13r.cell (i := 2) rfl)) (fun a13s h13t => ?_)
   refine WL.oq h13t rfl (owp_rk (.bool (decide (p0.f2.f0 > 0))) h13t rfl (fun a13u h13v => ?_))
   refine WL.bl 2 11 h13v [(4, .bool (decide (p0.f2.f0 > 0))), (24, .bool (decide (p0.f2.f0 > 0)))] (fun a13w h13x => ?_)
   refine WL.dn ?_
   refine wp_ret ?_
   have hS13y := hS13r.drop_
   have hS13z := hS13y.drop_
   obtain rfl := Option.some.inj H
   repeat (first | with_reducible refine t1 ?_ | with_reducible refine t2 ?_ | with_reducible refine t3 ?_)
   refine bret (.bool (decide (p0.f2.f0 > 0))) h13x ?_
   exact ⟨rfl, hS13z⟩
  ·rw [if_neg c13m] at H
   have hb_ : (decide (p1.f4.f0 > 0)) = false := decide_eq_false c13m
   try rw [hb_] at h13l
   clear hb_
   refine WL.sk h13l rfl rfl (fun a140 h141 => ?_)
   refine WL.sk h141 rfl rfl (fun a142 h143 => ?_)
   refine WL.sk h143 rfl rfl (fun a144 h145 => ?_)
   refine WL.sk h145 rfl rfl (fun a146 h147 => ?_)
   refine WL.bl 2 11 h147 [(4, .bool false), (24, .bool false)] (fun a148 h149 => ?_)
   refine WL.dn ?_
   refine wp_ret ?_
   have hS14a := hS12f.drop_
   have hS14b := hS14a.drop_
   obtain rfl := Option.some.inj H
   repeat (first | with_reducible refine t1 ?_ | with_reducible refine t2 ?_ | with_reducible refine t3 ?_)
   refine bret (.bool false) h149 ?_
   exact ⟨rfl, hS14b⟩

/-! ### (louver/louverref13.R).turned -/
def louverref13qR_turned.f (p0 : S56) (p1 : Int) : Option (S56) := if (p0.f0.length : Int) = 0 then (some (⟨p0.f0, p0.f1, (⟨p0.f2.f0, p0.f2.f1⟩ : S41)⟩ : S56)) else (if ¬ ((p0.f0.length : Int) = 0) then (if 0 ≤ (Int.tmod p1 (p0.f0.length : Int)) then (if (Int.tmod p1 (p0.f0.length : Int)) ≤ (p0.f0.length : Int) then (if ([] : List S61).length + (p0.f0.drop (Int.tmod p1 (p0.f0.length : Int)).toNat).length ≤ 2932031007402 then (lt1 (([] : List S61) ++ (p0.f0.drop (Int.tmod p1 (p0.f0.length : Int)).toNat) : List S61) fun y163 => (if y163.length + (p0.f0.take (Int.tmod p1 (p0.f0.length : Int)).toNat).length ≤ 2932031007402 then (lt1 (y163 ++ (p0.f0.take (Int.tmod p1 (p0.f0.length : Int)).toNat) : List S61) fun y16y => (if ¬ ((y16y.length : Int) = 0) then (some (⟨y16y, Int.tmod (IntKind.i64.wrap (p0.f1 + (Int.tmod p1 (p0.f0.length : Int)))) (y16y.length : Int), (⟨p0.f2.f0, p0.f2.f1⟩ : S41)⟩ : S56)) else (none))) else (none))) else (none)) else (none)) else (none)) else (none))
set_option maxHeartbeats 20000000 in
set_option maxRecDepth 100000 in
theorem louverref13qR_turned.calls {b : Nat} {w0 W : World} {R : Frag} {Fs : List Frag} {p0 : S56} {p1 : Int} {v0q0 : Value} {M0q0 : Frag} {r0q : S56} (hp0q0 : Row k61 61 b w0 R v0q0 p0.f0 M0q0) (H : louverref13qR_turned.f p0 p1 = some r0q) (hS : St b w0 W R (M0q0 :: Fs)) :
  Calls Try.prog 53 ([.agg #[v0q0, i6 p0.f1, i6 p0.f2.f0, .bool p0.f2.f1], i6 p1] : List Value).toArray W (fun e W' => ∃ (u0qv0qf0 : Value) (Nu0qv0qf0 : Frag), e = .returned (.agg #[u0qv0qf0, i6 r0q.f1, i6 r0q.f2.f0, .bool r0q.f2.f1]) ∧ Row k61 61 b w0 R u0qv0qf0 r0q.f0 Nu0qv0qf0 ∧ St b w0 W' R (Nu0qv0qf0 :: Fs)) := by
 obtain ⟨A0q0, c0q0, rfl⟩ := hp0q0.form
 unfold louverref13qR_turned.f at H
 refine calls_enter Try.func53 rfl 41 rfl (by kernel_rfl) (fun a h => ?_)
 refine wp_seq ?_
 refine WL.start ?_
 refine WL.oq h rfl ?_
 refine owp_nw (fun g_ => (pt g_)) (.cells ([.slice A0q0 p0.f0.length c0q0, i6 p0.f1, i6 p0.f2.f0, .bool p0.f2.f1] : List Value).toArray 56 (0, 0)) h rfl hS (fun a143 W145 g146 h144 hS147 => ?_)
 refine WL.oq h144 rfl ?_
 refine owp_nw (fun g_ => (pt g_)) (.cells ([.slice none 0 0, i6 0, i6 0, .bool false] : List Value).toArray 56 (0, 0)) h144 rfl hS147 (fun a148 W14a g14b h149 hS14c => ?_)
 refine WL.dn ?_
 refine wp_seq ?_
 refine wp_seq ?_
 refine WL.start ?_
 refine WL.bl 1 1 h149 [(6, pt g146)] (fun a14d h14e => ?_)
 have hS14f := hS14c.b1
 refine WL.oq h14e rfl ?_
 refine owp_rn (.slice A0q0 p0.f0.length c0q0) h14e rfl (run_load1 rfl rfl Try.underlying54 rfl (hS14f.cell (i := 0) rfl)) (fun a14g h14h => ?_)
 refine WL.bl 2 4 h14h [(9, .bool (decide ((p0.f0.length : Int) = 0))), (8, i6 (p0.f0.length : Int))] (fun a14i h14j => ?_)
 refine WL.dn ?_
 clear h144 a143 h149 a148 h14e a14d h14h a14g
 by_cases c14k : (p0.f0.length : Int) = 0
 ·rw [if_pos c14k] at H
  have hb_ : (decide ((p0.f0.length : Int) = 0)) = true := decide_eq_true c14k
  try rw [hb_] at h14j
  clear hb_
  refine wp_then h14j rfl ?_
  refine wp_seq ?_
  refine WL.start ?_
  refine WL.oq h14j rfl ?_
  refine owp_rn (.agg #[.slice A0q0 p0.f0.length c0q0, i6 p0.f1, i6 p0.f2.f0, .bool p0.f2.f1]) h14j rfl (run_loadN rfl rfl Try.underlying56 rfl (cs := [.slice A0q0 p0.f0.length c0q0, i6 p0.f1, i6 p0.f2.f0, .bool p0.f2.f1]) (by kernel_rfl) (hS14f.cells (vs := [.slice A0q0 p0.f0.length c0q0, i6 p0.f1, i6 p0.f2.f0, .bool p0.f2.f1]) rfl)) (fun a14l h14m => ?_)
  have hS14n := hS14f.b1
  refine WL.oq h14m rfl ?_
  refine owp_st 0 [.slice A0q0 p0.f0.length c0q0, i6 p0.f1, i6 p0.f2.f0, .bool p0.f2.f1] h14m rfl rfl rfl hS14n [.slice A0q0 p0.f0.length c0q0, i6 p0.f1, i6 p0.f2.f0, .bool p0.f2.f1] (fun a14o W14q h14p hS14r => ?_)
  refine WL.dn ?_
  refine wp_ret ?_
  have hS14s := hS14r.drop_
  have hS14t := hS14s.drop_
  obtain rfl := Option.some.inj H
  repeat (first | with_reducible refine t1 ?_ | with_reducible refine t2 ?_ | with_reducible refine t3 ?_)
  refine body_ret (v := .agg #[.slice A0q0 p0.f0.length c0q0, i6 p0.f1, i6 p0.f2.f0, .bool p0.f2.f1]) h14p (by kernel_rfl) (res_one rfl ⟨_, rfl, loadVarN Try.underlying56 rfl (cs := [.slice A0q0 p0.f0.length c0q0, i6 p0.f1, i6 p0.f2.f0, .bool p0.f2.f1]) (by kernel_rfl) (hS14r.cells (vs := [.slice A0q0 p0.f0.length c0q0, i6 p0.f1, i6 p0.f2.f0, .bool p0.f2.f1]) rfl)⟩) ?_
  exact ⟨.slice A0q0 p0.f0.length c0q0, M0q0, rfl, hp0q0, hS14t⟩
 ·rw [if_neg c14k] at H
  have hb_ : (decide ((p0.f0.length : Int) = 0)) = false := decide_eq_false c14k
  try rw [hb_] at h14j
  clear hb_
  refine wp_else h14j rfl ?_
  refine wp_skip ?_
  refine wp_seq ?_
  refine WL.start ?_
  refine WL.bl 2 2 h14j [(12, pt g146), (11, i6 p1)] (fun a14u h14v => ?_)
  refine WL.oq h14v rfl ?_
  refine owp_rn (.slice A0q0 p0.f0.length c0q0) h14v rfl (run_load1 rfl rfl Try.underlying54 rfl (hS14f.cell (i := 0) rfl)) (fun a14w h14x => ?_)
  refine WL.bl 1 4 h14x [(14, i6 (p0.f0.length : Int))] (fun a14y h14z => ?_)
  clear h14j a14i h14v a14u h14x a14w
  by_cases c150 : ¬ ((p0.f0.length : Int) = 0)
  ·rw [if_pos c150] at H
   refine WL.oq h14z rfl ?_
   refine owp_rn (i6 (Int.tmod p1 (p0.f0.length : Int))) h14z rfl (run_rem rfl rfl rfl (by assumption)) (fun a151 h152 => ?_)
   refine WL.bl 1 6 h152 [(1, i6 (Int.tmod p1 (p0.f0.length : Int)))] (fun a153 h154 => ?_)
   refine WL.dn ?_
   refine wp_seq ?_
   refine WL.start ?_
   refine WL.oq h154 rfl ?_
   refine owp_nw (fun g_ => .slice (some ⟨g_, 0, none⟩) 0 0) (.cells ([] : List Value).toArray 61 (0, 0)) h154 rfl hS14f (fun a155 W157 g158 h156 hS159 => ?_)
   have hr15a : Row k61 61 b w0 R (.slice (some ⟨g158, 0, none⟩) 0 0) ([] : List S61) (bx g158 61 []) := Row.lit (xs := ([] : List S61)) (Mi := []) ⟨rfl, rfl⟩ (by simp [maxLen])
   refine WL.bl 1 2 h156 [(5, .slice (some ⟨g158, 0, none⟩) 0 0)] (fun a15b h15c => ?_)
   refine WL.dn ?_
   refine wp_seq ?_
   refine WL.start ?_
   refine WL.bl 2 2 h15c [(18, pt g146), (17, .slice (some ⟨g158, 0, none⟩) 0 0)] (fun a15d h15e => ?_)
   have hS15f := hS159.b1
   refine WL.oq h15e rfl ?_
   refine owp_rn (.slice A0q0 p0.f0.length c0q0) h15e rfl (run_load1 rfl rfl Try.underlying54 rfl (hS15f.cell (i := 0) rfl)) (fun a15g h15h => ?_)
   refine WL.bl 1 4 h15h [(20, i6 (Int.tmod p1 (p0.f0.length : Int)))] (fun a15i h15j => ?_)
   clear h14z a14y h152 a151 h154 a153 h156 a155 h15c a15b h15e a15d h15h a15g
   by_cases c15k : 0 ≤ (Int.tmod p1 (p0.f0.length : Int))
   ·rw [if_pos c15k] at H
    by_cases c15l : (Int.tmod p1 (p0.f0.length : Int)) ≤ (p0.f0.length : Int)
    ·rw [if_pos c15l] at H
     refine WL.oq h15j rfl ?_
     refine owp_rn (sliced A0q0 (Int.tmod p1 (p0.f0.length : Int)).toNat (p0.f0.length : Int).toNat c0q0 6) h15j rfl (run_cut (l := Int.tmod p1 (p0.f0.length : Int)) (h := (p0.f0.length : Int)) rfl rfl Try.underlying54 (by kernel_rfl) ⟨_, rfl⟩ rfl (by first | assumption | omega) (by first | assumption | omega) (by have q_ := Rds.cap hp0q0.rds; omega) (by have q_ := Rds.cap hp0q0.rds; omega)) (fun a15n h15o => ?_)
     have hx15m := Rds.cut hp0q0.rds (l := (Int.tmod p1 (p0.f0.length : Int)).toNat) (h := (p0.f0.length : Int).toNat) (by omega) (by omega)
     obtain ⟨v15p, ev15q⟩ : ∃ y_, y_ = sliced A0q0 (Int.tmod p1 (p0.f0.length : Int)).toNat (p0.f0.length : Int).toNat c0q0 6 := ⟨_, rfl⟩
     have hx_ : Rds k61 b w0 (M0q0 ++ R) v15p (p0.f0.drop (Int.tmod p1 (p0.f0.length : Int)).toNat) := hx15m.as_ ev15q.symm (by simp)
     rw [← ev15q] at h15o; clear hx15m
     have hx15m := hx_; clear hx_
     obtain ⟨A15r, c15s, rfl⟩ := hx15m.form
     clear h15j a15i
     by_cases c15t : ([] : List S61).length + (p0.f0.drop (Int.tmod p1 (p0.f0.length : Int)).toNat).length ≤ 2932031007402
     ·rw [if_pos c15t] at H
      have hS15u := hS15f.b3
      have hS15v := hS15u.b2
      refine WL.oq h15o rfl ?_
      refine owp_app_rds (z := .agg #[.int .u32 0, .string (mkS []), .bool false, .bool false, i6 0, .bool false]) (bytes := 48) (dk := k61) h15o rfl (by kernel_rfl) rfl rfl rfl k61qflat (Row.mono (up (M := M0q0)) hr15a) hx15m (hS15v.bring 1 rfl rfl).pool Try.underlying54 (by kernel_rfl) rfl (by decide) (by decide) (by first | omega | (simp only [List.length_cons, List.length_nil] at *; omega)) (fun a15w W15y v15z M160 h15x hr161 hS162 => ?_)
      replace hr161 := Row.ind (R' := R) k61qind hr161
      replace hS162 := hS162.unpool.bring 1 rfl rfl
      obtain ⟨y163, hy164, H⟩ := lete H
      have hr165 : Row k61 61 b w0 R v15z y163 M160 := by rw [hy164]; exact hr161
      clear hr161
      obtain ⟨A166, c167, rfl⟩ := hr165.form
      refine WL.bl 1 7 h15x [(5, .slice A166 y163.length c167)] (fun a168 h169 => ?_)
      refine WL.dn ?_
      refine wp_seq ?_
      refine WL.start ?_
      refine WL.bl 2 2 h169 [(24, pt g146), (23, .slice A166 y163.length c167)] (fun a16a h16b => ?_)
      have hS16c := hS162.b2
      refine WL.oq h16b rfl ?_
      refine owp_rn (.slice A0q0 p0.f0.length c0q0) h16b rfl (run_load1 rfl rfl Try.underlying54 rfl (hS16c.cell (i := 0) rfl)) (fun a16d h16e => ?_)
      refine WL.bl 1 4 h16e [(26, i6 (Int.tmod p1 (p0.f0.length : Int)))] (fun a16f h16g => ?_)
      refine WL.oq h16g rfl ?_
      refine owp_rn (sliced A0q0 (0 : Int).toNat (Int.tmod p1 (p0.f0.length : Int)).toNat c0q0 6) h16g rfl (run_cut (l := 0) (h := Int.tmod p1 (p0.f0.length : Int)) rfl rfl Try.underlying54 (by kernel_rfl) rfl ⟨_, rfl⟩ (by first | assumption | omega) (by first | assumption | omega) (by have q_ := Rds.cap hp0q0.rds; omega) (by have q_ := Rds.cap hp0q0.rds; omega)) (fun a16i h16j => ?_)
      have hx16h := Rds.cut hp0q0.rds (l := (0 : Int).toNat) (h := (Int.tmod p1 (p0.f0.length : Int)).toNat) (by omega) (by omega)
      obtain ⟨v16k, ev16l⟩ : ∃ y_, y_ = sliced A0q0 (0 : Int).toNat (Int.tmod p1 (p0.f0.length : Int)).toNat c0q0 6 := ⟨_, rfl⟩
      have hx_ : Rds k61 b w0 (M0q0 ++ R) v16k (p0.f0.take (Int.tmod p1 (p0.f0.length : Int)).toNat) := hx16h.as_ ev16l.symm (by simp)
      rw [← ev16l] at h16j; clear hx16h
      have hx16h := hx_; clear hx_
      obtain ⟨A16m, c16n, rfl⟩ := hx16h.form
      clear h15o a15n h15x a15w h169 a168 h16b a16a h16e a16d h16g a16f
      by_cases c16o : y163.length + (p0.f0.take (Int.tmod p1 (p0.f0.length : Int)).toNat).length ≤ 2932031007402
      ·rw [if_pos c16o] at H
       have hS16p := hS16c.b2
       have hS16q := hS16p.b2
       refine WL.oq h16j rfl ?_
       refine owp_app_rds (z := .agg #[.int .u32 0, .string (mkS []), .bool false, .bool false, i6 0, .bool false]) (bytes := 48) (dk := k61) h16j rfl (by kernel_rfl) rfl rfl rfl k61qflat (Row.mono (up (M := M0q0)) hr165) hx16h (hS16q.bring 1 rfl rfl).pool Try.underlying54 (by kernel_rfl) rfl (by decide) (by decide) (by first | omega | (simp only [List.length_cons, List.length_nil] at *; omega)) (fun a16r W16t v16u M16v h16s hr16w hS16x => ?_)
       replace hr16w := Row.ind (R' := R) k61qind hr16w
       replace hS16x := hS16x.unpool.bring 1 rfl rfl
       obtain ⟨y16y, hy16z, H⟩ := lete H
       have hr170 : Row k61 61 b w0 R v16u y16y M16v := by rw [hy16z]; exact hr16w
       clear hr16w
       obtain ⟨A171, c172, rfl⟩ := hr170.form
       refine WL.bl 1 7 h16s [(5, .slice A171 y16y.length c172)] (fun a173 h174 => ?_)
       refine WL.dn ?_
       refine wp_seq ?_
       refine WL.start ?_
       refine WL.bl 2 2 h174 [(30, pt g146), (29, .slice A171 y16y.length c172)] (fun a175 h176 => ?_)
       have hS177 := hS16x.b2
       refine WL.oq h176 rfl ?_
       refine owp_st 0 [.slice A171 y16y.length c172] h176 rfl rfl rfl hS177 [.slice A171 y16y.length c172, i6 p0.f1, i6 p0.f2.f0, .bool p0.f2.f1] (fun a178 W17a h179 hS17b => ?_)
       refine WL.dn ?_
       refine wp_seq ?_
       refine WL.start ?_
       refine WL.bl 1 1 h179 [(31, .pointer (some ⟨g146, 1, none⟩))] (fun a17c h17d => ?_)
       refine WL.oq h17d rfl ?_
       refine owp_rn (i6 p0.f1) h17d rfl (run_load1 rfl rfl Try.underlying3 rfl (hS17b.cell (i := 1) rfl)) (fun a17e h17f => ?_)
       refine WL.bl 3 5 h17f [(35, pt g146), (34, i6 (IntKind.i64.wrap (p0.f1 + (Int.tmod p1 (p0.f0.length : Int))))), (33, i6 (Int.tmod p1 (p0.f0.length : Int)))] (fun a17g h17h => ?_)
       refine WL.oq h17h rfl ?_
       refine owp_rn (.slice A171 y16y.length c172) h17h rfl (run_load1 rfl rfl Try.underlying54 rfl (hS17b.cell (i := 0) rfl)) (fun a17i h17j => ?_)
       refine WL.bl 1 7 h17j [(37, i6 (y16y.length : Int))] (fun a17k h17l => ?_)
       clear h16j a16i h16s a16r h174 a173 h176 a175 h179 a178 h17d a17c h17f a17e h17h a17g h17j a17i
       by_cases c17m : ¬ ((y16y.length : Int) = 0)
       ·rw [if_pos c17m] at H
        refine WL.oq h17l rfl ?_
        refine owp_rn (i6 (Int.tmod (IntKind.i64.wrap (p0.f1 + (Int.tmod p1 (p0.f0.length : Int)))) (y16y.length : Int))) h17l rfl (run_rem rfl rfl rfl (by assumption)) (fun a17n h17o => ?_)
        refine WL.bl 1 9 h17o [(39, .pointer (some ⟨g146, 1, none⟩))] (fun a17p h17q => ?_)
        refine WL.oq h17q rfl ?_
        refine owp_st 1 [i6 (Int.tmod (IntKind.i64.wrap (p0.f1 + (Int.tmod p1 (p0.f0.length : Int)))) (y16y.length : Int))] h17q rfl rfl rfl hS17b [.slice A171 y16y.length c172, i6 (Int.tmod (IntKind.i64.wrap (p0.f1 + (Int.tmod p1 (p0.f0.length : Int)))) (y16y.length : Int)), i6 p0.f2.f0, .bool p0.f2.f1] (fun a17r W17t h17s hS17u => ?_)
        refine WL.dn ?_
        refine wp_seq ?_
        refine WL.start ?_
        refine WL.oq h17s rfl ?_
        refine owp_rn (.agg #[.slice A171 y16y.length c172, i6 (Int.tmod (IntKind.i64.wrap (p0.f1 + (Int.tmod p1 (p0.f0.length : Int)))) (y16y.length : Int)), i6 p0.f2.f0, .bool p0.f2.f1]) h17s rfl (run_loadN rfl rfl Try.underlying56 rfl (cs := [.slice A171 y16y.length c172, i6 (Int.tmod (IntKind.i64.wrap (p0.f1 + (Int.tmod p1 (p0.f0.length : Int)))) (y16y.length : Int)), i6 p0.f2.f0, .bool p0.f2.f1]) (by kernel_rfl) (hS17u.cells (vs := [.slice A171 y16y.length c172, i6 (Int.tmod (IntKind.i64.wrap (p0.f1 + (Int.tmod p1 (p0.f0.length : Int)))) (y16y.length : Int)), i6 p0.f2.f0, .bool p0.f2.f1]) rfl)) (fun a17v h17w => ?_)
        have hS17x := hS17u.b3
        refine WL.oq h17w rfl ?_
        refine owp_st 0 [.slice A171 y16y.length c172, i6 (Int.tmod (IntKind.i64.wrap (p0.f1 + (Int.tmod p1 (p0.f0.length : Int)))) (y16y.length : Int)), i6 p0.f2.f0, .bool p0.f2.f1] h17w rfl rfl rfl hS17x [.slice A171 y16y.length c172, i6 (Int.tmod (IntKind.i64.wrap (p0.f1 + (Int.tmod p1 (p0.f0.length : Int)))) (y16y.length : Int)), i6 p0.f2.f0, .bool p0.f2.f1] (fun a17y W180 h17z hS181 => ?_)
        refine WL.dn ?_
        refine wp_ret ?_
        have hS182 := hS181.drop_
        have hS183 := hS182.drop_
        have hS184 := hS183.b1
        have hS185 := hS184.drop_
        obtain rfl := Option.some.inj H
        repeat (first | with_reducible refine t1 ?_ | with_reducible refine t2 ?_ | with_reducible refine t3 ?_)
        refine body_ret (v := .agg #[.slice A171 y16y.length c172, i6 (Int.tmod (IntKind.i64.wrap (p0.f1 + (Int.tmod p1 (p0.f0.length : Int)))) (y16y.length : Int)), i6 p0.f2.f0, .bool p0.f2.f1]) h17z (by kernel_rfl) (res_one rfl ⟨_, rfl, loadVarN Try.underlying56 rfl (cs := [.slice A171 y16y.length c172, i6 (Int.tmod (IntKind.i64.wrap (p0.f1 + (Int.tmod p1 (p0.f0.length : Int)))) (y16y.length : Int)), i6 p0.f2.f0, .bool p0.f2.f1]) (by kernel_rfl) (hS181.cells (vs := [.slice A171 y16y.length c172, i6 (Int.tmod (IntKind.i64.wrap (p0.f1 + (Int.tmod p1 (p0.f0.length : Int)))) (y16y.length : Int)), i6 p0.f2.f0, .bool p0.f2.f1]) rfl)⟩) ?_
        exact ⟨.slice A171 y16y.length c172, M16v, rfl, hr170, hS185⟩
       ·rw [if_neg c17m] at H
        cases H
      ·rw [if_neg c16o] at H
       cases H
     ·rw [if_neg c15t] at H
      cases H
    ·rw [if_neg c15l] at H
     cases H
   ·rw [if_neg c15k] at H
    cases H
  ·rw [if_neg c150] at H
   cases H

theorem k56qop {b : Nat} {w0 W : World} {R : Frag} {Ms : List Frag} {v : Value} {M : Frag} {y0 : (List S61)} {y1 : Int} {y2 : Int} {y3 : Bool} (h : Ptr k56 56 b w0 R v (⟨y0, y1, (⟨y2, y3⟩ : S41)⟩ : S56) M) (hS : St b w0 W R (M :: Ms)) : ∃ (g : Nat) (A0 : Option Addr) (c0 : Nat) (M0 : Frag), v = (pt g) ∧ Row k61 61 b w0 R (.slice A0 y0.length c0) y0 M0 ∧ St b w0 W R ((bx g 56 [.slice A0 y0.length c0, i6 y1, i6 y2, .bool y3]) :: M0 :: Ms) := by
 obtain ⟨g, cs, Mx, rfl, rfl, hr⟩ := h
 obtain ⟨v0, M0, rfl, hM2q, h0⟩ := k56qrep hr
 rw [hM2q] at hS
 obtain ⟨A0, c0, rfl⟩ := h0.form
 exact ⟨g, A0, c0, M0, rfl, h0, hS.assoc (by simp only [List.flatten_cons, List.append_assoc, List.cons_append, List.nil_append, List.append_nil])⟩
theorem k56qoq {b : Nat} {w0 W : World} {R : Frag} {Ms : List Frag} {g : Nat} {M : Frag} {y0 : (List S61)} {y1 : Int} {y2 : Int} {y3 : Bool} (h : Ptr k56 56 b w0 R (pt g) (⟨y0, y1, (⟨y2, y3⟩ : S41)⟩ : S56) M) (hS : St b w0 W R (M :: Ms)) : ∃ (A0 : Option Addr) (c0 : Nat) (M0 : Frag), Row k61 61 b w0 R (.slice A0 y0.length c0) y0 M0 ∧ St b w0 W R ((bx g 56 [.slice A0 y0.length c0, i6 y1, i6 y2, .bool y3]) :: M0 :: Ms) := by
 obtain ⟨g', A0, c0, M0, hv, h0, hS'⟩ := k56qop h hS
 obtain rfl : g = g' := by simpa using hv
 exact ⟨A0, c0, M0, h0, hS'⟩
theorem k56qfo {b : Nat} {w0 W : World} {R : Frag} {Ms : List Frag} {g : Nat} {y0 : (List S61)} {y1 : Int} {y2 : Int} {y3 : Bool} {A0 : Option Addr} {c0 : Nat} {M0 : Frag} (x : S56) (h0 : Row k61 61 b w0 R (.slice A0 y0.length c0) y0 M0) (hS : St b w0 W R ((bx g 56 [.slice A0 y0.length c0, i6 y1, i6 y2, .bool y3]) :: M0 :: Ms)) (hx : x = (⟨y0, y1, (⟨y2, y3⟩ : S41)⟩ : S56) := by rfl) : ∃ M, Ptr k56 56 b w0 R (pt g) x M ∧ St b w0 W R (M :: Ms) := by
 subst hx
 obtain ⟨M, hr, hM⟩ := k56qmk (b := b) (w0 := w0) (R := R) (x := (⟨y0, y1, (⟨y2, y3⟩ : S41)⟩ : S56)) (gvf0 := h0)
 exact ⟨_, ⟨g, _, M, rfl, rfl, hr⟩, hS.assoc (by rw [hM] <;> simp only [List.flatten_cons, List.append_assoc, List.cons_append, List.nil_append, List.append_nil])⟩
/-! ### (louver/louverref13.R).Next -/
mutual
def louverref13qR_Next.l0 : Nat → S56 → S56 → Int → S56 → Int → Option (S56 × Int × (List UInt8) × Bool × Bool)
 | 0, _, _, _, _, _ => none
 | k + 1, x21g, x21j, x21m, p0, p1 => if x21m < (p0.f0.length : Int) then (if 0 ≤ x21m then (if x21m < (x21g.f0.length : Int) then (bnd1 (louverref13qR_Can.f (⟨x21g.f0, x21g.f1, (⟨x21g.f2.f0, x21g.f2.f1⟩ : S41)⟩ : S56) (⟨(gt z61 x21g.f0 x21m).f0, (gt z61 x21g.f0 x21m).f1, (gt z61 x21g.f0 x21m).f2, (gt z61 x21g.f0 x21m).f3, (⟨(gt z61 x21g.f0 x21m).f4.f0, (gt z61 x21g.f0 x21m).f4.f1⟩ : S41)⟩ : S61)) fun r23c => (if r23c = true then (if (((gt z61 x21g.f0 x21m).f1).length : Int) > 0 then (louverref13qR_Next.j1 k (mnI (mnI (mnI (((gt z61 x21g.f0 x21m).f1).length : Int) (mxI 1 p1)) ((gt z61 x21g.f0 x21m).f4.f0)) x21g.f2.f0) x21g x21m) else (louverref13qR_Next.j1 k (((gt z61 x21g.f0 x21m).f1).length : Int) x21g x21m)) else (louverref13qR_Next.l0 k x21g x21j (IntKind.i64.wrap (x21m + 1)) p0 p1))) else (none)) else (none)) else (some ((⟨x21g.f0, x21g.f1, (⟨x21g.f2.f0, x21g.f2.f1⟩ : S41)⟩ : S56), 0, ([] : List UInt8), false, false))
def louverref13qR_Next.j1 : Nat → Int → S56 → Int → Option (S56 × Int × (List UInt8) × Bool × Bool)
 | 0, _, _, _ => none
 | k + 1, x24f, x21g, x21m => if 0 ≤ x24f then (if x24f ≤ (((gt z61 x21g.f0 x21m).f1).length : Int) then (if (gt z61 x21g.f0 x21m).f2 = true then (bnd1 (louverref13qR_with.f (⟨x21g.f0, x21g.f1, (⟨IntKind.i64.wrap (x21g.f2.f0 - x24f), x21g.f2.f1⟩ : S41)⟩ : S56) x21m (⟨(gt z61 x21g.f0 x21m).f0, ((gt z61 x21g.f0 x21m).f1).drop x24f.toNat, (gt z61 x21g.f0 x21m).f2, decide ((((gt z61 x21g.f0 x21m).f1).drop x24f.toNat) = ([] : List UInt8)), (⟨IntKind.i64.wrap (((gt z61 x21g.f0 x21m).f4.f0) - x24f), (gt z61 x21g.f0 x21m).f4.f1⟩ : S41)⟩ : S61)) fun r276 => (bnd1 (louverref13qR_turned.f (⟨r276.f0, r276.f1, (⟨r276.f2.f0, r276.f2.f1⟩ : S41)⟩ : S56) (IntKind.i64.wrap (x21m + 1))) fun r2bq => (some ((⟨r2bq.f0, r2bq.f1, (⟨r2bq.f2.f0, r2bq.f2.f1⟩ : S41)⟩ : S56), (gt z61 x21g.f0 x21m).f0, ((gt z61 x21g.f0 x21m).f1).take x24f.toNat, decide ((((gt z61 x21g.f0 x21m).f1).drop x24f.toNat) = ([] : List UInt8)), true)))) else (bnd1 (louverref13qR_with.f (⟨x21g.f0, x21g.f1, (⟨IntKind.i64.wrap (x21g.f2.f0 - x24f), x21g.f2.f1⟩ : S41)⟩ : S56) x21m (⟨(gt z61 x21g.f0 x21m).f0, ((gt z61 x21g.f0 x21m).f1).drop x24f.toNat, (gt z61 x21g.f0 x21m).f2, false, (⟨IntKind.i64.wrap (((gt z61 x21g.f0 x21m).f4.f0) - x24f), (gt z61 x21g.f0 x21m).f4.f1⟩ : S41)⟩ : S61)) fun r2dg => (bnd1 (louverref13qR_turned.f (⟨r2dg.f0, r2dg.f1, (⟨r2dg.f2.f0, r2dg.f2.f1⟩ : S41)⟩ : S56) (IntKind.i64.wrap (x21m + 1))) fun r2i0 => (some ((⟨r2i0.f0, r2i0.f1, (⟨r2i0.f2.f0, r2i0.f2.f1⟩ : S41)⟩ : S56), (gt z61 x21g.f0 x21m).f0, ((gt z61 x21g.f0 x21m).f1).take x24f.toNat, false, true))))) else (none)) else (none)
end
def louverref13qR_Next.f (k : Nat) (p0 : S56) (p1 : Int) : Option (S56 × Int × (List UInt8) × Bool × Bool) := louverref13qR_Next.l0 k (⟨p0.f0, p0.f1, (⟨p0.f2.f0, p0.f2.f1⟩ : S41)⟩ : S56) (⟨([] : List S61), 0, (⟨0, false⟩ : S41)⟩ : S56) 0 p0 p1
set_option maxHeartbeats 20000000 in
set_option maxRecDepth 100000 in
theorem louverref13qR_Next.calls (k : Nat) {b : Nat} {w0 W : World} {R : Frag} {Fs : List Frag} {p0 : S56} {p1 : Int} {v0q0 : Value} {M0q0 : Frag} {r0q : S56} {r1q : Int} {r2q : (List UInt8)} {r3q : Bool} {r4q : Bool} (hp0q0 : Row k61 61 b w0 R v0q0 p0.f0 M0q0) (H : louverref13qR_Next.f k p0 p1 = some (r0q, r1q, r2q, r3q, r4q)) (hS : St b w0 W R (M0q0 :: Fs)) :
  Calls Try.prog 40 ([.agg #[v0q0, i6 p0.f1, i6 p0.f2.f0, .bool p0.f2.f1], i6 p1] : List Value).toArray W (fun e W' => ∃ (u0qv0qf0 : Value) (Nu0qv0qf0 : Frag), e = .returned (.tuple #[.agg #[u0qv0qf0, i6 r0q.f1, i6 r0q.f2.f0, .bool r0q.f2.f1], .int .u32 r1q, .string (mkS r2q), .bool r3q, .bool r4q]) ∧ Row k61 61 b w0 R u0qv0qf0 r0q.f0 Nu0qv0qf0 ∧ St b w0 W' R (Nu0qv0qf0 :: Fs)) := by
 obtain ⟨A0q0, c0q0, rfl⟩ := hp0q0.form
 unfold louverref13qR_Next.f at H
 refine calls_enter Try.func40 rfl 89 rfl (by kernel_rfl) (fun a h => ?_)
 refine wp_seq ?_
 refine WL.start ?_
 refine WL.oq h rfl ?_
 refine owp_nw (fun g_ => (pt g_)) (.cells ([.slice A0q0 p0.f0.length c0q0, i6 p0.f1, i6 p0.f2.f0, .bool p0.f2.f1] : List Value).toArray 56 (0, 0)) h rfl hS (fun a20s W20u g20v h20t hS20w => ?_)
 refine WL.oq h20t rfl ?_
 refine owp_nw (fun g_ => (pt g_)) (.cells ([.slice none 0 0, i6 0, i6 0, .bool false] : List Value).toArray 56 (0, 0)) h20t rfl hS20w (fun a20x W20z g210 h20y hS211 => ?_)
 refine WL.bl 4 6 h20y [(8, .bool false), (7, .bool false), (6, .string (mkS [])), (5, .int .u32 0)] (fun a212 h213 => ?_)
 refine WL.dn ?_
 refine wp_seq ?_
 refine wp_seq ?_
 refine WL.start ?_
 refine WL.bl 1 1 h213 [(13, pt g20v)] (fun a214 h215 => ?_)
 have hS216 := hS211.b1
 refine WL.oq h215 rfl ?_
 refine owp_rn (.slice A0q0 p0.f0.length c0q0) h215 rfl (run_load1 rfl rfl Try.underlying54 rfl (hS216.cell (i := 0) rfl)) (fun a217 h218 => ?_)
 refine WL.bl 2 4 h218 [(16, i6 0), (15, i6 (p0.f0.length : Int))] (fun a219 h21a => ?_)
 refine WL.dn ?_
 refine wp_block ?_
 have hS21n := hS216.b2
 have hS21o := hS21n.b1
 obtain ⟨M21p, hp21q, hS21r⟩ := k56qfo (⟨p0.f0, p0.f1, (⟨p0.f2.f0, p0.f2.f1⟩ : S41)⟩ : S56) hp0q0 hS21o
 have hS21s := hS21r.nil_
 have hS21t := hS21s.b2
 obtain ⟨M21u, hp21v, hS21w⟩ := k56qfo (⟨([] : List S61), 0, (⟨0, false⟩ : S41)⟩ : S56) (y0 := []) Row.nil hS21t
 have hS21x := hS21w.b1
 clear h20t a20s h20y a20x h213 a212 h215 a214 h218 a217
 refine wp_loop_ghost (fun kq_ a_ W_ => ∃ (x21g : S56), ∃ (M21h : Frag), ∃ (x21j : S56), ∃ (M21k : Frag), ∃ (x21m : Int), Hd a_ 89 [(1, i6 p1), (2, pt g20v), (4, pt g210), (15, i6 (p0.f0.length : Int)), (16, i6 x21m)] ∧ Asd (louverref13qR_Next.l0 kq_ x21g x21j x21m p0 p1 = some (r0q, r1q, r2q, r3q, r4q)) ∧ Asd (kq_ ≤ k) ∧ Asd (St b w0 W_ R (M21h :: M21k :: Fs)) ∧ Asd (Ptr k56 56 b w0 R (pt g20v) x21g M21h) ∧ Asd (Ptr k56 56 b w0 R (pt g210) x21j M21k)) k ⟨(⟨p0.f0, p0.f1, (⟨p0.f2.f0, p0.f2.f1⟩ : S41)⟩ : S56), M21p, (⟨([] : List S61), 0, (⟨0, false⟩ : S41)⟩ : S56), M21u, 0, h21a.keep ⟨rfl, rfl, rfl, rfl, rfl, trivial⟩, ⟨H⟩, ⟨Nat.le_refl _⟩, ⟨hS21x⟩, ⟨hp21q⟩, ⟨hp21v⟩⟩ ?_
 clear H hS21x
 rintro kk21f a21c W21d ⟨x21g, M21h, x21j, M21k, x21m, h21b, ⟨H⟩, ⟨hkkk21f⟩, ⟨hS21e⟩, ⟨hr21i⟩, ⟨hr21l⟩⟩
 obtain _ | kk21y := kk21f
 ·exact absurd H (by simp [louverref13qR_Next.l0])
 simp only [louverref13qR_Next.l0] at H
 refine wp_seq ?_
 refine WL.start ?_
 refine WL.bl 1 1 h21b [(17, .bool (decide (x21m < (p0.f0.length : Int))))] (fun a21z h220 => ?_)
 refine WL.dn ?_
 refine wp_seq ?_
 clear h21b a21c
 by_cases c221 : x21m < (p0.f0.length : Int)
 ·rw [if_pos c221] at H
  have hb_ : (decide (x21m < (p0.f0.length : Int))) = true := decide_eq_true c221
  try rw [hb_] at h220
  clear hb_
  refine wp_then h220 rfl ?_
  refine wp_skip ?_
  refine wp_seq ?_
  refine wp_block ?_
  refine wp_seq ?_
  refine WL.start ?_
  refine WL.bl 2 2 h220 [(9, i6 x21m), (18, i6 x21m)] (fun a222 h223 => ?_)
  refine WL.dn ?_
  refine wp_seq ?_
  refine WL.start ?_
  obtain ⟨A225, c226, M227, hr228, hS224⟩ := k56qoq hr21i hS21e
  refine WL.bl 1 1 h223 [(19, pt g20v)] (fun a229 h22a => ?_)
  refine WL.oq h22a rfl ?_
  refine owp_rn (.slice A225 x21g.f0.length c226) h22a rfl (run_load1 rfl rfl Try.underlying54 rfl (hS224.cell (i := 0) rfl)) (fun a22b h22c => ?_)
  refine WL.bl 1 3 h22c [(21, i6 x21m)] (fun a22d h22e => ?_)
  clear h220 a21z h223 a222 h22a a229 h22c a22b
  by_cases c22f : 0 ≤ x21m
  ·rw [if_pos c22f] at H
   by_cases c22g : x21m < (x21g.f0.length : Int)
   ·rw [if_pos c22g] at H
    have hi22j : 0 ≤ x21m := by first | assumption | omega
    have hi22k : x21m < (x21g.f0.length : Int) := by first | assumption | omega
    obtain ⟨ad22h, _, ha22i, -, -⟩ := Rds.elemAny hr228.rds hi22j (gt_get (z := z61) hi22j hi22k)
    refine WL.oq h22e rfl ?_
    refine owp_rn (.pointer (some (ad22h.add (x21m.toNat * 6)))) h22e rfl (run_idx (ad := ad22h) (sz := 6) rfl (by rw [← ha22i]; rfl) rfl Try.underlying54 (by kernel_rfl) hi22j hi22k) (fun a22l h22m => ?_)
    have hS22n := hS224.b1
    obtain ⟨ad22o, cs22p, ha22q, hr22s, hc22r⟩ := Rds.elemAny hr228.rds hi22j (gt_get (z := z61) hi22j hi22k)
    rw [ha22i] at ha22q; obtain rfl := Option.some.inj ha22q
    obtain rfl := k61qrd hr22s
    refine WL.oq h22m rfl ?_
    refine owp_rn (.agg #[.int .u32 ((gt z61 x21g.f0 x21m).f0), .string (mkS ((gt z61 x21g.f0 x21m).f1)), .bool ((gt z61 x21g.f0 x21m).f2), .bool ((gt z61 x21g.f0 x21m).f3), i6 ((gt z61 x21g.f0 x21m).f4.f0), .bool ((gt z61 x21g.f0 x21m).f4.f1)]) h22m rfl (run_loadN rfl rfl Try.underlying61 rfl (cs := [.int .u32 ((gt z61 x21g.f0 x21m).f0), .string (mkS ((gt z61 x21g.f0 x21m).f1)), .bool ((gt z61 x21g.f0 x21m).f2), .bool ((gt z61 x21g.f0 x21m).f3), i6 ((gt z61 x21g.f0 x21m).f4.f0), .bool ((gt z61 x21g.f0 x21m).f4.f1)]) (by kernel_rfl) (hc22r _ (fun _ _ hk_ => (hS22n).pool.kn hk_))) (fun a22t h22u => ?_)
    refine WL.oq h22u rfl ?_
    refine owp_nw (fun g_ => (pt g_)) (.cells ([.int .u32 0, .string (mkS []), .bool false, .bool false, i6 0, .bool false] : List Value).toArray 61 (0, 0)) h22u rfl hS22n (fun a22v W22x g22y h22w hS22z => ?_)
    refine WL.oq h22w rfl ?_
    refine owp_st 0 [.int .u32 ((gt z61 x21g.f0 x21m).f0), .string (mkS ((gt z61 x21g.f0 x21m).f1)), .bool ((gt z61 x21g.f0 x21m).f2), .bool ((gt z61 x21g.f0 x21m).f3), i6 ((gt z61 x21g.f0 x21m).f4.f0), .bool ((gt z61 x21g.f0 x21m).f4.f1)] h22w rfl rfl rfl hS22z [.int .u32 ((gt z61 x21g.f0 x21m).f0), .string (mkS ((gt z61 x21g.f0 x21m).f1)), .bool ((gt z61 x21g.f0 x21m).f2), .bool ((gt z61 x21g.f0 x21m).f3), i6 ((gt z61 x21g.f0 x21m).f4.f0), .bool ((gt z61 x21g.f0 x21m).f4.f1)] (fun a230 W232 h231 hS233 => ?_)
    refine WL.dn ?_
    refine wp_seq ?_
    refine wp_seq ?_
    refine WL.start ?_
    have hS234 := hS233.b2
    refine WL.oq h231 rfl ?_
    refine owp_rn (.agg #[.slice A225 x21g.f0.length c226, i6 x21g.f1, i6 x21g.f2.f0, .bool x21g.f2.f1]) h231 rfl (run_loadN rfl rfl Try.underlying56 rfl (cs := [.slice A225 x21g.f0.length c226, i6 x21g.f1, i6 x21g.f2.f0, .bool x21g.f2.f1]) (by kernel_rfl) (hS234.cells (vs := [.slice A225 x21g.f0.length c226, i6 x21g.f1, i6 x21g.f2.f0, .bool x21g.f2.f1]) rfl)) (fun a235 h236 => ?_)
    have hS237 := hS234.b1
    refine WL.oq h236 rfl ?_
    refine owp_rn (.agg #[.int .u32 ((gt z61 x21g.f0 x21m).f0), .string (mkS ((gt z61 x21g.f0 x21m).f1)), .bool ((gt z61 x21g.f0 x21m).f2), .bool ((gt z61 x21g.f0 x21m).f3), i6 ((gt z61 x21g.f0 x21m).f4.f0), .bool ((gt z61 x21g.f0 x21m).f4.f1)]) h236 rfl (run_loadN rfl rfl Try.underlying61 rfl (cs := [.int .u32 ((gt z61 x21g.f0 x21m).f0), .string (mkS ((gt z61 x21g.f0 x21m).f1)), .bool ((gt z61 x21g.f0 x21m).f2), .bool ((gt z61 x21g.f0 x21m).f3), i6 ((gt z61 x21g.f0 x21m).f4.f0), .bool ((gt z61 x21g.f0 x21m).f4.f1)]) (by kernel_rfl) (hS237.cells (vs := [.int .u32 ((gt z61 x21g.f0 x21m).f0), .string (mkS ((gt z61 x21g.f0 x21m).f1)), .bool ((gt z61 x21g.f0 x21m).f2), .bool ((gt z61 x21g.f0 x21m).f3), i6 ((gt z61 x21g.f0 x21m).f4.f0), .bool ((gt z61 x21g.f0 x21m).f4.f1)]) rfl)) (fun a238 h239 => ?_)
    have hS23a := hS237.b2
    obtain ⟨r23c, A23b, H⟩ := bind1 H
    refine WL.oq h239 rfl ?_
    refine owp_call [.agg #[.slice A225 x21g.f0.length c226, i6 x21g.f1, i6 x21g.f2.f0, .bool x21g.f2.f1], .agg #[.int .u32 ((gt z61 x21g.f0 x21m).f0), .string (mkS ((gt z61 x21g.f0 x21m).f1)), .bool ((gt z61 x21g.f0 x21m).f2), .bool ((gt z61 x21g.f0 x21m).f3), i6 ((gt z61 x21g.f0 x21m).f4.f0), .bool ((gt z61 x21g.f0 x21m).f4.f1)]] h239 rfl (by kernel_rfl) rfl Try.func23 (by kernel_rfl) rfl (by kernel_rfl) (louverref13qR_Can.calls (p0 := (⟨x21g.f0, x21g.f1, (⟨x21g.f2.f0, x21g.f2.f1⟩ : S41)⟩ : S56)) (p1 := (⟨(gt z61 x21g.f0 x21m).f0, (gt z61 x21g.f0 x21m).f1, (gt z61 x21g.f0 x21m).f2, (gt z61 x21g.f0 x21m).f3, (⟨(gt z61 x21g.f0 x21m).f4.f0, (gt z61 x21g.f0 x21m).f4.f1⟩ : S41)⟩ : S61)) hr228.rds A23b (hS23a.pool)) (fun e23e W23d hp23f => ?_)
    obtain ⟨rfl, hS23i⟩ := hp23f
    have hS23j : St b w0 W23d R (M227 :: (bx g22y 61 [.int .u32 ((gt z61 x21g.f0 x21m).f0), .string (mkS ((gt z61 x21g.f0 x21m).f1)), .bool ((gt z61 x21g.f0 x21m).f2), .bool ((gt z61 x21g.f0 x21m).f3), i6 ((gt z61 x21g.f0 x21m).f4.f0), .bool ((gt z61 x21g.f0 x21m).f4.f1)]) :: (bx g20v 56 [.slice A225 x21g.f0.length c226, i6 x21g.f1, i6 x21g.f2.f0, .bool x21g.f2.f1]) :: M21k :: Fs) := hS23i.unpool
    refine ⟨_, rfl, fun a23g h23h => ?_⟩
    refine WL.bl 1 4 h23h [(27, .bool (!r23c))] (fun a23k h23l => ?_)
    refine WL.dn ?_
    clear h22e a22d h22m a22l h22u a22t h22w a22v h231 a230 h236 a235 h239 a238 h23h a23g
    by_cases c23m : r23c = true
    ·rw [if_pos c23m] at H
     have hb_ : r23c = true := c23m
     try rw [hb_] at h23l
     clear hb_
     refine wp_else h23l rfl ?_
     refine wp_skip ?_
     refine wp_seq ?_
     refine WL.start ?_
     refine WL.bl 1 1 h23l [(28, .pointer (some ⟨g22y, 1, none⟩))] (fun a23n h23o => ?_)
     have hS23p := hS23j.b1
     refine WL.oq h23o rfl ?_
     refine owp_rn (.string (mkS ((gt z61 x21g.f0 x21m).f1))) h23o rfl (run_load1 rfl rfl Try.underlying9 rfl (hS23p.cell (i := 1) rfl)) (fun a23q h23r => ?_)
     refine WL.bl 2 4 h23r [(11, i6 (((gt z61 x21g.f0 x21m).f1).length : Int)), (30, i6 (((gt z61 x21g.f0 x21m).f1).length : Int))] (fun a23s h23t => ?_)
     refine WL.dn ?_
     refine wp_seq ?_
     refine wp_seq ?_
     refine WL.start ?_
     refine WL.bl 2 2 h23t [(32, .bool (decide ((((gt z61 x21g.f0 x21m).f1).length : Int) > 0))), (31, i6 (((gt z61 x21g.f0 x21m).f1).length : Int))] (fun a23u h23v => ?_)
     refine WL.dn ?_
     clear h23l a23k h23o a23n h23r a23q h23t a23s
     refine wp_meet (I := fun a_ W_ => ∃ kq_, ∃ (M24d : Frag), ∃ (x24f : Int), Hd a_ 89 [(2, pt g20v), (4, pt g210), (9, i6 x21m), (10, pt g22y), (11, i6 x24f)] ∧ Asd (louverref13qR_Next.j1 kq_ x24f x21g x21m = some (r0q, r1q, r2q, r3q, r4q)) ∧ Asd (kq_ ≤ kk21y) ∧ Asd (St b w0 W_ R ((bx g20v 56 [.slice A225 x21g.f0.length c226, i6 x21g.f1, i6 x21g.f2.f0, .bool x21g.f2.f1]) :: M227 :: M24d :: (bx g22y 61 [.int .u32 ((gt z61 x21g.f0 x21m).f0), .string (mkS ((gt z61 x21g.f0 x21m).f1)), .bool ((gt z61 x21g.f0 x21m).f2), .bool ((gt z61 x21g.f0 x21m).f3), i6 ((gt z61 x21g.f0 x21m).f4.f0), .bool ((gt z61 x21g.f0 x21m).f4.f1)]) :: Fs)) ∧ Asd (Ptr k56 56 b w0 R (pt g210) x21j M24d)) ?_ ?_
     ·by_cases c24g : (((gt z61 x21g.f0 x21m).f1).length : Int) > 0
      ·rw [if_pos c24g] at H
       have hb_ : (decide ((((gt z61 x21g.f0 x21m).f1).length : Int) > 0)) = true := decide_eq_true c24g
       try rw [hb_] at h23v
       clear hb_
       refine wp_then h23v rfl ?_
       refine WL.start ?_
       refine WL.bl 5 5 h23v [(37, .pointer (some ⟨g22y, 4, none⟩)), (36, .pointer (some ⟨g22y, 4, none⟩)), (35, i6 (mxI 1 p1)), (34, i6 p1), (33, i6 (((gt z61 x21g.f0 x21m).f1).length : Int))] (fun a24h h24i => ?_)
       refine WL.oq h24i rfl ?_
       refine owp_rn (i6 ((gt z61 x21g.f0 x21m).f4.f0)) h24i rfl (run_load1 rfl rfl Try.underlying2 rfl (hS23p.cell (i := 4) rfl)) (fun a24j h24k => ?_)
       refine WL.bl 2 8 h24k [(40, .pointer (some ⟨g20v, 2, none⟩)), (39, .pointer (some ⟨g20v, 2, none⟩))] (fun a24l h24m => ?_)
       have hS24n := hS23p.b2
       refine WL.oq h24m rfl ?_
       refine owp_rn (i6 x21g.f2.f0) h24m rfl (run_load1 rfl rfl Try.underlying2 rfl (hS24n.cell (i := 2) rfl)) (fun a24o h24p => ?_)
       refine WL.bl 2 11 h24p [(11, i6 (mnI (mnI (mnI (((gt z61 x21g.f0 x21m).f1).length : Int) (mxI 1 p1)) ((gt z61 x21g.f0 x21m).f4.f0)) x21g.f2.f0)), (42, i6 (mnI (mnI (mnI (((gt z61 x21g.f0 x21m).f1).length : Int) (mxI 1 p1)) ((gt z61 x21g.f0 x21m).f4.f0)) x21g.f2.f0))] (fun a24q h24r => ?_)
       refine WL.dn ?_
       have hS24s := hS24n.b1
       have hS24t := hS24s.b3
       have hS24u := hS24t.b3
       have hS24v := hS24u.b3
       exact ⟨kk21y, M21k, mnI (mnI (mnI (((gt z61 x21g.f0 x21m).f1).length : Int) (mxI 1 p1)) ((gt z61 x21g.f0 x21m).f4.f0)) x21g.f2.f0, h24r.keep ⟨rfl, rfl, rfl, rfl, rfl, trivial⟩, ⟨H⟩, ⟨by omega⟩, ⟨hS24v⟩, ⟨hr21l⟩⟩
      ·rw [if_neg c24g] at H
       have hb_ : (decide ((((gt z61 x21g.f0 x21m).f1).length : Int) > 0)) = false := decide_eq_false c24g
       try rw [hb_] at h23v
       clear hb_
       refine wp_else h23v rfl ?_
       refine wp_skip ?_
       have hS24w := hS23p.b3
       have hS24x := hS24w.b2
       have hS24y := hS24x.b3
       exact ⟨kk21y, M21k, (((gt z61 x21g.f0 x21m).f1).length : Int), h23v.keep ⟨rfl, rfl, rfl, rfl, rfl, trivial⟩, ⟨H⟩, ⟨by omega⟩, ⟨hS24y⟩, ⟨hr21l⟩⟩
     ·clear H hS23p
      rintro a249 W24a ⟨kk24c, M24d, x24f, h248, ⟨H⟩, ⟨hkkk24c⟩, ⟨hS24b⟩, ⟨hr24e⟩⟩
      obtain _ | kk24z := kk24c
      ·exact absurd H (by simp [louverref13qR_Next.j1])
      simp only [louverref13qR_Next.j1] at H
      refine wp_seq ?_
      refine WL.start ?_
      refine WL.bl 1 1 h248 [(43, .pointer (some ⟨g22y, 1, none⟩))] (fun a250 h251 => ?_)
      have hS252 := hS24b.b3
      refine WL.oq h251 rfl ?_
      refine owp_rn (.string (mkS ((gt z61 x21g.f0 x21m).f1))) h251 rfl (run_load1 rfl rfl Try.underlying9 rfl (hS252.cell (i := 1) rfl)) (fun a253 h254 => ?_)
      refine WL.bl 1 3 h254 [(45, i6 x24f)] (fun a255 h256 => ?_)
      clear h248 a249 h251 a250 h254 a253
      by_cases c257 : 0 ≤ x24f
      ·rw [if_pos c257] at H
       by_cases c258 : x24f ≤ (((gt z61 x21g.f0 x21m).f1).length : Int)
       ·rw [if_pos c258] at H
        refine WL.oq h256 rfl ?_
        refine owp_rn (.string (mkS (((gt z61 x21g.f0 x21m).f1).take x24f.toNat))) h256 rfl (run_strcut' (l := 0) (h := x24f) rfl rfl Try.underlying9 rfl ⟨_, rfl⟩ (by first | assumption | omega) (by first | assumption | omega) (by first | assumption | omega) (by simp)) (fun a259 h25a => ?_)
        refine WL.bl 1 5 h25a [(12, .string (mkS (((gt z61 x21g.f0 x21m).f1).take x24f.toNat)))] (fun a25b h25c => ?_)
        refine WL.dn ?_
        refine wp_seq ?_
        refine WL.start ?_
        refine WL.bl 1 1 h25c [(47, .pointer (some ⟨g22y, 1, none⟩))] (fun a25d h25e => ?_)
        refine WL.oq h25e rfl ?_
        refine owp_rn (.string (mkS ((gt z61 x21g.f0 x21m).f1))) h25e rfl (run_load1 rfl rfl Try.underlying9 rfl (hS252.cell (i := 1) rfl)) (fun a25f h25g => ?_)
        refine WL.bl 1 3 h25g [(49, i6 x24f)] (fun a25h h25i => ?_)
        refine WL.oq h25i rfl ?_
        refine owp_rn (.string (mkS (((gt z61 x21g.f0 x21m).f1).drop x24f.toNat))) h25i rfl (run_strcut' (l := x24f) (h := (((gt z61 x21g.f0 x21m).f1).length : Int)) rfl rfl Try.underlying9 ⟨_, rfl⟩ rfl (by first | assumption | omega) (by first | assumption | omega) (by first | assumption | omega) (by simp)) (fun a25j h25k => ?_)
        refine WL.bl 1 5 h25k [(51, .pointer (some ⟨g22y, 1, none⟩))] (fun a25l h25m => ?_)
        refine WL.oq h25m rfl ?_
        refine owp_st 1 [.string (mkS (((gt z61 x21g.f0 x21m).f1).drop x24f.toNat))] h25m rfl rfl rfl hS252 [.int .u32 ((gt z61 x21g.f0 x21m).f0), .string (mkS (((gt z61 x21g.f0 x21m).f1).drop x24f.toNat)), .bool ((gt z61 x21g.f0 x21m).f2), .bool ((gt z61 x21g.f0 x21m).f3), i6 ((gt z61 x21g.f0 x21m).f4.f0), .bool ((gt z61 x21g.f0 x21m).f4.f1)] (fun a25n W25p h25o hS25q => ?_)
        refine WL.dn ?_
        refine wp_seq ?_
        refine WL.start ?_
        refine WL.bl 2 2 h25o [(53, .pointer (some ⟨g22y, 4, none⟩)), (52, .pointer (some ⟨g22y, 4, none⟩))] (fun a25r h25s => ?_)
        refine WL.oq h25s rfl ?_
        refine owp_rn (i6 ((gt z61 x21g.f0 x21m).f4.f0)) h25s rfl (run_load1 rfl rfl Try.underlying2 rfl (hS25q.cell (i := 4) rfl)) (fun a25t h25u => ?_)
        refine WL.bl 4 7 h25u [(58, .pointer (some ⟨g22y, 4, none⟩)), (57, .pointer (some ⟨g22y, 4, none⟩)), (56, i6 (IntKind.i64.wrap (((gt z61 x21g.f0 x21m).f4.f0) - x24f))), (55, i6 x24f)] (fun a25v h25w => ?_)
        refine WL.oq h25w rfl ?_
        refine owp_st 4 [i6 (IntKind.i64.wrap (((gt z61 x21g.f0 x21m).f4.f0) - x24f))] h25w rfl rfl rfl hS25q [.int .u32 ((gt z61 x21g.f0 x21m).f0), .string (mkS (((gt z61 x21g.f0 x21m).f1).drop x24f.toNat)), .bool ((gt z61 x21g.f0 x21m).f2), .bool ((gt z61 x21g.f0 x21m).f3), i6 (IntKind.i64.wrap (((gt z61 x21g.f0 x21m).f4.f0) - x24f)), .bool ((gt z61 x21g.f0 x21m).f4.f1)] (fun a25x W25z h25y hS260 => ?_)
        clear h256 a255 h25a a259 h25c a25b h25e a25d h25g a25f h25i a25h h25k a25j h25m a25l h25o a25n h25s a25r h25u a25t h25w a25v
        refine WL.dn ?_
        refine wp_seq ?_
        refine WL.start ?_
        refine WL.bl 2 2 h25y [(60, .pointer (some ⟨g20v, 2, none⟩)), (59, .pointer (some ⟨g20v, 2, none⟩))] (fun a261 h262 => ?_)
        have hS263 := hS260.b1
        refine WL.oq h262 rfl ?_
        refine owp_rn (i6 x21g.f2.f0) h262 rfl (run_load1 rfl rfl Try.underlying2 rfl (hS263.cell (i := 2) rfl)) (fun a264 h265 => ?_)
        refine WL.bl 4 7 h265 [(65, .pointer (some ⟨g20v, 2, none⟩)), (64, .pointer (some ⟨g20v, 2, none⟩)), (63, i6 (IntKind.i64.wrap (x21g.f2.f0 - x24f))), (62, i6 x24f)] (fun a266 h267 => ?_)
        refine WL.oq h267 rfl ?_
        refine owp_st 2 [i6 (IntKind.i64.wrap (x21g.f2.f0 - x24f))] h267 rfl rfl rfl hS263 [.slice A225 x21g.f0.length c226, i6 x21g.f1, i6 (IntKind.i64.wrap (x21g.f2.f0 - x24f)), .bool x21g.f2.f1] (fun a268 W26a h269 hS26b => ?_)
        refine WL.dn ?_
        refine wp_seq ?_
        refine WL.start ?_
        refine WL.bl 1 1 h269 [(66, .pointer (some ⟨g22y, 2, none⟩))] (fun a26c h26d => ?_)
        have hS26e := hS26b.b1
        refine WL.oq h26d rfl ?_
        refine owp_rn (.bool ((gt z61 x21g.f0 x21m).f2)) h26d rfl (run_load1 rfl rfl Try.underlying4 rfl (hS26e.cell (i := 2) rfl)) (fun a26f h26g => ?_)
        refine WL.bl 1 3 h26g [(68, .bool ((gt z61 x21g.f0 x21m).f2))] (fun a26h h26i => ?_)
        clear h25y a25x h262 a261 h265 a264 h267 a266 h269 a268 h26d a26c h26g a26f
        by_cases c26j : (gt z61 x21g.f0 x21m).f2 = true
        ·rw [if_pos c26j] at H
         have hb_ : ((gt z61 x21g.f0 x21m).f2) = true := c26j
         try rw [hb_] at h26i
         clear hb_
         refine WL.oq h26i rfl (owp_rk (.pointer (some ⟨g22y, 1, none⟩)) h26i rfl (fun a26k h26l => ?_))
         refine WL.oq h26l rfl ?_
         refine owp_rn (.string (mkS (((gt z61 x21g.f0 x21m).f1).drop x24f.toNat))) h26l rfl (run_load1 rfl rfl Try.underlying9 rfl (hS26e.cell (i := 1) rfl)) (fun a26m h26n => ?_)
         refine WL.oq h26n rfl ?_
         refine owp_rn (.bool (decide ((((gt z61 x21g.f0 x21m).f1).drop x24f.toNat) = ([] : List UInt8)))) h26n rfl (run_streq rfl rfl rfl) (fun a26o h26p => ?_)
         refine WL.bl 2 8 h26p [(73, .pointer (some ⟨g22y, 3, none⟩)), (72, .bool (decide ((((gt z61 x21g.f0 x21m).f1).drop x24f.toNat) = ([] : List UInt8))))] (fun a26q h26r => ?_)
         refine WL.oq h26r rfl ?_
         refine owp_st 3 [.bool (decide ((((gt z61 x21g.f0 x21m).f1).drop x24f.toNat) = ([] : List UInt8)))] h26r rfl rfl rfl hS26e [.int .u32 ((gt z61 x21g.f0 x21m).f0), .string (mkS (((gt z61 x21g.f0 x21m).f1).drop x24f.toNat)), .bool ((gt z61 x21g.f0 x21m).f2), .bool (decide ((((gt z61 x21g.f0 x21m).f1).drop x24f.toNat) = ([] : List UInt8))), i6 (IntKind.i64.wrap (((gt z61 x21g.f0 x21m).f4.f0) - x24f)), .bool ((gt z61 x21g.f0 x21m).f4.f1)] (fun a26s W26u h26t hS26v => ?_)
         refine WL.dn ?_
         refine wp_seq ?_
         refine WL.start ?_
         have hS26w := hS26v.b1
         refine WL.oq h26t rfl ?_
         refine owp_rn (.agg #[.slice A225 x21g.f0.length c226, i6 x21g.f1, i6 (IntKind.i64.wrap (x21g.f2.f0 - x24f)), .bool x21g.f2.f1]) h26t rfl (run_loadN rfl rfl Try.underlying56 rfl (cs := [.slice A225 x21g.f0.length c226, i6 x21g.f1, i6 (IntKind.i64.wrap (x21g.f2.f0 - x24f)), .bool x21g.f2.f1]) (by kernel_rfl) (hS26w.cells (vs := [.slice A225 x21g.f0.length c226, i6 x21g.f1, i6 (IntKind.i64.wrap (x21g.f2.f0 - x24f)), .bool x21g.f2.f1]) rfl)) (fun a26x h26y => ?_)
         refine WL.bl 1 2 h26y [(75, i6 x21m)] (fun a26z h270 => ?_)
         have hS271 := hS26w.b1
         refine WL.oq h270 rfl ?_
         refine owp_rn (.agg #[.int .u32 ((gt z61 x21g.f0 x21m).f0), .string (mkS (((gt z61 x21g.f0 x21m).f1).drop x24f.toNat)), .bool ((gt z61 x21g.f0 x21m).f2), .bool (decide ((((gt z61 x21g.f0 x21m).f1).drop x24f.toNat) = ([] : List UInt8))), i6 (IntKind.i64.wrap (((gt z61 x21g.f0 x21m).f4.f0) - x24f)), .bool ((gt z61 x21g.f0 x21m).f4.f1)]) h270 rfl (run_loadN rfl rfl Try.underlying61 rfl (cs := [.int .u32 ((gt z61 x21g.f0 x21m).f0), .string (mkS (((gt z61 x21g.f0 x21m).f1).drop x24f.toNat)), .bool ((gt z61 x21g.f0 x21m).f2), .bool (decide ((((gt z61 x21g.f0 x21m).f1).drop x24f.toNat) = ([] : List UInt8))), i6 (IntKind.i64.wrap (((gt z61 x21g.f0 x21m).f4.f0) - x24f)), .bool ((gt z61 x21g.f0 x21m).f4.f1)]) (by kernel_rfl) (hS271.cells (vs := [.int .u32 ((gt z61 x21g.f0 x21m).f0), .string (mkS (((gt z61 x21g.f0 x21m).f1).drop x24f.toNat)), .bool ((gt z61 x21g.f0 x21m).f2), .bool (decide ((((gt z61 x21g.f0 x21m).f1).drop x24f.toNat) = ([] : List UInt8))), i6 (IntKind.i64.wrap (((gt z61 x21g.f0 x21m).f4.f0) - x24f)), .bool ((gt z61 x21g.f0 x21m).f4.f1)]) rfl)) (fun a272 h273 => ?_)
         have hS274 := hS271.b2
         obtain ⟨r276, A275, H⟩ := bind1 H
         refine WL.oq h273 rfl ?_
         refine owp_call [.agg #[.slice A225 x21g.f0.length c226, i6 x21g.f1, i6 (IntKind.i64.wrap (x21g.f2.f0 - x24f)), .bool x21g.f2.f1], i6 x21m, .agg #[.int .u32 ((gt z61 x21g.f0 x21m).f0), .string (mkS (((gt z61 x21g.f0 x21m).f1).drop x24f.toNat)), .bool ((gt z61 x21g.f0 x21m).f2), .bool (decide ((((gt z61 x21g.f0 x21m).f1).drop x24f.toNat) = ([] : List UInt8))), i6 (IntKind.i64.wrap (((gt z61 x21g.f0 x21m).f4.f0) - x24f)), .bool ((gt z61 x21g.f0 x21m).f4.f1)]] h273 rfl (by kernel_rfl) rfl Try.func52 (by kernel_rfl) rfl (by kernel_rfl) (louverref13qR_with.calls (p0 := (⟨x21g.f0, x21g.f1, (⟨IntKind.i64.wrap (x21g.f2.f0 - x24f), x21g.f2.f1⟩ : S41)⟩ : S56)) (p2 := (⟨(gt z61 x21g.f0 x21m).f0, ((gt z61 x21g.f0 x21m).f1).drop x24f.toNat, (gt z61 x21g.f0 x21m).f2, decide ((((gt z61 x21g.f0 x21m).f1).drop x24f.toNat) = ([] : List UInt8)), (⟨IntKind.i64.wrap (((gt z61 x21g.f0 x21m).f4.f0) - x24f), (gt z61 x21g.f0 x21m).f4.f1⟩ : S41)⟩ : S61)) hr228 A275 hS274) (fun e278 W277 hp279 => ?_)
         obtain ⟨v27c, M27d, rfl, hr27e, hS27f⟩ := hp279
         refine ⟨_, rfl, fun a27a h27b => ?_⟩
         obtain ⟨A27g, c27h, rfl⟩ := hr27e.form
         have hS27i := hS27f.b2
         refine WL.oq h27b rfl ?_
         refine owp_st 0 [.slice A27g r276.f0.length c27h, i6 r276.f1, i6 r276.f2.f0, .bool r276.f2.f1] h27b rfl rfl rfl hS27i [.slice A27g r276.f0.length c27h, i6 r276.f1, i6 r276.f2.f0, .bool r276.f2.f1] (fun a27j W27l h27k hS27m => ?_)
         refine WL.dn ?_
         refine wp_seq ?_
         refine WT.start 14 (fun w_ => (∀ j_ u_, ([.slice A27g r276.f0.length c27h, i6 r276.f1, i6 r276.f2.f0, .bool r276.f2.f1] : List Value)[j_]? = some u_ → w_.cell? ((⟨g20v, 0, none⟩ : Addr).add j_) = some u_) ∧ (w_.cell? ⟨g22y, 0, none⟩ = some (.int .u32 ((gt z61 x21g.f0 x21m).f0))) ∧ (w_.cell? ⟨g22y, 3, none⟩ = some (.bool (decide ((((gt z61 x21g.f0 x21m).f1).drop x24f.toNat) = ([] : List UInt8))))) ∧ True) (by kernel_rfl) #[false, false, false, false, false, false, false, false, false, false, false, false, false, false] 14 rfl rfl ?_
         have hS2az := hS27m.drew
         refine WT.tk 1 h27k rfl rfl (i6 x21m) (fun _ _ => by kernel_rfl) ⟨(hS2az.cells (vs := [.slice A27g r276.f0.length c27h, i6 r276.f1, i6 r276.f2.f0, .bool r276.f2.f1]) rfl), (hS2az.b2.cell (i := 0) rfl), (hS2az.b2.cell (i := 3) rfl), trivial⟩ (fun a2b0 s2b2 h2b1 => ?_)
         refine WT.tk 2 h2b1 rfl rfl (i6 (IntKind.i64.wrap (x21m + 1))) (fun _ _ => by kernel_rfl) s2b2 (fun a2b3 s2b5 h2b4 => ?_)
         clear h26i a26h h26l a26k h26n a26m h26p a26o h26r a26q h26t a26s h26y a26x h270 a26z h273 a272 h27b a27a h27k a27j h2b1 a2b0
         refine WT.tk 4 h2b4 rfl rfl (pt g22y) (fun _ _ => by kernel_rfl) s2b5 (fun a2b6 s2b8 h2b7 => ?_)
         refine WT.tk 6 h2b7 rfl rfl (.string (mkS (((gt z61 x21g.f0 x21m).f1).take x24f.toNat))) (fun _ _ => by kernel_rfl) s2b8 (fun a2b9 s2bb h2ba => ?_)
         refine WT.tk 7 h2ba rfl rfl (.pointer (some ⟨g22y, 3, none⟩)) (fun _ _ => by kernel_rfl) s2bb (fun a2bc s2be h2bd => ?_)
         refine WT.tk 0 h2bd rfl rfl (.agg #[.slice A27g r276.f0.length c27h, i6 r276.f1, i6 r276.f2.f0, .bool r276.f2.f1]) (fun w_ hs_ => (run_loadN rfl rfl Try.underlying56 rfl (cs := [.slice A27g r276.f0.length c27h, i6 r276.f1, i6 r276.f2.f0, .bool r276.f2.f1]) (by kernel_rfl) hs_.1)) s2be (fun a2bf s2bh h2bg => ?_)
         refine WT.tk 5 h2bg rfl rfl (.int .u32 ((gt z61 x21g.f0 x21m).f0)) (fun w_ hs_ => (run_load1 rfl rfl Try.underlying25 rfl hs_.2.1)) s2bh (fun a2bi s2bk h2bj => ?_)
         refine WT.tk 8 h2bj rfl rfl (.bool (decide ((((gt z61 x21g.f0 x21m).f1).drop x24f.toNat) = ([] : List UInt8)))) (fun w_ hs_ => (run_load1 rfl rfl Try.underlying4 rfl hs_.2.2.1)) s2bk (fun a2bl s2bn h2bm => ?_)
         have hS2bo := hS2az.b1
         obtain ⟨r2bq, A2bp, H⟩ := bind1 H
         refine WT.o1 3 h2bm rfl ?_
         refine owp_call [.agg #[.slice A27g r276.f0.length c27h, i6 r276.f1, i6 r276.f2.f0, .bool r276.f2.f1], i6 (IntKind.i64.wrap (x21m + 1))] h2bm rfl (by kernel_rfl) rfl Try.func53 (by kernel_rfl) rfl (by kernel_rfl) (louverref13qR_turned.calls (p0 := (⟨r276.f0, r276.f1, (⟨r276.f2.f0, r276.f2.f1⟩ : S41)⟩ : S56)) hr27e A2bp hS2bo) (fun e2bs W2br hp2bt => ?_)
         obtain ⟨v2bw, M2bx, rfl, hr2by, hS2bz⟩ := hp2bt
         refine ⟨_, rfl, fun a2bu h2bv => ?_⟩
         obtain ⟨A2c0, c2c1, rfl⟩ := hr2by.form
         refine ⟨.inr ⟨(hS2bz.b1.cells (vs := [.slice A27g r276.f0.length c27h, i6 r276.f1, i6 r276.f2.f0, .bool r276.f2.f1]) rfl), (hS2bz.b2.cell (i := 0) rfl), (hS2bz.b2.cell (i := 3) rfl), trivial⟩, ?_⟩
         have hS2c2 := hS2bz.b3
         obtain ⟨A2c4, c2c5, M2c6, hr2c7, hS2c3⟩ := k56qoq hr24e hS2c2
         refine WT.o1 9 h2bv rfl ?_
         refine owp_st 0 [.slice A2c0 r2bq.f0.length c2c1, i6 r2bq.f1, i6 r2bq.f2.f0, .bool r2bq.f2.f1] h2bv rfl rfl rfl hS2c3 [.slice A2c0 r2bq.f0.length c2c1, i6 r2bq.f1, i6 r2bq.f2.f0, .bool r2bq.f2.f1] (fun a2c8 W2ca h2c9 hS2cb => ?_)
         refine ⟨.inr ⟨(hS2cb.b3.cells (vs := [.slice A27g r276.f0.length c27h, i6 r276.f1, i6 r276.f2.f0, .bool r276.f2.f1]) rfl), (hS2cb.b4.cell (i := 0) rfl), (hS2cb.b4.cell (i := 3) rfl), trivial⟩, ?_⟩
         refine WT.tk 10 h2c9 rfl rfl (.int .u32 ((gt z61 x21g.f0 x21m).f0)) (fun _ _ => by kernel_rfl) ⟨(hS2cb.b3.cells (vs := [.slice A27g r276.f0.length c27h, i6 r276.f1, i6 r276.f2.f0, .bool r276.f2.f1]) rfl), (hS2cb.b4.cell (i := 0) rfl), (hS2cb.b4.cell (i := 3) rfl), trivial⟩ (fun a2cc s2ce h2cd => ?_)
         refine WT.tk 11 h2cd rfl rfl (.string (mkS (((gt z61 x21g.f0 x21m).f1).take x24f.toNat))) (fun _ _ => by kernel_rfl) s2ce (fun a2cf s2ch h2cg => ?_)
         refine WT.tk 12 h2cg rfl rfl (.bool (decide ((((gt z61 x21g.f0 x21m).f1).drop x24f.toNat) = ([] : List UInt8)))) (fun _ _ => by kernel_rfl) s2ch (fun a2ci s2ck h2cj => ?_)
         refine WT.tk 13 h2cj rfl rfl (.bool true) (fun _ _ => by kernel_rfl) s2ck (fun a2cl s2cn h2cm => ?_)
         clear h2b4 a2b3 h2b7 a2b6 h2ba a2b9 h2bd a2bc h2bg a2bf h2bj a2bi h2bm a2bl h2bv a2bu h2c9 a2c8 h2cd a2cc h2cg a2cf h2cj a2ci
         refine WT.dn ?_
         refine wp_ret ?_
         have hS2co := hS2cb.drop_
         have hS2cp := hS2co.drop_
         have hS2cq := hS2cp.b1
         have hS2cr := hS2cq.drop_
         have hS2cs := hS2cr.b1
         have hS2ct := hS2cs.drop_
         obtain ⟨rfl, rfl, rfl, rfl, rfl⟩ := ret5 H
         repeat (first | with_reducible refine t1 ?_ | with_reducible refine t2 ?_ | with_reducible refine t3 ?_)
         refine body_ret (v := .tuple #[.agg #[.slice A2c0 r2bq.f0.length c2c1, i6 r2bq.f1, i6 r2bq.f2.f0, .bool r2bq.f2.f1], .int .u32 ((gt z61 x21g.f0 x21m).f0), .string (mkS (((gt z61 x21g.f0 x21m).f1).take x24f.toNat)), .bool (decide ((((gt z61 x21g.f0 x21m).f1).drop x24f.toNat) = ([] : List UInt8))), .bool true]) h2cm (by kernel_rfl) (res_many (xs := [ResultVar.cell 4 56, ResultVar.tmp 5, ResultVar.tmp 6, ResultVar.tmp 7, ResultVar.tmp 8]) rfl ⟨⟨_, rfl, loadVarN Try.underlying56 rfl (cs := [.slice A2c0 r2bq.f0.length c2c1, i6 r2bq.f1, i6 r2bq.f2.f0, .bool r2bq.f2.f1]) (by kernel_rfl) (hS2cb.cells (vs := [.slice A2c0 r2bq.f0.length c2c1, i6 r2bq.f1, i6 r2bq.f2.f0, .bool r2bq.f2.f1]) rfl)⟩, rfl, rfl, rfl, rfl, trivial⟩ rfl) ?_
         exact ⟨.slice A2c0 r2bq.f0.length c2c1, M2bx, rfl, hr2by, hS2ct⟩
        ·rw [if_neg c26j] at H
         have hb_ : ((gt z61 x21g.f0 x21m).f2) = false := (Bool.eq_false_iff.2 c26j)
         try rw [hb_] at h26i
         clear hb_
         refine WL.sk h26i rfl rfl (fun a2cu h2cv => ?_)
         refine WL.sk h2cv rfl rfl (fun a2cw h2cx => ?_)
         refine WL.sk h2cx rfl rfl (fun a2cy h2cz => ?_)
         refine WL.bl 2 8 h2cz [(73, .pointer (some ⟨g22y, 3, none⟩)), (72, .bool false)] (fun a2d0 h2d1 => ?_)
         refine WL.oq h2d1 rfl ?_
         refine owp_st 3 [.bool false] h2d1 rfl rfl rfl hS26e [.int .u32 ((gt z61 x21g.f0 x21m).f0), .string (mkS (((gt z61 x21g.f0 x21m).f1).drop x24f.toNat)), .bool ((gt z61 x21g.f0 x21m).f2), .bool false, i6 (IntKind.i64.wrap (((gt z61 x21g.f0 x21m).f4.f0) - x24f)), .bool ((gt z61 x21g.f0 x21m).f4.f1)] (fun a2d2 W2d4 h2d3 hS2d5 => ?_)
         refine WL.dn ?_
         refine wp_seq ?_
         refine WL.start ?_
         have hS2d6 := hS2d5.b1
         refine WL.oq h2d3 rfl ?_
         refine owp_rn (.agg #[.slice A225 x21g.f0.length c226, i6 x21g.f1, i6 (IntKind.i64.wrap (x21g.f2.f0 - x24f)), .bool x21g.f2.f1]) h2d3 rfl (run_loadN rfl rfl Try.underlying56 rfl (cs := [.slice A225 x21g.f0.length c226, i6 x21g.f1, i6 (IntKind.i64.wrap (x21g.f2.f0 - x24f)), .bool x21g.f2.f1]) (by kernel_rfl) (hS2d6.cells (vs := [.slice A225 x21g.f0.length c226, i6 x21g.f1, i6 (IntKind.i64.wrap (x21g.f2.f0 - x24f)), .bool x21g.f2.f1]) rfl)) (fun a2d7 h2d8 => ?_)
         refine WL.bl 1 2 h2d8 [(75, i6 x21m)] (fun a2d9 h2da => ?_)
         have hS2db := hS2d6.b1
         refine WL.oq h2da rfl ?_
         refine owp_rn (.agg #[.int .u32 ((gt z61 x21g.f0 x21m).f0), .string (mkS (((gt z61 x21g.f0 x21m).f1).drop x24f.toNat)), .bool ((gt z61 x21g.f0 x21m).f2), .bool false, i6 (IntKind.i64.wrap (((gt z61 x21g.f0 x21m).f4.f0) - x24f)), .bool ((gt z61 x21g.f0 x21m).f4.f1)]) h2da rfl (run_loadN rfl rfl Try.underlying61 rfl (cs := [.int .u32 ((gt z61 x21g.f0 x21m).f0), .string (mkS (((gt z61 x21g.f0 x21m).f1).drop x24f.toNat)), .bool ((gt z61 x21g.f0 x21m).f2), .bool false, i6 (IntKind.i64.wrap (((gt z61 x21g.f0 x21m).f4.f0) - x24f)), .bool ((gt z61 x21g.f0 x21m).f4.f1)]) (by kernel_rfl) (hS2db.cells (vs := [.int .u32 ((gt z61 x21g.f0 x21m).f0), .string (mkS (((gt z61 x21g.f0 x21m).f1).drop x24f.toNat)), .bool ((gt z61 x21g.f0 x21m).f2), .bool false, i6 (IntKind.i64.wrap (((gt z61 x21g.f0 x21m).f4.f0) - x24f)), .bool ((gt z61 x21g.f0 x21m).f4.f1)]) rfl)) (fun a2dc h2dd => ?_)
         have hS2de := hS2db.b2
         obtain ⟨r2dg, A2df, H⟩ := bind1 H
         refine WL.oq h2dd rfl ?_
         refine owp_call [.agg #[.slice A225 x21g.f0.length c226, i6 x21g.f1, i6 (IntKind.i64.wrap (x21g.f2.f0 - x24f)), .bool x21g.f2.f1], i6 x21m, .agg #[.int .u32 ((gt z61 x21g.f0 x21m).f0), .string (mkS (((gt z61 x21g.f0 x21m).f1).drop x24f.toNat)), .bool ((gt z61 x21g.f0 x21m).f2), .bool false, i6 (IntKind.i64.wrap (((gt z61 x21g.f0 x21m).f4.f0) - x24f)), .bool ((gt z61 x21g.f0 x21m).f4.f1)]] h2dd rfl (by kernel_rfl) rfl Try.func52 (by kernel_rfl) rfl (by kernel_rfl) (louverref13qR_with.calls (p0 := (⟨x21g.f0, x21g.f1, (⟨IntKind.i64.wrap (x21g.f2.f0 - x24f), x21g.f2.f1⟩ : S41)⟩ : S56)) (p2 := (⟨(gt z61 x21g.f0 x21m).f0, ((gt z61 x21g.f0 x21m).f1).drop x24f.toNat, (gt z61 x21g.f0 x21m).f2, false, (⟨IntKind.i64.wrap (((gt z61 x21g.f0 x21m).f4.f0) - x24f), (gt z61 x21g.f0 x21m).f4.f1⟩ : S41)⟩ : S61)) hr228 A2df hS2de) (fun e2di W2dh hp2dj => ?_)
         obtain ⟨v2dm, M2dn, rfl, hr2do, hS2dp⟩ := hp2dj
         refine ⟨_, rfl, fun a2dk h2dl => ?_⟩
         obtain ⟨A2dq, c2dr, rfl⟩ := hr2do.form
         have hS2ds := hS2dp.b2
         refine WL.oq h2dl rfl ?_
         refine owp_st 0 [.slice A2dq r2dg.f0.length c2dr, i6 r2dg.f1, i6 r2dg.f2.f0, .bool r2dg.f2.f1] h2dl rfl rfl rfl hS2ds [.slice A2dq r2dg.f0.length c2dr, i6 r2dg.f1, i6 r2dg.f2.f0, .bool r2dg.f2.f1] (fun a2dt W2dv h2du hS2dw => ?_)
         refine WL.dn ?_
         refine wp_seq ?_
         refine WT.start 14 (fun w_ => (∀ j_ u_, ([.slice A2dq r2dg.f0.length c2dr, i6 r2dg.f1, i6 r2dg.f2.f0, .bool r2dg.f2.f1] : List Value)[j_]? = some u_ → w_.cell? ((⟨g20v, 0, none⟩ : Addr).add j_) = some u_) ∧ (w_.cell? ⟨g22y, 0, none⟩ = some (.int .u32 ((gt z61 x21g.f0 x21m).f0))) ∧ (w_.cell? ⟨g22y, 3, none⟩ = some (.bool false)) ∧ True) (by kernel_rfl) #[false, false, false, false, false, false, false, false, false, false, false, false, false, false] 14 rfl rfl ?_
         have hS2h9 := hS2dw.drew
         refine WT.tk 1 h2du rfl rfl (i6 x21m) (fun _ _ => by kernel_rfl) ⟨(hS2h9.cells (vs := [.slice A2dq r2dg.f0.length c2dr, i6 r2dg.f1, i6 r2dg.f2.f0, .bool r2dg.f2.f1]) rfl), (hS2h9.b2.cell (i := 0) rfl), (hS2h9.b2.cell (i := 3) rfl), trivial⟩ (fun a2ha s2hc h2hb => ?_)
         refine WT.tk 2 h2hb rfl rfl (i6 (IntKind.i64.wrap (x21m + 1))) (fun _ _ => by kernel_rfl) s2hc (fun a2hd s2hf h2he => ?_)
         clear h26i a26h h2cv a2cu h2cx a2cw h2cz a2cy h2d1 a2d0 h2d3 a2d2 h2d8 a2d7 h2da a2d9 h2dd a2dc h2dl a2dk h2du a2dt h2hb a2ha
         refine WT.tk 4 h2he rfl rfl (pt g22y) (fun _ _ => by kernel_rfl) s2hf (fun a2hg s2hi h2hh => ?_)
         refine WT.tk 6 h2hh rfl rfl (.string (mkS (((gt z61 x21g.f0 x21m).f1).take x24f.toNat))) (fun _ _ => by kernel_rfl) s2hi (fun a2hj s2hl h2hk => ?_)
         refine WT.tk 7 h2hk rfl rfl (.pointer (some ⟨g22y, 3, none⟩)) (fun _ _ => by kernel_rfl) s2hl (fun a2hm s2ho h2hn => ?_)
         refine WT.tk 0 h2hn rfl rfl (.agg #[.slice A2dq r2dg.f0.length c2dr, i6 r2dg.f1, i6 r2dg.f2.f0, .bool r2dg.f2.f1]) (fun w_ hs_ => (run_loadN rfl rfl Try.underlying56 rfl (cs := [.slice A2dq r2dg.f0.length c2dr, i6 r2dg.f1, i6 r2dg.f2.f0, .bool r2dg.f2.f1]) (by kernel_rfl) hs_.1)) s2ho (fun a2hp s2hr h2hq => ?_)
         refine WT.tk 5 h2hq rfl rfl (.int .u32 ((gt z61 x21g.f0 x21m).f0)) (fun w_ hs_ => (run_load1 rfl rfl Try.underlying25 rfl hs_.2.1)) s2hr (fun a2hs s2hu h2ht => ?_)
         refine WT.tk 8 h2ht rfl rfl (.bool false) (fun w_ hs_ => (run_load1 rfl rfl Try.underlying4 rfl hs_.2.2.1)) s2hu (fun a2hv s2hx h2hw => ?_)
         have hS2hy := hS2h9.b1
         obtain ⟨r2i0, A2hz, H⟩ := bind1 H
         refine WT.o1 3 h2hw rfl ?_
         refine owp_call [.agg #[.slice A2dq r2dg.f0.length c2dr, i6 r2dg.f1, i6 r2dg.f2.f0, .bool r2dg.f2.f1], i6 (IntKind.i64.wrap (x21m + 1))] h2hw rfl (by kernel_rfl) rfl Try.func53 (by kernel_rfl) rfl (by kernel_rfl) (louverref13qR_turned.calls (p0 := (⟨r2dg.f0, r2dg.f1, (⟨r2dg.f2.f0, r2dg.f2.f1⟩ : S41)⟩ : S56)) hr2do A2hz hS2hy) (fun e2i2 W2i1 hp2i3 => ?_)
         obtain ⟨v2i6, M2i7, rfl, hr2i8, hS2i9⟩ := hp2i3
         refine ⟨_, rfl, fun a2i4 h2i5 => ?_⟩
         obtain ⟨A2ia, c2ib, rfl⟩ := hr2i8.form
         refine ⟨.inr ⟨(hS2i9.b1.cells (vs := [.slice A2dq r2dg.f0.length c2dr, i6 r2dg.f1, i6 r2dg.f2.f0, .bool r2dg.f2.f1]) rfl), (hS2i9.b2.cell (i := 0) rfl), (hS2i9.b2.cell (i := 3) rfl), trivial⟩, ?_⟩
         have hS2ic := hS2i9.b3
         obtain ⟨A2ie, c2if, M2ig, hr2ih, hS2id⟩ := k56qoq hr24e hS2ic
         refine WT.o1 9 h2i5 rfl ?_
         refine owp_st 0 [.slice A2ia r2i0.f0.length c2ib, i6 r2i0.f1, i6 r2i0.f2.f0, .bool r2i0.f2.f1] h2i5 rfl rfl rfl hS2id [.slice A2ia r2i0.f0.length c2ib, i6 r2i0.f1, i6 r2i0.f2.f0, .bool r2i0.f2.f1] (fun a2ii W2ik h2ij hS2il => ?_)
         refine ⟨.inr ⟨(hS2il.b3.cells (vs := [.slice A2dq r2dg.f0.length c2dr, i6 r2dg.f1, i6 r2dg.f2.f0, .bool r2dg.f2.f1]) rfl), (hS2il.b4.cell (i := 0) rfl), (hS2il.b4.cell (i := 3) rfl), trivial⟩, ?_⟩
         refine WT.tk 10 h2ij rfl rfl (.int .u32 ((gt z61 x21g.f0 x21m).f0)) (fun _ _ => by kernel_rfl) ⟨(hS2il.b3.cells (vs := [.slice A2dq r2dg.f0.length c2dr, i6 r2dg.f1, i6 r2dg.f2.f0, .bool r2dg.f2.f1]) rfl), (hS2il.b4.cell (i := 0) rfl), (hS2il.b4.cell (i := 3) rfl), trivial⟩ (fun a2im s2io h2in => ?_)
         refine WT.tk 11 h2in rfl rfl (.string (mkS (((gt z61 x21g.f0 x21m).f1).take x24f.toNat))) (fun _ _ => by kernel_rfl) s2io (fun a2ip s2ir h2iq => ?_)
         refine WT.tk 12 h2iq rfl rfl (.bool false) (fun _ _ => by kernel_rfl) s2ir (fun a2is s2iu h2it => ?_)
         refine WT.tk 13 h2it rfl rfl (.bool true) (fun _ _ => by kernel_rfl) s2iu (fun a2iv s2ix h2iw => ?_)
         clear h2he a2hd h2hh a2hg h2hk a2hj h2hn a2hm h2hq a2hp h2ht a2hs h2hw a2hv h2i5 a2i4 h2ij a2ii h2in a2im h2iq a2ip h2it a2is
         refine WT.dn ?_
         refine wp_ret ?_
         have hS2iy := hS2il.drop_
         have hS2iz := hS2iy.drop_
         have hS2j0 := hS2iz.b1
         have hS2j1 := hS2j0.drop_
         have hS2j2 := hS2j1.b1
         have hS2j3 := hS2j2.drop_
         obtain ⟨rfl, rfl, rfl, rfl, rfl⟩ := ret5 H
         repeat (first | with_reducible refine t1 ?_ | with_reducible refine t2 ?_ | with_reducible refine t3 ?_)
         refine body_ret (v := .tuple #[.agg #[.slice A2ia r2i0.f0.length c2ib, i6 r2i0.f1, i6 r2i0.f2.f0, .bool r2i0.f2.f1], .int .u32 ((gt z61 x21g.f0 x21m).f0), .string (mkS (((gt z61 x21g.f0 x21m).f1).take x24f.toNat)), .bool false, .bool true]) h2iw (by kernel_rfl) (res_many (xs := [ResultVar.cell 4 56, ResultVar.tmp 5, ResultVar.tmp 6, ResultVar.tmp 7, ResultVar.tmp 8]) rfl ⟨⟨_, rfl, loadVarN Try.underlying56 rfl (cs := [.slice A2ia r2i0.f0.length c2ib, i6 r2i0.f1, i6 r2i0.f2.f0, .bool r2i0.f2.f1]) (by kernel_rfl) (hS2il.cells (vs := [.slice A2ia r2i0.f0.length c2ib, i6 r2i0.f1, i6 r2i0.f2.f0, .bool r2i0.f2.f1]) rfl)⟩, rfl, rfl, rfl, rfl, trivial⟩ rfl) ?_
         exact ⟨.slice A2ia r2i0.f0.length c2ib, M2i7, rfl, hr2i8, hS2j3⟩
       ·rw [if_neg c258] at H
        cases H
      ·rw [if_neg c257] at H
       cases H
    ·rw [if_neg c23m] at H
     have hb_ : r23c = false := (Bool.eq_false_iff.2 c23m)
     try rw [hb_] at h23l
     clear hb_
     refine wp_then h23l rfl ?_
     refine wp_exit ?_
     refine WL.start ?_
     refine WL.bl 2 2 h23l [(16, i6 (IntKind.i64.wrap (x21m + 1))), (87, i6 (IntKind.i64.wrap (x21m + 1)))] (fun a2j4 h2j5 => ?_)
     refine WL.dn ?_
     have hS2j6 := hS23j.b2
     obtain ⟨M2j7, hp2j8, hS2j9⟩ := k56qfo x21g hr228 hS2j6
     have hS2ja := hS2j9.b1
     have hS2jb := hS2ja.drop_
     exact ⟨kk21y, by omega, x21g, M2j7, x21j, M21k, IntKind.i64.wrap (x21m + 1), h2j5.keep ⟨rfl, rfl, rfl, rfl, rfl, trivial⟩, ⟨H⟩, ⟨by omega⟩, ⟨hS2jb⟩, ⟨hp2j8⟩, ⟨hr21l⟩⟩
   ·rw [if_neg c22g] at H
    cases H
  ·rw [if_neg c22f] at H
   cases H
 ·rw [if_neg c221] at H
  have hb_ : (decide (x21m < (p0.f0.length : Int))) = false := decide_eq_false c221
  try rw [hb_] at h220
  clear hb_
  refine wp_else h220 rfl ?_
  refine wp_exit ?_
  refine wp_seq ?_
  refine WL.start ?_
  obtain ⟨A2jd, c2je, M2jf, hr2jg, hS2jc⟩ := k56qoq hr21i hS21e
  refine WL.oq h220 rfl ?_
  refine owp_rn (.agg #[.slice A2jd x21g.f0.length c2je, i6 x21g.f1, i6 x21g.f2.f0, .bool x21g.f2.f1]) h220 rfl (run_loadN rfl rfl Try.underlying56 rfl (cs := [.slice A2jd x21g.f0.length c2je, i6 x21g.f1, i6 x21g.f2.f0, .bool x21g.f2.f1]) (by kernel_rfl) (hS2jc.cells (vs := [.slice A2jd x21g.f0.length c2je, i6 x21g.f1, i6 x21g.f2.f0, .bool x21g.f2.f1]) rfl)) (fun a2jh h2ji => ?_)
  have hS2jj := hS2jc.b2
  obtain ⟨A2jl, c2jm, M2jn, hr2jo, hS2jk⟩ := k56qoq hr21l hS2jj
  refine WL.oq h2ji rfl ?_
  refine owp_st 0 [.slice A2jd x21g.f0.length c2je, i6 x21g.f1, i6 x21g.f2.f0, .bool x21g.f2.f1] h2ji rfl rfl rfl hS2jk [.slice A2jd x21g.f0.length c2je, i6 x21g.f1, i6 x21g.f2.f0, .bool x21g.f2.f1] (fun a2jp W2jr h2jq hS2js => ?_)
  refine WL.bl 4 6 h2jq [(8, .bool false), (7, .bool false), (6, .string (mkS [])), (5, .int .u32 0)] (fun a2jt h2ju => ?_)
  refine WL.dn ?_
  refine wp_ret ?_
  have hS2jv := hS2js.drop_
  have hS2jw := hS2jv.drop_
  have hS2jx := hS2jw.drop_
  obtain ⟨rfl, rfl, rfl, rfl, rfl⟩ := ret5 H
  repeat (first | with_reducible refine t1 ?_ | with_reducible refine t2 ?_ | with_reducible refine t3 ?_)
  refine body_ret (v := .tuple #[.agg #[.slice A2jd x21g.f0.length c2je, i6 x21g.f1, i6 x21g.f2.f0, .bool x21g.f2.f1], .int .u32 0, .string (mkS []), .bool false, .bool false]) h2ju (by kernel_rfl) (res_many (xs := [ResultVar.cell 4 56, ResultVar.tmp 5, ResultVar.tmp 6, ResultVar.tmp 7, ResultVar.tmp 8]) rfl ⟨⟨_, rfl, loadVarN Try.underlying56 rfl (cs := [.slice A2jd x21g.f0.length c2je, i6 x21g.f1, i6 x21g.f2.f0, .bool x21g.f2.f1]) (by kernel_rfl) (hS2js.cells (vs := [.slice A2jd x21g.f0.length c2je, i6 x21g.f1, i6 x21g.f2.f0, .bool x21g.f2.f1]) rfl)⟩, rfl, rfl, rfl, rfl, trivial⟩ rfl) ?_
  exact ⟨.slice A2jd x21g.f0.length c2je, M2jf, rfl, hr2jg, hS2jx⟩

/-! ### (louver/louverref10.W).Grow -/
def louverref10qW_Grow.f (p0 : S41) (p1 : Int) (p2 : Bool) : Option (S41 × Int) := if (IntKind.i64.wrap (p0.f0 + p1)) > 2147483647 then (if p0.f1 = true then (if p2 = true then (some ((⟨p0.f0, p0.f1⟩ : S41), 1)) else (some ((⟨p0.f0, p0.f1⟩ : S41), 2))) else (some ((⟨p0.f0, p0.f1⟩ : S41), 1))) else (bnd1 (louverref10qbetween.f (IntKind.i64.wrap (p0.f0 + p1))) fun r150 => (some ((⟨r150, p0.f1⟩ : S41), 0)))
set_option maxHeartbeats 20000000 in
set_option maxRecDepth 100000 in
theorem louverref10qW_Grow.calls {b : Nat} {w0 W : World} {R : Frag} {Fs : List Frag} {p0 : S41} {p1 : Int} {p2 : Bool}  {r0q : S41} {r1q : Int}  (H : louverref10qW_Grow.f p0 p1 p2 = some (r0q, r1q)) (hS : St b w0 W R (Fs)) :
  Calls Try.prog 54 ([.agg #[i6 p0.f0, .bool p0.f1], i6 p1, .bool p2] : List Value).toArray W (fun e W' => e = .returned (.tuple #[.agg #[i6 r0q.f0, .bool r0q.f1], i6 r1q]) ∧ St b w0 W' R (Fs)) := by
 unfold louverref10qW_Grow.f at H
 refine calls_enter Try.func54 rfl 27 rfl (by kernel_rfl) (fun a h => ?_)
 refine wp_seq ?_
 refine WL.start ?_
 refine WL.oq h rfl ?_
 refine owp_nw (fun g_ => (pt g_)) (.cells ([i6 p0.f0, .bool p0.f1] : List Value).toArray 41 (0, 0)) h rfl hS (fun a12u W12w g12x h12v hS12y => ?_)
 refine WL.oq h12v rfl ?_
 refine owp_nw (fun g_ => (pt g_)) (.cells ([i6 0, .bool false] : List Value).toArray 41 (0, 0)) h12v rfl hS12y (fun a12z W131 g132 h130 hS133 => ?_)
 refine WL.bl 1 3 h130 [(7, i6 0)] (fun a134 h135 => ?_)
 refine WL.dn ?_
 refine wp_seq ?_
 refine WL.start ?_
 refine WL.bl 1 1 h135 [(9, pt g12x)] (fun a136 h137 => ?_)
 have hS138 := hS133.b1
 refine WL.oq h137 rfl ?_
 refine owp_rn (i6 p0.f0) h137 rfl (run_load1 rfl rfl Try.underlying2 rfl (hS138.cell (i := 0) rfl)) (fun a139 h13a => ?_)
 refine WL.bl 3 5 h13a [(8, i6 (IntKind.i64.wrap (p0.f0 + p1))), (12, i6 (IntKind.i64.wrap (p0.f0 + p1))), (11, i6 p1)] (fun a13b h13c => ?_)
 refine WL.dn ?_
 refine wp_seq ?_
 refine wp_seq ?_
 refine WL.start ?_
 refine WL.bl 2 2 h13c [(14, .bool (decide ((IntKind.i64.wrap (p0.f0 + p1)) > 2147483647))), (13, i6 (IntKind.i64.wrap (p0.f0 + p1)))] (fun a13d h13e => ?_)
 refine WL.dn ?_
 clear h12v a12u h130 a12z h135 a134 h137 a136 h13a a139 h13c a13b
 by_cases c13f : (IntKind.i64.wrap (p0.f0 + p1)) > 2147483647
 ·rw [if_pos c13f] at H
  have hb_ : (decide ((IntKind.i64.wrap (p0.f0 + p1)) > 2147483647)) = true := decide_eq_true c13f
  try rw [hb_] at h13e
  clear hb_
  refine wp_then h13e rfl ?_
  refine wp_seq ?_
  refine wp_seq ?_
  refine WL.start ?_
  refine WL.bl 1 1 h13e [(15, .pointer (some ⟨g12x, 1, none⟩))] (fun a13g h13h => ?_)
  refine WL.oq h13h rfl ?_
  refine owp_rn (.bool p0.f1) h13h rfl (run_load1 rfl rfl Try.underlying4 rfl (hS138.cell (i := 1) rfl)) (fun a13i h13j => ?_)
  refine WL.bl 1 3 h13j [(17, .bool p0.f1)] (fun a13k h13l => ?_)
  clear h13e a13d h13h a13g h13j a13i
  by_cases c13m : p0.f1 = true
  ·rw [if_pos c13m] at H
   have hb_ : p0.f1 = true := c13m
   try rw [hb_] at h13l
   clear hb_
   refine WL.oq h13l rfl (owp_rk (.bool p2) h13l rfl (fun a13n h13o => ?_))
   refine WL.oq h13o rfl (owp_rk (.bool (!p2)) h13o rfl (fun a13p h13q => ?_))
   refine WL.bl 1 6 h13q [(20, .bool (!p2))] (fun a13r h13s => ?_)
   refine WL.dn ?_
   clear h13l a13k h13o a13n h13q a13p
   by_cases c13t : p2 = true
   ·rw [if_pos c13t] at H
    have hb_ : p2 = true := c13t
    try rw [hb_] at h13s
    clear hb_
    refine wp_else h13s rfl ?_
    refine wp_skip ?_
    refine wp_seq ?_
    refine WL.start ?_
    refine WL.oq h13s rfl ?_
    refine owp_rn (.agg #[i6 p0.f0, .bool p0.f1]) h13s rfl (run_loadN rfl rfl Try.underlying41 rfl (cs := [i6 p0.f0, .bool p0.f1]) (by kernel_rfl) (hS138.cells (vs := [i6 p0.f0, .bool p0.f1]) rfl)) (fun a13u h13v => ?_)
    have hS13w := hS138.b1
    refine WL.oq h13v rfl ?_
    refine owp_st 0 [i6 p0.f0, .bool p0.f1] h13v rfl rfl rfl hS13w [i6 p0.f0, .bool p0.f1] (fun a13x W13z h13y hS140 => ?_)
    refine WL.bl 1 3 h13y [(7, i6 1)] (fun a141 h142 => ?_)
    refine WL.dn ?_
    refine wp_ret ?_
    have hS143 := hS140.drop_
    have hS144 := hS143.drop_
    obtain ⟨rfl, rfl⟩ := ret2 H
    repeat (first | with_reducible refine t1 ?_ | with_reducible refine t2 ?_ | with_reducible refine t3 ?_)
    refine body_ret (v := .tuple #[.agg #[i6 p0.f0, .bool p0.f1], i6 1]) h142 (by kernel_rfl) (res_many (xs := [ResultVar.cell 6 41, ResultVar.tmp 7]) rfl ⟨⟨_, rfl, loadVarN Try.underlying41 rfl (cs := [i6 p0.f0, .bool p0.f1]) (by kernel_rfl) (hS140.cells (vs := [i6 p0.f0, .bool p0.f1]) rfl)⟩, rfl, trivial⟩ rfl) ?_
    exact ⟨rfl, hS144⟩
   ·rw [if_neg c13t] at H
    have hb_ : p2 = false := (Bool.eq_false_iff.2 c13t)
    try rw [hb_] at h13s
    clear hb_
    refine wp_then h13s rfl ?_
    refine wp_seq ?_
    refine WL.start ?_
    refine WL.oq h13s rfl ?_
    refine owp_rn (.agg #[i6 p0.f0, .bool p0.f1]) h13s rfl (run_loadN rfl rfl Try.underlying41 rfl (cs := [i6 p0.f0, .bool p0.f1]) (by kernel_rfl) (hS138.cells (vs := [i6 p0.f0, .bool p0.f1]) rfl)) (fun a145 h146 => ?_)
    have hS147 := hS138.b1
    refine WL.oq h146 rfl ?_
    refine owp_st 0 [i6 p0.f0, .bool p0.f1] h146 rfl rfl rfl hS147 [i6 p0.f0, .bool p0.f1] (fun a148 W14a h149 hS14b => ?_)
    refine WL.bl 1 3 h149 [(7, i6 2)] (fun a14c h14d => ?_)
    refine WL.dn ?_
    refine wp_ret ?_
    have hS14e := hS14b.drop_
    have hS14f := hS14e.drop_
    obtain ⟨rfl, rfl⟩ := ret2 H
    repeat (first | with_reducible refine t1 ?_ | with_reducible refine t2 ?_ | with_reducible refine t3 ?_)
    refine body_ret (v := .tuple #[.agg #[i6 p0.f0, .bool p0.f1], i6 2]) h14d (by kernel_rfl) (res_many (xs := [ResultVar.cell 6 41, ResultVar.tmp 7]) rfl ⟨⟨_, rfl, loadVarN Try.underlying41 rfl (cs := [i6 p0.f0, .bool p0.f1]) (by kernel_rfl) (hS14b.cells (vs := [i6 p0.f0, .bool p0.f1]) rfl)⟩, rfl, trivial⟩ rfl) ?_
    exact ⟨rfl, hS14f⟩
  ·rw [if_neg c13m] at H
   have hb_ : p0.f1 = false := (Bool.eq_false_iff.2 c13m)
   try rw [hb_] at h13l
   clear hb_
   refine WL.sk h13l rfl rfl (fun a14g h14h => ?_)
   refine WL.sk h14h rfl rfl (fun a14i h14j => ?_)
   refine WL.bl 1 6 h14j [(20, .bool false)] (fun a14k h14l => ?_)
   refine WL.dn ?_
   refine wp_else h14l rfl ?_
   refine wp_skip ?_
   refine wp_seq ?_
   refine WL.start ?_
   refine WL.oq h14l rfl ?_
   refine owp_rn (.agg #[i6 p0.f0, .bool p0.f1]) h14l rfl (run_loadN rfl rfl Try.underlying41 rfl (cs := [i6 p0.f0, .bool p0.f1]) (by kernel_rfl) (hS138.cells (vs := [i6 p0.f0, .bool p0.f1]) rfl)) (fun a14m h14n => ?_)
   have hS14o := hS138.b1
   refine WL.oq h14n rfl ?_
   refine owp_st 0 [i6 p0.f0, .bool p0.f1] h14n rfl rfl rfl hS14o [i6 p0.f0, .bool p0.f1] (fun a14p W14r h14q hS14s => ?_)
   refine WL.bl 1 3 h14q [(7, i6 1)] (fun a14t h14u => ?_)
   refine WL.dn ?_
   refine wp_ret ?_
   have hS14v := hS14s.drop_
   have hS14w := hS14v.drop_
   obtain ⟨rfl, rfl⟩ := ret2 H
   repeat (first | with_reducible refine t1 ?_ | with_reducible refine t2 ?_ | with_reducible refine t3 ?_)
   refine body_ret (v := .tuple #[.agg #[i6 p0.f0, .bool p0.f1], i6 1]) h14u (by kernel_rfl) (res_many (xs := [ResultVar.cell 6 41, ResultVar.tmp 7]) rfl ⟨⟨_, rfl, loadVarN Try.underlying41 rfl (cs := [i6 p0.f0, .bool p0.f1]) (by kernel_rfl) (hS14s.cells (vs := [i6 p0.f0, .bool p0.f1]) rfl)⟩, rfl, trivial⟩ rfl) ?_
   exact ⟨rfl, hS14w⟩
 ·rw [if_neg c13f] at H
  have hb_ : (decide ((IntKind.i64.wrap (p0.f0 + p1)) > 2147483647)) = false := decide_eq_false c13f
  try rw [hb_] at h13e
  clear hb_
  refine wp_else h13e rfl ?_
  refine wp_skip ?_
  refine wp_seq ?_
  refine WL.start ?_
  refine WL.bl 1 1 h13e [(23, i6 (IntKind.i64.wrap (p0.f0 + p1)))] (fun a14x h14y => ?_)
  obtain ⟨r150, A14z, H⟩ := bind1 H
  refine WL.oq h14y rfl ?_
  refine owp_call [i6 (IntKind.i64.wrap (p0.f0 + p1))] h14y rfl (by kernel_rfl) rfl Try.func35 (by kernel_rfl) rfl (by kernel_rfl) (louverref10qbetween.calls  A14z hS138) (fun e152 W151 hp153 => ?_)
  obtain ⟨rfl, hS156⟩ := hp153
  refine ⟨_, rfl, fun a154 h155 => ?_⟩
  refine WL.bl 1 3 h155 [(25, pt g12x)] (fun a157 h158 => ?_)
  refine WL.oq h158 rfl ?_
  refine owp_st 0 [i6 r150] h158 rfl rfl rfl hS156 [i6 r150, .bool p0.f1] (fun a159 W15b h15a hS15c => ?_)
  refine WL.dn ?_
  refine wp_seq ?_
  refine WL.start ?_
  refine WL.oq h15a rfl ?_
  refine owp_rn (.agg #[i6 r150, .bool p0.f1]) h15a rfl (run_loadN rfl rfl Try.underlying41 rfl (cs := [i6 r150, .bool p0.f1]) (by kernel_rfl) (hS15c.cells (vs := [i6 r150, .bool p0.f1]) rfl)) (fun a15d h15e => ?_)
  have hS15f := hS15c.b1
  refine WL.oq h15e rfl ?_
  refine owp_st 0 [i6 r150, .bool p0.f1] h15e rfl rfl rfl hS15f [i6 r150, .bool p0.f1] (fun a15g W15i h15h hS15j => ?_)
  refine WL.bl 1 3 h15h [(7, i6 0)] (fun a15k h15l => ?_)
  refine WL.dn ?_
  refine wp_ret ?_
  have hS15m := hS15j.drop_
  have hS15n := hS15m.drop_
  obtain ⟨rfl, rfl⟩ := ret2 H
  repeat (first | with_reducible refine t1 ?_ | with_reducible refine t2 ?_ | with_reducible refine t3 ?_)
  refine body_ret (v := .tuple #[.agg #[i6 r150, .bool p0.f1], i6 0]) h15l (by kernel_rfl) (res_many (xs := [ResultVar.cell 6 41, ResultVar.tmp 7]) rfl ⟨⟨_, rfl, loadVarN Try.underlying41 rfl (cs := [i6 r150, .bool p0.f1]) (by kernel_rfl) (hS15j.cells (vs := [i6 r150, .bool p0.f1]) rfl)⟩, rfl, trivial⟩ rfl) ?_
  exact ⟨rfl, hS15n⟩

/-! ### (louver/louverref13.R).Grow -/
def louverref13qR_Grow.f (k : Nat) (p0 : S56) (p1 : Int) (p2 : Int) : Option (S56 × Int) := if p1 = 0 then (bnd2 (louverref10qW_Grow.f (⟨p0.f2.f0, p0.f2.f1⟩ : S41) (IntKind.i64.wrap p2) false) fun r16d r16e => (some ((⟨p0.f0, p0.f1, (⟨r16d.f0, r16d.f1⟩ : S41)⟩ : S56), r16e))) else (bnd1 (louverref13qR_Find.f k (⟨p0.f0, p0.f1, (⟨p0.f2.f0, p0.f2.f1⟩ : S41)⟩ : S56) p1) fun r17s => (if r17s < 0 then (some ((⟨p0.f0, p0.f1, (⟨p0.f2.f0, p0.f2.f1⟩ : S41)⟩ : S56), 0)) else (if 0 ≤ r17s then (if r17s < (p0.f0.length : Int) then (bnd2 (louverref10qW_Grow.f (⟨(gt z61 p0.f0 r17s).f4.f0, (gt z61 p0.f0 r17s).f4.f1⟩ : S41) (IntKind.i64.wrap p2) false) fun r19k r19l => (bnd1 (louverref13qR_with.f (⟨p0.f0, p0.f1, (⟨p0.f2.f0, p0.f2.f1⟩ : S41)⟩ : S56) r17s (⟨(gt z61 p0.f0 r17s).f0, (gt z61 p0.f0 r17s).f1, (gt z61 p0.f0 r17s).f2, (gt z61 p0.f0 r17s).f3, (⟨r19k.f0, r19k.f1⟩ : S41)⟩ : S61)) fun r1ao => (some ((⟨r1ao.f0, r1ao.f1, (⟨r1ao.f2.f0, r1ao.f2.f1⟩ : S41)⟩ : S56), r19l)))) else (none)) else (none))))
set_option maxHeartbeats 20000000 in
set_option maxRecDepth 100000 in
theorem louverref13qR_Grow.calls (k : Nat) {b : Nat} {w0 W : World} {R : Frag} {Fs : List Frag} {p0 : S56} {p1 : Int} {p2 : Int} {v0q0 : Value} {M0q0 : Frag} {r0q : S56} {r1q : Int} (hp0q0 : Row k61 61 b w0 R v0q0 p0.f0 M0q0) (H : louverref13qR_Grow.f k p0 p1 p2 = some (r0q, r1q)) (hS : St b w0 W R (M0q0 :: Fs)) :
  Calls Try.prog 41 ([.agg #[v0q0, i6 p0.f1, i6 p0.f2.f0, .bool p0.f2.f1], .int .u32 p1, .int .u32 p2] : List Value).toArray W (fun e W' => ∃ (u0qv0qf0 : Value) (Nu0qv0qf0 : Frag), e = .returned (.tuple #[.agg #[u0qv0qf0, i6 r0q.f1, i6 r0q.f2.f0, .bool r0q.f2.f1], i6 r1q]) ∧ Row k61 61 b w0 R u0qv0qf0 r0q.f0 Nu0qv0qf0 ∧ St b w0 W' R (Nu0qv0qf0 :: Fs)) := by
 obtain ⟨A0q0, c0q0, rfl⟩ := hp0q0.form
 unfold louverref13qR_Grow.f at H
 refine calls_enter Try.func41 rfl 54 rfl (by kernel_rfl) (fun a h => ?_)
 refine wp_seq ?_
 refine WL.start ?_
 refine WL.oq h rfl ?_
 refine owp_nw (fun g_ => (pt g_)) (.cells ([.slice A0q0 p0.f0.length c0q0, i6 p0.f1, i6 p0.f2.f0, .bool p0.f2.f1] : List Value).toArray 56 (0, 0)) h rfl hS (fun a15q W15s g15t h15r hS15u => ?_)
 refine WL.oq h15r rfl ?_
 refine owp_nw (fun g_ => (pt g_)) (.cells ([.slice none 0 0, i6 0, i6 0, .bool false] : List Value).toArray 56 (0, 0)) h15r rfl hS15u (fun a15v W15x g15y h15w hS15z => ?_)
 refine WL.bl 1 3 h15w [(7, i6 0)] (fun a160 h161 => ?_)
 refine WL.dn ?_
 refine wp_seq ?_
 refine wp_seq ?_
 refine WL.start ?_
 refine WL.bl 2 2 h161 [(15, .bool (decide (p1 = 0))), (14, .int .u32 p1)] (fun a162 h163 => ?_)
 refine WL.dn ?_
 clear h15r a15q h15w a15v h161 a160
 by_cases c164 : p1 = 0
 ·rw [if_pos c164] at H
  have hb_ : (decide (p1 = 0)) = true := decide_eq_true c164
  try rw [hb_] at h163
  clear hb_
  refine wp_then h163 rfl ?_
  refine wp_seq ?_
  refine WL.start ?_
  refine WL.bl 1 1 h163 [(17, .pointer (some ⟨g15t, 2, none⟩))] (fun a165 h166 => ?_)
  have hS167 := hS15z.b1
  refine WL.oq h166 rfl ?_
  refine owp_rn (.agg #[i6 p0.f2.f0, .bool p0.f2.f1]) h166 rfl (run_loadN rfl rfl Try.underlying41 rfl (cs := [i6 p0.f2.f0, .bool p0.f2.f1]) (by kernel_rfl) (hS167.cells (vs := [i6 p0.f2.f0, .bool p0.f2.f1]) rfl)) (fun a168 h169 => ?_)
  refine WL.bl 2 4 h169 [(20, i6 (IntKind.i64.wrap p2)), (19, .int .u32 p2)] (fun a16a h16b => ?_)
  obtain ⟨r16d, r16e, A16c, H⟩ := bind2 H
  refine WL.oq h16b rfl ?_
  refine owp_call [.agg #[i6 p0.f2.f0, .bool p0.f2.f1], i6 (IntKind.i64.wrap p2), .bool false] h16b rfl (by kernel_rfl) rfl Try.func54 (by kernel_rfl) rfl (by kernel_rfl) (louverref10qW_Grow.calls (p0 := (⟨p0.f2.f0, p0.f2.f1⟩ : S41))  A16c hS167) (fun e16g W16f hp16h => ?_)
  obtain ⟨rfl, hS16k⟩ := hp16h
  refine ⟨_, rfl, fun a16i h16j => ?_⟩
  refine WL.bl 3 8 h16j [(23, i6 r16e), (22, .agg #[i6 r16d.f0, .bool r16d.f1]), (16, .tuple #[.agg #[i6 r16d.f0, .bool r16d.f1], i6 r16e])] (fun a16l h16m => ?_)
  refine WL.oq h16m rfl ?_
  refine owp_nw (fun g_ => (pt g_)) (.cells ([i6 0, .bool false] : List Value).toArray 41 (0, 0)) h16m rfl hS16k (fun a16n W16p g16q h16o hS16r => ?_)
  refine WL.oq h16o rfl ?_
  refine owp_st 0 [i6 r16d.f0, .bool r16d.f1] h16o rfl rfl rfl hS16r [i6 r16d.f0, .bool r16d.f1] (fun a16s W16u h16t hS16v => ?_)
  refine WL.bl 1 11 h16t [(9, i6 r16e)] (fun a16w h16x => ?_)
  refine WL.dn ?_
  refine wp_seq ?_
  refine WL.start ?_
  refine WL.oq h16x rfl ?_
  refine owp_rn (.agg #[i6 r16d.f0, .bool r16d.f1]) h16x rfl (run_loadN rfl rfl Try.underlying41 rfl (cs := [i6 r16d.f0, .bool r16d.f1]) (by kernel_rfl) (hS16v.cells (vs := [i6 r16d.f0, .bool r16d.f1]) rfl)) (fun a16y h16z => ?_)
  refine WL.bl 1 2 h16z [(25, .pointer (some ⟨g15t, 2, none⟩))] (fun a170 h171 => ?_)
  have hS172 := hS16v.b1
  refine WL.oq h171 rfl ?_
  refine owp_st 2 [i6 r16d.f0, .bool r16d.f1] h171 rfl rfl rfl hS172 [.slice A0q0 p0.f0.length c0q0, i6 p0.f1, i6 r16d.f0, .bool r16d.f1] (fun a173 W175 h174 hS176 => ?_)
  refine WL.dn ?_
  refine wp_seq ?_
  refine WL.start ?_
  refine WL.oq h174 rfl ?_
  refine owp_rn (.agg #[.slice A0q0 p0.f0.length c0q0, i6 p0.f1, i6 r16d.f0, .bool r16d.f1]) h174 rfl (run_loadN rfl rfl Try.underlying56 rfl (cs := [.slice A0q0 p0.f0.length c0q0, i6 p0.f1, i6 r16d.f0, .bool r16d.f1]) (by kernel_rfl) (hS176.cells (vs := [.slice A0q0 p0.f0.length c0q0, i6 p0.f1, i6 r16d.f0, .bool r16d.f1]) rfl)) (fun a177 h178 => ?_)
  clear h163 a162 h166 a165 h169 a168 h16b a16a h16j a16i h16m a16l h16o a16n h16t a16s h16x a16w h16z a16y h171 a170 h174 a173
  refine WL.bl 1 2 h178 [(27, i6 r16e)] (fun a179 h17a => ?_)
  have hS17b := hS176.b2
  refine WL.oq h17a rfl ?_
  refine owp_st 0 [.slice A0q0 p0.f0.length c0q0, i6 p0.f1, i6 r16d.f0, .bool r16d.f1] h17a rfl rfl rfl hS17b [.slice A0q0 p0.f0.length c0q0, i6 p0.f1, i6 r16d.f0, .bool r16d.f1] (fun a17c W17e h17d hS17f => ?_)
  refine WL.bl 1 4 h17d [(7, i6 r16e)] (fun a17g h17h => ?_)
  refine WL.dn ?_
  refine wp_ret ?_
  have hS17i := hS17f.drop_
  have hS17j := hS17i.drop_
  have hS17k := hS17j.drop_
  obtain ⟨rfl, rfl⟩ := ret2 H
  repeat (first | with_reducible refine t1 ?_ | with_reducible refine t2 ?_ | with_reducible refine t3 ?_)
  refine body_ret (v := .tuple #[.agg #[.slice A0q0 p0.f0.length c0q0, i6 p0.f1, i6 r16d.f0, .bool r16d.f1], i6 r16e]) h17h (by kernel_rfl) (res_many (xs := [ResultVar.cell 6 56, ResultVar.tmp 7]) rfl ⟨⟨_, rfl, loadVarN Try.underlying56 rfl (cs := [.slice A0q0 p0.f0.length c0q0, i6 p0.f1, i6 r16d.f0, .bool r16d.f1]) (by kernel_rfl) (hS17f.cells (vs := [.slice A0q0 p0.f0.length c0q0, i6 p0.f1, i6 r16d.f0, .bool r16d.f1]) rfl)⟩, rfl, trivial⟩ rfl) ?_
  exact ⟨.slice A0q0 p0.f0.length c0q0, M0q0, rfl, hp0q0, hS17k⟩
 ·rw [if_neg c164] at H
  have hb_ : (decide (p1 = 0)) = false := decide_eq_false c164
  try rw [hb_] at h163
  clear hb_
  refine wp_else h163 rfl ?_
  refine wp_skip ?_
  refine wp_seq ?_
  refine WL.start ?_
  have hS17l := hS15z.b1
  refine WL.oq h163 rfl ?_
  refine owp_rn (.agg #[.slice A0q0 p0.f0.length c0q0, i6 p0.f1, i6 p0.f2.f0, .bool p0.f2.f1]) h163 rfl (run_loadN rfl rfl Try.underlying56 rfl (cs := [.slice A0q0 p0.f0.length c0q0, i6 p0.f1, i6 p0.f2.f0, .bool p0.f2.f1]) (by kernel_rfl) (hS17l.cells (vs := [.slice A0q0 p0.f0.length c0q0, i6 p0.f1, i6 p0.f2.f0, .bool p0.f2.f1]) rfl)) (fun a17m h17n => ?_)
  refine WL.bl 1 2 h17n [(29, .int .u32 p1)] (fun a17o h17p => ?_)
  have hS17q := hS17l.b2
  obtain ⟨r17s, A17r, H⟩ := bind1 H
  refine WL.oq h17p rfl ?_
  refine owp_call [.agg #[.slice A0q0 p0.f0.length c0q0, i6 p0.f1, i6 p0.f2.f0, .bool p0.f2.f1], .int .u32 p1] h17p rfl (by kernel_rfl) rfl Try.func25 (by kernel_rfl) rfl (by kernel_rfl) (louverref13qR_Find.calls (p0 := (⟨p0.f0, p0.f1, (⟨p0.f2.f0, p0.f2.f1⟩ : S41)⟩ : S56)) k hp0q0.rds A17r (hS17q.pool)) (fun e17u W17t hp17v => ?_)
  obtain ⟨rfl, hS17y⟩ := hp17v
  have hS17z : St b w0 W17t R (M0q0 :: (bx g15t 56 [.slice A0q0 p0.f0.length c0q0, i6 p0.f1, i6 p0.f2.f0, .bool p0.f2.f1]) :: (bx g15y 56 [.slice none 0 0, i6 0, i6 0, .bool false]) :: Fs) := hS17y.unpool
  refine ⟨_, rfl, fun a17w h17x => ?_⟩
  refine WL.bl 1 4 h17x [(10, i6 r17s)] (fun a180 h181 => ?_)
  refine WL.dn ?_
  refine wp_seq ?_
  refine wp_seq ?_
  refine WL.start ?_
  refine WL.bl 2 2 h181 [(32, .bool (decide (r17s < 0))), (31, i6 r17s)] (fun a182 h183 => ?_)
  refine WL.dn ?_
  clear h163 a162 h17n a17m h17p a17o h17x a17w h181 a180
  by_cases c184 : r17s < 0
  ·rw [if_pos c184] at H
   have hb_ : (decide (r17s < 0)) = true := decide_eq_true c184
   try rw [hb_] at h183
   clear hb_
   refine wp_then h183 rfl ?_
   refine wp_seq ?_
   refine WL.start ?_
   have hS185 := hS17z.b1
   refine WL.oq h183 rfl ?_
   refine owp_rn (.agg #[.slice A0q0 p0.f0.length c0q0, i6 p0.f1, i6 p0.f2.f0, .bool p0.f2.f1]) h183 rfl (run_loadN rfl rfl Try.underlying56 rfl (cs := [.slice A0q0 p0.f0.length c0q0, i6 p0.f1, i6 p0.f2.f0, .bool p0.f2.f1]) (by kernel_rfl) (hS185.cells (vs := [.slice A0q0 p0.f0.length c0q0, i6 p0.f1, i6 p0.f2.f0, .bool p0.f2.f1]) rfl)) (fun a186 h187 => ?_)
   have hS188 := hS185.b2
   refine WL.oq h187 rfl ?_
   refine owp_st 0 [.slice A0q0 p0.f0.length c0q0, i6 p0.f1, i6 p0.f2.f0, .bool p0.f2.f1] h187 rfl rfl rfl hS188 [.slice A0q0 p0.f0.length c0q0, i6 p0.f1, i6 p0.f2.f0, .bool p0.f2.f1] (fun a189 W18b h18a hS18c => ?_)
   refine WL.bl 1 3 h18a [(7, i6 0)] (fun a18d h18e => ?_)
   refine WL.dn ?_
   refine wp_ret ?_
   have hS18f := hS18c.drop_
   have hS18g := hS18f.drop_
   obtain ⟨rfl, rfl⟩ := ret2 H
   repeat (first | with_reducible refine t1 ?_ | with_reducible refine t2 ?_ | with_reducible refine t3 ?_)
   refine body_ret (v := .tuple #[.agg #[.slice A0q0 p0.f0.length c0q0, i6 p0.f1, i6 p0.f2.f0, .bool p0.f2.f1], i6 0]) h18e (by kernel_rfl) (res_many (xs := [ResultVar.cell 6 56, ResultVar.tmp 7]) rfl ⟨⟨_, rfl, loadVarN Try.underlying56 rfl (cs := [.slice A0q0 p0.f0.length c0q0, i6 p0.f1, i6 p0.f2.f0, .bool p0.f2.f1]) (by kernel_rfl) (hS18c.cells (vs := [.slice A0q0 p0.f0.length c0q0, i6 p0.f1, i6 p0.f2.f0, .bool p0.f2.f1]) rfl)⟩, rfl, trivial⟩ rfl) ?_
   exact ⟨.slice A0q0 p0.f0.length c0q0, M0q0, rfl, hp0q0, hS18g⟩
  ·rw [if_neg c184] at H
   have hb_ : (decide (r17s < 0)) = false := decide_eq_false c184
   try rw [hb_] at h183
   clear hb_
   refine wp_else h183 rfl ?_
   refine wp_skip ?_
   refine wp_seq ?_
   refine WL.start ?_
   refine WL.bl 1 1 h183 [(34, pt g15t)] (fun a18h h18i => ?_)
   have hS18j := hS17z.b1
   refine WL.oq h18i rfl ?_
   refine owp_rn (.slice A0q0 p0.f0.length c0q0) h18i rfl (run_load1 rfl rfl Try.underlying54 rfl (hS18j.cell (i := 0) rfl)) (fun a18k h18l => ?_)
   refine WL.bl 1 3 h18l [(36, i6 r17s)] (fun a18m h18n => ?_)
   clear h183 a182 h18i a18h h18l a18k
   by_cases c18o : 0 ≤ r17s
   ·rw [if_pos c18o] at H
    by_cases c18p : r17s < (p0.f0.length : Int)
    ·rw [if_pos c18p] at H
     have hi18s : 0 ≤ r17s := by first | assumption | omega
     have hi18t : r17s < (p0.f0.length : Int) := by first | assumption | omega
     obtain ⟨ad18q, _, ha18r, -, -⟩ := Rds.elemAny hp0q0.rds hi18s (gt_get (z := z61) hi18s hi18t)
     refine WL.oq h18n rfl ?_
     refine owp_rn (.pointer (some (ad18q.add (r17s.toNat * 6)))) h18n rfl (run_idx (ad := ad18q) (sz := 6) rfl (by rw [← ha18r]; rfl) rfl Try.underlying54 (by kernel_rfl) hi18s hi18t) (fun a18u h18v => ?_)
     have hS18w := hS18j.b1
     obtain ⟨ad18x, cs18y, ha18z, hr191, hc190⟩ := Rds.elemAny hp0q0.rds hi18s (gt_get (z := z61) hi18s hi18t)
     rw [ha18r] at ha18z; obtain rfl := Option.some.inj ha18z
     obtain rfl := k61qrd hr191
     refine WL.oq h18v rfl ?_
     refine owp_rn (.agg #[.int .u32 ((gt z61 p0.f0 r17s).f0), .string (mkS ((gt z61 p0.f0 r17s).f1)), .bool ((gt z61 p0.f0 r17s).f2), .bool ((gt z61 p0.f0 r17s).f3), i6 ((gt z61 p0.f0 r17s).f4.f0), .bool ((gt z61 p0.f0 r17s).f4.f1)]) h18v rfl (run_loadN rfl rfl Try.underlying61 rfl (cs := [.int .u32 ((gt z61 p0.f0 r17s).f0), .string (mkS ((gt z61 p0.f0 r17s).f1)), .bool ((gt z61 p0.f0 r17s).f2), .bool ((gt z61 p0.f0 r17s).f3), i6 ((gt z61 p0.f0 r17s).f4.f0), .bool ((gt z61 p0.f0 r17s).f4.f1)]) (by kernel_rfl) (hc190 _ (fun _ _ hk_ => (hS18w).pool.kn hk_))) (fun a192 h193 => ?_)
     refine WL.oq h193 rfl ?_
     refine owp_nw (fun g_ => (pt g_)) (.cells ([.int .u32 0, .string (mkS []), .bool false, .bool false, i6 0, .bool false] : List Value).toArray 61 (0, 0)) h193 rfl hS18w (fun a194 W196 g197 h195 hS198 => ?_)
     refine WL.oq h195 rfl ?_
     refine owp_st 0 [.int .u32 ((gt z61 p0.f0 r17s).f0), .string (mkS ((gt z61 p0.f0 r17s).f1)), .bool ((gt z61 p0.f0 r17s).f2), .bool ((gt z61 p0.f0 r17s).f3), i6 ((gt z61 p0.f0 r17s).f4.f0), .bool ((gt z61 p0.f0 r17s).f4.f1)] h195 rfl rfl rfl hS198 [.int .u32 ((gt z61 p0.f0 r17s).f0), .string (mkS ((gt z61 p0.f0 r17s).f1)), .bool ((gt z61 p0.f0 r17s).f2), .bool ((gt z61 p0.f0 r17s).f3), i6 ((gt z61 p0.f0 r17s).f4.f0), .bool ((gt z61 p0.f0 r17s).f4.f1)] (fun a199 W19b h19a hS19c => ?_)
     refine WL.dn ?_
     refine wp_seq ?_
     refine WL.start ?_
     refine WL.bl 1 1 h19a [(40, .pointer (some ⟨g197, 4, none⟩))] (fun a19d h19e => ?_)
     refine WL.oq h19e rfl ?_
     refine owp_rn (.agg #[i6 ((gt z61 p0.f0 r17s).f4.f0), .bool ((gt z61 p0.f0 r17s).f4.f1)]) h19e rfl (run_loadN rfl rfl Try.underlying41 rfl (cs := [i6 ((gt z61 p0.f0 r17s).f4.f0), .bool ((gt z61 p0.f0 r17s).f4.f1)]) (by kernel_rfl) (hS19c.cells (vs := [i6 ((gt z61 p0.f0 r17s).f4.f0), .bool ((gt z61 p0.f0 r17s).f4.f1)]) rfl)) (fun a19f h19g => ?_)
     refine WL.bl 2 4 h19g [(43, i6 (IntKind.i64.wrap p2)), (42, .int .u32 p2)] (fun a19h h19i => ?_)
     obtain ⟨r19k, r19l, A19j, H⟩ := bind2 H
     refine WL.oq h19i rfl ?_
     refine owp_call [.agg #[i6 ((gt z61 p0.f0 r17s).f4.f0), .bool ((gt z61 p0.f0 r17s).f4.f1)], i6 (IntKind.i64.wrap p2), .bool false] h19i rfl (by kernel_rfl) rfl Try.func54 (by kernel_rfl) rfl (by kernel_rfl) (louverref10qW_Grow.calls (p0 := (⟨(gt z61 p0.f0 r17s).f4.f0, (gt z61 p0.f0 r17s).f4.f1⟩ : S41))  A19j hS19c) (fun e19n W19m hp19o => ?_)
     obtain ⟨rfl, hS19r⟩ := hp19o
     refine ⟨_, rfl, fun a19p h19q => ?_⟩
     refine WL.bl 3 8 h19q [(46, i6 r19l), (45, .agg #[i6 r19k.f0, .bool r19k.f1]), (39, .tuple #[.agg #[i6 r19k.f0, .bool r19k.f1], i6 r19l])] (fun a19s h19t => ?_)
     refine WL.oq h19t rfl ?_
     refine owp_nw (fun g_ => (pt g_)) (.cells ([i6 0, .bool false] : List Value).toArray 41 (0, 0)) h19t rfl hS19r (fun a19u W19w g19x h19v hS19y => ?_)
     refine WL.oq h19v rfl ?_
     refine owp_st 0 [i6 r19k.f0, .bool r19k.f1] h19v rfl rfl rfl hS19y [i6 r19k.f0, .bool r19k.f1] (fun a19z W1a1 h1a0 hS1a2 => ?_)
     refine WL.bl 1 11 h1a0 [(13, i6 r19l)] (fun a1a3 h1a4 => ?_)
     clear h18n a18m h18v a18u h193 a192 h195 a194 h19a a199 h19e a19d h19g a19f h19i a19h h19q a19p h19t a19s h19v a19u h1a0 a19z
     refine WL.dn ?_
     refine wp_seq ?_
     refine WL.start ?_
     refine WL.oq h1a4 rfl ?_
     refine owp_rn (.agg #[i6 r19k.f0, .bool r19k.f1]) h1a4 rfl (run_loadN rfl rfl Try.underlying41 rfl (cs := [i6 r19k.f0, .bool r19k.f1]) (by kernel_rfl) (hS1a2.cells (vs := [i6 r19k.f0, .bool r19k.f1]) rfl)) (fun a1a5 h1a6 => ?_)
     refine WL.bl 1 2 h1a6 [(48, .pointer (some ⟨g197, 4, none⟩))] (fun a1a7 h1a8 => ?_)
     have hS1a9 := hS1a2.b1
     refine WL.oq h1a8 rfl ?_
     refine owp_st 4 [i6 r19k.f0, .bool r19k.f1] h1a8 rfl rfl rfl hS1a9 [.int .u32 ((gt z61 p0.f0 r17s).f0), .string (mkS ((gt z61 p0.f0 r17s).f1)), .bool ((gt z61 p0.f0 r17s).f2), .bool ((gt z61 p0.f0 r17s).f3), i6 r19k.f0, .bool r19k.f1] (fun a1aa W1ac h1ab hS1ad => ?_)
     refine WL.dn ?_
     refine wp_seq ?_
     refine WL.start ?_
     have hS1ae := hS1ad.b3
     refine WL.oq h1ab rfl ?_
     refine owp_rn (.agg #[.slice A0q0 p0.f0.length c0q0, i6 p0.f1, i6 p0.f2.f0, .bool p0.f2.f1]) h1ab rfl (run_loadN rfl rfl Try.underlying56 rfl (cs := [.slice A0q0 p0.f0.length c0q0, i6 p0.f1, i6 p0.f2.f0, .bool p0.f2.f1]) (by kernel_rfl) (hS1ae.cells (vs := [.slice A0q0 p0.f0.length c0q0, i6 p0.f1, i6 p0.f2.f0, .bool p0.f2.f1]) rfl)) (fun a1af h1ag => ?_)
     refine WL.bl 1 2 h1ag [(50, i6 r17s)] (fun a1ah h1ai => ?_)
     have hS1aj := hS1ae.b1
     refine WL.oq h1ai rfl ?_
     refine owp_rn (.agg #[.int .u32 ((gt z61 p0.f0 r17s).f0), .string (mkS ((gt z61 p0.f0 r17s).f1)), .bool ((gt z61 p0.f0 r17s).f2), .bool ((gt z61 p0.f0 r17s).f3), i6 r19k.f0, .bool r19k.f1]) h1ai rfl (run_loadN rfl rfl Try.underlying61 rfl (cs := [.int .u32 ((gt z61 p0.f0 r17s).f0), .string (mkS ((gt z61 p0.f0 r17s).f1)), .bool ((gt z61 p0.f0 r17s).f2), .bool ((gt z61 p0.f0 r17s).f3), i6 r19k.f0, .bool r19k.f1]) (by kernel_rfl) (hS1aj.cells (vs := [.int .u32 ((gt z61 p0.f0 r17s).f0), .string (mkS ((gt z61 p0.f0 r17s).f1)), .bool ((gt z61 p0.f0 r17s).f2), .bool ((gt z61 p0.f0 r17s).f3), i6 r19k.f0, .bool r19k.f1]) rfl)) (fun a1ak h1al => ?_)
     have hS1am := hS1aj.b3
     obtain ⟨r1ao, A1an, H⟩ := bind1 H
     refine WL.oq h1al rfl ?_
     refine owp_call [.agg #[.slice A0q0 p0.f0.length c0q0, i6 p0.f1, i6 p0.f2.f0, .bool p0.f2.f1], i6 r17s, .agg #[.int .u32 ((gt z61 p0.f0 r17s).f0), .string (mkS ((gt z61 p0.f0 r17s).f1)), .bool ((gt z61 p0.f0 r17s).f2), .bool ((gt z61 p0.f0 r17s).f3), i6 r19k.f0, .bool r19k.f1]] h1al rfl (by kernel_rfl) rfl Try.func52 (by kernel_rfl) rfl (by kernel_rfl) (louverref13qR_with.calls (p0 := (⟨p0.f0, p0.f1, (⟨p0.f2.f0, p0.f2.f1⟩ : S41)⟩ : S56)) (p2 := (⟨(gt z61 p0.f0 r17s).f0, (gt z61 p0.f0 r17s).f1, (gt z61 p0.f0 r17s).f2, (gt z61 p0.f0 r17s).f3, (⟨r19k.f0, r19k.f1⟩ : S41)⟩ : S61)) hp0q0 A1an hS1am) (fun e1aq W1ap hp1ar => ?_)
     obtain ⟨v1au, M1av, rfl, hr1aw, hS1ax⟩ := hp1ar
     refine ⟨_, rfl, fun a1as h1at => ?_⟩
     obtain ⟨A1ay, c1az, rfl⟩ := hr1aw.form
     refine WL.bl 1 5 h1at [(53, i6 r19l)] (fun a1b0 h1b1 => ?_)
     have hS1b2 := hS1ax.b4
     refine WL.oq h1b1 rfl ?_
     refine owp_st 0 [.slice A1ay r1ao.f0.length c1az, i6 r1ao.f1, i6 r1ao.f2.f0, .bool r1ao.f2.f1] h1b1 rfl rfl rfl hS1b2 [.slice A1ay r1ao.f0.length c1az, i6 r1ao.f1, i6 r1ao.f2.f0, .bool r1ao.f2.f1] (fun a1b3 W1b5 h1b4 hS1b6 => ?_)
     refine WL.bl 1 7 h1b4 [(7, i6 r19l)] (fun a1b7 h1b8 => ?_)
     refine WL.dn ?_
     refine wp_ret ?_
     have hS1b9 := hS1b6.drop_
     have hS1ba := hS1b9.b1
     have hS1bb := hS1ba.drop_
     have hS1bc := hS1bb.b1
     have hS1bd := hS1bc.drop_
     have hS1be := hS1bd.b1
     have hS1bf := hS1be.drop_
     obtain ⟨rfl, rfl⟩ := ret2 H
     repeat (first | with_reducible refine t1 ?_ | with_reducible refine t2 ?_ | with_reducible refine t3 ?_)
     refine body_ret (v := .tuple #[.agg #[.slice A1ay r1ao.f0.length c1az, i6 r1ao.f1, i6 r1ao.f2.f0, .bool r1ao.f2.f1], i6 r19l]) h1b8 (by kernel_rfl) (res_many (xs := [ResultVar.cell 6 56, ResultVar.tmp 7]) rfl ⟨⟨_, rfl, loadVarN Try.underlying56 rfl (cs := [.slice A1ay r1ao.f0.length c1az, i6 r1ao.f1, i6 r1ao.f2.f0, .bool r1ao.f2.f1]) (by kernel_rfl) (hS1b6.cells (vs := [.slice A1ay r1ao.f0.length c1az, i6 r1ao.f1, i6 r1ao.f2.f0, .bool r1ao.f2.f1]) rfl)⟩, rfl, trivial⟩ rfl) ?_
     exact ⟨.slice A1ay r1ao.f0.length c1az, M1av, rfl, hr1aw, hS1bf⟩
    ·rw [if_neg c18p] at H
     cases H
   ·rw [if_neg c18o] at H
    cases H

structure S50 where
 f0 : Int
 f1 : Int
 deriving DecidableEq
def z50 : S50 := ⟨(0 : Int), (0 : Int)⟩
def k50 : Kd S50 := kIso (kPair (kInt .u8) (kInt .u32)) (fun x : S50 => (x.f0, x.f1))
theorem k50qflat : k50.Flat := kIso_flat (kPair_flat (kInt_flat _) (kInt_flat _))
theorem k50qind : k50.Ind := kIso_ind (kPair_ind (kInt_ind _) (kInt_ind _))
theorem k50qrd {b : Nat} {w0 : World} {R : Frag} {x : S50} {cs : List Value} (h : k50.rd b w0 R x cs) : cs = [.int .u8 x.f0, .int .u32 x.f1] := by
 obtain ⟨c100, c101, rfl, h102, h103⟩ := h
 obtain rfl := h102
 obtain rfl := h103
 exact rfl
theorem k50qrep {b : Nat} {w0 : World} {R : Frag} {x : S50} {cs : List Value} {M : Frag} (h : k50.rep b w0 R x cs M) : cs = [.int .u8 x.f0, .int .u32 x.f1] ∧ M = [] := by
 obtain ⟨c104, c105, M108, M109, rfl, rfl, h106, h107⟩ := h
 obtain ⟨rfl, rfl⟩ := h106
 obtain ⟨rfl, rfl⟩ := h107
 exact ⟨rfl, by simp⟩
theorem k50qno {b : Nat} {w0 : World} {R : Frag} {x : S50} {cs : List Value} {M : Frag} (h : k50.rep b w0 R x cs M) : M = [] := by
 obtain ⟨_, hM_⟩ := k50qrep h
 exact hM_
theorem k50qmk {b : Nat} {w0 : World} {R : Frag} {x : S50}  : ∃ M, k50.rep b w0 R x [.int .u8 x.f0, .int .u32 x.f1] M ∧ M = [] := ⟨_, ⟨_, _, _, _, rfl, rfl, ⟨rfl, rfl⟩, ⟨rfl, rfl⟩⟩, by simp⟩
/-! ### louver/window.internal -/
def window_internal.f  : Option (S50) := some (⟨1, 2⟩ : S50)
set_option maxHeartbeats 20000000 in
set_option maxRecDepth 100000 in
theorem window_internal.calls {b : Nat} {w0 W : World} {R : Frag} {Fs : List Frag}   {r0q : S50}  (H : window_internal.f = some r0q) (hS : St b w0 W R (Fs)) :
  Calls Try.prog 48 ([] : List Value).toArray W (fun e W' => e = .returned (.agg #[.int .u8 r0q.f0, .int .u32 r0q.f1]) ∧ St b w0 W' R (Fs)) := by
 unfold window_internal.f at H
 refine calls_enter Try.func48 rfl 2 rfl (by kernel_rfl) (fun a h => ?_)
 refine wp_seq ?_
 refine WL.start ?_
 refine WL.oq h rfl ?_
 refine owp_nw (fun g_ => (pt g_)) (.cells ([.int .u8 0, .int .u32 0] : List Value).toArray 50 (0, 0)) h rfl hS (fun a10m W10o g10p h10n hS10q => ?_)
 refine WL.dn ?_
 refine wp_seq ?_
 refine WL.start ?_
 refine WL.bl 1 1 h10n [(1, .agg #[.int .u8 1, .int .u32 2])] (fun a10r h10s => ?_)
 refine WL.oq h10s rfl ?_
 refine owp_st 0 [.int .u8 1, .int .u32 2] h10s rfl rfl rfl hS10q [.int .u8 1, .int .u32 2] (fun a10t W10v h10u hS10w => ?_)
 refine WL.dn ?_
 refine wp_ret ?_
 have hS10x := hS10w.drop_
 obtain rfl := Option.some.inj H
 repeat (first | with_reducible refine t1 ?_ | with_reducible refine t2 ?_ | with_reducible refine t3 ?_)
 refine body_ret (v := .agg #[.int .u8 1, .int .u32 2]) h10u (by kernel_rfl) (res_one rfl ⟨_, rfl, loadVarN Try.underlying50 rfl (cs := [.int .u8 1, .int .u32 2]) (by kernel_rfl) (hS10w.cells (vs := [.int .u8 1, .int .u32 2]) rfl)⟩) ?_
 exact ⟨rfl, hS10x⟩

/-! ### (*louver/window.Window).to -/
def window_Window_to.f (p0 : S94) (p1 : Int) : Option (Bool × S94) := if p1 > 2147483647 then (some (false, p0)) else (some (true, (⟨mxI p1 (-2147483648), p0.f1⟩ : S94)))
set_option maxHeartbeats 20000000 in
set_option maxRecDepth 100000 in
theorem window_Window_to.calls {b : Nat} {w0 W : World} {R : Frag} {Fs : List Frag} {p0 : S94} {p1 : Int}  {v0 : Value} {M0 : Frag} {r0q : Bool} {r1q : S94} (hp0 : Ptr k94 94 b w0 R v0 p0 M0) (H : window_Window_to.f p0 p1 = some (r0q, r1q)) (hS : St b w0 W R (M0 :: Fs)) :
  Calls Try.prog 49 ([v0, i6 p1] : List Value).toArray W (fun e W' => ∃ (O0q : Frag), e = .returned (.bool r0q) ∧ Ptr k94 94 b w0 R v0 r1q O0q ∧ St b w0 W' R (O0q :: Fs)) := by
 unfold window_Window_to.f at H
 refine calls_enter Try.func49 rfl 12 rfl (by kernel_rfl) (fun a h => ?_)
 refine wp_seq ?_
 refine WL.start ?_
 refine WL.bl 1 1 h [(4, .bool false)] (fun a10z h110 => ?_)
 refine WL.dn ?_
 refine wp_seq ?_
 refine wp_seq ?_
 refine WL.start ?_
 refine WL.bl 2 2 h110 [(6, .bool (decide (p1 > 2147483647))), (5, i6 p1)] (fun a111 h112 => ?_)
 refine WL.dn ?_
 clear h110 a10z
 by_cases c113 : p1 > 2147483647
 ·rw [if_pos c113] at H
  have hb_ : (decide (p1 > 2147483647)) = true := decide_eq_true c113
  try rw [hb_] at h112
  clear hb_
  refine wp_then h112 rfl ?_
  refine wp_seq ?_
  refine WL.start ?_
  refine WL.bl 1 1 h112 [(4, .bool false)] (fun a114 h115 => ?_)
  refine WL.dn ?_
  refine wp_ret ?_
  obtain ⟨rfl, rfl⟩ := ret2 H
  repeat (first | with_reducible refine t1 ?_ | with_reducible refine t2 ?_ | with_reducible refine t3 ?_)
  refine bret (.bool false) h115 ?_
  exact ⟨M0, rfl, hp0, hS⟩
 ·rw [if_neg c113] at H
  have hb_ : (decide (p1 > 2147483647)) = false := decide_eq_false c113
  try rw [hb_] at h112
  clear hb_
  refine wp_else h112 rfl ?_
  refine wp_skip ?_
  refine wp_seq ?_
  refine WL.start ?_
  refine WL.bl 3 3 h112 [(9, i6 (mxI p1 (-2147483648))), (8, i6 p1), (7, v0)] (fun a116 h117 => ?_)
  obtain ⟨g119, rfl, hS118⟩ := k94qop hp0 hS
  refine WL.bl 2 5 h117 [(11, pt g119), (10, pt g119)] (fun a11a h11b => ?_)
  refine WL.oq h11b rfl ?_
  refine owp_st 0 [i6 (mxI p1 (-2147483648))] h11b rfl rfl rfl hS118 [i6 (mxI p1 (-2147483648)), .bool p0.f1] (fun a11c W11e h11d hS11f => ?_)
  refine WL.dn ?_
  refine wp_seq ?_
  refine WL.start ?_
  refine WL.bl 1 1 h11d [(4, .bool true)] (fun a11g h11h => ?_)
  refine WL.dn ?_
  refine wp_ret ?_
  obtain ⟨M11i, hp11j, hS11k⟩ := k94qfo (⟨mxI p1 (-2147483648), p0.f1⟩ : S94) hS11f
  obtain ⟨rfl, rfl⟩ := ret2 H
  repeat (first | with_reducible refine t1 ?_ | with_reducible refine t2 ?_ | with_reducible refine t3 ?_)
  refine bret (.bool true) h11h ?_
  exact ⟨M11i, rfl, hp11j, hS11k⟩

/-! ### louver/window.scope -/
def window_scope.f (p0 : Bool) : Option (Int) := if p0 = true then (some 2) else (some 1)
set_option maxHeartbeats 20000000 in
set_option maxRecDepth 100000 in
theorem window_scope.calls {b : Nat} {w0 W : World} {R : Frag} {Fs : List Frag} {p0 : Bool}  {r0q : Int}  (H : window_scope.f p0 = some r0q) (hS : St b w0 W R (Fs)) :
  Calls Try.prog 50 ([.bool p0] : List Value).toArray W (fun e W' => e = .returned (.int .u8 r0q) ∧ St b w0 W' R (Fs)) := by
 unfold window_scope.f at H
 refine calls_enter Try.func50 rfl 4 rfl (by kernel_rfl) (fun a h => ?_)
 refine wp_seq ?_
 refine WL.start ?_
 refine WL.bl 1 1 h [(2, .int .u8 0)] (fun a109 h10a => ?_)
 refine WL.dn ?_
 refine wp_seq ?_
 refine wp_seq ?_
 refine WL.start ?_
 refine WL.bl 1 1 h10a [(3, .bool p0)] (fun a10b h10c => ?_)
 refine WL.dn ?_
 clear h10a a109
 by_cases c10d : p0 = true
 ·rw [if_pos c10d] at H
  have hb_ : p0 = true := c10d
  try rw [hb_] at h10c
  clear hb_
  refine wp_then h10c rfl ?_
  refine wp_seq ?_
  refine WL.start ?_
  refine WL.bl 1 1 h10c [(2, .int .u8 2)] (fun a10e h10f => ?_)
  refine WL.dn ?_
  refine wp_ret ?_
  obtain rfl := Option.some.inj H
  repeat (first | with_reducible refine t1 ?_ | with_reducible refine t2 ?_ | with_reducible refine t3 ?_)
  refine bret (.int .u8 2) h10f ?_
  exact ⟨rfl, hS⟩
 ·rw [if_neg c10d] at H
  have hb_ : p0 = false := (Bool.eq_false_iff.2 c10d)
  try rw [hb_] at h10c
  clear hb_
  refine wp_else h10c rfl ?_
  refine wp_skip ?_
  refine wp_seq ?_
  refine WL.start ?_
  refine WL.bl 1 1 h10c [(2, .int .u8 1)] (fun a10g h10h => ?_)
  refine WL.dn ?_
  refine wp_ret ?_
  obtain rfl := Option.some.inj H
  repeat (first | with_reducible refine t1 ?_ | with_reducible refine t2 ?_ | with_reducible refine t3 ?_)
  refine bret (.int .u8 1) h10h ?_
  exact ⟨rfl, hS⟩

/-! ### (*louver/window.Window).Grow -/
def window_Window_Grow.f (p0 : S94) (p1 : Int) : Option (S50 × S94) := bnd2 (window_Window_to.f p0 (IntKind.i64.wrap (p0.f0 + (IntKind.i64.wrap p1)))) fun r13g r13h => (if r13g = true then (some ((⟨0, 0⟩ : S50), r13h)) else (bnd1 (window_scope.f r13h.f1) fun r149 => (some ((⟨r149, 3⟩ : S50), r13h))))
set_option maxHeartbeats 20000000 in
set_option maxRecDepth 100000 in
theorem window_Window_Grow.calls {b : Nat} {w0 W : World} {R : Frag} {Fs : List Frag} {p0 : S94} {p1 : Int}  {v0 : Value} {M0 : Frag} {r0q : S50} {r1q : S94} (hp0 : Ptr k94 94 b w0 R v0 p0 M0) (H : window_Window_Grow.f p0 p1 = some (r0q, r1q)) (hS : St b w0 W R (M0 :: Fs)) :
  Calls Try.prog 36 ([v0, .int .u32 p1] : List Value).toArray W (fun e W' => ∃ (O0q : Frag), e = .returned (.agg #[.int .u8 r0q.f0, .int .u32 r0q.f1]) ∧ Ptr k94 94 b w0 R v0 r1q O0q ∧ St b w0 W' R (O0q :: Fs)) := by
 unfold window_Window_Grow.f at H
 refine calls_enter Try.func36 rfl 27 rfl (by kernel_rfl) (fun a h => ?_)
 refine wp_seq ?_
 refine WL.start ?_
 refine WL.oq h rfl ?_
 refine owp_nw (fun g_ => (pt g_)) (.cells ([.int .u8 0, .int .u32 0] : List Value).toArray 50 (0, 0)) h rfl hS (fun a12u W12w g12x h12v hS12y => ?_)
 refine WL.dn ?_
 refine wp_seq ?_
 refine wp_block ?_
 refine wp_seq ?_
 refine WL.start ?_
 refine WL.bl 1 1 h12v [(6, v0)] (fun a12z h130 => ?_)
 have hS131 := hS12y.b1
 obtain ⟨g133, rfl, hS132⟩ := k94qop hp0 hS131
 refine WL.bl 2 3 h130 [(5, .bool false), (7, .bool false)] (fun a134 h135 => ?_)
 refine WL.dn ?_
 refine wp_else h135 rfl ?_
 refine wp_seq ?_
 refine WL.start ?_
 refine WL.bl 4 4 h135 [(13, pt g133), (12, pt g133), (11, pt g133), (10, pt g133)] (fun a136 h137 => ?_)
 refine WL.oq h137 rfl ?_
 refine owp_rn (i6 p0.f0) h137 rfl (run_load1 rfl rfl Try.underlying2 rfl (hS132.cell (i := 0) rfl)) (fun a138 h139 => ?_)
 refine WL.bl 3 8 h139 [(17, i6 (IntKind.i64.wrap (p0.f0 + (IntKind.i64.wrap p1)))), (16, i6 (IntKind.i64.wrap p1)), (15, .int .u32 p1)] (fun a13a h13b => ?_)
 obtain ⟨M13c, hp13d, hS13e⟩ := k94qfo p0 hS132
 obtain ⟨r13g, r13h, A13f, H⟩ := bind2 H
 refine WL.oq h13b rfl ?_
 refine owp_call [(pt g133), i6 (IntKind.i64.wrap (p0.f0 + (IntKind.i64.wrap p1)))] h13b rfl (by kernel_rfl) rfl Try.func49 (by kernel_rfl) rfl (by kernel_rfl) (window_Window_to.calls hp13d A13f hS13e) (fun e13j W13i hp13k => ?_)
 obtain ⟨M13n, rfl, hr13o, hS13p⟩ := hp13k
 refine ⟨_, rfl, fun a13l h13m => ?_⟩
 refine WL.bl 2 11 h13m [(9, .bool (!r13g)), (19, .bool (!r13g))] (fun a13q h13r => ?_)
 refine WL.dn ?_
 clear h12v a12u h130 a12z h135 a134 h137 a136 h139 a138 h13b a13a h13m a13l
 by_cases c13s : r13g = true
 ·rw [if_pos c13s] at H
  have hb_ : r13g = true := c13s
  try rw [hb_] at h13r
  clear hb_
  refine wp_else h13r rfl ?_
  refine wp_skip ?_
  refine wp_seq ?_
  refine WL.start ?_
  refine WL.bl 1 1 h13r [(26, .agg #[.int .u8 0, .int .u32 0])] (fun a13t h13u => ?_)
  have hS13v := hS13p.b1
  refine WL.oq h13u rfl ?_
  refine owp_st 0 [.int .u8 0, .int .u32 0] h13u rfl rfl rfl hS13v [.int .u8 0, .int .u32 0] (fun a13w W13y h13x hS13z => ?_)
  refine WL.dn ?_
  refine wp_ret ?_
  have hS140 := hS13z.drop_
  obtain ⟨rfl, rfl⟩ := ret2 H
  repeat (first | with_reducible refine t1 ?_ | with_reducible refine t2 ?_ | with_reducible refine t3 ?_)
  refine body_ret (v := .agg #[.int .u8 0, .int .u32 0]) h13x (by kernel_rfl) (res_one rfl ⟨_, rfl, loadVarN Try.underlying50 rfl (cs := [.int .u8 0, .int .u32 0]) (by kernel_rfl) (hS13z.cells (vs := [.int .u8 0, .int .u32 0]) rfl)⟩) ?_
  exact ⟨M13n, rfl, hr13o, hS140⟩
 ·rw [if_neg c13s] at H
  have hb_ : r13g = false := (Bool.eq_false_iff.2 c13s)
  try rw [hb_] at h13r
  clear hb_
  refine wp_then h13r rfl ?_
  refine wp_seq ?_
  refine WL.start ?_
  refine WL.bl 1 1 h13r [(20, pt g133)] (fun a141 h142 => ?_)
  have hS143 := k94qoq hr13o hS13p
  refine WL.bl 2 3 h142 [(22, .pointer (some ⟨g133, 1, none⟩)), (21, pt g133)] (fun a144 h145 => ?_)
  refine WL.oq h145 rfl ?_
  refine owp_rn (.bool r13h.f1) h145 rfl (run_load1 rfl rfl Try.underlying4 rfl (hS143.cell (i := 1) rfl)) (fun a146 h147 => ?_)
  obtain ⟨r149, A148, H⟩ := bind1 H
  refine WL.oq h147 rfl ?_
  refine owp_call [.bool r13h.f1] h147 rfl (by kernel_rfl) rfl Try.func50 (by kernel_rfl) rfl (by kernel_rfl) (window_scope.calls  A148 hS143) (fun e14b W14a hp14c => ?_)
  obtain ⟨rfl, hS14f⟩ := hp14c
  refine ⟨_, rfl, fun a14d h14e => ?_⟩
  refine WL.bl 1 6 h14e [(25, .agg #[.int .u8 r149, .int .u32 3])] (fun a14g h14h => ?_)
  have hS14i := hS14f.b1
  refine WL.oq h14h rfl ?_
  refine owp_st 0 [.int .u8 r149, .int .u32 3] h14h rfl rfl rfl hS14i [.int .u8 r149, .int .u32 3] (fun a14j W14l h14k hS14m => ?_)
  refine WL.dn ?_
  refine wp_ret ?_
  have hS14n := hS14m.b1
  obtain ⟨M14o, hp14p, hS14q⟩ := k94qfo r13h hS14n
  have hS14r := hS14q.b1
  have hS14s := hS14r.drop_
  obtain ⟨rfl, rfl⟩ := ret2 H
  repeat (first | with_reducible refine t1 ?_ | with_reducible refine t2 ?_ | with_reducible refine t3 ?_)
  refine body_ret (v := .agg #[.int .u8 r149, .int .u32 3]) h14k (by kernel_rfl) (res_one rfl ⟨_, rfl, loadVarN Try.underlying50 rfl (cs := [.int .u8 r149, .int .u32 3]) (by kernel_rfl) (hS14m.cells (vs := [.int .u8 r149, .int .u32 3]) rfl)⟩) ?_
  exact ⟨M14o, rfl, hp14p, hS14s⟩

/-! ### (*louver/turns.Ring).Grow -/
def turns_Ring_Grow.f (k : Nat) (p0 : S69) (p1 : Int) (p2 : Int) : Option (S50 × S69) := bnd1 (turns_Ring_find.f k p0 p1) fun r16g => (if p1 = 0 then (bnd2 (window_Window_Grow.f p0.f2 p2) fun r17f r17g => (some ((⟨r17f.f0, r17f.f1⟩ : S50), (⟨p0.f0, p0.f1, r17g⟩ : S69)))) else (if r16g < 0 then (some ((⟨0, 0⟩ : S50), p0)) else (if 0 ≤ r16g then (if r16g < (p0.f0.length : Int) then (lt1 (gt z72 p0.f0 r16g : S72) fun y196 => (bnd2 (window_Window_Grow.f y196.f4 p2) fun r19t r19u => (some ((⟨r19t.f0, r19t.f1⟩ : S50), (⟨(p0.f0.set r16g.toNat (⟨y196.f0, y196.f1, y196.f2, y196.f3, r19u⟩ : S72)), p0.f1, p0.f2⟩ : S69))))) else (none)) else (none))))
set_option maxHeartbeats 20000000 in
set_option maxRecDepth 100000 in
theorem turns_Ring_Grow.calls (k : Nat) {b : Nat} {w0 W : World} {R : Frag} {Fs : List Frag} {p0 : S69} {p1 : Int} {p2 : Int}  {v0 : Value} {M0 : Frag} {r0q : S50} {r1q : S69} (hp0 : Ptr k69 69 b w0 R v0 p0 M0) (H : turns_Ring_Grow.f k p0 p1 p2 = some (r0q, r1q)) (hS : St b w0 W R (M0 :: Fs)) :
  Calls Try.prog 19 ([v0, .int .u32 p1, .int .u32 p2] : List Value).toArray W (fun e W' => ∃ (O0q : Frag), e = .returned (.agg #[.int .u8 r0q.f0, .int .u32 r0q.f1]) ∧ Ptr k69 69 b w0 R v0 r1q O0q ∧ St b w0 W' R (O0q :: Fs)) := by
 unfold turns_Ring_Grow.f at H
 refine calls_enter Try.func19 rfl 40 rfl (by kernel_rfl) (fun a h => ?_)
 refine wp_seq ?_
 refine WL.start ?_
 refine WL.oq h rfl ?_
 refine owp_nw (fun g_ => (pt g_)) (.cells ([.int .u8 0, .int .u32 0] : List Value).toArray 50 (0, 0)) h rfl hS (fun a167 W169 g16a h168 hS16b => ?_)
 refine WL.dn ?_
 refine wp_seq ?_
 refine WL.start ?_
 refine WL.bl 2 2 h168 [(9, .int .u32 p1), (8, v0)] (fun a16c h16d => ?_)
 have hS16e := hS16b.b1
 obtain ⟨r16g, A16f, H⟩ := bind1 H
 refine WL.oq h16d rfl ?_
 refine owp_call [v0, .int .u32 p1] h16d rfl (by kernel_rfl) rfl Try.func28 (by kernel_rfl) rfl (by kernel_rfl) (turns_Ring_find.calls k hp0 A16f hS16e) (fun e16i W16h hp16j => ?_)
 obtain ⟨M16m, rfl, hr16n, hS16o⟩ := hp16j
 refine ⟨_, rfl, fun a16k h16l => ?_⟩
 refine WL.bl 1 4 h16l [(7, i6 r16g)] (fun a16p h16q => ?_)
 refine WL.dn ?_
 refine wp_seq ?_
 refine wp_block ?_
 refine wp_seq ?_
 refine WL.start ?_
 refine WL.bl 1 1 h16q [(12, v0)] (fun a16r h16s => ?_)
 obtain ⟨g16u, A16v, c16w, g16z, M16x, M170, rfl, hr16y, hr171, hS16t⟩ := k69qop hr16n hS16o
 refine WL.bl 2 3 h16s [(11, .bool false), (13, .bool false)] (fun a172 h173 => ?_)
 refine WL.dn ?_
 refine wp_else h173 rfl ?_
 refine wp_seq ?_
 refine WL.start ?_
 refine WL.bl 3 3 h173 [(15, .bool (decide (p1 = 0))), (17, .bool (decide (p1 = 0))), (16, .int .u32 p1)] (fun a174 h175 => ?_)
 refine WL.dn ?_
 clear h168 a167 h16d a16c h16l a16k h16q a16p h16s a16r h173 a172
 by_cases c176 : p1 = 0
 ·rw [if_pos c176] at H
  have hb_ : (decide (p1 = 0)) = true := decide_eq_true c176
  try rw [hb_] at h175
  clear hb_
  refine wp_then h175 rfl ?_
  refine wp_seq ?_
  refine WL.start ?_
  refine WL.bl 3 3 h175 [(20, .pointer (some ⟨g16u, 2, none⟩)), (19, pt g16u), (18, pt g16u)] (fun a177 h178 => ?_)
  refine WL.oq h178 rfl ?_
  refine owp_rn (pt g16z) h178 rfl (run_load1 rfl rfl Try.underlying65 rfl (hS16t.cell (i := 2) rfl)) (fun a179 h17a => ?_)
  refine WL.bl 1 5 h17a [(22, .int .u32 p2)] (fun a17b h17c => ?_)
  have hS17d := hS16t.b2
  obtain ⟨r17f, r17g, A17e, H⟩ := bind2 H
  refine WL.oq h17c rfl ?_
  refine owp_call [(pt g16z), .int .u32 p2] h17c rfl (by kernel_rfl) rfl Try.func36 (by kernel_rfl) rfl (by kernel_rfl) (window_Window_Grow.calls hr171 A17e hS17d) (fun e17i W17h hp17j => ?_)
  obtain ⟨M17m, rfl, hr17n, hS17o⟩ := hp17j
  refine ⟨_, rfl, fun a17k h17l => ?_⟩
  have hS17p := hS17o.b3
  refine WL.oq h17l rfl ?_
  refine owp_st 0 [.int .u8 r17f.f0, .int .u32 r17f.f1] h17l rfl rfl rfl hS17p [.int .u8 r17f.f0, .int .u32 r17f.f1] (fun a17q W17s h17r hS17t => ?_)
  refine WL.dn ?_
  refine wp_ret ?_
  have hS17u := hS17t.b1
  have hS17v := hS17u.b3
  have hS17w := hS17v.b3
  obtain ⟨M17x, hp17y, hS17z⟩ := k69qfo (⟨p0.f0, p0.f1, r17g⟩ : S69) hr16y hr17n hS17w
  have hS180 := hS17z.b1
  have hS181 := hS180.drop_
  obtain ⟨rfl, rfl⟩ := ret2 H
  repeat (first | with_reducible refine t1 ?_ | with_reducible refine t2 ?_ | with_reducible refine t3 ?_)
  refine body_ret (v := .agg #[.int .u8 r17f.f0, .int .u32 r17f.f1]) h17r (by kernel_rfl) (res_one rfl ⟨_, rfl, loadVarN Try.underlying50 rfl (cs := [.int .u8 r17f.f0, .int .u32 r17f.f1]) (by kernel_rfl) (hS17t.cells (vs := [.int .u8 r17f.f0, .int .u32 r17f.f1]) rfl)⟩) ?_
  exact ⟨M17x, rfl, hp17y, hS181⟩
 ·rw [if_neg c176] at H
  have hb_ : (decide (p1 = 0)) = false := decide_eq_false c176
  try rw [hb_] at h175
  clear hb_
  refine wp_else h175 rfl ?_
  refine wp_seq ?_
  refine WL.start ?_
  refine WL.bl 3 3 h175 [(24, .bool (decide (r16g < 0))), (26, .bool (decide (r16g < 0))), (25, i6 r16g)] (fun a182 h183 => ?_)
  refine WL.dn ?_
  clear h175 a174
  by_cases c184 : r16g < 0
  ·rw [if_pos c184] at H
   have hb_ : (decide (r16g < 0)) = true := decide_eq_true c184
   try rw [hb_] at h183
   clear hb_
   refine wp_then h183 rfl ?_
   refine wp_seq ?_
   refine WL.start ?_
   refine WL.bl 1 1 h183 [(27, .agg #[.int .u8 0, .int .u32 0])] (fun a185 h186 => ?_)
   have hS187 := hS16t.b3
   refine WL.oq h186 rfl ?_
   refine owp_st 0 [.int .u8 0, .int .u32 0] h186 rfl rfl rfl hS187 [.int .u8 0, .int .u32 0] (fun a188 W18a h189 hS18b => ?_)
   refine WL.dn ?_
   refine wp_ret ?_
   have hS18c := hS18b.b3
   have hS18d := hS18c.b3
   have hS18e := hS18d.b3
   obtain ⟨M18f, hp18g, hS18h⟩ := k69qfo p0 hr16y hr171 hS18e
   have hS18i := hS18h.b1
   have hS18j := hS18i.drop_
   obtain ⟨rfl, rfl⟩ := ret2 H
   repeat (first | with_reducible refine t1 ?_ | with_reducible refine t2 ?_ | with_reducible refine t3 ?_)
   refine body_ret (v := .agg #[.int .u8 0, .int .u32 0]) h189 (by kernel_rfl) (res_one rfl ⟨_, rfl, loadVarN Try.underlying50 rfl (cs := [.int .u8 0, .int .u32 0]) (by kernel_rfl) (hS18b.cells (vs := [.int .u8 0, .int .u32 0]) rfl)⟩) ?_
   exact ⟨M18f, rfl, hp18g, hS18j⟩
  ·rw [if_neg c184] at H
   have hb_ : (decide (r16g < 0)) = false := decide_eq_false c184
   try rw [hb_] at h183
   clear hb_
   refine wp_else h183 rfl ?_
   refine wp_skip ?_
   refine wp_seq ?_
   refine WL.start ?_
   refine WL.bl 3 3 h183 [(30, pt g16u), (29, pt g16u), (28, pt g16u)] (fun a18k h18l => ?_)
   refine WL.oq h18l rfl ?_
   refine owp_rn (.slice A16v p0.f0.length c16w) h18l rfl (run_load1 rfl rfl Try.underlying67 rfl (hS16t.cell (i := 0) rfl)) (fun a18m h18n => ?_)
   refine WL.bl 1 5 h18n [(32, i6 r16g)] (fun a18o h18p => ?_)
   clear h183 a182 h18l a18k h18n a18m
   by_cases c18q : 0 ≤ r16g
   ·rw [if_pos c18q] at H
    by_cases c18r : r16g < (p0.f0.length : Int)
    ·rw [if_pos c18r] at H
     have hi18u : 0 ≤ r16g := by first | assumption | omega
     have hi18v : r16g < (p0.f0.length : Int) := by first | assumption | omega
     obtain ⟨ad18s, _, ha18t, -, -⟩ := Rds.elemAny hr16y.rds hi18u (gt_get (z := z72) hi18u hi18v)
     refine WL.oq h18p rfl ?_
     refine owp_rn (.pointer (some (ad18s.add (r16g.toNat * 1)))) h18p rfl (run_idx (ad := ad18s) (sz := 1) rfl (by rw [← ha18t]; rfl) rfl Try.underlying67 (by kernel_rfl) hi18u hi18v) (fun a18w h18x => ?_)
     have hS18y := hS16t.b1
     obtain ⟨g18z, M190, M191, hp192, hh193, hm194, hc195⟩ := Row.openp (dk := k72) z72 hr16y ha18t hi18u hi18v
     obtain ⟨y196, hy197, H⟩ := lete H
     have hr198 : Ptr k72 72 b w0 R (pt g18z) y196 M191 := by rw [hy197]; exact hp192
     have hS19a : St b w0 W16h R (M191 :: M190 :: (bx g16u 69 [.slice A16v p0.f0.length c16w, i6 p0.f1, pt g16z]) :: M170 :: (bx g16a 50 [.int .u8 0, .int .u32 0]) :: Fs) := hm194 _ _ hS18y
     clear hm194 hp192 hr16y
     refine WL.oq h18x rfl ?_
     refine owp_rn (pt g18z) h18x rfl (run_load1 rfl rfl Try.underlying70 rfl (hc195 _ _ hS19a.b1)) (fun a19b h19c => ?_)
     obtain ⟨A19e, c19f, g19i, M19g, M19j, hr19h, hr19k, hS19d⟩ := k72qoq hr198 hS19a
     refine WL.bl 2 9 h19c [(36, .pointer (some ⟨g18z, 4, none⟩)), (35, pt g18z)] (fun a19l h19m => ?_)
     refine WL.oq h19m rfl ?_
     refine owp_rn (pt g19i) h19m rfl (run_load1 rfl rfl Try.underlying65 rfl (hS19d.cell (i := 4) rfl)) (fun a19n h19o => ?_)
     refine WL.bl 1 11 h19o [(38, .int .u32 p2)] (fun a19p h19q => ?_)
     have hS19r := hS19d.b2
     obtain ⟨r19t, r19u, A19s, H⟩ := bind2 H
     refine WL.oq h19q rfl ?_
     refine owp_call [(pt g19i), .int .u32 p2] h19q rfl (by kernel_rfl) rfl Try.func36 (by kernel_rfl) rfl (by kernel_rfl) (window_Window_Grow.calls hr19k A19s hS19r) (fun e19w W19v hp19x => ?_)
     obtain ⟨M1a0, rfl, hr1a1, hS1a2⟩ := hp19x
     refine ⟨_, rfl, fun a19y h19z => ?_⟩
     have hS1a3 := hS1a2.b6
     refine WL.oq h19z rfl ?_
     refine owp_st 0 [.int .u8 r19t.f0, .int .u32 r19t.f1] h19z rfl rfl rfl hS1a3 [.int .u8 r19t.f0, .int .u32 r19t.f1] (fun a1a4 W1a6 h1a5 hS1a7 => ?_)
     refine WL.dn ?_
     refine wp_ret ?_
     have hS1a8 := hS1a7.b1
     have hS1a9 := hS1a8.b3
     have hS1aa := hS1a9.b3
     obtain ⟨M1ab, hp1ac, hS1ad⟩ := k72qfo (⟨y196.f0, y196.f1, y196.f2, y196.f3, r19u⟩ : S72) hr19h hr1a1 hS1aa
     have hS1ae := hS1ad.b2
     have hS1af := hS1ae.b1
     obtain ⟨M1ag, hr1ah, hm1ai⟩ := hh193 _ _ hp1ac
     have hS1ak : St b w0 W1a6 R (M1ag :: (bx g16a 50 [.int .u8 r19t.f0, .int .u32 r19t.f1]) :: (bx g16u 69 [.slice A16v p0.f0.length c16w, i6 p0.f1, pt g16z]) :: M170 :: Fs) := hm1ai _ _ hS1af
     have hl1al : (p0.f0.set r16g.toNat (⟨y196.f0, y196.f1, y196.f2, y196.f3, r19u⟩ : S72)).length = p0.f0.length := by simp
     have hr1am : Row (kPtr k72 72) 70 b w0 R (.slice A16v (p0.f0.set r16g.toNat (⟨y196.f0, y196.f1, y196.f2, y196.f3, r19u⟩ : S72)).length c16w) (p0.f0.set r16g.toNat (⟨y196.f0, y196.f1, y196.f2, y196.f3, r19u⟩ : S72)) M1ag := by rw [hl1al]; exact hr1ah
     have h1an : Hd a1a4 40 [(0, pt g16u), (1, .int .u32 p1), (2, .int .u32 p2), (6, pt g16a), (7, i6 r16g), (8, pt g16u), (9, .int .u32 p1), (10, i6 r16g), (11, .bool false), (12, pt g16u), (13, .bool false), (15, .bool false), (16, .int .u32 p1), (17, .bool false), (24, .bool false), (25, i6 r16g), (26, .bool false), (28, pt g16u), (29, pt g16u), (30, pt g16u), (31, .slice A16v (p0.f0.set r16g.toNat (⟨y196.f0, y196.f1, y196.f2, y196.f3, r19u⟩ : S72)).length c16w), (32, i6 r16g), (33, .pointer (some (ad18s.add (r16g.toNat * 1)))), (34, pt g18z), (35, pt g18z), (36, .pointer (some ⟨g18z, 4, none⟩)), (37, pt g19i), (38, .int .u32 p2), (39, .agg #[.int .u8 r19t.f0, .int .u32 r19t.f1])] := h1a5.keep ⟨rfl, rfl, rfl, rfl, rfl, rfl, rfl, rfl, rfl, rfl, rfl, rfl, rfl, rfl, rfl, rfl, rfl, rfl, rfl, rfl, (by rw [hl1al] <;> rfl), rfl, rfl, rfl, rfl, rfl, rfl, rfl, rfl, trivial⟩
     clear h1a5
     have hS1ao : St b w0 W1a6 R (M1ag :: (bx g16a 50 [.int .u8 r19t.f0, .int .u32 r19t.f1]) :: (bx g16u 69 [.slice A16v (p0.f0.set r16g.toNat (⟨y196.f0, y196.f1, y196.f2, y196.f3, r19u⟩ : S72)).length c16w, i6 p0.f1, pt g16z]) :: M170 :: Fs) := by simpa only [hl1al] using hS1ak
     have hS1ap := hS1ao.b3
     have hS1aq := hS1ap.b1
     have hS1ar := hS1aq.b3
     obtain ⟨M1as, hp1at, hS1au⟩ := k69qfo (⟨(p0.f0.set r16g.toNat (⟨y196.f0, y196.f1, y196.f2, y196.f3, r19u⟩ : S72)), p0.f1, p0.f2⟩ : S69) hr1am hr171 hS1ar
     have hS1av := hS1au.b1
     have hS1aw := hS1av.drop_
     obtain ⟨rfl, rfl⟩ := ret2 H
     repeat (first | with_reducible refine t1 ?_ | with_reducible refine t2 ?_ | with_reducible refine t3 ?_)
     refine body_ret (v := .agg #[.int .u8 r19t.f0, .int .u32 r19t.f1]) h1an (by kernel_rfl) (res_one rfl ⟨_, rfl, loadVarN Try.underlying50 rfl (cs := [.int .u8 r19t.f0, .int .u32 r19t.f1]) (by kernel_rfl) (hS1a7.cells (vs := [.int .u8 r19t.f0, .int .u32 r19t.f1]) rfl)⟩) ?_
     exact ⟨M1as, rfl, hp1at, hS1aw⟩
    ·rw [if_neg c18r] at H
     cases H
   ·rw [if_neg c18q] at H
    cases H

/-! ### (*louver/turns.Ring).Grow -/
def turns_Ring_Grow_nil.f (k : Nat) (p1 : Int) (p2 : Int) : Option (S50) := bnd1 (turns_Ring_find_nil.f p1) fun r10y => (some (⟨1, 2⟩ : S50))
set_option maxHeartbeats 20000000 in
set_option maxRecDepth 100000 in
theorem turns_Ring_Grow_nil.calls (k : Nat) {b : Nat} {w0 W : World} {R : Frag} {Fs : List Frag} {p1 : Int} {p2 : Int}  {r0q : S50}  (H : turns_Ring_Grow_nil.f k p1 p2 = some r0q) (hS : St b w0 W R (Fs)) :
  Calls Try.prog 19 ([.pointer none, .int .u32 p1, .int .u32 p2] : List Value).toArray W (fun e W' => e = .returned (.agg #[.int .u8 r0q.f0, .int .u32 r0q.f1]) ∧ St b w0 W' R (Fs)) := by
 unfold turns_Ring_Grow_nil.f at H
 refine calls_enter Try.func19 rfl 40 rfl (by kernel_rfl) (fun a h => ?_)
 refine wp_seq ?_
 refine WL.start ?_
 refine WL.oq h rfl ?_
 refine owp_nw (fun g_ => (pt g_)) (.cells ([.int .u8 0, .int .u32 0] : List Value).toArray 50 (0, 0)) h rfl hS (fun a10q W10s g10t h10r hS10u => ?_)
 refine WL.dn ?_
 refine wp_seq ?_
 refine WL.start ?_
 refine WL.bl 2 2 h10r [(9, .int .u32 p1), (8, .pointer none)] (fun a10v h10w => ?_)
 obtain ⟨r10y, A10x, H⟩ := bind1 H
 refine WL.oq h10w rfl ?_
 refine owp_call [.pointer none, .int .u32 p1] h10w rfl (by kernel_rfl) rfl Try.func28 (by kernel_rfl) rfl (by kernel_rfl) (turns_Ring_find_nil.calls  A10x hS10u) (fun e110 W10z hp111 => ?_)
 obtain ⟨rfl, hS114⟩ := hp111
 refine ⟨_, rfl, fun a112 h113 => ?_⟩
 refine WL.bl 1 4 h113 [(7, i6 r10y)] (fun a115 h116 => ?_)
 refine WL.dn ?_
 refine wp_seq ?_
 refine wp_block ?_
 refine wp_seq ?_
 refine WL.start ?_
 refine WL.bl 3 3 h116 [(11, .bool true), (13, .bool true), (12, .pointer none)] (fun a117 h118 => ?_)
 refine WL.dn ?_
 refine wp_then h118 rfl ?_
 refine wp_seq ?_
 refine WL.start ?_
 refine WL.bl 1 1 h118 [(14, .agg #[.int .u8 1, .int .u32 2])] (fun a119 h11a => ?_)
 refine WL.oq h11a rfl ?_
 refine owp_st 0 [.int .u8 1, .int .u32 2] h11a rfl rfl rfl hS114 [.int .u8 1, .int .u32 2] (fun a11b W11d h11c hS11e => ?_)
 refine WL.dn ?_
 refine wp_ret ?_
 have hS11f := hS11e.drop_
 obtain rfl := Option.some.inj H
 repeat (first | with_reducible refine t1 ?_ | with_reducible refine t2 ?_ | with_reducible refine t3 ?_)
 refine body_ret (v := .agg #[.int .u8 1, .int .u32 2]) h11c (by kernel_rfl) (res_one rfl ⟨_, rfl, loadVarN Try.underlying50 rfl (cs := [.int .u8 1, .int .u32 2]) (by kernel_rfl) (hS11e.cells (vs := [.int .u8 1, .int .u32 2]) rfl)⟩) ?_
 exact ⟨rfl, hS11f⟩

/-! ### louver/louverlaw13.told -/
def louverlaw13qtold.f (p0 : Int) : Option (S50) := if p0 = 0 then (some (⟨0, 0⟩ : S50)) else (some (⟨IntKind.u8.wrap p0, 3⟩ : S50))
set_option maxHeartbeats 20000000 in
set_option maxRecDepth 100000 in
theorem louverlaw13qtold.calls {b : Nat} {w0 W : World} {R : Frag} {Fs : List Frag} {p0 : Int}  {r0q : S50}  (H : louverlaw13qtold.f p0 = some r0q) (hS : St b w0 W R (Fs)) :
  Calls Try.prog 42 ([i6 p0] : List Value).toArray W (fun e W' => e = .returned (.agg #[.int .u8 r0q.f0, .int .u32 r0q.f1]) ∧ St b w0 W' R (Fs)) := by
 unfold louverlaw13qtold.f at H
 refine calls_enter Try.func42 rfl 9 rfl (by kernel_rfl) (fun a h => ?_)
 refine wp_seq ?_
 refine WL.start ?_
 refine WL.oq h rfl ?_
 refine owp_nw (fun g_ => (pt g_)) (.cells ([.int .u8 0, .int .u32 0] : List Value).toArray 50 (0, 0)) h rfl hS (fun a10m W10o g10p h10n hS10q => ?_)
 refine WL.dn ?_
 refine wp_seq ?_
 refine wp_seq ?_
 refine WL.start ?_
 refine WL.bl 2 2 h10n [(4, .bool (decide (p0 = 0))), (3, i6 p0)] (fun a10r h10s => ?_)
 refine WL.dn ?_
 clear h10n a10m
 by_cases c10t : p0 = 0
 ·rw [if_pos c10t] at H
  have hb_ : (decide (p0 = 0)) = true := decide_eq_true c10t
  try rw [hb_] at h10s
  clear hb_
  refine wp_then h10s rfl ?_
  refine wp_seq ?_
  refine WL.start ?_
  refine WL.bl 1 1 h10s [(5, .agg #[.int .u8 0, .int .u32 0])] (fun a10u h10v => ?_)
  refine WL.oq h10v rfl ?_
  refine owp_st 0 [.int .u8 0, .int .u32 0] h10v rfl rfl rfl hS10q [.int .u8 0, .int .u32 0] (fun a10w W10y h10x hS10z => ?_)
  refine WL.dn ?_
  refine wp_ret ?_
  have hS110 := hS10z.drop_
  obtain rfl := Option.some.inj H
  repeat (first | with_reducible refine t1 ?_ | with_reducible refine t2 ?_ | with_reducible refine t3 ?_)
  refine body_ret (v := .agg #[.int .u8 0, .int .u32 0]) h10x (by kernel_rfl) (res_one rfl ⟨_, rfl, loadVarN Try.underlying50 rfl (cs := [.int .u8 0, .int .u32 0]) (by kernel_rfl) (hS10z.cells (vs := [.int .u8 0, .int .u32 0]) rfl)⟩) ?_
  exact ⟨rfl, hS110⟩
 ·rw [if_neg c10t] at H
  have hb_ : (decide (p0 = 0)) = false := decide_eq_false c10t
  try rw [hb_] at h10s
  clear hb_
  refine wp_else h10s rfl ?_
  refine wp_skip ?_
  refine wp_seq ?_
  refine WL.start ?_
  refine WL.bl 3 3 h10s [(8, .agg #[.int .u8 (IntKind.u8.wrap p0), .int .u32 3]), (7, .int .u8 (IntKind.u8.wrap p0)), (6, i6 p0)] (fun a111 h112 => ?_)
  refine WL.oq h112 rfl ?_
  refine owp_st 0 [.int .u8 (IntKind.u8.wrap p0), .int .u32 3] h112 rfl rfl rfl hS10q [.int .u8 (IntKind.u8.wrap p0), .int .u32 3] (fun a113 W115 h114 hS116 => ?_)
  refine WL.dn ?_
  refine wp_ret ?_
  have hS117 := hS116.drop_
  obtain rfl := Option.some.inj H
  repeat (first | with_reducible refine t1 ?_ | with_reducible refine t2 ?_ | with_reducible refine t3 ?_)
  refine body_ret (v := .agg #[.int .u8 (IntKind.u8.wrap p0), .int .u32 3]) h114 (by kernel_rfl) (res_one rfl ⟨_, rfl, loadVarN Try.underlying50 rfl (cs := [.int .u8 (IntKind.u8.wrap p0), .int .u32 3]) (by kernel_rfl) (hS116.cells (vs := [.int .u8 (IntKind.u8.wrap p0), .int .u32 3]) rfl)⟩) ?_
  exact ⟨rfl, hS117⟩

/-! ### (louver/louverref13.R).Shift -/
def louverref13qR_Shift.l0 : Nat → S56 → S56 → Int → S56 → Int → Int → Option (S56 × Int)
 | 0, _, _, _, _, _, _ => none
 | k + 1, x21p, x21s, x21v, p0, p1, p2 => if x21v < (p0.f0.length : Int) then (bnd1 (louverref13qR_Last.f (⟨x21p.f0, x21p.f1, (⟨x21p.f2.f0, x21p.f2.f1⟩ : S41)⟩ : S56)) fun r24y => (if ¬ ((x21p.f0.length : Int) = 0) then (if 0 ≤ (Int.tmod (IntKind.i64.wrap (r24y + x21v)) (x21p.f0.length : Int)) then (if (Int.tmod (IntKind.i64.wrap (r24y + x21v)) (x21p.f0.length : Int)) < (x21p.f0.length : Int) then (bnd2 (louverref10qW_Grow.f (⟨(gt z61 x21p.f0 (Int.tmod (IntKind.i64.wrap (r24y + x21v)) (x21p.f0.length : Int))).f4.f0, (gt z61 x21p.f0 (Int.tmod (IntKind.i64.wrap (r24y + x21v)) (x21p.f0.length : Int))).f4.f1⟩ : S41) (IntKind.i64.wrap ((IntKind.i64.wrap p2) - (IntKind.i64.wrap p1))) true) fun r26j r26k => (if r26k = 0 then (bnd1 (louverref13qR_with.f (⟨x21p.f0, x21p.f1, (⟨x21p.f2.f0, x21p.f2.f1⟩ : S41)⟩ : S56) (Int.tmod (IntKind.i64.wrap (r24y + x21v)) (x21p.f0.length : Int)) (⟨(gt z61 x21p.f0 (Int.tmod (IntKind.i64.wrap (r24y + x21v)) (x21p.f0.length : Int))).f0, (gt z61 x21p.f0 (Int.tmod (IntKind.i64.wrap (r24y + x21v)) (x21p.f0.length : Int))).f1, (gt z61 x21p.f0 (Int.tmod (IntKind.i64.wrap (r24y + x21v)) (x21p.f0.length : Int))).f2, (gt z61 x21p.f0 (Int.tmod (IntKind.i64.wrap (r24y + x21v)) (x21p.f0.length : Int))).f3, (⟨r26j.f0, r26j.f1⟩ : S41)⟩ : S61)) fun r27q => (louverref13qR_Shift.l0 k (⟨r27q.f0, r27q.f1, (⟨r27q.f2.f0, r27q.f2.f1⟩ : S41)⟩ : S56) x21s (IntKind.i64.wrap (x21v + 1)) p0 p1 p2)) else (some ((⟨x21p.f0, x21p.f1, (⟨x21p.f2.f0, x21p.f2.f1⟩ : S41)⟩ : S56), r26k)))) else (none)) else (none)) else (none))) else (some ((⟨x21p.f0, x21p.f1, (⟨x21p.f2.f0, x21p.f2.f1⟩ : S41)⟩ : S56), 0))
def louverref13qR_Shift.f (k : Nat) (p0 : S56) (p1 : Int) (p2 : Int) : Option (S56 × Int) := louverref13qR_Shift.l0 k (⟨p0.f0, p0.f1, (⟨p0.f2.f0, p0.f2.f1⟩ : S41)⟩ : S56) (⟨([] : List S61), 0, (⟨0, false⟩ : S41)⟩ : S56) 0 p0 p1 p2
set_option maxHeartbeats 20000000 in
set_option maxRecDepth 100000 in
theorem louverref13qR_Shift.calls (k : Nat) {b : Nat} {w0 W : World} {R : Frag} {Fs : List Frag} {p0 : S56} {p1 : Int} {p2 : Int} {v0q0 : Value} {M0q0 : Frag} {r0q : S56} {r1q : Int} (hp0q0 : Row k61 61 b w0 R v0q0 p0.f0 M0q0) (H : louverref13qR_Shift.f k p0 p1 p2 = some (r0q, r1q)) (hS : St b w0 W R (M0q0 :: Fs)) :
  Calls Try.prog 43 ([.agg #[v0q0, i6 p0.f1, i6 p0.f2.f0, .bool p0.f2.f1], .int .u32 p1, .int .u32 p2] : List Value).toArray W (fun e W' => ∃ (u0qv0qf0 : Value) (Nu0qv0qf0 : Frag), e = .returned (.tuple #[.agg #[u0qv0qf0, i6 r0q.f1, i6 r0q.f2.f0, .bool r0q.f2.f1], i6 r1q]) ∧ Row k61 61 b w0 R u0qv0qf0 r0q.f0 Nu0qv0qf0 ∧ St b w0 W' R (Nu0qv0qf0 :: Fs)) := by
 obtain ⟨A0q0, c0q0, rfl⟩ := hp0q0.form
 unfold louverref13qR_Shift.f at H
 refine calls_enter Try.func43 rfl 55 rfl (by kernel_rfl) (fun a h => ?_)
 refine wp_seq ?_
 refine WL.start ?_
 refine WL.oq h rfl ?_
 refine owp_nw (fun g_ => (pt g_)) (.cells ([.slice A0q0 p0.f0.length c0q0, i6 p0.f1, i6 p0.f2.f0, .bool p0.f2.f1] : List Value).toArray 56 (0, 0)) h rfl hS (fun a211 W213 g214 h212 hS215 => ?_)
 refine WL.oq h212 rfl ?_
 refine owp_nw (fun g_ => (pt g_)) (.cells ([.slice none 0 0, i6 0, i6 0, .bool false] : List Value).toArray 56 (0, 0)) h212 rfl hS215 (fun a216 W218 g219 h217 hS21a => ?_)
 refine WL.bl 1 3 h217 [(7, i6 0)] (fun a21b h21c => ?_)
 refine WL.dn ?_
 refine wp_seq ?_
 refine wp_seq ?_
 refine WL.start ?_
 refine WL.bl 1 1 h21c [(13, pt g214)] (fun a21d h21e => ?_)
 have hS21f := hS21a.b1
 refine WL.oq h21e rfl ?_
 refine owp_rn (.slice A0q0 p0.f0.length c0q0) h21e rfl (run_load1 rfl rfl Try.underlying54 rfl (hS21f.cell (i := 0) rfl)) (fun a21g h21h => ?_)
 refine WL.bl 2 4 h21h [(16, i6 0), (15, i6 (p0.f0.length : Int))] (fun a21i h21j => ?_)
 refine WL.dn ?_
 refine wp_block ?_
 have hS21w := hS21f.b2
 have hS21x := hS21w.b1
 obtain ⟨M21y, hp21z, hS220⟩ := k56qfo (⟨p0.f0, p0.f1, (⟨p0.f2.f0, p0.f2.f1⟩ : S41)⟩ : S56) hp0q0 hS21x
 have hS221 := hS220.nil_
 have hS222 := hS221.b2
 obtain ⟨M223, hp224, hS225⟩ := k56qfo (⟨([] : List S61), 0, (⟨0, false⟩ : S41)⟩ : S56) (y0 := []) Row.nil hS222
 have hS226 := hS225.b1
 clear h212 a211 h217 a216 h21c a21b h21e a21d h21h a21g
 refine wp_loop_ghost (fun kq_ a_ W_ => ∃ (x21p : S56), ∃ (M21q : Frag), ∃ (x21s : S56), ∃ (M21t : Frag), ∃ (x21v : Int), Hd a_ 55 [(1, .int .u32 p1), (2, .int .u32 p2), (3, pt g214), (6, pt g219), (15, i6 (p0.f0.length : Int)), (16, i6 x21v)] ∧ Asd (louverref13qR_Shift.l0 kq_ x21p x21s x21v p0 p1 p2 = some (r0q, r1q)) ∧ Asd (kq_ ≤ k) ∧ Asd (St b w0 W_ R (M21q :: M21t :: Fs)) ∧ Asd (Ptr k56 56 b w0 R (pt g214) x21p M21q) ∧ Asd (Ptr k56 56 b w0 R (pt g219) x21s M21t)) k ⟨(⟨p0.f0, p0.f1, (⟨p0.f2.f0, p0.f2.f1⟩ : S41)⟩ : S56), M21y, (⟨([] : List S61), 0, (⟨0, false⟩ : S41)⟩ : S56), M223, 0, h21j.keep ⟨rfl, rfl, rfl, rfl, rfl, rfl, trivial⟩, ⟨H⟩, ⟨Nat.le_refl _⟩, ⟨hS226⟩, ⟨hp21z⟩, ⟨hp224⟩⟩ ?_
 clear H hS226
 rintro kk21o a21l W21m ⟨x21p, M21q, x21s, M21t, x21v, h21k, ⟨H⟩, ⟨hkkk21o⟩, ⟨hS21n⟩, ⟨hr21r⟩, ⟨hr21u⟩⟩
 obtain _ | kk227 := kk21o
 ·exact absurd H (by simp [louverref13qR_Shift.l0])
 simp only [louverref13qR_Shift.l0] at H
 refine wp_seq ?_
 refine WL.start ?_
 refine WL.bl 1 1 h21k [(17, .bool (decide (x21v < (p0.f0.length : Int))))] (fun a228 h229 => ?_)
 refine WL.dn ?_
 refine wp_seq ?_
 clear h21k a21l
 by_cases c22a : x21v < (p0.f0.length : Int)
 ·rw [if_pos c22a] at H
  have hb_ : (decide (x21v < (p0.f0.length : Int))) = true := decide_eq_true c22a
  try rw [hb_] at h229
  clear hb_
  refine wp_then h229 rfl ?_
  refine wp_skip ?_
  refine wp_seq ?_
  refine wp_block ?_
  refine wp_seq ?_
  refine WL.start ?_
  refine WL.bl 2 2 h229 [(8, i6 x21v), (18, i6 x21v)] (fun a22b h22c => ?_)
  refine WL.dn ?_
  refine wp_seq ?_
  obtain ⟨A22e, c22f, M22g, hr22h, hS22d⟩ := k56qoq hr21r hS21n
  refine WT.start 9 (fun w_ => (∀ j_ u_, ([.slice A22e x21p.f0.length c22f, i6 x21p.f1, i6 x21p.f2.f0, .bool x21p.f2.f1] : List Value)[j_]? = some u_ → w_.cell? ((⟨g214, 0, none⟩ : Addr).add j_) = some u_) ∧ (w_.cell? ⟨g214, 0, none⟩ = some (.slice A22e x21p.f0.length c22f)) ∧ True) (by kernel_rfl) #[false, false, false, false, false, false, false, false, false] 9 rfl rfl ?_
  have hS24g := hS22d.drew
  refine WT.tk 2 h22c rfl rfl (i6 x21v) (fun _ _ => by kernel_rfl) ⟨(hS24g.cells (vs := [.slice A22e x21p.f0.length c22f, i6 x21p.f1, i6 x21p.f2.f0, .bool x21p.f2.f1]) rfl), (hS24g.cell (i := 0) rfl), trivial⟩ (fun a24h s24j h24i => ?_)
  refine WT.tk 4 h24i rfl rfl (pt g214) (fun _ _ => by kernel_rfl) s24j (fun a24k s24m h24l => ?_)
  refine WT.tk 0 h24l rfl rfl (.agg #[.slice A22e x21p.f0.length c22f, i6 x21p.f1, i6 x21p.f2.f0, .bool x21p.f2.f1]) (fun w_ hs_ => (run_loadN rfl rfl Try.underlying56 rfl (cs := [.slice A22e x21p.f0.length c22f, i6 x21p.f1, i6 x21p.f2.f0, .bool x21p.f2.f1]) (by kernel_rfl) hs_.1)) s24m (fun a24n s24p h24o => ?_)
  refine WT.tk 5 h24o rfl rfl (.slice A22e x21p.f0.length c22f) (fun w_ hs_ => (run_load1 rfl rfl Try.underlying54 rfl hs_.2.1)) s24p (fun a24q s24s h24r => ?_)
  refine WT.tk 6 h24r rfl rfl (i6 (x21p.f0.length : Int)) (fun _ _ => by kernel_rfl) s24s (fun a24t s24v h24u => ?_)
  have hS24w := hS24g.b1
  obtain ⟨r24y, A24x, H⟩ := bind1 H
  refine WT.o1 1 h24u rfl ?_
  refine owp_call [.agg #[.slice A22e x21p.f0.length c22f, i6 x21p.f1, i6 x21p.f2.f0, .bool x21p.f2.f1]] h24u rfl (by kernel_rfl) rfl Try.func51 (by kernel_rfl) rfl (by kernel_rfl) (louverref13qR_Last.calls (p0 := (⟨x21p.f0, x21p.f1, (⟨x21p.f2.f0, x21p.f2.f1⟩ : S41)⟩ : S56)) hr22h.rds A24x (hS24w.pool)) (fun e250 W24z hp251 => ?_)
  obtain ⟨rfl, hS254⟩ := hp251
  have hS255 : St b w0 W24z R (M22g :: (bx g214 56 [.slice A22e x21p.f0.length c22f, i6 x21p.f1, i6 x21p.f2.f0, .bool x21p.f2.f1]) :: M21t :: Fs) := hS254.unpool
  refine ⟨_, rfl, fun a252 h253 => ?_⟩
  refine ⟨.inr ⟨(hS255.b1.cells (vs := [.slice A22e x21p.f0.length c22f, i6 x21p.f1, i6 x21p.f2.f0, .bool x21p.f2.f1]) rfl), (hS255.b1.cell (i := 0) rfl), trivial⟩, ?_⟩
  refine WT.tk 3 h253 rfl rfl (i6 (IntKind.i64.wrap (r24y + x21v))) (fun _ _ => by kernel_rfl) ⟨(hS255.b1.cells (vs := [.slice A22e x21p.f0.length c22f, i6 x21p.f1, i6 x21p.f2.f0, .bool x21p.f2.f1]) rfl), (hS255.b1.cell (i := 0) rfl), trivial⟩ (fun a256 s258 h257 => ?_)
  clear h229 a228 h22c a22b h24i a24h h24l a24k h24o a24n h24r a24q h24u a24t h253 a252
  by_cases c259 : ¬ ((x21p.f0.length : Int) = 0)
  ·rw [if_pos c259] at H
   refine WT.tk 7 h257 rfl rfl (i6 (Int.tmod (IntKind.i64.wrap (r24y + x21v)) (x21p.f0.length : Int))) (fun w_ hs_ => (run_rem rfl rfl rfl (by assumption))) s258 (fun a25a s25c h25b => ?_)
   refine WT.tk 8 h25b rfl rfl (i6 (Int.tmod (IntKind.i64.wrap (r24y + x21v)) (x21p.f0.length : Int))) (fun _ _ => by kernel_rfl) s25c (fun a25d s25f h25e => ?_)
   refine WT.dn ?_
   refine wp_seq ?_
   refine WL.start ?_
   refine WL.bl 1 1 h25e [(27, pt g214)] (fun a25g h25h => ?_)
   have hS25i := hS255.b1
   refine WL.oq h25h rfl ?_
   refine owp_rn (.slice A22e x21p.f0.length c22f) h25h rfl (run_load1 rfl rfl Try.underlying54 rfl (hS25i.cell (i := 0) rfl)) (fun a25j h25k => ?_)
   refine WL.bl 1 3 h25k [(29, i6 (Int.tmod (IntKind.i64.wrap (r24y + x21v)) (x21p.f0.length : Int)))] (fun a25l h25m => ?_)
   clear h257 a256 h25b a25a h25e a25d h25h a25g h25k a25j
   by_cases c25n : 0 ≤ (Int.tmod (IntKind.i64.wrap (r24y + x21v)) (x21p.f0.length : Int))
   ·rw [if_pos c25n] at H
    by_cases c25o : (Int.tmod (IntKind.i64.wrap (r24y + x21v)) (x21p.f0.length : Int)) < (x21p.f0.length : Int)
    ·rw [if_pos c25o] at H
     have hi25r : 0 ≤ Int.tmod (IntKind.i64.wrap (r24y + x21v)) (x21p.f0.length : Int) := by first | assumption | omega
     have hi25s : (Int.tmod (IntKind.i64.wrap (r24y + x21v)) (x21p.f0.length : Int)) < (x21p.f0.length : Int) := by first | assumption | omega
     obtain ⟨ad25p, _, ha25q, -, -⟩ := Rds.elemAny hr22h.rds hi25r (gt_get (z := z61) hi25r hi25s)
     refine WL.oq h25m rfl ?_
     refine owp_rn (.pointer (some (ad25p.add ((Int.tmod (IntKind.i64.wrap (r24y + x21v)) (x21p.f0.length : Int)).toNat * 6)))) h25m rfl (run_idx (ad := ad25p) (sz := 6) rfl (by rw [← ha25q]; rfl) rfl Try.underlying54 (by kernel_rfl) hi25r hi25s) (fun a25t h25u => ?_)
     have hS25v := hS25i.b1
     obtain ⟨ad25w, cs25x, ha25y, hr260, hc25z⟩ := Rds.elemAny hr22h.rds hi25r (gt_get (z := z61) hi25r hi25s)
     rw [ha25q] at ha25y; obtain rfl := Option.some.inj ha25y
     obtain rfl := k61qrd hr260
     refine WL.oq h25u rfl ?_
     refine owp_rn (.agg #[.int .u32 ((gt z61 x21p.f0 (Int.tmod (IntKind.i64.wrap (r24y + x21v)) (x21p.f0.length : Int))).f0), .string (mkS ((gt z61 x21p.f0 (Int.tmod (IntKind.i64.wrap (r24y + x21v)) (x21p.f0.length : Int))).f1)), .bool ((gt z61 x21p.f0 (Int.tmod (IntKind.i64.wrap (r24y + x21v)) (x21p.f0.length : Int))).f2), .bool ((gt z61 x21p.f0 (Int.tmod (IntKind.i64.wrap (r24y + x21v)) (x21p.f0.length : Int))).f3), i6 ((gt z61 x21p.f0 (Int.tmod (IntKind.i64.wrap (r24y + x21v)) (x21p.f0.length : Int))).f4.f0), .bool ((gt z61 x21p.f0 (Int.tmod (IntKind.i64.wrap (r24y + x21v)) (x21p.f0.length : Int))).f4.f1)]) h25u rfl (run_loadN rfl rfl Try.underlying61 rfl (cs := [.int .u32 ((gt z61 x21p.f0 (Int.tmod (IntKind.i64.wrap (r24y + x21v)) (x21p.f0.length : Int))).f0), .string (mkS ((gt z61 x21p.f0 (Int.tmod (IntKind.i64.wrap (r24y + x21v)) (x21p.f0.length : Int))).f1)), .bool ((gt z61 x21p.f0 (Int.tmod (IntKind.i64.wrap (r24y + x21v)) (x21p.f0.length : Int))).f2), .bool ((gt z61 x21p.f0 (Int.tmod (IntKind.i64.wrap (r24y + x21v)) (x21p.f0.length : Int))).f3), i6 ((gt z61 x21p.f0 (Int.tmod (IntKind.i64.wrap (r24y + x21v)) (x21p.f0.length : Int))).f4.f0), .bool ((gt z61 x21p.f0 (Int.tmod (IntKind.i64.wrap (r24y + x21v)) (x21p.f0.length : Int))).f4.f1)]) (by kernel_rfl) (hc25z _ (fun _ _ hk_ => (hS25v).pool.kn hk_))) (fun a261 h262 => ?_)
     refine WL.oq h262 rfl ?_
     refine owp_nw (fun g_ => (pt g_)) (.cells ([.int .u32 0, .string (mkS []), .bool false, .bool false, i6 0, .bool false] : List Value).toArray 61 (0, 0)) h262 rfl hS25v (fun a263 W265 g266 h264 hS267 => ?_)
     refine WL.oq h264 rfl ?_
     refine owp_st 0 [.int .u32 ((gt z61 x21p.f0 (Int.tmod (IntKind.i64.wrap (r24y + x21v)) (x21p.f0.length : Int))).f0), .string (mkS ((gt z61 x21p.f0 (Int.tmod (IntKind.i64.wrap (r24y + x21v)) (x21p.f0.length : Int))).f1)), .bool ((gt z61 x21p.f0 (Int.tmod (IntKind.i64.wrap (r24y + x21v)) (x21p.f0.length : Int))).f2), .bool ((gt z61 x21p.f0 (Int.tmod (IntKind.i64.wrap (r24y + x21v)) (x21p.f0.length : Int))).f3), i6 ((gt z61 x21p.f0 (Int.tmod (IntKind.i64.wrap (r24y + x21v)) (x21p.f0.length : Int))).f4.f0), .bool ((gt z61 x21p.f0 (Int.tmod (IntKind.i64.wrap (r24y + x21v)) (x21p.f0.length : Int))).f4.f1)] h264 rfl rfl rfl hS267 [.int .u32 ((gt z61 x21p.f0 (Int.tmod (IntKind.i64.wrap (r24y + x21v)) (x21p.f0.length : Int))).f0), .string (mkS ((gt z61 x21p.f0 (Int.tmod (IntKind.i64.wrap (r24y + x21v)) (x21p.f0.length : Int))).f1)), .bool ((gt z61 x21p.f0 (Int.tmod (IntKind.i64.wrap (r24y + x21v)) (x21p.f0.length : Int))).f2), .bool ((gt z61 x21p.f0 (Int.tmod (IntKind.i64.wrap (r24y + x21v)) (x21p.f0.length : Int))).f3), i6 ((gt z61 x21p.f0 (Int.tmod (IntKind.i64.wrap (r24y + x21v)) (x21p.f0.length : Int))).f4.f0), .bool ((gt z61 x21p.f0 (Int.tmod (IntKind.i64.wrap (r24y + x21v)) (x21p.f0.length : Int))).f4.f1)] (fun a268 W26a h269 hS26b => ?_)
     refine WL.dn ?_
     refine wp_seq ?_
     refine WL.start ?_
     refine WL.bl 1 1 h269 [(33, .pointer (some ⟨g266, 4, none⟩))] (fun a26c h26d => ?_)
     refine WL.oq h26d rfl ?_
     refine owp_rn (.agg #[i6 ((gt z61 x21p.f0 (Int.tmod (IntKind.i64.wrap (r24y + x21v)) (x21p.f0.length : Int))).f4.f0), .bool ((gt z61 x21p.f0 (Int.tmod (IntKind.i64.wrap (r24y + x21v)) (x21p.f0.length : Int))).f4.f1)]) h26d rfl (run_loadN rfl rfl Try.underlying41 rfl (cs := [i6 ((gt z61 x21p.f0 (Int.tmod (IntKind.i64.wrap (r24y + x21v)) (x21p.f0.length : Int))).f4.f0), .bool ((gt z61 x21p.f0 (Int.tmod (IntKind.i64.wrap (r24y + x21v)) (x21p.f0.length : Int))).f4.f1)]) (by kernel_rfl) (hS26b.cells (vs := [i6 ((gt z61 x21p.f0 (Int.tmod (IntKind.i64.wrap (r24y + x21v)) (x21p.f0.length : Int))).f4.f0), .bool ((gt z61 x21p.f0 (Int.tmod (IntKind.i64.wrap (r24y + x21v)) (x21p.f0.length : Int))).f4.f1)]) rfl)) (fun a26e h26f => ?_)
     refine WL.bl 5 7 h26f [(39, i6 (IntKind.i64.wrap ((IntKind.i64.wrap p2) - (IntKind.i64.wrap p1)))), (38, i6 (IntKind.i64.wrap p1)), (37, .int .u32 p1), (36, i6 (IntKind.i64.wrap p2)), (35, .int .u32 p2)] (fun a26g h26h => ?_)
     obtain ⟨r26j, r26k, A26i, H⟩ := bind2 H
     refine WL.oq h26h rfl ?_
     refine owp_call [.agg #[i6 ((gt z61 x21p.f0 (Int.tmod (IntKind.i64.wrap (r24y + x21v)) (x21p.f0.length : Int))).f4.f0), .bool ((gt z61 x21p.f0 (Int.tmod (IntKind.i64.wrap (r24y + x21v)) (x21p.f0.length : Int))).f4.f1)], i6 (IntKind.i64.wrap ((IntKind.i64.wrap p2) - (IntKind.i64.wrap p1))), .bool true] h26h rfl (by kernel_rfl) rfl Try.func54 (by kernel_rfl) rfl (by kernel_rfl) (louverref10qW_Grow.calls (p0 := (⟨(gt z61 x21p.f0 (Int.tmod (IntKind.i64.wrap (r24y + x21v)) (x21p.f0.length : Int))).f4.f0, (gt z61 x21p.f0 (Int.tmod (IntKind.i64.wrap (r24y + x21v)) (x21p.f0.length : Int))).f4.f1⟩ : S41))  A26i hS26b) (fun e26m W26l hp26n => ?_)
     obtain ⟨rfl, hS26q⟩ := hp26n
     refine ⟨_, rfl, fun a26o h26p => ?_⟩
     refine WL.bl 3 11 h26p [(42, i6 r26k), (41, .agg #[i6 r26j.f0, .bool r26j.f1]), (32, .tuple #[.agg #[i6 r26j.f0, .bool r26j.f1], i6 r26k])] (fun a26r h26s => ?_)
     refine WL.oq h26s rfl ?_
     refine owp_nw (fun g_ => (pt g_)) (.cells ([i6 0, .bool false] : List Value).toArray 41 (0, 0)) h26s rfl hS26q (fun a26t W26v g26w h26u hS26x => ?_)
     refine WL.oq h26u rfl ?_
     refine owp_st 0 [i6 r26j.f0, .bool r26j.f1] h26u rfl rfl rfl hS26x [i6 r26j.f0, .bool r26j.f1] (fun a26y W270 h26z hS271 => ?_)
     refine WL.bl 1 14 h26z [(12, i6 r26k)] (fun a272 h273 => ?_)
     clear h25m a25l h25u a25t h262 a261 h264 a263 h269 a268 h26d a26c h26f a26e h26h a26g h26p a26o h26s a26r h26u a26t h26z a26y
     refine WL.dn ?_
     refine wp_seq ?_
     refine wp_seq ?_
     refine WL.start ?_
     refine WL.bl 2 2 h273 [(44, .bool (!decide (r26k = 0))), (43, i6 r26k)] (fun a274 h275 => ?_)
     refine WL.dn ?_
     clear h273 a272
     by_cases c276 : r26k = 0
     ·rw [if_pos c276] at H
      have hb_ : (decide (r26k = 0)) = true := decide_eq_true c276
      try rw [hb_] at h275
      clear hb_
      refine wp_else h275 rfl ?_
      refine wp_skip ?_
      refine wp_seq ?_
      refine WL.start ?_
      refine WL.oq h275 rfl ?_
      refine owp_rn (.agg #[i6 r26j.f0, .bool r26j.f1]) h275 rfl (run_loadN rfl rfl Try.underlying41 rfl (cs := [i6 r26j.f0, .bool r26j.f1]) (by kernel_rfl) (hS271.cells (vs := [i6 r26j.f0, .bool r26j.f1]) rfl)) (fun a277 h278 => ?_)
      refine WL.bl 1 2 h278 [(48, .pointer (some ⟨g266, 4, none⟩))] (fun a279 h27a => ?_)
      have hS27b := hS271.b1
      refine WL.oq h27a rfl ?_
      refine owp_st 4 [i6 r26j.f0, .bool r26j.f1] h27a rfl rfl rfl hS27b [.int .u32 ((gt z61 x21p.f0 (Int.tmod (IntKind.i64.wrap (r24y + x21v)) (x21p.f0.length : Int))).f0), .string (mkS ((gt z61 x21p.f0 (Int.tmod (IntKind.i64.wrap (r24y + x21v)) (x21p.f0.length : Int))).f1)), .bool ((gt z61 x21p.f0 (Int.tmod (IntKind.i64.wrap (r24y + x21v)) (x21p.f0.length : Int))).f2), .bool ((gt z61 x21p.f0 (Int.tmod (IntKind.i64.wrap (r24y + x21v)) (x21p.f0.length : Int))).f3), i6 r26j.f0, .bool r26j.f1] (fun a27c W27e h27d hS27f => ?_)
      refine WL.dn ?_
      refine WL.start ?_
      have hS27g := hS27f.b3
      refine WL.oq h27d rfl ?_
      refine owp_rn (.agg #[.slice A22e x21p.f0.length c22f, i6 x21p.f1, i6 x21p.f2.f0, .bool x21p.f2.f1]) h27d rfl (run_loadN rfl rfl Try.underlying56 rfl (cs := [.slice A22e x21p.f0.length c22f, i6 x21p.f1, i6 x21p.f2.f0, .bool x21p.f2.f1]) (by kernel_rfl) (hS27g.cells (vs := [.slice A22e x21p.f0.length c22f, i6 x21p.f1, i6 x21p.f2.f0, .bool x21p.f2.f1]) rfl)) (fun a27h h27i => ?_)
      refine WL.bl 1 2 h27i [(50, i6 (Int.tmod (IntKind.i64.wrap (r24y + x21v)) (x21p.f0.length : Int)))] (fun a27j h27k => ?_)
      have hS27l := hS27g.b1
      refine WL.oq h27k rfl ?_
      refine owp_rn (.agg #[.int .u32 ((gt z61 x21p.f0 (Int.tmod (IntKind.i64.wrap (r24y + x21v)) (x21p.f0.length : Int))).f0), .string (mkS ((gt z61 x21p.f0 (Int.tmod (IntKind.i64.wrap (r24y + x21v)) (x21p.f0.length : Int))).f1)), .bool ((gt z61 x21p.f0 (Int.tmod (IntKind.i64.wrap (r24y + x21v)) (x21p.f0.length : Int))).f2), .bool ((gt z61 x21p.f0 (Int.tmod (IntKind.i64.wrap (r24y + x21v)) (x21p.f0.length : Int))).f3), i6 r26j.f0, .bool r26j.f1]) h27k rfl (run_loadN rfl rfl Try.underlying61 rfl (cs := [.int .u32 ((gt z61 x21p.f0 (Int.tmod (IntKind.i64.wrap (r24y + x21v)) (x21p.f0.length : Int))).f0), .string (mkS ((gt z61 x21p.f0 (Int.tmod (IntKind.i64.wrap (r24y + x21v)) (x21p.f0.length : Int))).f1)), .bool ((gt z61 x21p.f0 (Int.tmod (IntKind.i64.wrap (r24y + x21v)) (x21p.f0.length : Int))).f2), .bool ((gt z61 x21p.f0 (Int.tmod (IntKind.i64.wrap (r24y + x21v)) (x21p.f0.length : Int))).f3), i6 r26j.f0, .bool r26j.f1]) (by kernel_rfl) (hS27l.cells (vs := [.int .u32 ((gt z61 x21p.f0 (Int.tmod (IntKind.i64.wrap (r24y + x21v)) (x21p.f0.length : Int))).f0), .string (mkS ((gt z61 x21p.f0 (Int.tmod (IntKind.i64.wrap (r24y + x21v)) (x21p.f0.length : Int))).f1)), .bool ((gt z61 x21p.f0 (Int.tmod (IntKind.i64.wrap (r24y + x21v)) (x21p.f0.length : Int))).f2), .bool ((gt z61 x21p.f0 (Int.tmod (IntKind.i64.wrap (r24y + x21v)) (x21p.f0.length : Int))).f3), i6 r26j.f0, .bool r26j.f1]) rfl)) (fun a27m h27n => ?_)
      have hS27o := hS27l.b3
      obtain ⟨r27q, A27p, H⟩ := bind1 H
      refine WL.oq h27n rfl ?_
      refine owp_call [.agg #[.slice A22e x21p.f0.length c22f, i6 x21p.f1, i6 x21p.f2.f0, .bool x21p.f2.f1], i6 (Int.tmod (IntKind.i64.wrap (r24y + x21v)) (x21p.f0.length : Int)), .agg #[.int .u32 ((gt z61 x21p.f0 (Int.tmod (IntKind.i64.wrap (r24y + x21v)) (x21p.f0.length : Int))).f0), .string (mkS ((gt z61 x21p.f0 (Int.tmod (IntKind.i64.wrap (r24y + x21v)) (x21p.f0.length : Int))).f1)), .bool ((gt z61 x21p.f0 (Int.tmod (IntKind.i64.wrap (r24y + x21v)) (x21p.f0.length : Int))).f2), .bool ((gt z61 x21p.f0 (Int.tmod (IntKind.i64.wrap (r24y + x21v)) (x21p.f0.length : Int))).f3), i6 r26j.f0, .bool r26j.f1]] h27n rfl (by kernel_rfl) rfl Try.func52 (by kernel_rfl) rfl (by kernel_rfl) (louverref13qR_with.calls (p0 := (⟨x21p.f0, x21p.f1, (⟨x21p.f2.f0, x21p.f2.f1⟩ : S41)⟩ : S56)) (p2 := (⟨(gt z61 x21p.f0 (Int.tmod (IntKind.i64.wrap (r24y + x21v)) (x21p.f0.length : Int))).f0, (gt z61 x21p.f0 (Int.tmod (IntKind.i64.wrap (r24y + x21v)) (x21p.f0.length : Int))).f1, (gt z61 x21p.f0 (Int.tmod (IntKind.i64.wrap (r24y + x21v)) (x21p.f0.length : Int))).f2, (gt z61 x21p.f0 (Int.tmod (IntKind.i64.wrap (r24y + x21v)) (x21p.f0.length : Int))).f3, (⟨r26j.f0, r26j.f1⟩ : S41)⟩ : S61)) hr22h A27p hS27o) (fun e27s W27r hp27t => ?_)
      obtain ⟨v27w, M27x, rfl, hr27y, hS27z⟩ := hp27t
      refine ⟨_, rfl, fun a27u h27v => ?_⟩
      obtain ⟨A280, c281, rfl⟩ := hr27y.form
      have hS282 := hS27z.b2
      refine WL.oq h27v rfl ?_
      refine owp_st 0 [.slice A280 r27q.f0.length c281, i6 r27q.f1, i6 r27q.f2.f0, .bool r27q.f2.f1] h27v rfl rfl rfl hS282 [.slice A280 r27q.f0.length c281, i6 r27q.f1, i6 r27q.f2.f0, .bool r27q.f2.f1] (fun a283 W285 h284 hS286 => ?_)
      refine WL.dn ?_
      refine WL.start ?_
      refine WL.bl 2 2 h284 [(16, i6 (IntKind.i64.wrap (x21v + 1))), (53, i6 (IntKind.i64.wrap (x21v + 1)))] (fun a287 h288 => ?_)
      refine WL.dn ?_
      have hS289 := hS286.b1
      have hS28a := hS289.b1
      obtain ⟨M28b, hp28c, hS28d⟩ := k56qfo (⟨r27q.f0, r27q.f1, (⟨r27q.f2.f0, r27q.f2.f1⟩ : S41)⟩ : S56) hr27y hS28a
      have hS28e := hS28d.b1
      have hS28f := hS28e.drop_
      have hS28g := hS28f.b1
      have hS28h := hS28g.drop_
      exact ⟨kk227, by omega, (⟨r27q.f0, r27q.f1, (⟨r27q.f2.f0, r27q.f2.f1⟩ : S41)⟩ : S56), M28b, x21s, M21t, IntKind.i64.wrap (x21v + 1), h288.keep ⟨rfl, rfl, rfl, rfl, rfl, rfl, trivial⟩, ⟨H⟩, ⟨by omega⟩, ⟨hS28h⟩, ⟨hp28c⟩, ⟨hr21u⟩⟩
     ·rw [if_neg c276] at H
      have hb_ : (decide (r26k = 0)) = false := decide_eq_false c276
      try rw [hb_] at h275
      clear hb_
      refine wp_then h275 rfl ?_
      refine wp_seq ?_
      refine WL.start ?_
      have hS28i := hS271.b3
      refine WL.oq h275 rfl ?_
      refine owp_rn (.agg #[.slice A22e x21p.f0.length c22f, i6 x21p.f1, i6 x21p.f2.f0, .bool x21p.f2.f1]) h275 rfl (run_loadN rfl rfl Try.underlying56 rfl (cs := [.slice A22e x21p.f0.length c22f, i6 x21p.f1, i6 x21p.f2.f0, .bool x21p.f2.f1]) (by kernel_rfl) (hS28i.cells (vs := [.slice A22e x21p.f0.length c22f, i6 x21p.f1, i6 x21p.f2.f0, .bool x21p.f2.f1]) rfl)) (fun a28j h28k => ?_)
      refine WL.bl 1 2 h28k [(46, i6 r26k)] (fun a28l h28m => ?_)
      have hS28n := hS28i.b4
      obtain ⟨A28p, c28q, M28r, hr28s, hS28o⟩ := k56qoq hr21u hS28n
      refine WL.oq h28m rfl ?_
      refine owp_st 0 [.slice A22e x21p.f0.length c22f, i6 x21p.f1, i6 x21p.f2.f0, .bool x21p.f2.f1] h28m rfl rfl rfl hS28o [.slice A22e x21p.f0.length c22f, i6 x21p.f1, i6 x21p.f2.f0, .bool x21p.f2.f1] (fun a28t W28v h28u hS28w => ?_)
      refine WL.bl 1 4 h28u [(7, i6 r26k)] (fun a28x h28y => ?_)
      refine WL.dn ?_
      refine wp_ret ?_
      have hS28z := hS28w.drop_
      have hS290 := hS28z.drop_
      have hS291 := hS290.drop_
      have hS292 := hS291.drop_
      have hS293 := hS292.drop_
      obtain ⟨rfl, rfl⟩ := ret2 H
      repeat (first | with_reducible refine t1 ?_ | with_reducible refine t2 ?_ | with_reducible refine t3 ?_)
      refine body_ret (v := .tuple #[.agg #[.slice A22e x21p.f0.length c22f, i6 x21p.f1, i6 x21p.f2.f0, .bool x21p.f2.f1], i6 r26k]) h28y (by kernel_rfl) (res_many (xs := [ResultVar.cell 6 56, ResultVar.tmp 7]) rfl ⟨⟨_, rfl, loadVarN Try.underlying56 rfl (cs := [.slice A22e x21p.f0.length c22f, i6 x21p.f1, i6 x21p.f2.f0, .bool x21p.f2.f1]) (by kernel_rfl) (hS28w.cells (vs := [.slice A22e x21p.f0.length c22f, i6 x21p.f1, i6 x21p.f2.f0, .bool x21p.f2.f1]) rfl)⟩, rfl, trivial⟩ rfl) ?_
      exact ⟨.slice A22e x21p.f0.length c22f, M22g, rfl, hr22h, hS293⟩
    ·rw [if_neg c25o] at H
     cases H
   ·rw [if_neg c25n] at H
    cases H
  ·rw [if_neg c259] at H
   cases H
 ·rw [if_neg c22a] at H
  have hb_ : (decide (x21v < (p0.f0.length : Int))) = false := decide_eq_false c22a
  try rw [hb_] at h229
  clear hb_
  refine wp_else h229 rfl ?_
  refine wp_exit ?_
  refine wp_seq ?_
  refine WL.start ?_
  obtain ⟨A295, c296, M297, hr298, hS294⟩ := k56qoq hr21r hS21n
  refine WL.oq h229 rfl ?_
  refine owp_rn (.agg #[.slice A295 x21p.f0.length c296, i6 x21p.f1, i6 x21p.f2.f0, .bool x21p.f2.f1]) h229 rfl (run_loadN rfl rfl Try.underlying56 rfl (cs := [.slice A295 x21p.f0.length c296, i6 x21p.f1, i6 x21p.f2.f0, .bool x21p.f2.f1]) (by kernel_rfl) (hS294.cells (vs := [.slice A295 x21p.f0.length c296, i6 x21p.f1, i6 x21p.f2.f0, .bool x21p.f2.f1]) rfl)) (fun a299 h29a => ?_)
  have hS29b := hS294.b2
  obtain ⟨A29d, c29e, M29f, hr29g, hS29c⟩ := k56qoq hr21u hS29b
  refine WL.oq h29a rfl ?_
  refine owp_st 0 [.slice A295 x21p.f0.length c296, i6 x21p.f1, i6 x21p.f2.f0, .bool x21p.f2.f1] h29a rfl rfl rfl hS29c [.slice A295 x21p.f0.length c296, i6 x21p.f1, i6 x21p.f2.f0, .bool x21p.f2.f1] (fun a29h W29j h29i hS29k => ?_)
  refine WL.bl 1 3 h29i [(7, i6 0)] (fun a29l h29m => ?_)
  refine WL.dn ?_
  refine wp_ret ?_
  have hS29n := hS29k.drop_
  have hS29o := hS29n.drop_
  have hS29p := hS29o.drop_
  obtain ⟨rfl, rfl⟩ := ret2 H
  repeat (first | with_reducible refine t1 ?_ | with_reducible refine t2 ?_ | with_reducible refine t3 ?_)
  refine body_ret (v := .tuple #[.agg #[.slice A295 x21p.f0.length c296, i6 x21p.f1, i6 x21p.f2.f0, .bool x21p.f2.f1], i6 0]) h29m (by kernel_rfl) (res_many (xs := [ResultVar.cell 6 56, ResultVar.tmp 7]) rfl ⟨⟨_, rfl, loadVarN Try.underlying56 rfl (cs := [.slice A295 x21p.f0.length c296, i6 x21p.f1, i6 x21p.f2.f0, .bool x21p.f2.f1]) (by kernel_rfl) (hS29k.cells (vs := [.slice A295 x21p.f0.length c296, i6 x21p.f1, i6 x21p.f2.f0, .bool x21p.f2.f1]) rfl)⟩, rfl, trivial⟩ rfl) ?_
  exact ⟨.slice A295 x21p.f0.length c296, M297, rfl, hr298, hS29p⟩

/-! ### (*louver/window.Window).Shift -/
def window_Window_Shift.f (p0 : S94) (p1 : Int) (p2 : Int) : Option (S50 × S94) := bnd2 (window_Window_to.f p0 (IntKind.i64.wrap ((IntKind.i64.wrap (p0.f0 + (IntKind.i64.wrap p2))) - (IntKind.i64.wrap p1)))) fun r12w r12x => (if r12w = true then (some ((⟨0, 0⟩ : S50), r12x)) else (some ((⟨1, 3⟩ : S50), r12x)))
set_option maxHeartbeats 20000000 in
set_option maxRecDepth 100000 in
theorem window_Window_Shift.calls {b : Nat} {w0 W : World} {R : Frag} {Fs : List Frag} {p0 : S94} {p1 : Int} {p2 : Int}  {v0 : Value} {M0 : Frag} {r0q : S50} {r1q : S94} (hp0 : Ptr k94 94 b w0 R v0 p0 M0) (H : window_Window_Shift.f p0 p1 p2 = some (r0q, r1q)) (hS : St b w0 W R (M0 :: Fs)) :
  Calls Try.prog 45 ([v0, .int .u32 p1, .int .u32 p2] : List Value).toArray W (fun e W' => ∃ (O0q : Frag), e = .returned (.agg #[.int .u8 r0q.f0, .int .u32 r0q.f1]) ∧ Ptr k94 94 b w0 R v0 r1q O0q ∧ St b w0 W' R (O0q :: Fs)) := by
 unfold window_Window_Shift.f at H
 refine calls_enter Try.func45 rfl 27 rfl (by kernel_rfl) (fun a h => ?_)
 refine wp_seq ?_
 refine WL.start ?_
 refine WL.oq h rfl ?_
 refine owp_nw (fun g_ => (pt g_)) (.cells ([.int .u8 0, .int .u32 0] : List Value).toArray 50 (0, 0)) h rfl hS (fun a12a W12c g12d h12b hS12e => ?_)
 refine WL.dn ?_
 refine wp_seq ?_
 refine wp_block ?_
 refine wp_seq ?_
 refine WL.start ?_
 refine WL.bl 1 1 h12b [(8, v0)] (fun a12f h12g => ?_)
 have hS12h := hS12e.b1
 obtain ⟨g12j, rfl, hS12i⟩ := k94qop hp0 hS12h
 refine WL.bl 2 3 h12g [(7, .bool false), (9, .bool false)] (fun a12k h12l => ?_)
 refine WL.dn ?_
 refine wp_else h12l rfl ?_
 refine wp_seq ?_
 refine WL.start ?_
 refine WL.bl 4 4 h12l [(15, pt g12j), (14, pt g12j), (13, pt g12j), (12, pt g12j)] (fun a12m h12n => ?_)
 refine WL.oq h12n rfl ?_
 refine owp_rn (i6 p0.f0) h12n rfl (run_load1 rfl rfl Try.underlying2 rfl (hS12i.cell (i := 0) rfl)) (fun a12o h12p => ?_)
 refine WL.bl 6 11 h12p [(22, i6 (IntKind.i64.wrap ((IntKind.i64.wrap (p0.f0 + (IntKind.i64.wrap p2))) - (IntKind.i64.wrap p1)))), (21, i6 (IntKind.i64.wrap p1)), (20, .int .u32 p1), (19, i6 (IntKind.i64.wrap (p0.f0 + (IntKind.i64.wrap p2)))), (18, i6 (IntKind.i64.wrap p2)), (17, .int .u32 p2)] (fun a12q h12r => ?_)
 obtain ⟨M12s, hp12t, hS12u⟩ := k94qfo p0 hS12i
 obtain ⟨r12w, r12x, A12v, H⟩ := bind2 H
 refine WL.oq h12r rfl ?_
 refine owp_call [(pt g12j), i6 (IntKind.i64.wrap ((IntKind.i64.wrap (p0.f0 + (IntKind.i64.wrap p2))) - (IntKind.i64.wrap p1)))] h12r rfl (by kernel_rfl) rfl Try.func49 (by kernel_rfl) rfl (by kernel_rfl) (window_Window_to.calls hp12t A12v hS12u) (fun e12z W12y hp130 => ?_)
 obtain ⟨M133, rfl, hr134, hS135⟩ := hp130
 refine ⟨_, rfl, fun a131 h132 => ?_⟩
 refine WL.bl 2 14 h132 [(11, .bool (!r12w)), (24, .bool (!r12w))] (fun a136 h137 => ?_)
 refine WL.dn ?_
 clear h12b a12a h12g a12f h12l a12k h12n a12m h12p a12o h12r a12q h132 a131
 by_cases c138 : r12w = true
 ·rw [if_pos c138] at H
  have hb_ : r12w = true := c138
  try rw [hb_] at h137
  clear hb_
  refine wp_else h137 rfl ?_
  refine wp_skip ?_
  refine wp_seq ?_
  refine WL.start ?_
  refine WL.bl 1 1 h137 [(26, .agg #[.int .u8 0, .int .u32 0])] (fun a139 h13a => ?_)
  have hS13b := hS135.b1
  refine WL.oq h13a rfl ?_
  refine owp_st 0 [.int .u8 0, .int .u32 0] h13a rfl rfl rfl hS13b [.int .u8 0, .int .u32 0] (fun a13c W13e h13d hS13f => ?_)
  refine WL.dn ?_
  refine wp_ret ?_
  have hS13g := hS13f.drop_
  obtain ⟨rfl, rfl⟩ := ret2 H
  repeat (first | with_reducible refine t1 ?_ | with_reducible refine t2 ?_ | with_reducible refine t3 ?_)
  refine body_ret (v := .agg #[.int .u8 0, .int .u32 0]) h13d (by kernel_rfl) (res_one rfl ⟨_, rfl, loadVarN Try.underlying50 rfl (cs := [.int .u8 0, .int .u32 0]) (by kernel_rfl) (hS13f.cells (vs := [.int .u8 0, .int .u32 0]) rfl)⟩) ?_
  exact ⟨M133, rfl, hr134, hS13g⟩
 ·rw [if_neg c138] at H
  have hb_ : r12w = false := (Bool.eq_false_iff.2 c138)
  try rw [hb_] at h137
  clear hb_
  refine wp_then h137 rfl ?_
  refine wp_seq ?_
  refine WL.start ?_
  refine WL.bl 1 1 h137 [(25, .agg #[.int .u8 1, .int .u32 3])] (fun a13h h13i => ?_)
  have hS13j := hS135.b1
  refine WL.oq h13i rfl ?_
  refine owp_st 0 [.int .u8 1, .int .u32 3] h13i rfl rfl rfl hS13j [.int .u8 1, .int .u32 3] (fun a13k W13m h13l hS13n => ?_)
  refine WL.dn ?_
  refine wp_ret ?_
  have hS13o := hS13n.drop_
  obtain ⟨rfl, rfl⟩ := ret2 H
  repeat (first | with_reducible refine t1 ?_ | with_reducible refine t2 ?_ | with_reducible refine t3 ?_)
  refine body_ret (v := .agg #[.int .u8 1, .int .u32 3]) h13l (by kernel_rfl) (res_one rfl ⟨_, rfl, loadVarN Try.underlying50 rfl (cs := [.int .u8 1, .int .u32 3]) (by kernel_rfl) (hS13n.cells (vs := [.int .u8 1, .int .u32 3]) rfl)⟩) ?_
  exact ⟨M133, rfl, hr134, hS13o⟩

/-! ### (*louver/turns.Ring).Shift -/
def turns_Ring_Shift.l0 : Nat → Int → Int → (List S72) → Int → S69 → Int → Int → Option (S50 × S69)
 | 0, _, _, _, _, _, _, _ => none
 | k + 1, x1dg, x1dh, x1di, x1dn, p0, p1, p2 => if x1dn < (p0.f0.length : Int) then (if 0 ≤ x1dn then (if x1dn < (x1di.length : Int) then (lt1 (gt z72 x1di x1dn : S72) fun y1ee => (bnd2 (window_Window_Shift.f y1ee.f4 p1 p2) fun r1f5 r1f6 => (if (decide (r1f5.f0 = 0) && decide (r1f5.f1 = 0)) = true then (turns_Ring_Shift.l0 k x1dg x1dh (x1di.set x1dn.toNat (⟨y1ee.f0, y1ee.f1, y1ee.f2, y1ee.f3, r1f6⟩ : S72)) (IntKind.i64.wrap (x1dn + 1)) p0 p1 p2) else (some ((⟨r1f5.f0, r1f5.f1⟩ : S50), (⟨(x1di.set x1dn.toNat (⟨y1ee.f0, y1ee.f1, y1ee.f2, y1ee.f3, r1f6⟩ : S72)), p0.f1, p0.f2⟩ : S69)))))) else (none)) else (none)) else (some ((⟨0, 0⟩ : S50), (⟨x1di, p0.f1, p0.f2⟩ : S69)))
def turns_Ring_Shift.f (k : Nat) (p0 : S69) (p1 : Int) (p2 : Int) : Option (S50 × S69) := turns_Ring_Shift.l0 k 0 0 p0.f0 0 p0 p1 p2
set_option maxHeartbeats 20000000 in
set_option maxRecDepth 100000 in
theorem turns_Ring_Shift.calls (k : Nat) {b : Nat} {w0 W : World} {R : Frag} {Fs : List Frag} {p0 : S69} {p1 : Int} {p2 : Int}  {v0 : Value} {M0 : Frag} {r0q : S50} {r1q : S69} (hp0 : Ptr k69 69 b w0 R v0 p0 M0) (H : turns_Ring_Shift.f k p0 p1 p2 = some (r0q, r1q)) (hS : St b w0 W R (M0 :: Fs)) :
  Calls Try.prog 26 ([v0, .int .u32 p1, .int .u32 p2] : List Value).toArray W (fun e W' => ∃ (O0q : Frag), e = .returned (.agg #[.int .u8 r0q.f0, .int .u32 r0q.f1]) ∧ Ptr k69 69 b w0 R v0 r1q O0q ∧ St b w0 W' R (O0q :: Fs)) := by
 unfold turns_Ring_Shift.f at H
 refine calls_enter Try.func26 rfl 35 rfl (by kernel_rfl) (fun a h => ?_)
 refine wp_seq ?_
 refine WL.start ?_
 refine WL.oq h rfl ?_
 refine owp_nw (fun g_ => (pt g_)) (.cells ([.int .u8 0, .int .u32 0] : List Value).toArray 50 (0, 0)) h rfl hS (fun a1cm W1co g1cp h1cn hS1cq => ?_)
 refine WL.dn ?_
 refine wp_seq ?_
 refine wp_seq ?_
 refine WL.start ?_
 refine WL.bl 1 1 h1cn [(10, v0)] (fun a1cr h1cs => ?_)
 have hS1ct := hS1cq.b1
 obtain ⟨g1cv, A1cw, c1cx, g1d0, M1cy, M1d1, rfl, hr1cz, hr1d2, hS1cu⟩ := k69qop hp0 hS1ct
 refine WL.bl 1 2 h1cs [(11, .bool false)] (fun a1d3 h1d4 => ?_)
 refine WL.dn ?_
 refine wp_else h1d4 rfl ?_
 refine wp_skip ?_
 refine wp_seq ?_
 refine wp_seq ?_
 refine WL.start ?_
 refine WL.bl 3 3 h1d4 [(15, pt g1cv), (14, pt g1cv), (13, pt g1cv)] (fun a1d5 h1d6 => ?_)
 refine WL.oq h1d6 rfl ?_
 refine owp_rn (.slice A1cw p0.f0.length c1cx) h1d6 rfl (run_load1 rfl rfl Try.underlying67 rfl (hS1cu.cell (i := 0) rfl)) (fun a1d7 h1d8 => ?_)
 refine WL.bl 2 6 h1d8 [(18, i6 0), (17, i6 (p0.f0.length : Int))] (fun a1d9 h1da => ?_)
 refine WL.dn ?_
 refine wp_block ?_
 have hS1dq := hS1cu.b2
 have hS1dr := hS1dq.b1
 have hS1ds := hS1dr.b2
 have hS1dt := hS1ds.b3
 clear h1cn a1cm h1cs a1cr h1d4 a1d3 h1d6 a1d5 h1d8 a1d7
 refine wp_loop_ghost (fun kq_ a_ W_ => ∃ (x1dg : Int), ∃ (x1dh : Int), ∃ (x1di : (List S72)), ∃ (A1dj : Option Addr), ∃ (c1dk : Nat), ∃ (M1dl : Frag), ∃ (x1dn : Int), ∃ (M1do : Frag), Hd a_ 35 [(1, .int .u32 p1), (2, .int .u32 p2), (6, pt g1cp), (16, .slice A1dj x1di.length c1dk), (17, i6 (p0.f0.length : Int)), (18, i6 x1dn)] ∧ Asd (turns_Ring_Shift.l0 kq_ x1dg x1dh x1di x1dn p0 p1 p2 = some (r0q, r1q)) ∧ Asd (kq_ ≤ k) ∧ Asd (St b w0 W_ R ((bx g1cp 50 [.int .u8 x1dg, .int .u32 x1dh]) :: M1dl :: (bx g1cv 69 [.slice A1dj x1di.length c1dk, i6 p0.f1, pt g1d0]) :: M1do :: Fs)) ∧ Asd (Row (kPtr k72 72) 70 b w0 R (.slice A1dj x1di.length c1dk) x1di M1dl) ∧ Asd (Ptr k94 94 b w0 R (pt g1d0) p0.f2 M1do)) k ⟨0, 0, p0.f0, A1cw, c1cx, M1cy, 0, M1d1, h1da.keep ⟨rfl, rfl, rfl, rfl, rfl, rfl, trivial⟩, ⟨H⟩, ⟨Nat.le_refl _⟩, ⟨hS1dt⟩, ⟨hr1cz⟩, ⟨hr1d2⟩⟩ ?_
 clear H hS1dt
 rintro kk1df a1dc W1dd ⟨x1dg, x1dh, x1di, A1dj, c1dk, M1dl, x1dn, M1do, h1db, ⟨H⟩, ⟨hkkk1df⟩, ⟨hS1de⟩, ⟨hr1dm⟩, ⟨hr1dp⟩⟩
 obtain _ | kk1du := kk1df
 ·exact absurd H (by simp [turns_Ring_Shift.l0])
 simp only [turns_Ring_Shift.l0] at H
 refine wp_seq ?_
 refine WL.start ?_
 refine WL.bl 1 1 h1db [(19, .bool (decide (x1dn < (p0.f0.length : Int))))] (fun a1dv h1dw => ?_)
 refine WL.dn ?_
 refine wp_seq ?_
 clear h1db a1dc
 by_cases c1dx : x1dn < (p0.f0.length : Int)
 ·rw [if_pos c1dx] at H
  have hb_ : (decide (x1dn < (p0.f0.length : Int))) = true := decide_eq_true c1dx
  try rw [hb_] at h1dw
  clear hb_
  refine wp_then h1dw rfl ?_
  refine wp_skip ?_
  refine wp_seq ?_
  refine wp_block ?_
  refine wp_seq ?_
  refine WL.start ?_
  by_cases c1dy : 0 ≤ x1dn
  ·rw [if_pos c1dy] at H
   by_cases c1dz : x1dn < (x1di.length : Int)
   ·rw [if_pos c1dz] at H
    have hi1e2 : 0 ≤ x1dn := by first | assumption | omega
    have hi1e3 : x1dn < (x1di.length : Int) := by first | assumption | omega
    obtain ⟨ad1e0, _, ha1e1, -, -⟩ := Rds.elemAny hr1dm.rds hi1e2 (gt_get (z := z72) hi1e2 hi1e3)
    refine WL.oq h1dw rfl ?_
    refine owp_rn (.pointer (some (ad1e0.add (x1dn.toNat * 1)))) h1dw rfl (run_idx (ad := ad1e0) (sz := 1) rfl (by rw [← ha1e1]; rfl) rfl Try.underlying67 (by kernel_rfl) hi1e2 hi1e3) (fun a1e4 h1e5 => ?_)
    have hS1e6 := hS1de.b1
    obtain ⟨g1e7, M1e8, M1e9, hp1ea, hh1eb, hm1ec, hc1ed⟩ := Row.openp (dk := k72) z72 hr1dm ha1e1 hi1e2 hi1e3
    obtain ⟨y1ee, hy1ef, H⟩ := lete H
    have hr1eg : Ptr k72 72 b w0 R (pt g1e7) y1ee M1e9 := by rw [hy1ef]; exact hp1ea
    have hS1ei : St b w0 W1dd R (M1e9 :: M1e8 :: (bx g1cp 50 [.int .u8 x1dg, .int .u32 x1dh]) :: (bx g1cv 69 [.slice A1dj x1di.length c1dk, i6 p0.f1, pt g1d0]) :: M1do :: Fs) := hm1ec _ _ hS1e6
    clear hm1ec hp1ea hr1dm
    refine WL.oq h1e5 rfl ?_
    refine owp_rn (pt g1e7) h1e5 rfl (run_load1 rfl rfl Try.underlying70 rfl (hc1ed _ _ hS1ei.b1)) (fun a1ej h1ek => ?_)
    refine WL.bl 1 3 h1ek [(8, pt g1e7)] (fun a1el h1em => ?_)
    refine WL.dn ?_
    refine wp_seq ?_
    refine WL.start ?_
    refine WL.bl 1 1 h1em [(22, pt g1e7)] (fun a1en h1eo => ?_)
    obtain ⟨A1eq, c1er, g1eu, M1es, M1ev, hr1et, hr1ew, hS1ep⟩ := k72qoq hr1eg hS1ei
    refine WL.bl 2 3 h1eo [(24, .pointer (some ⟨g1e7, 4, none⟩)), (23, pt g1e7)] (fun a1ex h1ey => ?_)
    refine WL.oq h1ey rfl ?_
    refine owp_rn (pt g1eu) h1ey rfl (run_load1 rfl rfl Try.underlying65 rfl (hS1ep.cell (i := 4) rfl)) (fun a1ez h1f0 => ?_)
    refine WL.bl 2 6 h1f0 [(27, .int .u32 p2), (26, .int .u32 p1)] (fun a1f1 h1f2 => ?_)
    have hS1f3 := hS1ep.b2
    obtain ⟨r1f5, r1f6, A1f4, H⟩ := bind2 H
    refine WL.oq h1f2 rfl ?_
    refine owp_call [(pt g1eu), .int .u32 p1, .int .u32 p2] h1f2 rfl (by kernel_rfl) rfl Try.func45 (by kernel_rfl) rfl (by kernel_rfl) (window_Window_Shift.calls hr1ew A1f4 hS1f3) (fun e1f8 W1f7 hp1f9 => ?_)
    obtain ⟨M1fc, rfl, hr1fd, hS1fe⟩ := hp1f9
    refine ⟨_, rfl, fun a1fa h1fb => ?_⟩
    refine WL.oq h1fb rfl ?_
    refine owp_nw (fun g_ => (pt g_)) (.cells ([.int .u8 0, .int .u32 0] : List Value).toArray 50 (0, 0)) h1fb rfl hS1fe (fun a1ff W1fh g1fi h1fg hS1fj => ?_)
    refine WL.oq h1fg rfl ?_
    refine owp_st 0 [.int .u8 r1f5.f0, .int .u32 r1f5.f1] h1fg rfl rfl rfl hS1fj [.int .u8 r1f5.f0, .int .u32 r1f5.f1] (fun a1fk W1fm h1fl hS1fn => ?_)
    refine WL.dn ?_
    refine wp_seq ?_
    refine WL.start ?_
    refine WL.oq h1fl rfl ?_
    refine owp_rn (.agg #[.int .u8 r1f5.f0, .int .u32 r1f5.f1]) h1fl rfl (run_loadN rfl rfl Try.underlying50 rfl (cs := [.int .u8 r1f5.f0, .int .u32 r1f5.f1]) (by kernel_rfl) (hS1fn.cells (vs := [.int .u8 r1f5.f0, .int .u32 r1f5.f1]) rfl)) (fun a1fo h1fp => ?_)
    refine WL.bl 1 2 h1fp [(30, .agg #[.int .u8 0, .int .u32 0])] (fun a1fq h1fr => ?_)
    clear h1dw a1dv h1e5 a1e4 h1ek a1ej h1em a1el h1eo a1en h1ey a1ex h1f0 a1ez h1f2 a1f1 h1fb a1fa h1fg a1ff h1fl a1fk h1fp a1fo
    refine WL.oq h1fr rfl ?_
    refine owp_rn (.bool (!(decide (r1f5.f0 = 0) && decide (r1f5.f1 = 0)))) h1fr rfl (run_stne (xs := [.int .u8 r1f5.f0, .int .u32 r1f5.f1]) (ys := [.int .u8 0, .int .u32 0]) rfl rfl rfl (by kernel_rfl) (eqs_of Try.underlying50 (by kernel_rfl) (eqf_cons rfl (by kernel_rfl) rfl rfl (eqi_int Try.underlying5) (eqf_last rfl (by kernel_rfl) rfl rfl (eqi_int Try.underlying25))))) (fun a1fs h1ft => ?_)
    refine WL.dn ?_
    clear h1fr a1fq
    by_cases c1fu : (decide (r1f5.f0 = 0) && decide (r1f5.f1 = 0)) = true
    ·rw [if_pos c1fu] at H
     have hb_ : (decide (r1f5.f0 = 0) && decide (r1f5.f1 = 0)) = true := c1fu
     try rw [hb_] at h1ft
     clear hb_
     refine wp_else h1ft rfl ?_
     refine wp_skip ?_
     refine WL.start ?_
     refine WL.bl 2 2 h1ft [(18, i6 (IntKind.i64.wrap (x1dn + 1))), (33, i6 (IntKind.i64.wrap (x1dn + 1)))] (fun a1fv h1fw => ?_)
     refine WL.dn ?_
     have hS1fx := hS1fn.b1
     have hS1fy := hS1fx.b3
     have hS1fz := hS1fy.b3
     obtain ⟨M1g0, hp1g1, hS1g2⟩ := k72qfo (⟨y1ee.f0, y1ee.f1, y1ee.f2, y1ee.f3, r1f6⟩ : S72) hr1et hr1fd hS1fz
     have hS1g3 := hS1g2.b2
     have hS1g4 := hS1g3.b1
     obtain ⟨M1g5, hr1g6, hm1g7⟩ := hh1eb _ _ hp1g1
     have hS1g9 : St b w0 W1fm R (M1g5 :: (bx g1fi 50 [.int .u8 r1f5.f0, .int .u32 r1f5.f1]) :: (bx g1cp 50 [.int .u8 x1dg, .int .u32 x1dh]) :: (bx g1cv 69 [.slice A1dj x1di.length c1dk, i6 p0.f1, pt g1d0]) :: M1do :: Fs) := hm1g7 _ _ hS1g4
     have hl1ga : (x1di.set x1dn.toNat (⟨y1ee.f0, y1ee.f1, y1ee.f2, y1ee.f3, r1f6⟩ : S72)).length = x1di.length := by simp
     have hr1gb : Row (kPtr k72 72) 70 b w0 R (.slice A1dj (x1di.set x1dn.toNat (⟨y1ee.f0, y1ee.f1, y1ee.f2, y1ee.f3, r1f6⟩ : S72)).length c1dk) (x1di.set x1dn.toNat (⟨y1ee.f0, y1ee.f1, y1ee.f2, y1ee.f3, r1f6⟩ : S72)) M1g5 := by rw [hl1ga]; exact hr1g6
     have h1gc : Hd a1fv 35 [(1, .int .u32 p1), (2, .int .u32 p2), (6, pt g1cp), (8, pt g1e7), (9, pt g1fi), (16, .slice A1dj (x1di.set x1dn.toNat (⟨y1ee.f0, y1ee.f1, y1ee.f2, y1ee.f3, r1f6⟩ : S72)).length c1dk), (17, i6 (p0.f0.length : Int)), (18, i6 (IntKind.i64.wrap (x1dn + 1))), (19, .bool true), (20, .pointer (some (ad1e0.add (x1dn.toNat * 1)))), (21, pt g1e7), (22, pt g1e7), (23, pt g1e7), (24, .pointer (some ⟨g1e7, 4, none⟩)), (25, pt g1eu), (26, .int .u32 p1), (27, .int .u32 p2), (28, .agg #[.int .u8 r1f5.f0, .int .u32 r1f5.f1]), (29, .agg #[.int .u8 r1f5.f0, .int .u32 r1f5.f1]), (30, .agg #[.int .u8 0, .int .u32 0]), (31, .bool false), (33, i6 (IntKind.i64.wrap (x1dn + 1)))] := h1fw.keep ⟨rfl, rfl, rfl, rfl, rfl, (by rw [hl1ga] <;> rfl), rfl, rfl, rfl, rfl, rfl, rfl, rfl, rfl, rfl, rfl, rfl, rfl, rfl, rfl, rfl, rfl, trivial⟩
     clear h1fw
     have hS1gd : St b w0 W1fm R (M1g5 :: (bx g1fi 50 [.int .u8 r1f5.f0, .int .u32 r1f5.f1]) :: (bx g1cp 50 [.int .u8 x1dg, .int .u32 x1dh]) :: (bx g1cv 69 [.slice A1dj (x1di.set x1dn.toNat (⟨y1ee.f0, y1ee.f1, y1ee.f2, y1ee.f3, r1f6⟩ : S72)).length c1dk, i6 p0.f1, pt g1d0]) :: M1do :: Fs) := by simpa only [hl1ga] using hS1g9
     have hS1ge := hS1gd.b1
     have hS1gf := hS1ge.drop_
     have hS1gg := hS1gf.b3
     have hS1gh := hS1gg.b3
     have hS1gi := hS1gh.b2
     have hS1gj := hS1gi.b3
     exact ⟨kk1du, by omega, x1dg, x1dh, (x1di.set x1dn.toNat (⟨y1ee.f0, y1ee.f1, y1ee.f2, y1ee.f3, r1f6⟩ : S72)), A1dj, c1dk, M1g5, IntKind.i64.wrap (x1dn + 1), M1do, h1gc.keep ⟨rfl, rfl, rfl, rfl, rfl, rfl, trivial⟩, ⟨H⟩, ⟨by omega⟩, ⟨hS1gj⟩, ⟨hr1gb⟩, ⟨hr1dp⟩⟩
    ·rw [if_neg c1fu] at H
     have hb_ : (decide (r1f5.f0 = 0) && decide (r1f5.f1 = 0)) = false := (Bool.eq_false_iff.2 c1fu)
     try rw [hb_] at h1ft
     clear hb_
     refine wp_then h1ft rfl ?_
     refine wp_seq ?_
     refine WL.start ?_
     refine WL.oq h1ft rfl ?_
     refine owp_rn (.agg #[.int .u8 r1f5.f0, .int .u32 r1f5.f1]) h1ft rfl (run_loadN rfl rfl Try.underlying50 rfl (cs := [.int .u8 r1f5.f0, .int .u32 r1f5.f1]) (by kernel_rfl) (hS1fn.cells (vs := [.int .u8 r1f5.f0, .int .u32 r1f5.f1]) rfl)) (fun a1gk h1gl => ?_)
     have hS1gm := hS1fn.b5
     refine WL.oq h1gl rfl ?_
     refine owp_st 0 [.int .u8 r1f5.f0, .int .u32 r1f5.f1] h1gl rfl rfl rfl hS1gm [.int .u8 r1f5.f0, .int .u32 r1f5.f1] (fun a1gn W1gp h1go hS1gq => ?_)
     refine WL.dn ?_
     refine wp_ret ?_
     have hS1gr := hS1gq.b2
     have hS1gs := hS1gr.b4
     have hS1gt := hS1gs.b4
     obtain ⟨M1gu, hp1gv, hS1gw⟩ := k72qfo (⟨y1ee.f0, y1ee.f1, y1ee.f2, y1ee.f3, r1f6⟩ : S72) hr1et hr1fd hS1gt
     have hS1gx := hS1gw.b3
     have hS1gy := hS1gx.b1
     obtain ⟨M1gz, hr1h0, hm1h1⟩ := hh1eb _ _ hp1gv
     have hS1h3 : St b w0 W1gp R (M1gz :: (bx g1cp 50 [.int .u8 r1f5.f0, .int .u32 r1f5.f1]) :: (bx g1fi 50 [.int .u8 r1f5.f0, .int .u32 r1f5.f1]) :: (bx g1cv 69 [.slice A1dj x1di.length c1dk, i6 p0.f1, pt g1d0]) :: M1do :: Fs) := hm1h1 _ _ hS1gy
     have hl1h4 : (x1di.set x1dn.toNat (⟨y1ee.f0, y1ee.f1, y1ee.f2, y1ee.f3, r1f6⟩ : S72)).length = x1di.length := by simp
     have hr1h5 : Row (kPtr k72 72) 70 b w0 R (.slice A1dj (x1di.set x1dn.toNat (⟨y1ee.f0, y1ee.f1, y1ee.f2, y1ee.f3, r1f6⟩ : S72)).length c1dk) (x1di.set x1dn.toNat (⟨y1ee.f0, y1ee.f1, y1ee.f2, y1ee.f3, r1f6⟩ : S72)) M1gz := by rw [hl1h4]; exact hr1h0
     have h1h6 : Hd a1gn 35 [(1, .int .u32 p1), (2, .int .u32 p2), (6, pt g1cp), (8, pt g1e7), (9, pt g1fi), (16, .slice A1dj (x1di.set x1dn.toNat (⟨y1ee.f0, y1ee.f1, y1ee.f2, y1ee.f3, r1f6⟩ : S72)).length c1dk), (17, i6 (p0.f0.length : Int)), (18, i6 x1dn), (19, .bool true), (20, .pointer (some (ad1e0.add (x1dn.toNat * 1)))), (21, pt g1e7), (22, pt g1e7), (23, pt g1e7), (24, .pointer (some ⟨g1e7, 4, none⟩)), (25, pt g1eu), (26, .int .u32 p1), (27, .int .u32 p2), (28, .agg #[.int .u8 r1f5.f0, .int .u32 r1f5.f1]), (29, .agg #[.int .u8 r1f5.f0, .int .u32 r1f5.f1]), (30, .agg #[.int .u8 0, .int .u32 0]), (31, .bool true), (32, .agg #[.int .u8 r1f5.f0, .int .u32 r1f5.f1])] := h1go.keep ⟨rfl, rfl, rfl, rfl, rfl, (by rw [hl1h4] <;> rfl), rfl, rfl, rfl, rfl, rfl, rfl, rfl, rfl, rfl, rfl, rfl, rfl, rfl, rfl, rfl, rfl, trivial⟩
     clear h1go
     have hS1h7 : St b w0 W1gp R (M1gz :: (bx g1cp 50 [.int .u8 r1f5.f0, .int .u32 r1f5.f1]) :: (bx g1fi 50 [.int .u8 r1f5.f0, .int .u32 r1f5.f1]) :: (bx g1cv 69 [.slice A1dj (x1di.set x1dn.toNat (⟨y1ee.f0, y1ee.f1, y1ee.f2, y1ee.f3, r1f6⟩ : S72)).length c1dk, i6 p0.f1, pt g1d0]) :: M1do :: Fs) := by simpa only [hl1h4] using hS1h3
     have hS1h8 := hS1h7.b4
     have hS1h9 := hS1h8.b1
     have hS1ha := hS1h9.b4
     obtain ⟨M1hb, hp1hc, hS1hd⟩ := k69qfo (⟨(x1di.set x1dn.toNat (⟨y1ee.f0, y1ee.f1, y1ee.f2, y1ee.f3, r1f6⟩ : S72)), p0.f1, p0.f2⟩ : S69) hr1h5 hr1dp hS1ha
     have hS1he := hS1hd.b1
     have hS1hf := hS1he.drop_
     have hS1hg := hS1hf.b1
     have hS1hh := hS1hg.drop_
     obtain ⟨rfl, rfl⟩ := ret2 H
     repeat (first | with_reducible refine t1 ?_ | with_reducible refine t2 ?_ | with_reducible refine t3 ?_)
     refine body_ret (v := .agg #[.int .u8 r1f5.f0, .int .u32 r1f5.f1]) h1h6 (by kernel_rfl) (res_one rfl ⟨_, rfl, loadVarN Try.underlying50 rfl (cs := [.int .u8 r1f5.f0, .int .u32 r1f5.f1]) (by kernel_rfl) (hS1gq.cells (vs := [.int .u8 r1f5.f0, .int .u32 r1f5.f1]) rfl)⟩) ?_
     exact ⟨M1hb, rfl, hp1hc, hS1hh⟩
   ·rw [if_neg c1dz] at H
    cases H
  ·rw [if_neg c1dy] at H
   cases H
 ·rw [if_neg c1dx] at H
  have hb_ : (decide (x1dn < (p0.f0.length : Int))) = false := decide_eq_false c1dx
  try rw [hb_] at h1dw
  clear hb_
  refine wp_else h1dw rfl ?_
  refine wp_exit ?_
  refine wp_seq ?_
  refine WL.start ?_
  refine WL.bl 1 1 h1dw [(34, .agg #[.int .u8 0, .int .u32 0])] (fun a1hi h1hj => ?_)
  refine WL.oq h1hj rfl ?_
  refine owp_st 0 [.int .u8 0, .int .u32 0] h1hj rfl rfl rfl hS1de [.int .u8 0, .int .u32 0] (fun a1hk W1hm h1hl hS1hn => ?_)
  refine WL.dn ?_
  refine wp_ret ?_
  have hS1ho := hS1hn.b3
  have hS1hp := hS1ho.b2
  have hS1hq := hS1hp.b3
  obtain ⟨M1hr, hp1hs, hS1ht⟩ := k69qfo (⟨x1di, p0.f1, p0.f2⟩ : S69) hr1dm hr1dp hS1hq
  have hS1hu := hS1ht.b1
  have hS1hv := hS1hu.drop_
  obtain ⟨rfl, rfl⟩ := ret2 H
  repeat (first | with_reducible refine t1 ?_ | with_reducible refine t2 ?_ | with_reducible refine t3 ?_)
  refine body_ret (v := .agg #[.int .u8 0, .int .u32 0]) h1hl (by kernel_rfl) (res_one rfl ⟨_, rfl, loadVarN Try.underlying50 rfl (cs := [.int .u8 0, .int .u32 0]) (by kernel_rfl) (hS1hn.cells (vs := [.int .u8 0, .int .u32 0]) rfl)⟩) ?_
  exact ⟨M1hr, rfl, hp1hs, hS1hv⟩

/-! ### (*louver/turns.Ring).Shift -/
def turns_Ring_Shift_nil.f (p1 : Int) (p2 : Int) : Option (S50) := some (⟨1, 2⟩ : S50)
set_option maxHeartbeats 20000000 in
set_option maxRecDepth 100000 in
theorem turns_Ring_Shift_nil.calls {b : Nat} {w0 W : World} {R : Frag} {Fs : List Frag} {p1 : Int} {p2 : Int}  {r0q : S50}  (H : turns_Ring_Shift_nil.f p1 p2 = some r0q) (hS : St b w0 W R (Fs)) :
  Calls Try.prog 26 ([.pointer none, .int .u32 p1, .int .u32 p2] : List Value).toArray W (fun e W' => e = .returned (.agg #[.int .u8 r0q.f0, .int .u32 r0q.f1]) ∧ St b w0 W' R (Fs)) := by
 unfold turns_Ring_Shift_nil.f at H
 refine calls_enter Try.func26 rfl 35 rfl (by kernel_rfl) (fun a h => ?_)
 refine wp_seq ?_
 refine WL.start ?_
 refine WL.oq h rfl ?_
 refine owp_nw (fun g_ => (pt g_)) (.cells ([.int .u8 0, .int .u32 0] : List Value).toArray 50 (0, 0)) h rfl hS (fun a10e W10g g10h h10f hS10i => ?_)
 refine WL.dn ?_
 refine wp_seq ?_
 refine wp_seq ?_
 refine WL.start ?_
 refine WL.bl 2 2 h10f [(11, .bool true), (10, .pointer none)] (fun a10j h10k => ?_)
 refine WL.dn ?_
 refine wp_then h10k rfl ?_
 refine wp_seq ?_
 refine WL.start ?_
 refine WL.bl 1 1 h10k [(12, .agg #[.int .u8 1, .int .u32 2])] (fun a10l h10m => ?_)
 refine WL.oq h10m rfl ?_
 refine owp_st 0 [.int .u8 1, .int .u32 2] h10m rfl rfl rfl hS10i [.int .u8 1, .int .u32 2] (fun a10n W10p h10o hS10q => ?_)
 refine WL.dn ?_
 refine wp_ret ?_
 have hS10r := hS10q.drop_
 obtain rfl := Option.some.inj H
 repeat (first | with_reducible refine t1 ?_ | with_reducible refine t2 ?_ | with_reducible refine t3 ?_)
 refine body_ret (v := .agg #[.int .u8 1, .int .u32 2]) h10o (by kernel_rfl) (res_one rfl ⟨_, rfl, loadVarN Try.underlying50 rfl (cs := [.int .u8 1, .int .u32 2]) (by kernel_rfl) (hS10q.cells (vs := [.int .u8 1, .int .u32 2]) rfl)⟩) ?_
 exact ⟨rfl, hS10r⟩

/-! ### slices.Delete[[]*louver/turns.sender,*louver/turns.sender] -/
def slices_Delete.f (p0 : (List S72)) (p1 : Int) (p2 : Int) : Option ((List S72)) := if 0 ≤ p1 then (if p1 ≤ p2 then (if p2 ≤ (p0.length : Int) then (if p1 = p2 then (some p0) else (some (p0.take p1.toNat ++ p0.drop p2.toNat))) else (none)) else (none)) else (none)
set_option maxHeartbeats 20000000 in
set_option maxRecDepth 100000 in
theorem slices_Delete.calls {b : Nat} {w0 W : World} {R : Frag} {Fs : List Frag} {p0 : (List S72)} {p1 : Int} {p2 : Int} {v0 : Value} {M0 : Frag} {r0q : (List S72)} (hp0 : Row (kPtr k72 72) 70 b w0 R v0 p0 M0) (H : slices_Delete.f p0 p1 p2 = some r0q) (hS : St b w0 W R (M0 :: Fs)) :
  Calls Try.prog 37 ([v0, i6 p1, i6 p2] : List Value).toArray W (fun e W' => ∃ (u0q : Value) (N0q : Frag), e = .returned (u0q) ∧ Row (kPtr k72 72) 70 b w0 R u0q r0q N0q ∧ St b w0 W' R (N0q :: Fs)) := by
 obtain ⟨A0, c0, rfl⟩ := hp0.form
 unfold slices_Delete.f at H
 refine calls_enter Try.func37 rfl 33 rfl (by kernel_rfl) (fun a h => ?_)
 refine wp_seq ?_
 refine WL.start ?_
 refine WL.bl 1 1 h [(6, .slice none 0 0)] (fun a12b h12c => ?_)
 refine WL.dn ?_
 refine wp_seq ?_
 refine WL.start ?_
 refine WL.bl 5 5 h12c [(12, i6 (p0.length : Int)), (11, .slice A0 p0.length c0), (10, i6 p2), (9, i6 p1), (8, .slice A0 p0.length c0)] (fun a12d h12e => ?_)
 clear h12c a12b
 by_cases c12f : 0 ≤ p1
 ·rw [if_pos c12f] at H
  by_cases c12g : p1 ≤ p2
  ·rw [if_pos c12g] at H
   by_cases c12h : p2 ≤ (p0.length : Int)
   ·rw [if_pos c12h] at H
    have s_cap := Rds.cap hp0.rds
    refine WL.oq h12e rfl ?_
    refine owp_rn (sliced A0 p1.toNat p2.toNat (p0.length : Int).toNat 1) h12e rfl (run_cut3 (l := p1) (h := p2) (m := (p0.length : Int)) rfl rfl Try.underlying67 (by kernel_rfl) rfl rfl rfl (by first | assumption | omega) (by first | assumption | omega) (by first | assumption | omega) (by have q_ := s_cap; omega) (by have q_ := s_cap; omega)) (fun a12i h12j => ?_)
    refine WL.dn ?_
    refine wp_seq ?_
    refine wp_seq ?_
    refine WL.start ?_
    refine WL.bl 3 3 h12j [(16, .bool (decide (p1 = p2))), (15, i6 p2), (14, i6 p1)] (fun a12k h12l => ?_)
    refine WL.dn ?_
    clear h12e a12d h12j a12i
    by_cases c12m : p1 = p2
    ·rw [if_pos c12m] at H
     have hb_ : (decide (p1 = p2)) = true := decide_eq_true c12m
     try rw [hb_] at h12l
     clear hb_
     refine wp_then h12l rfl ?_
     refine wp_seq ?_
     refine WL.start ?_
     refine WL.bl 2 2 h12l [(6, .slice A0 p0.length c0), (17, .slice A0 p0.length c0)] (fun a12n h12o => ?_)
     refine WL.dn ?_
     refine wp_ret ?_
     obtain rfl := Option.some.inj H
     repeat (first | with_reducible refine t1 ?_ | with_reducible refine t2 ?_ | with_reducible refine t3 ?_)
     refine bret (.slice A0 p0.length c0) h12o ?_
     exact ⟨.slice A0 p0.length c0, M0, rfl, hp0, hS⟩
    ·rw [if_neg c12m] at H
     have hb_ : (decide (p1 = p2)) = false := decide_eq_false c12m
     try rw [hb_] at h12l
     clear hb_
     refine wp_else h12l rfl ?_
     refine wp_skip ?_
     refine wp_seq ?_
     refine WL.start ?_
     refine WL.bl 3 3 h12l [(7, i6 (p0.length : Int)), (19, i6 (p0.length : Int)), (18, .slice A0 p0.length c0)] (fun a12p h12q => ?_)
     refine WL.dn ?_
     refine wp_seq ?_
     refine WT.start 8 (fun w_ => True) (by kernel_rfl) #[false, false, false, false, false, false, false, false] 8 rfl rfl ?_
     have hS13i := hS.drew
     refine WT.tk 0 h12q rfl rfl (.slice A0 p0.length c0) (fun _ _ => by kernel_rfl) trivial (fun a13j s13l h13k => ?_)
     refine WT.tk 1 h13k rfl rfl (i6 p1) (fun _ _ => by kernel_rfl) s13l (fun a13m s13o h13n => ?_)
     refine WT.tk 3 h13n rfl rfl (.slice A0 p0.length c0) (fun _ _ => by kernel_rfl) s13o (fun a13p s13r h13q => ?_)
     refine WT.tk 4 h13q rfl rfl (i6 p2) (fun _ _ => by kernel_rfl) s13r (fun a13s s13u h13t => ?_)
     refine WT.tk 2 h13t rfl rfl (sliced A0 0 p1.toNat c0 1) (fun w_ hs_ => (run_cut (l := 0) (h := p1) rfl rfl Try.underlying67 (by kernel_rfl) rfl ⟨_, rfl⟩ (by omega) (by omega) (by have q_ := s_cap; omega) (by have q_ := s_cap; omega))) s13u (fun a13v s13x h13w => ?_)
     refine WT.tk 5 h13w rfl rfl (sliced A0 p2.toNat p0.length c0 1) (fun w_ hs_ => (run_cut (l := p2) (h := ((p0.length : Nat) : Int)) rfl rfl Try.underlying67 (by kernel_rfl) ⟨_, rfl⟩ rfl (by omega) (by omega) (by have q_ := s_cap; omega) (by have q_ := s_cap; omega))) s13x (fun a13y s140 h13z => ?_)
     refine WT.o1 6 h13z rfl ?_
     refine owp_del (i := p1.toNat) (j := p2.toNat) (len := p0.length) h13z rfl (by kernel_rfl) rfl rfl rfl hp0 hS13i Try.underlying67 (by kernel_rfl) rfl (by omega) (by omega) (fun a141 W143 M144 h142 hr145 hS146 => ?_)
     have s_len : (p0.take p1.toNat ++ p0.drop p2.toNat).length = p1.toNat + (p0.length - p2.toNat) := by simp; omega
     refine ⟨.inr trivial, ?_⟩
     refine WT.tk 7 h142 rfl rfl (.slice A0 (p1.toNat + (p0.length - p2.toNat)) c0) (fun _ _ => by kernel_rfl) trivial (fun a147 s149 h148 => ?_)
     refine WT.dn ?_
     refine wp_seq ?_
     refine WL.start ?_
     refine WL.bl 4 4 h148 [(30, i6 (p0.length : Int)), (29, i6 (((p1.toNat + (p0.length - p2.toNat)) : Nat) : Int)), (28, .slice A0 (p1.toNat + (p0.length - p2.toNat)) c0), (27, .slice A0 (p1.toNat + (p0.length - p2.toNat)) c0)] (fun a14a h14b => ?_)
     refine WL.oq h14b rfl ?_
     refine owp_rn (sliced A0 (p1.toNat + (p0.length - p2.toNat)) p0.length c0 1) h14b rfl (run_cut (l := (((p1.toNat + (p0.length - p2.toNat)) : Nat) : Int)) (h := (p0.length : Int)) rfl rfl Try.underlying67 (by kernel_rfl) ⟨_, rfl⟩ ⟨_, rfl⟩ (by omega) (by omega) (by have q_ := s_cap; omega) (by have q_ := s_cap; omega)) (fun a14c h14d => ?_)
     refine WL.oq h14d rfl ?_
     refine owp_deltail (z := .pointer none) h14d rfl (by kernel_rfl) rfl rfl hr145 hS146 s_len Try.underlying67 (by kernel_rfl) rfl (by simp [Value.cells, Value.oneCell']) (fun a14e W14g M14h h14f hr14i hS14j => ?_)
     clear h12l a12k h12q a12p h13k a13j h13n a13m h13q a13p h13t a13s h13w a13v h13z a13y h142 a141 h148 a147 h14b a14a h14d a14c
     refine WL.dn ?_
     refine wp_seq ?_
     refine WL.start ?_
     refine WL.bl 2 2 h14f [(6, .slice A0 (p1.toNat + (p0.length - p2.toNat)) c0), (32, .slice A0 (p1.toNat + (p0.length - p2.toNat)) c0)] (fun a14k h14l => ?_)
     refine WL.dn ?_
     refine wp_ret ?_
     obtain rfl := Option.some.inj H
     repeat (first | with_reducible refine t1 ?_ | with_reducible refine t2 ?_ | with_reducible refine t3 ?_)
     refine bret (.slice A0 (p1.toNat + (p0.length - p2.toNat)) c0) h14l ?_
     exact ⟨.slice A0 (p1.toNat + (p0.length - p2.toNat)) c0, M14h, rfl, hr14i, hS14j⟩
   ·rw [if_neg c12h] at H
    cases H
  ·rw [if_neg c12g] at H
   cases H
 ·rw [if_neg c12f] at H
  cases H

/-! ### (*louver/turns.Ring).Drop -/
def turns_Ring_Drop.f (k : Nat) (p0 : S69) (p1 : Int) : Option (S69) := bnd1 (turns_Ring_find.f k p0 p1) fun r19m => (if r19m < 0 then (some p0) else (bnd1 (slices_Delete.f p0.f0 r19m (IntKind.i64.wrap (r19m + 1))) fun r1aj => (if r19m < p0.f1 then (if (IntKind.i64.wrap (p0.f1 - 1)) ≥ (r1aj.length : Int) then (some (⟨r1aj, 0, p0.f2⟩ : S69)) else (some (⟨r1aj, IntKind.i64.wrap (p0.f1 - 1), p0.f2⟩ : S69))) else (if p0.f1 ≥ (r1aj.length : Int) then (some (⟨r1aj, 0, p0.f2⟩ : S69)) else (some (⟨r1aj, p0.f1, p0.f2⟩ : S69))))))
set_option maxHeartbeats 20000000 in
set_option maxRecDepth 100000 in
theorem turns_Ring_Drop.calls (k : Nat) {b : Nat} {w0 W : World} {R : Frag} {Fs : List Frag} {p0 : S69} {p1 : Int}  {v0 : Value} {M0 : Frag} {r0q : S69} (hp0 : Ptr k69 69 b w0 R v0 p0 M0) (H : turns_Ring_Drop.f k p0 p1 = some r0q) (hS : St b w0 W R (M0 :: Fs)) :
  Calls Try.prog 20 ([v0, .int .u32 p1] : List Value).toArray W (fun e W' => ∃ (O0q : Frag), e = .returned (.tuple #[]) ∧ Ptr k69 69 b w0 R v0 r0q O0q ∧ St b w0 W' R (O0q :: Fs)) := by
 unfold turns_Ring_Drop.f at H
 refine calls_enter Try.func20 rfl 47 rfl (by kernel_rfl) (fun a h => ?_)
 refine wp_seq ?_
 refine WL.start ?_
 refine WL.bl 2 2 h [(6, .int .u32 p1), (5, v0)] (fun a19j h19k => ?_)
 obtain ⟨r19m, A19l, H⟩ := bind1 H
 refine WL.oq h19k rfl ?_
 refine owp_call [v0, .int .u32 p1] h19k rfl (by kernel_rfl) rfl Try.func28 (by kernel_rfl) rfl (by kernel_rfl) (turns_Ring_find.calls k hp0 A19l hS) (fun e19o W19n hp19p => ?_)
 obtain ⟨M19s, rfl, hr19t, hS19u⟩ := hp19p
 refine ⟨_, rfl, fun a19q h19r => ?_⟩
 refine WL.bl 1 4 h19r [(4, i6 r19m)] (fun a19v h19w => ?_)
 refine WL.dn ?_
 refine wp_seq ?_
 refine wp_seq ?_
 refine WL.start ?_
 refine WL.bl 2 2 h19w [(9, .bool (decide (r19m < 0))), (8, i6 r19m)] (fun a19x h19y => ?_)
 refine WL.dn ?_
 clear h19k a19j h19r a19q h19w a19v
 by_cases c19z : r19m < 0
 ·rw [if_pos c19z] at H
  have hb_ : (decide (r19m < 0)) = true := decide_eq_true c19z
  try rw [hb_] at h19y
  clear hb_
  refine wp_then h19y rfl ?_
  refine wp_ret ?_
  obtain rfl := Option.some.inj H
  repeat (first | with_reducible refine t1 ?_ | with_reducible refine t2 ?_ | with_reducible refine t3 ?_)
  refine bret (.tuple #[]) h19y ?_
  exact ⟨M19s, rfl, hr19t, hS19u⟩
 ·rw [if_neg c19z] at H
  have hb_ : (decide (r19m < 0)) = false := decide_eq_false c19z
  try rw [hb_] at h19y
  clear hb_
  refine wp_else h19y rfl ?_
  refine wp_skip ?_
  refine wp_seq ?_
  refine WL.start ?_
  refine WL.bl 2 2 h19y [(11, v0), (10, v0)] (fun a1a0 h1a1 => ?_)
  obtain ⟨g1a3, A1a4, c1a5, g1a8, M1a6, M1a9, rfl, hr1a7, hr1aa, hS1a2⟩ := k69qop hr19t hS19u
  refine WL.bl 2 4 h1a1 [(13, pt g1a3), (12, pt g1a3)] (fun a1ab h1ac => ?_)
  refine WL.oq h1ac rfl ?_
  refine owp_rn (.slice A1a4 p0.f0.length c1a5) h1ac rfl (run_load1 rfl rfl Try.underlying67 rfl (hS1a2.cell (i := 0) rfl)) (fun a1ad h1ae => ?_)
  refine WL.bl 3 8 h1ae [(17, i6 (IntKind.i64.wrap (r19m + 1))), (16, i6 r19m), (15, i6 r19m)] (fun a1af h1ag => ?_)
  have hS1ah := hS1a2.b1
  obtain ⟨r1aj, A1ai, H⟩ := bind1 H
  refine WL.oq h1ag rfl ?_
  refine owp_call [.slice A1a4 p0.f0.length c1a5, i6 r19m, i6 (IntKind.i64.wrap (r19m + 1))] h1ag rfl (by kernel_rfl) rfl Try.func37 (by kernel_rfl) rfl (by kernel_rfl) (slices_Delete.calls hr1a7 A1ai hS1ah) (fun e1al W1ak hp1am => ?_)
  obtain ⟨v1ap, M1aq, rfl, hr1ar, hS1as⟩ := hp1am
  refine ⟨_, rfl, fun a1an h1ao => ?_⟩
  obtain ⟨A1at, c1au, rfl⟩ := hr1ar.form
  refine WL.bl 2 11 h1ao [(20, pt g1a3), (19, pt g1a3)] (fun a1av h1aw => ?_)
  have hS1ax := hS1as.b1
  refine WL.oq h1aw rfl ?_
  refine owp_st 0 [.slice A1at r1aj.length c1au] h1aw rfl rfl rfl hS1ax [.slice A1at r1aj.length c1au, i6 p0.f1, pt g1a8] (fun a1ay W1b0 h1az hS1b1 => ?_)
  refine WL.dn ?_
  refine wp_seq ?_
  refine wp_seq ?_
  refine WL.start ?_
  refine WL.bl 4 4 h1az [(24, .pointer (some ⟨g1a3, 1, none⟩)), (23, pt g1a3), (22, pt g1a3), (21, i6 r19m)] (fun a1b2 h1b3 => ?_)
  refine WL.oq h1b3 rfl ?_
  refine owp_rn (i6 p0.f1) h1b3 rfl (run_load1 rfl rfl Try.underlying3 rfl (hS1b1.cell (i := 1) rfl)) (fun a1b4 h1b5 => ?_)
  refine WL.bl 1 6 h1b5 [(26, .bool (decide (r19m < p0.f1)))] (fun a1b6 h1b7 => ?_)
  refine WL.dn ?_
  clear h19y a19x h1a1 a1a0 h1ac a1ab h1ae a1ad h1ag a1af h1ao a1an h1aw a1av h1az a1ay h1b3 a1b2 h1b5 a1b4
  by_cases c1b8 : r19m < p0.f1
  ·rw [if_pos c1b8] at H
   have hb_ : (decide (r19m < p0.f1)) = true := decide_eq_true c1b8
   try rw [hb_] at h1b7
   clear hb_
   refine wp_then h1b7 rfl ?_
   refine WL.start ?_
   refine WL.bl 3 3 h1b7 [(29, .pointer (some ⟨g1a3, 1, none⟩)), (28, pt g1a3), (27, pt g1a3)] (fun a1b9 h1ba => ?_)
   refine WL.oq h1ba rfl ?_
   refine owp_rn (i6 p0.f1) h1ba rfl (run_load1 rfl rfl Try.underlying3 rfl (hS1b1.cell (i := 1) rfl)) (fun a1bb h1bc => ?_)
   refine WL.bl 3 7 h1bc [(33, .pointer (some ⟨g1a3, 1, none⟩)), (32, pt g1a3), (31, i6 (IntKind.i64.wrap (p0.f1 - 1)))] (fun a1bd h1be => ?_)
   refine WL.oq h1be rfl ?_
   refine owp_st 1 [i6 (IntKind.i64.wrap (p0.f1 - 1))] h1be rfl rfl rfl hS1b1 [.slice A1at r1aj.length c1au, i6 (IntKind.i64.wrap (p0.f1 - 1)), pt g1a8] (fun a1bf W1bh h1bg hS1bi => ?_)
   refine WL.dn ?_
   refine wp_seq ?_
   refine WT.start 10 (fun w_ => (w_.cell? ⟨g1a3, 1, none⟩ = some (i6 (IntKind.i64.wrap (p0.f1 - 1)))) ∧ (w_.cell? ⟨g1a3, 0, none⟩ = some (.slice A1at r1aj.length c1au)) ∧ True) (by kernel_rfl) #[false, false, false, false, false, false, false, false, false, false] 10 rfl rfl ?_
   have hS1d7 := hS1bi.drew
   refine WT.tk 0 h1bg rfl rfl (pt g1a3) (fun _ _ => by kernel_rfl) ⟨(hS1d7.cell (i := 1) rfl), (hS1d7.cell (i := 0) rfl), trivial⟩ (fun a1d8 s1da h1d9 => ?_)
   refine WT.tk 1 h1d9 rfl rfl (pt g1a3) (fun _ _ => by kernel_rfl) s1da (fun a1db s1dd h1dc => ?_)
   refine WT.tk 2 h1dc rfl rfl (.pointer (some ⟨g1a3, 1, none⟩)) (fun _ _ => by kernel_rfl) s1dd (fun a1de s1dg h1df => ?_)
   refine WT.tk 4 h1df rfl rfl (pt g1a3) (fun _ _ => by kernel_rfl) s1dg (fun a1dh s1dj h1di => ?_)
   refine WT.tk 5 h1di rfl rfl (pt g1a3) (fun _ _ => by kernel_rfl) s1dj (fun a1dk s1dm h1dl => ?_)
   refine WT.tk 6 h1dl rfl rfl (pt g1a3) (fun _ _ => by kernel_rfl) s1dm (fun a1dn s1dp h1do => ?_)
   refine WT.tk 3 h1do rfl rfl (i6 (IntKind.i64.wrap (p0.f1 - 1))) (fun w_ hs_ => (run_load1 rfl rfl Try.underlying3 rfl hs_.1)) s1dp (fun a1dq s1ds h1dr => ?_)
   refine WT.tk 7 h1dr rfl rfl (.slice A1at r1aj.length c1au) (fun w_ hs_ => (run_load1 rfl rfl Try.underlying67 rfl hs_.2.1)) s1ds (fun a1dt s1dv h1du => ?_)
   clear h1b7 a1b6 h1ba a1b9 h1bc a1bb h1be a1bd h1bg a1bf h1d9 a1d8 h1dc a1db h1df a1de h1di a1dh h1dl a1dk h1do a1dn h1dr a1dq
   refine WT.tk 8 h1du rfl rfl (i6 (r1aj.length : Int)) (fun _ _ => by kernel_rfl) s1dv (fun a1dw s1dy h1dx => ?_)
   refine WT.tk 9 h1dx rfl rfl (.bool (decide ((IntKind.i64.wrap (p0.f1 - 1)) ≥ (r1aj.length : Int)))) (fun _ _ => by kernel_rfl) s1dy (fun a1dz s1e1 h1e0 => ?_)
   refine WT.dn ?_
   clear h1du a1dt h1dx a1dw
   by_cases c1e2 : (IntKind.i64.wrap (p0.f1 - 1)) ≥ (r1aj.length : Int)
   ·rw [if_pos c1e2] at H
    have hb_ : (decide ((IntKind.i64.wrap (p0.f1 - 1)) ≥ (r1aj.length : Int))) = true := decide_eq_true c1e2
    try rw [hb_] at h1e0
    clear hb_
    refine wp_then h1e0 rfl ?_
    refine WL.start ?_
    refine WL.bl 3 3 h1e0 [(46, .pointer (some ⟨g1a3, 1, none⟩)), (45, pt g1a3), (44, pt g1a3)] (fun a1e3 h1e4 => ?_)
    refine WL.oq h1e4 rfl ?_
    refine owp_st 1 [i6 0] h1e4 rfl rfl rfl hS1d7 [.slice A1at r1aj.length c1au, i6 0, pt g1a8] (fun a1e5 W1e7 h1e6 hS1e8 => ?_)
    refine WL.dn ?_
    have hS1e9 := hS1e8.b2
    have hS1ea := hS1e9.b2
    have hS1eb := hS1ea.b2
    obtain ⟨M1ec, hp1ed, hS1ee⟩ := k69qfo (⟨r1aj, 0, p0.f2⟩ : S69) hr1ar hr1aa hS1eb
    obtain rfl := Option.some.inj H
    repeat (first | with_reducible refine t4 ?_ | with_reducible refine t3 ?_)
    refine bend (.tuple #[]) h1e6 ?_
    exact ⟨M1ec, rfl, hp1ed, hS1ee⟩
   ·rw [if_neg c1e2] at H
    have hb_ : (decide ((IntKind.i64.wrap (p0.f1 - 1)) ≥ (r1aj.length : Int))) = false := decide_eq_false c1e2
    try rw [hb_] at h1e0
    clear hb_
    refine wp_else h1e0 rfl ?_
    refine wp_skip ?_
    have hS1ef := hS1d7.b2
    have hS1eg := hS1ef.b2
    have hS1eh := hS1eg.b2
    obtain ⟨M1ei, hp1ej, hS1ek⟩ := k69qfo (⟨r1aj, IntKind.i64.wrap (p0.f1 - 1), p0.f2⟩ : S69) hr1ar hr1aa hS1eh
    obtain rfl := Option.some.inj H
    repeat (first | with_reducible refine t4 ?_ | with_reducible refine t3 ?_)
    refine bend (.tuple #[]) h1e0 ?_
    exact ⟨M1ei, rfl, hp1ej, hS1ek⟩
  ·rw [if_neg c1b8] at H
   have hb_ : (decide (r19m < p0.f1)) = false := decide_eq_false c1b8
   try rw [hb_] at h1b7
   clear hb_
   refine wp_else h1b7 rfl ?_
   refine wp_skip ?_
   refine wp_seq ?_
   refine WT.start 10 (fun w_ => (w_.cell? ⟨g1a3, 1, none⟩ = some (i6 p0.f1)) ∧ (w_.cell? ⟨g1a3, 0, none⟩ = some (.slice A1at r1aj.length c1au)) ∧ True) (by kernel_rfl) #[false, false, false, false, false, false, false, false, false, false] 10 rfl rfl ?_
   have hS1g9 := hS1b1.drew
   refine WT.tk 0 h1b7 rfl rfl (pt g1a3) (fun _ _ => by kernel_rfl) ⟨(hS1g9.cell (i := 1) rfl), (hS1g9.cell (i := 0) rfl), trivial⟩ (fun a1ga s1gc h1gb => ?_)
   refine WT.tk 1 h1gb rfl rfl (pt g1a3) (fun _ _ => by kernel_rfl) s1gc (fun a1gd s1gf h1ge => ?_)
   refine WT.tk 2 h1ge rfl rfl (.pointer (some ⟨g1a3, 1, none⟩)) (fun _ _ => by kernel_rfl) s1gf (fun a1gg s1gi h1gh => ?_)
   refine WT.tk 4 h1gh rfl rfl (pt g1a3) (fun _ _ => by kernel_rfl) s1gi (fun a1gj s1gl h1gk => ?_)
   refine WT.tk 5 h1gk rfl rfl (pt g1a3) (fun _ _ => by kernel_rfl) s1gl (fun a1gm s1go h1gn => ?_)
   refine WT.tk 6 h1gn rfl rfl (pt g1a3) (fun _ _ => by kernel_rfl) s1go (fun a1gp s1gr h1gq => ?_)
   refine WT.tk 3 h1gq rfl rfl (i6 p0.f1) (fun w_ hs_ => (run_load1 rfl rfl Try.underlying3 rfl hs_.1)) s1gr (fun a1gs s1gu h1gt => ?_)
   refine WT.tk 7 h1gt rfl rfl (.slice A1at r1aj.length c1au) (fun w_ hs_ => (run_load1 rfl rfl Try.underlying67 rfl hs_.2.1)) s1gu (fun a1gv s1gx h1gw => ?_)
   refine WT.tk 8 h1gw rfl rfl (i6 (r1aj.length : Int)) (fun _ _ => by kernel_rfl) s1gx (fun a1gy s1h0 h1gz => ?_)
   refine WT.tk 9 h1gz rfl rfl (.bool (decide (p0.f1 ≥ (r1aj.length : Int)))) (fun _ _ => by kernel_rfl) s1h0 (fun a1h1 s1h3 h1h2 => ?_)
   refine WT.dn ?_
   clear h1b7 a1b6 h1gb a1ga h1ge a1gd h1gh a1gg h1gk a1gj h1gn a1gm h1gq a1gp h1gt a1gs h1gw a1gv h1gz a1gy
   by_cases c1h4 : p0.f1 ≥ (r1aj.length : Int)
   ·rw [if_pos c1h4] at H
    have hb_ : (decide (p0.f1 ≥ (r1aj.length : Int))) = true := decide_eq_true c1h4
    try rw [hb_] at h1h2
    clear hb_
    refine wp_then h1h2 rfl ?_
    refine WL.start ?_
    refine WL.bl 3 3 h1h2 [(46, .pointer (some ⟨g1a3, 1, none⟩)), (45, pt g1a3), (44, pt g1a3)] (fun a1h5 h1h6 => ?_)
    refine WL.oq h1h6 rfl ?_
    refine owp_st 1 [i6 0] h1h6 rfl rfl rfl hS1g9 [.slice A1at r1aj.length c1au, i6 0, pt g1a8] (fun a1h7 W1h9 h1h8 hS1ha => ?_)
    refine WL.dn ?_
    have hS1hb := hS1ha.b2
    have hS1hc := hS1hb.b2
    have hS1hd := hS1hc.b2
    obtain ⟨M1he, hp1hf, hS1hg⟩ := k69qfo (⟨r1aj, 0, p0.f2⟩ : S69) hr1ar hr1aa hS1hd
    obtain rfl := Option.some.inj H
    repeat (first | with_reducible refine t4 ?_ | with_reducible refine t3 ?_)
    refine bend (.tuple #[]) h1h8 ?_
    exact ⟨M1he, rfl, hp1hf, hS1hg⟩
   ·rw [if_neg c1h4] at H
    have hb_ : (decide (p0.f1 ≥ (r1aj.length : Int))) = false := decide_eq_false c1h4
    try rw [hb_] at h1h2
    clear hb_
    refine wp_else h1h2 rfl ?_
    refine wp_skip ?_
    have hS1hh := hS1g9.b2
    have hS1hi := hS1hh.b2
    have hS1hj := hS1hi.b2
    obtain ⟨M1hk, hp1hl, hS1hm⟩ := k69qfo (⟨r1aj, p0.f1, p0.f2⟩ : S69) hr1ar hr1aa hS1hj
    obtain rfl := Option.some.inj H
    repeat (first | with_reducible refine t4 ?_ | with_reducible refine t3 ?_)
    refine bend (.tuple #[]) h1h2 ?_
    exact ⟨M1hk, rfl, hp1hl, hS1hm⟩

/-! ### (*louver/turns.Ring).Drop -/
def turns_Ring_Drop_nil.f (k : Nat) (p1 : Int) : Option (Unit) := bnd1 (turns_Ring_find_nil.f p1) fun r10k => (if r10k < 0 then (some ()) else (none))
set_option maxHeartbeats 20000000 in
set_option maxRecDepth 100000 in
theorem turns_Ring_Drop_nil.calls (k : Nat) {b : Nat} {w0 W : World} {R : Frag} {Fs : List Frag} {p1 : Int}    (H : turns_Ring_Drop_nil.f k p1 = some ()) (hS : St b w0 W R (Fs)) :
  Calls Try.prog 20 ([.pointer none, .int .u32 p1] : List Value).toArray W (fun e W' => e = .returned (.tuple #[]) ∧ St b w0 W' R (Fs)) := by
 unfold turns_Ring_Drop_nil.f at H
 refine calls_enter Try.func20 rfl 47 rfl (by kernel_rfl) (fun a h => ?_)
 refine wp_seq ?_
 refine WL.start ?_
 refine WL.bl 2 2 h [(6, .int .u32 p1), (5, .pointer none)] (fun a10h h10i => ?_)
 obtain ⟨r10k, A10j, H⟩ := bind1 H
 refine WL.oq h10i rfl ?_
 refine owp_call [.pointer none, .int .u32 p1] h10i rfl (by kernel_rfl) rfl Try.func28 (by kernel_rfl) rfl (by kernel_rfl) (turns_Ring_find_nil.calls  A10j hS) (fun e10m W10l hp10n => ?_)
 obtain ⟨rfl, hS10q⟩ := hp10n
 refine ⟨_, rfl, fun a10o h10p => ?_⟩
 refine WL.bl 1 4 h10p [(4, i6 r10k)] (fun a10r h10s => ?_)
 refine WL.dn ?_
 refine wp_seq ?_
 refine wp_seq ?_
 refine WL.start ?_
 refine WL.bl 2 2 h10s [(9, .bool (decide (r10k < 0))), (8, i6 r10k)] (fun a10t h10u => ?_)
 refine WL.dn ?_
 clear h10i a10h h10p a10o h10s a10r
 by_cases c10v : r10k < 0
 ·rw [if_pos c10v] at H
  have hb_ : (decide (r10k < 0)) = true := decide_eq_true c10v
  try rw [hb_] at h10u
  clear hb_
  refine wp_then h10u rfl ?_
  refine wp_ret ?_
  repeat (first | with_reducible refine t1 ?_ | with_reducible refine t2 ?_ | with_reducible refine t3 ?_)
  refine bret (.tuple #[]) h10u ?_
  exact ⟨rfl, hS10q⟩
 ·rw [if_neg c10v] at H
  have hb_ : (decide (r10k < 0)) = false := decide_eq_false c10v
  try rw [hb_] at h10u
  clear hb_
  refine wp_else h10u rfl ?_
  refine wp_skip ?_
  refine wp_seq ?_
  refine WL.start ?_
  refine WL.bl 2 2 h10u [(11, .pointer none), (10, .pointer none)] (fun a10w h10x => ?_)
  cases H
end Go.Proofs.Ytikfpmieadfllaa.Sl
