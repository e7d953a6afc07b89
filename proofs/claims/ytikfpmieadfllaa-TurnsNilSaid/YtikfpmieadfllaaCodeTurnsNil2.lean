/- What the functions of this program compute, told as plain functions, and that the calls come to just that. Printed by this session's program; part 2. -/
import Derived.Test.YtikfpmieadfllaaCodeTurnsNil1
set_option linter.unusedVariables false
set_option linter.unusedSimpArgs false
set_option linter.unnecessarySimpa false
namespace Go.Proofs.Ytikfpmieadfllaa.Sl
open Go Go.RowKit Go.Proofs.Sl
/-! ### (*louver/turns.Ring).Waits -/
def turns_Ring_Waits.f (k : Nat) (p0 : S69) (p1 : Int) : Option (Int) := bnd1 (turns_Ring_find.f k p0 p1) fun r12r => (if r12r < 0 then (some 0) else (if 0 ≤ r12r then (if r12r < (p0.f0.length : Int) then (lt1 (gt z72 p0.f0 r12r : S72) fun y144 => (some (y144.f1.length : Int))) else (none)) else (none)))
set_option maxHeartbeats 20000000 in
set_option maxRecDepth 100000 in
theorem turns_Ring_Waits.calls (k : Nat) {b : Nat} {w0 W : World} {R : Frag} {Fs : List Frag} {p0 : S69} {p1 : Int}  {v0 : Value} {M0 : Frag} {r0q : Int} (hp0 : Ptr k69 69 b w0 R v0 p0 M0) (H : turns_Ring_Waits.f k p0 p1 = some r0q) (hS : St b w0 W R (M0 :: Fs)) :
  Calls Try.prog 13 ([v0, .int .u32 p1] : List Value).toArray W (fun e W' => ∃ (O0q : Frag), e = .returned (i6 r0q) ∧ Ptr k69 69 b w0 R v0 p0 O0q ∧ St b w0 W' R (O0q :: Fs)) := by
 unfold turns_Ring_Waits.f at H
 refine calls_enter Try.func13 rfl 22 rfl (by kernel_rfl) (fun a h => ?_)
 refine wp_seq ?_
 refine WL.start ?_
 refine WL.bl 1 1 h [(4, i6 0)] (fun a12m h12n => ?_)
 refine WL.dn ?_
 refine wp_seq ?_
 refine WL.start ?_
 refine WL.bl 2 2 h12n [(7, .int .u32 p1), (6, v0)] (fun a12o h12p => ?_)
 obtain ⟨r12r, A12q, H⟩ := bind1 H
 refine WL.oq h12p rfl ?_
 refine owp_call [v0, .int .u32 p1] h12p rfl (by kernel_rfl) rfl Try.func28 (by kernel_rfl) rfl (by kernel_rfl) (turns_Ring_find.calls k hp0 A12q hS) (fun e12t W12s hp12u => ?_)
 obtain ⟨M12x, rfl, hr12y, hS12z⟩ := hp12u
 refine ⟨_, rfl, fun a12v h12w => ?_⟩
 refine WL.bl 1 4 h12w [(5, i6 r12r)] (fun a130 h131 => ?_)
 refine WL.dn ?_
 refine wp_seq ?_
 refine wp_seq ?_
 refine WL.start ?_
 refine WL.bl 2 2 h131 [(10, .bool (decide (r12r < 0))), (9, i6 r12r)] (fun a132 h133 => ?_)
 refine WL.dn ?_
 clear h12n a12m h12p a12o h12w a12v h131 a130
 by_cases c134 : r12r < 0
 ·rw [if_pos c134] at H
  have hb_ : (decide (r12r < 0)) = true := decide_eq_true c134
  try rw [hb_] at h133
  clear hb_
  refine wp_then h133 rfl ?_
  refine wp_seq ?_
  refine WL.start ?_
  refine WL.bl 1 1 h133 [(4, i6 0)] (fun a135 h136 => ?_)
  refine WL.dn ?_
  refine wp_ret ?_
  obtain rfl := Option.some.inj H
  repeat (first | with_reducible refine t1 ?_ | with_reducible refine t2 ?_ | with_reducible refine t3 ?_)
  refine bret (i6 0) h136 ?_
  exact ⟨M12x, rfl, hr12y, hS12z⟩
 ·rw [if_neg c134] at H
  have hb_ : (decide (r12r < 0)) = false := decide_eq_false c134
  try rw [hb_] at h133
  clear hb_
  refine wp_else h133 rfl ?_
  refine wp_skip ?_
  refine wp_seq ?_
  refine WL.start ?_
  refine WL.bl 1 1 h133 [(11, v0)] (fun a137 h138 => ?_)
  obtain ⟨g13a, A13b, c13c, g13f, M13d, M13g, rfl, hr13e, hr13h, hS139⟩ := k69qop hr12y hS12z
  refine WL.bl 2 3 h138 [(13, pt g13a), (12, pt g13a)] (fun a13i h13j => ?_)
  refine WL.oq h13j rfl ?_
  refine owp_rn (.slice A13b p0.f0.length c13c) h13j rfl (run_load1 rfl rfl Try.underlying67 rfl (hS139.cell (i := 0) rfl)) (fun a13k h13l => ?_)
  refine WL.bl 1 5 h13l [(15, i6 r12r)] (fun a13m h13n => ?_)
  clear h133 a132 h138 a137 h13j a13i h13l a13k
  by_cases c13o : 0 ≤ r12r
  ·rw [if_pos c13o] at H
   by_cases c13p : r12r < (p0.f0.length : Int)
   ·rw [if_pos c13p] at H
    have hi13s : 0 ≤ r12r := by first | assumption | omega
    have hi13t : r12r < (p0.f0.length : Int) := by first | assumption | omega
    obtain ⟨ad13q, _, ha13r, -, -⟩ := Rds.elemAny hr13e.rds hi13s (gt_get (z := z72) hi13s hi13t)
    refine WL.oq h13n rfl ?_
    refine owp_rn (.pointer (some (ad13q.add (r12r.toNat * 1)))) h13n rfl (run_idx (ad := ad13q) (sz := 1) rfl (by rw [← ha13r]; rfl) rfl Try.underlying67 (by kernel_rfl) hi13s hi13t) (fun a13u h13v => ?_)
    have hS13w := hS139.b1
    obtain ⟨g13x, M13y, M13z, hp140, hh141, hm142, hc143⟩ := Row.openp (dk := k72) z72 hr13e ha13r hi13s hi13t
    obtain ⟨y144, hy145, H⟩ := lete H
    have hr146 : Ptr k72 72 b w0 R (pt g13x) y144 M13z := by rw [hy145]; exact hp140
    have hS148 : St b w0 W12s R (M13z :: M13y :: (bx g13a 69 [.slice A13b p0.f0.length c13c, i6 p0.f1, pt g13f]) :: M13g :: Fs) := hm142 _ _ hS13w
    clear hm142 hp140 hr13e
    refine WL.oq h13v rfl ?_
    refine owp_rn (pt g13x) h13v rfl (run_load1 rfl rfl Try.underlying70 rfl (hc143 _ _ hS148.b1)) (fun a149 h14a => ?_)
    obtain ⟨A14c, c14d, g14g, M14e, M14h, hr14f, hr14i, hS14b⟩ := k72qoq hr146 hS148
    refine WL.bl 2 9 h14a [(19, .pointer (some ⟨g13x, 1, none⟩)), (18, pt g13x)] (fun a14j h14k => ?_)
    refine WL.oq h14k rfl ?_
    refine owp_rn (.slice A14c y144.f1.length c14d) h14k rfl (run_load1 rfl rfl Try.underlying27 rfl (hS14b.cell (i := 1) rfl)) (fun a14l h14m => ?_)
    refine WL.bl 2 12 h14m [(4, i6 (y144.f1.length : Int)), (21, i6 (y144.f1.length : Int))] (fun a14n h14o => ?_)
    refine WL.dn ?_
    refine wp_ret ?_
    have hS14p := hS14b.b2
    have hS14q := hS14p.b2
    have hS14r := hS14q.b2
    obtain ⟨M14s, hp14t, hS14u⟩ := k72qfo y144 hr14f hr14i hS14r
    have hS14v := hS14u.b1
    have hS14w := hS14v.b1
    obtain ⟨M14x, hr14y, hm14z⟩ := hh141.same hy145 hi13s hi13t hp14t
    have hS151 : St b w0 W12s R (M14x :: (bx g13a 69 [.slice A13b p0.f0.length c13c, i6 p0.f1, pt g13f]) :: M13g :: Fs) := hm14z _ _ hS14w
    have hS152 := hS151.b2
    have hS153 := hS152.b1
    have hS154 := hS153.b2
    obtain ⟨M155, hp156, hS157⟩ := k69qfo p0 hr14y hr13h hS154
    obtain rfl := Option.some.inj H
    repeat (first | with_reducible refine t1 ?_ | with_reducible refine t2 ?_ | with_reducible refine t3 ?_)
    refine bret (i6 (y144.f1.length : Int)) h14o ?_
    exact ⟨M155, rfl, hp156, hS157⟩
   ·rw [if_neg c13p] at H
    cases H
  ·rw [if_neg c13o] at H
   cases H

/-! ### (*louver/turns.Ring).Waits -/
def turns_Ring_Waits_nil.f (k : Nat) (p1 : Int) : Option (Int) := bnd1 (turns_Ring_find_nil.f p1) fun r10q => (if r10q < 0 then (some 0) else (none))
set_option maxHeartbeats 20000000 in
set_option maxRecDepth 100000 in
theorem turns_Ring_Waits_nil.calls (k : Nat) {b : Nat} {w0 W : World} {R : Frag} {Fs : List Frag} {p1 : Int}  {r0q : Int}  (H : turns_Ring_Waits_nil.f k p1 = some r0q) (hS : St b w0 W R (Fs)) :
  Calls Try.prog 13 ([.pointer none, .int .u32 p1] : List Value).toArray W (fun e W' => e = .returned (i6 r0q) ∧ St b w0 W' R (Fs)) := by
 unfold turns_Ring_Waits_nil.f at H
 refine calls_enter Try.func13 rfl 22 rfl (by kernel_rfl) (fun a h => ?_)
 refine wp_seq ?_
 refine WL.start ?_
 refine WL.bl 1 1 h [(4, i6 0)] (fun a10l h10m => ?_)
 refine WL.dn ?_
 refine wp_seq ?_
 refine WL.start ?_
 refine WL.bl 2 2 h10m [(7, .int .u32 p1), (6, .pointer none)] (fun a10n h10o => ?_)
 obtain ⟨r10q, A10p, H⟩ := bind1 H
 refine WL.oq h10o rfl ?_
 refine owp_call [.pointer none, .int .u32 p1] h10o rfl (by kernel_rfl) rfl Try.func28 (by kernel_rfl) rfl (by kernel_rfl) (turns_Ring_find_nil.calls  A10p hS) (fun e10s W10r hp10t => ?_)
 obtain ⟨rfl, hS10w⟩ := hp10t
 refine ⟨_, rfl, fun a10u h10v => ?_⟩
 refine WL.bl 1 4 h10v [(5, i6 r10q)] (fun a10x h10y => ?_)
 refine WL.dn ?_
 refine wp_seq ?_
 refine wp_seq ?_
 refine WL.start ?_
 refine WL.bl 2 2 h10y [(10, .bool (decide (r10q < 0))), (9, i6 r10q)] (fun a10z h110 => ?_)
 refine WL.dn ?_
 clear h10m a10l h10o a10n h10v a10u h10y a10x
 by_cases c111 : r10q < 0
 ·rw [if_pos c111] at H
  have hb_ : (decide (r10q < 0)) = true := decide_eq_true c111
  try rw [hb_] at h110
  clear hb_
  refine wp_then h110 rfl ?_
  refine wp_seq ?_
  refine WL.start ?_
  refine WL.bl 1 1 h110 [(4, i6 0)] (fun a112 h113 => ?_)
  refine WL.dn ?_
  refine wp_ret ?_
  obtain rfl := Option.some.inj H
  repeat (first | with_reducible refine t1 ?_ | with_reducible refine t2 ?_ | with_reducible refine t3 ?_)
  refine bret (i6 0) h113 ?_
  exact ⟨rfl, hS10w⟩
 ·rw [if_neg c111] at H
  have hb_ : (decide (r10q < 0)) = false := decide_eq_false c111
  try rw [hb_] at h110
  clear hb_
  refine wp_else h110 rfl ?_
  refine wp_skip ?_
  refine wp_seq ?_
  refine WL.start ?_
  refine WL.bl 1 1 h110 [(11, .pointer none)] (fun a114 h115 => ?_)
  cases H

/-! ### (*louver/turns.Ring).Left -/
def turns_Ring_Left.f (k : Nat) (p0 : S69) (p1 : Int) : Option (Int) := bnd1 (turns_Ring_find.f k p0 p1) fun r13y => (if p1 = 0 then (bnd1 (window_Window_Left.f p0.f2) fun r14v => (some r14v)) else (if r13y < 0 then (some 0) else (if 0 ≤ r13y then (if r13y < (p0.f0.length : Int) then (lt1 (gt z72 p0.f0 r13y : S72) fun y168 => (bnd1 (window_Window_Left.f y168.f4) fun r16t => (some r16t))) else (none)) else (none))))
set_option maxHeartbeats 20000000 in
set_option maxRecDepth 100000 in
theorem turns_Ring_Left.calls (k : Nat) {b : Nat} {w0 W : World} {R : Frag} {Fs : List Frag} {p0 : S69} {p1 : Int}  {v0 : Value} {M0 : Frag} {r0q : Int} (hp0 : Ptr k69 69 b w0 R v0 p0 M0) (H : turns_Ring_Left.f k p0 p1 = some r0q) (hS : St b w0 W R (M0 :: Fs)) :
  Calls Try.prog 24 ([v0, .int .u32 p1] : List Value).toArray W (fun e W' => ∃ (O0q : Frag), e = .returned (i6 r0q) ∧ Ptr k69 69 b w0 R v0 p0 O0q ∧ St b w0 W' R (O0q :: Fs)) := by
 unfold turns_Ring_Left.f at H
 refine calls_enter Try.func24 rfl 34 rfl (by kernel_rfl) (fun a h => ?_)
 refine wp_seq ?_
 refine WL.start ?_
 refine WL.bl 1 1 h [(4, i6 0)] (fun a13t h13u => ?_)
 refine WL.dn ?_
 refine wp_seq ?_
 refine WL.start ?_
 refine WL.bl 2 2 h13u [(7, .int .u32 p1), (6, v0)] (fun a13v h13w => ?_)
 obtain ⟨r13y, A13x, H⟩ := bind1 H
 refine WL.oq h13w rfl ?_
 refine owp_call [v0, .int .u32 p1] h13w rfl (by kernel_rfl) rfl Try.func28 (by kernel_rfl) rfl (by kernel_rfl) (turns_Ring_find.calls k hp0 A13x hS) (fun e140 W13z hp141 => ?_)
 obtain ⟨M144, rfl, hr145, hS146⟩ := hp141
 refine ⟨_, rfl, fun a142 h143 => ?_⟩
 refine WL.bl 1 4 h143 [(5, i6 r13y)] (fun a147 h148 => ?_)
 refine WL.dn ?_
 refine wp_seq ?_
 refine wp_block ?_
 refine wp_seq ?_
 refine WL.start ?_
 refine WL.bl 1 1 h148 [(10, v0)] (fun a149 h14a => ?_)
 obtain ⟨g14c, A14d, c14e, g14h, M14f, M14i, rfl, hr14g, hr14j, hS14b⟩ := k69qop hr145 hS146
 refine WL.bl 2 3 h14a [(9, .bool false), (11, .bool false)] (fun a14k h14l => ?_)
 refine WL.dn ?_
 refine wp_else h14l rfl ?_
 refine wp_seq ?_
 refine WL.start ?_
 refine WL.bl 3 3 h14l [(12, .bool (decide (p1 = 0))), (14, .bool (decide (p1 = 0))), (13, .int .u32 p1)] (fun a14m h14n => ?_)
 refine WL.dn ?_
 clear h13u a13t h13w a13v h143 a142 h148 a147 h14a a149 h14l a14k
 by_cases c14o : p1 = 0
 ·rw [if_pos c14o] at H
  have hb_ : (decide (p1 = 0)) = true := decide_eq_true c14o
  try rw [hb_] at h14n
  clear hb_
  refine wp_then h14n rfl ?_
  refine wp_seq ?_
  refine WL.start ?_
  refine WL.bl 3 3 h14n [(17, .pointer (some ⟨g14c, 2, none⟩)), (16, pt g14c), (15, pt g14c)] (fun a14p h14q => ?_)
  refine WL.oq h14q rfl ?_
  refine owp_rn (pt g14h) h14q rfl (run_load1 rfl rfl Try.underlying65 rfl (hS14b.cell (i := 2) rfl)) (fun a14r h14s => ?_)
  have hS14t := hS14b.b2
  obtain ⟨r14v, A14u, H⟩ := bind1 H
  refine WL.oq h14s rfl ?_
  refine owp_call [(pt g14h)] h14s rfl (by kernel_rfl) rfl Try.func30 (by kernel_rfl) rfl (by kernel_rfl) (window_Window_Left.calls hr14j A14u hS14t) (fun e14x W14w hp14y => ?_)
  obtain ⟨M151, rfl, hr152, hS153⟩ := hp14y
  refine ⟨_, rfl, fun a14z h150 => ?_⟩
  refine WL.bl 1 6 h150 [(4, i6 r14v)] (fun a154 h155 => ?_)
  refine WL.dn ?_
  refine wp_ret ?_
  have hS156 := hS153.b2
  have hS157 := hS156.b2
  obtain ⟨M158, hp159, hS15a⟩ := k69qfo p0 hr14g hr152 hS157
  obtain rfl := Option.some.inj H
  repeat (first | with_reducible refine t1 ?_ | with_reducible refine t2 ?_ | with_reducible refine t3 ?_)
  refine bret (i6 r14v) h155 ?_
  exact ⟨M158, rfl, hp159, hS15a⟩
 ·rw [if_neg c14o] at H
  have hb_ : (decide (p1 = 0)) = false := decide_eq_false c14o
  try rw [hb_] at h14n
  clear hb_
  refine wp_else h14n rfl ?_
  refine wp_seq ?_
  refine WL.start ?_
  refine WL.bl 3 3 h14n [(20, .bool (decide (r13y < 0))), (22, .bool (decide (r13y < 0))), (21, i6 r13y)] (fun a15b h15c => ?_)
  refine WL.dn ?_
  clear h14n a14m
  by_cases c15d : r13y < 0
  ·rw [if_pos c15d] at H
   have hb_ : (decide (r13y < 0)) = true := decide_eq_true c15d
   try rw [hb_] at h15c
   clear hb_
   refine wp_then h15c rfl ?_
   refine wp_seq ?_
   refine WL.start ?_
   refine WL.bl 1 1 h15c [(4, i6 0)] (fun a15e h15f => ?_)
   refine WL.dn ?_
   refine wp_ret ?_
   have hS15g := hS14b.b2
   have hS15h := hS15g.b2
   have hS15i := hS15h.b2
   obtain ⟨M15j, hp15k, hS15l⟩ := k69qfo p0 hr14g hr14j hS15i
   obtain rfl := Option.some.inj H
   repeat (first | with_reducible refine t1 ?_ | with_reducible refine t2 ?_ | with_reducible refine t3 ?_)
   refine bret (i6 0) h15f ?_
   exact ⟨M15j, rfl, hp15k, hS15l⟩
  ·rw [if_neg c15d] at H
   have hb_ : (decide (r13y < 0)) = false := decide_eq_false c15d
   try rw [hb_] at h15c
   clear hb_
   refine wp_else h15c rfl ?_
   refine wp_skip ?_
   refine wp_seq ?_
   refine WL.start ?_
   refine WL.bl 3 3 h15c [(25, pt g14c), (24, pt g14c), (23, pt g14c)] (fun a15m h15n => ?_)
   refine WL.oq h15n rfl ?_
   refine owp_rn (.slice A14d p0.f0.length c14e) h15n rfl (run_load1 rfl rfl Try.underlying67 rfl (hS14b.cell (i := 0) rfl)) (fun a15o h15p => ?_)
   refine WL.bl 1 5 h15p [(27, i6 r13y)] (fun a15q h15r => ?_)
   clear h15c a15b h15n a15m h15p a15o
   by_cases c15s : 0 ≤ r13y
   ·rw [if_pos c15s] at H
    by_cases c15t : r13y < (p0.f0.length : Int)
    ·rw [if_pos c15t] at H
     have hi15w : 0 ≤ r13y := by first | assumption | omega
     have hi15x : r13y < (p0.f0.length : Int) := by first | assumption | omega
     obtain ⟨ad15u, _, ha15v, -, -⟩ := Rds.elemAny hr14g.rds hi15w (gt_get (z := z72) hi15w hi15x)
     refine WL.oq h15r rfl ?_
     refine owp_rn (.pointer (some (ad15u.add (r13y.toNat * 1)))) h15r rfl (run_idx (ad := ad15u) (sz := 1) rfl (by rw [← ha15v]; rfl) rfl Try.underlying67 (by kernel_rfl) hi15w hi15x) (fun a15y h15z => ?_)
     have hS160 := hS14b.b1
     obtain ⟨g161, M162, M163, hp164, hh165, hm166, hc167⟩ := Row.openp (dk := k72) z72 hr14g ha15v hi15w hi15x
     obtain ⟨y168, hy169, H⟩ := lete H
     have hr16a : Ptr k72 72 b w0 R (pt g161) y168 M163 := by rw [hy169]; exact hp164
     have hS16c : St b w0 W13z R (M163 :: M162 :: (bx g14c 69 [.slice A14d p0.f0.length c14e, i6 p0.f1, pt g14h]) :: M14i :: Fs) := hm166 _ _ hS160
     clear hm166 hp164 hr14g
     refine WL.oq h15z rfl ?_
     refine owp_rn (pt g161) h15z rfl (run_load1 rfl rfl Try.underlying70 rfl (hc167 _ _ hS16c.b1)) (fun a16d h16e => ?_)
     obtain ⟨A16g, c16h, g16k, M16i, M16l, hr16j, hr16m, hS16f⟩ := k72qoq hr16a hS16c
     refine WL.bl 2 9 h16e [(31, .pointer (some ⟨g161, 4, none⟩)), (30, pt g161)] (fun a16n h16o => ?_)
     refine WL.oq h16o rfl ?_
     refine owp_rn (pt g16k) h16o rfl (run_load1 rfl rfl Try.underlying65 rfl (hS16f.cell (i := 4) rfl)) (fun a16p h16q => ?_)
     have hS16r := hS16f.b2
     obtain ⟨r16t, A16s, H⟩ := bind1 H
     refine WL.oq h16q rfl ?_
     refine owp_call [(pt g16k)] h16q rfl (by kernel_rfl) rfl Try.func30 (by kernel_rfl) rfl (by kernel_rfl) (window_Window_Left.calls hr16m A16s hS16r) (fun e16v W16u hp16w => ?_)
     obtain ⟨M16z, rfl, hr170, hS171⟩ := hp16w
     refine ⟨_, rfl, fun a16x h16y => ?_⟩
     refine WL.bl 1 12 h16y [(4, i6 r16t)] (fun a172 h173 => ?_)
     refine WL.dn ?_
     refine wp_ret ?_
     have hS174 := hS171.b2
     have hS175 := hS174.b2
     obtain ⟨M176, hp177, hS178⟩ := k72qfo y168 hr16j hr170 hS175
     have hS179 := hS178.b1
     have hS17a := hS179.b1
     obtain ⟨M17b, hr17c, hm17d⟩ := hh165.same hy169 hi15w hi15x hp177
     have hS17f : St b w0 W16u R (M17b :: (bx g14c 69 [.slice A14d p0.f0.length c14e, i6 p0.f1, pt g14h]) :: M14i :: Fs) := hm17d _ _ hS17a
     have hS17g := hS17f.b2
     have hS17h := hS17g.b1
     have hS17i := hS17h.b2
     obtain ⟨M17j, hp17k, hS17l⟩ := k69qfo p0 hr17c hr14j hS17i
     obtain rfl := Option.some.inj H
     repeat (first | with_reducible refine t1 ?_ | with_reducible refine t2 ?_ | with_reducible refine t3 ?_)
     refine bret (i6 r16t) h173 ?_
     exact ⟨M17j, rfl, hp17k, hS17l⟩
    ·rw [if_neg c15t] at H
     cases H
   ·rw [if_neg c15s] at H
    cases H

/-! ### (*louver/turns.Ring).Left -/
def turns_Ring_Left_nil.f (k : Nat) (p1 : Int) : Option (Int) := bnd1 (turns_Ring_find_nil.f p1) fun r10n => (some 0)
set_option maxHeartbeats 20000000 in
set_option maxRecDepth 100000 in
theorem turns_Ring_Left_nil.calls (k : Nat) {b : Nat} {w0 W : World} {R : Frag} {Fs : List Frag} {p1 : Int}  {r0q : Int}  (H : turns_Ring_Left_nil.f k p1 = some r0q) (hS : St b w0 W R (Fs)) :
  Calls Try.prog 24 ([.pointer none, .int .u32 p1] : List Value).toArray W (fun e W' => e = .returned (i6 r0q) ∧ St b w0 W' R (Fs)) := by
 unfold turns_Ring_Left_nil.f at H
 refine calls_enter Try.func24 rfl 34 rfl (by kernel_rfl) (fun a h => ?_)
 refine wp_seq ?_
 refine WL.start ?_
 refine WL.bl 1 1 h [(4, i6 0)] (fun a10i h10j => ?_)
 refine WL.dn ?_
 refine wp_seq ?_
 refine WL.start ?_
 refine WL.bl 2 2 h10j [(7, .int .u32 p1), (6, .pointer none)] (fun a10k h10l => ?_)
 obtain ⟨r10n, A10m, H⟩ := bind1 H
 refine WL.oq h10l rfl ?_
 refine owp_call [.pointer none, .int .u32 p1] h10l rfl (by kernel_rfl) rfl Try.func28 (by kernel_rfl) rfl (by kernel_rfl) (turns_Ring_find_nil.calls  A10m hS) (fun e10p W10o hp10q => ?_)
 obtain ⟨rfl, hS10t⟩ := hp10q
 refine ⟨_, rfl, fun a10r h10s => ?_⟩
 refine WL.bl 1 4 h10s [(5, i6 r10n)] (fun a10u h10v => ?_)
 refine WL.dn ?_
 refine wp_seq ?_
 refine wp_block ?_
 refine wp_seq ?_
 refine WL.start ?_
 refine WL.bl 3 3 h10v [(9, .bool true), (11, .bool true), (10, .pointer none)] (fun a10w h10x => ?_)
 refine WL.dn ?_
 refine wp_then h10x rfl ?_
 refine wp_seq ?_
 refine WL.start ?_
 refine WL.bl 1 1 h10x [(4, i6 0)] (fun a10y h10z => ?_)
 refine WL.dn ?_
 refine wp_ret ?_
 obtain rfl := Option.some.inj H
 repeat (first | with_reducible refine t1 ?_ | with_reducible refine t2 ?_ | with_reducible refine t3 ?_)
 refine bret (i6 0) h10z ?_
 exact ⟨rfl, hS10t⟩

/-! ### (*louver/turns.Ring).Can$1 -/
def turns_Ring_Can_1.f (p0 : S72) (p2 : S94) : Option (Bool) := bnd1 (window_Window_Left.f p2) fun r11i => (bnd1 (turns_sender_can.f p0 r11i) fun r11t => (some r11t))
set_option maxHeartbeats 20000000 in
set_option maxRecDepth 100000 in
theorem turns_Ring_Can_1.calls {b : Nat} {w0 W : World} {R : Frag} {Fs : List Frag} {p0 : S72} {p2 : S94}  {v0 : Value} {M0 : Frag} {M2 : Frag} {gc gr gw : Nat} {vl : Value} {p1 : Int} {r0q : Bool} (hp0 : Ptr k72 72 b w0 R v0 p0 M0) (hp2 : Ptr k94 94 b w0 R (pt gw) p2 M2) (H : turns_Ring_Can_1.f p0 p2 = some r0q) (hS : St b w0 W R (M0 :: M2 :: (bx gc 22 [(pt gr)]) :: (bx gr 69 [vl, i6 p1, pt gw]) :: Fs)) :
  Calls Try.prog 34 ([v0, pt gc] : List Value).toArray W (fun e W' => ∃ (O0q : Frag) (O2q : Frag), e = .returned (.bool r0q) ∧ Ptr k72 72 b w0 R v0 p0 O0q ∧ Ptr k94 94 b w0 R (pt gw) p2 O2q ∧ St b w0 W' R (O0q :: O2q :: (bx gc 22 [(pt gr)]) :: (bx gr 69 [vl, i6 p1, pt gw]) :: Fs)) := by
 unfold turns_Ring_Can_1.f at H
 refine calls_enter Try.func34 rfl 11 rfl (by kernel_rfl) (fun a h => ?_)
 refine wp_seq ?_
 refine WL.start ?_
 refine WL.bl 1 1 h [(3, .bool false)] (fun a114 h115 => ?_)
 refine WL.dn ?_
 refine wp_seq ?_
 refine WL.start ?_
 refine WL.bl 1 1 h115 [(4, v0)] (fun a116 h117 => ?_)
 have hS118 := hS.b2
 refine WL.oq h117 rfl ?_
 refine owp_rn (pt gr) h117 rfl (run_load1 rfl rfl Try.underlying22 rfl (hS118.cell (i := 0) rfl)) (fun a119 h11a => ?_)
 refine WL.bl 2 4 h11a [(7, .pointer (some ⟨gr, 2, none⟩)), (6, pt gr)] (fun a11b h11c => ?_)
 have hS11d := hS118.b3
 refine WL.oq h11c rfl ?_
 refine owp_rn (pt gw) h11c rfl (run_load1 rfl rfl Try.underlying65 rfl (hS11d.cell (i := 2) rfl)) (fun a11e h11f => ?_)
 have hS11g := hS11d.b3
 obtain ⟨r11i, A11h, H⟩ := bind1 H
 refine WL.oq h11f rfl ?_
 refine owp_call [(pt gw)] h11f rfl (by kernel_rfl) rfl Try.func30 (by kernel_rfl) rfl (by kernel_rfl) (window_Window_Left.calls hp2 A11h hS11g) (fun e11k W11j hp11l => ?_)
 obtain ⟨M11o, rfl, hr11p, hS11q⟩ := hp11l
 refine ⟨_, rfl, fun a11m h11n => ?_⟩
 have hS11r := hS11q.b3
 obtain ⟨r11t, A11s, H⟩ := bind1 H
 refine WL.oq h11n rfl ?_
 refine owp_call [v0, i6 r11i] h11n rfl (by kernel_rfl) rfl Try.func29 (by kernel_rfl) rfl (by kernel_rfl) (turns_sender_can.calls hp0 A11s hS11r) (fun e11v W11u hp11w => ?_)
 obtain ⟨M11z, rfl, hr120, hS121⟩ := hp11w
 refine ⟨_, rfl, fun a11x h11y => ?_⟩
 refine WL.bl 1 8 h11y [(3, .bool r11t)] (fun a122 h123 => ?_)
 refine WL.dn ?_
 refine wp_ret ?_
 have hS124 := hS121.b2
 have hS125 := hS124.b3
 have hS126 := hS125.b3
 have hS127 := hS126.b3
 obtain rfl := Option.some.inj H
 repeat (first | with_reducible refine t1 ?_ | with_reducible refine t2 ?_ | with_reducible refine t3 ?_)
 refine bret (.bool r11t) h123 ?_
 exact ⟨M11z, M11o, rfl, hr120, hr11p, hS127⟩
def turns_Ring_Can_1.g (p2 : S94) : S72 → Bool := fun p0 => (turns_Ring_Can_1.f p0 p2).getD false
theorem turns_Ring_Can_1.tot (p2 : S94) (p0 : S72) : turns_Ring_Can_1.f p0 p2 = some (turns_Ring_Can_1.g p2 p0) := by
 unfold turns_Ring_Can_1.g turns_Ring_Can_1.f turns_sender_can.f window_Window_Left.f
 by_cases h1 : p0.f1 = [] <;> by_cases h2 : p0.f2 = true <;> by_cases h3 : p0.f4.f0 > 0 <;> simp [h1, h2, h3, bnd1]
theorem turns_Ring_Can_1.clos {b : Nat} {w0 : World} {R : Frag} {gc gr gw : Nat} {vl : Value} {p1 : Int} {p2 : S94} : Clos Try.prog k72 72 b w0 R (.func (.func 34) #[] #[(pt gc)]) (turns_Ring_Can_1.g p2) (fun C => ∃ Mw, Ptr k94 94 b w0 R (pt gw) p2 Mw ∧ C = Mw ++ (bx gc 22 [(pt gr)]) ++ (bx gr 69 [vl, i6 p1, pt gw])) := by
 refine ⟨34, _, _, rfl, Try.func34, by kernel_rfl, rfl, ?_⟩
 rintro W x v Mx C Fs hp ⟨Mw, hw, rfl⟩ hS
 refine Calls.mono (turns_Ring_Can_1.calls (gc := gc) (gr := gr) (vl := vl) (p1 := p1) (Fs := Fs) hp hw (turns_Ring_Can_1.tot p2 x) (hS.assoc (by simp only [List.flatten_cons, List.append_assoc, List.cons_append, List.nil_append, List.append_nil]))) ?_
 rintro e W' ⟨O, O2, rfl, ho, ho2, hS'⟩
 exact ⟨O, _, rfl, ho, ⟨O2, ho2, rfl⟩, hS'.assoc (by simp only [List.flatten_cons, List.append_assoc, List.cons_append, List.nil_append, List.append_nil])⟩

/-! ### slices.ContainsFunc[[]*louver/turns.sender,*louver/turns.sender] -/
def slices_ContainsFunc.f (k : Nat) (p0 : (List S72)) (p1 : S72 → Bool) : Option (Bool) := bnd1 (slices_IndexFunc.f k p0 p1) fun r10r => (some (decide (r10r ≥ 0)))
set_option maxHeartbeats 20000000 in
set_option maxRecDepth 100000 in
theorem slices_ContainsFunc.calls (k : Nat) {b : Nat} {w0 W : World} {R : Frag} {Fs : List Frag} {p0 : (List S72)} {p1 : S72 → Bool} {v0 : Value} {M0 : Frag} {v1 : Value} {M1 : Frag} {Q1 : Frag → Prop} {r0q : Bool} (hp0 : Row (kPtr k72 72) 70 b w0 R v0 p0 M0) (hp1 : Clos Try.prog k72 72 b w0 R v1 p1 Q1) (hq1 : Q1 M1) (H : slices_ContainsFunc.f k p0 p1 = some r0q) (hS : St b w0 W R (M0 :: M1 :: Fs)) :
  Calls Try.prog 33 ([v0, v1] : List Value).toArray W (fun e W' => ∃ (O0q : Frag) (O1q : Frag), e = .returned (.bool r0q) ∧ Row (kPtr k72 72) 70 b w0 R v0 p0 O0q ∧ Q1 O1q ∧ St b w0 W' R (O0q :: O1q :: Fs)) := by
 obtain ⟨A0, c0, rfl⟩ := hp0.form
 unfold slices_ContainsFunc.f at H
 refine calls_enter Try.func33 rfl 9 rfl (by kernel_rfl) (fun a h => ?_)
 refine wp_seq ?_
 refine WL.start ?_
 refine WL.bl 1 1 h [(4, .bool false)] (fun a10k h10l => ?_)
 refine WL.dn ?_
 refine wp_seq ?_
 refine WL.start ?_
 refine WL.bl 2 2 h10l [(6, v1), (5, .slice A0 p0.length c0)] (fun a10m h10n => ?_)
 have hS10o := hS.b1
 have hS10p := hS10o.b1
 obtain ⟨r10r, A10q, H⟩ := bind1 H
 refine WL.oq h10n rfl ?_
 refine owp_call [.slice A0 p0.length c0, v1] h10n rfl (by kernel_rfl) rfl Try.func46 (by kernel_rfl) rfl (by kernel_rfl) (slices_IndexFunc.calls k hp0 hp1 hq1 A10q hS10p) (fun e10t W10s hp10u => ?_)
 obtain ⟨M10x, M10z, rfl, hr10y, hr110, hS111⟩ := hp10u
 refine ⟨_, rfl, fun a10v h10w => ?_⟩
 refine WL.bl 2 5 h10w [(4, .bool (decide (r10r ≥ 0))), (8, .bool (decide (r10r ≥ 0)))] (fun a112 h113 => ?_)
 refine WL.dn ?_
 refine wp_ret ?_
 obtain rfl := Option.some.inj H
 repeat (first | with_reducible refine t1 ?_ | with_reducible refine t2 ?_ | with_reducible refine t3 ?_)
 refine bret (.bool (decide (r10r ≥ 0))) h113 ?_
 exact ⟨M10x, M10z, rfl, hr10y, hr110, hS111⟩

/-! ### (*louver/turns.Ring).Can -/
def turns_Ring_Can.f (k : Nat) (p0 : S69) : Option (Bool) := bnd1 (slices_ContainsFunc.f k p0.f0 (turns_Ring_Can_1.g p0.f2)) fun r12n => (some r12n)
set_option maxHeartbeats 20000000 in
set_option maxRecDepth 100000 in
theorem turns_Ring_Can.calls (k : Nat) {b : Nat} {w0 W : World} {R : Frag} {Fs : List Frag} {p0 : S69}  {v0 : Value} {M0 : Frag} {r0q : Bool} (hp0 : Ptr k69 69 b w0 R v0 p0 M0) (H : turns_Ring_Can.f k p0 = some r0q) (hS : St b w0 W R (M0 :: Fs)) :
  Calls Try.prog 14 ([v0] : List Value).toArray W (fun e W' => ∃ (O0q : Frag), e = .returned (.bool r0q) ∧ Ptr k69 69 b w0 R v0 p0 O0q ∧ St b w0 W' R (O0q :: Fs)) := by
 unfold turns_Ring_Can.f at H
 refine calls_enter Try.func14 rfl 13 rfl (by kernel_rfl) (fun a h => ?_)
 refine wp_seq ?_
 refine WL.start ?_
 obtain ⟨g11o, A11p, c11q, g11t, M11r, M11u, rfl, hr11s, hr11v, hS11n⟩ := k69qop hp0 hS
 refine WL.oq h rfl ?_
 refine owp_nw (fun g_ => (pt g_)) (.cells ([(pt g11o)] : List Value).toArray 22 (0, 0)) h rfl hS11n (fun a11w W11y g11z h11x hS120 => ?_)
 refine WL.bl 1 2 h11x [(2, .bool false)] (fun a121 h122 => ?_)
 refine WL.dn ?_
 refine wp_seq ?_
 refine WL.start ?_
 refine WL.oq h122 rfl ?_
 refine owp_rn (pt g11o) h122 rfl (run_load1 rfl rfl Try.underlying22 rfl (hS120.cell (i := 0) rfl)) (fun a123 h124 => ?_)
 refine WL.bl 2 3 h124 [(5, .bool true), (4, .bool true)] (fun a125 h126 => ?_)
 refine WL.oq h126 rfl ?_
 refine owp_rn (pt g11o) h126 rfl (run_load1 rfl rfl Try.underlying22 rfl (hS120.cell (i := 0) rfl)) (fun a127 h128 => ?_)
 refine WL.oq h128 rfl (owp_rk (pt g11o) h128 rfl (fun a129 h12a => ?_))
 refine WL.oq h12a rfl (owp_rk (pt g11o) h12a rfl (fun a12b h12c => ?_))
 have hS12d := hS120.b1
 refine WL.oq h12c rfl ?_
 refine owp_rn (.slice A11p p0.f0.length c11q) h12c rfl (run_load1 rfl rfl Try.underlying67 rfl (hS12d.cell (i := 0) rfl)) (fun a12e h12f => ?_)
 refine WL.oq h12f rfl (owp_rk (.func (.func 34) #[] #[(pt g11z)]) h12f rfl (fun a12g h12h => ?_))
 have hS12i := hS12d.b1
 have hS12j := hS12i.b3
 have hS12k : St b w0 W11y R ((M11u ++ (bx g11z 22 [(pt g11o)]) ++ (bx g11o 69 [.slice A11p p0.f0.length c11q, i6 p0.f1, pt g11t])) :: M11r :: Fs) := hS12j.assoc (by simp only [List.flatten_cons, List.append_assoc, List.cons_append, List.nil_append, List.append_nil])
 have hS12l := hS12k.b1
 obtain ⟨r12n, A12m, H⟩ := bind1 H
 refine WL.oq h12h rfl ?_
 refine owp_call [.slice A11p p0.f0.length c11q, .func (.func 34) #[] #[(pt g11z)]] h12h rfl (by kernel_rfl) rfl Try.func33 (by kernel_rfl) rfl (by kernel_rfl) (slices_ContainsFunc.calls k hr11s turns_Ring_Can_1.clos ⟨_, hr11v, rfl⟩ A12m hS12l) (fun e12p W12o hp12q => ?_)
 obtain ⟨M12t, M12v, rfl, hr12u, ⟨M12x, hr12w, rfl⟩, hS12y⟩ := hp12q
 have hS12z : St b w0 W12o R (M12t :: M12x :: (bx g11z 22 [(pt g11o)]) :: (bx g11o 69 [.slice A11p p0.f0.length c11q, i6 p0.f1, pt g11t]) :: Fs) := hS12y.assoc (by simp only [List.flatten_cons, List.append_assoc, List.cons_append, List.nil_append, List.append_nil])
 refine ⟨_, rfl, fun a12r h12s => ?_⟩
 refine WL.bl 2 11 h12s [(2, .bool r12n), (12, .bool r12n)] (fun a130 h131 => ?_)
 refine WL.dn ?_
 refine wp_ret ?_
 have hS132 := hS12z.b1
 have hS133 := hS132.b1
 have hS134 := hS133.b3
 obtain ⟨M135, hp136, hS137⟩ := k69qfo p0 hr12u hr12w hS134
 have hS138 := hS137.b1
 have hS139 := hS138.drop_
 obtain rfl := Option.some.inj H
 repeat (first | with_reducible refine t1 ?_ | with_reducible refine t2 ?_ | with_reducible refine t3 ?_)
 refine bret (.bool r12n) h131 ?_
 exact ⟨M135, rfl, hp136, hS139⟩

/-! ### (*louver/turns.Ring).Can -/
def turns_Ring_Can_nil.f  : Option (Bool) := some false
set_option maxHeartbeats 20000000 in
set_option maxRecDepth 100000 in
theorem turns_Ring_Can_nil.calls {b : Nat} {w0 W : World} {R : Frag} {Fs : List Frag}   {r0q : Bool}  (H : turns_Ring_Can_nil.f = some r0q) (hS : St b w0 W R (Fs)) :
  Calls Try.prog 14 ([.pointer none] : List Value).toArray W (fun e W' => e = .returned (.bool r0q) ∧ St b w0 W' R (Fs)) := by
 unfold turns_Ring_Can_nil.f at H
 refine calls_enter Try.func14 rfl 13 rfl (by kernel_rfl) (fun a h => ?_)
 refine wp_seq ?_
 refine WL.start ?_
 refine WL.oq h rfl ?_
 refine owp_nw (fun g_ => (pt g_)) (.cells ([.pointer none] : List Value).toArray 22 (0, 0)) h rfl hS (fun a10q W10s g10t h10r hS10u => ?_)
 refine WL.bl 1 2 h10r [(2, .bool false)] (fun a10v h10w => ?_)
 refine WL.dn ?_
 refine wp_seq ?_
 refine WL.start ?_
 refine WL.oq h10w rfl ?_
 refine owp_rn (.pointer none) h10w rfl (run_load1 rfl rfl Try.underlying22 rfl (hS10u.cell (i := 0) rfl)) (fun a10x h10y => ?_)
 refine WL.bl 2 3 h10y [(5, .bool false), (4, .bool false)] (fun a10z h110 => ?_)
 refine WL.sk h110 rfl rfl (fun a111 h112 => ?_)
 refine WL.sk h112 rfl rfl (fun a113 h114 => ?_)
 refine WL.sk h114 rfl rfl (fun a115 h116 => ?_)
 refine WL.sk h116 rfl rfl (fun a117 h118 => ?_)
 refine WL.sk h118 rfl rfl (fun a119 h11a => ?_)
 refine WL.sk h11a rfl rfl (fun a11b h11c => ?_)
 refine WL.bl 2 11 h11c [(2, .bool false), (12, .bool false)] (fun a11d h11e => ?_)
 refine WL.dn ?_
 refine wp_ret ?_
 have hS11f := hS10u.drop_
 obtain rfl := Option.some.inj H
 repeat (first | with_reducible refine t1 ?_ | with_reducible refine t2 ?_ | with_reducible refine t3 ?_)
 refine bret (.bool false) h11e ?_
 exact ⟨rfl, hS11f⟩

/-! ### louver/louverlaw13.TurnsNil -/
def louverlaw13qTurnsNil.f (k : Nat) (p0 : Int) (p1 : (List Int)) (p2 : Int) : Option (Bool) := bnd4 (turns_Ring_Next_nil.f 5) fun r4pf r4pg r4ph r4pi => (bnd1 (turns_Ring_Drop_nil.f k p0) fun _ => (bnd1 (louverlaw13qfixed.f k) fun r760 => (if r760 = true then (bnd1 (turns_Ring_Open_nil.f p0 5) fun r76i => (if r76i = true then (some false) else (bnd1 (turns_Ring_Put_nil.f k p0 p1 true) fun r7ce => (if r7ce = true then (some false) else (if r4pf = 0 then (if (r4pg.length : Int) = 0 then (if r4ph = true then (some false) else (if r4pi = true then (some false) else (bnd1 (turns_Ring_Grow_nil.f k p0 p2) fun r7px => (if (decide (r7px.f0 = 1) && decide (r7px.f1 = 2)) = true then (bnd1 (turns_Ring_Shift_nil.f p2 5) fun r7qo => (if (decide (r7qo.f0 = 1) && decide (r7qo.f1 = 2)) = true then (bnd1 (turns_Ring_Waits_nil.f k p0) fun r7rc => (if r7rc = 0 then (bnd1 (turns_Ring_Left_nil.f k p0) fun r7s0 => (if r7s0 = 0 then (bnd1 (turns_Ring_All_nil.f) fun r7sl => (if r7sl = 0 then (bnd1 (turns_Ring_Can_nil.f) fun r7t6 => (some (!r7t6))) else (some false))) else (some false))) else (some false))) else (some false))) else (some false))))) else (some false)) else (some false)))))) else (some false))))
set_option maxHeartbeats 20000000 in
set_option maxRecDepth 100000 in
theorem louverlaw13qTurnsNil.calls (k : Nat) {b : Nat} {w0 W : World} {R : Frag} {Fs : List Frag} {p0 : Int} {p1 : (List Int)} {p2 : Int} {v1 : Value} {r0q : Bool} (hp1 : Rds (kInt .u8) b w0 R v1 p1) (H : louverlaw13qTurnsNil.f k p0 p1 p2 = some r0q) (hS : St b w0 W R (Fs)) :
  Calls Try.prog 7 ([.int .u32 p0, v1, .int .u32 p2] : List Value).toArray W (fun e W' => e = .returned (.bool r0q) ∧ St b w0 W' R (Fs)) := by
 obtain ⟨A1, c1, rfl⟩ := hp1.form
 unfold louverlaw13qTurnsNil.f at H
 refine calls_enter Try.func7 rfl 92 rfl (by kernel_rfl) (fun a h => ?_)
 refine wp_seq ?_
 refine WL.start ?_
 refine WL.bl 1 1 h [(6, .bool false)] (fun a4p8 h4p9 => ?_)
 refine WL.dn ?_
 refine wp_seq ?_
 refine WL.start ?_
 refine WL.bl 1 1 h4p9 [(7, .pointer none)] (fun a4pa h4pb => ?_)
 refine WL.dn ?_
 refine wp_seq ?_
 refine WL.start ?_
 refine WL.bl 1 1 h4pb [(14, .pointer none)] (fun a4pc h4pd => ?_)
 obtain ⟨r4pf, r4pg, r4ph, r4pi, A4pe, H⟩ := bind4 H
 refine WL.oq h4pd rfl ?_
 refine owp_call [.pointer none, i6 5] h4pd rfl (by kernel_rfl) rfl Try.func11 (by kernel_rfl) rfl (by kernel_rfl) (turns_Ring_Next_nil.calls  A4pe hS) (fun e4pk W4pj hp4pl => ?_)
 obtain ⟨v4po, M4pp, rfl, hr4pq, hS4pr⟩ := hp4pl
 refine ⟨_, rfl, fun a4pm h4pn => ?_⟩
 obtain ⟨A4ps, c4pt, rfl⟩ := hr4pq.form
 refine WL.bl 9 11 h4pn [(11, .bool r4pi), (10, .bool r4ph), (9, .slice A4ps r4pg.length c4pt), (8, .int .u32 r4pf), (19, .bool r4pi), (18, .bool r4ph), (17, .slice A4ps r4pg.length c4pt), (16, .int .u32 r4pf), (13, .tuple #[.int .u32 r4pf, .slice A4ps r4pg.length c4pt, .bool r4ph, .bool r4pi])] (fun a4pu h4pv => ?_)
 refine WL.dn ?_
 refine wp_seq ?_
 refine WL.start ?_
 refine WL.bl 2 2 h4pv [(21, .int .u32 p0), (20, .pointer none)] (fun a4pw h4px => ?_)
 obtain ⟨_, A4py, H⟩ := bind1 H
 refine WL.oq h4px rfl ?_
 refine owp_call [.pointer none, .int .u32 p0] h4px rfl (by kernel_rfl) rfl Try.func20 (by kernel_rfl) rfl (by kernel_rfl) (turns_Ring_Drop_nil.calls k  A4py hS4pr) (fun e4q0 W4pz hp4q1 => ?_)
 obtain ⟨rfl, hS4q4⟩ := hp4q1
 refine ⟨_, rfl, fun a4q2 h4q3 => ?_⟩
 refine WL.dn ?_
 refine wp_seq ?_
 refine WL.start ?_
 refine WL.bl 1 1 h4q3 [(23, .agg #[.int .u8 1, .int .u32 2])] (fun a4q5 h4q6 => ?_)
 refine WL.oq h4q6 rfl ?_
 refine owp_nw (fun g_ => (pt g_)) (.cells ([.int .u8 0, .int .u32 0] : List Value).toArray 50 (0, 0)) h4q6 rfl hS4q4 (fun a4q7 W4q9 g4qa h4q8 hS4qb => ?_)
 refine WL.oq h4q8 rfl ?_
 refine owp_st 0 [.int .u8 1, .int .u32 2] h4q8 rfl rfl rfl hS4qb [.int .u8 1, .int .u32 2] (fun a4qc W4qe h4qd hS4qf => ?_)
 refine WL.dn ?_
 refine wp_seq ?_
 refine WT.start 69 (fun w_ => (∀ j_ u_, ([.int .u8 1, .int .u32 2] : List Value)[j_]? = some u_ → w_.cell? ((⟨g4qa, 0, none⟩ : Addr).add j_) = some u_) ∧ True) (by kernel_rfl) #[false, false, false, false, false, false, false, false, false, false, false, false, false, false, false, false, false, false, false, false, false, false, false, false, false, false, false, false, false, false, false, false, false, false, false, false, false, false, false, false, false, false, false, false, false, false, false, false, false, false, false, false, false, false, false, false, false, false, false, false, false, false, false, false, false, false, false, false, false] 69 rfl rfl ?_
 have hS75y := hS4qf.drew
 obtain ⟨r760, A75z, H⟩ := bind1 H
 refine WT.o1 0 h4qd rfl ?_
 refine owp_call [] h4qd rfl (by kernel_rfl) rfl Try.func12 (by kernel_rfl) rfl (by kernel_rfl) (louverlaw13qfixed.calls k  A75z hS75y) (fun e762 W761 hp763 => ?_)
 obtain ⟨rfl, hS766⟩ := hp763
 refine ⟨_, rfl, fun a764 h765 => ?_⟩
 refine ⟨.inr ⟨(hS766.cells (vs := [.int .u8 1, .int .u32 2]) rfl), trivial⟩, ?_⟩
 refine WT.tk 1 h765 rfl rfl (.bool r760) (fun _ _ => by kernel_rfl) ⟨(hS766.cells (vs := [.int .u8 1, .int .u32 2]) rfl), trivial⟩ (fun a767 s769 h768 => ?_)
 clear h4p9 a4p8 h4pb a4pa h4pd a4pc h4pn a4pm h4pv a4pu h4px a4pw h4q3 a4q2 h4q6 a4q5 h4q8 a4q7 h4qd a4qc h765 a764
 by_cases c76a : r760 = true
 ·rw [if_pos c76a] at H
  have hb_ : r760 = true := c76a
  try rw [hb_] at h768
  clear hb_
  refine WT.tk 2 h768 rfl rfl (.pointer none) (fun _ _ => by kernel_rfl) s769 (fun a76b s76d h76c => ?_)
  refine WT.tk 3 h76c rfl rfl (.int .u32 p0) (fun _ _ => by kernel_rfl) s76d (fun a76e s76g h76f => ?_)
  obtain ⟨r76i, A76h, H⟩ := bind1 H
  refine WT.o1 4 h76f rfl ?_
  refine owp_call [.pointer none, .int .u32 p0, i6 5] h76f rfl (by kernel_rfl) rfl Try.func9 (by kernel_rfl) rfl (by kernel_rfl) (turns_Ring_Open_nil.calls  A76h hS766) (fun e76k W76j hp76l => ?_)
  obtain ⟨rfl, hS76o⟩ := hp76l
  refine ⟨_, rfl, fun a76m h76n => ?_⟩
  refine ⟨.inr ⟨(hS76o.cells (vs := [.int .u8 1, .int .u32 2]) rfl), trivial⟩, ?_⟩
  refine WT.tk 5 h76n rfl rfl (.bool (!r76i)) (fun _ _ => by kernel_rfl) ⟨(hS76o.cells (vs := [.int .u8 1, .int .u32 2]) rfl), trivial⟩ (fun a76p s76r h76q => ?_)
  refine WT.tk 6 h76q rfl rfl (.bool (!r76i)) (fun _ _ => by kernel_rfl) s76r (fun a76s s76u h76t => ?_)
  refine WT.tk 7 h76t rfl rfl (.bool (!r76i)) (fun _ _ => by kernel_rfl) s76u (fun a76v s76x h76w => ?_)
  clear h768 a767 h76c a76b h76f a76e h76n a76m h76q a76p h76t a76s
  by_cases c76y : r76i = true
  ·rw [if_pos c76y] at H
   have hb_ : r76i = true := c76y
   try rw [hb_] at h76w
   clear hb_
   refine WT.sp 8 h76w rfl rfl s76x (fun a76z s771 h770 => ?_)
   refine WT.sp 9 h770 rfl rfl s771 (fun a772 s774 h773 => ?_)
   refine WT.sp 10 h773 rfl rfl s774 (fun a775 s777 h776 => ?_)
   refine WT.sp 11 h776 rfl rfl s777 (fun a778 s77a h779 => ?_)
   refine WT.sp 12 h779 rfl rfl s77a (fun a77b s77d h77c => ?_)
   refine WT.tk 13 h77c rfl rfl (.bool false) (fun _ _ => by kernel_rfl) s77d (fun a77e s77g h77f => ?_)
   refine WT.tk 14 h77f rfl rfl (.bool false) (fun _ _ => by kernel_rfl) s77g (fun a77h s77j h77i => ?_)
   refine WT.sp 15 h77i rfl rfl s77j (fun a77k s77m h77l => ?_)
   refine WT.sp 16 h77l rfl rfl s77m (fun a77n s77p h77o => ?_)
   refine WT.tk 17 h77o rfl rfl (.bool false) (fun _ _ => by kernel_rfl) s77p (fun a77q s77s h77r => ?_)
   refine WT.tk 18 h77r rfl rfl (.bool false) (fun _ _ => by kernel_rfl) s77s (fun a77t s77v h77u => ?_)
   refine WT.sp 19 h77u rfl rfl s77v (fun a77w s77y h77x => ?_)
   clear h76w a76v h770 a76z h773 a772 h776 a775 h779 a778 h77c a77b h77f a77e h77i a77h h77l a77k h77o a77n h77r a77q h77u a77t
   refine WT.sp 20 h77x rfl rfl s77y (fun a77z s781 h780 => ?_)
   refine WT.sp 21 h780 rfl rfl s781 (fun a782 s784 h783 => ?_)
   refine WT.tk 22 h783 rfl rfl (.bool false) (fun _ _ => by kernel_rfl) s784 (fun a785 s787 h786 => ?_)
   refine WT.tk 23 h786 rfl rfl (.bool false) (fun _ _ => by kernel_rfl) s787 (fun a788 s78a h789 => ?_)
   refine WT.sp 24 h789 rfl rfl s78a (fun a78b s78d h78c => ?_)
   refine WT.sp 25 h78c rfl rfl s78d (fun a78e s78g h78f => ?_)
   refine WT.tk 26 h78f rfl rfl (.bool false) (fun _ _ => by kernel_rfl) s78g (fun a78h s78j h78i => ?_)
   refine WT.tk 27 h78i rfl rfl (.bool false) (fun _ _ => by kernel_rfl) s78j (fun a78k s78m h78l => ?_)
   refine WT.sp 28 h78l rfl rfl s78m (fun a78n s78p h78o => ?_)
   refine WT.sp 29 h78o rfl rfl s78p (fun a78q s78s h78r => ?_)
   refine WT.tk 30 h78r rfl rfl (.bool false) (fun _ _ => by kernel_rfl) s78s (fun a78t s78v h78u => ?_)
   refine WT.tk 31 h78u rfl rfl (.bool false) (fun _ _ => by kernel_rfl) s78v (fun a78w s78y h78x => ?_)
   clear h77x a77w h780 a77z h783 a782 h786 a785 h789 a788 h78c a78b h78f a78e h78i a78h h78l a78k h78o a78n h78r a78q h78u a78t
   refine WT.sp 32 h78x rfl rfl s78y (fun a78z s791 h790 => ?_)
   refine WT.sp 33 h790 rfl rfl s791 (fun a792 s794 h793 => ?_)
   refine WT.sp 34 h793 rfl rfl s794 (fun a795 s797 h796 => ?_)
   refine WT.sp 35 h796 rfl rfl s797 (fun a798 s79a h799 => ?_)
   refine WT.sp 36 h799 rfl rfl s79a (fun a79b s79d h79c => ?_)
   refine WT.sp 37 h79c rfl rfl s79d (fun a79e s79g h79f => ?_)
   refine WT.tk 38 h79f rfl rfl (.bool false) (fun _ _ => by kernel_rfl) s79g (fun a79h s79j h79i => ?_)
   refine WT.tk 39 h79i rfl rfl (.bool false) (fun _ _ => by kernel_rfl) s79j (fun a79k s79m h79l => ?_)
   refine WT.sp 40 h79l rfl rfl s79m (fun a79n s79p h79o => ?_)
   refine WT.sp 41 h79o rfl rfl s79p (fun a79q s79s h79r => ?_)
   refine WT.sp 42 h79r rfl rfl s79s (fun a79t s79v h79u => ?_)
   refine WT.sp 43 h79u rfl rfl s79v (fun a79w s79y h79x => ?_)
   clear h78x a78w h790 a78z h793 a792 h796 a795 h799 a798 h79c a79b h79f a79e h79i a79h h79l a79k h79o a79n h79r a79q h79u a79t
   refine WT.sp 44 h79x rfl rfl s79y (fun a79z s7a1 h7a0 => ?_)
   refine WT.tk 45 h7a0 rfl rfl (.bool false) (fun _ _ => by kernel_rfl) s7a1 (fun a7a2 s7a4 h7a3 => ?_)
   refine WT.tk 46 h7a3 rfl rfl (.bool false) (fun _ _ => by kernel_rfl) s7a4 (fun a7a5 s7a7 h7a6 => ?_)
   refine WT.sp 47 h7a6 rfl rfl s7a7 (fun a7a8 s7aa h7a9 => ?_)
   refine WT.sp 48 h7a9 rfl rfl s7aa (fun a7ab s7ad h7ac => ?_)
   refine WT.sp 49 h7ac rfl rfl s7ad (fun a7ae s7ag h7af => ?_)
   refine WT.sp 50 h7af rfl rfl s7ag (fun a7ah s7aj h7ai => ?_)
   refine WT.tk 51 h7ai rfl rfl (.bool false) (fun _ _ => by kernel_rfl) s7aj (fun a7ak s7am h7al => ?_)
   refine WT.tk 52 h7al rfl rfl (.bool false) (fun _ _ => by kernel_rfl) s7am (fun a7an s7ap h7ao => ?_)
   refine WT.sp 53 h7ao rfl rfl s7ap (fun a7aq s7as h7ar => ?_)
   refine WT.sp 54 h7ar rfl rfl s7as (fun a7at s7av h7au => ?_)
   refine WT.sp 55 h7au rfl rfl s7av (fun a7aw s7ay h7ax => ?_)
   clear h79x a79w h7a0 a79z h7a3 a7a2 h7a6 a7a5 h7a9 a7a8 h7ac a7ab h7af a7ae h7ai a7ah h7al a7ak h7ao a7an h7ar a7aq h7au a7at
   refine WT.sp 56 h7ax rfl rfl s7ay (fun a7az s7b1 h7b0 => ?_)
   refine WT.tk 57 h7b0 rfl rfl (.bool false) (fun _ _ => by kernel_rfl) s7b1 (fun a7b2 s7b4 h7b3 => ?_)
   refine WT.tk 58 h7b3 rfl rfl (.bool false) (fun _ _ => by kernel_rfl) s7b4 (fun a7b5 s7b7 h7b6 => ?_)
   refine WT.sp 59 h7b6 rfl rfl s7b7 (fun a7b8 s7ba h7b9 => ?_)
   refine WT.sp 60 h7b9 rfl rfl s7ba (fun a7bb s7bd h7bc => ?_)
   refine WT.sp 61 h7bc rfl rfl s7bd (fun a7be s7bg h7bf => ?_)
   refine WT.tk 62 h7bf rfl rfl (.bool false) (fun _ _ => by kernel_rfl) s7bg (fun a7bh s7bj h7bi => ?_)
   refine WT.tk 63 h7bi rfl rfl (.bool false) (fun _ _ => by kernel_rfl) s7bj (fun a7bk s7bm h7bl => ?_)
   refine WT.sp 64 h7bl rfl rfl s7bm (fun a7bn s7bp h7bo => ?_)
   refine WT.sp 65 h7bo rfl rfl s7bp (fun a7bq s7bs h7br => ?_)
   refine WT.sp 66 h7br rfl rfl s7bs (fun a7bt s7bv h7bu => ?_)
   refine WT.tk 67 h7bu rfl rfl (.bool false) (fun _ _ => by kernel_rfl) s7bv (fun a7bw s7by h7bx => ?_)
   clear h7ax a7aw h7b0 a7az h7b3 a7b2 h7b6 a7b5 h7b9 a7b8 h7bc a7bb h7bf a7be h7bi a7bh h7bl a7bk h7bo a7bn h7br a7bq h7bu a7bt
   refine WT.tk 68 h7bx rfl rfl (.bool false) (fun _ _ => by kernel_rfl) s7by (fun a7bz s7c1 h7c0 => ?_)
   refine WT.dn ?_
   refine wp_ret ?_
   have hS7c2 := hS76o.drop_
   have hS7c3 := hS7c2.drop_
   obtain rfl := Option.some.inj H
   repeat (first | with_reducible refine t1 ?_ | with_reducible refine t2 ?_ | with_reducible refine t3 ?_)
   refine bret (.bool false) h7c0 ?_
   exact ⟨rfl, hS7c3⟩
  ·rw [if_neg c76y] at H
   have hb_ : r76i = false := (Bool.eq_false_iff.2 c76y)
   try rw [hb_] at h76w
   clear hb_
   refine WT.tk 8 h76w rfl rfl (.pointer none) (fun _ _ => by kernel_rfl) s76x (fun a7c4 s7c6 h7c5 => ?_)
   refine WT.tk 9 h7c5 rfl rfl (.int .u32 p0) (fun _ _ => by kernel_rfl) s7c6 (fun a7c7 s7c9 h7c8 => ?_)
   refine WT.tk 10 h7c8 rfl rfl (.slice A1 p1.length c1) (fun _ _ => by kernel_rfl) s7c9 (fun a7ca s7cc h7cb => ?_)
   obtain ⟨r7ce, A7cd, H⟩ := bind1 H
   refine WT.o1 11 h7cb rfl ?_
   refine owp_call [.pointer none, .int .u32 p0, .slice A1 p1.length c1, .bool true] h7cb rfl (by kernel_rfl) rfl Try.func10 (by kernel_rfl) rfl (by kernel_rfl) (turns_Ring_Put_nil.calls k hp1 A7cd hS76o) (fun e7cg W7cf hp7ch => ?_)
   obtain ⟨rfl, hS7ck⟩ := hp7ch
   refine ⟨_, rfl, fun a7ci h7cj => ?_⟩
   refine ⟨.inr ⟨(hS7ck.cells (vs := [.int .u8 1, .int .u32 2]) rfl), trivial⟩, ?_⟩
   refine WT.tk 12 h7cj rfl rfl (.bool (!r7ce)) (fun _ _ => by kernel_rfl) ⟨(hS7ck.cells (vs := [.int .u8 1, .int .u32 2]) rfl), trivial⟩ (fun a7cl s7cn h7cm => ?_)
   refine WT.tk 13 h7cm rfl rfl (.bool (!r7ce)) (fun _ _ => by kernel_rfl) s7cn (fun a7co s7cq h7cp => ?_)
   refine WT.tk 14 h7cp rfl rfl (.bool (!r7ce)) (fun _ _ => by kernel_rfl) s7cq (fun a7cr s7ct h7cs => ?_)
   clear h76w a76v h7c5 a7c4 h7c8 a7c7 h7cb a7ca h7cj a7ci h7cm a7cl h7cp a7co
   by_cases c7cu : r7ce = true
   ·rw [if_pos c7cu] at H
    have hb_ : r7ce = true := c7cu
    try rw [hb_] at h7cs
    clear hb_
    refine WT.sp 15 h7cs rfl rfl s7ct (fun a7cv s7cx h7cw => ?_)
    refine WT.sp 16 h7cw rfl rfl s7cx (fun a7cy s7d0 h7cz => ?_)
    refine WT.tk 17 h7cz rfl rfl (.bool false) (fun _ _ => by kernel_rfl) s7d0 (fun a7d1 s7d3 h7d2 => ?_)
    refine WT.tk 18 h7d2 rfl rfl (.bool false) (fun _ _ => by kernel_rfl) s7d3 (fun a7d4 s7d6 h7d5 => ?_)
    refine WT.sp 19 h7d5 rfl rfl s7d6 (fun a7d7 s7d9 h7d8 => ?_)
    refine WT.sp 20 h7d8 rfl rfl s7d9 (fun a7da s7dc h7db => ?_)
    refine WT.sp 21 h7db rfl rfl s7dc (fun a7dd s7df h7de => ?_)
    refine WT.tk 22 h7de rfl rfl (.bool false) (fun _ _ => by kernel_rfl) s7df (fun a7dg s7di h7dh => ?_)
    refine WT.tk 23 h7dh rfl rfl (.bool false) (fun _ _ => by kernel_rfl) s7di (fun a7dj s7dl h7dk => ?_)
    refine WT.sp 24 h7dk rfl rfl s7dl (fun a7dm s7do h7dn => ?_)
    refine WT.sp 25 h7dn rfl rfl s7do (fun a7dp s7dr h7dq => ?_)
    refine WT.tk 26 h7dq rfl rfl (.bool false) (fun _ _ => by kernel_rfl) s7dr (fun a7ds s7du h7dt => ?_)
    clear h7cs a7cr h7cw a7cv h7cz a7cy h7d2 a7d1 h7d5 a7d4 h7d8 a7d7 h7db a7da h7de a7dd h7dh a7dg h7dk a7dj h7dn a7dm h7dq a7dp
    refine WT.tk 27 h7dt rfl rfl (.bool false) (fun _ _ => by kernel_rfl) s7du (fun a7dv s7dx h7dw => ?_)
    refine WT.sp 28 h7dw rfl rfl s7dx (fun a7dy s7e0 h7dz => ?_)
    refine WT.sp 29 h7dz rfl rfl s7e0 (fun a7e1 s7e3 h7e2 => ?_)
    refine WT.tk 30 h7e2 rfl rfl (.bool false) (fun _ _ => by kernel_rfl) s7e3 (fun a7e4 s7e6 h7e5 => ?_)
    refine WT.tk 31 h7e5 rfl rfl (.bool false) (fun _ _ => by kernel_rfl) s7e6 (fun a7e7 s7e9 h7e8 => ?_)
    refine WT.sp 32 h7e8 rfl rfl s7e9 (fun a7ea s7ec h7eb => ?_)
    refine WT.sp 33 h7eb rfl rfl s7ec (fun a7ed s7ef h7ee => ?_)
    refine WT.sp 34 h7ee rfl rfl s7ef (fun a7eg s7ei h7eh => ?_)
    refine WT.sp 35 h7eh rfl rfl s7ei (fun a7ej s7el h7ek => ?_)
    refine WT.sp 36 h7ek rfl rfl s7el (fun a7em s7eo h7en => ?_)
    refine WT.sp 37 h7en rfl rfl s7eo (fun a7ep s7er h7eq => ?_)
    refine WT.tk 38 h7eq rfl rfl (.bool false) (fun _ _ => by kernel_rfl) s7er (fun a7es s7eu h7et => ?_)
    clear h7dt a7ds h7dw a7dv h7dz a7dy h7e2 a7e1 h7e5 a7e4 h7e8 a7e7 h7eb a7ea h7ee a7ed h7eh a7eg h7ek a7ej h7en a7em h7eq a7ep
    refine WT.tk 39 h7et rfl rfl (.bool false) (fun _ _ => by kernel_rfl) s7eu (fun a7ev s7ex h7ew => ?_)
    refine WT.sp 40 h7ew rfl rfl s7ex (fun a7ey s7f0 h7ez => ?_)
    refine WT.sp 41 h7ez rfl rfl s7f0 (fun a7f1 s7f3 h7f2 => ?_)
    refine WT.sp 42 h7f2 rfl rfl s7f3 (fun a7f4 s7f6 h7f5 => ?_)
    refine WT.sp 43 h7f5 rfl rfl s7f6 (fun a7f7 s7f9 h7f8 => ?_)
    refine WT.sp 44 h7f8 rfl rfl s7f9 (fun a7fa s7fc h7fb => ?_)
    refine WT.tk 45 h7fb rfl rfl (.bool false) (fun _ _ => by kernel_rfl) s7fc (fun a7fd s7ff h7fe => ?_)
    refine WT.tk 46 h7fe rfl rfl (.bool false) (fun _ _ => by kernel_rfl) s7ff (fun a7fg s7fi h7fh => ?_)
    refine WT.sp 47 h7fh rfl rfl s7fi (fun a7fj s7fl h7fk => ?_)
    refine WT.sp 48 h7fk rfl rfl s7fl (fun a7fm s7fo h7fn => ?_)
    refine WT.sp 49 h7fn rfl rfl s7fo (fun a7fp s7fr h7fq => ?_)
    refine WT.sp 50 h7fq rfl rfl s7fr (fun a7fs s7fu h7ft => ?_)
    clear h7et a7es h7ew a7ev h7ez a7ey h7f2 a7f1 h7f5 a7f4 h7f8 a7f7 h7fb a7fa h7fe a7fd h7fh a7fg h7fk a7fj h7fn a7fm h7fq a7fp
    refine WT.tk 51 h7ft rfl rfl (.bool false) (fun _ _ => by kernel_rfl) s7fu (fun a7fv s7fx h7fw => ?_)
    refine WT.tk 52 h7fw rfl rfl (.bool false) (fun _ _ => by kernel_rfl) s7fx (fun a7fy s7g0 h7fz => ?_)
    refine WT.sp 53 h7fz rfl rfl s7g0 (fun a7g1 s7g3 h7g2 => ?_)
    refine WT.sp 54 h7g2 rfl rfl s7g3 (fun a7g4 s7g6 h7g5 => ?_)
    refine WT.sp 55 h7g5 rfl rfl s7g6 (fun a7g7 s7g9 h7g8 => ?_)
    refine WT.sp 56 h7g8 rfl rfl s7g9 (fun a7ga s7gc h7gb => ?_)
    refine WT.tk 57 h7gb rfl rfl (.bool false) (fun _ _ => by kernel_rfl) s7gc (fun a7gd s7gf h7ge => ?_)
    refine WT.tk 58 h7ge rfl rfl (.bool false) (fun _ _ => by kernel_rfl) s7gf (fun a7gg s7gi h7gh => ?_)
    refine WT.sp 59 h7gh rfl rfl s7gi (fun a7gj s7gl h7gk => ?_)
    refine WT.sp 60 h7gk rfl rfl s7gl (fun a7gm s7go h7gn => ?_)
    refine WT.sp 61 h7gn rfl rfl s7go (fun a7gp s7gr h7gq => ?_)
    refine WT.tk 62 h7gq rfl rfl (.bool false) (fun _ _ => by kernel_rfl) s7gr (fun a7gs s7gu h7gt => ?_)
    clear h7ft a7fs h7fw a7fv h7fz a7fy h7g2 a7g1 h7g5 a7g4 h7g8 a7g7 h7gb a7ga h7ge a7gd h7gh a7gg h7gk a7gj h7gn a7gm h7gq a7gp
    refine WT.tk 63 h7gt rfl rfl (.bool false) (fun _ _ => by kernel_rfl) s7gu (fun a7gv s7gx h7gw => ?_)
    refine WT.sp 64 h7gw rfl rfl s7gx (fun a7gy s7h0 h7gz => ?_)
    refine WT.sp 65 h7gz rfl rfl s7h0 (fun a7h1 s7h3 h7h2 => ?_)
    refine WT.sp 66 h7h2 rfl rfl s7h3 (fun a7h4 s7h6 h7h5 => ?_)
    refine WT.tk 67 h7h5 rfl rfl (.bool false) (fun _ _ => by kernel_rfl) s7h6 (fun a7h7 s7h9 h7h8 => ?_)
    refine WT.tk 68 h7h8 rfl rfl (.bool false) (fun _ _ => by kernel_rfl) s7h9 (fun a7ha s7hc h7hb => ?_)
    refine WT.dn ?_
    refine wp_ret ?_
    have hS7hd := hS7ck.drop_
    have hS7he := hS7hd.drop_
    obtain rfl := Option.some.inj H
    repeat (first | with_reducible refine t1 ?_ | with_reducible refine t2 ?_ | with_reducible refine t3 ?_)
    refine bret (.bool false) h7hb ?_
    exact ⟨rfl, hS7he⟩
   ·rw [if_neg c7cu] at H
    have hb_ : r7ce = false := (Bool.eq_false_iff.2 c7cu)
    try rw [hb_] at h7cs
    clear hb_
    refine WT.tk 15 h7cs rfl rfl (.int .u32 r4pf) (fun _ _ => by kernel_rfl) s7ct (fun a7hf s7hh h7hg => ?_)
    refine WT.tk 16 h7hg rfl rfl (.bool (decide (r4pf = 0))) (fun _ _ => by kernel_rfl) s7hh (fun a7hi s7hk h7hj => ?_)
    refine WT.tk 17 h7hj rfl rfl (.bool (decide (r4pf = 0))) (fun _ _ => by kernel_rfl) s7hk (fun a7hl s7hn h7hm => ?_)
    refine WT.tk 18 h7hm rfl rfl (.bool (decide (r4pf = 0))) (fun _ _ => by kernel_rfl) s7hn (fun a7ho s7hq h7hp => ?_)
    clear h7cs a7cr h7hg a7hf h7hj a7hi h7hm a7hl
    by_cases c7hr : r4pf = 0
    ·rw [if_pos c7hr] at H
     have hb_ : (decide (r4pf = 0)) = true := decide_eq_true c7hr
     try rw [hb_] at h7hp
     clear hb_
     refine WT.tk 19 h7hp rfl rfl (.slice A4ps r4pg.length c4pt) (fun _ _ => by kernel_rfl) s7hq (fun a7hs s7hu h7ht => ?_)
     refine WT.tk 20 h7ht rfl rfl (i6 (r4pg.length : Int)) (fun _ _ => by kernel_rfl) s7hu (fun a7hv s7hx h7hw => ?_)
     refine WT.tk 21 h7hw rfl rfl (.bool (decide ((r4pg.length : Int) = 0))) (fun _ _ => by kernel_rfl) s7hx (fun a7hy s7i0 h7hz => ?_)
     refine WT.tk 22 h7hz rfl rfl (.bool (decide ((r4pg.length : Int) = 0))) (fun _ _ => by kernel_rfl) s7i0 (fun a7i1 s7i3 h7i2 => ?_)
     refine WT.tk 23 h7i2 rfl rfl (.bool (decide ((r4pg.length : Int) = 0))) (fun _ _ => by kernel_rfl) s7i3 (fun a7i4 s7i6 h7i5 => ?_)
     clear h7hp a7ho h7ht a7hs h7hw a7hv h7hz a7hy h7i2 a7i1
     by_cases c7i7 : (r4pg.length : Int) = 0
     ·rw [if_pos c7i7] at H
      have hb_ : (decide ((r4pg.length : Int) = 0)) = true := decide_eq_true c7i7
      try rw [hb_] at h7i5
      clear hb_
      refine WT.tk 24 h7i5 rfl rfl (.bool r4ph) (fun _ _ => by kernel_rfl) s7i6 (fun a7i8 s7ia h7i9 => ?_)
      refine WT.tk 25 h7i9 rfl rfl (.bool (!r4ph)) (fun _ _ => by kernel_rfl) s7ia (fun a7ib s7id h7ic => ?_)
      refine WT.tk 26 h7ic rfl rfl (.bool (!r4ph)) (fun _ _ => by kernel_rfl) s7id (fun a7ie s7ig h7if => ?_)
      refine WT.tk 27 h7if rfl rfl (.bool (!r4ph)) (fun _ _ => by kernel_rfl) s7ig (fun a7ih s7ij h7ii => ?_)
      clear h7i5 a7i4 h7i9 a7i8 h7ic a7ib h7if a7ie
      by_cases c7ik : r4ph = true
      ·rw [if_pos c7ik] at H
       have hb_ : r4ph = true := c7ik
       try rw [hb_] at h7ii
       clear hb_
       refine WT.sp 28 h7ii rfl rfl s7ij (fun a7il s7in h7im => ?_)
       refine WT.sp 29 h7im rfl rfl s7in (fun a7io s7iq h7ip => ?_)
       refine WT.tk 30 h7ip rfl rfl (.bool false) (fun _ _ => by kernel_rfl) s7iq (fun a7ir s7it h7is => ?_)
       refine WT.tk 31 h7is rfl rfl (.bool false) (fun _ _ => by kernel_rfl) s7it (fun a7iu s7iw h7iv => ?_)
       refine WT.sp 32 h7iv rfl rfl s7iw (fun a7ix s7iz h7iy => ?_)
       refine WT.sp 33 h7iy rfl rfl s7iz (fun a7j0 s7j2 h7j1 => ?_)
       refine WT.sp 34 h7j1 rfl rfl s7j2 (fun a7j3 s7j5 h7j4 => ?_)
       refine WT.sp 35 h7j4 rfl rfl s7j5 (fun a7j6 s7j8 h7j7 => ?_)
       refine WT.sp 36 h7j7 rfl rfl s7j8 (fun a7j9 s7jb h7ja => ?_)
       refine WT.sp 37 h7ja rfl rfl s7jb (fun a7jc s7je h7jd => ?_)
       refine WT.tk 38 h7jd rfl rfl (.bool false) (fun _ _ => by kernel_rfl) s7je (fun a7jf s7jh h7jg => ?_)
       refine WT.tk 39 h7jg rfl rfl (.bool false) (fun _ _ => by kernel_rfl) s7jh (fun a7ji s7jk h7jj => ?_)
       clear h7ii a7ih h7im a7il h7ip a7io h7is a7ir h7iv a7iu h7iy a7ix h7j1 a7j0 h7j4 a7j3 h7j7 a7j6 h7ja a7j9 h7jd a7jc h7jg a7jf
       refine WT.sp 40 h7jj rfl rfl s7jk (fun a7jl s7jn h7jm => ?_)
       refine WT.sp 41 h7jm rfl rfl s7jn (fun a7jo s7jq h7jp => ?_)
       refine WT.sp 42 h7jp rfl rfl s7jq (fun a7jr s7jt h7js => ?_)
       refine WT.sp 43 h7js rfl rfl s7jt (fun a7ju s7jw h7jv => ?_)
       refine WT.sp 44 h7jv rfl rfl s7jw (fun a7jx s7jz h7jy => ?_)
       refine WT.tk 45 h7jy rfl rfl (.bool false) (fun _ _ => by kernel_rfl) s7jz (fun a7k0 s7k2 h7k1 => ?_)
       refine WT.tk 46 h7k1 rfl rfl (.bool false) (fun _ _ => by kernel_rfl) s7k2 (fun a7k3 s7k5 h7k4 => ?_)
       refine WT.sp 47 h7k4 rfl rfl s7k5 (fun a7k6 s7k8 h7k7 => ?_)
       refine WT.sp 48 h7k7 rfl rfl s7k8 (fun a7k9 s7kb h7ka => ?_)
       refine WT.sp 49 h7ka rfl rfl s7kb (fun a7kc s7ke h7kd => ?_)
       refine WT.sp 50 h7kd rfl rfl s7ke (fun a7kf s7kh h7kg => ?_)
       refine WT.tk 51 h7kg rfl rfl (.bool false) (fun _ _ => by kernel_rfl) s7kh (fun a7ki s7kk h7kj => ?_)
       clear h7jj a7ji h7jm a7jl h7jp a7jo h7js a7jr h7jv a7ju h7jy a7jx h7k1 a7k0 h7k4 a7k3 h7k7 a7k6 h7ka a7k9 h7kd a7kc h7kg a7kf
       refine WT.tk 52 h7kj rfl rfl (.bool false) (fun _ _ => by kernel_rfl) s7kk (fun a7kl s7kn h7km => ?_)
       refine WT.sp 53 h7km rfl rfl s7kn (fun a7ko s7kq h7kp => ?_)
       refine WT.sp 54 h7kp rfl rfl s7kq (fun a7kr s7kt h7ks => ?_)
       refine WT.sp 55 h7ks rfl rfl s7kt (fun a7ku s7kw h7kv => ?_)
       refine WT.sp 56 h7kv rfl rfl s7kw (fun a7kx s7kz h7ky => ?_)
       refine WT.tk 57 h7ky rfl rfl (.bool false) (fun _ _ => by kernel_rfl) s7kz (fun a7l0 s7l2 h7l1 => ?_)
       refine WT.tk 58 h7l1 rfl rfl (.bool false) (fun _ _ => by kernel_rfl) s7l2 (fun a7l3 s7l5 h7l4 => ?_)
       refine WT.sp 59 h7l4 rfl rfl s7l5 (fun a7l6 s7l8 h7l7 => ?_)
       refine WT.sp 60 h7l7 rfl rfl s7l8 (fun a7l9 s7lb h7la => ?_)
       refine WT.sp 61 h7la rfl rfl s7lb (fun a7lc s7le h7ld => ?_)
       refine WT.tk 62 h7ld rfl rfl (.bool false) (fun _ _ => by kernel_rfl) s7le (fun a7lf s7lh h7lg => ?_)
       refine WT.tk 63 h7lg rfl rfl (.bool false) (fun _ _ => by kernel_rfl) s7lh (fun a7li s7lk h7lj => ?_)
       clear h7kj a7ki h7km a7kl h7kp a7ko h7ks a7kr h7kv a7ku h7ky a7kx h7l1 a7l0 h7l4 a7l3 h7l7 a7l6 h7la a7l9 h7ld a7lc h7lg a7lf
       refine WT.sp 64 h7lj rfl rfl s7lk (fun a7ll s7ln h7lm => ?_)
       refine WT.sp 65 h7lm rfl rfl s7ln (fun a7lo s7lq h7lp => ?_)
       refine WT.sp 66 h7lp rfl rfl s7lq (fun a7lr s7lt h7ls => ?_)
       refine WT.tk 67 h7ls rfl rfl (.bool false) (fun _ _ => by kernel_rfl) s7lt (fun a7lu s7lw h7lv => ?_)
       refine WT.tk 68 h7lv rfl rfl (.bool false) (fun _ _ => by kernel_rfl) s7lw (fun a7lx s7lz h7ly => ?_)
       refine WT.dn ?_
       refine wp_ret ?_
       have hS7m0 := hS7ck.drop_
       have hS7m1 := hS7m0.drop_
       obtain rfl := Option.some.inj H
       repeat (first | with_reducible refine t1 ?_ | with_reducible refine t2 ?_ | with_reducible refine t3 ?_)
       refine bret (.bool false) h7ly ?_
       exact ⟨rfl, hS7m1⟩
      ·rw [if_neg c7ik] at H
       have hb_ : r4ph = false := (Bool.eq_false_iff.2 c7ik)
       try rw [hb_] at h7ii
       clear hb_
       refine WT.tk 28 h7ii rfl rfl (.bool r4pi) (fun _ _ => by kernel_rfl) s7ij (fun a7m2 s7m4 h7m3 => ?_)
       refine WT.tk 29 h7m3 rfl rfl (.bool (!r4pi)) (fun _ _ => by kernel_rfl) s7m4 (fun a7m5 s7m7 h7m6 => ?_)
       refine WT.tk 30 h7m6 rfl rfl (.bool (!r4pi)) (fun _ _ => by kernel_rfl) s7m7 (fun a7m8 s7ma h7m9 => ?_)
       refine WT.tk 31 h7m9 rfl rfl (.bool (!r4pi)) (fun _ _ => by kernel_rfl) s7ma (fun a7mb s7md h7mc => ?_)
       clear h7ii a7ih h7m3 a7m2 h7m6 a7m5 h7m9 a7m8
       by_cases c7me : r4pi = true
       ·rw [if_pos c7me] at H
        have hb_ : r4pi = true := c7me
        try rw [hb_] at h7mc
        clear hb_
        refine WT.sp 32 h7mc rfl rfl s7md (fun a7mf s7mh h7mg => ?_)
        refine WT.sp 33 h7mg rfl rfl s7mh (fun a7mi s7mk h7mj => ?_)
        refine WT.sp 34 h7mj rfl rfl s7mk (fun a7ml s7mn h7mm => ?_)
        refine WT.sp 35 h7mm rfl rfl s7mn (fun a7mo s7mq h7mp => ?_)
        refine WT.sp 36 h7mp rfl rfl s7mq (fun a7mr s7mt h7ms => ?_)
        refine WT.sp 37 h7ms rfl rfl s7mt (fun a7mu s7mw h7mv => ?_)
        refine WT.tk 38 h7mv rfl rfl (.bool false) (fun _ _ => by kernel_rfl) s7mw (fun a7mx s7mz h7my => ?_)
        refine WT.tk 39 h7my rfl rfl (.bool false) (fun _ _ => by kernel_rfl) s7mz (fun a7n0 s7n2 h7n1 => ?_)
        refine WT.sp 40 h7n1 rfl rfl s7n2 (fun a7n3 s7n5 h7n4 => ?_)
        refine WT.sp 41 h7n4 rfl rfl s7n5 (fun a7n6 s7n8 h7n7 => ?_)
        refine WT.sp 42 h7n7 rfl rfl s7n8 (fun a7n9 s7nb h7na => ?_)
        refine WT.sp 43 h7na rfl rfl s7nb (fun a7nc s7ne h7nd => ?_)
        clear h7mc a7mb h7mg a7mf h7mj a7mi h7mm a7ml h7mp a7mo h7ms a7mr h7mv a7mu h7my a7mx h7n1 a7n0 h7n4 a7n3 h7n7 a7n6 h7na a7n9
        refine WT.sp 44 h7nd rfl rfl s7ne (fun a7nf s7nh h7ng => ?_)
        refine WT.tk 45 h7ng rfl rfl (.bool false) (fun _ _ => by kernel_rfl) s7nh (fun a7ni s7nk h7nj => ?_)
        refine WT.tk 46 h7nj rfl rfl (.bool false) (fun _ _ => by kernel_rfl) s7nk (fun a7nl s7nn h7nm => ?_)
        refine WT.sp 47 h7nm rfl rfl s7nn (fun a7no s7nq h7np => ?_)
        refine WT.sp 48 h7np rfl rfl s7nq (fun a7nr s7nt h7ns => ?_)
        refine WT.sp 49 h7ns rfl rfl s7nt (fun a7nu s7nw h7nv => ?_)
        refine WT.sp 50 h7nv rfl rfl s7nw (fun a7nx s7nz h7ny => ?_)
        refine WT.tk 51 h7ny rfl rfl (.bool false) (fun _ _ => by kernel_rfl) s7nz (fun a7o0 s7o2 h7o1 => ?_)
        refine WT.tk 52 h7o1 rfl rfl (.bool false) (fun _ _ => by kernel_rfl) s7o2 (fun a7o3 s7o5 h7o4 => ?_)
        refine WT.sp 53 h7o4 rfl rfl s7o5 (fun a7o6 s7o8 h7o7 => ?_)
        refine WT.sp 54 h7o7 rfl rfl s7o8 (fun a7o9 s7ob h7oa => ?_)
        refine WT.sp 55 h7oa rfl rfl s7ob (fun a7oc s7oe h7od => ?_)
        clear h7nd a7nc h7ng a7nf h7nj a7ni h7nm a7nl h7np a7no h7ns a7nr h7nv a7nu h7ny a7nx h7o1 a7o0 h7o4 a7o3 h7o7 a7o6 h7oa a7o9
        refine WT.sp 56 h7od rfl rfl s7oe (fun a7of s7oh h7og => ?_)
        refine WT.tk 57 h7og rfl rfl (.bool false) (fun _ _ => by kernel_rfl) s7oh (fun a7oi s7ok h7oj => ?_)
        refine WT.tk 58 h7oj rfl rfl (.bool false) (fun _ _ => by kernel_rfl) s7ok (fun a7ol s7on h7om => ?_)
        refine WT.sp 59 h7om rfl rfl s7on (fun a7oo s7oq h7op => ?_)
        refine WT.sp 60 h7op rfl rfl s7oq (fun a7or s7ot h7os => ?_)
        refine WT.sp 61 h7os rfl rfl s7ot (fun a7ou s7ow h7ov => ?_)
        refine WT.tk 62 h7ov rfl rfl (.bool false) (fun _ _ => by kernel_rfl) s7ow (fun a7ox s7oz h7oy => ?_)
        refine WT.tk 63 h7oy rfl rfl (.bool false) (fun _ _ => by kernel_rfl) s7oz (fun a7p0 s7p2 h7p1 => ?_)
        refine WT.sp 64 h7p1 rfl rfl s7p2 (fun a7p3 s7p5 h7p4 => ?_)
        refine WT.sp 65 h7p4 rfl rfl s7p5 (fun a7p6 s7p8 h7p7 => ?_)
        refine WT.sp 66 h7p7 rfl rfl s7p8 (fun a7p9 s7pb h7pa => ?_)
        refine WT.tk 67 h7pa rfl rfl (.bool false) (fun _ _ => by kernel_rfl) s7pb (fun a7pc s7pe h7pd => ?_)
        clear h7od a7oc h7og a7of h7oj a7oi h7om a7ol h7op a7oo h7os a7or h7ov a7ou h7oy a7ox h7p1 a7p0 h7p4 a7p3 h7p7 a7p6 h7pa a7p9
        refine WT.tk 68 h7pd rfl rfl (.bool false) (fun _ _ => by kernel_rfl) s7pe (fun a7pf s7ph h7pg => ?_)
        refine WT.dn ?_
        refine wp_ret ?_
        have hS7pi := hS7ck.drop_
        have hS7pj := hS7pi.drop_
        obtain rfl := Option.some.inj H
        repeat (first | with_reducible refine t1 ?_ | with_reducible refine t2 ?_ | with_reducible refine t3 ?_)
        refine bret (.bool false) h7pg ?_
        exact ⟨rfl, hS7pj⟩
       ·rw [if_neg c7me] at H
        have hb_ : r4pi = false := (Bool.eq_false_iff.2 c7me)
        try rw [hb_] at h7mc
        clear hb_
        refine WT.tk 32 h7mc rfl rfl (.pointer none) (fun _ _ => by kernel_rfl) s7md (fun a7pk s7pm h7pl => ?_)
        refine WT.tk 33 h7pl rfl rfl (.int .u32 p0) (fun _ _ => by kernel_rfl) s7pm (fun a7pn s7pp h7po => ?_)
        refine WT.tk 34 h7po rfl rfl (.int .u32 p2) (fun _ _ => by kernel_rfl) s7pp (fun a7pq s7ps h7pr => ?_)
        refine WT.tk 36 h7pr rfl rfl (.agg #[.int .u8 1, .int .u32 2]) (fun w_ hs_ => (run_loadN rfl rfl Try.underlying50 rfl (cs := [.int .u8 1, .int .u32 2]) (by kernel_rfl) hs_.1)) s7ps (fun a7pt s7pv h7pu => ?_)
        obtain ⟨r7px, A7pw, H⟩ := bind1 H
        refine WT.o1 35 h7pu rfl ?_
        refine owp_call [.pointer none, .int .u32 p0, .int .u32 p2] h7pu rfl (by kernel_rfl) rfl Try.func19 (by kernel_rfl) rfl (by kernel_rfl) (turns_Ring_Grow_nil.calls k  A7pw hS7ck) (fun e7pz W7py hp7q0 => ?_)
        obtain ⟨rfl, hS7q3⟩ := hp7q0
        refine ⟨_, rfl, fun a7q1 h7q2 => ?_⟩
        refine ⟨.inr ⟨(hS7q3.cells (vs := [.int .u8 1, .int .u32 2]) rfl), trivial⟩, ?_⟩
        refine WT.tk 37 h7q2 rfl rfl (.bool (decide (r7px.f0 = 1) && decide (r7px.f1 = 2))) (fun w_ hs_ => (run_steq (xs := [.int .u8 r7px.f0, .int .u32 r7px.f1]) (ys := [.int .u8 1, .int .u32 2]) rfl rfl rfl (by kernel_rfl) (eqs_of Try.underlying50 (by kernel_rfl) (eqf_cons rfl (by kernel_rfl) rfl rfl (eqi_int Try.underlying5) (eqf_last rfl (by kernel_rfl) rfl rfl (eqi_int Try.underlying25)))))) ⟨(hS7q3.cells (vs := [.int .u8 1, .int .u32 2]) rfl), trivial⟩ (fun a7q4 s7q6 h7q5 => ?_)
        refine WT.tk 38 h7q5 rfl rfl (.bool (decide (r7px.f0 = 1) && decide (r7px.f1 = 2))) (fun _ _ => by kernel_rfl) s7q6 (fun a7q7 s7q9 h7q8 => ?_)
        refine WT.tk 39 h7q8 rfl rfl (.bool (decide (r7px.f0 = 1) && decide (r7px.f1 = 2))) (fun _ _ => by kernel_rfl) s7q9 (fun a7qa s7qc h7qb => ?_)
        clear h7mc a7mb h7pl a7pk h7po a7pn h7pr a7pq h7pu a7pt h7q2 a7q1 h7q5 a7q4 h7q8 a7q7
        by_cases c7qd : (decide (r7px.f0 = 1) && decide (r7px.f1 = 2)) = true
        ·rw [if_pos c7qd] at H
         have hb_ : (decide (r7px.f0 = 1) && decide (r7px.f1 = 2)) = true := c7qd
         try rw [hb_] at h7qb
         clear hb_
         refine WT.tk 40 h7qb rfl rfl (.pointer none) (fun _ _ => by kernel_rfl) s7qc (fun a7qe s7qg h7qf => ?_)
         refine WT.tk 41 h7qf rfl rfl (.int .u32 p2) (fun _ _ => by kernel_rfl) s7qg (fun a7qh s7qj h7qi => ?_)
         refine WT.tk 43 h7qi rfl rfl (.agg #[.int .u8 1, .int .u32 2]) (fun w_ hs_ => (run_loadN rfl rfl Try.underlying50 rfl (cs := [.int .u8 1, .int .u32 2]) (by kernel_rfl) hs_.1)) s7qj (fun a7qk s7qm h7ql => ?_)
         obtain ⟨r7qo, A7qn, H⟩ := bind1 H
         refine WT.o1 42 h7ql rfl ?_
         refine owp_call [.pointer none, .int .u32 p2, .int .u32 5] h7ql rfl (by kernel_rfl) rfl Try.func26 (by kernel_rfl) rfl (by kernel_rfl) (turns_Ring_Shift_nil.calls  A7qn hS7q3) (fun e7qq W7qp hp7qr => ?_)
         obtain ⟨rfl, hS7qu⟩ := hp7qr
         refine ⟨_, rfl, fun a7qs h7qt => ?_⟩
         refine ⟨.inr ⟨(hS7qu.cells (vs := [.int .u8 1, .int .u32 2]) rfl), trivial⟩, ?_⟩
         refine WT.tk 44 h7qt rfl rfl (.bool (decide (r7qo.f0 = 1) && decide (r7qo.f1 = 2))) (fun w_ hs_ => (run_steq (xs := [.int .u8 r7qo.f0, .int .u32 r7qo.f1]) (ys := [.int .u8 1, .int .u32 2]) rfl rfl rfl (by kernel_rfl) (eqs_of Try.underlying50 (by kernel_rfl) (eqf_cons rfl (by kernel_rfl) rfl rfl (eqi_int Try.underlying5) (eqf_last rfl (by kernel_rfl) rfl rfl (eqi_int Try.underlying25)))))) ⟨(hS7qu.cells (vs := [.int .u8 1, .int .u32 2]) rfl), trivial⟩ (fun a7qv s7qx h7qw => ?_)
         refine WT.tk 45 h7qw rfl rfl (.bool (decide (r7qo.f0 = 1) && decide (r7qo.f1 = 2))) (fun _ _ => by kernel_rfl) s7qx (fun a7qy s7r0 h7qz => ?_)
         refine WT.tk 46 h7qz rfl rfl (.bool (decide (r7qo.f0 = 1) && decide (r7qo.f1 = 2))) (fun _ _ => by kernel_rfl) s7r0 (fun a7r1 s7r3 h7r2 => ?_)
         clear h7qb a7qa h7qf a7qe h7qi a7qh h7ql a7qk h7qt a7qs h7qw a7qv h7qz a7qy
         by_cases c7r4 : (decide (r7qo.f0 = 1) && decide (r7qo.f1 = 2)) = true
         ·rw [if_pos c7r4] at H
          have hb_ : (decide (r7qo.f0 = 1) && decide (r7qo.f1 = 2)) = true := c7r4
          try rw [hb_] at h7r2
          clear hb_
          refine WT.tk 47 h7r2 rfl rfl (.pointer none) (fun _ _ => by kernel_rfl) s7r3 (fun a7r5 s7r7 h7r6 => ?_)
          refine WT.tk 48 h7r6 rfl rfl (.int .u32 p0) (fun _ _ => by kernel_rfl) s7r7 (fun a7r8 s7ra h7r9 => ?_)
          obtain ⟨r7rc, A7rb, H⟩ := bind1 H
          refine WT.o1 49 h7r9 rfl ?_
          refine owp_call [.pointer none, .int .u32 p0] h7r9 rfl (by kernel_rfl) rfl Try.func13 (by kernel_rfl) rfl (by kernel_rfl) (turns_Ring_Waits_nil.calls k  A7rb hS7qu) (fun e7re W7rd hp7rf => ?_)
          obtain ⟨rfl, hS7ri⟩ := hp7rf
          refine ⟨_, rfl, fun a7rg h7rh => ?_⟩
          refine ⟨.inr ⟨(hS7ri.cells (vs := [.int .u8 1, .int .u32 2]) rfl), trivial⟩, ?_⟩
          refine WT.tk 50 h7rh rfl rfl (.bool (decide (r7rc = 0))) (fun _ _ => by kernel_rfl) ⟨(hS7ri.cells (vs := [.int .u8 1, .int .u32 2]) rfl), trivial⟩ (fun a7rj s7rl h7rk => ?_)
          refine WT.tk 51 h7rk rfl rfl (.bool (decide (r7rc = 0))) (fun _ _ => by kernel_rfl) s7rl (fun a7rm s7ro h7rn => ?_)
          refine WT.tk 52 h7rn rfl rfl (.bool (decide (r7rc = 0))) (fun _ _ => by kernel_rfl) s7ro (fun a7rp s7rr h7rq => ?_)
          clear h7r2 a7r1 h7r6 a7r5 h7r9 a7r8 h7rh a7rg h7rk a7rj h7rn a7rm
          by_cases c7rs : r7rc = 0
          ·rw [if_pos c7rs] at H
           have hb_ : (decide (r7rc = 0)) = true := decide_eq_true c7rs
           try rw [hb_] at h7rq
           clear hb_
           refine WT.tk 53 h7rq rfl rfl (.pointer none) (fun _ _ => by kernel_rfl) s7rr (fun a7rt s7rv h7ru => ?_)
           refine WT.tk 54 h7ru rfl rfl (.int .u32 p0) (fun _ _ => by kernel_rfl) s7rv (fun a7rw s7ry h7rx => ?_)
           obtain ⟨r7s0, A7rz, H⟩ := bind1 H
           refine WT.o1 55 h7rx rfl ?_
           refine owp_call [.pointer none, .int .u32 p0] h7rx rfl (by kernel_rfl) rfl Try.func24 (by kernel_rfl) rfl (by kernel_rfl) (turns_Ring_Left_nil.calls k  A7rz hS7ri) (fun e7s2 W7s1 hp7s3 => ?_)
           obtain ⟨rfl, hS7s6⟩ := hp7s3
           refine ⟨_, rfl, fun a7s4 h7s5 => ?_⟩
           refine ⟨.inr ⟨(hS7s6.cells (vs := [.int .u8 1, .int .u32 2]) rfl), trivial⟩, ?_⟩
           refine WT.tk 56 h7s5 rfl rfl (.bool (decide (r7s0 = 0))) (fun _ _ => by kernel_rfl) ⟨(hS7s6.cells (vs := [.int .u8 1, .int .u32 2]) rfl), trivial⟩ (fun a7s7 s7s9 h7s8 => ?_)
           refine WT.tk 57 h7s8 rfl rfl (.bool (decide (r7s0 = 0))) (fun _ _ => by kernel_rfl) s7s9 (fun a7sa s7sc h7sb => ?_)
           refine WT.tk 58 h7sb rfl rfl (.bool (decide (r7s0 = 0))) (fun _ _ => by kernel_rfl) s7sc (fun a7sd s7sf h7se => ?_)
           clear h7rq a7rp h7ru a7rt h7rx a7rw h7s5 a7s4 h7s8 a7s7 h7sb a7sa
           by_cases c7sg : r7s0 = 0
           ·rw [if_pos c7sg] at H
            have hb_ : (decide (r7s0 = 0)) = true := decide_eq_true c7sg
            try rw [hb_] at h7se
            clear hb_
            refine WT.tk 59 h7se rfl rfl (.pointer none) (fun _ _ => by kernel_rfl) s7sf (fun a7sh s7sj h7si => ?_)
            obtain ⟨r7sl, A7sk, H⟩ := bind1 H
            refine WT.o1 60 h7si rfl ?_
            refine owp_call [.pointer none] h7si rfl (by kernel_rfl) rfl Try.func15 (by kernel_rfl) rfl (by kernel_rfl) (turns_Ring_All_nil.calls  A7sk hS7s6) (fun e7sn W7sm hp7so => ?_)
            obtain ⟨rfl, hS7sr⟩ := hp7so
            refine ⟨_, rfl, fun a7sp h7sq => ?_⟩
            refine ⟨.inr ⟨(hS7sr.cells (vs := [.int .u8 1, .int .u32 2]) rfl), trivial⟩, ?_⟩
            refine WT.tk 61 h7sq rfl rfl (.bool (decide (r7sl = 0))) (fun _ _ => by kernel_rfl) ⟨(hS7sr.cells (vs := [.int .u8 1, .int .u32 2]) rfl), trivial⟩ (fun a7ss s7su h7st => ?_)
            refine WT.tk 62 h7st rfl rfl (.bool (decide (r7sl = 0))) (fun _ _ => by kernel_rfl) s7su (fun a7sv s7sx h7sw => ?_)
            refine WT.tk 63 h7sw rfl rfl (.bool (decide (r7sl = 0))) (fun _ _ => by kernel_rfl) s7sx (fun a7sy s7t0 h7sz => ?_)
            clear h7se a7sd h7si a7sh h7sq a7sp h7st a7ss h7sw a7sv
            by_cases c7t1 : r7sl = 0
            ·rw [if_pos c7t1] at H
             have hb_ : (decide (r7sl = 0)) = true := decide_eq_true c7t1
             try rw [hb_] at h7sz
             clear hb_
             refine WT.tk 64 h7sz rfl rfl (.pointer none) (fun _ _ => by kernel_rfl) s7t0 (fun a7t2 s7t4 h7t3 => ?_)
             obtain ⟨r7t6, A7t5, H⟩ := bind1 H
             refine WT.o1 65 h7t3 rfl ?_
             refine owp_call [.pointer none] h7t3 rfl (by kernel_rfl) rfl Try.func14 (by kernel_rfl) rfl (by kernel_rfl) (turns_Ring_Can_nil.calls  A7t5 hS7sr) (fun e7t8 W7t7 hp7t9 => ?_)
             obtain ⟨rfl, hS7tc⟩ := hp7t9
             refine ⟨_, rfl, fun a7ta h7tb => ?_⟩
             refine ⟨.inr ⟨(hS7tc.cells (vs := [.int .u8 1, .int .u32 2]) rfl), trivial⟩, ?_⟩
             refine WT.tk 66 h7tb rfl rfl (.bool (!r7t6)) (fun _ _ => by kernel_rfl) ⟨(hS7tc.cells (vs := [.int .u8 1, .int .u32 2]) rfl), trivial⟩ (fun a7td s7tf h7te => ?_)
             refine WT.tk 67 h7te rfl rfl (.bool (!r7t6)) (fun _ _ => by kernel_rfl) s7tf (fun a7tg s7ti h7th => ?_)
             refine WT.tk 68 h7th rfl rfl (.bool (!r7t6)) (fun _ _ => by kernel_rfl) s7ti (fun a7tj s7tl h7tk => ?_)
             refine WT.dn ?_
             refine wp_ret ?_
             have hS7tm := hS7tc.drop_
             have hS7tn := hS7tm.drop_
             obtain rfl := Option.some.inj H
             repeat (first | with_reducible refine t1 ?_ | with_reducible refine t2 ?_ | with_reducible refine t3 ?_)
             refine bret (.bool (!r7t6)) h7tk ?_
             exact ⟨rfl, hS7tn⟩
            ·rw [if_neg c7t1] at H
             have hb_ : (decide (r7sl = 0)) = false := decide_eq_false c7t1
             try rw [hb_] at h7sz
             clear hb_
             refine WT.sp 64 h7sz rfl rfl s7t0 (fun a7to s7tq h7tp => ?_)
             refine WT.sp 65 h7tp rfl rfl s7tq (fun a7tr s7tt h7ts => ?_)
             refine WT.sp 66 h7ts rfl rfl s7tt (fun a7tu s7tw h7tv => ?_)
             refine WT.tk 67 h7tv rfl rfl (.bool false) (fun _ _ => by kernel_rfl) s7tw (fun a7tx s7tz h7ty => ?_)
             refine WT.tk 68 h7ty rfl rfl (.bool false) (fun _ _ => by kernel_rfl) s7tz (fun a7u0 s7u2 h7u1 => ?_)
             refine WT.dn ?_
             refine wp_ret ?_
             have hS7u3 := hS7sr.drop_
             have hS7u4 := hS7u3.drop_
             obtain rfl := Option.some.inj H
             repeat (first | with_reducible refine t1 ?_ | with_reducible refine t2 ?_ | with_reducible refine t3 ?_)
             refine bret (.bool false) h7u1 ?_
             exact ⟨rfl, hS7u4⟩
           ·rw [if_neg c7sg] at H
            have hb_ : (decide (r7s0 = 0)) = false := decide_eq_false c7sg
            try rw [hb_] at h7se
            clear hb_
            refine WT.sp 59 h7se rfl rfl s7sf (fun a7u5 s7u7 h7u6 => ?_)
            refine WT.sp 60 h7u6 rfl rfl s7u7 (fun a7u8 s7ua h7u9 => ?_)
            refine WT.sp 61 h7u9 rfl rfl s7ua (fun a7ub s7ud h7uc => ?_)
            refine WT.tk 62 h7uc rfl rfl (.bool false) (fun _ _ => by kernel_rfl) s7ud (fun a7ue s7ug h7uf => ?_)
            refine WT.tk 63 h7uf rfl rfl (.bool false) (fun _ _ => by kernel_rfl) s7ug (fun a7uh s7uj h7ui => ?_)
            refine WT.sp 64 h7ui rfl rfl s7uj (fun a7uk s7um h7ul => ?_)
            refine WT.sp 65 h7ul rfl rfl s7um (fun a7un s7up h7uo => ?_)
            refine WT.sp 66 h7uo rfl rfl s7up (fun a7uq s7us h7ur => ?_)
            refine WT.tk 67 h7ur rfl rfl (.bool false) (fun _ _ => by kernel_rfl) s7us (fun a7ut s7uv h7uu => ?_)
            refine WT.tk 68 h7uu rfl rfl (.bool false) (fun _ _ => by kernel_rfl) s7uv (fun a7uw s7uy h7ux => ?_)
            refine WT.dn ?_
            refine wp_ret ?_
            have hS7uz := hS7s6.drop_
            have hS7v0 := hS7uz.drop_
            obtain rfl := Option.some.inj H
            repeat (first | with_reducible refine t1 ?_ | with_reducible refine t2 ?_ | with_reducible refine t3 ?_)
            refine bret (.bool false) h7ux ?_
            exact ⟨rfl, hS7v0⟩
          ·rw [if_neg c7rs] at H
           have hb_ : (decide (r7rc = 0)) = false := decide_eq_false c7rs
           try rw [hb_] at h7rq
           clear hb_
           refine WT.sp 53 h7rq rfl rfl s7rr (fun a7v1 s7v3 h7v2 => ?_)
           refine WT.sp 54 h7v2 rfl rfl s7v3 (fun a7v4 s7v6 h7v5 => ?_)
           refine WT.sp 55 h7v5 rfl rfl s7v6 (fun a7v7 s7v9 h7v8 => ?_)
           refine WT.sp 56 h7v8 rfl rfl s7v9 (fun a7va s7vc h7vb => ?_)
           refine WT.tk 57 h7vb rfl rfl (.bool false) (fun _ _ => by kernel_rfl) s7vc (fun a7vd s7vf h7ve => ?_)
           refine WT.tk 58 h7ve rfl rfl (.bool false) (fun _ _ => by kernel_rfl) s7vf (fun a7vg s7vi h7vh => ?_)
           refine WT.sp 59 h7vh rfl rfl s7vi (fun a7vj s7vl h7vk => ?_)
           refine WT.sp 60 h7vk rfl rfl s7vl (fun a7vm s7vo h7vn => ?_)
           refine WT.sp 61 h7vn rfl rfl s7vo (fun a7vp s7vr h7vq => ?_)
           refine WT.tk 62 h7vq rfl rfl (.bool false) (fun _ _ => by kernel_rfl) s7vr (fun a7vs s7vu h7vt => ?_)
           refine WT.tk 63 h7vt rfl rfl (.bool false) (fun _ _ => by kernel_rfl) s7vu (fun a7vv s7vx h7vw => ?_)
           refine WT.sp 64 h7vw rfl rfl s7vx (fun a7vy s7w0 h7vz => ?_)
           clear h7rq a7rp h7v2 a7v1 h7v5 a7v4 h7v8 a7v7 h7vb a7va h7ve a7vd h7vh a7vg h7vk a7vj h7vn a7vm h7vq a7vp h7vt a7vs h7vw a7vv
           refine WT.sp 65 h7vz rfl rfl s7w0 (fun a7w1 s7w3 h7w2 => ?_)
           refine WT.sp 66 h7w2 rfl rfl s7w3 (fun a7w4 s7w6 h7w5 => ?_)
           refine WT.tk 67 h7w5 rfl rfl (.bool false) (fun _ _ => by kernel_rfl) s7w6 (fun a7w7 s7w9 h7w8 => ?_)
           refine WT.tk 68 h7w8 rfl rfl (.bool false) (fun _ _ => by kernel_rfl) s7w9 (fun a7wa s7wc h7wb => ?_)
           refine WT.dn ?_
           refine wp_ret ?_
           have hS7wd := hS7ri.drop_
           have hS7we := hS7wd.drop_
           obtain rfl := Option.some.inj H
           repeat (first | with_reducible refine t1 ?_ | with_reducible refine t2 ?_ | with_reducible refine t3 ?_)
           refine bret (.bool false) h7wb ?_
           exact ⟨rfl, hS7we⟩
         ·rw [if_neg c7r4] at H
          have hb_ : (decide (r7qo.f0 = 1) && decide (r7qo.f1 = 2)) = false := (Bool.eq_false_iff.2 c7r4)
          try rw [hb_] at h7r2
          clear hb_
          refine WT.sp 47 h7r2 rfl rfl s7r3 (fun a7wf s7wh h7wg => ?_)
          refine WT.sp 48 h7wg rfl rfl s7wh (fun a7wi s7wk h7wj => ?_)
          refine WT.sp 49 h7wj rfl rfl s7wk (fun a7wl s7wn h7wm => ?_)
          refine WT.sp 50 h7wm rfl rfl s7wn (fun a7wo s7wq h7wp => ?_)
          refine WT.tk 51 h7wp rfl rfl (.bool false) (fun _ _ => by kernel_rfl) s7wq (fun a7wr s7wt h7ws => ?_)
          refine WT.tk 52 h7ws rfl rfl (.bool false) (fun _ _ => by kernel_rfl) s7wt (fun a7wu s7ww h7wv => ?_)
          refine WT.sp 53 h7wv rfl rfl s7ww (fun a7wx s7wz h7wy => ?_)
          refine WT.sp 54 h7wy rfl rfl s7wz (fun a7x0 s7x2 h7x1 => ?_)
          refine WT.sp 55 h7x1 rfl rfl s7x2 (fun a7x3 s7x5 h7x4 => ?_)
          refine WT.sp 56 h7x4 rfl rfl s7x5 (fun a7x6 s7x8 h7x7 => ?_)
          refine WT.tk 57 h7x7 rfl rfl (.bool false) (fun _ _ => by kernel_rfl) s7x8 (fun a7x9 s7xb h7xa => ?_)
          refine WT.tk 58 h7xa rfl rfl (.bool false) (fun _ _ => by kernel_rfl) s7xb (fun a7xc s7xe h7xd => ?_)
          clear h7r2 a7r1 h7wg a7wf h7wj a7wi h7wm a7wl h7wp a7wo h7ws a7wr h7wv a7wu h7wy a7wx h7x1 a7x0 h7x4 a7x3 h7x7 a7x6 h7xa a7x9
          refine WT.sp 59 h7xd rfl rfl s7xe (fun a7xf s7xh h7xg => ?_)
          refine WT.sp 60 h7xg rfl rfl s7xh (fun a7xi s7xk h7xj => ?_)
          refine WT.sp 61 h7xj rfl rfl s7xk (fun a7xl s7xn h7xm => ?_)
          refine WT.tk 62 h7xm rfl rfl (.bool false) (fun _ _ => by kernel_rfl) s7xn (fun a7xo s7xq h7xp => ?_)
          refine WT.tk 63 h7xp rfl rfl (.bool false) (fun _ _ => by kernel_rfl) s7xq (fun a7xr s7xt h7xs => ?_)
          refine WT.sp 64 h7xs rfl rfl s7xt (fun a7xu s7xw h7xv => ?_)
          refine WT.sp 65 h7xv rfl rfl s7xw (fun a7xx s7xz h7xy => ?_)
          refine WT.sp 66 h7xy rfl rfl s7xz (fun a7y0 s7y2 h7y1 => ?_)
          refine WT.tk 67 h7y1 rfl rfl (.bool false) (fun _ _ => by kernel_rfl) s7y2 (fun a7y3 s7y5 h7y4 => ?_)
          refine WT.tk 68 h7y4 rfl rfl (.bool false) (fun _ _ => by kernel_rfl) s7y5 (fun a7y6 s7y8 h7y7 => ?_)
          refine WT.dn ?_
          refine wp_ret ?_
          have hS7y9 := hS7qu.drop_
          have hS7ya := hS7y9.drop_
          obtain rfl := Option.some.inj H
          repeat (first | with_reducible refine t1 ?_ | with_reducible refine t2 ?_ | with_reducible refine t3 ?_)
          refine bret (.bool false) h7y7 ?_
          exact ⟨rfl, hS7ya⟩
        ·rw [if_neg c7qd] at H
         have hb_ : (decide (r7px.f0 = 1) && decide (r7px.f1 = 2)) = false := (Bool.eq_false_iff.2 c7qd)
         try rw [hb_] at h7qb
         clear hb_
         refine WT.sp 40 h7qb rfl rfl s7qc (fun a7yb s7yd h7yc => ?_)
         refine WT.sp 41 h7yc rfl rfl s7yd (fun a7ye s7yg h7yf => ?_)
         refine WT.sp 42 h7yf rfl rfl s7yg (fun a7yh s7yj h7yi => ?_)
         refine WT.sp 43 h7yi rfl rfl s7yj (fun a7yk s7ym h7yl => ?_)
         refine WT.sp 44 h7yl rfl rfl s7ym (fun a7yn s7yp h7yo => ?_)
         refine WT.tk 45 h7yo rfl rfl (.bool false) (fun _ _ => by kernel_rfl) s7yp (fun a7yq s7ys h7yr => ?_)
         refine WT.tk 46 h7yr rfl rfl (.bool false) (fun _ _ => by kernel_rfl) s7ys (fun a7yt s7yv h7yu => ?_)
         refine WT.sp 47 h7yu rfl rfl s7yv (fun a7yw s7yy h7yx => ?_)
         refine WT.sp 48 h7yx rfl rfl s7yy (fun a7yz s7z1 h7z0 => ?_)
         refine WT.sp 49 h7z0 rfl rfl s7z1 (fun a7z2 s7z4 h7z3 => ?_)
         refine WT.sp 50 h7z3 rfl rfl s7z4 (fun a7z5 s7z7 h7z6 => ?_)
         refine WT.tk 51 h7z6 rfl rfl (.bool false) (fun _ _ => by kernel_rfl) s7z7 (fun a7z8 s7za h7z9 => ?_)
         clear h7qb a7qa h7yc a7yb h7yf a7ye h7yi a7yh h7yl a7yk h7yo a7yn h7yr a7yq h7yu a7yt h7yx a7yw h7z0 a7yz h7z3 a7z2 h7z6 a7z5
         refine WT.tk 52 h7z9 rfl rfl (.bool false) (fun _ _ => by kernel_rfl) s7za (fun a7zb s7zd h7zc => ?_)
         refine WT.sp 53 h7zc rfl rfl s7zd (fun a7ze s7zg h7zf => ?_)
         refine WT.sp 54 h7zf rfl rfl s7zg (fun a7zh s7zj h7zi => ?_)
         refine WT.sp 55 h7zi rfl rfl s7zj (fun a7zk s7zm h7zl => ?_)
         refine WT.sp 56 h7zl rfl rfl s7zm (fun a7zn s7zp h7zo => ?_)
         refine WT.tk 57 h7zo rfl rfl (.bool false) (fun _ _ => by kernel_rfl) s7zp (fun a7zq s7zs h7zr => ?_)
         refine WT.tk 58 h7zr rfl rfl (.bool false) (fun _ _ => by kernel_rfl) s7zs (fun a7zt s7zv h7zu => ?_)
         refine WT.sp 59 h7zu rfl rfl s7zv (fun a7zw s7zy h7zx => ?_)
         refine WT.sp 60 h7zx rfl rfl s7zy (fun a7zz s801 h800 => ?_)
         refine WT.sp 61 h800 rfl rfl s801 (fun a802 s804 h803 => ?_)
         refine WT.tk 62 h803 rfl rfl (.bool false) (fun _ _ => by kernel_rfl) s804 (fun a805 s807 h806 => ?_)
         refine WT.tk 63 h806 rfl rfl (.bool false) (fun _ _ => by kernel_rfl) s807 (fun a808 s80a h809 => ?_)
         clear h7z9 a7z8 h7zc a7zb h7zf a7ze h7zi a7zh h7zl a7zk h7zo a7zn h7zr a7zq h7zu a7zt h7zx a7zw h800 a7zz h803 a802 h806 a805
         refine WT.sp 64 h809 rfl rfl s80a (fun a80b s80d h80c => ?_)
         refine WT.sp 65 h80c rfl rfl s80d (fun a80e s80g h80f => ?_)
         refine WT.sp 66 h80f rfl rfl s80g (fun a80h s80j h80i => ?_)
         refine WT.tk 67 h80i rfl rfl (.bool false) (fun _ _ => by kernel_rfl) s80j (fun a80k s80m h80l => ?_)
         refine WT.tk 68 h80l rfl rfl (.bool false) (fun _ _ => by kernel_rfl) s80m (fun a80n s80p h80o => ?_)
         refine WT.dn ?_
         refine wp_ret ?_
         have hS80q := hS7q3.drop_
         have hS80r := hS80q.drop_
         obtain rfl := Option.some.inj H
         repeat (first | with_reducible refine t1 ?_ | with_reducible refine t2 ?_ | with_reducible refine t3 ?_)
         refine bret (.bool false) h80o ?_
         exact ⟨rfl, hS80r⟩
     ·rw [if_neg c7i7] at H
      have hb_ : (decide ((r4pg.length : Int) = 0)) = false := decide_eq_false c7i7
      try rw [hb_] at h7i5
      clear hb_
      refine WT.sp 24 h7i5 rfl rfl s7i6 (fun a80s s80u h80t => ?_)
      refine WT.sp 25 h80t rfl rfl s80u (fun a80v s80x h80w => ?_)
      refine WT.tk 26 h80w rfl rfl (.bool false) (fun _ _ => by kernel_rfl) s80x (fun a80y s810 h80z => ?_)
      refine WT.tk 27 h80z rfl rfl (.bool false) (fun _ _ => by kernel_rfl) s810 (fun a811 s813 h812 => ?_)
      refine WT.sp 28 h812 rfl rfl s813 (fun a814 s816 h815 => ?_)
      refine WT.sp 29 h815 rfl rfl s816 (fun a817 s819 h818 => ?_)
      refine WT.tk 30 h818 rfl rfl (.bool false) (fun _ _ => by kernel_rfl) s819 (fun a81a s81c h81b => ?_)
      refine WT.tk 31 h81b rfl rfl (.bool false) (fun _ _ => by kernel_rfl) s81c (fun a81d s81f h81e => ?_)
      refine WT.sp 32 h81e rfl rfl s81f (fun a81g s81i h81h => ?_)
      refine WT.sp 33 h81h rfl rfl s81i (fun a81j s81l h81k => ?_)
      refine WT.sp 34 h81k rfl rfl s81l (fun a81m s81o h81n => ?_)
      refine WT.sp 35 h81n rfl rfl s81o (fun a81p s81r h81q => ?_)
      clear h7i5 a7i4 h80t a80s h80w a80v h80z a80y h812 a811 h815 a814 h818 a817 h81b a81a h81e a81d h81h a81g h81k a81j h81n a81m
      refine WT.sp 36 h81q rfl rfl s81r (fun a81s s81u h81t => ?_)
      refine WT.sp 37 h81t rfl rfl s81u (fun a81v s81x h81w => ?_)
      refine WT.tk 38 h81w rfl rfl (.bool false) (fun _ _ => by kernel_rfl) s81x (fun a81y s820 h81z => ?_)
      refine WT.tk 39 h81z rfl rfl (.bool false) (fun _ _ => by kernel_rfl) s820 (fun a821 s823 h822 => ?_)
      refine WT.sp 40 h822 rfl rfl s823 (fun a824 s826 h825 => ?_)
      refine WT.sp 41 h825 rfl rfl s826 (fun a827 s829 h828 => ?_)
      refine WT.sp 42 h828 rfl rfl s829 (fun a82a s82c h82b => ?_)
      refine WT.sp 43 h82b rfl rfl s82c (fun a82d s82f h82e => ?_)
      refine WT.sp 44 h82e rfl rfl s82f (fun a82g s82i h82h => ?_)
      refine WT.tk 45 h82h rfl rfl (.bool false) (fun _ _ => by kernel_rfl) s82i (fun a82j s82l h82k => ?_)
      refine WT.tk 46 h82k rfl rfl (.bool false) (fun _ _ => by kernel_rfl) s82l (fun a82m s82o h82n => ?_)
      refine WT.sp 47 h82n rfl rfl s82o (fun a82p s82r h82q => ?_)
      clear h81q a81p h81t a81s h81w a81v h81z a81y h822 a821 h825 a824 h828 a827 h82b a82a h82e a82d h82h a82g h82k a82j h82n a82m
      refine WT.sp 48 h82q rfl rfl s82r (fun a82s s82u h82t => ?_)
      refine WT.sp 49 h82t rfl rfl s82u (fun a82v s82x h82w => ?_)
      refine WT.sp 50 h82w rfl rfl s82x (fun a82y s830 h82z => ?_)
      refine WT.tk 51 h82z rfl rfl (.bool false) (fun _ _ => by kernel_rfl) s830 (fun a831 s833 h832 => ?_)
      refine WT.tk 52 h832 rfl rfl (.bool false) (fun _ _ => by kernel_rfl) s833 (fun a834 s836 h835 => ?_)
      refine WT.sp 53 h835 rfl rfl s836 (fun a837 s839 h838 => ?_)
      refine WT.sp 54 h838 rfl rfl s839 (fun a83a s83c h83b => ?_)
      refine WT.sp 55 h83b rfl rfl s83c (fun a83d s83f h83e => ?_)
      refine WT.sp 56 h83e rfl rfl s83f (fun a83g s83i h83h => ?_)
      refine WT.tk 57 h83h rfl rfl (.bool false) (fun _ _ => by kernel_rfl) s83i (fun a83j s83l h83k => ?_)
      refine WT.tk 58 h83k rfl rfl (.bool false) (fun _ _ => by kernel_rfl) s83l (fun a83m s83o h83n => ?_)
      refine WT.sp 59 h83n rfl rfl s83o (fun a83p s83r h83q => ?_)
      clear h82q a82p h82t a82s h82w a82v h82z a82y h832 a831 h835 a834 h838 a837 h83b a83a h83e a83d h83h a83g h83k a83j h83n a83m
      refine WT.sp 60 h83q rfl rfl s83r (fun a83s s83u h83t => ?_)
      refine WT.sp 61 h83t rfl rfl s83u (fun a83v s83x h83w => ?_)
      refine WT.tk 62 h83w rfl rfl (.bool false) (fun _ _ => by kernel_rfl) s83x (fun a83y s840 h83z => ?_)
      refine WT.tk 63 h83z rfl rfl (.bool false) (fun _ _ => by kernel_rfl) s840 (fun a841 s843 h842 => ?_)
      refine WT.sp 64 h842 rfl rfl s843 (fun a844 s846 h845 => ?_)
      refine WT.sp 65 h845 rfl rfl s846 (fun a847 s849 h848 => ?_)
      refine WT.sp 66 h848 rfl rfl s849 (fun a84a s84c h84b => ?_)
      refine WT.tk 67 h84b rfl rfl (.bool false) (fun _ _ => by kernel_rfl) s84c (fun a84d s84f h84e => ?_)
      refine WT.tk 68 h84e rfl rfl (.bool false) (fun _ _ => by kernel_rfl) s84f (fun a84g s84i h84h => ?_)
      refine WT.dn ?_
      refine wp_ret ?_
      have hS84j := hS7ck.drop_
      have hS84k := hS84j.drop_
      obtain rfl := Option.some.inj H
      repeat (first | with_reducible refine t1 ?_ | with_reducible refine t2 ?_ | with_reducible refine t3 ?_)
      refine bret (.bool false) h84h ?_
      exact ⟨rfl, hS84k⟩
    ·rw [if_neg c7hr] at H
     have hb_ : (decide (r4pf = 0)) = false := decide_eq_false c7hr
     try rw [hb_] at h7hp
     clear hb_
     refine WT.sp 19 h7hp rfl rfl s7hq (fun a84l s84n h84m => ?_)
     refine WT.sp 20 h84m rfl rfl s84n (fun a84o s84q h84p => ?_)
     refine WT.sp 21 h84p rfl rfl s84q (fun a84r s84t h84s => ?_)
     refine WT.tk 22 h84s rfl rfl (.bool false) (fun _ _ => by kernel_rfl) s84t (fun a84u s84w h84v => ?_)
     refine WT.tk 23 h84v rfl rfl (.bool false) (fun _ _ => by kernel_rfl) s84w (fun a84x s84z h84y => ?_)
     refine WT.sp 24 h84y rfl rfl s84z (fun a850 s852 h851 => ?_)
     refine WT.sp 25 h851 rfl rfl s852 (fun a853 s855 h854 => ?_)
     refine WT.tk 26 h854 rfl rfl (.bool false) (fun _ _ => by kernel_rfl) s855 (fun a856 s858 h857 => ?_)
     refine WT.tk 27 h857 rfl rfl (.bool false) (fun _ _ => by kernel_rfl) s858 (fun a859 s85b h85a => ?_)
     refine WT.sp 28 h85a rfl rfl s85b (fun a85c s85e h85d => ?_)
     refine WT.sp 29 h85d rfl rfl s85e (fun a85f s85h h85g => ?_)
     refine WT.tk 30 h85g rfl rfl (.bool false) (fun _ _ => by kernel_rfl) s85h (fun a85i s85k h85j => ?_)
     clear h7hp a7ho h84m a84l h84p a84o h84s a84r h84v a84u h84y a84x h851 a850 h854 a853 h857 a856 h85a a859 h85d a85c h85g a85f
     refine WT.tk 31 h85j rfl rfl (.bool false) (fun _ _ => by kernel_rfl) s85k (fun a85l s85n h85m => ?_)
     refine WT.sp 32 h85m rfl rfl s85n (fun a85o s85q h85p => ?_)
     refine WT.sp 33 h85p rfl rfl s85q (fun a85r s85t h85s => ?_)
     refine WT.sp 34 h85s rfl rfl s85t (fun a85u s85w h85v => ?_)
     refine WT.sp 35 h85v rfl rfl s85w (fun a85x s85z h85y => ?_)
     refine WT.sp 36 h85y rfl rfl s85z (fun a860 s862 h861 => ?_)
     refine WT.sp 37 h861 rfl rfl s862 (fun a863 s865 h864 => ?_)
     refine WT.tk 38 h864 rfl rfl (.bool false) (fun _ _ => by kernel_rfl) s865 (fun a866 s868 h867 => ?_)
     refine WT.tk 39 h867 rfl rfl (.bool false) (fun _ _ => by kernel_rfl) s868 (fun a869 s86b h86a => ?_)
     refine WT.sp 40 h86a rfl rfl s86b (fun a86c s86e h86d => ?_)
     refine WT.sp 41 h86d rfl rfl s86e (fun a86f s86h h86g => ?_)
     refine WT.sp 42 h86g rfl rfl s86h (fun a86i s86k h86j => ?_)
     clear h85j a85i h85m a85l h85p a85o h85s a85r h85v a85u h85y a85x h861 a860 h864 a863 h867 a866 h86a a869 h86d a86c h86g a86f
     refine WT.sp 43 h86j rfl rfl s86k (fun a86l s86n h86m => ?_)
     refine WT.sp 44 h86m rfl rfl s86n (fun a86o s86q h86p => ?_)
     refine WT.tk 45 h86p rfl rfl (.bool false) (fun _ _ => by kernel_rfl) s86q (fun a86r s86t h86s => ?_)
     refine WT.tk 46 h86s rfl rfl (.bool false) (fun _ _ => by kernel_rfl) s86t (fun a86u s86w h86v => ?_)
     refine WT.sp 47 h86v rfl rfl s86w (fun a86x s86z h86y => ?_)
     refine WT.sp 48 h86y rfl rfl s86z (fun a870 s872 h871 => ?_)
     refine WT.sp 49 h871 rfl rfl s872 (fun a873 s875 h874 => ?_)
     refine WT.sp 50 h874 rfl rfl s875 (fun a876 s878 h877 => ?_)
     refine WT.tk 51 h877 rfl rfl (.bool false) (fun _ _ => by kernel_rfl) s878 (fun a879 s87b h87a => ?_)
     refine WT.tk 52 h87a rfl rfl (.bool false) (fun _ _ => by kernel_rfl) s87b (fun a87c s87e h87d => ?_)
     refine WT.sp 53 h87d rfl rfl s87e (fun a87f s87h h87g => ?_)
     refine WT.sp 54 h87g rfl rfl s87h (fun a87i s87k h87j => ?_)
     clear h86j a86i h86m a86l h86p a86o h86s a86r h86v a86u h86y a86x h871 a870 h874 a873 h877 a876 h87a a879 h87d a87c h87g a87f
     refine WT.sp 55 h87j rfl rfl s87k (fun a87l s87n h87m => ?_)
     refine WT.sp 56 h87m rfl rfl s87n (fun a87o s87q h87p => ?_)
     refine WT.tk 57 h87p rfl rfl (.bool false) (fun _ _ => by kernel_rfl) s87q (fun a87r s87t h87s => ?_)
     refine WT.tk 58 h87s rfl rfl (.bool false) (fun _ _ => by kernel_rfl) s87t (fun a87u s87w h87v => ?_)
     refine WT.sp 59 h87v rfl rfl s87w (fun a87x s87z h87y => ?_)
     refine WT.sp 60 h87y rfl rfl s87z (fun a880 s882 h881 => ?_)
     refine WT.sp 61 h881 rfl rfl s882 (fun a883 s885 h884 => ?_)
     refine WT.tk 62 h884 rfl rfl (.bool false) (fun _ _ => by kernel_rfl) s885 (fun a886 s888 h887 => ?_)
     refine WT.tk 63 h887 rfl rfl (.bool false) (fun _ _ => by kernel_rfl) s888 (fun a889 s88b h88a => ?_)
     refine WT.sp 64 h88a rfl rfl s88b (fun a88c s88e h88d => ?_)
     refine WT.sp 65 h88d rfl rfl s88e (fun a88f s88h h88g => ?_)
     refine WT.sp 66 h88g rfl rfl s88h (fun a88i s88k h88j => ?_)
     clear h87j a87i h87m a87l h87p a87o h87s a87r h87v a87u h87y a87x h881 a880 h884 a883 h887 a886 h88a a889 h88d a88c h88g a88f
     refine WT.tk 67 h88j rfl rfl (.bool false) (fun _ _ => by kernel_rfl) s88k (fun a88l s88n h88m => ?_)
     refine WT.tk 68 h88m rfl rfl (.bool false) (fun _ _ => by kernel_rfl) s88n (fun a88o s88q h88p => ?_)
     refine WT.dn ?_
     refine wp_ret ?_
     have hS88r := hS7ck.drop_
     have hS88s := hS88r.drop_
     obtain rfl := Option.some.inj H
     repeat (first | with_reducible refine t1 ?_ | with_reducible refine t2 ?_ | with_reducible refine t3 ?_)
     refine bret (.bool false) h88p ?_
     exact ⟨rfl, hS88s⟩
 ·rw [if_neg c76a] at H
  have hb_ : r760 = false := (Bool.eq_false_iff.2 c76a)
  try rw [hb_] at h768
  clear hb_
  refine WT.sp 2 h768 rfl rfl s769 (fun a88t s88v h88u => ?_)
  refine WT.sp 3 h88u rfl rfl s88v (fun a88w s88y h88x => ?_)
  refine WT.sp 4 h88x rfl rfl s88y (fun a88z s891 h890 => ?_)
  refine WT.sp 5 h890 rfl rfl s891 (fun a892 s894 h893 => ?_)
  refine WT.tk 6 h893 rfl rfl (.bool false) (fun _ _ => by kernel_rfl) s894 (fun a895 s897 h896 => ?_)
  refine WT.tk 7 h896 rfl rfl (.bool false) (fun _ _ => by kernel_rfl) s897 (fun a898 s89a h899 => ?_)
  refine WT.sp 8 h899 rfl rfl s89a (fun a89b s89d h89c => ?_)
  refine WT.sp 9 h89c rfl rfl s89d (fun a89e s89g h89f => ?_)
  refine WT.sp 10 h89f rfl rfl s89g (fun a89h s89j h89i => ?_)
  refine WT.sp 11 h89i rfl rfl s89j (fun a89k s89m h89l => ?_)
  refine WT.sp 12 h89l rfl rfl s89m (fun a89n s89p h89o => ?_)
  refine WT.tk 13 h89o rfl rfl (.bool false) (fun _ _ => by kernel_rfl) s89p (fun a89q s89s h89r => ?_)
  clear h768 a767 h88u a88t h88x a88w h890 a88z h893 a892 h896 a895 h899 a898 h89c a89b h89f a89e h89i a89h h89l a89k h89o a89n
  refine WT.tk 14 h89r rfl rfl (.bool false) (fun _ _ => by kernel_rfl) s89s (fun a89t s89v h89u => ?_)
  refine WT.sp 15 h89u rfl rfl s89v (fun a89w s89y h89x => ?_)
  refine WT.sp 16 h89x rfl rfl s89y (fun a89z s8a1 h8a0 => ?_)
  refine WT.tk 17 h8a0 rfl rfl (.bool false) (fun _ _ => by kernel_rfl) s8a1 (fun a8a2 s8a4 h8a3 => ?_)
  refine WT.tk 18 h8a3 rfl rfl (.bool false) (fun _ _ => by kernel_rfl) s8a4 (fun a8a5 s8a7 h8a6 => ?_)
  refine WT.sp 19 h8a6 rfl rfl s8a7 (fun a8a8 s8aa h8a9 => ?_)
  refine WT.sp 20 h8a9 rfl rfl s8aa (fun a8ab s8ad h8ac => ?_)
  refine WT.sp 21 h8ac rfl rfl s8ad (fun a8ae s8ag h8af => ?_)
  refine WT.tk 22 h8af rfl rfl (.bool false) (fun _ _ => by kernel_rfl) s8ag (fun a8ah s8aj h8ai => ?_)
  refine WT.tk 23 h8ai rfl rfl (.bool false) (fun _ _ => by kernel_rfl) s8aj (fun a8ak s8am h8al => ?_)
  refine WT.sp 24 h8al rfl rfl s8am (fun a8an s8ap h8ao => ?_)
  refine WT.sp 25 h8ao rfl rfl s8ap (fun a8aq s8as h8ar => ?_)
  clear h89r a89q h89u a89t h89x a89w h8a0 a89z h8a3 a8a2 h8a6 a8a5 h8a9 a8a8 h8ac a8ab h8af a8ae h8ai a8ah h8al a8ak h8ao a8an
  refine WT.tk 26 h8ar rfl rfl (.bool false) (fun _ _ => by kernel_rfl) s8as (fun a8at s8av h8au => ?_)
  refine WT.tk 27 h8au rfl rfl (.bool false) (fun _ _ => by kernel_rfl) s8av (fun a8aw s8ay h8ax => ?_)
  refine WT.sp 28 h8ax rfl rfl s8ay (fun a8az s8b1 h8b0 => ?_)
  refine WT.sp 29 h8b0 rfl rfl s8b1 (fun a8b2 s8b4 h8b3 => ?_)
  refine WT.tk 30 h8b3 rfl rfl (.bool false) (fun _ _ => by kernel_rfl) s8b4 (fun a8b5 s8b7 h8b6 => ?_)
  refine WT.tk 31 h8b6 rfl rfl (.bool false) (fun _ _ => by kernel_rfl) s8b7 (fun a8b8 s8ba h8b9 => ?_)
  refine WT.sp 32 h8b9 rfl rfl s8ba (fun a8bb s8bd h8bc => ?_)
  refine WT.sp 33 h8bc rfl rfl s8bd (fun a8be s8bg h8bf => ?_)
  refine WT.sp 34 h8bf rfl rfl s8bg (fun a8bh s8bj h8bi => ?_)
  refine WT.sp 35 h8bi rfl rfl s8bj (fun a8bk s8bm h8bl => ?_)
  refine WT.sp 36 h8bl rfl rfl s8bm (fun a8bn s8bp h8bo => ?_)
  refine WT.sp 37 h8bo rfl rfl s8bp (fun a8bq s8bs h8br => ?_)
  clear h8ar a8aq h8au a8at h8ax a8aw h8b0 a8az h8b3 a8b2 h8b6 a8b5 h8b9 a8b8 h8bc a8bb h8bf a8be h8bi a8bh h8bl a8bk h8bo a8bn
  refine WT.tk 38 h8br rfl rfl (.bool false) (fun _ _ => by kernel_rfl) s8bs (fun a8bt s8bv h8bu => ?_)
  refine WT.tk 39 h8bu rfl rfl (.bool false) (fun _ _ => by kernel_rfl) s8bv (fun a8bw s8by h8bx => ?_)
  refine WT.sp 40 h8bx rfl rfl s8by (fun a8bz s8c1 h8c0 => ?_)
  refine WT.sp 41 h8c0 rfl rfl s8c1 (fun a8c2 s8c4 h8c3 => ?_)
  refine WT.sp 42 h8c3 rfl rfl s8c4 (fun a8c5 s8c7 h8c6 => ?_)
  refine WT.sp 43 h8c6 rfl rfl s8c7 (fun a8c8 s8ca h8c9 => ?_)
  refine WT.sp 44 h8c9 rfl rfl s8ca (fun a8cb s8cd h8cc => ?_)
  refine WT.tk 45 h8cc rfl rfl (.bool false) (fun _ _ => by kernel_rfl) s8cd (fun a8ce s8cg h8cf => ?_)
  refine WT.tk 46 h8cf rfl rfl (.bool false) (fun _ _ => by kernel_rfl) s8cg (fun a8ch s8cj h8ci => ?_)
  refine WT.sp 47 h8ci rfl rfl s8cj (fun a8ck s8cm h8cl => ?_)
  refine WT.sp 48 h8cl rfl rfl s8cm (fun a8cn s8cp h8co => ?_)
  refine WT.sp 49 h8co rfl rfl s8cp (fun a8cq s8cs h8cr => ?_)
  clear h8br a8bq h8bu a8bt h8bx a8bw h8c0 a8bz h8c3 a8c2 h8c6 a8c5 h8c9 a8c8 h8cc a8cb h8cf a8ce h8ci a8ch h8cl a8ck h8co a8cn
  refine WT.sp 50 h8cr rfl rfl s8cs (fun a8ct s8cv h8cu => ?_)
  refine WT.tk 51 h8cu rfl rfl (.bool false) (fun _ _ => by kernel_rfl) s8cv (fun a8cw s8cy h8cx => ?_)
  refine WT.tk 52 h8cx rfl rfl (.bool false) (fun _ _ => by kernel_rfl) s8cy (fun a8cz s8d1 h8d0 => ?_)
  refine WT.sp 53 h8d0 rfl rfl s8d1 (fun a8d2 s8d4 h8d3 => ?_)
  refine WT.sp 54 h8d3 rfl rfl s8d4 (fun a8d5 s8d7 h8d6 => ?_)
  refine WT.sp 55 h8d6 rfl rfl s8d7 (fun a8d8 s8da h8d9 => ?_)
  refine WT.sp 56 h8d9 rfl rfl s8da (fun a8db s8dd h8dc => ?_)
  refine WT.tk 57 h8dc rfl rfl (.bool false) (fun _ _ => by kernel_rfl) s8dd (fun a8de s8dg h8df => ?_)
  refine WT.tk 58 h8df rfl rfl (.bool false) (fun _ _ => by kernel_rfl) s8dg (fun a8dh s8dj h8di => ?_)
  refine WT.sp 59 h8di rfl rfl s8dj (fun a8dk s8dm h8dl => ?_)
  refine WT.sp 60 h8dl rfl rfl s8dm (fun a8dn s8dp h8do => ?_)
  refine WT.sp 61 h8do rfl rfl s8dp (fun a8dq s8ds h8dr => ?_)
  clear h8cr a8cq h8cu a8ct h8cx a8cw h8d0 a8cz h8d3 a8d2 h8d6 a8d5 h8d9 a8d8 h8dc a8db h8df a8de h8di a8dh h8dl a8dk h8do a8dn
  refine WT.tk 62 h8dr rfl rfl (.bool false) (fun _ _ => by kernel_rfl) s8ds (fun a8dt s8dv h8du => ?_)
  refine WT.tk 63 h8du rfl rfl (.bool false) (fun _ _ => by kernel_rfl) s8dv (fun a8dw s8dy h8dx => ?_)
  refine WT.sp 64 h8dx rfl rfl s8dy (fun a8dz s8e1 h8e0 => ?_)
  refine WT.sp 65 h8e0 rfl rfl s8e1 (fun a8e2 s8e4 h8e3 => ?_)
  refine WT.sp 66 h8e3 rfl rfl s8e4 (fun a8e5 s8e7 h8e6 => ?_)
  refine WT.tk 67 h8e6 rfl rfl (.bool false) (fun _ _ => by kernel_rfl) s8e7 (fun a8e8 s8ea h8e9 => ?_)
  refine WT.tk 68 h8e9 rfl rfl (.bool false) (fun _ _ => by kernel_rfl) s8ea (fun a8eb s8ed h8ec => ?_)
  refine WT.dn ?_
  refine wp_ret ?_
  have hS8ee := hS766.drop_
  have hS8ef := hS8ee.drop_
  obtain rfl := Option.some.inj H
  repeat (first | with_reducible refine t1 ?_ | with_reducible refine t2 ?_ | with_reducible refine t3 ?_)
  refine bret (.bool false) h8ec ?_
  exact ⟨rfl, hS8ef⟩
end Go.Proofs.Ytikfpmieadfllaa.Sl
