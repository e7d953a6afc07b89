/- What the functions of this program compute, told as plain functions, and that the calls come to just that. Printed by this session's program; part 2. -/
import Derived.Test.YtikfpmieadfllaaCodeTurnsEnds1
set_option linter.unusedVariables false
set_option linter.unusedSimpArgs false
set_option linter.unnecessarySimpa false
namespace Go.Proofs.Ytikfpmieadfllaa.Sl
open Go Go.RowKit Go.Proofs.Sl
/-! ### louver/louverlaw13.TurnsEnds -/
mutual
def louverlaw13qTurnsEnds.l0 : Nat → S69 → Int → (List (List Int)) → Int → Option (Bool)
 | 0, _, _, _, _ => none
 | k + 1, x54w, x54z, p0, p1 => if x54z < (p0.length : Int) then (if 0 ≤ x54z then (if ((gt [] p0 x54z).length : Int) > 300 then (bnd1 (louverlaw13qfixed.f k) fun r55u => (some r55u)) else (bnd2 (turns_Ring_Open.f k x54w (IntKind.u32.wrap (IntKind.i64.wrap (x54z + 1))) 1000) fun r567 r568 => (if r567 = true then (bnd2 (turns_Ring_Put.f k r568 (IntKind.u32.wrap (IntKind.i64.wrap (x54z + 1))) (gt [] p0 x54z) true) fun r56v r56w => (if r56v = true then (bnd2 (turns_Ring_Put.f k r56w (IntKind.u32.wrap (IntKind.i64.wrap (x54z + 1))) (gt [] p0 x54z) false) fun r57l r57m => (if r57l = true then (some false) else (louverlaw13qTurnsEnds.l0 k r57m (IntKind.i64.wrap (x54z + 1)) p0 p1))) else (some false))) else (some false)))) else (none)) else (if 0 ≤ (p0.length : Int) then (if (p0.length : Int) * 16 ≤ 140737488355328 then (lt1 (List.replicate (p0.length : Int).toNat [] : List (List UInt8)) fun y59s => (if (p0.length : Int) * 1 ≤ 140737488355328 then (lt1 (List.replicate (p0.length : Int).toNat false : List Bool) fun y5a9 => (louverlaw13qTurnsEnds.l2 k x54w y59s y5a9 0 p0 p1)) else (none))) else (none)) else (none))
def louverlaw13qTurnsEnds.j1 : Nat → S69 → (List (List UInt8)) → (List Bool) → (List (List Int)) → Option (Bool)
 | 0, _, _, _, _ => none
 | k + 1, x5jy, x5k1, x5k6, p0 => louverlaw13qTurnsEnds.l3 k 0 p0 x5jy x5k1 x5k6
def louverlaw13qTurnsEnds.l2 : Nat → S69 → (List (List UInt8)) → (List Bool) → Int → (List (List Int)) → Int → Option (Bool)
 | 0, _, _, _, _, _, _ => none
 | k + 1, x5kg, x5kj, x5ko, x5kt, p0, p1 => if x5kt < 6020 then (bnd5 (turns_Ring_Next.f k x5kg (IntKind.i64.wrap p1)) fun r5l3 r5l4 r5l5 r5l6 r5l7 => (if r5l6 = true then (if r5l3 < 1 then (some false) else (if (IntKind.i64.wrap r5l3) > (p0.length : Int) then (some false) else (if 0 ≤ (IntKind.u32.wrap (r5l3 - 1)) then (if (IntKind.u32.wrap (r5l3 - 1)) < (x5ko.length : Int) then (if (gt false x5ko (IntKind.u32.wrap (r5l3 - 1))) = true then (some false) else (if (IntKind.u32.wrap (r5l3 - 1)) < (x5kj.length : Int) then (if (gt [] x5kj (IntKind.u32.wrap (r5l3 - 1))).length + (toS r5l4).length ≤ 9223372036854775807 then (lt1 (x5kj.set (IntKind.u32.wrap (r5l3 - 1)).toNat ((gt [] x5kj (IntKind.u32.wrap (r5l3 - 1))) ++ (toS r5l4)) : List (List UInt8)) fun y5sr => (lt1 (x5ko.set (IntKind.u32.wrap (r5l3 - 1)).toNat r5l5 : List Bool) fun y5tb => (louverlaw13qTurnsEnds.l2 k r5l7 y5sr y5tb (IntKind.i64.wrap (x5kt + 1)) p0 p1))) else (none)) else (none))) else (none)) else (none)))) else (louverlaw13qTurnsEnds.j1 k r5l7 x5kj x5ko p0))) else (louverlaw13qTurnsEnds.j1 k x5kg x5kj x5ko p0)
def louverlaw13qTurnsEnds.l3 : Nat → Int → (List (List Int)) → S69 → (List (List UInt8)) → (List Bool) → Option (Bool)
 | 0, _, _, _, _, _ => none
 | k + 1, x5tx, p0, x5jy, x5k1, x5k6 => if x5tx < (p0.length : Int) then (if 0 ≤ x5tx then (if x5tx < (x5k1.length : Int) then (if (gt [] x5k1 x5tx) = (toS (gt [] p0 x5tx)) then (if x5tx < (x5k6.length : Int) then (if (gt false x5k6 x5tx) = true then (bnd1 (turns_Ring_Waits.f k x5jy (IntKind.u32.wrap (IntKind.i64.wrap (x5tx + 1)))) fun r65p => (if r65p = 0 then (louverlaw13qTurnsEnds.l3 k (IntKind.i64.wrap (x5tx + 1)) p0 x5jy x5k1 x5k6) else (some false))) else (some false)) else (none)) else (some false)) else (none)) else (none)) else (bnd1 (louverlaw13qfixed.f k) fun r68e => (if r68e = true then (bnd1 (turns_Ring_Can.f k x5jy) fun r68r => (if r68r = true then (some false) else (bnd1 (turns_Ring_All.f k x5jy) fun r69j => (some (decide (r69j = 0)))))) else (some false)))
end
def louverlaw13qTurnsEnds.f (k : Nat) (p0 : (List (List Int))) (p1 : Int) : Option (Bool) := if (p0.length : Int) > 20 then (bnd1 (louverlaw13qfixed.f k) fun r542 => (some r542)) else (bnd1 (turns_New.f 1048576) fun r54c => (louverlaw13qTurnsEnds.l0 k r54c 0 p0 p1))
set_option maxHeartbeats 20000000 in
set_option maxRecDepth 100000 in
theorem louverlaw13qTurnsEnds.calls (k : Nat) {b : Nat} {w0 W : World} {R : Frag} {Fs : List Frag} {p0 : (List (List Int))} {p1 : Int} {v0 : Value} {r0q : Bool} (hp0 : Rds (kRds (kInt .u8)) b w0 R v0 p0) (H : louverlaw13qTurnsEnds.f k p0 p1 = some r0q) (hS : St b w0 W R (Fs)) :
  Calls Try.prog 4 ([v0, .int .u8 p1] : List Value).toArray W (fun e W' => e = .returned (.bool r0q) ∧ St b w0 W' R (Fs)) := by
 obtain ⟨A0, c0, rfl⟩ := hp0.form
 unfold louverlaw13qTurnsEnds.f at H
 refine calls_enter Try.func4 rfl 147 rfl (by kernel_rfl) (fun a h => ?_)
 refine wp_seq ?_
 refine WL.start ?_
 refine WL.bl 1 1 h [(4, .bool false)] (fun a53w h53x => ?_)
 refine WL.dn ?_
 refine wp_seq ?_
 refine wp_seq ?_
 refine WL.start ?_
 refine WL.bl 3 3 h53x [(18, .bool (decide ((p0.length : Int) > 20))), (17, i6 (p0.length : Int)), (16, .slice A0 p0.length c0)] (fun a53y h53z => ?_)
 refine WL.dn ?_
 clear h53x a53w
 by_cases c540 : (p0.length : Int) > 20
 ·rw [if_pos c540] at H
  have hb_ : (decide ((p0.length : Int) > 20)) = true := decide_eq_true c540
  try rw [hb_] at h53z
  clear hb_
  refine wp_then h53z rfl ?_
  refine wp_seq ?_
  refine WL.start ?_
  obtain ⟨r542, A541, H⟩ := bind1 H
  refine WL.oq h53z rfl ?_
  refine owp_call [] h53z rfl (by kernel_rfl) rfl Try.func12 (by kernel_rfl) rfl (by kernel_rfl) (louverlaw13qfixed.calls k  A541 hS) (fun e544 W543 hp545 => ?_)
  obtain ⟨rfl, hS548⟩ := hp545
  refine ⟨_, rfl, fun a546 h547 => ?_⟩
  refine WL.bl 1 2 h547 [(4, .bool r542)] (fun a549 h54a => ?_)
  refine WL.dn ?_
  refine wp_ret ?_
  obtain rfl := Option.some.inj H
  repeat (first | with_reducible refine t1 ?_ | with_reducible refine t2 ?_ | with_reducible refine t3 ?_)
  refine bret (.bool r542) h54a ?_
  exact ⟨rfl, hS548⟩
 ·rw [if_neg c540] at H
  have hb_ : (decide ((p0.length : Int) > 20)) = false := decide_eq_false c540
  try rw [hb_] at h53z
  clear hb_
  refine wp_else h53z rfl ?_
  refine wp_skip ?_
  refine wp_seq ?_
  refine WL.start ?_
  obtain ⟨r54c, A54b, H⟩ := bind1 H
  refine WL.oq h53z rfl ?_
  refine owp_call [i6 1048576] h53z rfl (by kernel_rfl) rfl Try.func8 (by kernel_rfl) rfl (by kernel_rfl) (turns_New.calls  A54b hS) (fun e54e W54d hp54f => ?_)
  obtain ⟨v54i, M54j, rfl, hr54k, hS54l⟩ := hp54f
  refine ⟨_, rfl, fun a54g h54h => ?_⟩
  obtain ⟨g54m, rfl⟩ := hr54k.ptr_form
  refine WL.bl 1 2 h54h [(5, pt g54m)] (fun a54n h54o => ?_)
  refine WL.dn ?_
  refine wp_seq ?_
  refine wp_seq ?_
  refine WL.start ?_
  refine WL.bl 3 3 h54o [(23, i6 0), (22, i6 (p0.length : Int)), (21, .slice A0 p0.length c0)] (fun a54p h54q => ?_)
  refine WL.dn ?_
  refine wp_block ?_
  clear h53z a53y h54h a54g h54o a54n
  refine wp_loop_ghost (fun kq_ a_ W_ => ∃ (x54w : S69), ∃ (M54x : Frag), ∃ (x54z : Int), Hd a_ 147 [(0, .slice A0 p0.length c0), (1, .int .u8 p1), (5, pt g54m), (21, .slice A0 p0.length c0), (22, i6 (p0.length : Int)), (23, i6 x54z)] ∧ Asd (louverlaw13qTurnsEnds.l0 kq_ x54w x54z p0 p1 = some r0q) ∧ Asd (kq_ ≤ k) ∧ Asd (St b w0 W_ R (M54x :: Fs)) ∧ Asd (Ptr k69 69 b w0 R (pt g54m) x54w M54x)) k ⟨r54c, M54j, 0, h54q.keep ⟨rfl, rfl, rfl, rfl, rfl, rfl, trivial⟩, ⟨H⟩, ⟨Nat.le_refl _⟩, ⟨hS54l⟩, ⟨hr54k⟩⟩ ?_
  clear H hS54l
  rintro kk54v a54s W54t ⟨x54w, M54x, x54z, h54r, ⟨H⟩, ⟨hkkk54v⟩, ⟨hS54u⟩, ⟨hr54y⟩⟩
  obtain _ | kk550 := kk54v
  ·exact absurd H (by simp [louverlaw13qTurnsEnds.l0])
  simp only [louverlaw13qTurnsEnds.l0] at H
  refine wp_seq ?_
  refine WL.start ?_
  refine WL.bl 1 1 h54r [(24, .bool (decide (x54z < (p0.length : Int))))] (fun a551 h552 => ?_)
  refine WL.dn ?_
  refine wp_seq ?_
  clear h54r a54s
  by_cases c553 : x54z < (p0.length : Int)
  ·rw [if_pos c553] at H
   have hb_ : (decide (x54z < (p0.length : Int))) = true := decide_eq_true c553
   try rw [hb_] at h552
   clear hb_
   refine wp_then h552 rfl ?_
   refine wp_skip ?_
   refine wp_seq ?_
   refine wp_block ?_
   refine wp_seq ?_
   refine WL.start ?_
   refine WL.bl 1 1 h552 [(25, i6 x54z)] (fun a554 h555 => ?_)
   clear h552 a551
   by_cases c556 : 0 ≤ x54z
   ·rw [if_pos c556] at H
    have hi559 : 0 ≤ x54z := by first | assumption | omega
    have hi55a : x54z < (p0.length : Int) := by first | assumption | omega
    obtain ⟨ad557, _, ha558, -, -⟩ := Rds.elemAny hp0 hi559 (gt_get (z := []) hi559 hi55a)
    refine WL.oq h555 rfl ?_
    refine owp_rn (.pointer (some (ad557.add (x54z.toNat * 1)))) h555 rfl (run_idx (ad := ad557) (sz := 1) rfl (by rw [← ha558]; rfl) rfl Try.underlying32 (by kernel_rfl) hi559 hi55a) (fun a55b h55c => ?_)
    obtain ⟨ad55d, cs55e, ha55f, hr55h, hc55g⟩ := Rds.elemAny hp0 hi559 (gt_get (z := []) hi559 hi55a)
    rw [ha558] at ha55f; obtain rfl := Option.some.inj ha55f
    obtain ⟨v55i, rfl, hx55j⟩ := hr55h
    obtain ⟨A55k, c55l, rfl⟩ := hx55j.form
    refine WL.oq h55c rfl ?_
    refine owp_rn (.slice A55k (gt [] p0 x54z).length c55l) h55c rfl (run_load1 rfl rfl Try.underlying27 rfl (cell0 (hc55g _ (fun _ _ hk_ => hS54u.kn hk_)))) (fun a55m h55n => ?_)
    refine WL.bl 2 5 h55n [(7, .slice A55k (gt [] p0 x54z).length c55l), (6, i6 x54z)] (fun a55o h55p => ?_)
    refine WL.dn ?_
    refine wp_seq ?_
    refine wp_seq ?_
    refine WL.start ?_
    refine WL.bl 3 3 h55p [(30, .bool (decide (((gt [] p0 x54z).length : Int) > 300))), (29, i6 ((gt [] p0 x54z).length : Int)), (28, .slice A55k (gt [] p0 x54z).length c55l)] (fun a55q h55r => ?_)
    refine WL.dn ?_
    clear h555 a554 h55c a55b h55n a55m h55p a55o
    by_cases c55s : ((gt [] p0 x54z).length : Int) > 300
    ·rw [if_pos c55s] at H
     have hb_ : (decide (((gt [] p0 x54z).length : Int) > 300)) = true := decide_eq_true c55s
     try rw [hb_] at h55r
     clear hb_
     refine wp_then h55r rfl ?_
     refine wp_seq ?_
     refine WL.start ?_
     obtain ⟨r55u, A55t, H⟩ := bind1 H
     refine WL.oq h55r rfl ?_
     refine owp_call [] h55r rfl (by kernel_rfl) rfl Try.func12 (by kernel_rfl) rfl (by kernel_rfl) (louverlaw13qfixed.calls kk550  A55t hS54u) (fun e55w W55v hp55x => ?_)
     obtain ⟨rfl, hS560⟩ := hp55x
     refine ⟨_, rfl, fun a55y h55z => ?_⟩
     refine WL.bl 1 2 h55z [(4, .bool r55u)] (fun a561 h562 => ?_)
     refine WL.dn ?_
     refine wp_ret ?_
     have hS563 := hS560.drop_
     obtain rfl := Option.some.inj H
     repeat (first | with_reducible refine t1 ?_ | with_reducible refine t2 ?_ | with_reducible refine t3 ?_)
     refine bret (.bool r55u) h562 ?_
     exact ⟨rfl, hS563⟩
    ·rw [if_neg c55s] at H
     have hb_ : (decide (((gt [] p0 x54z).length : Int) > 300)) = false := decide_eq_false c55s
     try rw [hb_] at h55r
     clear hb_
     refine wp_else h55r rfl ?_
     refine wp_skip ?_
     refine wp_seq ?_
     refine WL.start ?_
     refine WL.bl 4 4 h55r [(35, .int .u32 (IntKind.u32.wrap (IntKind.i64.wrap (x54z + 1)))), (34, i6 (IntKind.i64.wrap (x54z + 1))), (33, i6 x54z), (32, pt g54m)] (fun a564 h565 => ?_)
     obtain ⟨r567, r568, A566, H⟩ := bind2 H
     refine WL.oq h565 rfl ?_
     refine owp_call [(pt g54m), .int .u32 (IntKind.u32.wrap (IntKind.i64.wrap (x54z + 1))), i6 1000] h565 rfl (by kernel_rfl) rfl Try.func9 (by kernel_rfl) rfl (by kernel_rfl) (turns_Ring_Open.calls kk550 hr54y A566 hS54u) (fun e56a W569 hp56b => ?_)
     obtain ⟨M56e, rfl, hr56f, hS56g⟩ := hp56b
     refine ⟨_, rfl, fun a56c h56d => ?_⟩
     refine WL.bl 2 7 h56d [(38, .bool (!r567)), (37, .bool (!r567))] (fun a56h h56i => ?_)
     clear h55r a55q h565 a564 h56d a56c
     by_cases c56j : r567 = true
     ·rw [if_pos c56j] at H
      have hb_ : r567 = true := c56j
      try rw [hb_] at h56i
      clear hb_
      refine WL.oq h56i rfl (owp_rk (pt g54m) h56i rfl (fun a56k h56l => ?_))
      refine WL.oq h56l rfl (owp_rk (i6 x54z) h56l rfl (fun a56m h56n => ?_))
      refine WL.oq h56n rfl (owp_rk (i6 (IntKind.i64.wrap (x54z + 1))) h56n rfl (fun a56o h56p => ?_))
      refine WL.oq h56p rfl (owp_rk (.int .u32 (IntKind.u32.wrap (IntKind.i64.wrap (x54z + 1)))) h56p rfl (fun a56q h56r => ?_))
      refine WL.oq h56r rfl (owp_rk (.slice A55k (gt [] p0 x54z).length c55l) h56r rfl (fun a56s h56t => ?_))
      obtain ⟨r56v, r56w, A56u, H⟩ := bind2 H
      refine WL.oq h56t rfl ?_
      refine owp_call [(pt g54m), .int .u32 (IntKind.u32.wrap (IntKind.i64.wrap (x54z + 1))), .slice A55k (gt [] p0 x54z).length c55l, .bool true] h56t rfl (by kernel_rfl) rfl Try.func10 (by kernel_rfl) rfl (by kernel_rfl) (turns_Ring_Put.calls kk550 hr56f hx55j A56u hS56g) (fun e56y W56x hp56z => ?_)
      obtain ⟨M572, rfl, hr573, hS574⟩ := hp56z
      refine ⟨_, rfl, fun a570 h571 => ?_⟩
      refine WL.oq h571 rfl (owp_rk (.bool (!r56v)) h571 rfl (fun a575 h576 => ?_))
      refine WL.bl 2 16 h576 [(47, .bool (!r56v)), (46, .bool (!r56v))] (fun a577 h578 => ?_)
      clear h56i a56h h56l a56k h56n a56m h56p a56o h56r a56q h56t a56s h571 a570 h576 a575
      by_cases c579 : r56v = true
      ·rw [if_pos c579] at H
       have hb_ : r56v = true := c579
       try rw [hb_] at h578
       clear hb_
       refine WL.oq h578 rfl (owp_rk (pt g54m) h578 rfl (fun a57a h57b => ?_))
       refine WL.oq h57b rfl (owp_rk (i6 x54z) h57b rfl (fun a57c h57d => ?_))
       refine WL.oq h57d rfl (owp_rk (i6 (IntKind.i64.wrap (x54z + 1))) h57d rfl (fun a57e h57f => ?_))
       refine WL.oq h57f rfl (owp_rk (.int .u32 (IntKind.u32.wrap (IntKind.i64.wrap (x54z + 1)))) h57f rfl (fun a57g h57h => ?_))
       refine WL.oq h57h rfl (owp_rk (.slice A55k (gt [] p0 x54z).length c55l) h57h rfl (fun a57i h57j => ?_))
       obtain ⟨r57l, r57m, A57k, H⟩ := bind2 H
       refine WL.oq h57j rfl ?_
       refine owp_call [(pt g54m), .int .u32 (IntKind.u32.wrap (IntKind.i64.wrap (x54z + 1))), .slice A55k (gt [] p0 x54z).length c55l, .bool false] h57j rfl (by kernel_rfl) rfl Try.func10 (by kernel_rfl) rfl (by kernel_rfl) (turns_Ring_Put.calls kk550 hr573 hx55j A57k hS574) (fun e57o W57n hp57p => ?_)
       obtain ⟨M57s, rfl, hr57t, hS57u⟩ := hp57p
       refine ⟨_, rfl, fun a57q h57r => ?_⟩
       refine WL.bl 1 23 h57r [(54, .bool r57l)] (fun a57v h57w => ?_)
       refine WL.dn ?_
       clear h578 a577 h57b a57a h57d a57c h57f a57e h57h a57g h57j a57i h57r a57q
       by_cases c57x : r57l = true
       ·rw [if_pos c57x] at H
        have hb_ : r57l = true := c57x
        try rw [hb_] at h57w
        clear hb_
        refine wp_then h57w rfl ?_
        refine wp_seq ?_
        refine WL.start ?_
        refine WL.bl 1 1 h57w [(4, .bool false)] (fun a57y h57z => ?_)
        refine WL.dn ?_
        refine wp_ret ?_
        have hS580 := hS57u.drop_
        obtain rfl := Option.some.inj H
        repeat (first | with_reducible refine t1 ?_ | with_reducible refine t2 ?_ | with_reducible refine t3 ?_)
        refine bret (.bool false) h57z ?_
        exact ⟨rfl, hS580⟩
       ·rw [if_neg c57x] at H
        have hb_ : r57l = false := (Bool.eq_false_iff.2 c57x)
        try rw [hb_] at h57w
        clear hb_
        refine wp_else h57w rfl ?_
        refine wp_skip ?_
        refine WL.start ?_
        refine WL.bl 2 2 h57w [(23, i6 (IntKind.i64.wrap (x54z + 1))), (55, i6 (IntKind.i64.wrap (x54z + 1)))] (fun a581 h582 => ?_)
        refine WL.dn ?_
        exact ⟨kk550, by omega, r57m, M57s, IntKind.i64.wrap (x54z + 1), h582.keep ⟨rfl, rfl, rfl, rfl, rfl, rfl, trivial⟩, ⟨H⟩, ⟨by omega⟩, ⟨hS57u⟩, ⟨hr57t⟩⟩
      ·rw [if_neg c579] at H
       have hb_ : r56v = false := (Bool.eq_false_iff.2 c579)
       try rw [hb_] at h578
       clear hb_
       refine WL.sk h578 rfl rfl (fun a583 h584 => ?_)
       refine WL.sk h584 rfl rfl (fun a585 h586 => ?_)
       refine WL.sk h586 rfl rfl (fun a587 h588 => ?_)
       refine WL.sk h588 rfl rfl (fun a589 h58a => ?_)
       refine WL.sk h58a rfl rfl (fun a58b h58c => ?_)
       refine WL.sk h58c rfl rfl (fun a58d h58e => ?_)
       refine WL.bl 1 23 h58e [(54, .bool true)] (fun a58f h58g => ?_)
       refine WL.dn ?_
       refine wp_then h58g rfl ?_
       refine wp_seq ?_
       refine WL.start ?_
       refine WL.bl 1 1 h58g [(4, .bool false)] (fun a58h h58i => ?_)
       refine WL.dn ?_
       refine wp_ret ?_
       have hS58j := hS574.drop_
       obtain rfl := Option.some.inj H
       repeat (first | with_reducible refine t1 ?_ | with_reducible refine t2 ?_ | with_reducible refine t3 ?_)
       refine bret (.bool false) h58i ?_
       exact ⟨rfl, hS58j⟩
     ·rw [if_neg c56j] at H
      have hb_ : r567 = false := (Bool.eq_false_iff.2 c56j)
      try rw [hb_] at h56i
      clear hb_
      refine WL.sk h56i rfl rfl (fun a58k h58l => ?_)
      refine WL.sk h58l rfl rfl (fun a58m h58n => ?_)
      refine WL.sk h58n rfl rfl (fun a58o h58p => ?_)
      refine WL.sk h58p rfl rfl (fun a58q h58r => ?_)
      refine WL.sk h58r rfl rfl (fun a58s h58t => ?_)
      refine WL.sk h58t rfl rfl (fun a58u h58v => ?_)
      refine WL.sk h58v rfl rfl (fun a58w h58x => ?_)
      refine WL.bl 2 16 h58x [(47, .bool true), (46, .bool true)] (fun a58y h58z => ?_)
      refine WL.sk h58z rfl rfl (fun a590 h591 => ?_)
      refine WL.sk h591 rfl rfl (fun a592 h593 => ?_)
      refine WL.sk h593 rfl rfl (fun a594 h595 => ?_)
      refine WL.sk h595 rfl rfl (fun a596 h597 => ?_)
      clear h56i a56h h58l a58k h58n a58m h58p a58o h58r a58q h58t a58s h58v a58u h58x a58w h58z a58y h591 a590 h593 a592 h595 a594
      refine WL.sk h597 rfl rfl (fun a598 h599 => ?_)
      refine WL.sk h599 rfl rfl (fun a59a h59b => ?_)
      refine WL.bl 1 23 h59b [(54, .bool true)] (fun a59c h59d => ?_)
      refine WL.dn ?_
      refine wp_then h59d rfl ?_
      refine wp_seq ?_
      refine WL.start ?_
      refine WL.bl 1 1 h59d [(4, .bool false)] (fun a59e h59f => ?_)
      refine WL.dn ?_
      refine wp_ret ?_
      have hS59g := hS56g.drop_
      obtain rfl := Option.some.inj H
      repeat (first | with_reducible refine t1 ?_ | with_reducible refine t2 ?_ | with_reducible refine t3 ?_)
      refine bret (.bool false) h59f ?_
      exact ⟨rfl, hS59g⟩
   ·rw [if_neg c556] at H
    cases H
  ·rw [if_neg c553] at H
   have hb_ : (decide (x54z < (p0.length : Int))) = false := decide_eq_false c553
   try rw [hb_] at h552
   clear hb_
   refine wp_else h552 rfl ?_
   refine wp_exit ?_
   refine wp_seq ?_
   refine WL.start ?_
   refine WL.bl 2 2 h552 [(57, i6 (p0.length : Int)), (56, .slice A0 p0.length c0)] (fun a59h h59i => ?_)
   clear h552 a551
   by_cases c59j : 0 ≤ (p0.length : Int)
   ·rw [if_pos c59j] at H
    by_cases c59k : (p0.length : Int) * 16 ≤ 140737488355328
    ·rw [if_pos c59k] at H
     refine WL.oq h59i rfl ?_
     refine owp_make' (z := .string (mkS [])) (z0 := []) (bytes := 16) (dk := kStr) h59i rfl (by kernel_rfl) rfl rfl rfl Try.underlying33 (by kernel_rfl) rfl (by decide) ⟨rfl, rfl⟩ hS54u (by first | assumption | omega) (by first | assumption | omega) (by omega) (fun a59l W59n v59o M59p h59m hr59q hS59r => ?_)
     obtain ⟨y59s, hy59t, H⟩ := lete H
     have hr59u : Row kStr 9 b w0 R v59o y59s M59p := by rw [hy59t]; exact hr59q
     clear hr59q
     obtain ⟨A59v, c59w, rfl⟩ := hr59u.form
     refine WL.bl 1 4 h59m [(8, .slice A59v y59s.length c59w)] (fun a59x h59y => ?_)
     refine WL.dn ?_
     refine wp_seq ?_
     refine WL.start ?_
     refine WL.bl 2 2 h59y [(60, i6 (p0.length : Int)), (59, .slice A0 p0.length c0)] (fun a59z h5a0 => ?_)
     clear h59i a59h h59m a59l h59y a59x
     by_cases c5a1 : (p0.length : Int) * 1 ≤ 140737488355328
     ·rw [if_pos c5a1] at H
      refine WL.oq h5a0 rfl ?_
      refine owp_make' (z := .bool false) (z0 := false) (bytes := 1) (dk := kBool) h5a0 rfl (by kernel_rfl) rfl rfl rfl Try.underlying34 (by kernel_rfl) rfl (by decide) ⟨rfl, rfl⟩ hS59r (by first | assumption | omega) (by first | assumption | omega) (by omega) (fun a5a2 W5a4 v5a5 M5a6 h5a3 hr5a7 hS5a8 => ?_)
      obtain ⟨y5a9, hy5aa, H⟩ := lete H
      have hr5ab : Row kBool 4 b w0 R v5a5 y5a9 M5a6 := by rw [hy5aa]; exact hr5a7
      clear hr5a7
      obtain ⟨A5ac, c5ad, rfl⟩ := hr5ab.form
      refine WL.bl 1 4 h5a3 [(9, .slice A5ac y5a9.length c5ad)] (fun a5ae h5af => ?_)
      refine WL.dn ?_
      refine wp_seq ?_
      refine wp_seq ?_
      refine WL.start ?_
      refine WL.bl 1 1 h5af [(62, i6 0)] (fun a5ag h5ah => ?_)
      refine WL.dn ?_
      clear h5a0 a59z h5a3 a5a2 h5af a5ae
      refine wp_meet (I := fun a_ W_ => ∃ kq_, ∃ (x5jy : S69), ∃ (M5jz : Frag), ∃ (x5k1 : (List (List UInt8))), ∃ (A5k2 : Option Addr), ∃ (c5k3 : Nat), ∃ (M5k4 : Frag), ∃ (x5k6 : (List Bool)), ∃ (A5k7 : Option Addr), ∃ (c5k8 : Nat), ∃ (M5k9 : Frag), Hd a_ 147 [(0, .slice A0 p0.length c0), (5, pt g54m), (8, .slice A5k2 x5k1.length c5k3), (9, .slice A5k7 x5k6.length c5k8)] ∧ Asd (louverlaw13qTurnsEnds.j1 kq_ x5jy x5k1 x5k6 p0 = some r0q) ∧ Asd (kq_ ≤ kk550) ∧ Asd (St b w0 W_ R (M5jz :: M5k4 :: M5k9 :: Fs)) ∧ Asd (Ptr k69 69 b w0 R (pt g54m) x5jy M5jz) ∧ Asd (Row kStr 9 b w0 R (.slice A5k2 x5k1.length c5k3) x5k1 M5k4) ∧ Asd (Row kBool 4 b w0 R (.slice A5k7 x5k6.length c5k8) x5k6 M5k9)) ?_ ?_
      ·refine wp_block ?_
       have hS5ku := hS5a8.b1
       have hS5kv := hS5ku.b2
       refine wp_loop_ghost (fun kq_ a_ W_ => ∃ (x5kg : S69), ∃ (M5kh : Frag), ∃ (x5kj : (List (List UInt8))), ∃ (A5kk : Option Addr), ∃ (c5kl : Nat), ∃ (M5km : Frag), ∃ (x5ko : (List Bool)), ∃ (A5kp : Option Addr), ∃ (c5kq : Nat), ∃ (M5kr : Frag), ∃ (x5kt : Int), Hd a_ 147 [(0, .slice A0 p0.length c0), (1, .int .u8 p1), (5, pt g54m), (8, .slice A5kk x5kj.length c5kl), (9, .slice A5kp x5ko.length c5kq), (62, i6 x5kt)] ∧ Asd (louverlaw13qTurnsEnds.l2 kq_ x5kg x5kj x5ko x5kt p0 p1 = some r0q) ∧ Asd (kq_ ≤ kk550) ∧ Asd (St b w0 W_ R (M5kh :: M5km :: M5kr :: Fs)) ∧ Asd (Ptr k69 69 b w0 R (pt g54m) x5kg M5kh) ∧ Asd (Row kStr 9 b w0 R (.slice A5kk x5kj.length c5kl) x5kj M5km) ∧ Asd (Row kBool 4 b w0 R (.slice A5kp x5ko.length c5kq) x5ko M5kr)) kk550 ⟨x54w, M54x, y59s, A59v, c59w, M59p, y5a9, A5ac, c5ad, M5a6, 0, h5ah.keep ⟨rfl, rfl, rfl, rfl, rfl, rfl, trivial⟩, ⟨H⟩, ⟨Nat.le_refl _⟩, ⟨hS5kv⟩, ⟨hr54y⟩, ⟨hr59u⟩, ⟨hr5ab⟩⟩ ?_
       clear H hS5kv
       rintro kk5kf a5kc W5kd ⟨x5kg, M5kh, x5kj, A5kk, c5kl, M5km, x5ko, A5kp, c5kq, M5kr, x5kt, h5kb, ⟨H⟩, ⟨hkkk5kf⟩, ⟨hS5ke⟩, ⟨hr5ki⟩, ⟨hr5kn⟩, ⟨hr5ks⟩⟩
       obtain _ | kk5kw := kk5kf
       ·exact absurd H (by simp [louverlaw13qTurnsEnds.l2])
       simp only [louverlaw13qTurnsEnds.l2] at H
       refine wp_seq ?_
       refine WL.start ?_
       refine WL.bl 1 1 h5kb [(63, .bool (decide (x5kt < 6020)))] (fun a5kx h5ky => ?_)
       refine WL.dn ?_
       refine wp_seq ?_
       clear h5kb a5kc
       by_cases c5kz : x5kt < 6020
       ·rw [if_pos c5kz] at H
        have hb_ : (decide (x5kt < 6020)) = true := decide_eq_true c5kz
        try rw [hb_] at h5ky
        clear hb_
        refine wp_then h5ky rfl ?_
        refine wp_skip ?_
        refine wp_seq ?_
        refine wp_block ?_
        refine wp_seq ?_
        refine WL.start ?_
        refine WL.bl 3 3 h5ky [(67, i6 (IntKind.i64.wrap p1)), (66, .int .u8 p1), (65, pt g54m)] (fun a5l0 h5l1 => ?_)
        obtain ⟨r5l3, r5l4, r5l5, r5l6, r5l7, A5l2, H⟩ := bind5 H
        refine WL.oq h5l1 rfl ?_
        refine owp_call [(pt g54m), i6 (IntKind.i64.wrap p1)] h5l1 rfl (by kernel_rfl) rfl Try.func11 (by kernel_rfl) rfl (by kernel_rfl) (turns_Ring_Next.calls kk5kw hr5ki A5l2 hS5ke) (fun e5l9 W5l8 hp5la => ?_)
        obtain ⟨v5ld, M5le, M5lg, rfl, hr5lf, hr5lh, hS5li⟩ := hp5la
        refine ⟨_, rfl, fun a5lb h5lc => ?_⟩
        obtain ⟨A5lj, c5lk, rfl⟩ := hr5lf.form
        refine WL.bl 9 13 h5lc [(13, .bool r5l6), (12, .bool r5l5), (11, .slice A5lj r5l4.length c5lk), (10, .int .u32 r5l3), (72, .bool r5l6), (71, .bool r5l5), (70, .slice A5lj r5l4.length c5lk), (69, .int .u32 r5l3), (64, .tuple #[.int .u32 r5l3, .slice A5lj r5l4.length c5lk, .bool r5l5, .bool r5l6])] (fun a5ll h5lm => ?_)
        refine WL.dn ?_
        refine wp_seq ?_
        refine wp_seq ?_
        refine WL.start ?_
        refine WL.bl 2 2 h5lm [(74, .bool (!r5l6)), (73, .bool r5l6)] (fun a5ln h5lo => ?_)
        refine WL.dn ?_
        clear h5ky a5kx h5l1 a5l0 h5lc a5lb h5lm a5ll
        by_cases c5lp : r5l6 = true
        ·rw [if_pos c5lp] at H
         have hb_ : r5l6 = true := c5lp
         try rw [hb_] at h5lo
         clear hb_
         refine wp_else h5lo rfl ?_
         refine wp_skip ?_
         refine wp_seq ?_
         refine wp_seq ?_
         refine WL.start ?_
         refine WL.bl 3 3 h5lo [(77, .bool (decide (r5l3 < 1))), (76, .bool (decide (r5l3 < 1))), (75, .int .u32 r5l3)] (fun a5lq h5lr => ?_)
         clear h5lo a5ln
         by_cases c5ls : r5l3 < 1
         ·rw [if_pos c5ls] at H
          have hb_ : (decide (r5l3 < 1)) = true := decide_eq_true c5ls
          try rw [hb_] at h5lr
          clear hb_
          refine WL.sk h5lr rfl rfl (fun a5lt h5lu => ?_)
          refine WL.sk h5lu rfl rfl (fun a5lv h5lw => ?_)
          refine WL.sk h5lw rfl rfl (fun a5lx h5ly => ?_)
          refine WL.sk h5ly rfl rfl (fun a5lz h5m0 => ?_)
          refine WL.sk h5m0 rfl rfl (fun a5m1 h5m2 => ?_)
          refine WL.bl 2 10 h5m2 [(84, .bool true), (83, .bool true)] (fun a5m3 h5m4 => ?_)
          refine WL.sk h5m4 rfl rfl (fun a5m5 h5m6 => ?_)
          refine WL.sk h5m6 rfl rfl (fun a5m7 h5m8 => ?_)
          refine WL.sk h5m8 rfl rfl (fun a5m9 h5ma => ?_)
          refine WL.sk h5ma rfl rfl (fun a5mb h5mc => ?_)
          refine WL.sk h5mc rfl rfl (fun a5md h5me => ?_)
          refine WL.bl 1 16 h5me [(90, .bool true)] (fun a5mf h5mg => ?_)
          clear h5lr a5lq h5lu a5lt h5lw a5lv h5ly a5lx h5m0 a5lz h5m2 a5m1 h5m4 a5m3 h5m6 a5m5 h5m8 a5m7 h5ma a5m9 h5mc a5mb h5me a5md
          refine WL.dn ?_
          refine wp_then h5mg rfl ?_
          refine wp_seq ?_
          refine WL.start ?_
          refine WL.bl 1 1 h5mg [(4, .bool false)] (fun a5mh h5mi => ?_)
          refine WL.dn ?_
          refine wp_ret ?_
          have hS5mj := hS5li.drop_
          have hS5mk := hS5mj.drop_
          have hS5ml := hS5mk.drop_
          have hS5mm := hS5ml.drop_
          obtain rfl := Option.some.inj H
          repeat (first | with_reducible refine t1 ?_ | with_reducible refine t2 ?_ | with_reducible refine t3 ?_)
          refine bret (.bool false) h5mi ?_
          exact ⟨rfl, hS5mm⟩
         ·rw [if_neg c5ls] at H
          have hb_ : (decide (r5l3 < 1)) = false := decide_eq_false c5ls
          try rw [hb_] at h5lr
          clear hb_
          refine WL.oq h5lr rfl (owp_rk (.int .u32 r5l3) h5lr rfl (fun a5mn h5mo => ?_))
          refine WL.oq h5mo rfl (owp_rk (i6 (IntKind.i64.wrap r5l3)) h5mo rfl (fun a5mp h5mq => ?_))
          refine WL.oq h5mq rfl (owp_rk (.slice A0 p0.length c0) h5mq rfl (fun a5mr h5ms => ?_))
          refine WL.oq h5ms rfl (owp_rk (i6 (p0.length : Int)) h5ms rfl (fun a5mt h5mu => ?_))
          refine WL.oq h5mu rfl (owp_rk (.bool (decide ((IntKind.i64.wrap r5l3) > (p0.length : Int)))) h5mu rfl (fun a5mv h5mw => ?_))
          refine WL.bl 2 10 h5mw [(84, .bool (decide ((IntKind.i64.wrap r5l3) > (p0.length : Int)))), (83, .bool (decide ((IntKind.i64.wrap r5l3) > (p0.length : Int))))] (fun a5mx h5my => ?_)
          clear h5lr a5lq h5mo a5mn h5mq a5mp h5ms a5mr h5mu a5mt h5mw a5mv
          by_cases c5mz : (IntKind.i64.wrap r5l3) > (p0.length : Int)
          ·rw [if_pos c5mz] at H
           have hb_ : (decide ((IntKind.i64.wrap r5l3) > (p0.length : Int))) = true := decide_eq_true c5mz
           try rw [hb_] at h5my
           clear hb_
           refine WL.sk h5my rfl rfl (fun a5n0 h5n1 => ?_)
           refine WL.sk h5n1 rfl rfl (fun a5n2 h5n3 => ?_)
           refine WL.sk h5n3 rfl rfl (fun a5n4 h5n5 => ?_)
           refine WL.sk h5n5 rfl rfl (fun a5n6 h5n7 => ?_)
           refine WL.sk h5n7 rfl rfl (fun a5n8 h5n9 => ?_)
           refine WL.bl 1 16 h5n9 [(90, .bool true)] (fun a5na h5nb => ?_)
           refine WL.dn ?_
           refine wp_then h5nb rfl ?_
           refine wp_seq ?_
           refine WL.start ?_
           refine WL.bl 1 1 h5nb [(4, .bool false)] (fun a5nc h5nd => ?_)
           refine WL.dn ?_
           refine wp_ret ?_
           have hS5ne := hS5li.drop_
           have hS5nf := hS5ne.drop_
           have hS5ng := hS5nf.drop_
           have hS5nh := hS5ng.drop_
           obtain rfl := Option.some.inj H
           repeat (first | with_reducible refine t1 ?_ | with_reducible refine t2 ?_ | with_reducible refine t3 ?_)
           refine bret (.bool false) h5nd ?_
           exact ⟨rfl, hS5nh⟩
          ·rw [if_neg c5mz] at H
           have hb_ : (decide ((IntKind.i64.wrap r5l3) > (p0.length : Int))) = false := decide_eq_false c5mz
           try rw [hb_] at h5my
           clear hb_
           refine WL.oq h5my rfl (owp_rk (.slice A5kp x5ko.length c5kq) h5my rfl (fun a5ni h5nj => ?_))
           refine WL.oq h5nj rfl (owp_rk (.int .u32 r5l3) h5nj rfl (fun a5nk h5nl => ?_))
           refine WL.oq h5nl rfl (owp_rk (.int .u32 (IntKind.u32.wrap (r5l3 - 1))) h5nl rfl (fun a5nm h5nn => ?_))
           clear h5my a5mx h5nj a5ni h5nl a5nk
           by_cases c5no : 0 ≤ (IntKind.u32.wrap (r5l3 - 1))
           ·rw [if_pos c5no] at H
            by_cases c5np : (IntKind.u32.wrap (r5l3 - 1)) < (x5ko.length : Int)
            ·rw [if_pos c5np] at H
             have hi5ns : 0 ≤ IntKind.u32.wrap (r5l3 - 1) := by first | assumption | omega
             have hi5nt : (IntKind.u32.wrap (r5l3 - 1)) < (x5ko.length : Int) := by first | assumption | omega
             obtain ⟨ad5nq, _, ha5nr, -, -⟩ := Rds.elemAny hr5ks.rds hi5ns (gt_get (z := false) hi5ns hi5nt)
             refine WL.oq h5nn rfl ?_
             refine owp_rn (.pointer (some (ad5nq.add ((IntKind.u32.wrap (r5l3 - 1)).toNat * 1)))) h5nn rfl (run_idx (ad := ad5nq) (sz := 1) rfl (by rw [← ha5nr]; rfl) rfl Try.underlying34 (by kernel_rfl) hi5ns hi5nt) (fun a5nu h5nv => ?_)
             have hS5nw := hS5li.b3
             obtain ⟨ad5nx, cs5ny, ha5nz, hr5o1, hc5o0⟩ := Rds.elemAny hr5ks.rds hi5ns (gt_get (z := false) hi5ns hi5nt)
             rw [ha5nr] at ha5nz; obtain rfl := Option.some.inj ha5nz
             obtain rfl : cs5ny = [.bool (gt false x5ko (IntKind.u32.wrap (r5l3 - 1)))] := hr5o1
             refine WL.oq h5nv rfl ?_
             refine owp_rn (.bool (gt false x5ko (IntKind.u32.wrap (r5l3 - 1)))) h5nv rfl (run_load1 rfl rfl Try.underlying4 rfl (cell0 (hc5o0 _ (fun _ _ hk_ => (hS5nw).pool.kn hk_)))) (fun a5o2 h5o3 => ?_)
             refine WL.bl 1 16 h5o3 [(90, .bool (gt false x5ko (IntKind.u32.wrap (r5l3 - 1))))] (fun a5o4 h5o5 => ?_)
             refine WL.dn ?_
             clear h5nn a5nm h5nv a5nu h5o3 a5o2
             by_cases c5o6 : (gt false x5ko (IntKind.u32.wrap (r5l3 - 1))) = true
             ·rw [if_pos c5o6] at H
              have hb_ : (gt false x5ko (IntKind.u32.wrap (r5l3 - 1))) = true := c5o6
              try rw [hb_] at h5o5
              clear hb_
              refine wp_then h5o5 rfl ?_
              refine wp_seq ?_
              refine WL.start ?_
              refine WL.bl 1 1 h5o5 [(4, .bool false)] (fun a5o7 h5o8 => ?_)
              refine WL.dn ?_
              refine wp_ret ?_
              have hS5o9 := hS5nw.drop_
              have hS5oa := hS5o9.drop_
              have hS5ob := hS5oa.drop_
              have hS5oc := hS5ob.drop_
              obtain rfl := Option.some.inj H
              repeat (first | with_reducible refine t1 ?_ | with_reducible refine t2 ?_ | with_reducible refine t3 ?_)
              refine bret (.bool false) h5o8 ?_
              exact ⟨rfl, hS5oc⟩
             ·rw [if_neg c5o6] at H
              have hb_ : (gt false x5ko (IntKind.u32.wrap (r5l3 - 1))) = false := (Bool.eq_false_iff.2 c5o6)
              try rw [hb_] at h5o5
              clear hb_
              refine wp_else h5o5 rfl ?_
              refine wp_skip ?_
              refine wp_seq ?_
              refine WT.start 9 (fun w_ => (∀ a_ u_, Kn b w0 (M5km ++ R) a_ u_ → w_.cell? a_ = some u_) ∧ (∀ a_ u_, Kn b w0 (M5le ++ R) a_ u_ → w_.cell? a_ = some u_) ∧ True) (by kernel_rfl) #[false, false, false, false, false, false, false, false, false, false] 10 rfl rfl ?_
              have hS5rd := hS5nw.drew
              refine WT.tk 0 h5o5 rfl rfl (.slice A5kk x5kj.length c5kl) (fun _ _ => by kernel_rfl) ⟨(fun _ _ hk_ => (hS5rd.bring 3 rfl rfl).pool.kn hk_), (fun _ _ hk_ => (hS5rd.bring 1 rfl rfl).pool.kn hk_), trivial⟩ (fun a5re s5rg h5rf => ?_)
              refine WT.tk 1 h5rf rfl rfl (.int .u32 r5l3) (fun _ _ => by kernel_rfl) s5rg (fun a5rh s5rj h5ri => ?_)
              refine WT.tk 2 h5ri rfl rfl (.int .u32 (IntKind.u32.wrap (r5l3 - 1))) (fun _ _ => by kernel_rfl) s5rj (fun a5rk s5rm h5rl => ?_)
              refine WT.tk 5 h5rl rfl rfl (.slice A5lj r5l4.length c5lk) (fun _ _ => by kernel_rfl) s5rm (fun a5rn s5rp h5ro => ?_)
              clear h5o5 a5o4 h5rf a5re h5ri a5rh h5rl a5rk
              by_cases c5rq : (IntKind.u32.wrap (r5l3 - 1)) < (x5kj.length : Int)
              ·rw [if_pos c5rq] at H
               have hi5rt : 0 ≤ IntKind.u32.wrap (r5l3 - 1) := by first | assumption | omega
               have hi5ru : (IntKind.u32.wrap (r5l3 - 1)) < (x5kj.length : Int) := by first | assumption | omega
               obtain ⟨ad5rr, _, ha5rs, -, -⟩ := Rds.elemAny hr5kn.rds hi5rt (gt_get (z := []) hi5rt hi5ru)
               refine WT.tk 3 h5ro rfl rfl (.pointer (some (ad5rr.add ((IntKind.u32.wrap (r5l3 - 1)).toNat * 1)))) (fun w_ hs_ => (run_idx (ad := ad5rr) (sz := 1) rfl (by rw [← ha5rs]; rfl) rfl Try.underlying33 (by kernel_rfl) hi5rt hi5ru)) s5rp (fun a5rv s5rx h5rw => ?_)
               obtain ⟨ad5ry, cs5rz, ha5s0, hr5s2, hc5s1⟩ := Rds.elemAny hr5kn.rds hi5rt (gt_get (z := []) hi5rt hi5ru)
               rw [ha5rs] at ha5s0; obtain rfl := Option.some.inj ha5s0
               obtain rfl : cs5rz = [.string (mkS (gt [] x5kj (IntKind.u32.wrap (r5l3 - 1))))] := hr5s2
               refine WT.tk 4 h5rw rfl rfl (.string (mkS (gt [] x5kj (IntKind.u32.wrap (r5l3 - 1))))) (fun w_ hs_ => (run_load1 rfl rfl Try.underlying9 rfl (cell0 (hc5s1 _ hs_.1)))) s5rx (fun a5s3 s5s5 h5s4 => ?_)
               refine WT.tk 6 h5s4 rfl rfl (.string (mkS (toS r5l4))) (fun w_ hs_ => (run_tostr rfl rfl hr5lf.rds hs_.2.1 Try.underlying27 Try.underlying5 Try.underlying9)) s5s5 (fun a5s6 s5s8 h5s7 => ?_)
               clear h5ro a5rn h5rw a5rv h5s4 a5s3
               by_cases c5s9 : (gt [] x5kj (IntKind.u32.wrap (r5l3 - 1))).length + (toS r5l4).length ≤ 9223372036854775807
               ·rw [if_pos c5s9] at H
                refine WT.tk 7 h5s7 rfl rfl (.string (mkS ((gt [] x5kj (IntKind.u32.wrap (r5l3 - 1))) ++ (toS r5l4)))) (fun w_ hs_ => (run_concat rfl rfl rfl (by assumption))) s5s8 (fun a5sa s5sc h5sb => ?_)
                have hi5sf : 0 ≤ IntKind.u32.wrap (r5l3 - 1) := by first | assumption | omega
                have hi5sg : (IntKind.u32.wrap (r5l3 - 1)) < (x5kj.length : Int) := by first | assumption | omega
                obtain ⟨ad5sd, _, ha5se, -, -⟩ := Rds.elemAny hr5kn.rds hi5sf (gt_get (z := []) hi5sf hi5sg)
                refine WT.tk 8 h5sb rfl rfl (.pointer (some (ad5sd.add ((IntKind.u32.wrap (r5l3 - 1)).toNat * 1)))) (fun w_ hs_ => (run_idx (ad := ad5sd) (sz := 1) rfl (by rw [← ha5se]; rfl) rfl Try.underlying33 (by kernel_rfl) hi5sf hi5sg)) s5sc (fun a5sh s5sj h5si => ?_)
                have hS5sk := hS5rd.b3
                refine WT.o1 9 h5si rfl ?_
                refine owp_setelem (j := 0) (vs := [.string (mkS ((gt [] x5kj (IntKind.u32.wrap (r5l3 - 1))) ++ (toS r5l4)))]) (x' := (gt [] x5kj (IntKind.u32.wrap (r5l3 - 1))) ++ (toS r5l4)) h5si rfl (by kernel_rfl) rfl rfl rfl rfl (by simp [Value.oneCell']) (by kernel_rfl) ha5se hr5kn hS5sk hi5sf (gt_get (z := []) hi5sf hi5sg) (Nat.le_refl _) (by rintro _ _ ⟨rfl, rfl⟩; exact ⟨rfl, rfl⟩) (fun a5sl W5sn M5so h5sm hr5sp hS5sq => ?_)
                obtain ⟨y5sr, hy5ss, H⟩ := lete H
                have hl5st : y5sr.length = x5kj.length := by simp [hy5ss]
                have hr5su : Row kStr 9 b w0 R (.slice A5kk y5sr.length c5kl) y5sr M5so := by rw [hl5st]; rw [hy5ss]; exact hr5sp
                have h5sv : Hd a5sl 147 [(0, .slice A0 p0.length c0), (1, .int .u8 p1), (5, pt g54m), (8, .slice A5kk y5sr.length c5kl), (9, .slice A5kp x5ko.length c5kq), (10, .int .u32 r5l3), (11, .slice A5lj r5l4.length c5lk), (12, .bool r5l5), (13, .bool true), (62, i6 x5kt), (63, .bool true), (64, .tuple #[.int .u32 r5l3, .slice A5lj r5l4.length c5lk, .bool r5l5, .bool true]), (65, pt g54m), (66, .int .u8 p1), (67, i6 (IntKind.i64.wrap p1)), (68, .tuple #[.int .u32 r5l3, .slice A5lj r5l4.length c5lk, .bool r5l5, .bool true]), (69, .int .u32 r5l3), (70, .slice A5lj r5l4.length c5lk), (71, .bool r5l5), (72, .bool true), (73, .bool true), (74, .bool false), (75, .int .u32 r5l3), (76, .bool false), (77, .bool false), (78, .int .u32 r5l3), (79, i6 (IntKind.i64.wrap r5l3)), (80, .slice A0 p0.length c0), (81, i6 (p0.length : Int)), (82, .bool false), (83, .bool false), (84, .bool false), (85, .slice A5kp x5ko.length c5kq), (86, .int .u32 r5l3), (87, .int .u32 (IntKind.u32.wrap (r5l3 - 1))), (88, .pointer (some (ad5nq.add ((IntKind.u32.wrap (r5l3 - 1)).toNat * 1)))), (89, .bool false), (90, .bool false), (91, .slice A5kk y5sr.length c5kl), (92, .int .u32 r5l3), (93, .int .u32 (IntKind.u32.wrap (r5l3 - 1))), (94, .pointer (some (ad5rr.add ((IntKind.u32.wrap (r5l3 - 1)).toNat * 1)))), (95, .string (mkS (gt [] x5kj (IntKind.u32.wrap (r5l3 - 1))))), (96, .slice A5lj r5l4.length c5lk), (97, .string (mkS (toS r5l4))), (98, .string (mkS ((gt [] x5kj (IntKind.u32.wrap (r5l3 - 1))) ++ (toS r5l4)))), (99, .pointer (some (ad5sd.add ((IntKind.u32.wrap (r5l3 - 1)).toNat * 1))))] := h5sm.keep ⟨rfl, rfl, rfl, (by rw [hl5st] <;> rfl), rfl, rfl, rfl, rfl, rfl, rfl, rfl, rfl, rfl, rfl, rfl, rfl, rfl, rfl, rfl, rfl, rfl, rfl, rfl, rfl, rfl, rfl, rfl, rfl, rfl, rfl, rfl, rfl, rfl, rfl, rfl, rfl, rfl, rfl, (by rw [hl5st] <;> rfl), rfl, rfl, rfl, rfl, rfl, rfl, rfl, rfl, trivial⟩
                clear h5sm
                refine ⟨.inl (by decide), ?_⟩
                refine WT.dn ?_
                refine WL.start ?_
                refine WL.bl 4 4 h5sv [(103, .bool r5l5), (102, .int .u32 (IntKind.u32.wrap (r5l3 - 1))), (101, .int .u32 r5l3), (100, .slice A5kp x5ko.length c5kq)] (fun a5sw h5sx => ?_)
                have hi5t0 : 0 ≤ IntKind.u32.wrap (r5l3 - 1) := by first | assumption | omega
                have hi5t1 : (IntKind.u32.wrap (r5l3 - 1)) < (x5ko.length : Int) := by first | assumption | omega
                obtain ⟨ad5sy, _, ha5sz, -, -⟩ := Rds.elemAny hr5ks.rds hi5t0 (gt_get (z := false) hi5t0 hi5t1)
                refine WL.oq h5sx rfl ?_
                refine owp_rn (.pointer (some (ad5sy.add ((IntKind.u32.wrap (r5l3 - 1)).toNat * 1)))) h5sx rfl (run_idx (ad := ad5sy) (sz := 1) rfl (by rw [← ha5sz]; rfl) rfl Try.underlying34 (by kernel_rfl) hi5t0 hi5t1) (fun a5t2 h5t3 => ?_)
                have hS5t4 := hS5sq.b1
                refine WL.oq h5t3 rfl ?_
                refine owp_setelem (j := 0) (vs := [.bool r5l5]) (x' := r5l5) h5t3 rfl (by kernel_rfl) rfl rfl rfl rfl (by simp [Value.oneCell']) (by kernel_rfl) ha5sz hr5ks hS5t4 hi5t0 (gt_get (z := false) hi5t0 hi5t1) (Nat.le_refl _) (by rintro _ _ ⟨rfl, rfl⟩; exact ⟨rfl, rfl⟩) (fun a5t5 W5t7 M5t8 h5t6 hr5t9 hS5ta => ?_)
                obtain ⟨y5tb, hy5tc, H⟩ := lete H
                have hl5td : y5tb.length = x5ko.length := by simp [hy5tc]
                have hr5te : Row kBool 4 b w0 R (.slice A5kp y5tb.length c5kq) y5tb M5t8 := by rw [hl5td]; rw [hy5tc]; exact hr5t9
                have h5tf : Hd a5t5 147 [(0, .slice A0 p0.length c0), (1, .int .u8 p1), (5, pt g54m), (8, .slice A5kk y5sr.length c5kl), (9, .slice A5kp y5tb.length c5kq), (10, .int .u32 r5l3), (11, .slice A5lj r5l4.length c5lk), (12, .bool r5l5), (13, .bool true), (62, i6 x5kt), (63, .bool true), (64, .tuple #[.int .u32 r5l3, .slice A5lj r5l4.length c5lk, .bool r5l5, .bool true]), (65, pt g54m), (66, .int .u8 p1), (67, i6 (IntKind.i64.wrap p1)), (68, .tuple #[.int .u32 r5l3, .slice A5lj r5l4.length c5lk, .bool r5l5, .bool true]), (69, .int .u32 r5l3), (70, .slice A5lj r5l4.length c5lk), (71, .bool r5l5), (72, .bool true), (73, .bool true), (74, .bool false), (75, .int .u32 r5l3), (76, .bool false), (77, .bool false), (78, .int .u32 r5l3), (79, i6 (IntKind.i64.wrap r5l3)), (80, .slice A0 p0.length c0), (81, i6 (p0.length : Int)), (82, .bool false), (83, .bool false), (84, .bool false), (85, .slice A5kp y5tb.length c5kq), (86, .int .u32 r5l3), (87, .int .u32 (IntKind.u32.wrap (r5l3 - 1))), (88, .pointer (some (ad5nq.add ((IntKind.u32.wrap (r5l3 - 1)).toNat * 1)))), (89, .bool false), (90, .bool false), (91, .slice A5kk y5sr.length c5kl), (92, .int .u32 r5l3), (93, .int .u32 (IntKind.u32.wrap (r5l3 - 1))), (94, .pointer (some (ad5rr.add ((IntKind.u32.wrap (r5l3 - 1)).toNat * 1)))), (95, .string (mkS (gt [] x5kj (IntKind.u32.wrap (r5l3 - 1))))), (96, .slice A5lj r5l4.length c5lk), (97, .string (mkS (toS r5l4))), (98, .string (mkS ((gt [] x5kj (IntKind.u32.wrap (r5l3 - 1))) ++ (toS r5l4)))), (99, .pointer (some (ad5sd.add ((IntKind.u32.wrap (r5l3 - 1)).toNat * 1)))), (100, .slice A5kp y5tb.length c5kq), (101, .int .u32 r5l3), (102, .int .u32 (IntKind.u32.wrap (r5l3 - 1))), (103, .bool r5l5), (104, .pointer (some (ad5sy.add ((IntKind.u32.wrap (r5l3 - 1)).toNat * 1))))] := h5t6.keep ⟨rfl, rfl, rfl, rfl, (by rw [hl5td] <;> rfl), rfl, rfl, rfl, rfl, rfl, rfl, rfl, rfl, rfl, rfl, rfl, rfl, rfl, rfl, rfl, rfl, rfl, rfl, rfl, rfl, rfl, rfl, rfl, rfl, rfl, rfl, rfl, (by rw [hl5td] <;> rfl), rfl, rfl, rfl, rfl, rfl, rfl, rfl, rfl, rfl, rfl, rfl, rfl, rfl, rfl, (by rw [hl5td] <;> rfl), rfl, rfl, rfl, rfl, trivial⟩
                clear h5t6
                refine WL.dn ?_
                refine WL.start ?_
                refine WL.bl 2 2 h5tf [(62, i6 (IntKind.i64.wrap (x5kt + 1))), (105, i6 (IntKind.i64.wrap (x5kt + 1)))] (fun a5tg h5th => ?_)
                refine WL.dn ?_
                have hS5ti := hS5ta.b2
                have hS5tj := hS5ti.drop_
                have hS5tk := hS5tj.b1
                have hS5tl := hS5tk.b2
                exact ⟨kk5kw, by omega, r5l7, M5lg, y5sr, A5kk, c5kl, M5so, y5tb, A5kp, c5kq, M5t8, IntKind.i64.wrap (x5kt + 1), h5th.keep ⟨rfl, rfl, rfl, rfl, rfl, rfl, trivial⟩, ⟨H⟩, ⟨by omega⟩, ⟨hS5tl⟩, ⟨hr5lh⟩, ⟨hr5su⟩, ⟨hr5te⟩⟩
               ·rw [if_neg c5s9] at H
                cases H
              ·rw [if_neg c5rq] at H
               cases H
            ·rw [if_neg c5np] at H
             cases H
           ·rw [if_neg c5no] at H
            cases H
        ·rw [if_neg c5lp] at H
         have hb_ : r5l6 = false := (Bool.eq_false_iff.2 c5lp)
         try rw [hb_] at h5lo
         clear hb_
         refine wp_then h5lo rfl ?_
         refine wp_exit ?_
         have hS5tm := hS5li.drop_
         exact ⟨kk5kw, r5l7, M5lg, x5kj, A5kk, c5kl, M5km, x5ko, A5kp, c5kq, M5kr, h5lo.keep ⟨rfl, rfl, rfl, rfl, trivial⟩, ⟨H⟩, ⟨by omega⟩, ⟨hS5tm⟩, ⟨hr5lh⟩, ⟨hr5kn⟩, ⟨hr5ks⟩⟩
       ·rw [if_neg c5kz] at H
        have hb_ : (decide (x5kt < 6020)) = false := decide_eq_false c5kz
        try rw [hb_] at h5ky
        clear hb_
        refine wp_else h5ky rfl ?_
        refine wp_exit ?_
        exact ⟨kk5kw, x5kg, M5kh, x5kj, A5kk, c5kl, M5km, x5ko, A5kp, c5kq, M5kr, h5ky.keep ⟨rfl, rfl, rfl, rfl, trivial⟩, ⟨H⟩, ⟨by omega⟩, ⟨hS5ke⟩, ⟨hr5ki⟩, ⟨hr5kn⟩, ⟨hr5ks⟩⟩
      ·clear H hS5a8
       rintro a5ju W5jv ⟨kk5jx, x5jy, M5jz, x5k1, A5k2, c5k3, M5k4, x5k6, A5k7, c5k8, M5k9, h5jt, ⟨H⟩, ⟨hkkk5jx⟩, ⟨hS5jw⟩, ⟨hr5k0⟩, ⟨hr5k5⟩, ⟨hr5ka⟩⟩
       obtain _ | kk5tn := kk5jx
       ·exact absurd H (by simp [louverlaw13qTurnsEnds.j1])
       simp only [louverlaw13qTurnsEnds.j1] at H
       refine wp_seq ?_
       refine wp_seq ?_
       refine WL.start ?_
       refine WL.bl 3 3 h5jt [(108, i6 0), (107, i6 (p0.length : Int)), (106, .slice A0 p0.length c0)] (fun a5to h5tp => ?_)
       refine WL.dn ?_
       refine wp_block ?_
       clear h5jt a5ju
       refine wp_loop_ghost (fun kq_ a_ W_ => ∃ (M5tv : Frag), ∃ (x5tx : Int), Hd a_ 147 [(5, pt g54m), (8, .slice A5k2 x5k1.length c5k3), (9, .slice A5k7 x5k6.length c5k8), (106, .slice A0 p0.length c0), (107, i6 (p0.length : Int)), (108, i6 x5tx)] ∧ Asd (louverlaw13qTurnsEnds.l3 kq_ x5tx p0 x5jy x5k1 x5k6 = some r0q) ∧ Asd (kq_ ≤ kk5tn) ∧ Asd (St b w0 W_ R (M5tv :: M5k4 :: M5k9 :: Fs)) ∧ Asd (Ptr k69 69 b w0 R (pt g54m) x5jy M5tv)) kk5tn ⟨M5jz, 0, h5tp.keep ⟨rfl, rfl, rfl, rfl, rfl, rfl, trivial⟩, ⟨H⟩, ⟨Nat.le_refl _⟩, ⟨hS5jw⟩, ⟨hr5k0⟩⟩ ?_
       clear H hS5jw
       rintro kk5tu a5tr W5ts ⟨M5tv, x5tx, h5tq, ⟨H⟩, ⟨hkkk5tu⟩, ⟨hS5tt⟩, ⟨hr5tw⟩⟩
       obtain _ | kk5ty := kk5tu
       ·exact absurd H (by simp [louverlaw13qTurnsEnds.l3])
       simp only [louverlaw13qTurnsEnds.l3] at H
       refine wp_seq ?_
       refine WL.start ?_
       refine WL.bl 1 1 h5tq [(109, .bool (decide (x5tx < (p0.length : Int))))] (fun a5tz h5u0 => ?_)
       refine WL.dn ?_
       refine wp_seq ?_
       clear h5tq a5tr
       by_cases c5u1 : x5tx < (p0.length : Int)
       ·rw [if_pos c5u1] at H
        have hb_ : (decide (x5tx < (p0.length : Int))) = true := decide_eq_true c5u1
        try rw [hb_] at h5u0
        clear hb_
        refine wp_then h5u0 rfl ?_
        refine wp_skip ?_
        refine wp_seq ?_
        refine wp_block ?_
        refine wp_seq ?_
        refine WL.start ?_
        refine WL.bl 1 1 h5u0 [(110, i6 x5tx)] (fun a5u2 h5u3 => ?_)
        clear h5u0 a5tz
        by_cases c5u4 : 0 ≤ x5tx
        ·rw [if_pos c5u4] at H
         have hi5u7 : 0 ≤ x5tx := by first | assumption | omega
         have hi5u8 : x5tx < (p0.length : Int) := by first | assumption | omega
         obtain ⟨ad5u5, _, ha5u6, -, -⟩ := Rds.elemAny hp0 hi5u7 (gt_get (z := []) hi5u7 hi5u8)
         refine WL.oq h5u3 rfl ?_
         refine owp_rn (.pointer (some (ad5u5.add (x5tx.toNat * 1)))) h5u3 rfl (run_idx (ad := ad5u5) (sz := 1) rfl (by rw [← ha5u6]; rfl) rfl Try.underlying32 (by kernel_rfl) hi5u7 hi5u8) (fun a5u9 h5ua => ?_)
         obtain ⟨ad5ub, cs5uc, ha5ud, hr5uf, hc5ue⟩ := Rds.elemAny hp0 hi5u7 (gt_get (z := []) hi5u7 hi5u8)
         rw [ha5u6] at ha5ud; obtain rfl := Option.some.inj ha5ud
         obtain ⟨v5ug, rfl, hx5uh⟩ := hr5uf
         obtain ⟨A5ui, c5uj, rfl⟩ := hx5uh.form
         refine WL.oq h5ua rfl ?_
         refine owp_rn (.slice A5ui (gt [] p0 x5tx).length c5uj) h5ua rfl (run_load1 rfl rfl Try.underlying27 rfl (cell0 (hc5ue _ (fun _ _ hk_ => hS5tt.kn hk_)))) (fun a5uk h5ul => ?_)
         refine WL.bl 2 5 h5ul [(15, .slice A5ui (gt [] p0 x5tx).length c5uj), (14, i6 x5tx)] (fun a5um h5un => ?_)
         refine WL.dn ?_
         refine wp_seq ?_
         refine WT.start 22 (fun w_ => (∀ a_ u_, Kn b w0 (M5k4 ++ R) a_ u_ → w_.cell? a_ = some u_) ∧ (∀ a_ u_, Kn b w0 R a_ u_ → w_.cell? a_ = some u_) ∧ (∀ a_ u_, Kn b w0 (M5k9 ++ R) a_ u_ → w_.cell? a_ = some u_) ∧ True) (by kernel_rfl) #[false, false, false, false, false, false, false, false, false, false, false, false, false, false, false, false, false, false, false, false, false, false] 22 rfl rfl ?_
         have hS63g := hS5tt.drew
         refine WT.tk 0 h5un rfl rfl (.slice A5k2 x5k1.length c5k3) (fun _ _ => by kernel_rfl) ⟨(fun _ _ hk_ => (hS63g.bring 1 rfl rfl).pool.kn hk_), (fun _ _ hk_ => hS63g.kn hk_), (fun _ _ hk_ => (hS63g.bring 2 rfl rfl).pool.kn hk_), trivial⟩ (fun a63h s63j h63i => ?_)
         refine WT.tk 1 h63i rfl rfl (i6 x5tx) (fun _ _ => by kernel_rfl) s63j (fun a63k s63m h63l => ?_)
         refine WT.tk 4 h63l rfl rfl (.slice A5ui (gt [] p0 x5tx).length c5uj) (fun _ _ => by kernel_rfl) s63m (fun a63n s63p h63o => ?_)
         clear h5u3 a5u2 h5ua a5u9 h5ul a5uk h5un a5um h63i a63h h63l a63k
         by_cases c63q : x5tx < (x5k1.length : Int)
         ·rw [if_pos c63q] at H
          have hi63t : 0 ≤ x5tx := by first | assumption | omega
          have hi63u : x5tx < (x5k1.length : Int) := by first | assumption | omega
          obtain ⟨ad63r, _, ha63s, -, -⟩ := Rds.elemAny hr5k5.rds hi63t (gt_get (z := []) hi63t hi63u)
          refine WT.tk 2 h63o rfl rfl (.pointer (some (ad63r.add (x5tx.toNat * 1)))) (fun w_ hs_ => (run_idx (ad := ad63r) (sz := 1) rfl (by rw [← ha63s]; rfl) rfl Try.underlying33 (by kernel_rfl) hi63t hi63u)) s63p (fun a63v s63x h63w => ?_)
          obtain ⟨ad63y, cs63z, ha640, hr642, hc641⟩ := Rds.elemAny hr5k5.rds hi63t (gt_get (z := []) hi63t hi63u)
          rw [ha63s] at ha640; obtain rfl := Option.some.inj ha640
          obtain rfl : cs63z = [.string (mkS (gt [] x5k1 x5tx))] := hr642
          refine WT.tk 3 h63w rfl rfl (.string (mkS (gt [] x5k1 x5tx))) (fun w_ hs_ => (run_load1 rfl rfl Try.underlying9 rfl (cell0 (hc641 _ hs_.1)))) s63x (fun a643 s645 h644 => ?_)
          refine WT.tk 5 h644 rfl rfl (.string (mkS (toS (gt [] p0 x5tx)))) (fun w_ hs_ => (run_tostr rfl rfl hx5uh hs_.2.1 Try.underlying27 Try.underlying5 Try.underlying9)) s645 (fun a646 s648 h647 => ?_)
          refine WT.tk 6 h647 rfl rfl (.bool (!decide ((gt [] x5k1 x5tx) = (toS (gt [] p0 x5tx))))) (fun w_ hs_ => (run_strne rfl rfl rfl)) s648 (fun a649 s64b h64a => ?_)
          refine WT.tk 7 h64a rfl rfl (.bool (!decide ((gt [] x5k1 x5tx) = (toS (gt [] p0 x5tx))))) (fun _ _ => by kernel_rfl) s64b (fun a64c s64e h64d => ?_)
          clear h63o a63n h63w a63v h644 a643 h647 a646 h64a a649
          by_cases c64f : (gt [] x5k1 x5tx) = (toS (gt [] p0 x5tx))
          ·rw [if_pos c64f] at H
           have hb_ : (decide ((gt [] x5k1 x5tx) = (toS (gt [] p0 x5tx)))) = true := decide_eq_true c64f
           try rw [hb_] at h64d
           clear hb_
           refine WT.tk 8 h64d rfl rfl (.slice A5k7 x5k6.length c5k8) (fun _ _ => by kernel_rfl) s64e (fun a64g s64i h64h => ?_)
           refine WT.tk 9 h64h rfl rfl (i6 x5tx) (fun _ _ => by kernel_rfl) s64i (fun a64j s64l h64k => ?_)
           clear h64d a64c h64h a64g
           by_cases c64m : x5tx < (x5k6.length : Int)
           ·rw [if_pos c64m] at H
            have hi64p : 0 ≤ x5tx := by first | assumption | omega
            have hi64q : x5tx < (x5k6.length : Int) := by first | assumption | omega
            obtain ⟨ad64n, _, ha64o, -, -⟩ := Rds.elemAny hr5ka.rds hi64p (gt_get (z := false) hi64p hi64q)
            refine WT.tk 10 h64k rfl rfl (.pointer (some (ad64n.add (x5tx.toNat * 1)))) (fun w_ hs_ => (run_idx (ad := ad64n) (sz := 1) rfl (by rw [← ha64o]; rfl) rfl Try.underlying34 (by kernel_rfl) hi64p hi64q)) s64l (fun a64r s64t h64s => ?_)
            obtain ⟨ad64u, cs64v, ha64w, hr64y, hc64x⟩ := Rds.elemAny hr5ka.rds hi64p (gt_get (z := false) hi64p hi64q)
            rw [ha64o] at ha64w; obtain rfl := Option.some.inj ha64w
            obtain rfl : cs64v = [.bool (gt false x5k6 x5tx)] := hr64y
            refine WT.tk 11 h64s rfl rfl (.bool (gt false x5k6 x5tx)) (fun w_ hs_ => (run_load1 rfl rfl Try.underlying4 rfl (cell0 (hc64x _ hs_.2.2.1)))) s64t (fun a64z s651 h650 => ?_)
            refine WT.tk 12 h650 rfl rfl (.bool (!(gt false x5k6 x5tx))) (fun _ _ => by kernel_rfl) s651 (fun a652 s654 h653 => ?_)
            refine WT.tk 13 h653 rfl rfl (.bool (!(gt false x5k6 x5tx))) (fun _ _ => by kernel_rfl) s654 (fun a655 s657 h656 => ?_)
            refine WT.tk 14 h656 rfl rfl (.bool (!(gt false x5k6 x5tx))) (fun _ _ => by kernel_rfl) s657 (fun a658 s65a h659 => ?_)
            clear h64k a64j h64s a64r h650 a64z h653 a652 h656 a655
            by_cases c65b : (gt false x5k6 x5tx) = true
            ·rw [if_pos c65b] at H
             have hb_ : (gt false x5k6 x5tx) = true := c65b
             try rw [hb_] at h659
             clear hb_
             refine WT.tk 15 h659 rfl rfl (pt g54m) (fun _ _ => by kernel_rfl) s65a (fun a65c s65e h65d => ?_)
             refine WT.tk 16 h65d rfl rfl (i6 x5tx) (fun _ _ => by kernel_rfl) s65e (fun a65f s65h h65g => ?_)
             refine WT.tk 17 h65g rfl rfl (i6 (IntKind.i64.wrap (x5tx + 1))) (fun _ _ => by kernel_rfl) s65h (fun a65i s65k h65j => ?_)
             refine WT.tk 18 h65j rfl rfl (.int .u32 (IntKind.u32.wrap (IntKind.i64.wrap (x5tx + 1)))) (fun _ _ => by kernel_rfl) s65k (fun a65l s65n h65m => ?_)
             obtain ⟨r65p, A65o, H⟩ := bind1 H
             refine WT.o1 19 h65m rfl ?_
             refine owp_call [(pt g54m), .int .u32 (IntKind.u32.wrap (IntKind.i64.wrap (x5tx + 1)))] h65m rfl (by kernel_rfl) rfl Try.func13 (by kernel_rfl) rfl (by kernel_rfl) (turns_Ring_Waits.calls kk5ty hr5tw A65o hS63g) (fun e65r W65q hp65s => ?_)
             obtain ⟨M65v, rfl, hr65w, hS65x⟩ := hp65s
             refine ⟨_, rfl, fun a65t h65u => ?_⟩
             refine ⟨.inr ⟨(fun _ _ hk_ => (hS65x.bring 1 rfl rfl).pool.kn hk_), (fun _ _ hk_ => hS65x.kn hk_), (fun _ _ hk_ => (hS65x.bring 2 rfl rfl).pool.kn hk_), trivial⟩, ?_⟩
             refine WT.tk 20 h65u rfl rfl (.bool (!decide (r65p = 0))) (fun _ _ => by kernel_rfl) ⟨(fun _ _ hk_ => (hS65x.bring 1 rfl rfl).pool.kn hk_), (fun _ _ hk_ => hS65x.kn hk_), (fun _ _ hk_ => (hS65x.bring 2 rfl rfl).pool.kn hk_), trivial⟩ (fun a65y s660 h65z => ?_)
             refine WT.tk 21 h65z rfl rfl (.bool (!decide (r65p = 0))) (fun _ _ => by kernel_rfl) s660 (fun a661 s663 h662 => ?_)
             refine WT.dn ?_
             clear h659 a658 h65d a65c h65g a65f h65j a65i h65m a65l h65u a65t h65z a65y
             by_cases c664 : r65p = 0
             ·rw [if_pos c664] at H
              have hb_ : (decide (r65p = 0)) = true := decide_eq_true c664
              try rw [hb_] at h662
              clear hb_
              refine wp_else h662 rfl ?_
              refine wp_skip ?_
              refine WL.start ?_
              refine WL.bl 2 2 h662 [(108, i6 (IntKind.i64.wrap (x5tx + 1))), (135, i6 (IntKind.i64.wrap (x5tx + 1)))] (fun a665 h666 => ?_)
              refine WL.dn ?_
              exact ⟨kk5ty, by omega, M65v, IntKind.i64.wrap (x5tx + 1), h666.keep ⟨rfl, rfl, rfl, rfl, rfl, rfl, trivial⟩, ⟨H⟩, ⟨by omega⟩, ⟨hS65x⟩, ⟨hr65w⟩⟩
             ·rw [if_neg c664] at H
              have hb_ : (decide (r65p = 0)) = false := decide_eq_false c664
              try rw [hb_] at h662
              clear hb_
              refine wp_then h662 rfl ?_
              refine wp_seq ?_
              refine WL.start ?_
              refine WL.bl 1 1 h662 [(4, .bool false)] (fun a667 h668 => ?_)
              refine WL.dn ?_
              refine wp_ret ?_
              have hS669 := hS65x.drop_
              have hS66a := hS669.drop_
              have hS66b := hS66a.drop_
              obtain rfl := Option.some.inj H
              repeat (first | with_reducible refine t1 ?_ | with_reducible refine t2 ?_ | with_reducible refine t3 ?_)
              refine bret (.bool false) h668 ?_
              exact ⟨rfl, hS66b⟩
            ·rw [if_neg c65b] at H
             have hb_ : (gt false x5k6 x5tx) = false := (Bool.eq_false_iff.2 c65b)
             try rw [hb_] at h659
             clear hb_
             refine WT.sp 15 h659 rfl rfl s65a (fun a66c s66e h66d => ?_)
             refine WT.sp 16 h66d rfl rfl s66e (fun a66f s66h h66g => ?_)
             refine WT.sp 17 h66g rfl rfl s66h (fun a66i s66k h66j => ?_)
             refine WT.sp 18 h66j rfl rfl s66k (fun a66l s66n h66m => ?_)
             refine WT.sp 19 h66m rfl rfl s66n (fun a66o s66q h66p => ?_)
             refine WT.sp 20 h66p rfl rfl s66q (fun a66r s66t h66s => ?_)
             refine WT.tk 21 h66s rfl rfl (.bool true) (fun _ _ => by kernel_rfl) s66t (fun a66u s66w h66v => ?_)
             refine WT.dn ?_
             refine wp_then h66v rfl ?_
             refine wp_seq ?_
             refine WL.start ?_
             refine WL.bl 1 1 h66v [(4, .bool false)] (fun a66x h66y => ?_)
             refine WL.dn ?_
             refine wp_ret ?_
             have hS66z := hS63g.drop_
             have hS670 := hS66z.drop_
             have hS671 := hS670.drop_
             obtain rfl := Option.some.inj H
             repeat (first | with_reducible refine t1 ?_ | with_reducible refine t2 ?_ | with_reducible refine t3 ?_)
             refine bret (.bool false) h66y ?_
             exact ⟨rfl, hS671⟩
           ·rw [if_neg c64m] at H
            cases H
          ·rw [if_neg c64f] at H
           have hb_ : (decide ((gt [] x5k1 x5tx) = (toS (gt [] p0 x5tx)))) = false := decide_eq_false c64f
           try rw [hb_] at h64d
           clear hb_
           refine WT.sp 8 h64d rfl rfl s64e (fun a672 s674 h673 => ?_)
           refine WT.sp 9 h673 rfl rfl s674 (fun a675 s677 h676 => ?_)
           refine WT.sp 10 h676 rfl rfl s677 (fun a678 s67a h679 => ?_)
           refine WT.sp 11 h679 rfl rfl s67a (fun a67b s67d h67c => ?_)
           refine WT.sp 12 h67c rfl rfl s67d (fun a67e s67g h67f => ?_)
           refine WT.tk 13 h67f rfl rfl (.bool true) (fun _ _ => by kernel_rfl) s67g (fun a67h s67j h67i => ?_)
           refine WT.tk 14 h67i rfl rfl (.bool true) (fun _ _ => by kernel_rfl) s67j (fun a67k s67m h67l => ?_)
           refine WT.sp 15 h67l rfl rfl s67m (fun a67n s67p h67o => ?_)
           refine WT.sp 16 h67o rfl rfl s67p (fun a67q s67s h67r => ?_)
           refine WT.sp 17 h67r rfl rfl s67s (fun a67t s67v h67u => ?_)
           refine WT.sp 18 h67u rfl rfl s67v (fun a67w s67y h67x => ?_)
           refine WT.sp 19 h67x rfl rfl s67y (fun a67z s681 h680 => ?_)
           clear h64d a64c h673 a672 h676 a675 h679 a678 h67c a67b h67f a67e h67i a67h h67l a67k h67o a67n h67r a67q h67u a67t h67x a67w
           refine WT.sp 20 h680 rfl rfl s681 (fun a682 s684 h683 => ?_)
           refine WT.tk 21 h683 rfl rfl (.bool true) (fun _ _ => by kernel_rfl) s684 (fun a685 s687 h686 => ?_)
           refine WT.dn ?_
           refine wp_then h686 rfl ?_
           refine wp_seq ?_
           refine WL.start ?_
           refine WL.bl 1 1 h686 [(4, .bool false)] (fun a688 h689 => ?_)
           refine WL.dn ?_
           refine wp_ret ?_
           have hS68a := hS63g.drop_
           have hS68b := hS68a.drop_
           have hS68c := hS68b.drop_
           obtain rfl := Option.some.inj H
           repeat (first | with_reducible refine t1 ?_ | with_reducible refine t2 ?_ | with_reducible refine t3 ?_)
           refine bret (.bool false) h689 ?_
           exact ⟨rfl, hS68c⟩
         ·rw [if_neg c63q] at H
          cases H
        ·rw [if_neg c5u4] at H
         cases H
       ·rw [if_neg c5u1] at H
        have hb_ : (decide (x5tx < (p0.length : Int))) = false := decide_eq_false c5u1
        try rw [hb_] at h5u0
        clear hb_
        refine wp_else h5u0 rfl ?_
        refine wp_exit ?_
        refine wp_seq ?_
        refine WL.start ?_
        obtain ⟨r68e, A68d, H⟩ := bind1 H
        refine WL.oq h5u0 rfl ?_
        refine owp_call [] h5u0 rfl (by kernel_rfl) rfl Try.func12 (by kernel_rfl) rfl (by kernel_rfl) (louverlaw13qfixed.calls kk5ty  A68d hS5tt) (fun e68g W68f hp68h => ?_)
        obtain ⟨rfl, hS68k⟩ := hp68h
        refine ⟨_, rfl, fun a68i h68j => ?_⟩
        refine WL.bl 1 2 h68j [(137, .bool r68e)] (fun a68l h68m => ?_)
        clear h5u0 a5tz h68j a68i
        by_cases c68n : r68e = true
        ·rw [if_pos c68n] at H
         have hb_ : r68e = true := c68n
         try rw [hb_] at h68m
         clear hb_
         refine WL.oq h68m rfl (owp_rk (pt g54m) h68m rfl (fun a68o h68p => ?_))
         obtain ⟨r68r, A68q, H⟩ := bind1 H
         refine WL.oq h68p rfl ?_
         refine owp_call [(pt g54m)] h68p rfl (by kernel_rfl) rfl Try.func14 (by kernel_rfl) rfl (by kernel_rfl) (turns_Ring_Can.calls kk5ty hr5tw A68q hS68k) (fun e68t W68s hp68u => ?_)
         obtain ⟨M68x, rfl, hr68y, hS68z⟩ := hp68u
         refine ⟨_, rfl, fun a68v h68w => ?_⟩
         refine WL.oq h68w rfl (owp_rk (.bool (!r68r)) h68w rfl (fun a690 h691 => ?_))
         refine WL.bl 2 7 h691 [(142, .bool (!r68r)), (141, .bool (!r68r))] (fun a692 h693 => ?_)
         clear h68m a68l h68p a68o h68w a68v h691 a690
         by_cases c694 : r68r = true
         ·rw [if_pos c694] at H
          have hb_ : r68r = true := c694
          try rw [hb_] at h693
          clear hb_
          refine WL.sk h693 rfl rfl (fun a695 h696 => ?_)
          refine WL.sk h696 rfl rfl (fun a697 h698 => ?_)
          refine WL.sk h698 rfl rfl (fun a699 h69a => ?_)
          refine WL.bl 2 12 h69a [(4, .bool false), (146, .bool false)] (fun a69b h69c => ?_)
          refine WL.dn ?_
          refine wp_ret ?_
          have hS69d := hS68z.drop_
          have hS69e := hS69d.drop_
          have hS69f := hS69e.drop_
          obtain rfl := Option.some.inj H
          repeat (first | with_reducible refine t1 ?_ | with_reducible refine t2 ?_ | with_reducible refine t3 ?_)
          refine bret (.bool false) h69c ?_
          exact ⟨rfl, hS69f⟩
         ·rw [if_neg c694] at H
          have hb_ : r68r = false := (Bool.eq_false_iff.2 c694)
          try rw [hb_] at h693
          clear hb_
          refine WL.oq h693 rfl (owp_rk (pt g54m) h693 rfl (fun a69g h69h => ?_))
          obtain ⟨r69j, A69i, H⟩ := bind1 H
          refine WL.oq h69h rfl ?_
          refine owp_call [(pt g54m)] h69h rfl (by kernel_rfl) rfl Try.func15 (by kernel_rfl) rfl (by kernel_rfl) (turns_Ring_All.calls kk5ty hr68y A69i hS68z) (fun e69l W69k hp69m => ?_)
          obtain ⟨M69p, rfl, hr69q, hS69r⟩ := hp69m
          refine ⟨_, rfl, fun a69n h69o => ?_⟩
          refine WL.oq h69o rfl (owp_rk (.bool (decide (r69j = 0))) h69o rfl (fun a69s h69t => ?_))
          refine WL.bl 2 12 h69t [(4, .bool (decide (r69j = 0))), (146, .bool (decide (r69j = 0)))] (fun a69u h69v => ?_)
          refine WL.dn ?_
          refine wp_ret ?_
          have hS69w := hS69r.drop_
          have hS69x := hS69w.drop_
          have hS69y := hS69x.drop_
          obtain rfl := Option.some.inj H
          repeat (first | with_reducible refine t1 ?_ | with_reducible refine t2 ?_ | with_reducible refine t3 ?_)
          refine bret (.bool (decide (r69j = 0))) h69v ?_
          exact ⟨rfl, hS69y⟩
        ·rw [if_neg c68n] at H
         have hb_ : r68e = false := (Bool.eq_false_iff.2 c68n)
         try rw [hb_] at h68m
         clear hb_
         refine WL.sk h68m rfl rfl (fun a69z h6a0 => ?_)
         refine WL.sk h6a0 rfl rfl (fun a6a1 h6a2 => ?_)
         refine WL.sk h6a2 rfl rfl (fun a6a3 h6a4 => ?_)
         refine WL.bl 2 7 h6a4 [(142, .bool false), (141, .bool false)] (fun a6a5 h6a6 => ?_)
         refine WL.sk h6a6 rfl rfl (fun a6a7 h6a8 => ?_)
         refine WL.sk h6a8 rfl rfl (fun a6a9 h6aa => ?_)
         refine WL.sk h6aa rfl rfl (fun a6ab h6ac => ?_)
         refine WL.bl 2 12 h6ac [(4, .bool false), (146, .bool false)] (fun a6ad h6ae => ?_)
         refine WL.dn ?_
         refine wp_ret ?_
         have hS6af := hS68k.drop_
         have hS6ag := hS6af.drop_
         have hS6ah := hS6ag.drop_
         obtain rfl := Option.some.inj H
         repeat (first | with_reducible refine t1 ?_ | with_reducible refine t2 ?_ | with_reducible refine t3 ?_)
         refine bret (.bool false) h6ae ?_
         exact ⟨rfl, hS6ah⟩
     ·rw [if_neg c5a1] at H
      cases H
    ·rw [if_neg c59k] at H
     cases H
   ·rw [if_neg c59j] at H
    cases H
end Go.Proofs.Ytikfpmieadfllaa.Sl
