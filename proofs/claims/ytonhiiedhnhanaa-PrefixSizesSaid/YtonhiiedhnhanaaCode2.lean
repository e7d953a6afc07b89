/- What the functions of this program compute, told as plain functions, and that the calls come to just that. Printed by this session's program; part 2. -/
import Derived.Test.YtonhiiedhnhanaaCode1
set_option linter.unusedVariables false
set_option linter.unusedSimpArgs false
set_option linter.unnecessarySimpa false
namespace Go.Proofs.Ytonhiiedhnhanaa.Sl
open Go Go.RowKit Go.Proofs.Sl
/-! ### louver/louverlaw02.PrefixNoughts -/
def louverlaw02_PrefixNoughts.l0 : Nat → (List Int) → Int → Int → Int → Int → Option (Bool)
  | 0, _, _, _, _, _ => none
  | k + 1, x6230_, x6235_, p0, p1, p2 => if x6235_ < (Int.tmod (IntKind.i64.wrap p2) 6) then (if 0 ≤ (IntKind.i64.wrap ((x6230_.length : Int) - 1)) then (if (IntKind.i64.wrap ((x6230_.length : Int) - 1)) < (x6230_.length : Int) then (lt1 (x6230_.set (IntKind.i64.wrap ((x6230_.length : Int) - 1)).toNat (bOr .u8 (gt (0 : Int) x6230_ (IntKind.i64.wrap ((x6230_.length : Int) - 1))) 128) : List Int) fun y6271_ => (if y6271_.length + 1 ≤ 140737488355328 then (lt1 (y6271_ ++ ([0] : List Int) : List Int) fun y6295_ => (louverlaw02_PrefixNoughts.l0 k y6295_ (IntKind.i64.wrap (x6235_ + 1)) p0 p1 p2)) else (none))) else (none)) else (none)) else (bnd3 (prefix_Get.f k x6230_ p0) fun r6307_ r6308_ r6309_ => (if (x6230_.length : Int) > 5 then (bnd1 (louverlaw02_fixed.f k) fun r6323_ => (if r6323_ = true then (if r6309_ = 4 then (some (decide (r6308_ = 0))) else (some false)) else (some false))) else (bnd1 (louverlaw02_fixed.f k) fun r6368_ => (if r6368_ = true then (if r6309_ = 0 then (if r6307_ = p1 then (some (decide (r6308_ = (x6230_.length : Int)))) else (some false)) else (some false)) else (some false)))))
def louverlaw02_PrefixNoughts.f (k : Nat) (p0 : Int) (p1 : Int) (p2 : Int) : Option (Bool) := if p0 < 1 then (bnd1 (louverlaw02_fixed.f k) fun r6139_ => (some r6139_)) else (if p0 > 8 then (bnd1 (louverlaw02_fixed.f k) fun r6162_ => (some r6162_)) else (if p1 > 268435456 then (bnd1 (louverlaw02_fixed.f k) fun r6179_ => (some r6179_)) else (bnd1 (louverref02_Put.f k p0 0 p1) fun r6191_ => (if (r6191_.length : Int) < 2 then (bnd1 (louverlaw02_fixed.f k) fun r6210_ => (some r6210_)) else (louverlaw02_PrefixNoughts.l0 k r6191_ 0 p0 p1 p2)))))
set_option maxHeartbeats 2000000 in
set_option maxRecDepth 100000 in
theorem louverlaw02_PrefixNoughts.calls (k : Nat) {b : Nat} {w0 W : World} {R : Frag} {Fs : List Frag} {p0 : Int} {p1 : Int} {p2 : Int}  {r0_ : Bool}  (H : louverlaw02_PrefixNoughts.f k p0 p1 p2 = some r0_) (hS : St b w0 W R (Fs)) :
    Calls Try.prog 6 ([.int .i64 p0, .int .u32 p1, .int .u8 p2] : List Value).toArray W (fun e W' => e = .returned (.bool r0_) ∧ St b w0 W' R (Fs)) := by
  unfold louverlaw02_PrefixNoughts.f at H
  refine calls_enter Try.func6 rfl 83 rfl (by kernel_rfl) (fun a h => ?_)
  refine wp_seq ?_
  refine WL.start ?_
  refine WL.block (c := 1) (m' := 1) h rfl [(6, .bool false)] (by kernel_rfl) (fun a6121_ h6122_ => ?_)
  refine WL.done (by kernel_rfl) ?_
  refine wp_seq ?_
  refine wp_seq ?_
  refine WL.start ?_
  refine WL.block (c := 3) (m' := 3) h6122_ rfl [(14, .bool (decide (p0 < 1))), (13, .bool (decide (p0 < 1))), (12, .int .i64 p0)] (by kernel_rfl) (fun a6123_ h6124_ => ?_)
  clear h6122_ a6121_
  by_cases c6125_ : p0 < 1
  · rw [if_pos c6125_] at H
    have hb_ : (decide (p0 < 1)) = true := decide_eq_true c6125_
    try rw [hb_] at h6124_
    clear hb_
    refine WL.skipped (m := 3) h6124_ rfl rfl (by kernel_rfl) rfl (fun a6126_ h6127_ => ?_)
    clear h6124_ a6123_
    refine WL.skipped (m := 4) h6127_ rfl rfl (by kernel_rfl) rfl (fun a6128_ h6129_ => ?_)
    clear h6127_ a6126_
    refine WL.block (c := 2) (m' := 7) h6129_ rfl [(18, .bool true), (17, .bool true)] (by kernel_rfl) (fun a6130_ h6131_ => ?_)
    clear h6129_ a6128_
    refine WL.skipped (m := 7) h6131_ rfl rfl (by kernel_rfl) rfl (fun a6132_ h6133_ => ?_)
    clear h6131_ a6130_
    refine WL.skipped (m := 8) h6133_ rfl rfl (by kernel_rfl) rfl (fun a6134_ h6135_ => ?_)
    clear h6133_ a6132_
    refine WL.block (c := 1) (m' := 10) h6135_ rfl [(21, .bool true)] (by kernel_rfl) (fun a6136_ h6137_ => ?_)
    clear h6135_ a6134_
    refine WL.done (by kernel_rfl) ?_
    refine wp_then h6137_ rfl ?_
    refine wp_seq ?_
    refine WL.start ?_
    obtain ⟨r6139_, A6138_, H⟩ := bind1 H
    refine WL.op' (m := 0) h6137_ rfl rfl ?_
    refine owp_call [] h6137_ rfl (by kernel_rfl) rfl Try.func8 (by kernel_rfl) rfl (by kernel_rfl) (louverlaw02_fixed.calls k  A6138_ hS) (fun e6141_ W6140_ hp6142_ => ?_)
    obtain ⟨rfl, hS6145_⟩ := hp6142_
    refine ⟨_, rfl, fun a6143_ h6144_ => ?_⟩
    clear h6137_ a6136_
    refine WL.block (c := 1) (m' := 2) h6144_ rfl [(6, .bool r6139_)] (by kernel_rfl) (fun a6146_ h6147_ => ?_)
    clear h6144_ a6143_
    refine WL.done (by kernel_rfl) ?_
    refine wp_ret ?_
    obtain rfl := Option.some.inj H
    repeat (first | refine then_ret ?_ | refine inBlock_ret ?_ | refine inBlock_go ?_)
    refine body_ret (v := .bool r6139_) h6147_ (by kernel_rfl) (by kernel_rfl) ?_
    exact ⟨rfl, hS6145_⟩
  · rw [if_neg c6125_] at H
    have hb_ : (decide (p0 < 1)) = false := decide_eq_false c6125_
    try rw [hb_] at h6124_
    clear hb_
    refine WL.op' (m := 3) h6124_ rfl rfl (owp_run h6124_ rfl (by kernel_rfl) (v := .int .i64 p0) (by kernel_rfl) (fun a6148_ h6149_ => ?_))
    clear h6124_ a6123_
    refine WL.op' (m := 4) h6149_ rfl rfl (owp_run h6149_ rfl (by kernel_rfl) (v := .bool (decide (p0 > 8))) (by kernel_rfl) (fun a6150_ h6151_ => ?_))
    clear h6149_ a6148_
    refine WL.block (c := 2) (m' := 7) h6151_ rfl [(18, .bool (decide (p0 > 8))), (17, .bool (decide (p0 > 8)))] (by kernel_rfl) (fun a6152_ h6153_ => ?_)
    clear h6151_ a6150_
    by_cases c6154_ : p0 > 8
    · rw [if_pos c6154_] at H
      have hb_ : (decide (p0 > 8)) = true := decide_eq_true c6154_
      try rw [hb_] at h6153_
      clear hb_
      refine WL.skipped (m := 7) h6153_ rfl rfl (by kernel_rfl) rfl (fun a6155_ h6156_ => ?_)
      clear h6153_ a6152_
      refine WL.skipped (m := 8) h6156_ rfl rfl (by kernel_rfl) rfl (fun a6157_ h6158_ => ?_)
      clear h6156_ a6155_
      refine WL.block (c := 1) (m' := 10) h6158_ rfl [(21, .bool true)] (by kernel_rfl) (fun a6159_ h6160_ => ?_)
      clear h6158_ a6157_
      refine WL.done (by kernel_rfl) ?_
      refine wp_then h6160_ rfl ?_
      refine wp_seq ?_
      refine WL.start ?_
      obtain ⟨r6162_, A6161_, H⟩ := bind1 H
      refine WL.op' (m := 0) h6160_ rfl rfl ?_
      refine owp_call [] h6160_ rfl (by kernel_rfl) rfl Try.func8 (by kernel_rfl) rfl (by kernel_rfl) (louverlaw02_fixed.calls k  A6161_ hS) (fun e6164_ W6163_ hp6165_ => ?_)
      obtain ⟨rfl, hS6168_⟩ := hp6165_
      refine ⟨_, rfl, fun a6166_ h6167_ => ?_⟩
      clear h6160_ a6159_
      refine WL.block (c := 1) (m' := 2) h6167_ rfl [(6, .bool r6162_)] (by kernel_rfl) (fun a6169_ h6170_ => ?_)
      clear h6167_ a6166_
      refine WL.done (by kernel_rfl) ?_
      refine wp_ret ?_
      obtain rfl := Option.some.inj H
      repeat (first | refine then_ret ?_ | refine inBlock_ret ?_ | refine inBlock_go ?_)
      refine body_ret (v := .bool r6162_) h6170_ (by kernel_rfl) (by kernel_rfl) ?_
      exact ⟨rfl, hS6168_⟩
    · rw [if_neg c6154_] at H
      have hb_ : (decide (p0 > 8)) = false := decide_eq_false c6154_
      try rw [hb_] at h6153_
      clear hb_
      refine WL.op' (m := 7) h6153_ rfl rfl (owp_run h6153_ rfl (by kernel_rfl) (v := .int .u32 p1) (by kernel_rfl) (fun a6171_ h6172_ => ?_))
      clear h6153_ a6152_
      refine WL.op' (m := 8) h6172_ rfl rfl (owp_run h6172_ rfl (by kernel_rfl) (v := .bool (decide (p1 > 268435456))) (by kernel_rfl) (fun a6173_ h6174_ => ?_))
      clear h6172_ a6171_
      refine WL.block (c := 1) (m' := 10) h6174_ rfl [(21, .bool (decide (p1 > 268435456)))] (by kernel_rfl) (fun a6175_ h6176_ => ?_)
      clear h6174_ a6173_
      refine WL.done (by kernel_rfl) ?_
      by_cases c6177_ : p1 > 268435456
      · rw [if_pos c6177_] at H
        have hb_ : (decide (p1 > 268435456)) = true := decide_eq_true c6177_
        try rw [hb_] at h6176_
        clear hb_
        refine wp_then h6176_ rfl ?_
        refine wp_seq ?_
        refine WL.start ?_
        obtain ⟨r6179_, A6178_, H⟩ := bind1 H
        refine WL.op' (m := 0) h6176_ rfl rfl ?_
        refine owp_call [] h6176_ rfl (by kernel_rfl) rfl Try.func8 (by kernel_rfl) rfl (by kernel_rfl) (louverlaw02_fixed.calls k  A6178_ hS) (fun e6181_ W6180_ hp6182_ => ?_)
        obtain ⟨rfl, hS6185_⟩ := hp6182_
        refine ⟨_, rfl, fun a6183_ h6184_ => ?_⟩
        clear h6176_ a6175_
        refine WL.block (c := 1) (m' := 2) h6184_ rfl [(6, .bool r6179_)] (by kernel_rfl) (fun a6186_ h6187_ => ?_)
        clear h6184_ a6183_
        refine WL.done (by kernel_rfl) ?_
        refine wp_ret ?_
        obtain rfl := Option.some.inj H
        repeat (first | refine then_ret ?_ | refine inBlock_ret ?_ | refine inBlock_go ?_)
        refine body_ret (v := .bool r6179_) h6187_ (by kernel_rfl) (by kernel_rfl) ?_
        exact ⟨rfl, hS6185_⟩
      · rw [if_neg c6177_] at H
        have hb_ : (decide (p1 > 268435456)) = false := decide_eq_false c6177_
        try rw [hb_] at h6176_
        clear hb_
        refine wp_else h6176_ rfl ?_
        refine wp_skip ?_
        refine wp_seq ?_
        refine WL.start ?_
        refine WL.block (c := 2) (m' := 2) h6176_ rfl [(24, .int .u32 p1), (23, .int .i64 p0)] (by kernel_rfl) (fun a6188_ h6189_ => ?_)
        clear h6176_ a6175_
        obtain ⟨r6191_, A6190_, H⟩ := bind1 H
        refine WL.op' (m := 2) h6189_ rfl rfl ?_
        refine owp_call [.int .i64 p0, .int .u8 0, .int .u32 p1] h6189_ rfl (by kernel_rfl) rfl Try.func11 (by kernel_rfl) rfl (by kernel_rfl) (louverref02_Put.calls k  A6190_ hS) (fun e6193_ W6192_ hp6194_ => ?_)
        obtain ⟨v6197_, M6198_, rfl, hr6199_, hS6201_⟩ := hp6194_
        refine ⟨_, rfl, fun a6195_ h6196_ => ?_⟩
        clear h6189_ a6188_
        obtain ⟨A6202_, c6203_, rfl⟩ := hr6199_.form
        refine WL.block (c := 1) (m' := 4) h6196_ rfl [(7, .slice A6202_ r6191_.length c6203_)] (by kernel_rfl) (fun a6204_ h6205_ => ?_)
        clear h6196_ a6195_
        refine WL.done (by kernel_rfl) ?_
        refine wp_seq ?_
        refine wp_seq ?_
        refine WL.start ?_
        refine WL.block (c := 3) (m' := 3) h6205_ rfl [(28, .bool (decide ((r6191_.length : Int) < 2))), (27, .int .i64 (r6191_.length : Int)), (26, .slice A6202_ r6191_.length c6203_)] (by kernel_rfl) (fun a6206_ h6207_ => ?_)
        clear h6205_ a6204_
        refine WL.done (by kernel_rfl) ?_
        by_cases c6208_ : (r6191_.length : Int) < 2
        · rw [if_pos c6208_] at H
          have hb_ : (decide ((r6191_.length : Int) < 2)) = true := decide_eq_true c6208_
          try rw [hb_] at h6207_
          clear hb_
          refine wp_then h6207_ rfl ?_
          refine wp_seq ?_
          refine WL.start ?_
          obtain ⟨r6210_, A6209_, H⟩ := bind1 H
          refine WL.op' (m := 0) h6207_ rfl rfl ?_
          refine owp_call [] h6207_ rfl (by kernel_rfl) rfl Try.func8 (by kernel_rfl) rfl (by kernel_rfl) (louverlaw02_fixed.calls k  A6209_ hS6201_) (fun e6212_ W6211_ hp6213_ => ?_)
          obtain ⟨rfl, hS6216_⟩ := hp6213_
          refine ⟨_, rfl, fun a6214_ h6215_ => ?_⟩
          clear h6207_ a6206_
          refine WL.block (c := 1) (m' := 2) h6215_ rfl [(6, .bool r6210_)] (by kernel_rfl) (fun a6217_ h6218_ => ?_)
          clear h6215_ a6214_
          refine WL.done (by kernel_rfl) ?_
          refine wp_ret ?_
          have hS6219_ : St b w0 W6211_ R (Fs) := hS6216_.drop_
          obtain rfl := Option.some.inj H
          repeat (first | refine then_ret ?_ | refine inBlock_ret ?_ | refine inBlock_go ?_)
          refine body_ret (v := .bool r6210_) h6218_ (by kernel_rfl) (by kernel_rfl) ?_
          exact ⟨rfl, hS6219_⟩
        · rw [if_neg c6208_] at H
          have hb_ : (decide ((r6191_.length : Int) < 2)) = false := decide_eq_false c6208_
          try rw [hb_] at h6207_
          clear hb_
          refine wp_else h6207_ rfl ?_
          refine wp_skip ?_
          refine wp_seq ?_
          refine WL.start ?_
          refine WL.block (c := 4) (m' := 4) h6207_ rfl [(8, .int .i64 (Int.tmod (IntKind.i64.wrap p2) 6)), (32, .int .i64 (Int.tmod (IntKind.i64.wrap p2) 6)), (31, .int .i64 (IntKind.i64.wrap p2)), (30, .int .u8 p2)] (by kernel_rfl) (fun a6220_ h6221_ => ?_)
          clear h6207_ a6206_
          refine WL.done (by kernel_rfl) ?_
          refine wp_seq ?_
          refine wp_seq ?_
          refine WL.start ?_
          refine WL.block (c := 2) (m' := 2) h6221_ rfl [(34, .int .i64 0), (33, .int .i64 (Int.tmod (IntKind.i64.wrap p2) 6))] (by kernel_rfl) (fun a6222_ h6223_ => ?_)
          clear h6221_ a6220_
          refine WL.done (by kernel_rfl) ?_
          refine wp_block ?_
          refine wp_loop_ghost (fun kq_ a_ W_ => ∃ (x6230_ : (List Int)), ∃ (A6231_ : Option Addr), ∃ (c6232_ : Nat), ∃ (M6233_ : Frag), ∃ (x6235_ : Int), Hd a_ 83 [(0, .int .i64 p0), (1, .int .u32 p1), (7, .slice A6231_ x6230_.length c6232_), (33, .int .i64 (Int.tmod (IntKind.i64.wrap p2) 6)), (34, .int .i64 x6235_)] ∧ Asd (louverlaw02_PrefixNoughts.l0 kq_ x6230_ x6235_ p0 p1 p2 = some r0_) ∧ Asd (kq_ ≤ k) ∧ Asd (St b w0 W_ R (M6233_ :: Fs)) ∧ Asd (Row (kInt .u8) 5 b w0 R (.slice A6231_ x6230_.length c6232_) x6230_ M6233_)) k ⟨r6191_, A6202_, c6203_, M6198_, 0, h6223_.keep ⟨rfl, rfl, rfl, rfl, rfl, trivial⟩, ⟨H⟩, ⟨Nat.le_refl _⟩, ⟨hS6201_⟩, ⟨hr6199_⟩⟩ ?_
          clear H hS6201_
          rintro k6228_ a6225_ W6226_ ⟨x6230_, A6231_, c6232_, M6233_, x6235_, h6224_, ⟨H⟩, ⟨hkk6228_⟩, ⟨hS6227_⟩, ⟨hr6234_⟩⟩
          obtain _ | k6236_ := k6228_
          · exact absurd H (by simp [louverlaw02_PrefixNoughts.l0])
          simp only [louverlaw02_PrefixNoughts.l0] at H
          refine wp_seq ?_
          refine WL.start ?_
          refine WL.block (c := 1) (m' := 1) h6224_ rfl [(35, .bool (decide (x6235_ < (Int.tmod (IntKind.i64.wrap p2) 6))))] (by kernel_rfl) (fun a6237_ h6238_ => ?_)
          clear h6224_ a6225_
          refine WL.done (by kernel_rfl) ?_
          refine wp_seq ?_
          by_cases c6239_ : x6235_ < (Int.tmod (IntKind.i64.wrap p2) 6)
          · rw [if_pos c6239_] at H
            have hb_ : (decide (x6235_ < (Int.tmod (IntKind.i64.wrap p2) 6))) = true := decide_eq_true c6239_
            try rw [hb_] at h6238_
            clear hb_
            refine wp_then h6238_ rfl ?_
            refine wp_skip ?_
            refine wp_seq ?_
            refine wp_block ?_
            refine wp_seq ?_
            refine WL.start ?_
            refine WL.block (c := 4) (m' := 4) h6238_ rfl [(39, .int .i64 (IntKind.i64.wrap ((x6230_.length : Int) - 1))), (38, .int .i64 (x6230_.length : Int)), (37, .slice A6231_ x6230_.length c6232_), (36, .slice A6231_ x6230_.length c6232_)] (by kernel_rfl) (fun a6240_ h6241_ => ?_)
            clear h6238_ a6237_
            by_cases c6242_ : 0 ≤ (IntKind.i64.wrap ((x6230_.length : Int) - 1))
            · rw [if_pos c6242_] at H
              by_cases c6243_ : (IntKind.i64.wrap ((x6230_.length : Int) - 1)) < (x6230_.length : Int)
              · rw [if_pos c6243_] at H
                have hi6246_ : 0 ≤ IntKind.i64.wrap ((x6230_.length : Int) - 1) := by first | assumption | omega
                have hi6247_ : (IntKind.i64.wrap ((x6230_.length : Int) - 1)) < (x6230_.length : Int) := by first | assumption | omega
                obtain ⟨ad6244_, _, ha6245_, -, -⟩ := Rds.elemAny hr6234_.rds hi6246_ (gt_get (z := (0 : Int)) hi6246_ hi6247_)
                refine WL.op' (m := 4) h6241_ rfl rfl ?_
                refine owp_run (v := .pointer (some (ad6244_.add ((IntKind.i64.wrap ((x6230_.length : Int) - 1)).toNat * 1)))) h6241_ rfl (by kernel_rfl) (run_idx (ad := ad6244_) (sz := 1) rfl (by rw [← ha6245_]; rfl) rfl Try.underlying26 (by kernel_rfl) hi6246_ hi6247_) (fun a6248_ h6249_ => ?_)
                clear h6241_ a6240_
                obtain ⟨ad6250_, cs6251_, ha6252_, hr6254_, hc6253_⟩ := Rds.elemAny hr6234_.rds hi6246_ (gt_get (z := (0 : Int)) hi6246_ hi6247_)
                rw [ha6245_] at ha6252_; obtain rfl := Option.some.inj ha6252_
                obtain rfl : cs6251_ = [.int .u8 (gt (0 : Int) x6230_ (IntKind.i64.wrap ((x6230_.length : Int) - 1)))] := hr6254_
                refine WL.op' (m := 5) h6249_ rfl rfl ?_
                refine owp_run (v := .int .u8 (gt (0 : Int) x6230_ (IntKind.i64.wrap ((x6230_.length : Int) - 1)))) h6249_ rfl (by kernel_rfl) (run_load1 rfl rfl Try.underlying5 rfl (cell0 (hc6253_ _ (fun _ _ hk_ => (hS6227_).pool.kn hk_)))) (fun a6255_ h6256_ => ?_)
                clear h6249_ a6248_
                refine WL.block (c := 1) (m' := 7) h6256_ rfl [(42, .int .u8 (bOr .u8 (gt (0 : Int) x6230_ (IntKind.i64.wrap ((x6230_.length : Int) - 1))) 128))] (by kernel_rfl) (fun a6257_ h6258_ => ?_)
                clear h6256_ a6255_
                have hi6261_ : 0 ≤ IntKind.i64.wrap ((x6230_.length : Int) - 1) := by first | assumption | omega
                have hi6262_ : (IntKind.i64.wrap ((x6230_.length : Int) - 1)) < (x6230_.length : Int) := by first | assumption | omega
                obtain ⟨ad6259_, _, ha6260_, -, -⟩ := Rds.elemAny hr6234_.rds hi6261_ (gt_get (z := (0 : Int)) hi6261_ hi6262_)
                refine WL.op' (m := 7) h6258_ rfl rfl ?_
                refine owp_run (v := .pointer (some (ad6259_.add ((IntKind.i64.wrap ((x6230_.length : Int) - 1)).toNat * 1)))) h6258_ rfl (by kernel_rfl) (run_idx (ad := ad6259_) (sz := 1) rfl (by rw [← ha6260_]; rfl) rfl Try.underlying26 (by kernel_rfl) hi6261_ hi6262_) (fun a6263_ h6264_ => ?_)
                clear h6258_ a6257_
                refine WL.op' (m := 8) h6264_ rfl rfl ?_
                refine owp_setelem (j := 0) (vs := [.int .u8 (bOr .u8 (gt (0 : Int) x6230_ (IntKind.i64.wrap ((x6230_.length : Int) - 1))) 128)]) (x' := bOr .u8 (gt (0 : Int) x6230_ (IntKind.i64.wrap ((x6230_.length : Int) - 1))) 128) h6264_ rfl (by kernel_rfl) rfl rfl rfl rfl (by simp [Value.oneCell']) (by kernel_rfl) ha6260_ hr6234_ hS6227_ hi6261_ (gt_get (z := (0 : Int)) hi6261_ hi6262_) (Nat.le_refl _) (by rintro _ _ ⟨rfl, rfl⟩; exact ⟨rfl, rfl⟩) (fun a6265_ W6267_ M6268_ h6266_ hr6269_ hS6270_ => ?_)
                clear h6264_ a6263_
                obtain ⟨y6271_, hy6272_, H⟩ := lete H
                have hl6273_ : y6271_.length = x6230_.length := by simp [hy6272_]
                have hr6274_ : Row (kInt .u8) 5 b w0 R (.slice A6231_ y6271_.length c6232_) y6271_ M6268_ := by rw [hl6273_]; rw [hy6272_]; exact hr6269_
                have h6275_ : Hd a6265_ 83 [(0, .int .i64 p0), (1, .int .u32 p1), (7, .slice A6231_ y6271_.length c6232_), (33, .int .i64 (Int.tmod (IntKind.i64.wrap p2) 6)), (34, .int .i64 x6235_), (35, .bool true), (36, .slice A6231_ y6271_.length c6232_), (37, .slice A6231_ y6271_.length c6232_), (38, .int .i64 (x6230_.length : Int)), (39, .int .i64 (IntKind.i64.wrap ((x6230_.length : Int) - 1))), (40, .pointer (some (ad6244_.add ((IntKind.i64.wrap ((x6230_.length : Int) - 1)).toNat * 1)))), (41, .int .u8 (gt (0 : Int) x6230_ (IntKind.i64.wrap ((x6230_.length : Int) - 1)))), (42, .int .u8 (bOr .u8 (gt (0 : Int) x6230_ (IntKind.i64.wrap ((x6230_.length : Int) - 1))) 128)), (43, .pointer (some (ad6259_.add ((IntKind.i64.wrap ((x6230_.length : Int) - 1)).toNat * 1))))] := h6266_.keep ⟨rfl, rfl, (by rw [hl6273_] <;> rfl), rfl, rfl, rfl, (by rw [hl6273_] <;> rfl), (by rw [hl6273_] <;> rfl), rfl, rfl, rfl, rfl, rfl, rfl, trivial⟩
                clear h6266_
                refine WL.done (by kernel_rfl) ?_
                refine WL.start ?_
                refine WL.block (c := 1) (m' := 1) h6275_ rfl [(44, .slice A6231_ y6271_.length c6232_)] (by kernel_rfl) (fun a6276_ h6277_ => ?_)
                clear h6275_ a6265_
                refine WL.op' (m := 1) h6277_ rfl rfl ?_
                refine owp_new (fun g_ => .slice (some ⟨g_, 0, none⟩) 1 1) (.cells ([.int .u8 0] : List Value).toArray 5 (0, 0)) h6277_ rfl (by kernel_rfl) (by kernel_rfl) hS6270_ (fun a6278_ W6280_ g6281_ h6279_ hS6282_ => ?_)
                clear h6277_ a6276_
                have hr6284_ : Row (kInt .u8) 5 b w0 R (.slice (some ⟨g6281_, 0, none⟩) 1 1) ([0] : List Int) [(g6281_, .cells ([.int .u8 0] : List Value).toArray 5 (0, 0))] := Row.lit (xs := ([0] : List Int)) (Mi := []) ⟨_, _, [], _, rfl, rfl, ⟨rfl, rfl⟩, ⟨rfl, rfl⟩⟩ (by simp [maxLen])
                by_cases c6285_ : y6271_.length + 1 ≤ 140737488355328
                · rw [if_pos c6285_] at H
                  have hS6286_ : St b w0 W6280_ R (M6268_ :: [(g6281_, .cells ([.int .u8 0] : List Value).toArray 5 (0, 0))] :: Fs) := hS6282_.bring 1 rfl rfl
                  refine WL.op' (m := 2) h6279_ rfl rfl ?_
                  refine owp_app_take (z := .int .u8 0) (bytes := 1) (dk := (kInt .u8)) h6279_ rfl (by kernel_rfl) rfl rfl rfl hr6274_ hr6284_ hS6286_ Try.underlying26 (by kernel_rfl) rfl (by decide) (by decide) (by first | omega | (simp only [List.length_cons, List.length_nil] at *; omega)) (fun a6287_ W6289_ v6290_ M6291_ h6288_ hr6292_ hS6293_ => ?_)
                  clear h6279_ a6278_
                  obtain ⟨y6295_, hy6296_, H⟩ := lete H
                  have hr6297_ : Row (kInt .u8) 5 b w0 R v6290_ y6295_ M6291_ := by rw [hy6296_]; exact hr6292_
                  clear hr6292_
                  obtain ⟨A6298_, c6299_, rfl⟩ := hr6297_.form
                  refine WL.block (c := 1) (m' := 4) h6288_ rfl [(7, .slice A6298_ y6295_.length c6299_)] (by kernel_rfl) (fun a6300_ h6301_ => ?_)
                  clear h6288_ a6287_
                  refine WL.done (by kernel_rfl) ?_
                  refine WL.start ?_
                  refine WL.block (c := 2) (m' := 2) h6301_ rfl [(34, .int .i64 (IntKind.i64.wrap (x6235_ + 1))), (47, .int .i64 (IntKind.i64.wrap (x6235_ + 1)))] (by kernel_rfl) (fun a6302_ h6303_ => ?_)
                  clear h6301_ a6300_
                  refine WL.done (by kernel_rfl) ?_
                  exact ⟨k6236_, by omega, y6295_, A6298_, c6299_, M6291_, IntKind.i64.wrap (x6235_ + 1), h6303_.keep ⟨rfl, rfl, rfl, rfl, rfl, trivial⟩, ⟨H⟩, ⟨by omega⟩, ⟨hS6293_⟩, ⟨hr6297_⟩⟩
                · rw [if_neg c6285_] at H
                  cases H
              · rw [if_neg c6243_] at H
                cases H
            · rw [if_neg c6242_] at H
              cases H
          · rw [if_neg c6239_] at H
            have hb_ : (decide (x6235_ < (Int.tmod (IntKind.i64.wrap p2) 6))) = false := decide_eq_false c6239_
            try rw [hb_] at h6238_
            clear hb_
            refine wp_else h6238_ rfl ?_
            refine wp_exit ?_
            refine wp_seq ?_
            refine WL.start ?_
            refine WL.block (c := 2) (m' := 2) h6238_ rfl [(50, .int .i64 p0), (49, .slice A6231_ x6230_.length c6232_)] (by kernel_rfl) (fun a6304_ h6305_ => ?_)
            clear h6238_ a6237_
            obtain ⟨r6307_, r6308_, r6309_, A6306_, H⟩ := bind3 H
            refine WL.op' (m := 2) h6305_ rfl rfl ?_
            refine owp_call [.slice A6231_ x6230_.length c6232_, .int .i64 p0] h6305_ rfl (by kernel_rfl) rfl Try.func12 (by kernel_rfl) rfl (by kernel_rfl) (prefix_Get.calls k6236_ hr6234_.rds A6306_ (hS6227_.pool)) (fun e6311_ W6310_ hp6312_ => ?_)
            obtain ⟨rfl, hS6315_⟩ := hp6312_
            have hS6316_ : St b w0 W6310_ R (M6233_ :: Fs) := hS6315_.unpool
            refine ⟨_, rfl, fun a6313_ h6314_ => ?_⟩
            clear h6305_ a6304_
            refine WL.block (c := 7) (m' := 10) h6314_ rfl [(11, .int .i64 r6309_), (10, .int .i64 r6308_), (9, .int .u32 r6307_), (54, .int .i64 r6309_), (53, .int .i64 r6308_), (52, .int .u32 r6307_), (48, .tuple #[.int .u32 r6307_, .int .i64 r6308_, .int .i64 r6309_])] (by kernel_rfl) (fun a6317_ h6318_ => ?_)
            clear h6314_ a6313_
            refine WL.done (by kernel_rfl) ?_
            refine wp_seq ?_
            refine wp_seq ?_
            refine WL.start ?_
            refine WL.block (c := 3) (m' := 3) h6318_ rfl [(57, .bool (decide ((x6230_.length : Int) > 5))), (56, .int .i64 (x6230_.length : Int)), (55, .slice A6231_ x6230_.length c6232_)] (by kernel_rfl) (fun a6319_ h6320_ => ?_)
            clear h6318_ a6317_
            refine WL.done (by kernel_rfl) ?_
            by_cases c6321_ : (x6230_.length : Int) > 5
            · rw [if_pos c6321_] at H
              have hb_ : (decide ((x6230_.length : Int) > 5)) = true := decide_eq_true c6321_
              try rw [hb_] at h6320_
              clear hb_
              refine wp_then h6320_ rfl ?_
              refine wp_seq ?_
              refine WL.start ?_
              obtain ⟨r6323_, A6322_, H⟩ := bind1 H
              refine WL.op' (m := 0) h6320_ rfl rfl ?_
              refine owp_call [] h6320_ rfl (by kernel_rfl) rfl Try.func8 (by kernel_rfl) rfl (by kernel_rfl) (louverlaw02_fixed.calls k6236_  A6322_ hS6316_) (fun e6325_ W6324_ hp6326_ => ?_)
              obtain ⟨rfl, hS6329_⟩ := hp6326_
              refine ⟨_, rfl, fun a6327_ h6328_ => ?_⟩
              clear h6320_ a6319_
              refine WL.block (c := 1) (m' := 2) h6328_ rfl [(59, .bool r6323_)] (by kernel_rfl) (fun a6330_ h6331_ => ?_)
              clear h6328_ a6327_
              by_cases c6332_ : r6323_ = true
              · rw [if_pos c6332_] at H
                have hb_ : r6323_ = true := c6332_
                try rw [hb_] at h6331_
                clear hb_
                refine WL.op' (m := 2) h6331_ rfl rfl (owp_run h6331_ rfl (by kernel_rfl) (v := .int .i64 r6309_) (by kernel_rfl) (fun a6333_ h6334_ => ?_))
                clear h6331_ a6330_
                refine WL.op' (m := 3) h6334_ rfl rfl (owp_run h6334_ rfl (by kernel_rfl) (v := .bool (decide (r6309_ = 4))) (by kernel_rfl) (fun a6335_ h6336_ => ?_))
                clear h6334_ a6333_
                refine WL.block (c := 2) (m' := 6) h6336_ rfl [(63, .bool (decide (r6309_ = 4))), (62, .bool (decide (r6309_ = 4)))] (by kernel_rfl) (fun a6337_ h6338_ => ?_)
                clear h6336_ a6335_
                by_cases c6339_ : r6309_ = 4
                · rw [if_pos c6339_] at H
                  have hb_ : (decide (r6309_ = 4)) = true := decide_eq_true c6339_
                  try rw [hb_] at h6338_
                  clear hb_
                  refine WL.op' (m := 6) h6338_ rfl rfl (owp_run h6338_ rfl (by kernel_rfl) (v := .int .i64 r6308_) (by kernel_rfl) (fun a6340_ h6341_ => ?_))
                  clear h6338_ a6337_
                  refine WL.op' (m := 7) h6341_ rfl rfl (owp_run h6341_ rfl (by kernel_rfl) (v := .bool (decide (r6308_ = 0))) (by kernel_rfl) (fun a6342_ h6343_ => ?_))
                  clear h6341_ a6340_
                  refine WL.block (c := 2) (m' := 10) h6343_ rfl [(6, .bool (decide (r6308_ = 0))), (66, .bool (decide (r6308_ = 0)))] (by kernel_rfl) (fun a6344_ h6345_ => ?_)
                  clear h6343_ a6342_
                  refine WL.done (by kernel_rfl) ?_
                  refine wp_ret ?_
                  have hS6346_ : St b w0 W6324_ R (Fs) := hS6329_.drop_
                  obtain rfl := Option.some.inj H
                  repeat (first | refine then_ret ?_ | refine inBlock_ret ?_ | refine inBlock_go ?_)
                  refine body_ret (v := .bool (decide (r6308_ = 0))) h6345_ (by kernel_rfl) (by kernel_rfl) ?_
                  exact ⟨rfl, hS6346_⟩
                · rw [if_neg c6339_] at H
                  have hb_ : (decide (r6309_ = 4)) = false := decide_eq_false c6339_
                  try rw [hb_] at h6338_
                  clear hb_
                  refine WL.skipped (m := 6) h6338_ rfl rfl (by kernel_rfl) rfl (fun a6347_ h6348_ => ?_)
                  clear h6338_ a6337_
                  refine WL.skipped (m := 7) h6348_ rfl rfl (by kernel_rfl) rfl (fun a6349_ h6350_ => ?_)
                  clear h6348_ a6347_
                  refine WL.block (c := 2) (m' := 10) h6350_ rfl [(6, .bool false), (66, .bool false)] (by kernel_rfl) (fun a6351_ h6352_ => ?_)
                  clear h6350_ a6349_
                  refine WL.done (by kernel_rfl) ?_
                  refine wp_ret ?_
                  have hS6353_ : St b w0 W6324_ R (Fs) := hS6329_.drop_
                  obtain rfl := Option.some.inj H
                  repeat (first | refine then_ret ?_ | refine inBlock_ret ?_ | refine inBlock_go ?_)
                  refine body_ret (v := .bool false) h6352_ (by kernel_rfl) (by kernel_rfl) ?_
                  exact ⟨rfl, hS6353_⟩
              · rw [if_neg c6332_] at H
                have hb_ : r6323_ = false := (Bool.eq_false_iff.2 c6332_)
                try rw [hb_] at h6331_
                clear hb_
                refine WL.skipped (m := 2) h6331_ rfl rfl (by kernel_rfl) rfl (fun a6354_ h6355_ => ?_)
                clear h6331_ a6330_
                refine WL.skipped (m := 3) h6355_ rfl rfl (by kernel_rfl) rfl (fun a6356_ h6357_ => ?_)
                clear h6355_ a6354_
                refine WL.block (c := 2) (m' := 6) h6357_ rfl [(63, .bool false), (62, .bool false)] (by kernel_rfl) (fun a6358_ h6359_ => ?_)
                clear h6357_ a6356_
                refine WL.skipped (m := 6) h6359_ rfl rfl (by kernel_rfl) rfl (fun a6360_ h6361_ => ?_)
                clear h6359_ a6358_
                refine WL.skipped (m := 7) h6361_ rfl rfl (by kernel_rfl) rfl (fun a6362_ h6363_ => ?_)
                clear h6361_ a6360_
                refine WL.block (c := 2) (m' := 10) h6363_ rfl [(6, .bool false), (66, .bool false)] (by kernel_rfl) (fun a6364_ h6365_ => ?_)
                clear h6363_ a6362_
                refine WL.done (by kernel_rfl) ?_
                refine wp_ret ?_
                have hS6366_ : St b w0 W6324_ R (Fs) := hS6329_.drop_
                obtain rfl := Option.some.inj H
                repeat (first | refine then_ret ?_ | refine inBlock_ret ?_ | refine inBlock_go ?_)
                refine body_ret (v := .bool false) h6365_ (by kernel_rfl) (by kernel_rfl) ?_
                exact ⟨rfl, hS6366_⟩
            · rw [if_neg c6321_] at H
              have hb_ : (decide ((x6230_.length : Int) > 5)) = false := decide_eq_false c6321_
              try rw [hb_] at h6320_
              clear hb_
              refine wp_else h6320_ rfl ?_
              refine wp_skip ?_
              refine wp_seq ?_
              refine WL.start ?_
              obtain ⟨r6368_, A6367_, H⟩ := bind1 H
              refine WL.op' (m := 0) h6320_ rfl rfl ?_
              refine owp_call [] h6320_ rfl (by kernel_rfl) rfl Try.func8 (by kernel_rfl) rfl (by kernel_rfl) (louverlaw02_fixed.calls k6236_  A6367_ hS6316_) (fun e6370_ W6369_ hp6371_ => ?_)
              obtain ⟨rfl, hS6374_⟩ := hp6371_
              refine ⟨_, rfl, fun a6372_ h6373_ => ?_⟩
              clear h6320_ a6319_
              refine WL.block (c := 1) (m' := 2) h6373_ rfl [(68, .bool r6368_)] (by kernel_rfl) (fun a6375_ h6376_ => ?_)
              clear h6373_ a6372_
              by_cases c6377_ : r6368_ = true
              · rw [if_pos c6377_] at H
                have hb_ : r6368_ = true := c6377_
                try rw [hb_] at h6376_
                clear hb_
                refine WL.op' (m := 2) h6376_ rfl rfl (owp_run h6376_ rfl (by kernel_rfl) (v := .int .i64 r6309_) (by kernel_rfl) (fun a6378_ h6379_ => ?_))
                clear h6376_ a6375_
                refine WL.op' (m := 3) h6379_ rfl rfl (owp_run h6379_ rfl (by kernel_rfl) (v := .bool (decide (r6309_ = 0))) (by kernel_rfl) (fun a6380_ h6381_ => ?_))
                clear h6379_ a6378_
                refine WL.block (c := 2) (m' := 6) h6381_ rfl [(72, .bool (decide (r6309_ = 0))), (71, .bool (decide (r6309_ = 0)))] (by kernel_rfl) (fun a6382_ h6383_ => ?_)
                clear h6381_ a6380_
                by_cases c6384_ : r6309_ = 0
                · rw [if_pos c6384_] at H
                  have hb_ : (decide (r6309_ = 0)) = true := decide_eq_true c6384_
                  try rw [hb_] at h6383_
                  clear hb_
                  refine WL.op' (m := 6) h6383_ rfl rfl (owp_run h6383_ rfl (by kernel_rfl) (v := .int .u32 r6307_) (by kernel_rfl) (fun a6385_ h6386_ => ?_))
                  clear h6383_ a6382_
                  refine WL.op' (m := 7) h6386_ rfl rfl (owp_run h6386_ rfl (by kernel_rfl) (v := .int .u32 p1) (by kernel_rfl) (fun a6387_ h6388_ => ?_))
                  clear h6386_ a6385_
                  refine WL.op' (m := 8) h6388_ rfl rfl (owp_run h6388_ rfl (by kernel_rfl) (v := .bool (decide (r6307_ = p1))) (by kernel_rfl) (fun a6389_ h6390_ => ?_))
                  clear h6388_ a6387_
                  refine WL.block (c := 2) (m' := 11) h6390_ rfl [(77, .bool (decide (r6307_ = p1))), (76, .bool (decide (r6307_ = p1)))] (by kernel_rfl) (fun a6391_ h6392_ => ?_)
                  clear h6390_ a6389_
                  by_cases c6393_ : r6307_ = p1
                  · rw [if_pos c6393_] at H
                    have hb_ : (decide (r6307_ = p1)) = true := decide_eq_true c6393_
                    try rw [hb_] at h6392_
                    clear hb_
                    refine WL.op' (m := 11) h6392_ rfl rfl (owp_run h6392_ rfl (by kernel_rfl) (v := .int .i64 r6308_) (by kernel_rfl) (fun a6394_ h6395_ => ?_))
                    clear h6392_ a6391_
                    refine WL.op' (m := 12) h6395_ rfl rfl (owp_run h6395_ rfl (by kernel_rfl) (v := .slice A6231_ x6230_.length c6232_) (by kernel_rfl) (fun a6396_ h6397_ => ?_))
                    clear h6395_ a6394_
                    refine WL.op' (m := 13) h6397_ rfl rfl (owp_run h6397_ rfl (by kernel_rfl) (v := .int .i64 (x6230_.length : Int)) (by kernel_rfl) (fun a6398_ h6399_ => ?_))
                    clear h6397_ a6396_
                    refine WL.op' (m := 14) h6399_ rfl rfl (owp_run h6399_ rfl (by kernel_rfl) (v := .bool (decide (r6308_ = (x6230_.length : Int)))) (by kernel_rfl) (fun a6400_ h6401_ => ?_))
                    clear h6399_ a6398_
                    refine WL.block (c := 2) (m' := 17) h6401_ rfl [(6, .bool (decide (r6308_ = (x6230_.length : Int)))), (82, .bool (decide (r6308_ = (x6230_.length : Int))))] (by kernel_rfl) (fun a6402_ h6403_ => ?_)
                    clear h6401_ a6400_
                    refine WL.done (by kernel_rfl) ?_
                    refine wp_ret ?_
                    have hS6404_ : St b w0 W6369_ R (Fs) := hS6374_.drop_
                    obtain rfl := Option.some.inj H
                    repeat (first | refine then_ret ?_ | refine inBlock_ret ?_ | refine inBlock_go ?_)
                    refine body_ret (v := .bool (decide (r6308_ = (x6230_.length : Int)))) h6403_ (by kernel_rfl) (by kernel_rfl) ?_
                    exact ⟨rfl, hS6404_⟩
                  · rw [if_neg c6393_] at H
                    have hb_ : (decide (r6307_ = p1)) = false := decide_eq_false c6393_
                    try rw [hb_] at h6392_
                    clear hb_
                    refine WL.skipped (m := 11) h6392_ rfl rfl (by kernel_rfl) rfl (fun a6405_ h6406_ => ?_)
                    clear h6392_ a6391_
                    refine WL.skipped (m := 12) h6406_ rfl rfl (by kernel_rfl) rfl (fun a6407_ h6408_ => ?_)
                    clear h6406_ a6405_
                    refine WL.skipped (m := 13) h6408_ rfl rfl (by kernel_rfl) rfl (fun a6409_ h6410_ => ?_)
                    clear h6408_ a6407_
                    refine WL.skipped (m := 14) h6410_ rfl rfl (by kernel_rfl) rfl (fun a6411_ h6412_ => ?_)
                    clear h6410_ a6409_
                    refine WL.block (c := 2) (m' := 17) h6412_ rfl [(6, .bool false), (82, .bool false)] (by kernel_rfl) (fun a6413_ h6414_ => ?_)
                    clear h6412_ a6411_
                    refine WL.done (by kernel_rfl) ?_
                    refine wp_ret ?_
                    have hS6415_ : St b w0 W6369_ R (Fs) := hS6374_.drop_
                    obtain rfl := Option.some.inj H
                    repeat (first | refine then_ret ?_ | refine inBlock_ret ?_ | refine inBlock_go ?_)
                    refine body_ret (v := .bool false) h6414_ (by kernel_rfl) (by kernel_rfl) ?_
                    exact ⟨rfl, hS6415_⟩
                · rw [if_neg c6384_] at H
                  have hb_ : (decide (r6309_ = 0)) = false := decide_eq_false c6384_
                  try rw [hb_] at h6383_
                  clear hb_
                  refine WL.skipped (m := 6) h6383_ rfl rfl (by kernel_rfl) rfl (fun a6416_ h6417_ => ?_)
                  clear h6383_ a6382_
                  refine WL.skipped (m := 7) h6417_ rfl rfl (by kernel_rfl) rfl (fun a6418_ h6419_ => ?_)
                  clear h6417_ a6416_
                  refine WL.skipped (m := 8) h6419_ rfl rfl (by kernel_rfl) rfl (fun a6420_ h6421_ => ?_)
                  clear h6419_ a6418_
                  refine WL.block (c := 2) (m' := 11) h6421_ rfl [(77, .bool false), (76, .bool false)] (by kernel_rfl) (fun a6422_ h6423_ => ?_)
                  clear h6421_ a6420_
                  refine WL.skipped (m := 11) h6423_ rfl rfl (by kernel_rfl) rfl (fun a6424_ h6425_ => ?_)
                  clear h6423_ a6422_
                  refine WL.skipped (m := 12) h6425_ rfl rfl (by kernel_rfl) rfl (fun a6426_ h6427_ => ?_)
                  clear h6425_ a6424_
                  refine WL.skipped (m := 13) h6427_ rfl rfl (by kernel_rfl) rfl (fun a6428_ h6429_ => ?_)
                  clear h6427_ a6426_
                  refine WL.skipped (m := 14) h6429_ rfl rfl (by kernel_rfl) rfl (fun a6430_ h6431_ => ?_)
                  clear h6429_ a6428_
                  refine WL.block (c := 2) (m' := 17) h6431_ rfl [(6, .bool false), (82, .bool false)] (by kernel_rfl) (fun a6432_ h6433_ => ?_)
                  clear h6431_ a6430_
                  refine WL.done (by kernel_rfl) ?_
                  refine wp_ret ?_
                  have hS6434_ : St b w0 W6369_ R (Fs) := hS6374_.drop_
                  obtain rfl := Option.some.inj H
                  repeat (first | refine then_ret ?_ | refine inBlock_ret ?_ | refine inBlock_go ?_)
                  refine body_ret (v := .bool false) h6433_ (by kernel_rfl) (by kernel_rfl) ?_
                  exact ⟨rfl, hS6434_⟩
              · rw [if_neg c6377_] at H
                have hb_ : r6368_ = false := (Bool.eq_false_iff.2 c6377_)
                try rw [hb_] at h6376_
                clear hb_
                refine WL.skipped (m := 2) h6376_ rfl rfl (by kernel_rfl) rfl (fun a6435_ h6436_ => ?_)
                clear h6376_ a6375_
                refine WL.skipped (m := 3) h6436_ rfl rfl (by kernel_rfl) rfl (fun a6437_ h6438_ => ?_)
                clear h6436_ a6435_
                refine WL.block (c := 2) (m' := 6) h6438_ rfl [(72, .bool false), (71, .bool false)] (by kernel_rfl) (fun a6439_ h6440_ => ?_)
                clear h6438_ a6437_
                refine WL.skipped (m := 6) h6440_ rfl rfl (by kernel_rfl) rfl (fun a6441_ h6442_ => ?_)
                clear h6440_ a6439_
                refine WL.skipped (m := 7) h6442_ rfl rfl (by kernel_rfl) rfl (fun a6443_ h6444_ => ?_)
                clear h6442_ a6441_
                refine WL.skipped (m := 8) h6444_ rfl rfl (by kernel_rfl) rfl (fun a6445_ h6446_ => ?_)
                clear h6444_ a6443_
                refine WL.block (c := 2) (m' := 11) h6446_ rfl [(77, .bool false), (76, .bool false)] (by kernel_rfl) (fun a6447_ h6448_ => ?_)
                clear h6446_ a6445_
                refine WL.skipped (m := 11) h6448_ rfl rfl (by kernel_rfl) rfl (fun a6449_ h6450_ => ?_)
                clear h6448_ a6447_
                refine WL.skipped (m := 12) h6450_ rfl rfl (by kernel_rfl) rfl (fun a6451_ h6452_ => ?_)
                clear h6450_ a6449_
                refine WL.skipped (m := 13) h6452_ rfl rfl (by kernel_rfl) rfl (fun a6453_ h6454_ => ?_)
                clear h6452_ a6451_
                refine WL.skipped (m := 14) h6454_ rfl rfl (by kernel_rfl) rfl (fun a6455_ h6456_ => ?_)
                clear h6454_ a6453_
                refine WL.block (c := 2) (m' := 17) h6456_ rfl [(6, .bool false), (82, .bool false)] (by kernel_rfl) (fun a6457_ h6458_ => ?_)
                clear h6456_ a6455_
                refine WL.done (by kernel_rfl) ?_
                refine wp_ret ?_
                have hS6459_ : St b w0 W6369_ R (Fs) := hS6374_.drop_
                obtain rfl := Option.some.inj H
                repeat (first | refine then_ret ?_ | refine inBlock_ret ?_ | refine inBlock_go ?_)
                refine body_ret (v := .bool false) h6458_ (by kernel_rfl) (by kernel_rfl) ?_
                exact ⟨rfl, hS6459_⟩

/-! ### louver/louverlaw02.PrefixHigh -/
def louverlaw02_PrefixHigh.f (k : Nat) (p0 : Int) (p1 : Int) (p2 : Int) (p3 : Int) : Option (Bool) := if p0 < 1 then (bnd1 (louverlaw02_fixed.f k) fun r8017_ => (some r8017_)) else (if p0 > 8 then (bnd1 (louverlaw02_fixed.f k) fun r8040_ => (some r8040_)) else (if p3 > 268435456 then (bnd1 (louverlaw02_fixed.f k) fun r8057_ => (some r8057_)) else (bnd1 (prefix_Put.f k ([] : List Int) p0 p1 p3) fun r8069_ => (bnd1 (prefix_Put.f k ([] : List Int) p0 p2 p3) fun r8085_ => (if (r8069_.length : Int) = 0 then (some false) else (if (r8069_.length : Int) = (r8085_.length : Int) then (if 1 ≤ (r8069_.length : Int) then (if 1 ≤ (r8085_.length : Int) then (if (toS (r8069_.drop (1 : Int).toNat)) = (toS (r8085_.drop (1 : Int).toNat)) then (bnd3 (prefix_Get.f k r8069_ p0) fun r8388_ r8389_ r8390_ => (bnd3 (prefix_Get.f k r8085_ p0) fun r8404_ r8405_ r8406_ => (bnd1 (louverlaw02_fixed.f k) fun r9140_ => (if r9140_ = true then (if 0 < (r8069_.length : Int) then (if 0 ≤ p0 then (if (shrI .i64 (IntKind.i64.wrap (gt (0 : Int) r8069_ (0 : Int))) p0) = (shrI .i64 (IntKind.i64.wrap p1) p0) then (if 0 < (r8085_.length : Int) then (if (shrI .i64 (IntKind.i64.wrap (gt (0 : Int) r8085_ (0 : Int))) p0) = (shrI .i64 (IntKind.i64.wrap p2) p0) then (if r8388_ = r8404_ then (if r8388_ = p3 then (if r8390_ = 0 then (some (decide (r8406_ = 0))) else (some false)) else (some false)) else (some false)) else (some false)) else (none)) else (some false)) else (none)) else (none)) else (some false))))) else (some false)) else (none)) else (none)) else (some false)))))))
set_option maxHeartbeats 2000000 in
set_option maxRecDepth 100000 in
theorem louverlaw02_PrefixHigh.calls (k : Nat) {b : Nat} {w0 W : World} {R : Frag} {Fs : List Frag} {p0 : Int} {p1 : Int} {p2 : Int} {p3 : Int}  {r0_ : Bool}  (H : louverlaw02_PrefixHigh.f k p0 p1 p2 p3 = some r0_) (hS : St b w0 W R (Fs)) :
    Calls Try.prog 7 ([.int .i64 p0, .int .u8 p1, .int .u8 p2, .int .u32 p3] : List Value).toArray W (fun e W' => e = .returned (.bool r0_) ∧ St b w0 W' R (Fs)) := by
  unfold louverlaw02_PrefixHigh.f at H
  refine calls_enter Try.func7 rfl 114 rfl (by kernel_rfl) (fun a h => ?_)
  refine wp_seq ?_
  refine WL.start ?_
  refine WL.block (c := 1) (m' := 1) h rfl [(8, .bool false)] (by kernel_rfl) (fun a7999_ h8000_ => ?_)
  refine WL.done (by kernel_rfl) ?_
  refine wp_seq ?_
  refine wp_seq ?_
  refine WL.start ?_
  refine WL.block (c := 3) (m' := 3) h8000_ rfl [(19, .bool (decide (p0 < 1))), (18, .bool (decide (p0 < 1))), (17, .int .i64 p0)] (by kernel_rfl) (fun a8001_ h8002_ => ?_)
  clear h8000_ a7999_
  by_cases c8003_ : p0 < 1
  · rw [if_pos c8003_] at H
    have hb_ : (decide (p0 < 1)) = true := decide_eq_true c8003_
    try rw [hb_] at h8002_
    clear hb_
    refine WL.skipped (m := 3) h8002_ rfl rfl (by kernel_rfl) rfl (fun a8004_ h8005_ => ?_)
    clear h8002_ a8001_
    refine WL.skipped (m := 4) h8005_ rfl rfl (by kernel_rfl) rfl (fun a8006_ h8007_ => ?_)
    clear h8005_ a8004_
    refine WL.block (c := 2) (m' := 7) h8007_ rfl [(23, .bool true), (22, .bool true)] (by kernel_rfl) (fun a8008_ h8009_ => ?_)
    clear h8007_ a8006_
    refine WL.skipped (m := 7) h8009_ rfl rfl (by kernel_rfl) rfl (fun a8010_ h8011_ => ?_)
    clear h8009_ a8008_
    refine WL.skipped (m := 8) h8011_ rfl rfl (by kernel_rfl) rfl (fun a8012_ h8013_ => ?_)
    clear h8011_ a8010_
    refine WL.block (c := 1) (m' := 10) h8013_ rfl [(26, .bool true)] (by kernel_rfl) (fun a8014_ h8015_ => ?_)
    clear h8013_ a8012_
    refine WL.done (by kernel_rfl) ?_
    refine wp_then h8015_ rfl ?_
    refine wp_seq ?_
    refine WL.start ?_
    obtain ⟨r8017_, A8016_, H⟩ := bind1 H
    refine WL.op' (m := 0) h8015_ rfl rfl ?_
    refine owp_call [] h8015_ rfl (by kernel_rfl) rfl Try.func8 (by kernel_rfl) rfl (by kernel_rfl) (louverlaw02_fixed.calls k  A8016_ hS) (fun e8019_ W8018_ hp8020_ => ?_)
    obtain ⟨rfl, hS8023_⟩ := hp8020_
    refine ⟨_, rfl, fun a8021_ h8022_ => ?_⟩
    clear h8015_ a8014_
    refine WL.block (c := 1) (m' := 2) h8022_ rfl [(8, .bool r8017_)] (by kernel_rfl) (fun a8024_ h8025_ => ?_)
    clear h8022_ a8021_
    refine WL.done (by kernel_rfl) ?_
    refine wp_ret ?_
    obtain rfl := Option.some.inj H
    repeat (first | refine then_ret ?_ | refine inBlock_ret ?_ | refine inBlock_go ?_)
    refine body_ret (v := .bool r8017_) h8025_ (by kernel_rfl) (by kernel_rfl) ?_
    exact ⟨rfl, hS8023_⟩
  · rw [if_neg c8003_] at H
    have hb_ : (decide (p0 < 1)) = false := decide_eq_false c8003_
    try rw [hb_] at h8002_
    clear hb_
    refine WL.op' (m := 3) h8002_ rfl rfl (owp_run h8002_ rfl (by kernel_rfl) (v := .int .i64 p0) (by kernel_rfl) (fun a8026_ h8027_ => ?_))
    clear h8002_ a8001_
    refine WL.op' (m := 4) h8027_ rfl rfl (owp_run h8027_ rfl (by kernel_rfl) (v := .bool (decide (p0 > 8))) (by kernel_rfl) (fun a8028_ h8029_ => ?_))
    clear h8027_ a8026_
    refine WL.block (c := 2) (m' := 7) h8029_ rfl [(23, .bool (decide (p0 > 8))), (22, .bool (decide (p0 > 8)))] (by kernel_rfl) (fun a8030_ h8031_ => ?_)
    clear h8029_ a8028_
    by_cases c8032_ : p0 > 8
    · rw [if_pos c8032_] at H
      have hb_ : (decide (p0 > 8)) = true := decide_eq_true c8032_
      try rw [hb_] at h8031_
      clear hb_
      refine WL.skipped (m := 7) h8031_ rfl rfl (by kernel_rfl) rfl (fun a8033_ h8034_ => ?_)
      clear h8031_ a8030_
      refine WL.skipped (m := 8) h8034_ rfl rfl (by kernel_rfl) rfl (fun a8035_ h8036_ => ?_)
      clear h8034_ a8033_
      refine WL.block (c := 1) (m' := 10) h8036_ rfl [(26, .bool true)] (by kernel_rfl) (fun a8037_ h8038_ => ?_)
      clear h8036_ a8035_
      refine WL.done (by kernel_rfl) ?_
      refine wp_then h8038_ rfl ?_
      refine wp_seq ?_
      refine WL.start ?_
      obtain ⟨r8040_, A8039_, H⟩ := bind1 H
      refine WL.op' (m := 0) h8038_ rfl rfl ?_
      refine owp_call [] h8038_ rfl (by kernel_rfl) rfl Try.func8 (by kernel_rfl) rfl (by kernel_rfl) (louverlaw02_fixed.calls k  A8039_ hS) (fun e8042_ W8041_ hp8043_ => ?_)
      obtain ⟨rfl, hS8046_⟩ := hp8043_
      refine ⟨_, rfl, fun a8044_ h8045_ => ?_⟩
      clear h8038_ a8037_
      refine WL.block (c := 1) (m' := 2) h8045_ rfl [(8, .bool r8040_)] (by kernel_rfl) (fun a8047_ h8048_ => ?_)
      clear h8045_ a8044_
      refine WL.done (by kernel_rfl) ?_
      refine wp_ret ?_
      obtain rfl := Option.some.inj H
      repeat (first | refine then_ret ?_ | refine inBlock_ret ?_ | refine inBlock_go ?_)
      refine body_ret (v := .bool r8040_) h8048_ (by kernel_rfl) (by kernel_rfl) ?_
      exact ⟨rfl, hS8046_⟩
    · rw [if_neg c8032_] at H
      have hb_ : (decide (p0 > 8)) = false := decide_eq_false c8032_
      try rw [hb_] at h8031_
      clear hb_
      refine WL.op' (m := 7) h8031_ rfl rfl (owp_run h8031_ rfl (by kernel_rfl) (v := .int .u32 p3) (by kernel_rfl) (fun a8049_ h8050_ => ?_))
      clear h8031_ a8030_
      refine WL.op' (m := 8) h8050_ rfl rfl (owp_run h8050_ rfl (by kernel_rfl) (v := .bool (decide (p3 > 268435456))) (by kernel_rfl) (fun a8051_ h8052_ => ?_))
      clear h8050_ a8049_
      refine WL.block (c := 1) (m' := 10) h8052_ rfl [(26, .bool (decide (p3 > 268435456)))] (by kernel_rfl) (fun a8053_ h8054_ => ?_)
      clear h8052_ a8051_
      refine WL.done (by kernel_rfl) ?_
      by_cases c8055_ : p3 > 268435456
      · rw [if_pos c8055_] at H
        have hb_ : (decide (p3 > 268435456)) = true := decide_eq_true c8055_
        try rw [hb_] at h8054_
        clear hb_
        refine wp_then h8054_ rfl ?_
        refine wp_seq ?_
        refine WL.start ?_
        obtain ⟨r8057_, A8056_, H⟩ := bind1 H
        refine WL.op' (m := 0) h8054_ rfl rfl ?_
        refine owp_call [] h8054_ rfl (by kernel_rfl) rfl Try.func8 (by kernel_rfl) rfl (by kernel_rfl) (louverlaw02_fixed.calls k  A8056_ hS) (fun e8059_ W8058_ hp8060_ => ?_)
        obtain ⟨rfl, hS8063_⟩ := hp8060_
        refine ⟨_, rfl, fun a8061_ h8062_ => ?_⟩
        clear h8054_ a8053_
        refine WL.block (c := 1) (m' := 2) h8062_ rfl [(8, .bool r8057_)] (by kernel_rfl) (fun a8064_ h8065_ => ?_)
        clear h8062_ a8061_
        refine WL.done (by kernel_rfl) ?_
        refine wp_ret ?_
        obtain rfl := Option.some.inj H
        repeat (first | refine then_ret ?_ | refine inBlock_ret ?_ | refine inBlock_go ?_)
        refine body_ret (v := .bool r8057_) h8065_ (by kernel_rfl) (by kernel_rfl) ?_
        exact ⟨rfl, hS8063_⟩
      · rw [if_neg c8055_] at H
        have hb_ : (decide (p3 > 268435456)) = false := decide_eq_false c8055_
        try rw [hb_] at h8054_
        clear hb_
        refine wp_else h8054_ rfl ?_
        refine wp_skip ?_
        refine wp_seq ?_
        refine WL.start ?_
        refine WL.block (c := 3) (m' := 3) h8054_ rfl [(30, .int .u32 p3), (29, .int .u8 p1), (28, .int .i64 p0)] (by kernel_rfl) (fun a8066_ h8067_ => ?_)
        clear h8054_ a8053_
        obtain ⟨r8069_, A8068_, H⟩ := bind1 H
        refine WL.op' (m := 3) h8067_ rfl rfl ?_
        refine owp_call [.slice none 0 0, .int .i64 p0, .int .u8 p1, .int .u32 p3] h8067_ rfl (by kernel_rfl) rfl Try.func10 (by kernel_rfl) rfl (by kernel_rfl) (prefix_Put.calls k (Rds.nil (dk := (kInt .u8)) (R := R)) A8068_ hS) (fun e8071_ W8070_ hp8072_ => ?_)
        obtain ⟨v8075_, M8076_, rfl, hr8077_, hS8079_⟩ := hp8072_
        refine ⟨_, rfl, fun a8073_ h8074_ => ?_⟩
        clear h8067_ a8066_
        obtain ⟨A8080_, c8081_, rfl⟩ := hr8077_.form
        refine WL.block (c := 3) (m' := 7) h8074_ rfl [(34, .int .u32 p3), (33, .int .u8 p2), (32, .int .i64 p0)] (by kernel_rfl) (fun a8082_ h8083_ => ?_)
        clear h8074_ a8073_
        obtain ⟨r8085_, A8084_, H⟩ := bind1 H
        refine WL.op' (m := 7) h8083_ rfl rfl ?_
        refine owp_call [.slice none 0 0, .int .i64 p0, .int .u8 p2, .int .u32 p3] h8083_ rfl (by kernel_rfl) rfl Try.func10 (by kernel_rfl) rfl (by kernel_rfl) (prefix_Put.calls k (Rds.nil (dk := (kInt .u8)) (R := R)) A8084_ hS8079_) (fun e8087_ W8086_ hp8088_ => ?_)
        obtain ⟨v8091_, M8092_, rfl, hr8093_, hS8095_⟩ := hp8088_
        refine ⟨_, rfl, fun a8089_ h8090_ => ?_⟩
        clear h8083_ a8082_
        obtain ⟨A8096_, c8097_, rfl⟩ := hr8093_.form
        refine WL.block (c := 2) (m' := 10) h8090_ rfl [(10, .slice A8096_ r8085_.length c8097_), (9, .slice A8080_ r8069_.length c8081_)] (by kernel_rfl) (fun a8098_ h8099_ => ?_)
        clear h8090_ a8089_
        refine WL.done (by kernel_rfl) ?_
        refine wp_seq ?_
        refine wp_seq ?_
        refine WH.start (fun w_ => (∀ a_ u_, Kn b w0 (M8076_ ++ R) a_ u_ → w_.cell? a_ = some u_) ∧ (∀ a_ u_, Kn b w0 (M8092_ ++ R) a_ u_ → w_.cell? a_ = some u_) ∧ True) (by kernel_rfl) #[false, false, false, false, false, false, false, false, false, false, false, false, false, false, false, false, false, false, false] 19 rfl rfl ?_
        have hS8296_ := hS8095_.drew
        refine WH.take 0 (listed' := #[true, false, false, false, false, false, false, false, false, false, false, false, false, false, false, false, false, false, false]) h8099_ rfl rfl (by kernel_rfl) rfl rfl (.slice A8080_ r8069_.length c8081_) (fun _ _ => by kernel_rfl) ⟨(fun _ _ hk_ => (hS8296_.bring 1 rfl rfl).pool.kn hk_), (fun _ _ hk_ => (hS8296_).pool.kn hk_), trivial⟩ (fun _ _ _ h_ => h_) (fun a8297_ h8298_ => ?_)
        clear h8099_ a8098_
        refine WH.take 1 (listed' := #[true, true, false, false, false, false, false, false, false, false, false, false, false, false, false, false, false, false, false]) h8298_ rfl rfl (by kernel_rfl) rfl rfl (.int .i64 (r8069_.length : Int)) (fun _ _ => by kernel_rfl) ⟨(fun _ _ hk_ => (hS8296_.bring 1 rfl rfl).pool.kn hk_), (fun _ _ hk_ => (hS8296_).pool.kn hk_), trivial⟩ (fun _ _ _ h_ => h_) (fun a8299_ h8300_ => ?_)
        clear h8298_ a8297_
        refine WH.take 2 (listed' := #[true, true, true, false, false, false, false, false, false, false, false, false, false, false, false, false, false, false, false]) h8300_ rfl rfl (by kernel_rfl) rfl rfl (.bool (decide ((r8069_.length : Int) = 0))) (fun _ _ => by kernel_rfl) ⟨(fun _ _ hk_ => (hS8296_.bring 1 rfl rfl).pool.kn hk_), (fun _ _ hk_ => (hS8296_).pool.kn hk_), trivial⟩ (fun _ _ _ h_ => h_) (fun a8301_ h8302_ => ?_)
        clear h8300_ a8299_
        refine WH.take 3 (listed' := #[true, true, true, true, false, false, false, false, false, false, false, false, false, false, false, false, false, false, false]) h8302_ rfl rfl (by kernel_rfl) rfl rfl (.bool (decide ((r8069_.length : Int) = 0))) (fun _ _ => by kernel_rfl) ⟨(fun _ _ hk_ => (hS8296_.bring 1 rfl rfl).pool.kn hk_), (fun _ _ hk_ => (hS8296_).pool.kn hk_), trivial⟩ (fun _ _ _ h_ => h_) (fun a8303_ h8304_ => ?_)
        clear h8302_ a8301_
        by_cases c8305_ : (r8069_.length : Int) = 0
        · rw [if_pos c8305_] at H
          have hb_ : (decide ((r8069_.length : Int) = 0)) = true := decide_eq_true c8305_
          try rw [hb_] at h8304_
          clear hb_
          refine WH.skip 4 (listed' := #[true, true, true, true, true, false, false, false, false, false, false, false, false, false, false, false, false, false, false]) h8304_ rfl rfl (by kernel_rfl) rfl rfl ⟨(fun _ _ hk_ => (hS8296_.bring 1 rfl rfl).pool.kn hk_), (fun _ _ hk_ => (hS8296_).pool.kn hk_), trivial⟩ (fun _ _ _ h_ => h_) (fun a8306_ h8307_ => ?_)
          clear h8304_ a8303_
          refine WH.skip 5 (listed' := #[true, true, true, true, true, true, false, false, false, false, false, false, false, false, false, false, false, false, false]) h8307_ rfl rfl (by kernel_rfl) rfl rfl ⟨(fun _ _ hk_ => (hS8296_.bring 1 rfl rfl).pool.kn hk_), (fun _ _ hk_ => (hS8296_).pool.kn hk_), trivial⟩ (fun _ _ _ h_ => h_) (fun a8308_ h8309_ => ?_)
          clear h8307_ a8306_
          refine WH.skip 6 (listed' := #[true, true, true, true, true, true, true, false, false, false, false, false, false, false, false, false, false, false, false]) h8309_ rfl rfl (by kernel_rfl) rfl rfl ⟨(fun _ _ hk_ => (hS8296_.bring 1 rfl rfl).pool.kn hk_), (fun _ _ hk_ => (hS8296_).pool.kn hk_), trivial⟩ (fun _ _ _ h_ => h_) (fun a8310_ h8311_ => ?_)
          clear h8309_ a8308_
          refine WH.skip 7 (listed' := #[true, true, true, true, true, true, true, true, false, false, false, false, false, false, false, false, false, false, false]) h8311_ rfl rfl (by kernel_rfl) rfl rfl ⟨(fun _ _ hk_ => (hS8296_.bring 1 rfl rfl).pool.kn hk_), (fun _ _ hk_ => (hS8296_).pool.kn hk_), trivial⟩ (fun _ _ _ h_ => h_) (fun a8312_ h8313_ => ?_)
          clear h8311_ a8310_
          refine WH.skip 8 (listed' := #[true, true, true, true, true, true, true, true, true, false, false, false, false, false, false, false, false, false, false]) h8313_ rfl rfl (by kernel_rfl) rfl rfl ⟨(fun _ _ hk_ => (hS8296_.bring 1 rfl rfl).pool.kn hk_), (fun _ _ hk_ => (hS8296_).pool.kn hk_), trivial⟩ (fun _ _ _ h_ => h_) (fun a8314_ h8315_ => ?_)
          clear h8313_ a8312_
          refine WH.take 9 (listed' := #[true, true, true, true, true, true, true, true, true, true, false, false, false, false, false, false, false, false, false]) h8315_ rfl rfl (by kernel_rfl) rfl rfl (.bool true) (fun _ _ => by kernel_rfl) ⟨(fun _ _ hk_ => (hS8296_.bring 1 rfl rfl).pool.kn hk_), (fun _ _ hk_ => (hS8296_).pool.kn hk_), trivial⟩ (fun _ _ _ h_ => h_) (fun a8316_ h8317_ => ?_)
          clear h8315_ a8314_
          refine WH.take 10 (listed' := #[true, true, true, true, true, true, true, true, true, true, true, false, false, false, false, false, false, false, false]) h8317_ rfl rfl (by kernel_rfl) rfl rfl (.bool true) (fun _ _ => by kernel_rfl) ⟨(fun _ _ hk_ => (hS8296_.bring 1 rfl rfl).pool.kn hk_), (fun _ _ hk_ => (hS8296_).pool.kn hk_), trivial⟩ (fun _ _ _ h_ => h_) (fun a8318_ h8319_ => ?_)
          clear h8317_ a8316_
          refine WH.skip 11 (listed' := #[true, true, true, true, true, true, true, true, true, true, true, true, false, false, false, false, false, false, false]) h8319_ rfl rfl (by kernel_rfl) rfl rfl ⟨(fun _ _ hk_ => (hS8296_.bring 1 rfl rfl).pool.kn hk_), (fun _ _ hk_ => (hS8296_).pool.kn hk_), trivial⟩ (fun _ _ _ h_ => h_) (fun a8320_ h8321_ => ?_)
          clear h8319_ a8318_
          refine WH.skip 12 (listed' := #[true, true, true, true, true, true, true, true, true, true, true, true, true, false, false, false, false, false, false]) h8321_ rfl rfl (by kernel_rfl) rfl rfl ⟨(fun _ _ hk_ => (hS8296_.bring 1 rfl rfl).pool.kn hk_), (fun _ _ hk_ => (hS8296_).pool.kn hk_), trivial⟩ (fun _ _ _ h_ => h_) (fun a8322_ h8323_ => ?_)
          clear h8321_ a8320_
          refine WH.skip 13 (listed' := #[true, true, true, true, true, true, true, true, true, true, true, true, true, true, false, false, false, false, false]) h8323_ rfl rfl (by kernel_rfl) rfl rfl ⟨(fun _ _ hk_ => (hS8296_.bring 1 rfl rfl).pool.kn hk_), (fun _ _ hk_ => (hS8296_).pool.kn hk_), trivial⟩ (fun _ _ _ h_ => h_) (fun a8324_ h8325_ => ?_)
          clear h8323_ a8322_
          refine WH.skip 14 (listed' := #[true, true, true, true, true, true, true, true, true, true, true, true, true, true, true, false, false, false, false]) h8325_ rfl rfl (by kernel_rfl) rfl rfl ⟨(fun _ _ hk_ => (hS8296_.bring 1 rfl rfl).pool.kn hk_), (fun _ _ hk_ => (hS8296_).pool.kn hk_), trivial⟩ (fun _ _ _ h_ => h_) (fun a8326_ h8327_ => ?_)
          clear h8325_ a8324_
          refine WH.skip 15 (listed' := #[true, true, true, true, true, true, true, true, true, true, true, true, true, true, true, true, false, false, false]) h8327_ rfl rfl (by kernel_rfl) rfl rfl ⟨(fun _ _ hk_ => (hS8296_.bring 1 rfl rfl).pool.kn hk_), (fun _ _ hk_ => (hS8296_).pool.kn hk_), trivial⟩ (fun _ _ _ h_ => h_) (fun a8328_ h8329_ => ?_)
          clear h8327_ a8326_
          refine WH.skip 16 (listed' := #[true, true, true, true, true, true, true, true, true, true, true, true, true, true, true, true, true, false, false]) h8329_ rfl rfl (by kernel_rfl) rfl rfl ⟨(fun _ _ hk_ => (hS8296_.bring 1 rfl rfl).pool.kn hk_), (fun _ _ hk_ => (hS8296_).pool.kn hk_), trivial⟩ (fun _ _ _ h_ => h_) (fun a8330_ h8331_ => ?_)
          clear h8329_ a8328_
          refine WH.skip 17 (listed' := #[true, true, true, true, true, true, true, true, true, true, true, true, true, true, true, true, true, true, false]) h8331_ rfl rfl (by kernel_rfl) rfl rfl ⟨(fun _ _ hk_ => (hS8296_.bring 1 rfl rfl).pool.kn hk_), (fun _ _ hk_ => (hS8296_).pool.kn hk_), trivial⟩ (fun _ _ _ h_ => h_) (fun a8332_ h8333_ => ?_)
          clear h8331_ a8330_
          refine WH.take 18 (listed' := #[true, true, true, true, true, true, true, true, true, true, true, true, true, true, true, true, true, true, true]) h8333_ rfl rfl (by kernel_rfl) rfl rfl (.bool true) (fun _ _ => by kernel_rfl) ⟨(fun _ _ hk_ => (hS8296_.bring 1 rfl rfl).pool.kn hk_), (fun _ _ hk_ => (hS8296_).pool.kn hk_), trivial⟩ (fun _ _ _ h_ => h_) (fun a8334_ h8335_ => ?_)
          clear h8333_ a8332_
          refine WH.done (by kernel_rfl) ?_
          refine wp_then h8335_ rfl ?_
          refine wp_seq ?_
          refine WL.start ?_
          refine WL.block (c := 1) (m' := 1) h8335_ rfl [(8, .bool false)] (by kernel_rfl) (fun a8336_ h8337_ => ?_)
          clear h8335_ a8334_
          refine WL.done (by kernel_rfl) ?_
          refine wp_ret ?_
          have hS8338_ : St b w0 W8086_.drew R (M8076_ :: Fs) := hS8296_.drop_
          have hS8339_ : St b w0 W8086_.drew R (Fs) := hS8338_.drop_
          obtain rfl := Option.some.inj H
          repeat (first | refine then_ret ?_ | refine inBlock_ret ?_ | refine inBlock_go ?_)
          refine body_ret (v := .bool false) h8337_ (by kernel_rfl) (by kernel_rfl) ?_
          exact ⟨rfl, hS8339_⟩
        · rw [if_neg c8305_] at H
          have hb_ : (decide ((r8069_.length : Int) = 0)) = false := decide_eq_false c8305_
          try rw [hb_] at h8304_
          clear hb_
          refine WH.take 4 (listed' := #[true, true, true, true, true, false, false, false, false, false, false, false, false, false, false, false, false, false, false]) h8304_ rfl rfl (by kernel_rfl) rfl rfl (.slice A8080_ r8069_.length c8081_) (fun _ _ => by kernel_rfl) ⟨(fun _ _ hk_ => (hS8296_.bring 1 rfl rfl).pool.kn hk_), (fun _ _ hk_ => (hS8296_).pool.kn hk_), trivial⟩ (fun _ _ _ h_ => h_) (fun a8340_ h8341_ => ?_)
          clear h8304_ a8303_
          refine WH.take 5 (listed' := #[true, true, true, true, true, true, false, false, false, false, false, false, false, false, false, false, false, false, false]) h8341_ rfl rfl (by kernel_rfl) rfl rfl (.int .i64 (r8069_.length : Int)) (fun _ _ => by kernel_rfl) ⟨(fun _ _ hk_ => (hS8296_.bring 1 rfl rfl).pool.kn hk_), (fun _ _ hk_ => (hS8296_).pool.kn hk_), trivial⟩ (fun _ _ _ h_ => h_) (fun a8342_ h8343_ => ?_)
          clear h8341_ a8340_
          refine WH.take 6 (listed' := #[true, true, true, true, true, true, true, false, false, false, false, false, false, false, false, false, false, false, false]) h8343_ rfl rfl (by kernel_rfl) rfl rfl (.slice A8096_ r8085_.length c8097_) (fun _ _ => by kernel_rfl) ⟨(fun _ _ hk_ => (hS8296_.bring 1 rfl rfl).pool.kn hk_), (fun _ _ hk_ => (hS8296_).pool.kn hk_), trivial⟩ (fun _ _ _ h_ => h_) (fun a8344_ h8345_ => ?_)
          clear h8343_ a8342_
          refine WH.take 7 (listed' := #[true, true, true, true, true, true, true, true, false, false, false, false, false, false, false, false, false, false, false]) h8345_ rfl rfl (by kernel_rfl) rfl rfl (.int .i64 (r8085_.length : Int)) (fun _ _ => by kernel_rfl) ⟨(fun _ _ hk_ => (hS8296_.bring 1 rfl rfl).pool.kn hk_), (fun _ _ hk_ => (hS8296_).pool.kn hk_), trivial⟩ (fun _ _ _ h_ => h_) (fun a8346_ h8347_ => ?_)
          clear h8345_ a8344_
          refine WH.take 8 (listed' := #[true, true, true, true, true, true, true, true, true, false, false, false, false, false, false, false, false, false, false]) h8347_ rfl rfl (by kernel_rfl) rfl rfl (.bool (!decide ((r8069_.length : Int) = (r8085_.length : Int)))) (fun _ _ => by kernel_rfl) ⟨(fun _ _ hk_ => (hS8296_.bring 1 rfl rfl).pool.kn hk_), (fun _ _ hk_ => (hS8296_).pool.kn hk_), trivial⟩ (fun _ _ _ h_ => h_) (fun a8348_ h8349_ => ?_)
          clear h8347_ a8346_
          refine WH.take 9 (listed' := #[true, true, true, true, true, true, true, true, true, true, false, false, false, false, false, false, false, false, false]) h8349_ rfl rfl (by kernel_rfl) rfl rfl (.bool (!decide ((r8069_.length : Int) = (r8085_.length : Int)))) (fun _ _ => by kernel_rfl) ⟨(fun _ _ hk_ => (hS8296_.bring 1 rfl rfl).pool.kn hk_), (fun _ _ hk_ => (hS8296_).pool.kn hk_), trivial⟩ (fun _ _ _ h_ => h_) (fun a8350_ h8351_ => ?_)
          clear h8349_ a8348_
          refine WH.take 10 (listed' := #[true, true, true, true, true, true, true, true, true, true, true, false, false, false, false, false, false, false, false]) h8351_ rfl rfl (by kernel_rfl) rfl rfl (.bool (!decide ((r8069_.length : Int) = (r8085_.length : Int)))) (fun _ _ => by kernel_rfl) ⟨(fun _ _ hk_ => (hS8296_.bring 1 rfl rfl).pool.kn hk_), (fun _ _ hk_ => (hS8296_).pool.kn hk_), trivial⟩ (fun _ _ _ h_ => h_) (fun a8352_ h8353_ => ?_)
          clear h8351_ a8350_
          by_cases c8354_ : (r8069_.length : Int) = (r8085_.length : Int)
          · rw [if_pos c8354_] at H
            have hb_ : (decide ((r8069_.length : Int) = (r8085_.length : Int))) = true := decide_eq_true c8354_
            try rw [hb_] at h8353_
            clear hb_
            refine WH.take 11 (listed' := #[true, true, true, true, true, true, true, true, true, true, true, true, false, false, false, false, false, false, false]) h8353_ rfl rfl (by kernel_rfl) rfl rfl (.slice A8080_ r8069_.length c8081_) (fun _ _ => by kernel_rfl) ⟨(fun _ _ hk_ => (hS8296_.bring 1 rfl rfl).pool.kn hk_), (fun _ _ hk_ => (hS8296_).pool.kn hk_), trivial⟩ (fun _ _ _ h_ => h_) (fun a8355_ h8356_ => ?_)
            clear h8353_ a8352_
            refine WH.take 14 (listed' := #[true, true, true, true, true, true, true, true, true, true, true, true, false, false, true, false, false, false, false]) h8356_ rfl rfl (by kernel_rfl) rfl rfl (.slice A8096_ r8085_.length c8097_) (fun _ _ => by kernel_rfl) ⟨(fun _ _ hk_ => (hS8296_.bring 1 rfl rfl).pool.kn hk_), (fun _ _ hk_ => (hS8296_).pool.kn hk_), trivial⟩ (fun _ _ _ h_ => h_) (fun a8357_ h8358_ => ?_)
            clear h8356_ a8355_
            by_cases c8359_ : 1 ≤ (r8069_.length : Int)
            · rw [if_pos c8359_] at H
              refine WH.take 12 (listed' := #[true, true, true, true, true, true, true, true, true, true, true, true, true, false, true, false, false, false, false]) h8358_ rfl rfl (by kernel_rfl) rfl rfl (sliced A8080_ (1 : Int).toNat (r8069_.length : Int).toNat c8081_ 1) (fun w_ hs_ => (run_cut (l := 1) (h := (r8069_.length : Int)) rfl rfl Try.underlying26 (by kernel_rfl) ⟨_, rfl⟩ rfl (by first | assumption | omega) (by first | assumption | omega) (by have q_ := Rds.cap hr8077_.rds; omega) (by have q_ := Rds.cap hr8077_.rds; omega))) ⟨(fun _ _ hk_ => (hS8296_.bring 1 rfl rfl).pool.kn hk_), (fun _ _ hk_ => (hS8296_).pool.kn hk_), trivial⟩ (fun _ _ _ h_ => h_) (fun a8361_ h8362_ => ?_)
              clear h8358_ a8357_
              have hx8360_ := Rds.cut hr8077_.rds (l := (1 : Int).toNat) (h := (r8069_.length : Int).toNat) (by omega) (by omega)
              obtain ⟨v8363_, ev8364_⟩ : ∃ y_, y_ = sliced A8080_ (1 : Int).toNat (r8069_.length : Int).toNat c8081_ 1 := ⟨_, rfl⟩
              have hx_ : Rds (kInt .u8) b w0 (M8076_ ++ R) v8363_ (r8069_.drop (1 : Int).toNat) := hx8360_.as_ ev8364_.symm (by simp)
              rw [← ev8364_] at h8362_; clear hx8360_
              have hx8360_ := hx_; clear hx_
              obtain ⟨A8365_, c8366_, rfl⟩ := hx8360_.form
              refine WH.take 13 (listed' := #[true, true, true, true, true, true, true, true, true, true, true, true, true, true, true, false, false, false, false]) h8362_ rfl rfl (by kernel_rfl) rfl rfl (.string (mkS (toS (r8069_.drop (1 : Int).toNat)))) (fun w_ hs_ => (run_tostr rfl rfl hx8360_ hs_.1 Try.underlying26 Try.underlying5 Try.underlying9)) ⟨(fun _ _ hk_ => (hS8296_.bring 1 rfl rfl).pool.kn hk_), (fun _ _ hk_ => (hS8296_).pool.kn hk_), trivial⟩ (fun _ _ _ h_ => h_) (fun a8367_ h8368_ => ?_)
              clear h8362_ a8361_
              by_cases c8369_ : 1 ≤ (r8085_.length : Int)
              · rw [if_pos c8369_] at H
                refine WH.take 15 (listed' := #[true, true, true, true, true, true, true, true, true, true, true, true, true, true, true, true, false, false, false]) h8368_ rfl rfl (by kernel_rfl) rfl rfl (sliced A8096_ (1 : Int).toNat (r8085_.length : Int).toNat c8097_ 1) (fun w_ hs_ => (run_cut (l := 1) (h := (r8085_.length : Int)) rfl rfl Try.underlying26 (by kernel_rfl) ⟨_, rfl⟩ rfl (by first | assumption | omega) (by first | assumption | omega) (by have q_ := Rds.cap hr8093_.rds; omega) (by have q_ := Rds.cap hr8093_.rds; omega))) ⟨(fun _ _ hk_ => (hS8296_.bring 1 rfl rfl).pool.kn hk_), (fun _ _ hk_ => (hS8296_).pool.kn hk_), trivial⟩ (fun _ _ _ h_ => h_) (fun a8371_ h8372_ => ?_)
                clear h8368_ a8367_
                have hx8370_ := Rds.cut hr8093_.rds (l := (1 : Int).toNat) (h := (r8085_.length : Int).toNat) (by omega) (by omega)
                obtain ⟨v8373_, ev8374_⟩ : ∃ y_, y_ = sliced A8096_ (1 : Int).toNat (r8085_.length : Int).toNat c8097_ 1 := ⟨_, rfl⟩
                have hx_ : Rds (kInt .u8) b w0 (M8092_ ++ R) v8373_ (r8085_.drop (1 : Int).toNat) := hx8370_.as_ ev8374_.symm (by simp)
                rw [← ev8374_] at h8372_; clear hx8370_
                have hx8370_ := hx_; clear hx_
                obtain ⟨A8375_, c8376_, rfl⟩ := hx8370_.form
                refine WH.take 16 (listed' := #[true, true, true, true, true, true, true, true, true, true, true, true, true, true, true, true, true, false, false]) h8372_ rfl rfl (by kernel_rfl) rfl rfl (.string (mkS (toS (r8085_.drop (1 : Int).toNat)))) (fun w_ hs_ => (run_tostr rfl rfl hx8370_ hs_.2.1 Try.underlying26 Try.underlying5 Try.underlying9)) ⟨(fun _ _ hk_ => (hS8296_.bring 1 rfl rfl).pool.kn hk_), (fun _ _ hk_ => (hS8296_).pool.kn hk_), trivial⟩ (fun _ _ _ h_ => h_) (fun a8377_ h8378_ => ?_)
                clear h8372_ a8371_
                refine WH.take 17 (listed' := #[true, true, true, true, true, true, true, true, true, true, true, true, true, true, true, true, true, true, false]) h8378_ rfl rfl (by kernel_rfl) rfl rfl (.bool (!decide ((toS (r8069_.drop (1 : Int).toNat)) = (toS (r8085_.drop (1 : Int).toNat))))) (fun w_ hs_ => (run_strne rfl rfl rfl)) ⟨(fun _ _ hk_ => (hS8296_.bring 1 rfl rfl).pool.kn hk_), (fun _ _ hk_ => (hS8296_).pool.kn hk_), trivial⟩ (fun _ _ _ h_ => h_) (fun a8379_ h8380_ => ?_)
                clear h8378_ a8377_
                refine WH.take 18 (listed' := #[true, true, true, true, true, true, true, true, true, true, true, true, true, true, true, true, true, true, true]) h8380_ rfl rfl (by kernel_rfl) rfl rfl (.bool (!decide ((toS (r8069_.drop (1 : Int).toNat)) = (toS (r8085_.drop (1 : Int).toNat))))) (fun _ _ => by kernel_rfl) ⟨(fun _ _ hk_ => (hS8296_.bring 1 rfl rfl).pool.kn hk_), (fun _ _ hk_ => (hS8296_).pool.kn hk_), trivial⟩ (fun _ _ _ h_ => h_) (fun a8381_ h8382_ => ?_)
                clear h8380_ a8379_
                refine WH.done (by kernel_rfl) ?_
                by_cases c8383_ : (toS (r8069_.drop (1 : Int).toNat)) = (toS (r8085_.drop (1 : Int).toNat))
                · rw [if_pos c8383_] at H
                  have hb_ : (decide ((toS (r8069_.drop (1 : Int).toNat)) = (toS (r8085_.drop (1 : Int).toNat)))) = true := decide_eq_true c8383_
                  try rw [hb_] at h8382_
                  clear hb_
                  refine wp_else h8382_ rfl ?_
                  refine wp_skip ?_
                  refine wp_seq ?_
                  refine WL.start ?_
                  refine WL.block (c := 2) (m' := 2) h8382_ rfl [(57, .int .i64 p0), (56, .slice A8080_ r8069_.length c8081_)] (by kernel_rfl) (fun a8384_ h8385_ => ?_)
                  clear h8382_ a8381_
                  have hS8386_ : St b w0 W8086_.drew R (M8076_ :: M8092_ :: Fs) := hS8296_.bring 1 rfl rfl
                  obtain ⟨r8388_, r8389_, r8390_, A8387_, H⟩ := bind3 H
                  refine WL.op' (m := 2) h8385_ rfl rfl ?_
                  refine owp_call [.slice A8080_ r8069_.length c8081_, .int .i64 p0] h8385_ rfl (by kernel_rfl) rfl Try.func12 (by kernel_rfl) rfl (by kernel_rfl) (prefix_Get.calls k hr8077_.rds A8387_ (hS8386_.pool)) (fun e8392_ W8391_ hp8393_ => ?_)
                  obtain ⟨rfl, hS8396_⟩ := hp8393_
                  have hS8397_ : St b w0 W8391_ R (M8076_ :: M8092_ :: Fs) := hS8396_.unpool
                  refine ⟨_, rfl, fun a8394_ h8395_ => ?_⟩
                  clear h8385_ a8384_
                  refine WL.block (c := 7) (m' := 10) h8395_ rfl [(13, .int .i64 r8390_), (12, .int .i64 r8389_), (11, .int .u32 r8388_), (61, .int .i64 r8390_), (60, .int .i64 r8389_), (59, .int .u32 r8388_), (55, .tuple #[.int .u32 r8388_, .int .i64 r8389_, .int .i64 r8390_])] (by kernel_rfl) (fun a8398_ h8399_ => ?_)
                  clear h8395_ a8394_
                  refine WL.done (by kernel_rfl) ?_
                  refine wp_seq ?_
                  refine WL.start ?_
                  refine WL.block (c := 2) (m' := 2) h8399_ rfl [(64, .int .i64 p0), (63, .slice A8096_ r8085_.length c8097_)] (by kernel_rfl) (fun a8400_ h8401_ => ?_)
                  clear h8399_ a8398_
                  have hS8402_ : St b w0 W8391_ R (M8092_ :: M8076_ :: Fs) := hS8397_.bring 1 rfl rfl
                  obtain ⟨r8404_, r8405_, r8406_, A8403_, H⟩ := bind3 H
                  refine WL.op' (m := 2) h8401_ rfl rfl ?_
                  refine owp_call [.slice A8096_ r8085_.length c8097_, .int .i64 p0] h8401_ rfl (by kernel_rfl) rfl Try.func12 (by kernel_rfl) rfl (by kernel_rfl) (prefix_Get.calls k hr8093_.rds A8403_ (hS8402_.pool)) (fun e8408_ W8407_ hp8409_ => ?_)
                  obtain ⟨rfl, hS8412_⟩ := hp8409_
                  have hS8413_ : St b w0 W8407_ R (M8092_ :: M8076_ :: Fs) := hS8412_.unpool
                  refine ⟨_, rfl, fun a8410_ h8411_ => ?_⟩
                  clear h8401_ a8400_
                  refine WL.block (c := 7) (m' := 10) h8411_ rfl [(16, .int .i64 r8406_), (15, .int .i64 r8405_), (14, .int .u32 r8404_), (68, .int .i64 r8406_), (67, .int .i64 r8405_), (66, .int .u32 r8404_), (62, .tuple #[.int .u32 r8404_, .int .i64 r8405_, .int .i64 r8406_])] (by kernel_rfl) (fun a8414_ h8415_ => ?_)
                  clear h8411_ a8410_
                  refine WL.done (by kernel_rfl) ?_
                  refine wp_seq ?_
                  refine WH.start (fun w_ => (∀ a_ u_, Kn b w0 (M8076_ ++ R) a_ u_ → w_.cell? a_ = some u_) ∧ (∀ a_ u_, Kn b w0 (M8092_ ++ R) a_ u_ → w_.cell? a_ = some u_) ∧ True) (by kernel_rfl) #[false, false, false, false, false, false, false, false, false, false, false, false, false, false, false, false, false, false, false, false, false, false, false, false, false, false, false, false, false, false, false, false, false, false, false, false, false, false, false, false, false, false, false, false, false, false] 46 rfl rfl ?_
                  have hS9138_ := hS8413_.drew
                  obtain ⟨r9140_, A9139_, H⟩ := bind1 H
                  refine WH.op 0 (listed' := #[true, false, false, false, false, false, false, false, false, false, false, false, false, false, false, false, false, false, false, false, false, false, false, false, false, false, false, false, false, false, false, false, false, false, false, false, false, false, false, false, false, false, false, false, false, false]) h8415_ rfl (by kernel_rfl) rfl rfl ?_
                  refine owp_call [] h8415_ rfl (by kernel_rfl) rfl Try.func8 (by kernel_rfl) rfl (by kernel_rfl) (louverlaw02_fixed.calls k  A9139_ hS9138_) (fun e9142_ W9141_ hp9143_ => ?_)
                  obtain ⟨rfl, hS9146_⟩ := hp9143_
                  refine ⟨_, rfl, fun a9144_ h9145_ => ?_⟩
                  clear h8415_ a8414_
                  refine ⟨⟨(fun _ _ hk_ => (hS9146_.bring 1 rfl rfl).pool.kn hk_), (fun _ _ hk_ => (hS9146_).pool.kn hk_), trivial⟩, ?_⟩
                  refine WH.take 1 (listed' := #[true, true, false, false, false, false, false, false, false, false, false, false, false, false, false, false, false, false, false, false, false, false, false, false, false, false, false, false, false, false, false, false, false, false, false, false, false, false, false, false, false, false, false, false, false, false]) h9145_ rfl rfl (by kernel_rfl) rfl rfl (.bool r9140_) (fun _ _ => by kernel_rfl) ⟨(fun _ _ hk_ => (hS9146_.bring 1 rfl rfl).pool.kn hk_), (fun _ _ hk_ => (hS9146_).pool.kn hk_), trivial⟩ (fun _ _ _ h_ => h_) (fun a9147_ h9148_ => ?_)
                  clear h9145_ a9144_
                  by_cases c9149_ : r9140_ = true
                  · rw [if_pos c9149_] at H
                    have hb_ : r9140_ = true := c9149_
                    try rw [hb_] at h9148_
                    clear hb_
                    refine WH.take 2 (listed' := #[true, true, true, false, false, false, false, false, false, false, false, false, false, false, false, false, false, false, false, false, false, false, false, false, false, false, false, false, false, false, false, false, false, false, false, false, false, false, false, false, false, false, false, false, false, false]) h9148_ rfl rfl (by kernel_rfl) rfl rfl (.slice A8080_ r8069_.length c8081_) (fun _ _ => by kernel_rfl) ⟨(fun _ _ hk_ => (hS9146_.bring 1 rfl rfl).pool.kn hk_), (fun _ _ hk_ => (hS9146_).pool.kn hk_), trivial⟩ (fun _ _ _ h_ => h_) (fun a9150_ h9151_ => ?_)
                    clear h9148_ a9147_
                    refine WH.take 6 (listed' := #[true, true, true, false, false, false, true, false, false, false, false, false, false, false, false, false, false, false, false, false, false, false, false, false, false, false, false, false, false, false, false, false, false, false, false, false, false, false, false, false, false, false, false, false, false, false]) h9151_ rfl rfl (by kernel_rfl) rfl rfl (.int .i64 p0) (fun _ _ => by kernel_rfl) ⟨(fun _ _ hk_ => (hS9146_.bring 1 rfl rfl).pool.kn hk_), (fun _ _ hk_ => (hS9146_).pool.kn hk_), trivial⟩ (fun _ _ _ h_ => h_) (fun a9152_ h9153_ => ?_)
                    clear h9151_ a9150_
                    refine WH.take 8 (listed' := #[true, true, true, false, false, false, true, false, true, false, false, false, false, false, false, false, false, false, false, false, false, false, false, false, false, false, false, false, false, false, false, false, false, false, false, false, false, false, false, false, false, false, false, false, false, false]) h9153_ rfl rfl (by kernel_rfl) rfl rfl (.int .u8 p1) (fun _ _ => by kernel_rfl) ⟨(fun _ _ hk_ => (hS9146_.bring 1 rfl rfl).pool.kn hk_), (fun _ _ hk_ => (hS9146_).pool.kn hk_), trivial⟩ (fun _ _ _ h_ => h_) (fun a9154_ h9155_ => ?_)
                    clear h9153_ a9152_
                    refine WH.take 9 (listed' := #[true, true, true, false, false, false, true, false, true, true, false, false, false, false, false, false, false, false, false, false, false, false, false, false, false, false, false, false, false, false, false, false, false, false, false, false, false, false, false, false, false, false, false, false, false, false]) h9155_ rfl rfl (by kernel_rfl) rfl rfl (.int .i64 (IntKind.i64.wrap p1)) (fun _ _ => by kernel_rfl) ⟨(fun _ _ hk_ => (hS9146_.bring 1 rfl rfl).pool.kn hk_), (fun _ _ hk_ => (hS9146_).pool.kn hk_), trivial⟩ (fun _ _ _ h_ => h_) (fun a9156_ h9157_ => ?_)
                    clear h9155_ a9154_
                    refine WH.take 10 (listed' := #[true, true, true, false, false, false, true, false, true, true, true, false, false, false, false, false, false, false, false, false, false, false, false, false, false, false, false, false, false, false, false, false, false, false, false, false, false, false, false, false, false, false, false, false, false, false]) h9157_ rfl rfl (by kernel_rfl) rfl rfl (.int .i64 p0) (fun _ _ => by kernel_rfl) ⟨(fun _ _ hk_ => (hS9146_.bring 1 rfl rfl).pool.kn hk_), (fun _ _ hk_ => (hS9146_).pool.kn hk_), trivial⟩ (fun _ _ _ h_ => h_) (fun a9158_ h9159_ => ?_)
                    clear h9157_ a9156_
                    by_cases c9160_ : 0 < (r8069_.length : Int)
                    · rw [if_pos c9160_] at H
                      have hi9163_ : 0 ≤ (0 : Int) := by first | assumption | omega
                      have hi9164_ : 0 < (r8069_.length : Int) := by first | assumption | omega
                      obtain ⟨ad9161_, _, ha9162_, -, -⟩ := Rds.elemAny hr8077_.rds hi9163_ (gt_get (z := (0 : Int)) hi9163_ hi9164_)
                      refine WH.take 3 (listed' := #[true, true, true, true, false, false, true, false, true, true, true, false, false, false, false, false, false, false, false, false, false, false, false, false, false, false, false, false, false, false, false, false, false, false, false, false, false, false, false, false, false, false, false, false, false, false]) h9159_ rfl rfl (by kernel_rfl) rfl rfl (.pointer (some (ad9161_.add ((0 : Int).toNat * 1)))) (fun w_ hs_ => (run_idx (ad := ad9161_) (sz := 1) rfl (by rw [← ha9162_]; rfl) rfl Try.underlying26 (by kernel_rfl) hi9163_ hi9164_)) ⟨(fun _ _ hk_ => (hS9146_.bring 1 rfl rfl).pool.kn hk_), (fun _ _ hk_ => (hS9146_).pool.kn hk_), trivial⟩ (fun _ _ _ h_ => h_) (fun a9165_ h9166_ => ?_)
                      clear h9159_ a9158_
                      obtain ⟨ad9167_, cs9168_, ha9169_, hr9171_, hc9170_⟩ := Rds.elemAny hr8077_.rds hi9163_ (gt_get (z := (0 : Int)) hi9163_ hi9164_)
                      rw [ha9162_] at ha9169_; obtain rfl := Option.some.inj ha9169_
                      obtain rfl : cs9168_ = [.int .u8 (gt (0 : Int) r8069_ (0 : Int))] := hr9171_
                      refine WH.take 4 (listed' := #[true, true, true, true, true, false, true, false, true, true, true, false, false, false, false, false, false, false, false, false, false, false, false, false, false, false, false, false, false, false, false, false, false, false, false, false, false, false, false, false, false, false, false, false, false, false]) h9166_ rfl rfl (by kernel_rfl) rfl rfl (.int .u8 (gt (0 : Int) r8069_ (0 : Int))) (fun w_ hs_ => (run_load1 rfl rfl Try.underlying5 rfl (cell0 (hc9170_ _ hs_.1)))) ⟨(fun _ _ hk_ => (hS9146_.bring 1 rfl rfl).pool.kn hk_), (fun _ _ hk_ => (hS9146_).pool.kn hk_), trivial⟩ (fun _ _ _ h_ => h_) (fun a9172_ h9173_ => ?_)
                      clear h9166_ a9165_
                      refine WH.take 5 (listed' := #[true, true, true, true, true, true, true, false, true, true, true, false, false, false, false, false, false, false, false, false, false, false, false, false, false, false, false, false, false, false, false, false, false, false, false, false, false, false, false, false, false, false, false, false, false, false]) h9173_ rfl rfl (by kernel_rfl) rfl rfl (.int .i64 (IntKind.i64.wrap (gt (0 : Int) r8069_ (0 : Int)))) (fun _ _ => by kernel_rfl) ⟨(fun _ _ hk_ => (hS9146_.bring 1 rfl rfl).pool.kn hk_), (fun _ _ hk_ => (hS9146_).pool.kn hk_), trivial⟩ (fun _ _ _ h_ => h_) (fun a9174_ h9175_ => ?_)
                      clear h9173_ a9172_
                      by_cases c9176_ : 0 ≤ p0
                      · rw [if_pos c9176_] at H
                        refine WH.take 7 (listed' := #[true, true, true, true, true, true, true, true, true, true, true, false, false, false, false, false, false, false, false, false, false, false, false, false, false, false, false, false, false, false, false, false, false, false, false, false, false, false, false, false, false, false, false, false, false, false]) h9175_ rfl rfl (by kernel_rfl) rfl rfl (.int .i64 (shrI .i64 (IntKind.i64.wrap (gt (0 : Int) r8069_ (0 : Int))) p0)) (fun w_ hs_ => (run_shr rfl rfl rfl (by assumption))) ⟨(fun _ _ hk_ => (hS9146_.bring 1 rfl rfl).pool.kn hk_), (fun _ _ hk_ => (hS9146_).pool.kn hk_), trivial⟩ (fun _ _ _ h_ => h_) (fun a9177_ h9178_ => ?_)
                        clear h9175_ a9174_
                        refine WH.take 11 (listed' := #[true, true, true, true, true, true, true, true, true, true, true, true, false, false, false, false, false, false, false, false, false, false, false, false, false, false, false, false, false, false, false, false, false, false, false, false, false, false, false, false, false, false, false, false, false, false]) h9178_ rfl rfl (by kernel_rfl) rfl rfl (.int .i64 (shrI .i64 (IntKind.i64.wrap p1) p0)) (fun w_ hs_ => (run_shr rfl rfl rfl (by assumption))) ⟨(fun _ _ hk_ => (hS9146_.bring 1 rfl rfl).pool.kn hk_), (fun _ _ hk_ => (hS9146_).pool.kn hk_), trivial⟩ (fun _ _ _ h_ => h_) (fun a9179_ h9180_ => ?_)
                        clear h9178_ a9177_
                        refine WH.take 12 (listed' := #[true, true, true, true, true, true, true, true, true, true, true, true, true, false, false, false, false, false, false, false, false, false, false, false, false, false, false, false, false, false, false, false, false, false, false, false, false, false, false, false, false, false, false, false, false, false]) h9180_ rfl rfl (by kernel_rfl) rfl rfl (.bool (decide ((shrI .i64 (IntKind.i64.wrap (gt (0 : Int) r8069_ (0 : Int))) p0) = (shrI .i64 (IntKind.i64.wrap p1) p0)))) (fun _ _ => by kernel_rfl) ⟨(fun _ _ hk_ => (hS9146_.bring 1 rfl rfl).pool.kn hk_), (fun _ _ hk_ => (hS9146_).pool.kn hk_), trivial⟩ (fun _ _ _ h_ => h_) (fun a9181_ h9182_ => ?_)
                        clear h9180_ a9179_
                        refine WH.take 13 (listed' := #[true, true, true, true, true, true, true, true, true, true, true, true, true, true, false, false, false, false, false, false, false, false, false, false, false, false, false, false, false, false, false, false, false, false, false, false, false, false, false, false, false, false, false, false, false, false]) h9182_ rfl rfl (by kernel_rfl) rfl rfl (.bool (decide ((shrI .i64 (IntKind.i64.wrap (gt (0 : Int) r8069_ (0 : Int))) p0) = (shrI .i64 (IntKind.i64.wrap p1) p0)))) (fun _ _ => by kernel_rfl) ⟨(fun _ _ hk_ => (hS9146_.bring 1 rfl rfl).pool.kn hk_), (fun _ _ hk_ => (hS9146_).pool.kn hk_), trivial⟩ (fun _ _ _ h_ => h_) (fun a9183_ h9184_ => ?_)
                        clear h9182_ a9181_
                        refine WH.take 14 (listed' := #[true, true, true, true, true, true, true, true, true, true, true, true, true, true, true, false, false, false, false, false, false, false, false, false, false, false, false, false, false, false, false, false, false, false, false, false, false, false, false, false, false, false, false, false, false, false]) h9184_ rfl rfl (by kernel_rfl) rfl rfl (.bool (decide ((shrI .i64 (IntKind.i64.wrap (gt (0 : Int) r8069_ (0 : Int))) p0) = (shrI .i64 (IntKind.i64.wrap p1) p0)))) (fun _ _ => by kernel_rfl) ⟨(fun _ _ hk_ => (hS9146_.bring 1 rfl rfl).pool.kn hk_), (fun _ _ hk_ => (hS9146_).pool.kn hk_), trivial⟩ (fun _ _ _ h_ => h_) (fun a9185_ h9186_ => ?_)
                        clear h9184_ a9183_
                        by_cases c9187_ : (shrI .i64 (IntKind.i64.wrap (gt (0 : Int) r8069_ (0 : Int))) p0) = (shrI .i64 (IntKind.i64.wrap p1) p0)
                        · rw [if_pos c9187_] at H
                          have hb_ : (decide ((shrI .i64 (IntKind.i64.wrap (gt (0 : Int) r8069_ (0 : Int))) p0) = (shrI .i64 (IntKind.i64.wrap p1) p0))) = true := decide_eq_true c9187_
                          try rw [hb_] at h9186_
                          clear hb_
                          refine WH.take 15 (listed' := #[true, true, true, true, true, true, true, true, true, true, true, true, true, true, true, true, false, false, false, false, false, false, false, false, false, false, false, false, false, false, false, false, false, false, false, false, false, false, false, false, false, false, false, false, false, false]) h9186_ rfl rfl (by kernel_rfl) rfl rfl (.slice A8096_ r8085_.length c8097_) (fun _ _ => by kernel_rfl) ⟨(fun _ _ hk_ => (hS9146_.bring 1 rfl rfl).pool.kn hk_), (fun _ _ hk_ => (hS9146_).pool.kn hk_), trivial⟩ (fun _ _ _ h_ => h_) (fun a9188_ h9189_ => ?_)
                          clear h9186_ a9185_
                          refine WH.take 19 (listed' := #[true, true, true, true, true, true, true, true, true, true, true, true, true, true, true, true, false, false, false, true, false, false, false, false, false, false, false, false, false, false, false, false, false, false, false, false, false, false, false, false, false, false, false, false, false, false]) h9189_ rfl rfl (by kernel_rfl) rfl rfl (.int .i64 p0) (fun _ _ => by kernel_rfl) ⟨(fun _ _ hk_ => (hS9146_.bring 1 rfl rfl).pool.kn hk_), (fun _ _ hk_ => (hS9146_).pool.kn hk_), trivial⟩ (fun _ _ _ h_ => h_) (fun a9190_ h9191_ => ?_)
                          clear h9189_ a9188_
                          refine WH.take 21 (listed' := #[true, true, true, true, true, true, true, true, true, true, true, true, true, true, true, true, false, false, false, true, false, true, false, false, false, false, false, false, false, false, false, false, false, false, false, false, false, false, false, false, false, false, false, false, false, false]) h9191_ rfl rfl (by kernel_rfl) rfl rfl (.int .u8 p2) (fun _ _ => by kernel_rfl) ⟨(fun _ _ hk_ => (hS9146_.bring 1 rfl rfl).pool.kn hk_), (fun _ _ hk_ => (hS9146_).pool.kn hk_), trivial⟩ (fun _ _ _ h_ => h_) (fun a9192_ h9193_ => ?_)
                          clear h9191_ a9190_
                          refine WH.take 22 (listed' := #[true, true, true, true, true, true, true, true, true, true, true, true, true, true, true, true, false, false, false, true, false, true, true, false, false, false, false, false, false, false, false, false, false, false, false, false, false, false, false, false, false, false, false, false, false, false]) h9193_ rfl rfl (by kernel_rfl) rfl rfl (.int .i64 (IntKind.i64.wrap p2)) (fun _ _ => by kernel_rfl) ⟨(fun _ _ hk_ => (hS9146_.bring 1 rfl rfl).pool.kn hk_), (fun _ _ hk_ => (hS9146_).pool.kn hk_), trivial⟩ (fun _ _ _ h_ => h_) (fun a9194_ h9195_ => ?_)
                          clear h9193_ a9192_
                          refine WH.take 23 (listed' := #[true, true, true, true, true, true, true, true, true, true, true, true, true, true, true, true, false, false, false, true, false, true, true, true, false, false, false, false, false, false, false, false, false, false, false, false, false, false, false, false, false, false, false, false, false, false]) h9195_ rfl rfl (by kernel_rfl) rfl rfl (.int .i64 p0) (fun _ _ => by kernel_rfl) ⟨(fun _ _ hk_ => (hS9146_.bring 1 rfl rfl).pool.kn hk_), (fun _ _ hk_ => (hS9146_).pool.kn hk_), trivial⟩ (fun _ _ _ h_ => h_) (fun a9196_ h9197_ => ?_)
                          clear h9195_ a9194_
                          by_cases c9198_ : 0 < (r8085_.length : Int)
                          · rw [if_pos c9198_] at H
                            have hi9201_ : 0 ≤ (0 : Int) := by first | assumption | omega
                            have hi9202_ : 0 < (r8085_.length : Int) := by first | assumption | omega
                            obtain ⟨ad9199_, _, ha9200_, -, -⟩ := Rds.elemAny hr8093_.rds hi9201_ (gt_get (z := (0 : Int)) hi9201_ hi9202_)
                            refine WH.take 16 (listed' := #[true, true, true, true, true, true, true, true, true, true, true, true, true, true, true, true, true, false, false, true, false, true, true, true, false, false, false, false, false, false, false, false, false, false, false, false, false, false, false, false, false, false, false, false, false, false]) h9197_ rfl rfl (by kernel_rfl) rfl rfl (.pointer (some (ad9199_.add ((0 : Int).toNat * 1)))) (fun w_ hs_ => (run_idx (ad := ad9199_) (sz := 1) rfl (by rw [← ha9200_]; rfl) rfl Try.underlying26 (by kernel_rfl) hi9201_ hi9202_)) ⟨(fun _ _ hk_ => (hS9146_.bring 1 rfl rfl).pool.kn hk_), (fun _ _ hk_ => (hS9146_).pool.kn hk_), trivial⟩ (fun _ _ _ h_ => h_) (fun a9203_ h9204_ => ?_)
                            clear h9197_ a9196_
                            obtain ⟨ad9205_, cs9206_, ha9207_, hr9209_, hc9208_⟩ := Rds.elemAny hr8093_.rds hi9201_ (gt_get (z := (0 : Int)) hi9201_ hi9202_)
                            rw [ha9200_] at ha9207_; obtain rfl := Option.some.inj ha9207_
                            obtain rfl : cs9206_ = [.int .u8 (gt (0 : Int) r8085_ (0 : Int))] := hr9209_
                            refine WH.take 17 (listed' := #[true, true, true, true, true, true, true, true, true, true, true, true, true, true, true, true, true, true, false, true, false, true, true, true, false, false, false, false, false, false, false, false, false, false, false, false, false, false, false, false, false, false, false, false, false, false]) h9204_ rfl rfl (by kernel_rfl) rfl rfl (.int .u8 (gt (0 : Int) r8085_ (0 : Int))) (fun w_ hs_ => (run_load1 rfl rfl Try.underlying5 rfl (cell0 (hc9208_ _ hs_.2.1)))) ⟨(fun _ _ hk_ => (hS9146_.bring 1 rfl rfl).pool.kn hk_), (fun _ _ hk_ => (hS9146_).pool.kn hk_), trivial⟩ (fun _ _ _ h_ => h_) (fun a9210_ h9211_ => ?_)
                            clear h9204_ a9203_
                            refine WH.take 18 (listed' := #[true, true, true, true, true, true, true, true, true, true, true, true, true, true, true, true, true, true, true, true, false, true, true, true, false, false, false, false, false, false, false, false, false, false, false, false, false, false, false, false, false, false, false, false, false, false]) h9211_ rfl rfl (by kernel_rfl) rfl rfl (.int .i64 (IntKind.i64.wrap (gt (0 : Int) r8085_ (0 : Int)))) (fun _ _ => by kernel_rfl) ⟨(fun _ _ hk_ => (hS9146_.bring 1 rfl rfl).pool.kn hk_), (fun _ _ hk_ => (hS9146_).pool.kn hk_), trivial⟩ (fun _ _ _ h_ => h_) (fun a9212_ h9213_ => ?_)
                            clear h9211_ a9210_
                            refine WH.take 20 (listed' := #[true, true, true, true, true, true, true, true, true, true, true, true, true, true, true, true, true, true, true, true, true, true, true, true, false, false, false, false, false, false, false, false, false, false, false, false, false, false, false, false, false, false, false, false, false, false]) h9213_ rfl rfl (by kernel_rfl) rfl rfl (.int .i64 (shrI .i64 (IntKind.i64.wrap (gt (0 : Int) r8085_ (0 : Int))) p0)) (fun w_ hs_ => (run_shr rfl rfl rfl (by assumption))) ⟨(fun _ _ hk_ => (hS9146_.bring 1 rfl rfl).pool.kn hk_), (fun _ _ hk_ => (hS9146_).pool.kn hk_), trivial⟩ (fun _ _ _ h_ => h_) (fun a9214_ h9215_ => ?_)
                            clear h9213_ a9212_
                            refine WH.take 24 (listed' := #[true, true, true, true, true, true, true, true, true, true, true, true, true, true, true, true, true, true, true, true, true, true, true, true, true, false, false, false, false, false, false, false, false, false, false, false, false, false, false, false, false, false, false, false, false, false]) h9215_ rfl rfl (by kernel_rfl) rfl rfl (.int .i64 (shrI .i64 (IntKind.i64.wrap p2) p0)) (fun w_ hs_ => (run_shr rfl rfl rfl (by assumption))) ⟨(fun _ _ hk_ => (hS9146_.bring 1 rfl rfl).pool.kn hk_), (fun _ _ hk_ => (hS9146_).pool.kn hk_), trivial⟩ (fun _ _ _ h_ => h_) (fun a9216_ h9217_ => ?_)
                            clear h9215_ a9214_
                            refine WH.take 25 (listed' := #[true, true, true, true, true, true, true, true, true, true, true, true, true, true, true, true, true, true, true, true, true, true, true, true, true, true, false, false, false, false, false, false, false, false, false, false, false, false, false, false, false, false, false, false, false, false]) h9217_ rfl rfl (by kernel_rfl) rfl rfl (.bool (decide ((shrI .i64 (IntKind.i64.wrap (gt (0 : Int) r8085_ (0 : Int))) p0) = (shrI .i64 (IntKind.i64.wrap p2) p0)))) (fun _ _ => by kernel_rfl) ⟨(fun _ _ hk_ => (hS9146_.bring 1 rfl rfl).pool.kn hk_), (fun _ _ hk_ => (hS9146_).pool.kn hk_), trivial⟩ (fun _ _ _ h_ => h_) (fun a9218_ h9219_ => ?_)
                            clear h9217_ a9216_
                            refine WH.take 26 (listed' := #[true, true, true, true, true, true, true, true, true, true, true, true, true, true, true, true, true, true, true, true, true, true, true, true, true, true, true, false, false, false, false, false, false, false, false, false, false, false, false, false, false, false, false, false, false, false]) h9219_ rfl rfl (by kernel_rfl) rfl rfl (.bool (decide ((shrI .i64 (IntKind.i64.wrap (gt (0 : Int) r8085_ (0 : Int))) p0) = (shrI .i64 (IntKind.i64.wrap p2) p0)))) (fun _ _ => by kernel_rfl) ⟨(fun _ _ hk_ => (hS9146_.bring 1 rfl rfl).pool.kn hk_), (fun _ _ hk_ => (hS9146_).pool.kn hk_), trivial⟩ (fun _ _ _ h_ => h_) (fun a9220_ h9221_ => ?_)
                            clear h9219_ a9218_
                            refine WH.take 27 (listed' := #[true, true, true, true, true, true, true, true, true, true, true, true, true, true, true, true, true, true, true, true, true, true, true, true, true, true, true, true, false, false, false, false, false, false, false, false, false, false, false, false, false, false, false, false, false, false]) h9221_ rfl rfl (by kernel_rfl) rfl rfl (.bool (decide ((shrI .i64 (IntKind.i64.wrap (gt (0 : Int) r8085_ (0 : Int))) p0) = (shrI .i64 (IntKind.i64.wrap p2) p0)))) (fun _ _ => by kernel_rfl) ⟨(fun _ _ hk_ => (hS9146_.bring 1 rfl rfl).pool.kn hk_), (fun _ _ hk_ => (hS9146_).pool.kn hk_), trivial⟩ (fun _ _ _ h_ => h_) (fun a9222_ h9223_ => ?_)
                            clear h9221_ a9220_
                            by_cases c9224_ : (shrI .i64 (IntKind.i64.wrap (gt (0 : Int) r8085_ (0 : Int))) p0) = (shrI .i64 (IntKind.i64.wrap p2) p0)
                            · rw [if_pos c9224_] at H
                              have hb_ : (decide ((shrI .i64 (IntKind.i64.wrap (gt (0 : Int) r8085_ (0 : Int))) p0) = (shrI .i64 (IntKind.i64.wrap p2) p0))) = true := decide_eq_true c9224_
                              try rw [hb_] at h9223_
                              clear hb_
                              refine WH.take 28 (listed' := #[true, true, true, true, true, true, true, true, true, true, true, true, true, true, true, true, true, true, true, true, true, true, true, true, true, true, true, true, true, false, false, false, false, false, false, false, false, false, false, false, false, false, false, false, false, false]) h9223_ rfl rfl (by kernel_rfl) rfl rfl (.int .u32 r8388_) (fun _ _ => by kernel_rfl) ⟨(fun _ _ hk_ => (hS9146_.bring 1 rfl rfl).pool.kn hk_), (fun _ _ hk_ => (hS9146_).pool.kn hk_), trivial⟩ (fun _ _ _ h_ => h_) (fun a9225_ h9226_ => ?_)
                              clear h9223_ a9222_
                              refine WH.take 29 (listed' := #[true, true, true, true, true, true, true, true, true, true, true, true, true, true, true, true, true, true, true, true, true, true, true, true, true, true, true, true, true, true, false, false, false, false, false, false, false, false, false, false, false, false, false, false, false, false]) h9226_ rfl rfl (by kernel_rfl) rfl rfl (.int .u32 r8404_) (fun _ _ => by kernel_rfl) ⟨(fun _ _ hk_ => (hS9146_.bring 1 rfl rfl).pool.kn hk_), (fun _ _ hk_ => (hS9146_).pool.kn hk_), trivial⟩ (fun _ _ _ h_ => h_) (fun a9227_ h9228_ => ?_)
                              clear h9226_ a9225_
                              refine WH.take 30 (listed' := #[true, true, true, true, true, true, true, true, true, true, true, true, true, true, true, true, true, true, true, true, true, true, true, true, true, true, true, true, true, true, true, false, false, false, false, false, false, false, false, false, false, false, false, false, false, false]) h9228_ rfl rfl (by kernel_rfl) rfl rfl (.bool (decide (r8388_ = r8404_))) (fun _ _ => by kernel_rfl) ⟨(fun _ _ hk_ => (hS9146_.bring 1 rfl rfl).pool.kn hk_), (fun _ _ hk_ => (hS9146_).pool.kn hk_), trivial⟩ (fun _ _ _ h_ => h_) (fun a9229_ h9230_ => ?_)
                              clear h9228_ a9227_
                              refine WH.take 31 (listed' := #[true, true, true, true, true, true, true, true, true, true, true, true, true, true, true, true, true, true, true, true, true, true, true, true, true, true, true, true, true, true, true, true, false, false, false, false, false, false, false, false, false, false, false, false, false, false]) h9230_ rfl rfl (by kernel_rfl) rfl rfl (.bool (decide (r8388_ = r8404_))) (fun _ _ => by kernel_rfl) ⟨(fun _ _ hk_ => (hS9146_.bring 1 rfl rfl).pool.kn hk_), (fun _ _ hk_ => (hS9146_).pool.kn hk_), trivial⟩ (fun _ _ _ h_ => h_) (fun a9231_ h9232_ => ?_)
                              clear h9230_ a9229_
                              refine WH.take 32 (listed' := #[true, true, true, true, true, true, true, true, true, true, true, true, true, true, true, true, true, true, true, true, true, true, true, true, true, true, true, true, true, true, true, true, true, false, false, false, false, false, false, false, false, false, false, false, false, false]) h9232_ rfl rfl (by kernel_rfl) rfl rfl (.bool (decide (r8388_ = r8404_))) (fun _ _ => by kernel_rfl) ⟨(fun _ _ hk_ => (hS9146_.bring 1 rfl rfl).pool.kn hk_), (fun _ _ hk_ => (hS9146_).pool.kn hk_), trivial⟩ (fun _ _ _ h_ => h_) (fun a9233_ h9234_ => ?_)
                              clear h9232_ a9231_
                              by_cases c9235_ : r8388_ = r8404_
                              · rw [if_pos c9235_] at H
                                have hb_ : (decide (r8388_ = r8404_)) = true := decide_eq_true c9235_
                                try rw [hb_] at h9234_
                                clear hb_
                                refine WH.take 33 (listed' := #[true, true, true, true, true, true, true, true, true, true, true, true, true, true, true, true, true, true, true, true, true, true, true, true, true, true, true, true, true, true, true, true, true, true, false, false, false, false, false, false, false, false, false, false, false, false]) h9234_ rfl rfl (by kernel_rfl) rfl rfl (.int .u32 r8388_) (fun _ _ => by kernel_rfl) ⟨(fun _ _ hk_ => (hS9146_.bring 1 rfl rfl).pool.kn hk_), (fun _ _ hk_ => (hS9146_).pool.kn hk_), trivial⟩ (fun _ _ _ h_ => h_) (fun a9236_ h9237_ => ?_)
                                clear h9234_ a9233_
                                refine WH.take 34 (listed' := #[true, true, true, true, true, true, true, true, true, true, true, true, true, true, true, true, true, true, true, true, true, true, true, true, true, true, true, true, true, true, true, true, true, true, true, false, false, false, false, false, false, false, false, false, false, false]) h9237_ rfl rfl (by kernel_rfl) rfl rfl (.int .u32 p3) (fun _ _ => by kernel_rfl) ⟨(fun _ _ hk_ => (hS9146_.bring 1 rfl rfl).pool.kn hk_), (fun _ _ hk_ => (hS9146_).pool.kn hk_), trivial⟩ (fun _ _ _ h_ => h_) (fun a9238_ h9239_ => ?_)
                                clear h9237_ a9236_
                                refine WH.take 35 (listed' := #[true, true, true, true, true, true, true, true, true, true, true, true, true, true, true, true, true, true, true, true, true, true, true, true, true, true, true, true, true, true, true, true, true, true, true, true, false, false, false, false, false, false, false, false, false, false]) h9239_ rfl rfl (by kernel_rfl) rfl rfl (.bool (decide (r8388_ = p3))) (fun _ _ => by kernel_rfl) ⟨(fun _ _ hk_ => (hS9146_.bring 1 rfl rfl).pool.kn hk_), (fun _ _ hk_ => (hS9146_).pool.kn hk_), trivial⟩ (fun _ _ _ h_ => h_) (fun a9240_ h9241_ => ?_)
                                clear h9239_ a9238_
                                refine WH.take 36 (listed' := #[true, true, true, true, true, true, true, true, true, true, true, true, true, true, true, true, true, true, true, true, true, true, true, true, true, true, true, true, true, true, true, true, true, true, true, true, true, false, false, false, false, false, false, false, false, false]) h9241_ rfl rfl (by kernel_rfl) rfl rfl (.bool (decide (r8388_ = p3))) (fun _ _ => by kernel_rfl) ⟨(fun _ _ hk_ => (hS9146_.bring 1 rfl rfl).pool.kn hk_), (fun _ _ hk_ => (hS9146_).pool.kn hk_), trivial⟩ (fun _ _ _ h_ => h_) (fun a9242_ h9243_ => ?_)
                                clear h9241_ a9240_
                                refine WH.take 37 (listed' := #[true, true, true, true, true, true, true, true, true, true, true, true, true, true, true, true, true, true, true, true, true, true, true, true, true, true, true, true, true, true, true, true, true, true, true, true, true, true, false, false, false, false, false, false, false, false]) h9243_ rfl rfl (by kernel_rfl) rfl rfl (.bool (decide (r8388_ = p3))) (fun _ _ => by kernel_rfl) ⟨(fun _ _ hk_ => (hS9146_.bring 1 rfl rfl).pool.kn hk_), (fun _ _ hk_ => (hS9146_).pool.kn hk_), trivial⟩ (fun _ _ _ h_ => h_) (fun a9244_ h9245_ => ?_)
                                clear h9243_ a9242_
                                by_cases c9246_ : r8388_ = p3
                                · rw [if_pos c9246_] at H
                                  have hb_ : (decide (r8388_ = p3)) = true := decide_eq_true c9246_
                                  try rw [hb_] at h9245_
                                  clear hb_
                                  refine WH.take 38 (listed' := #[true, true, true, true, true, true, true, true, true, true, true, true, true, true, true, true, true, true, true, true, true, true, true, true, true, true, true, true, true, true, true, true, true, true, true, true, true, true, true, false, false, false, false, false, false, false]) h9245_ rfl rfl (by kernel_rfl) rfl rfl (.int .i64 r8390_) (fun _ _ => by kernel_rfl) ⟨(fun _ _ hk_ => (hS9146_.bring 1 rfl rfl).pool.kn hk_), (fun _ _ hk_ => (hS9146_).pool.kn hk_), trivial⟩ (fun _ _ _ h_ => h_) (fun a9247_ h9248_ => ?_)
                                  clear h9245_ a9244_
                                  refine WH.take 39 (listed' := #[true, true, true, true, true, true, true, true, true, true, true, true, true, true, true, true, true, true, true, true, true, true, true, true, true, true, true, true, true, true, true, true, true, true, true, true, true, true, true, true, false, false, false, false, false, false]) h9248_ rfl rfl (by kernel_rfl) rfl rfl (.bool (decide (r8390_ = 0))) (fun _ _ => by kernel_rfl) ⟨(fun _ _ hk_ => (hS9146_.bring 1 rfl rfl).pool.kn hk_), (fun _ _ hk_ => (hS9146_).pool.kn hk_), trivial⟩ (fun _ _ _ h_ => h_) (fun a9249_ h9250_ => ?_)
                                  clear h9248_ a9247_
                                  refine WH.take 40 (listed' := #[true, true, true, true, true, true, true, true, true, true, true, true, true, true, true, true, true, true, true, true, true, true, true, true, true, true, true, true, true, true, true, true, true, true, true, true, true, true, true, true, true, false, false, false, false, false]) h9250_ rfl rfl (by kernel_rfl) rfl rfl (.bool (decide (r8390_ = 0))) (fun _ _ => by kernel_rfl) ⟨(fun _ _ hk_ => (hS9146_.bring 1 rfl rfl).pool.kn hk_), (fun _ _ hk_ => (hS9146_).pool.kn hk_), trivial⟩ (fun _ _ _ h_ => h_) (fun a9251_ h9252_ => ?_)
                                  clear h9250_ a9249_
                                  refine WH.take 41 (listed' := #[true, true, true, true, true, true, true, true, true, true, true, true, true, true, true, true, true, true, true, true, true, true, true, true, true, true, true, true, true, true, true, true, true, true, true, true, true, true, true, true, true, true, false, false, false, false]) h9252_ rfl rfl (by kernel_rfl) rfl rfl (.bool (decide (r8390_ = 0))) (fun _ _ => by kernel_rfl) ⟨(fun _ _ hk_ => (hS9146_.bring 1 rfl rfl).pool.kn hk_), (fun _ _ hk_ => (hS9146_).pool.kn hk_), trivial⟩ (fun _ _ _ h_ => h_) (fun a9253_ h9254_ => ?_)
                                  clear h9252_ a9251_
                                  by_cases c9255_ : r8390_ = 0
                                  · rw [if_pos c9255_] at H
                                    have hb_ : (decide (r8390_ = 0)) = true := decide_eq_true c9255_
                                    try rw [hb_] at h9254_
                                    clear hb_
                                    refine WH.take 42 (listed' := #[true, true, true, true, true, true, true, true, true, true, true, true, true, true, true, true, true, true, true, true, true, true, true, true, true, true, true, true, true, true, true, true, true, true, true, true, true, true, true, true, true, true, true, false, false, false]) h9254_ rfl rfl (by kernel_rfl) rfl rfl (.int .i64 r8406_) (fun _ _ => by kernel_rfl) ⟨(fun _ _ hk_ => (hS9146_.bring 1 rfl rfl).pool.kn hk_), (fun _ _ hk_ => (hS9146_).pool.kn hk_), trivial⟩ (fun _ _ _ h_ => h_) (fun a9256_ h9257_ => ?_)
                                    clear h9254_ a9253_
                                    refine WH.take 43 (listed' := #[true, true, true, true, true, true, true, true, true, true, true, true, true, true, true, true, true, true, true, true, true, true, true, true, true, true, true, true, true, true, true, true, true, true, true, true, true, true, true, true, true, true, true, true, false, false]) h9257_ rfl rfl (by kernel_rfl) rfl rfl (.bool (decide (r8406_ = 0))) (fun _ _ => by kernel_rfl) ⟨(fun _ _ hk_ => (hS9146_.bring 1 rfl rfl).pool.kn hk_), (fun _ _ hk_ => (hS9146_).pool.kn hk_), trivial⟩ (fun _ _ _ h_ => h_) (fun a9258_ h9259_ => ?_)
                                    clear h9257_ a9256_
                                    refine WH.take 44 (listed' := #[true, true, true, true, true, true, true, true, true, true, true, true, true, true, true, true, true, true, true, true, true, true, true, true, true, true, true, true, true, true, true, true, true, true, true, true, true, true, true, true, true, true, true, true, true, false]) h9259_ rfl rfl (by kernel_rfl) rfl rfl (.bool (decide (r8406_ = 0))) (fun _ _ => by kernel_rfl) ⟨(fun _ _ hk_ => (hS9146_.bring 1 rfl rfl).pool.kn hk_), (fun _ _ hk_ => (hS9146_).pool.kn hk_), trivial⟩ (fun _ _ _ h_ => h_) (fun a9260_ h9261_ => ?_)
                                    clear h9259_ a9258_
                                    refine WH.take 45 (listed' := #[true, true, true, true, true, true, true, true, true, true, true, true, true, true, true, true, true, true, true, true, true, true, true, true, true, true, true, true, true, true, true, true, true, true, true, true, true, true, true, true, true, true, true, true, true, true]) h9261_ rfl rfl (by kernel_rfl) rfl rfl (.bool (decide (r8406_ = 0))) (fun _ _ => by kernel_rfl) ⟨(fun _ _ hk_ => (hS9146_.bring 1 rfl rfl).pool.kn hk_), (fun _ _ hk_ => (hS9146_).pool.kn hk_), trivial⟩ (fun _ _ _ h_ => h_) (fun a9262_ h9263_ => ?_)
                                    clear h9261_ a9260_
                                    refine WH.done (by kernel_rfl) ?_
                                    refine wp_ret ?_
                                    have hS9264_ : St b w0 W9141_ R (M8076_ :: Fs) := hS9146_.drop_
                                    have hS9265_ : St b w0 W9141_ R (Fs) := hS9264_.drop_
                                    obtain rfl := Option.some.inj H
                                    repeat (first | refine then_ret ?_ | refine inBlock_ret ?_ | refine inBlock_go ?_)
                                    refine body_ret (v := .bool (decide (r8406_ = 0))) h9263_ (by kernel_rfl) (by kernel_rfl) ?_
                                    exact ⟨rfl, hS9265_⟩
                                  · rw [if_neg c9255_] at H
                                    have hb_ : (decide (r8390_ = 0)) = false := decide_eq_false c9255_
                                    try rw [hb_] at h9254_
                                    clear hb_
                                    refine WH.skip 42 (listed' := #[true, true, true, true, true, true, true, true, true, true, true, true, true, true, true, true, true, true, true, true, true, true, true, true, true, true, true, true, true, true, true, true, true, true, true, true, true, true, true, true, true, true, true, false, false, false]) h9254_ rfl rfl (by kernel_rfl) rfl rfl ⟨(fun _ _ hk_ => (hS9146_.bring 1 rfl rfl).pool.kn hk_), (fun _ _ hk_ => (hS9146_).pool.kn hk_), trivial⟩ (fun _ _ _ h_ => h_) (fun a9266_ h9267_ => ?_)
                                    clear h9254_ a9253_
                                    refine WH.skip 43 (listed' := #[true, true, true, true, true, true, true, true, true, true, true, true, true, true, true, true, true, true, true, true, true, true, true, true, true, true, true, true, true, true, true, true, true, true, true, true, true, true, true, true, true, true, true, true, false, false]) h9267_ rfl rfl (by kernel_rfl) rfl rfl ⟨(fun _ _ hk_ => (hS9146_.bring 1 rfl rfl).pool.kn hk_), (fun _ _ hk_ => (hS9146_).pool.kn hk_), trivial⟩ (fun _ _ _ h_ => h_) (fun a9268_ h9269_ => ?_)
                                    clear h9267_ a9266_
                                    refine WH.take 44 (listed' := #[true, true, true, true, true, true, true, true, true, true, true, true, true, true, true, true, true, true, true, true, true, true, true, true, true, true, true, true, true, true, true, true, true, true, true, true, true, true, true, true, true, true, true, true, true, false]) h9269_ rfl rfl (by kernel_rfl) rfl rfl (.bool false) (fun _ _ => by kernel_rfl) ⟨(fun _ _ hk_ => (hS9146_.bring 1 rfl rfl).pool.kn hk_), (fun _ _ hk_ => (hS9146_).pool.kn hk_), trivial⟩ (fun _ _ _ h_ => h_) (fun a9270_ h9271_ => ?_)
                                    clear h9269_ a9268_
                                    refine WH.take 45 (listed' := #[true, true, true, true, true, true, true, true, true, true, true, true, true, true, true, true, true, true, true, true, true, true, true, true, true, true, true, true, true, true, true, true, true, true, true, true, true, true, true, true, true, true, true, true, true, true]) h9271_ rfl rfl (by kernel_rfl) rfl rfl (.bool false) (fun _ _ => by kernel_rfl) ⟨(fun _ _ hk_ => (hS9146_.bring 1 rfl rfl).pool.kn hk_), (fun _ _ hk_ => (hS9146_).pool.kn hk_), trivial⟩ (fun _ _ _ h_ => h_) (fun a9272_ h9273_ => ?_)
                                    clear h9271_ a9270_
                                    refine WH.done (by kernel_rfl) ?_
                                    refine wp_ret ?_
                                    have hS9274_ : St b w0 W9141_ R (M8076_ :: Fs) := hS9146_.drop_
                                    have hS9275_ : St b w0 W9141_ R (Fs) := hS9274_.drop_
                                    obtain rfl := Option.some.inj H
                                    repeat (first | refine then_ret ?_ | refine inBlock_ret ?_ | refine inBlock_go ?_)
                                    refine body_ret (v := .bool false) h9273_ (by kernel_rfl) (by kernel_rfl) ?_
                                    exact ⟨rfl, hS9275_⟩
                                · rw [if_neg c9246_] at H
                                  have hb_ : (decide (r8388_ = p3)) = false := decide_eq_false c9246_
                                  try rw [hb_] at h9245_
                                  clear hb_
                                  refine WH.skip 38 (listed' := #[true, true, true, true, true, true, true, true, true, true, true, true, true, true, true, true, true, true, true, true, true, true, true, true, true, true, true, true, true, true, true, true, true, true, true, true, true, true, true, false, false, false, false, false, false, false]) h9245_ rfl rfl (by kernel_rfl) rfl rfl ⟨(fun _ _ hk_ => (hS9146_.bring 1 rfl rfl).pool.kn hk_), (fun _ _ hk_ => (hS9146_).pool.kn hk_), trivial⟩ (fun _ _ _ h_ => h_) (fun a9276_ h9277_ => ?_)
                                  clear h9245_ a9244_
                                  refine WH.skip 39 (listed' := #[true, true, true, true, true, true, true, true, true, true, true, true, true, true, true, true, true, true, true, true, true, true, true, true, true, true, true, true, true, true, true, true, true, true, true, true, true, true, true, true, false, false, false, false, false, false]) h9277_ rfl rfl (by kernel_rfl) rfl rfl ⟨(fun _ _ hk_ => (hS9146_.bring 1 rfl rfl).pool.kn hk_), (fun _ _ hk_ => (hS9146_).pool.kn hk_), trivial⟩ (fun _ _ _ h_ => h_) (fun a9278_ h9279_ => ?_)
                                  clear h9277_ a9276_
                                  refine WH.take 40 (listed' := #[true, true, true, true, true, true, true, true, true, true, true, true, true, true, true, true, true, true, true, true, true, true, true, true, true, true, true, true, true, true, true, true, true, true, true, true, true, true, true, true, true, false, false, false, false, false]) h9279_ rfl rfl (by kernel_rfl) rfl rfl (.bool false) (fun _ _ => by kernel_rfl) ⟨(fun _ _ hk_ => (hS9146_.bring 1 rfl rfl).pool.kn hk_), (fun _ _ hk_ => (hS9146_).pool.kn hk_), trivial⟩ (fun _ _ _ h_ => h_) (fun a9280_ h9281_ => ?_)
                                  clear h9279_ a9278_
                                  refine WH.take 41 (listed' := #[true, true, true, true, true, true, true, true, true, true, true, true, true, true, true, true, true, true, true, true, true, true, true, true, true, true, true, true, true, true, true, true, true, true, true, true, true, true, true, true, true, true, false, false, false, false]) h9281_ rfl rfl (by kernel_rfl) rfl rfl (.bool false) (fun _ _ => by kernel_rfl) ⟨(fun _ _ hk_ => (hS9146_.bring 1 rfl rfl).pool.kn hk_), (fun _ _ hk_ => (hS9146_).pool.kn hk_), trivial⟩ (fun _ _ _ h_ => h_) (fun a9282_ h9283_ => ?_)
                                  clear h9281_ a9280_
                                  refine WH.skip 42 (listed' := #[true, true, true, true, true, true, true, true, true, true, true, true, true, true, true, true, true, true, true, true, true, true, true, true, true, true, true, true, true, true, true, true, true, true, true, true, true, true, true, true, true, true, true, false, false, false]) h9283_ rfl rfl (by kernel_rfl) rfl rfl ⟨(fun _ _ hk_ => (hS9146_.bring 1 rfl rfl).pool.kn hk_), (fun _ _ hk_ => (hS9146_).pool.kn hk_), trivial⟩ (fun _ _ _ h_ => h_) (fun a9284_ h9285_ => ?_)
                                  clear h9283_ a9282_
                                  refine WH.skip 43 (listed' := #[true, true, true, true, true, true, true, true, true, true, true, true, true, true, true, true, true, true, true, true, true, true, true, true, true, true, true, true, true, true, true, true, true, true, true, true, true, true, true, true, true, true, true, true, false, false]) h9285_ rfl rfl (by kernel_rfl) rfl rfl ⟨(fun _ _ hk_ => (hS9146_.bring 1 rfl rfl).pool.kn hk_), (fun _ _ hk_ => (hS9146_).pool.kn hk_), trivial⟩ (fun _ _ _ h_ => h_) (fun a9286_ h9287_ => ?_)
                                  clear h9285_ a9284_
                                  refine WH.take 44 (listed' := #[true, true, true, true, true, true, true, true, true, true, true, true, true, true, true, true, true, true, true, true, true, true, true, true, true, true, true, true, true, true, true, true, true, true, true, true, true, true, true, true, true, true, true, true, true, false]) h9287_ rfl rfl (by kernel_rfl) rfl rfl (.bool false) (fun _ _ => by kernel_rfl) ⟨(fun _ _ hk_ => (hS9146_.bring 1 rfl rfl).pool.kn hk_), (fun _ _ hk_ => (hS9146_).pool.kn hk_), trivial⟩ (fun _ _ _ h_ => h_) (fun a9288_ h9289_ => ?_)
                                  clear h9287_ a9286_
                                  refine WH.take 45 (listed' := #[true, true, true, true, true, true, true, true, true, true, true, true, true, true, true, true, true, true, true, true, true, true, true, true, true, true, true, true, true, true, true, true, true, true, true, true, true, true, true, true, true, true, true, true, true, true]) h9289_ rfl rfl (by kernel_rfl) rfl rfl (.bool false) (fun _ _ => by kernel_rfl) ⟨(fun _ _ hk_ => (hS9146_.bring 1 rfl rfl).pool.kn hk_), (fun _ _ hk_ => (hS9146_).pool.kn hk_), trivial⟩ (fun _ _ _ h_ => h_) (fun a9290_ h9291_ => ?_)
                                  clear h9289_ a9288_
                                  refine WH.done (by kernel_rfl) ?_
                                  refine wp_ret ?_
                                  have hS9292_ : St b w0 W9141_ R (M8076_ :: Fs) := hS9146_.drop_
                                  have hS9293_ : St b w0 W9141_ R (Fs) := hS9292_.drop_
                                  obtain rfl := Option.some.inj H
                                  repeat (first | refine then_ret ?_ | refine inBlock_ret ?_ | refine inBlock_go ?_)
                                  refine body_ret (v := .bool false) h9291_ (by kernel_rfl) (by kernel_rfl) ?_
                                  exact ⟨rfl, hS9293_⟩
                              · rw [if_neg c9235_] at H
                                have hb_ : (decide (r8388_ = r8404_)) = false := decide_eq_false c9235_
                                try rw [hb_] at h9234_
                                clear hb_
                                refine WH.skip 33 (listed' := #[true, true, true, true, true, true, true, true, true, true, true, true, true, true, true, true, true, true, true, true, true, true, true, true, true, true, true, true, true, true, true, true, true, true, false, false, false, false, false, false, false, false, false, false, false, false]) h9234_ rfl rfl (by kernel_rfl) rfl rfl ⟨(fun _ _ hk_ => (hS9146_.bring 1 rfl rfl).pool.kn hk_), (fun _ _ hk_ => (hS9146_).pool.kn hk_), trivial⟩ (fun _ _ _ h_ => h_) (fun a9294_ h9295_ => ?_)
                                clear h9234_ a9233_
                                refine WH.skip 34 (listed' := #[true, true, true, true, true, true, true, true, true, true, true, true, true, true, true, true, true, true, true, true, true, true, true, true, true, true, true, true, true, true, true, true, true, true, true, false, false, false, false, false, false, false, false, false, false, false]) h9295_ rfl rfl (by kernel_rfl) rfl rfl ⟨(fun _ _ hk_ => (hS9146_.bring 1 rfl rfl).pool.kn hk_), (fun _ _ hk_ => (hS9146_).pool.kn hk_), trivial⟩ (fun _ _ _ h_ => h_) (fun a9296_ h9297_ => ?_)
                                clear h9295_ a9294_
                                refine WH.skip 35 (listed' := #[true, true, true, true, true, true, true, true, true, true, true, true, true, true, true, true, true, true, true, true, true, true, true, true, true, true, true, true, true, true, true, true, true, true, true, true, false, false, false, false, false, false, false, false, false, false]) h9297_ rfl rfl (by kernel_rfl) rfl rfl ⟨(fun _ _ hk_ => (hS9146_.bring 1 rfl rfl).pool.kn hk_), (fun _ _ hk_ => (hS9146_).pool.kn hk_), trivial⟩ (fun _ _ _ h_ => h_) (fun a9298_ h9299_ => ?_)
                                clear h9297_ a9296_
                                refine WH.take 36 (listed' := #[true, true, true, true, true, true, true, true, true, true, true, true, true, true, true, true, true, true, true, true, true, true, true, true, true, true, true, true, true, true, true, true, true, true, true, true, true, false, false, false, false, false, false, false, false, false]) h9299_ rfl rfl (by kernel_rfl) rfl rfl (.bool false) (fun _ _ => by kernel_rfl) ⟨(fun _ _ hk_ => (hS9146_.bring 1 rfl rfl).pool.kn hk_), (fun _ _ hk_ => (hS9146_).pool.kn hk_), trivial⟩ (fun _ _ _ h_ => h_) (fun a9300_ h9301_ => ?_)
                                clear h9299_ a9298_
                                refine WH.take 37 (listed' := #[true, true, true, true, true, true, true, true, true, true, true, true, true, true, true, true, true, true, true, true, true, true, true, true, true, true, true, true, true, true, true, true, true, true, true, true, true, true, false, false, false, false, false, false, false, false]) h9301_ rfl rfl (by kernel_rfl) rfl rfl (.bool false) (fun _ _ => by kernel_rfl) ⟨(fun _ _ hk_ => (hS9146_.bring 1 rfl rfl).pool.kn hk_), (fun _ _ hk_ => (hS9146_).pool.kn hk_), trivial⟩ (fun _ _ _ h_ => h_) (fun a9302_ h9303_ => ?_)
                                clear h9301_ a9300_
                                refine WH.skip 38 (listed' := #[true, true, true, true, true, true, true, true, true, true, true, true, true, true, true, true, true, true, true, true, true, true, true, true, true, true, true, true, true, true, true, true, true, true, true, true, true, true, true, false, false, false, false, false, false, false]) h9303_ rfl rfl (by kernel_rfl) rfl rfl ⟨(fun _ _ hk_ => (hS9146_.bring 1 rfl rfl).pool.kn hk_), (fun _ _ hk_ => (hS9146_).pool.kn hk_), trivial⟩ (fun _ _ _ h_ => h_) (fun a9304_ h9305_ => ?_)
                                clear h9303_ a9302_
                                refine WH.skip 39 (listed' := #[true, true, true, true, true, true, true, true, true, true, true, true, true, true, true, true, true, true, true, true, true, true, true, true, true, true, true, true, true, true, true, true, true, true, true, true, true, true, true, true, false, false, false, false, false, false]) h9305_ rfl rfl (by kernel_rfl) rfl rfl ⟨(fun _ _ hk_ => (hS9146_.bring 1 rfl rfl).pool.kn hk_), (fun _ _ hk_ => (hS9146_).pool.kn hk_), trivial⟩ (fun _ _ _ h_ => h_) (fun a9306_ h9307_ => ?_)
                                clear h9305_ a9304_
                                refine WH.take 40 (listed' := #[true, true, true, true, true, true, true, true, true, true, true, true, true, true, true, true, true, true, true, true, true, true, true, true, true, true, true, true, true, true, true, true, true, true, true, true, true, true, true, true, true, false, false, false, false, false]) h9307_ rfl rfl (by kernel_rfl) rfl rfl (.bool false) (fun _ _ => by kernel_rfl) ⟨(fun _ _ hk_ => (hS9146_.bring 1 rfl rfl).pool.kn hk_), (fun _ _ hk_ => (hS9146_).pool.kn hk_), trivial⟩ (fun _ _ _ h_ => h_) (fun a9308_ h9309_ => ?_)
                                clear h9307_ a9306_
                                refine WH.take 41 (listed' := #[true, true, true, true, true, true, true, true, true, true, true, true, true, true, true, true, true, true, true, true, true, true, true, true, true, true, true, true, true, true, true, true, true, true, true, true, true, true, true, true, true, true, false, false, false, false]) h9309_ rfl rfl (by kernel_rfl) rfl rfl (.bool false) (fun _ _ => by kernel_rfl) ⟨(fun _ _ hk_ => (hS9146_.bring 1 rfl rfl).pool.kn hk_), (fun _ _ hk_ => (hS9146_).pool.kn hk_), trivial⟩ (fun _ _ _ h_ => h_) (fun a9310_ h9311_ => ?_)
                                clear h9309_ a9308_
                                refine WH.skip 42 (listed' := #[true, true, true, true, true, true, true, true, true, true, true, true, true, true, true, true, true, true, true, true, true, true, true, true, true, true, true, true, true, true, true, true, true, true, true, true, true, true, true, true, true, true, true, false, false, false]) h9311_ rfl rfl (by kernel_rfl) rfl rfl ⟨(fun _ _ hk_ => (hS9146_.bring 1 rfl rfl).pool.kn hk_), (fun _ _ hk_ => (hS9146_).pool.kn hk_), trivial⟩ (fun _ _ _ h_ => h_) (fun a9312_ h9313_ => ?_)
                                clear h9311_ a9310_
                                refine WH.skip 43 (listed' := #[true, true, true, true, true, true, true, true, true, true, true, true, true, true, true, true, true, true, true, true, true, true, true, true, true, true, true, true, true, true, true, true, true, true, true, true, true, true, true, true, true, true, true, true, false, false]) h9313_ rfl rfl (by kernel_rfl) rfl rfl ⟨(fun _ _ hk_ => (hS9146_.bring 1 rfl rfl).pool.kn hk_), (fun _ _ hk_ => (hS9146_).pool.kn hk_), trivial⟩ (fun _ _ _ h_ => h_) (fun a9314_ h9315_ => ?_)
                                clear h9313_ a9312_
                                refine WH.take 44 (listed' := #[true, true, true, true, true, true, true, true, true, true, true, true, true, true, true, true, true, true, true, true, true, true, true, true, true, true, true, true, true, true, true, true, true, true, true, true, true, true, true, true, true, true, true, true, true, false]) h9315_ rfl rfl (by kernel_rfl) rfl rfl (.bool false) (fun _ _ => by kernel_rfl) ⟨(fun _ _ hk_ => (hS9146_.bring 1 rfl rfl).pool.kn hk_), (fun _ _ hk_ => (hS9146_).pool.kn hk_), trivial⟩ (fun _ _ _ h_ => h_) (fun a9316_ h9317_ => ?_)
                                clear h9315_ a9314_
                                refine WH.take 45 (listed' := #[true, true, true, true, true, true, true, true, true, true, true, true, true, true, true, true, true, true, true, true, true, true, true, true, true, true, true, true, true, true, true, true, true, true, true, true, true, true, true, true, true, true, true, true, true, true]) h9317_ rfl rfl (by kernel_rfl) rfl rfl (.bool false) (fun _ _ => by kernel_rfl) ⟨(fun _ _ hk_ => (hS9146_.bring 1 rfl rfl).pool.kn hk_), (fun _ _ hk_ => (hS9146_).pool.kn hk_), trivial⟩ (fun _ _ _ h_ => h_) (fun a9318_ h9319_ => ?_)
                                clear h9317_ a9316_
                                refine WH.done (by kernel_rfl) ?_
                                refine wp_ret ?_
                                have hS9320_ : St b w0 W9141_ R (M8076_ :: Fs) := hS9146_.drop_
                                have hS9321_ : St b w0 W9141_ R (Fs) := hS9320_.drop_
                                obtain rfl := Option.some.inj H
                                repeat (first | refine then_ret ?_ | refine inBlock_ret ?_ | refine inBlock_go ?_)
                                refine body_ret (v := .bool false) h9319_ (by kernel_rfl) (by kernel_rfl) ?_
                                exact ⟨rfl, hS9321_⟩
                            · rw [if_neg c9224_] at H
                              have hb_ : (decide ((shrI .i64 (IntKind.i64.wrap (gt (0 : Int) r8085_ (0 : Int))) p0) = (shrI .i64 (IntKind.i64.wrap p2) p0))) = false := decide_eq_false c9224_
                              try rw [hb_] at h9223_
                              clear hb_
                              refine WH.skip 28 (listed' := #[true, true, true, true, true, true, true, true, true, true, true, true, true, true, true, true, true, true, true, true, true, true, true, true, true, true, true, true, true, false, false, false, false, false, false, false, false, false, false, false, false, false, false, false, false, false]) h9223_ rfl rfl (by kernel_rfl) rfl rfl ⟨(fun _ _ hk_ => (hS9146_.bring 1 rfl rfl).pool.kn hk_), (fun _ _ hk_ => (hS9146_).pool.kn hk_), trivial⟩ (fun _ _ _ h_ => h_) (fun a9322_ h9323_ => ?_)
                              clear h9223_ a9222_
                              refine WH.skip 29 (listed' := #[true, true, true, true, true, true, true, true, true, true, true, true, true, true, true, true, true, true, true, true, true, true, true, true, true, true, true, true, true, true, false, false, false, false, false, false, false, false, false, false, false, false, false, false, false, false]) h9323_ rfl rfl (by kernel_rfl) rfl rfl ⟨(fun _ _ hk_ => (hS9146_.bring 1 rfl rfl).pool.kn hk_), (fun _ _ hk_ => (hS9146_).pool.kn hk_), trivial⟩ (fun _ _ _ h_ => h_) (fun a9324_ h9325_ => ?_)
                              clear h9323_ a9322_
                              refine WH.skip 30 (listed' := #[true, true, true, true, true, true, true, true, true, true, true, true, true, true, true, true, true, true, true, true, true, true, true, true, true, true, true, true, true, true, true, false, false, false, false, false, false, false, false, false, false, false, false, false, false, false]) h9325_ rfl rfl (by kernel_rfl) rfl rfl ⟨(fun _ _ hk_ => (hS9146_.bring 1 rfl rfl).pool.kn hk_), (fun _ _ hk_ => (hS9146_).pool.kn hk_), trivial⟩ (fun _ _ _ h_ => h_) (fun a9326_ h9327_ => ?_)
                              clear h9325_ a9324_
                              refine WH.take 31 (listed' := #[true, true, true, true, true, true, true, true, true, true, true, true, true, true, true, true, true, true, true, true, true, true, true, true, true, true, true, true, true, true, true, true, false, false, false, false, false, false, false, false, false, false, false, false, false, false]) h9327_ rfl rfl (by kernel_rfl) rfl rfl (.bool false) (fun _ _ => by kernel_rfl) ⟨(fun _ _ hk_ => (hS9146_.bring 1 rfl rfl).pool.kn hk_), (fun _ _ hk_ => (hS9146_).pool.kn hk_), trivial⟩ (fun _ _ _ h_ => h_) (fun a9328_ h9329_ => ?_)
                              clear h9327_ a9326_
                              refine WH.take 32 (listed' := #[true, true, true, true, true, true, true, true, true, true, true, true, true, true, true, true, true, true, true, true, true, true, true, true, true, true, true, true, true, true, true, true, true, false, false, false, false, false, false, false, false, false, false, false, false, false]) h9329_ rfl rfl (by kernel_rfl) rfl rfl (.bool false) (fun _ _ => by kernel_rfl) ⟨(fun _ _ hk_ => (hS9146_.bring 1 rfl rfl).pool.kn hk_), (fun _ _ hk_ => (hS9146_).pool.kn hk_), trivial⟩ (fun _ _ _ h_ => h_) (fun a9330_ h9331_ => ?_)
                              clear h9329_ a9328_
                              refine WH.skip 33 (listed' := #[true, true, true, true, true, true, true, true, true, true, true, true, true, true, true, true, true, true, true, true, true, true, true, true, true, true, true, true, true, true, true, true, true, true, false, false, false, false, false, false, false, false, false, false, false, false]) h9331_ rfl rfl (by kernel_rfl) rfl rfl ⟨(fun _ _ hk_ => (hS9146_.bring 1 rfl rfl).pool.kn hk_), (fun _ _ hk_ => (hS9146_).pool.kn hk_), trivial⟩ (fun _ _ _ h_ => h_) (fun a9332_ h9333_ => ?_)
                              clear h9331_ a9330_
                              refine WH.skip 34 (listed' := #[true, true, true, true, true, true, true, true, true, true, true, true, true, true, true, true, true, true, true, true, true, true, true, true, true, true, true, true, true, true, true, true, true, true, true, false, false, false, false, false, false, false, false, false, false, false]) h9333_ rfl rfl (by kernel_rfl) rfl rfl ⟨(fun _ _ hk_ => (hS9146_.bring 1 rfl rfl).pool.kn hk_), (fun _ _ hk_ => (hS9146_).pool.kn hk_), trivial⟩ (fun _ _ _ h_ => h_) (fun a9334_ h9335_ => ?_)
                              clear h9333_ a9332_
                              refine WH.skip 35 (listed' := #[true, true, true, true, true, true, true, true, true, true, true, true, true, true, true, true, true, true, true, true, true, true, true, true, true, true, true, true, true, true, true, true, true, true, true, true, false, false, false, false, false, false, false, false, false, false]) h9335_ rfl rfl (by kernel_rfl) rfl rfl ⟨(fun _ _ hk_ => (hS9146_.bring 1 rfl rfl).pool.kn hk_), (fun _ _ hk_ => (hS9146_).pool.kn hk_), trivial⟩ (fun _ _ _ h_ => h_) (fun a9336_ h9337_ => ?_)
                              clear h9335_ a9334_
                              refine WH.take 36 (listed' := #[true, true, true, true, true, true, true, true, true, true, true, true, true, true, true, true, true, true, true, true, true, true, true, true, true, true, true, true, true, true, true, true, true, true, true, true, true, false, false, false, false, false, false, false, false, false]) h9337_ rfl rfl (by kernel_rfl) rfl rfl (.bool false) (fun _ _ => by kernel_rfl) ⟨(fun _ _ hk_ => (hS9146_.bring 1 rfl rfl).pool.kn hk_), (fun _ _ hk_ => (hS9146_).pool.kn hk_), trivial⟩ (fun _ _ _ h_ => h_) (fun a9338_ h9339_ => ?_)
                              clear h9337_ a9336_
                              refine WH.take 37 (listed' := #[true, true, true, true, true, true, true, true, true, true, true, true, true, true, true, true, true, true, true, true, true, true, true, true, true, true, true, true, true, true, true, true, true, true, true, true, true, true, false, false, false, false, false, false, false, false]) h9339_ rfl rfl (by kernel_rfl) rfl rfl (.bool false) (fun _ _ => by kernel_rfl) ⟨(fun _ _ hk_ => (hS9146_.bring 1 rfl rfl).pool.kn hk_), (fun _ _ hk_ => (hS9146_).pool.kn hk_), trivial⟩ (fun _ _ _ h_ => h_) (fun a9340_ h9341_ => ?_)
                              clear h9339_ a9338_
                              refine WH.skip 38 (listed' := #[true, true, true, true, true, true, true, true, true, true, true, true, true, true, true, true, true, true, true, true, true, true, true, true, true, true, true, true, true, true, true, true, true, true, true, true, true, true, true, false, false, false, false, false, false, false]) h9341_ rfl rfl (by kernel_rfl) rfl rfl ⟨(fun _ _ hk_ => (hS9146_.bring 1 rfl rfl).pool.kn hk_), (fun _ _ hk_ => (hS9146_).pool.kn hk_), trivial⟩ (fun _ _ _ h_ => h_) (fun a9342_ h9343_ => ?_)
                              clear h9341_ a9340_
                              refine WH.skip 39 (listed' := #[true, true, true, true, true, true, true, true, true, true, true, true, true, true, true, true, true, true, true, true, true, true, true, true, true, true, true, true, true, true, true, true, true, true, true, true, true, true, true, true, false, false, false, false, false, false]) h9343_ rfl rfl (by kernel_rfl) rfl rfl ⟨(fun _ _ hk_ => (hS9146_.bring 1 rfl rfl).pool.kn hk_), (fun _ _ hk_ => (hS9146_).pool.kn hk_), trivial⟩ (fun _ _ _ h_ => h_) (fun a9344_ h9345_ => ?_)
                              clear h9343_ a9342_
                              refine WH.take 40 (listed' := #[true, true, true, true, true, true, true, true, true, true, true, true, true, true, true, true, true, true, true, true, true, true, true, true, true, true, true, true, true, true, true, true, true, true, true, true, true, true, true, true, true, false, false, false, false, false]) h9345_ rfl rfl (by kernel_rfl) rfl rfl (.bool false) (fun _ _ => by kernel_rfl) ⟨(fun _ _ hk_ => (hS9146_.bring 1 rfl rfl).pool.kn hk_), (fun _ _ hk_ => (hS9146_).pool.kn hk_), trivial⟩ (fun _ _ _ h_ => h_) (fun a9346_ h9347_ => ?_)
                              clear h9345_ a9344_
                              refine WH.take 41 (listed' := #[true, true, true, true, true, true, true, true, true, true, true, true, true, true, true, true, true, true, true, true, true, true, true, true, true, true, true, true, true, true, true, true, true, true, true, true, true, true, true, true, true, true, false, false, false, false]) h9347_ rfl rfl (by kernel_rfl) rfl rfl (.bool false) (fun _ _ => by kernel_rfl) ⟨(fun _ _ hk_ => (hS9146_.bring 1 rfl rfl).pool.kn hk_), (fun _ _ hk_ => (hS9146_).pool.kn hk_), trivial⟩ (fun _ _ _ h_ => h_) (fun a9348_ h9349_ => ?_)
                              clear h9347_ a9346_
                              refine WH.skip 42 (listed' := #[true, true, true, true, true, true, true, true, true, true, true, true, true, true, true, true, true, true, true, true, true, true, true, true, true, true, true, true, true, true, true, true, true, true, true, true, true, true, true, true, true, true, true, false, false, false]) h9349_ rfl rfl (by kernel_rfl) rfl rfl ⟨(fun _ _ hk_ => (hS9146_.bring 1 rfl rfl).pool.kn hk_), (fun _ _ hk_ => (hS9146_).pool.kn hk_), trivial⟩ (fun _ _ _ h_ => h_) (fun a9350_ h9351_ => ?_)
                              clear h9349_ a9348_
                              refine WH.skip 43 (listed' := #[true, true, true, true, true, true, true, true, true, true, true, true, true, true, true, true, true, true, true, true, true, true, true, true, true, true, true, true, true, true, true, true, true, true, true, true, true, true, true, true, true, true, true, true, false, false]) h9351_ rfl rfl (by kernel_rfl) rfl rfl ⟨(fun _ _ hk_ => (hS9146_.bring 1 rfl rfl).pool.kn hk_), (fun _ _ hk_ => (hS9146_).pool.kn hk_), trivial⟩ (fun _ _ _ h_ => h_) (fun a9352_ h9353_ => ?_)
                              clear h9351_ a9350_
                              refine WH.take 44 (listed' := #[true, true, true, true, true, true, true, true, true, true, true, true, true, true, true, true, true, true, true, true, true, true, true, true, true, true, true, true, true, true, true, true, true, true, true, true, true, true, true, true, true, true, true, true, true, false]) h9353_ rfl rfl (by kernel_rfl) rfl rfl (.bool false) (fun _ _ => by kernel_rfl) ⟨(fun _ _ hk_ => (hS9146_.bring 1 rfl rfl).pool.kn hk_), (fun _ _ hk_ => (hS9146_).pool.kn hk_), trivial⟩ (fun _ _ _ h_ => h_) (fun a9354_ h9355_ => ?_)
                              clear h9353_ a9352_
                              refine WH.take 45 (listed' := #[true, true, true, true, true, true, true, true, true, true, true, true, true, true, true, true, true, true, true, true, true, true, true, true, true, true, true, true, true, true, true, true, true, true, true, true, true, true, true, true, true, true, true, true, true, true]) h9355_ rfl rfl (by kernel_rfl) rfl rfl (.bool false) (fun _ _ => by kernel_rfl) ⟨(fun _ _ hk_ => (hS9146_.bring 1 rfl rfl).pool.kn hk_), (fun _ _ hk_ => (hS9146_).pool.kn hk_), trivial⟩ (fun _ _ _ h_ => h_) (fun a9356_ h9357_ => ?_)
                              clear h9355_ a9354_
                              refine WH.done (by kernel_rfl) ?_
                              refine wp_ret ?_
                              have hS9358_ : St b w0 W9141_ R (M8076_ :: Fs) := hS9146_.drop_
                              have hS9359_ : St b w0 W9141_ R (Fs) := hS9358_.drop_
                              obtain rfl := Option.some.inj H
                              repeat (first | refine then_ret ?_ | refine inBlock_ret ?_ | refine inBlock_go ?_)
                              refine body_ret (v := .bool false) h9357_ (by kernel_rfl) (by kernel_rfl) ?_
                              exact ⟨rfl, hS9359_⟩
                          · rw [if_neg c9198_] at H
                            cases H
                        · rw [if_neg c9187_] at H
                          have hb_ : (decide ((shrI .i64 (IntKind.i64.wrap (gt (0 : Int) r8069_ (0 : Int))) p0) = (shrI .i64 (IntKind.i64.wrap p1) p0))) = false := decide_eq_false c9187_
                          try rw [hb_] at h9186_
                          clear hb_
                          refine WH.skip 15 (listed' := #[true, true, true, true, true, true, true, true, true, true, true, true, true, true, true, true, false, false, false, false, false, false, false, false, false, false, false, false, false, false, false, false, false, false, false, false, false, false, false, false, false, false, false, false, false, false]) h9186_ rfl rfl (by kernel_rfl) rfl rfl ⟨(fun _ _ hk_ => (hS9146_.bring 1 rfl rfl).pool.kn hk_), (fun _ _ hk_ => (hS9146_).pool.kn hk_), trivial⟩ (fun _ _ _ h_ => h_) (fun a9360_ h9361_ => ?_)
                          clear h9186_ a9185_
                          refine WH.skip 16 (listed' := #[true, true, true, true, true, true, true, true, true, true, true, true, true, true, true, true, true, false, false, false, false, false, false, false, false, false, false, false, false, false, false, false, false, false, false, false, false, false, false, false, false, false, false, false, false, false]) h9361_ rfl rfl (by kernel_rfl) rfl rfl ⟨(fun _ _ hk_ => (hS9146_.bring 1 rfl rfl).pool.kn hk_), (fun _ _ hk_ => (hS9146_).pool.kn hk_), trivial⟩ (fun _ _ _ h_ => h_) (fun a9362_ h9363_ => ?_)
                          clear h9361_ a9360_
                          refine WH.skip 17 (listed' := #[true, true, true, true, true, true, true, true, true, true, true, true, true, true, true, true, true, true, false, false, false, false, false, false, false, false, false, false, false, false, false, false, false, false, false, false, false, false, false, false, false, false, false, false, false, false]) h9363_ rfl rfl (by kernel_rfl) rfl rfl ⟨(fun _ _ hk_ => (hS9146_.bring 1 rfl rfl).pool.kn hk_), (fun _ _ hk_ => (hS9146_).pool.kn hk_), trivial⟩ (fun _ _ _ h_ => h_) (fun a9364_ h9365_ => ?_)
                          clear h9363_ a9362_
                          refine WH.skip 18 (listed' := #[true, true, true, true, true, true, true, true, true, true, true, true, true, true, true, true, true, true, true, false, false, false, false, false, false, false, false, false, false, false, false, false, false, false, false, false, false, false, false, false, false, false, false, false, false, false]) h9365_ rfl rfl (by kernel_rfl) rfl rfl ⟨(fun _ _ hk_ => (hS9146_.bring 1 rfl rfl).pool.kn hk_), (fun _ _ hk_ => (hS9146_).pool.kn hk_), trivial⟩ (fun _ _ _ h_ => h_) (fun a9366_ h9367_ => ?_)
                          clear h9365_ a9364_
                          refine WH.skip 19 (listed' := #[true, true, true, true, true, true, true, true, true, true, true, true, true, true, true, true, true, true, true, true, false, false, false, false, false, false, false, false, false, false, false, false, false, false, false, false, false, false, false, false, false, false, false, false, false, false]) h9367_ rfl rfl (by kernel_rfl) rfl rfl ⟨(fun _ _ hk_ => (hS9146_.bring 1 rfl rfl).pool.kn hk_), (fun _ _ hk_ => (hS9146_).pool.kn hk_), trivial⟩ (fun _ _ _ h_ => h_) (fun a9368_ h9369_ => ?_)
                          clear h9367_ a9366_
                          refine WH.skip 20 (listed' := #[true, true, true, true, true, true, true, true, true, true, true, true, true, true, true, true, true, true, true, true, true, false, false, false, false, false, false, false, false, false, false, false, false, false, false, false, false, false, false, false, false, false, false, false, false, false]) h9369_ rfl rfl (by kernel_rfl) rfl rfl ⟨(fun _ _ hk_ => (hS9146_.bring 1 rfl rfl).pool.kn hk_), (fun _ _ hk_ => (hS9146_).pool.kn hk_), trivial⟩ (fun _ _ _ h_ => h_) (fun a9370_ h9371_ => ?_)
                          clear h9369_ a9368_
                          refine WH.skip 21 (listed' := #[true, true, true, true, true, true, true, true, true, true, true, true, true, true, true, true, true, true, true, true, true, true, false, false, false, false, false, false, false, false, false, false, false, false, false, false, false, false, false, false, false, false, false, false, false, false]) h9371_ rfl rfl (by kernel_rfl) rfl rfl ⟨(fun _ _ hk_ => (hS9146_.bring 1 rfl rfl).pool.kn hk_), (fun _ _ hk_ => (hS9146_).pool.kn hk_), trivial⟩ (fun _ _ _ h_ => h_) (fun a9372_ h9373_ => ?_)
                          clear h9371_ a9370_
                          refine WH.skip 22 (listed' := #[true, true, true, true, true, true, true, true, true, true, true, true, true, true, true, true, true, true, true, true, true, true, true, false, false, false, false, false, false, false, false, false, false, false, false, false, false, false, false, false, false, false, false, false, false, false]) h9373_ rfl rfl (by kernel_rfl) rfl rfl ⟨(fun _ _ hk_ => (hS9146_.bring 1 rfl rfl).pool.kn hk_), (fun _ _ hk_ => (hS9146_).pool.kn hk_), trivial⟩ (fun _ _ _ h_ => h_) (fun a9374_ h9375_ => ?_)
                          clear h9373_ a9372_
                          refine WH.skip 23 (listed' := #[true, true, true, true, true, true, true, true, true, true, true, true, true, true, true, true, true, true, true, true, true, true, true, true, false, false, false, false, false, false, false, false, false, false, false, false, false, false, false, false, false, false, false, false, false, false]) h9375_ rfl rfl (by kernel_rfl) rfl rfl ⟨(fun _ _ hk_ => (hS9146_.bring 1 rfl rfl).pool.kn hk_), (fun _ _ hk_ => (hS9146_).pool.kn hk_), trivial⟩ (fun _ _ _ h_ => h_) (fun a9376_ h9377_ => ?_)
                          clear h9375_ a9374_
                          refine WH.skip 24 (listed' := #[true, true, true, true, true, true, true, true, true, true, true, true, true, true, true, true, true, true, true, true, true, true, true, true, true, false, false, false, false, false, false, false, false, false, false, false, false, false, false, false, false, false, false, false, false, false]) h9377_ rfl rfl (by kernel_rfl) rfl rfl ⟨(fun _ _ hk_ => (hS9146_.bring 1 rfl rfl).pool.kn hk_), (fun _ _ hk_ => (hS9146_).pool.kn hk_), trivial⟩ (fun _ _ _ h_ => h_) (fun a9378_ h9379_ => ?_)
                          clear h9377_ a9376_
                          refine WH.skip 25 (listed' := #[true, true, true, true, true, true, true, true, true, true, true, true, true, true, true, true, true, true, true, true, true, true, true, true, true, true, false, false, false, false, false, false, false, false, false, false, false, false, false, false, false, false, false, false, false, false]) h9379_ rfl rfl (by kernel_rfl) rfl rfl ⟨(fun _ _ hk_ => (hS9146_.bring 1 rfl rfl).pool.kn hk_), (fun _ _ hk_ => (hS9146_).pool.kn hk_), trivial⟩ (fun _ _ _ h_ => h_) (fun a9380_ h9381_ => ?_)
                          clear h9379_ a9378_
                          refine WH.take 26 (listed' := #[true, true, true, true, true, true, true, true, true, true, true, true, true, true, true, true, true, true, true, true, true, true, true, true, true, true, true, false, false, false, false, false, false, false, false, false, false, false, false, false, false, false, false, false, false, false]) h9381_ rfl rfl (by kernel_rfl) rfl rfl (.bool false) (fun _ _ => by kernel_rfl) ⟨(fun _ _ hk_ => (hS9146_.bring 1 rfl rfl).pool.kn hk_), (fun _ _ hk_ => (hS9146_).pool.kn hk_), trivial⟩ (fun _ _ _ h_ => h_) (fun a9382_ h9383_ => ?_)
                          clear h9381_ a9380_
                          refine WH.take 27 (listed' := #[true, true, true, true, true, true, true, true, true, true, true, true, true, true, true, true, true, true, true, true, true, true, true, true, true, true, true, true, false, false, false, false, false, false, false, false, false, false, false, false, false, false, false, false, false, false]) h9383_ rfl rfl (by kernel_rfl) rfl rfl (.bool false) (fun _ _ => by kernel_rfl) ⟨(fun _ _ hk_ => (hS9146_.bring 1 rfl rfl).pool.kn hk_), (fun _ _ hk_ => (hS9146_).pool.kn hk_), trivial⟩ (fun _ _ _ h_ => h_) (fun a9384_ h9385_ => ?_)
                          clear h9383_ a9382_
                          refine WH.skip 28 (listed' := #[true, true, true, true, true, true, true, true, true, true, true, true, true, true, true, true, true, true, true, true, true, true, true, true, true, true, true, true, true, false, false, false, false, false, false, false, false, false, false, false, false, false, false, false, false, false]) h9385_ rfl rfl (by kernel_rfl) rfl rfl ⟨(fun _ _ hk_ => (hS9146_.bring 1 rfl rfl).pool.kn hk_), (fun _ _ hk_ => (hS9146_).pool.kn hk_), trivial⟩ (fun _ _ _ h_ => h_) (fun a9386_ h9387_ => ?_)
                          clear h9385_ a9384_
                          refine WH.skip 29 (listed' := #[true, true, true, true, true, true, true, true, true, true, true, true, true, true, true, true, true, true, true, true, true, true, true, true, true, true, true, true, true, true, false, false, false, false, false, false, false, false, false, false, false, false, false, false, false, false]) h9387_ rfl rfl (by kernel_rfl) rfl rfl ⟨(fun _ _ hk_ => (hS9146_.bring 1 rfl rfl).pool.kn hk_), (fun _ _ hk_ => (hS9146_).pool.kn hk_), trivial⟩ (fun _ _ _ h_ => h_) (fun a9388_ h9389_ => ?_)
                          clear h9387_ a9386_
                          refine WH.skip 30 (listed' := #[true, true, true, true, true, true, true, true, true, true, true, true, true, true, true, true, true, true, true, true, true, true, true, true, true, true, true, true, true, true, true, false, false, false, false, false, false, false, false, false, false, false, false, false, false, false]) h9389_ rfl rfl (by kernel_rfl) rfl rfl ⟨(fun _ _ hk_ => (hS9146_.bring 1 rfl rfl).pool.kn hk_), (fun _ _ hk_ => (hS9146_).pool.kn hk_), trivial⟩ (fun _ _ _ h_ => h_) (fun a9390_ h9391_ => ?_)
                          clear h9389_ a9388_
                          refine WH.take 31 (listed' := #[true, true, true, true, true, true, true, true, true, true, true, true, true, true, true, true, true, true, true, true, true, true, true, true, true, true, true, true, true, true, true, true, false, false, false, false, false, false, false, false, false, false, false, false, false, false]) h9391_ rfl rfl (by kernel_rfl) rfl rfl (.bool false) (fun _ _ => by kernel_rfl) ⟨(fun _ _ hk_ => (hS9146_.bring 1 rfl rfl).pool.kn hk_), (fun _ _ hk_ => (hS9146_).pool.kn hk_), trivial⟩ (fun _ _ _ h_ => h_) (fun a9392_ h9393_ => ?_)
                          clear h9391_ a9390_
                          refine WH.take 32 (listed' := #[true, true, true, true, true, true, true, true, true, true, true, true, true, true, true, true, true, true, true, true, true, true, true, true, true, true, true, true, true, true, true, true, true, false, false, false, false, false, false, false, false, false, false, false, false, false]) h9393_ rfl rfl (by kernel_rfl) rfl rfl (.bool false) (fun _ _ => by kernel_rfl) ⟨(fun _ _ hk_ => (hS9146_.bring 1 rfl rfl).pool.kn hk_), (fun _ _ hk_ => (hS9146_).pool.kn hk_), trivial⟩ (fun _ _ _ h_ => h_) (fun a9394_ h9395_ => ?_)
                          clear h9393_ a9392_
                          refine WH.skip 33 (listed' := #[true, true, true, true, true, true, true, true, true, true, true, true, true, true, true, true, true, true, true, true, true, true, true, true, true, true, true, true, true, true, true, true, true, true, false, false, false, false, false, false, false, false, false, false, false, false]) h9395_ rfl rfl (by kernel_rfl) rfl rfl ⟨(fun _ _ hk_ => (hS9146_.bring 1 rfl rfl).pool.kn hk_), (fun _ _ hk_ => (hS9146_).pool.kn hk_), trivial⟩ (fun _ _ _ h_ => h_) (fun a9396_ h9397_ => ?_)
                          clear h9395_ a9394_
                          refine WH.skip 34 (listed' := #[true, true, true, true, true, true, true, true, true, true, true, true, true, true, true, true, true, true, true, true, true, true, true, true, true, true, true, true, true, true, true, true, true, true, true, false, false, false, false, false, false, false, false, false, false, false]) h9397_ rfl rfl (by kernel_rfl) rfl rfl ⟨(fun _ _ hk_ => (hS9146_.bring 1 rfl rfl).pool.kn hk_), (fun _ _ hk_ => (hS9146_).pool.kn hk_), trivial⟩ (fun _ _ _ h_ => h_) (fun a9398_ h9399_ => ?_)
                          clear h9397_ a9396_
                          refine WH.skip 35 (listed' := #[true, true, true, true, true, true, true, true, true, true, true, true, true, true, true, true, true, true, true, true, true, true, true, true, true, true, true, true, true, true, true, true, true, true, true, true, false, false, false, false, false, false, false, false, false, false]) h9399_ rfl rfl (by kernel_rfl) rfl rfl ⟨(fun _ _ hk_ => (hS9146_.bring 1 rfl rfl).pool.kn hk_), (fun _ _ hk_ => (hS9146_).pool.kn hk_), trivial⟩ (fun _ _ _ h_ => h_) (fun a9400_ h9401_ => ?_)
                          clear h9399_ a9398_
                          refine WH.take 36 (listed' := #[true, true, true, true, true, true, true, true, true, true, true, true, true, true, true, true, true, true, true, true, true, true, true, true, true, true, true, true, true, true, true, true, true, true, true, true, true, false, false, false, false, false, false, false, false, false]) h9401_ rfl rfl (by kernel_rfl) rfl rfl (.bool false) (fun _ _ => by kernel_rfl) ⟨(fun _ _ hk_ => (hS9146_.bring 1 rfl rfl).pool.kn hk_), (fun _ _ hk_ => (hS9146_).pool.kn hk_), trivial⟩ (fun _ _ _ h_ => h_) (fun a9402_ h9403_ => ?_)
                          clear h9401_ a9400_
                          refine WH.take 37 (listed' := #[true, true, true, true, true, true, true, true, true, true, true, true, true, true, true, true, true, true, true, true, true, true, true, true, true, true, true, true, true, true, true, true, true, true, true, true, true, true, false, false, false, false, false, false, false, false]) h9403_ rfl rfl (by kernel_rfl) rfl rfl (.bool false) (fun _ _ => by kernel_rfl) ⟨(fun _ _ hk_ => (hS9146_.bring 1 rfl rfl).pool.kn hk_), (fun _ _ hk_ => (hS9146_).pool.kn hk_), trivial⟩ (fun _ _ _ h_ => h_) (fun a9404_ h9405_ => ?_)
                          clear h9403_ a9402_
                          refine WH.skip 38 (listed' := #[true, true, true, true, true, true, true, true, true, true, true, true, true, true, true, true, true, true, true, true, true, true, true, true, true, true, true, true, true, true, true, true, true, true, true, true, true, true, true, false, false, false, false, false, false, false]) h9405_ rfl rfl (by kernel_rfl) rfl rfl ⟨(fun _ _ hk_ => (hS9146_.bring 1 rfl rfl).pool.kn hk_), (fun _ _ hk_ => (hS9146_).pool.kn hk_), trivial⟩ (fun _ _ _ h_ => h_) (fun a9406_ h9407_ => ?_)
                          clear h9405_ a9404_
                          refine WH.skip 39 (listed' := #[true, true, true, true, true, true, true, true, true, true, true, true, true, true, true, true, true, true, true, true, true, true, true, true, true, true, true, true, true, true, true, true, true, true, true, true, true, true, true, true, false, false, false, false, false, false]) h9407_ rfl rfl (by kernel_rfl) rfl rfl ⟨(fun _ _ hk_ => (hS9146_.bring 1 rfl rfl).pool.kn hk_), (fun _ _ hk_ => (hS9146_).pool.kn hk_), trivial⟩ (fun _ _ _ h_ => h_) (fun a9408_ h9409_ => ?_)
                          clear h9407_ a9406_
                          refine WH.take 40 (listed' := #[true, true, true, true, true, true, true, true, true, true, true, true, true, true, true, true, true, true, true, true, true, true, true, true, true, true, true, true, true, true, true, true, true, true, true, true, true, true, true, true, true, false, false, false, false, false]) h9409_ rfl rfl (by kernel_rfl) rfl rfl (.bool false) (fun _ _ => by kernel_rfl) ⟨(fun _ _ hk_ => (hS9146_.bring 1 rfl rfl).pool.kn hk_), (fun _ _ hk_ => (hS9146_).pool.kn hk_), trivial⟩ (fun _ _ _ h_ => h_) (fun a9410_ h9411_ => ?_)
                          clear h9409_ a9408_
                          refine WH.take 41 (listed' := #[true, true, true, true, true, true, true, true, true, true, true, true, true, true, true, true, true, true, true, true, true, true, true, true, true, true, true, true, true, true, true, true, true, true, true, true, true, true, true, true, true, true, false, false, false, false]) h9411_ rfl rfl (by kernel_rfl) rfl rfl (.bool false) (fun _ _ => by kernel_rfl) ⟨(fun _ _ hk_ => (hS9146_.bring 1 rfl rfl).pool.kn hk_), (fun _ _ hk_ => (hS9146_).pool.kn hk_), trivial⟩ (fun _ _ _ h_ => h_) (fun a9412_ h9413_ => ?_)
                          clear h9411_ a9410_
                          refine WH.skip 42 (listed' := #[true, true, true, true, true, true, true, true, true, true, true, true, true, true, true, true, true, true, true, true, true, true, true, true, true, true, true, true, true, true, true, true, true, true, true, true, true, true, true, true, true, true, true, false, false, false]) h9413_ rfl rfl (by kernel_rfl) rfl rfl ⟨(fun _ _ hk_ => (hS9146_.bring 1 rfl rfl).pool.kn hk_), (fun _ _ hk_ => (hS9146_).pool.kn hk_), trivial⟩ (fun _ _ _ h_ => h_) (fun a9414_ h9415_ => ?_)
                          clear h9413_ a9412_
                          refine WH.skip 43 (listed' := #[true, true, true, true, true, true, true, true, true, true, true, true, true, true, true, true, true, true, true, true, true, true, true, true, true, true, true, true, true, true, true, true, true, true, true, true, true, true, true, true, true, true, true, true, false, false]) h9415_ rfl rfl (by kernel_rfl) rfl rfl ⟨(fun _ _ hk_ => (hS9146_.bring 1 rfl rfl).pool.kn hk_), (fun _ _ hk_ => (hS9146_).pool.kn hk_), trivial⟩ (fun _ _ _ h_ => h_) (fun a9416_ h9417_ => ?_)
                          clear h9415_ a9414_
                          refine WH.take 44 (listed' := #[true, true, true, true, true, true, true, true, true, true, true, true, true, true, true, true, true, true, true, true, true, true, true, true, true, true, true, true, true, true, true, true, true, true, true, true, true, true, true, true, true, true, true, true, true, false]) h9417_ rfl rfl (by kernel_rfl) rfl rfl (.bool false) (fun _ _ => by kernel_rfl) ⟨(fun _ _ hk_ => (hS9146_.bring 1 rfl rfl).pool.kn hk_), (fun _ _ hk_ => (hS9146_).pool.kn hk_), trivial⟩ (fun _ _ _ h_ => h_) (fun a9418_ h9419_ => ?_)
                          clear h9417_ a9416_
                          refine WH.take 45 (listed' := #[true, true, true, true, true, true, true, true, true, true, true, true, true, true, true, true, true, true, true, true, true, true, true, true, true, true, true, true, true, true, true, true, true, true, true, true, true, true, true, true, true, true, true, true, true, true]) h9419_ rfl rfl (by kernel_rfl) rfl rfl (.bool false) (fun _ _ => by kernel_rfl) ⟨(fun _ _ hk_ => (hS9146_.bring 1 rfl rfl).pool.kn hk_), (fun _ _ hk_ => (hS9146_).pool.kn hk_), trivial⟩ (fun _ _ _ h_ => h_) (fun a9420_ h9421_ => ?_)
                          clear h9419_ a9418_
                          refine WH.done (by kernel_rfl) ?_
                          refine wp_ret ?_
                          have hS9422_ : St b w0 W9141_ R (M8076_ :: Fs) := hS9146_.drop_
                          have hS9423_ : St b w0 W9141_ R (Fs) := hS9422_.drop_
                          obtain rfl := Option.some.inj H
                          repeat (first | refine then_ret ?_ | refine inBlock_ret ?_ | refine inBlock_go ?_)
                          refine body_ret (v := .bool false) h9421_ (by kernel_rfl) (by kernel_rfl) ?_
                          exact ⟨rfl, hS9423_⟩
                      · rw [if_neg c9176_] at H
                        cases H
                    · rw [if_neg c9160_] at H
                      cases H
                  · rw [if_neg c9149_] at H
                    have hb_ : r9140_ = false := (Bool.eq_false_iff.2 c9149_)
                    try rw [hb_] at h9148_
                    clear hb_
                    refine WH.skip 2 (listed' := #[true, true, true, false, false, false, false, false, false, false, false, false, false, false, false, false, false, false, false, false, false, false, false, false, false, false, false, false, false, false, false, false, false, false, false, false, false, false, false, false, false, false, false, false, false, false]) h9148_ rfl rfl (by kernel_rfl) rfl rfl ⟨(fun _ _ hk_ => (hS9146_.bring 1 rfl rfl).pool.kn hk_), (fun _ _ hk_ => (hS9146_).pool.kn hk_), trivial⟩ (fun _ _ _ h_ => h_) (fun a9424_ h9425_ => ?_)
                    clear h9148_ a9147_
                    refine WH.skip 3 (listed' := #[true, true, true, true, false, false, false, false, false, false, false, false, false, false, false, false, false, false, false, false, false, false, false, false, false, false, false, false, false, false, false, false, false, false, false, false, false, false, false, false, false, false, false, false, false, false]) h9425_ rfl rfl (by kernel_rfl) rfl rfl ⟨(fun _ _ hk_ => (hS9146_.bring 1 rfl rfl).pool.kn hk_), (fun _ _ hk_ => (hS9146_).pool.kn hk_), trivial⟩ (fun _ _ _ h_ => h_) (fun a9426_ h9427_ => ?_)
                    clear h9425_ a9424_
                    refine WH.skip 4 (listed' := #[true, true, true, true, true, false, false, false, false, false, false, false, false, false, false, false, false, false, false, false, false, false, false, false, false, false, false, false, false, false, false, false, false, false, false, false, false, false, false, false, false, false, false, false, false, false]) h9427_ rfl rfl (by kernel_rfl) rfl rfl ⟨(fun _ _ hk_ => (hS9146_.bring 1 rfl rfl).pool.kn hk_), (fun _ _ hk_ => (hS9146_).pool.kn hk_), trivial⟩ (fun _ _ _ h_ => h_) (fun a9428_ h9429_ => ?_)
                    clear h9427_ a9426_
                    refine WH.skip 5 (listed' := #[true, true, true, true, true, true, false, false, false, false, false, false, false, false, false, false, false, false, false, false, false, false, false, false, false, false, false, false, false, false, false, false, false, false, false, false, false, false, false, false, false, false, false, false, false, false]) h9429_ rfl rfl (by kernel_rfl) rfl rfl ⟨(fun _ _ hk_ => (hS9146_.bring 1 rfl rfl).pool.kn hk_), (fun _ _ hk_ => (hS9146_).pool.kn hk_), trivial⟩ (fun _ _ _ h_ => h_) (fun a9430_ h9431_ => ?_)
                    clear h9429_ a9428_
                    refine WH.skip 6 (listed' := #[true, true, true, true, true, true, true, false, false, false, false, false, false, false, false, false, false, false, false, false, false, false, false, false, false, false, false, false, false, false, false, false, false, false, false, false, false, false, false, false, false, false, false, false, false, false]) h9431_ rfl rfl (by kernel_rfl) rfl rfl ⟨(fun _ _ hk_ => (hS9146_.bring 1 rfl rfl).pool.kn hk_), (fun _ _ hk_ => (hS9146_).pool.kn hk_), trivial⟩ (fun _ _ _ h_ => h_) (fun a9432_ h9433_ => ?_)
                    clear h9431_ a9430_
                    refine WH.skip 7 (listed' := #[true, true, true, true, true, true, true, true, false, false, false, false, false, false, false, false, false, false, false, false, false, false, false, false, false, false, false, false, false, false, false, false, false, false, false, false, false, false, false, false, false, false, false, false, false, false]) h9433_ rfl rfl (by kernel_rfl) rfl rfl ⟨(fun _ _ hk_ => (hS9146_.bring 1 rfl rfl).pool.kn hk_), (fun _ _ hk_ => (hS9146_).pool.kn hk_), trivial⟩ (fun _ _ _ h_ => h_) (fun a9434_ h9435_ => ?_)
                    clear h9433_ a9432_
                    refine WH.skip 8 (listed' := #[true, true, true, true, true, true, true, true, true, false, false, false, false, false, false, false, false, false, false, false, false, false, false, false, false, false, false, false, false, false, false, false, false, false, false, false, false, false, false, false, false, false, false, false, false, false]) h9435_ rfl rfl (by kernel_rfl) rfl rfl ⟨(fun _ _ hk_ => (hS9146_.bring 1 rfl rfl).pool.kn hk_), (fun _ _ hk_ => (hS9146_).pool.kn hk_), trivial⟩ (fun _ _ _ h_ => h_) (fun a9436_ h9437_ => ?_)
                    clear h9435_ a9434_
                    refine WH.skip 9 (listed' := #[true, true, true, true, true, true, true, true, true, true, false, false, false, false, false, false, false, false, false, false, false, false, false, false, false, false, false, false, false, false, false, false, false, false, false, false, false, false, false, false, false, false, false, false, false, false]) h9437_ rfl rfl (by kernel_rfl) rfl rfl ⟨(fun _ _ hk_ => (hS9146_.bring 1 rfl rfl).pool.kn hk_), (fun _ _ hk_ => (hS9146_).pool.kn hk_), trivial⟩ (fun _ _ _ h_ => h_) (fun a9438_ h9439_ => ?_)
                    clear h9437_ a9436_
                    refine WH.skip 10 (listed' := #[true, true, true, true, true, true, true, true, true, true, true, false, false, false, false, false, false, false, false, false, false, false, false, false, false, false, false, false, false, false, false, false, false, false, false, false, false, false, false, false, false, false, false, false, false, false]) h9439_ rfl rfl (by kernel_rfl) rfl rfl ⟨(fun _ _ hk_ => (hS9146_.bring 1 rfl rfl).pool.kn hk_), (fun _ _ hk_ => (hS9146_).pool.kn hk_), trivial⟩ (fun _ _ _ h_ => h_) (fun a9440_ h9441_ => ?_)
                    clear h9439_ a9438_
                    refine WH.skip 11 (listed' := #[true, true, true, true, true, true, true, true, true, true, true, true, false, false, false, false, false, false, false, false, false, false, false, false, false, false, false, false, false, false, false, false, false, false, false, false, false, false, false, false, false, false, false, false, false, false]) h9441_ rfl rfl (by kernel_rfl) rfl rfl ⟨(fun _ _ hk_ => (hS9146_.bring 1 rfl rfl).pool.kn hk_), (fun _ _ hk_ => (hS9146_).pool.kn hk_), trivial⟩ (fun _ _ _ h_ => h_) (fun a9442_ h9443_ => ?_)
                    clear h9441_ a9440_
                    refine WH.skip 12 (listed' := #[true, true, true, true, true, true, true, true, true, true, true, true, true, false, false, false, false, false, false, false, false, false, false, false, false, false, false, false, false, false, false, false, false, false, false, false, false, false, false, false, false, false, false, false, false, false]) h9443_ rfl rfl (by kernel_rfl) rfl rfl ⟨(fun _ _ hk_ => (hS9146_.bring 1 rfl rfl).pool.kn hk_), (fun _ _ hk_ => (hS9146_).pool.kn hk_), trivial⟩ (fun _ _ _ h_ => h_) (fun a9444_ h9445_ => ?_)
                    clear h9443_ a9442_
                    refine WH.take 13 (listed' := #[true, true, true, true, true, true, true, true, true, true, true, true, true, true, false, false, false, false, false, false, false, false, false, false, false, false, false, false, false, false, false, false, false, false, false, false, false, false, false, false, false, false, false, false, false, false]) h9445_ rfl rfl (by kernel_rfl) rfl rfl (.bool false) (fun _ _ => by kernel_rfl) ⟨(fun _ _ hk_ => (hS9146_.bring 1 rfl rfl).pool.kn hk_), (fun _ _ hk_ => (hS9146_).pool.kn hk_), trivial⟩ (fun _ _ _ h_ => h_) (fun a9446_ h9447_ => ?_)
                    clear h9445_ a9444_
                    refine WH.take 14 (listed' := #[true, true, true, true, true, true, true, true, true, true, true, true, true, true, true, false, false, false, false, false, false, false, false, false, false, false, false, false, false, false, false, false, false, false, false, false, false, false, false, false, false, false, false, false, false, false]) h9447_ rfl rfl (by kernel_rfl) rfl rfl (.bool false) (fun _ _ => by kernel_rfl) ⟨(fun _ _ hk_ => (hS9146_.bring 1 rfl rfl).pool.kn hk_), (fun _ _ hk_ => (hS9146_).pool.kn hk_), trivial⟩ (fun _ _ _ h_ => h_) (fun a9448_ h9449_ => ?_)
                    clear h9447_ a9446_
                    refine WH.skip 15 (listed' := #[true, true, true, true, true, true, true, true, true, true, true, true, true, true, true, true, false, false, false, false, false, false, false, false, false, false, false, false, false, false, false, false, false, false, false, false, false, false, false, false, false, false, false, false, false, false]) h9449_ rfl rfl (by kernel_rfl) rfl rfl ⟨(fun _ _ hk_ => (hS9146_.bring 1 rfl rfl).pool.kn hk_), (fun _ _ hk_ => (hS9146_).pool.kn hk_), trivial⟩ (fun _ _ _ h_ => h_) (fun a9450_ h9451_ => ?_)
                    clear h9449_ a9448_
                    refine WH.skip 16 (listed' := #[true, true, true, true, true, true, true, true, true, true, true, true, true, true, true, true, true, false, false, false, false, false, false, false, false, false, false, false, false, false, false, false, false, false, false, false, false, false, false, false, false, false, false, false, false, false]) h9451_ rfl rfl (by kernel_rfl) rfl rfl ⟨(fun _ _ hk_ => (hS9146_.bring 1 rfl rfl).pool.kn hk_), (fun _ _ hk_ => (hS9146_).pool.kn hk_), trivial⟩ (fun _ _ _ h_ => h_) (fun a9452_ h9453_ => ?_)
                    clear h9451_ a9450_
                    refine WH.skip 17 (listed' := #[true, true, true, true, true, true, true, true, true, true, true, true, true, true, true, true, true, true, false, false, false, false, false, false, false, false, false, false, false, false, false, false, false, false, false, false, false, false, false, false, false, false, false, false, false, false]) h9453_ rfl rfl (by kernel_rfl) rfl rfl ⟨(fun _ _ hk_ => (hS9146_.bring 1 rfl rfl).pool.kn hk_), (fun _ _ hk_ => (hS9146_).pool.kn hk_), trivial⟩ (fun _ _ _ h_ => h_) (fun a9454_ h9455_ => ?_)
                    clear h9453_ a9452_
                    refine WH.skip 18 (listed' := #[true, true, true, true, true, true, true, true, true, true, true, true, true, true, true, true, true, true, true, false, false, false, false, false, false, false, false, false, false, false, false, false, false, false, false, false, false, false, false, false, false, false, false, false, false, false]) h9455_ rfl rfl (by kernel_rfl) rfl rfl ⟨(fun _ _ hk_ => (hS9146_.bring 1 rfl rfl).pool.kn hk_), (fun _ _ hk_ => (hS9146_).pool.kn hk_), trivial⟩ (fun _ _ _ h_ => h_) (fun a9456_ h9457_ => ?_)
                    clear h9455_ a9454_
                    refine WH.skip 19 (listed' := #[true, true, true, true, true, true, true, true, true, true, true, true, true, true, true, true, true, true, true, true, false, false, false, false, false, false, false, false, false, false, false, false, false, false, false, false, false, false, false, false, false, false, false, false, false, false]) h9457_ rfl rfl (by kernel_rfl) rfl rfl ⟨(fun _ _ hk_ => (hS9146_.bring 1 rfl rfl).pool.kn hk_), (fun _ _ hk_ => (hS9146_).pool.kn hk_), trivial⟩ (fun _ _ _ h_ => h_) (fun a9458_ h9459_ => ?_)
                    clear h9457_ a9456_
                    refine WH.skip 20 (listed' := #[true, true, true, true, true, true, true, true, true, true, true, true, true, true, true, true, true, true, true, true, true, false, false, false, false, false, false, false, false, false, false, false, false, false, false, false, false, false, false, false, false, false, false, false, false, false]) h9459_ rfl rfl (by kernel_rfl) rfl rfl ⟨(fun _ _ hk_ => (hS9146_.bring 1 rfl rfl).pool.kn hk_), (fun _ _ hk_ => (hS9146_).pool.kn hk_), trivial⟩ (fun _ _ _ h_ => h_) (fun a9460_ h9461_ => ?_)
                    clear h9459_ a9458_
                    refine WH.skip 21 (listed' := #[true, true, true, true, true, true, true, true, true, true, true, true, true, true, true, true, true, true, true, true, true, true, false, false, false, false, false, false, false, false, false, false, false, false, false, false, false, false, false, false, false, false, false, false, false, false]) h9461_ rfl rfl (by kernel_rfl) rfl rfl ⟨(fun _ _ hk_ => (hS9146_.bring 1 rfl rfl).pool.kn hk_), (fun _ _ hk_ => (hS9146_).pool.kn hk_), trivial⟩ (fun _ _ _ h_ => h_) (fun a9462_ h9463_ => ?_)
                    clear h9461_ a9460_
                    refine WH.skip 22 (listed' := #[true, true, true, true, true, true, true, true, true, true, true, true, true, true, true, true, true, true, true, true, true, true, true, false, false, false, false, false, false, false, false, false, false, false, false, false, false, false, false, false, false, false, false, false, false, false]) h9463_ rfl rfl (by kernel_rfl) rfl rfl ⟨(fun _ _ hk_ => (hS9146_.bring 1 rfl rfl).pool.kn hk_), (fun _ _ hk_ => (hS9146_).pool.kn hk_), trivial⟩ (fun _ _ _ h_ => h_) (fun a9464_ h9465_ => ?_)
                    clear h9463_ a9462_
                    refine WH.skip 23 (listed' := #[true, true, true, true, true, true, true, true, true, true, true, true, true, true, true, true, true, true, true, true, true, true, true, true, false, false, false, false, false, false, false, false, false, false, false, false, false, false, false, false, false, false, false, false, false, false]) h9465_ rfl rfl (by kernel_rfl) rfl rfl ⟨(fun _ _ hk_ => (hS9146_.bring 1 rfl rfl).pool.kn hk_), (fun _ _ hk_ => (hS9146_).pool.kn hk_), trivial⟩ (fun _ _ _ h_ => h_) (fun a9466_ h9467_ => ?_)
                    clear h9465_ a9464_
                    refine WH.skip 24 (listed' := #[true, true, true, true, true, true, true, true, true, true, true, true, true, true, true, true, true, true, true, true, true, true, true, true, true, false, false, false, false, false, false, false, false, false, false, false, false, false, false, false, false, false, false, false, false, false]) h9467_ rfl rfl (by kernel_rfl) rfl rfl ⟨(fun _ _ hk_ => (hS9146_.bring 1 rfl rfl).pool.kn hk_), (fun _ _ hk_ => (hS9146_).pool.kn hk_), trivial⟩ (fun _ _ _ h_ => h_) (fun a9468_ h9469_ => ?_)
                    clear h9467_ a9466_
                    refine WH.skip 25 (listed' := #[true, true, true, true, true, true, true, true, true, true, true, true, true, true, true, true, true, true, true, true, true, true, true, true, true, true, false, false, false, false, false, false, false, false, false, false, false, false, false, false, false, false, false, false, false, false]) h9469_ rfl rfl (by kernel_rfl) rfl rfl ⟨(fun _ _ hk_ => (hS9146_.bring 1 rfl rfl).pool.kn hk_), (fun _ _ hk_ => (hS9146_).pool.kn hk_), trivial⟩ (fun _ _ _ h_ => h_) (fun a9470_ h9471_ => ?_)
                    clear h9469_ a9468_
                    refine WH.take 26 (listed' := #[true, true, true, true, true, true, true, true, true, true, true, true, true, true, true, true, true, true, true, true, true, true, true, true, true, true, true, false, false, false, false, false, false, false, false, false, false, false, false, false, false, false, false, false, false, false]) h9471_ rfl rfl (by kernel_rfl) rfl rfl (.bool false) (fun _ _ => by kernel_rfl) ⟨(fun _ _ hk_ => (hS9146_.bring 1 rfl rfl).pool.kn hk_), (fun _ _ hk_ => (hS9146_).pool.kn hk_), trivial⟩ (fun _ _ _ h_ => h_) (fun a9472_ h9473_ => ?_)
                    clear h9471_ a9470_
                    refine WH.take 27 (listed' := #[true, true, true, true, true, true, true, true, true, true, true, true, true, true, true, true, true, true, true, true, true, true, true, true, true, true, true, true, false, false, false, false, false, false, false, false, false, false, false, false, false, false, false, false, false, false]) h9473_ rfl rfl (by kernel_rfl) rfl rfl (.bool false) (fun _ _ => by kernel_rfl) ⟨(fun _ _ hk_ => (hS9146_.bring 1 rfl rfl).pool.kn hk_), (fun _ _ hk_ => (hS9146_).pool.kn hk_), trivial⟩ (fun _ _ _ h_ => h_) (fun a9474_ h9475_ => ?_)
                    clear h9473_ a9472_
                    refine WH.skip 28 (listed' := #[true, true, true, true, true, true, true, true, true, true, true, true, true, true, true, true, true, true, true, true, true, true, true, true, true, true, true, true, true, false, false, false, false, false, false, false, false, false, false, false, false, false, false, false, false, false]) h9475_ rfl rfl (by kernel_rfl) rfl rfl ⟨(fun _ _ hk_ => (hS9146_.bring 1 rfl rfl).pool.kn hk_), (fun _ _ hk_ => (hS9146_).pool.kn hk_), trivial⟩ (fun _ _ _ h_ => h_) (fun a9476_ h9477_ => ?_)
                    clear h9475_ a9474_
                    refine WH.skip 29 (listed' := #[true, true, true, true, true, true, true, true, true, true, true, true, true, true, true, true, true, true, true, true, true, true, true, true, true, true, true, true, true, true, false, false, false, false, false, false, false, false, false, false, false, false, false, false, false, false]) h9477_ rfl rfl (by kernel_rfl) rfl rfl ⟨(fun _ _ hk_ => (hS9146_.bring 1 rfl rfl).pool.kn hk_), (fun _ _ hk_ => (hS9146_).pool.kn hk_), trivial⟩ (fun _ _ _ h_ => h_) (fun a9478_ h9479_ => ?_)
                    clear h9477_ a9476_
                    refine WH.skip 30 (listed' := #[true, true, true, true, true, true, true, true, true, true, true, true, true, true, true, true, true, true, true, true, true, true, true, true, true, true, true, true, true, true, true, false, false, false, false, false, false, false, false, false, false, false, false, false, false, false]) h9479_ rfl rfl (by kernel_rfl) rfl rfl ⟨(fun _ _ hk_ => (hS9146_.bring 1 rfl rfl).pool.kn hk_), (fun _ _ hk_ => (hS9146_).pool.kn hk_), trivial⟩ (fun _ _ _ h_ => h_) (fun a9480_ h9481_ => ?_)
                    clear h9479_ a9478_
                    refine WH.take 31 (listed' := #[true, true, true, true, true, true, true, true, true, true, true, true, true, true, true, true, true, true, true, true, true, true, true, true, true, true, true, true, true, true, true, true, false, false, false, false, false, false, false, false, false, false, false, false, false, false]) h9481_ rfl rfl (by kernel_rfl) rfl rfl (.bool false) (fun _ _ => by kernel_rfl) ⟨(fun _ _ hk_ => (hS9146_.bring 1 rfl rfl).pool.kn hk_), (fun _ _ hk_ => (hS9146_).pool.kn hk_), trivial⟩ (fun _ _ _ h_ => h_) (fun a9482_ h9483_ => ?_)
                    clear h9481_ a9480_
                    refine WH.take 32 (listed' := #[true, true, true, true, true, true, true, true, true, true, true, true, true, true, true, true, true, true, true, true, true, true, true, true, true, true, true, true, true, true, true, true, true, false, false, false, false, false, false, false, false, false, false, false, false, false]) h9483_ rfl rfl (by kernel_rfl) rfl rfl (.bool false) (fun _ _ => by kernel_rfl) ⟨(fun _ _ hk_ => (hS9146_.bring 1 rfl rfl).pool.kn hk_), (fun _ _ hk_ => (hS9146_).pool.kn hk_), trivial⟩ (fun _ _ _ h_ => h_) (fun a9484_ h9485_ => ?_)
                    clear h9483_ a9482_
                    refine WH.skip 33 (listed' := #[true, true, true, true, true, true, true, true, true, true, true, true, true, true, true, true, true, true, true, true, true, true, true, true, true, true, true, true, true, true, true, true, true, true, false, false, false, false, false, false, false, false, false, false, false, false]) h9485_ rfl rfl (by kernel_rfl) rfl rfl ⟨(fun _ _ hk_ => (hS9146_.bring 1 rfl rfl).pool.kn hk_), (fun _ _ hk_ => (hS9146_).pool.kn hk_), trivial⟩ (fun _ _ _ h_ => h_) (fun a9486_ h9487_ => ?_)
                    clear h9485_ a9484_
                    refine WH.skip 34 (listed' := #[true, true, true, true, true, true, true, true, true, true, true, true, true, true, true, true, true, true, true, true, true, true, true, true, true, true, true, true, true, true, true, true, true, true, true, false, false, false, false, false, false, false, false, false, false, false]) h9487_ rfl rfl (by kernel_rfl) rfl rfl ⟨(fun _ _ hk_ => (hS9146_.bring 1 rfl rfl).pool.kn hk_), (fun _ _ hk_ => (hS9146_).pool.kn hk_), trivial⟩ (fun _ _ _ h_ => h_) (fun a9488_ h9489_ => ?_)
                    clear h9487_ a9486_
                    refine WH.skip 35 (listed' := #[true, true, true, true, true, true, true, true, true, true, true, true, true, true, true, true, true, true, true, true, true, true, true, true, true, true, true, true, true, true, true, true, true, true, true, true, false, false, false, false, false, false, false, false, false, false]) h9489_ rfl rfl (by kernel_rfl) rfl rfl ⟨(fun _ _ hk_ => (hS9146_.bring 1 rfl rfl).pool.kn hk_), (fun _ _ hk_ => (hS9146_).pool.kn hk_), trivial⟩ (fun _ _ _ h_ => h_) (fun a9490_ h9491_ => ?_)
                    clear h9489_ a9488_
                    refine WH.take 36 (listed' := #[true, true, true, true, true, true, true, true, true, true, true, true, true, true, true, true, true, true, true, true, true, true, true, true, true, true, true, true, true, true, true, true, true, true, true, true, true, false, false, false, false, false, false, false, false, false]) h9491_ rfl rfl (by kernel_rfl) rfl rfl (.bool false) (fun _ _ => by kernel_rfl) ⟨(fun _ _ hk_ => (hS9146_.bring 1 rfl rfl).pool.kn hk_), (fun _ _ hk_ => (hS9146_).pool.kn hk_), trivial⟩ (fun _ _ _ h_ => h_) (fun a9492_ h9493_ => ?_)
                    clear h9491_ a9490_
                    refine WH.take 37 (listed' := #[true, true, true, true, true, true, true, true, true, true, true, true, true, true, true, true, true, true, true, true, true, true, true, true, true, true, true, true, true, true, true, true, true, true, true, true, true, true, false, false, false, false, false, false, false, false]) h9493_ rfl rfl (by kernel_rfl) rfl rfl (.bool false) (fun _ _ => by kernel_rfl) ⟨(fun _ _ hk_ => (hS9146_.bring 1 rfl rfl).pool.kn hk_), (fun _ _ hk_ => (hS9146_).pool.kn hk_), trivial⟩ (fun _ _ _ h_ => h_) (fun a9494_ h9495_ => ?_)
                    clear h9493_ a9492_
                    refine WH.skip 38 (listed' := #[true, true, true, true, true, true, true, true, true, true, true, true, true, true, true, true, true, true, true, true, true, true, true, true, true, true, true, true, true, true, true, true, true, true, true, true, true, true, true, false, false, false, false, false, false, false]) h9495_ rfl rfl (by kernel_rfl) rfl rfl ⟨(fun _ _ hk_ => (hS9146_.bring 1 rfl rfl).pool.kn hk_), (fun _ _ hk_ => (hS9146_).pool.kn hk_), trivial⟩ (fun _ _ _ h_ => h_) (fun a9496_ h9497_ => ?_)
                    clear h9495_ a9494_
                    refine WH.skip 39 (listed' := #[true, true, true, true, true, true, true, true, true, true, true, true, true, true, true, true, true, true, true, true, true, true, true, true, true, true, true, true, true, true, true, true, true, true, true, true, true, true, true, true, false, false, false, false, false, false]) h9497_ rfl rfl (by kernel_rfl) rfl rfl ⟨(fun _ _ hk_ => (hS9146_.bring 1 rfl rfl).pool.kn hk_), (fun _ _ hk_ => (hS9146_).pool.kn hk_), trivial⟩ (fun _ _ _ h_ => h_) (fun a9498_ h9499_ => ?_)
                    clear h9497_ a9496_
                    refine WH.take 40 (listed' := #[true, true, true, true, true, true, true, true, true, true, true, true, true, true, true, true, true, true, true, true, true, true, true, true, true, true, true, true, true, true, true, true, true, true, true, true, true, true, true, true, true, false, false, false, false, false]) h9499_ rfl rfl (by kernel_rfl) rfl rfl (.bool false) (fun _ _ => by kernel_rfl) ⟨(fun _ _ hk_ => (hS9146_.bring 1 rfl rfl).pool.kn hk_), (fun _ _ hk_ => (hS9146_).pool.kn hk_), trivial⟩ (fun _ _ _ h_ => h_) (fun a9500_ h9501_ => ?_)
                    clear h9499_ a9498_
                    refine WH.take 41 (listed' := #[true, true, true, true, true, true, true, true, true, true, true, true, true, true, true, true, true, true, true, true, true, true, true, true, true, true, true, true, true, true, true, true, true, true, true, true, true, true, true, true, true, true, false, false, false, false]) h9501_ rfl rfl (by kernel_rfl) rfl rfl (.bool false) (fun _ _ => by kernel_rfl) ⟨(fun _ _ hk_ => (hS9146_.bring 1 rfl rfl).pool.kn hk_), (fun _ _ hk_ => (hS9146_).pool.kn hk_), trivial⟩ (fun _ _ _ h_ => h_) (fun a9502_ h9503_ => ?_)
                    clear h9501_ a9500_
                    refine WH.skip 42 (listed' := #[true, true, true, true, true, true, true, true, true, true, true, true, true, true, true, true, true, true, true, true, true, true, true, true, true, true, true, true, true, true, true, true, true, true, true, true, true, true, true, true, true, true, true, false, false, false]) h9503_ rfl rfl (by kernel_rfl) rfl rfl ⟨(fun _ _ hk_ => (hS9146_.bring 1 rfl rfl).pool.kn hk_), (fun _ _ hk_ => (hS9146_).pool.kn hk_), trivial⟩ (fun _ _ _ h_ => h_) (fun a9504_ h9505_ => ?_)
                    clear h9503_ a9502_
                    refine WH.skip 43 (listed' := #[true, true, true, true, true, true, true, true, true, true, true, true, true, true, true, true, true, true, true, true, true, true, true, true, true, true, true, true, true, true, true, true, true, true, true, true, true, true, true, true, true, true, true, true, false, false]) h9505_ rfl rfl (by kernel_rfl) rfl rfl ⟨(fun _ _ hk_ => (hS9146_.bring 1 rfl rfl).pool.kn hk_), (fun _ _ hk_ => (hS9146_).pool.kn hk_), trivial⟩ (fun _ _ _ h_ => h_) (fun a9506_ h9507_ => ?_)
                    clear h9505_ a9504_
                    refine WH.take 44 (listed' := #[true, true, true, true, true, true, true, true, true, true, true, true, true, true, true, true, true, true, true, true, true, true, true, true, true, true, true, true, true, true, true, true, true, true, true, true, true, true, true, true, true, true, true, true, true, false]) h9507_ rfl rfl (by kernel_rfl) rfl rfl (.bool false) (fun _ _ => by kernel_rfl) ⟨(fun _ _ hk_ => (hS9146_.bring 1 rfl rfl).pool.kn hk_), (fun _ _ hk_ => (hS9146_).pool.kn hk_), trivial⟩ (fun _ _ _ h_ => h_) (fun a9508_ h9509_ => ?_)
                    clear h9507_ a9506_
                    refine WH.take 45 (listed' := #[true, true, true, true, true, true, true, true, true, true, true, true, true, true, true, true, true, true, true, true, true, true, true, true, true, true, true, true, true, true, true, true, true, true, true, true, true, true, true, true, true, true, true, true, true, true]) h9509_ rfl rfl (by kernel_rfl) rfl rfl (.bool false) (fun _ _ => by kernel_rfl) ⟨(fun _ _ hk_ => (hS9146_.bring 1 rfl rfl).pool.kn hk_), (fun _ _ hk_ => (hS9146_).pool.kn hk_), trivial⟩ (fun _ _ _ h_ => h_) (fun a9510_ h9511_ => ?_)
                    clear h9509_ a9508_
                    refine WH.done (by kernel_rfl) ?_
                    refine wp_ret ?_
                    have hS9512_ : St b w0 W9141_ R (M8076_ :: Fs) := hS9146_.drop_
                    have hS9513_ : St b w0 W9141_ R (Fs) := hS9512_.drop_
                    obtain rfl := Option.some.inj H
                    repeat (first | refine then_ret ?_ | refine inBlock_ret ?_ | refine inBlock_go ?_)
                    refine body_ret (v := .bool false) h9511_ (by kernel_rfl) (by kernel_rfl) ?_
                    exact ⟨rfl, hS9513_⟩
                · rw [if_neg c8383_] at H
                  have hb_ : (decide ((toS (r8069_.drop (1 : Int).toNat)) = (toS (r8085_.drop (1 : Int).toNat)))) = false := decide_eq_false c8383_
                  try rw [hb_] at h8382_
                  clear hb_
                  refine wp_then h8382_ rfl ?_
                  refine wp_seq ?_
                  refine WL.start ?_
                  refine WL.block (c := 1) (m' := 1) h8382_ rfl [(8, .bool false)] (by kernel_rfl) (fun a9514_ h9515_ => ?_)
                  clear h8382_ a8381_
                  refine WL.done (by kernel_rfl) ?_
                  refine wp_ret ?_
                  have hS9516_ : St b w0 W8086_.drew R (M8076_ :: Fs) := hS8296_.drop_
                  have hS9517_ : St b w0 W8086_.drew R (Fs) := hS9516_.drop_
                  obtain rfl := Option.some.inj H
                  repeat (first | refine then_ret ?_ | refine inBlock_ret ?_ | refine inBlock_go ?_)
                  refine body_ret (v := .bool false) h9515_ (by kernel_rfl) (by kernel_rfl) ?_
                  exact ⟨rfl, hS9517_⟩
              · rw [if_neg c8369_] at H
                cases H
            · rw [if_neg c8359_] at H
              cases H
          · rw [if_neg c8354_] at H
            have hb_ : (decide ((r8069_.length : Int) = (r8085_.length : Int))) = false := decide_eq_false c8354_
            try rw [hb_] at h8353_
            clear hb_
            refine WH.skip 11 (listed' := #[true, true, true, true, true, true, true, true, true, true, true, true, false, false, false, false, false, false, false]) h8353_ rfl rfl (by kernel_rfl) rfl rfl ⟨(fun _ _ hk_ => (hS8296_.bring 1 rfl rfl).pool.kn hk_), (fun _ _ hk_ => (hS8296_).pool.kn hk_), trivial⟩ (fun _ _ _ h_ => h_) (fun a9518_ h9519_ => ?_)
            clear h8353_ a8352_
            refine WH.skip 12 (listed' := #[true, true, true, true, true, true, true, true, true, true, true, true, true, false, false, false, false, false, false]) h9519_ rfl rfl (by kernel_rfl) rfl rfl ⟨(fun _ _ hk_ => (hS8296_.bring 1 rfl rfl).pool.kn hk_), (fun _ _ hk_ => (hS8296_).pool.kn hk_), trivial⟩ (fun _ _ _ h_ => h_) (fun a9520_ h9521_ => ?_)
            clear h9519_ a9518_
            refine WH.skip 13 (listed' := #[true, true, true, true, true, true, true, true, true, true, true, true, true, true, false, false, false, false, false]) h9521_ rfl rfl (by kernel_rfl) rfl rfl ⟨(fun _ _ hk_ => (hS8296_.bring 1 rfl rfl).pool.kn hk_), (fun _ _ hk_ => (hS8296_).pool.kn hk_), trivial⟩ (fun _ _ _ h_ => h_) (fun a9522_ h9523_ => ?_)
            clear h9521_ a9520_
            refine WH.skip 14 (listed' := #[true, true, true, true, true, true, true, true, true, true, true, true, true, true, true, false, false, false, false]) h9523_ rfl rfl (by kernel_rfl) rfl rfl ⟨(fun _ _ hk_ => (hS8296_.bring 1 rfl rfl).pool.kn hk_), (fun _ _ hk_ => (hS8296_).pool.kn hk_), trivial⟩ (fun _ _ _ h_ => h_) (fun a9524_ h9525_ => ?_)
            clear h9523_ a9522_
            refine WH.skip 15 (listed' := #[true, true, true, true, true, true, true, true, true, true, true, true, true, true, true, true, false, false, false]) h9525_ rfl rfl (by kernel_rfl) rfl rfl ⟨(fun _ _ hk_ => (hS8296_.bring 1 rfl rfl).pool.kn hk_), (fun _ _ hk_ => (hS8296_).pool.kn hk_), trivial⟩ (fun _ _ _ h_ => h_) (fun a9526_ h9527_ => ?_)
            clear h9525_ a9524_
            refine WH.skip 16 (listed' := #[true, true, true, true, true, true, true, true, true, true, true, true, true, true, true, true, true, false, false]) h9527_ rfl rfl (by kernel_rfl) rfl rfl ⟨(fun _ _ hk_ => (hS8296_.bring 1 rfl rfl).pool.kn hk_), (fun _ _ hk_ => (hS8296_).pool.kn hk_), trivial⟩ (fun _ _ _ h_ => h_) (fun a9528_ h9529_ => ?_)
            clear h9527_ a9526_
            refine WH.skip 17 (listed' := #[true, true, true, true, true, true, true, true, true, true, true, true, true, true, true, true, true, true, false]) h9529_ rfl rfl (by kernel_rfl) rfl rfl ⟨(fun _ _ hk_ => (hS8296_.bring 1 rfl rfl).pool.kn hk_), (fun _ _ hk_ => (hS8296_).pool.kn hk_), trivial⟩ (fun _ _ _ h_ => h_) (fun a9530_ h9531_ => ?_)
            clear h9529_ a9528_
            refine WH.take 18 (listed' := #[true, true, true, true, true, true, true, true, true, true, true, true, true, true, true, true, true, true, true]) h9531_ rfl rfl (by kernel_rfl) rfl rfl (.bool true) (fun _ _ => by kernel_rfl) ⟨(fun _ _ hk_ => (hS8296_.bring 1 rfl rfl).pool.kn hk_), (fun _ _ hk_ => (hS8296_).pool.kn hk_), trivial⟩ (fun _ _ _ h_ => h_) (fun a9532_ h9533_ => ?_)
            clear h9531_ a9530_
            refine WH.done (by kernel_rfl) ?_
            refine wp_then h9533_ rfl ?_
            refine wp_seq ?_
            refine WL.start ?_
            refine WL.block (c := 1) (m' := 1) h9533_ rfl [(8, .bool false)] (by kernel_rfl) (fun a9534_ h9535_ => ?_)
            clear h9533_ a9532_
            refine WL.done (by kernel_rfl) ?_
            refine wp_ret ?_
            have hS9536_ : St b w0 W8086_.drew R (M8076_ :: Fs) := hS8296_.drop_
            have hS9537_ : St b w0 W8086_.drew R (Fs) := hS9536_.drop_
            obtain rfl := Option.some.inj H
            repeat (first | refine then_ret ?_ | refine inBlock_ret ?_ | refine inBlock_go ?_)
            refine body_ret (v := .bool false) h9535_ (by kernel_rfl) (by kernel_rfl) ?_
            exact ⟨rfl, hS9537_⟩
end Go.Proofs.Ytonhiiedhnhanaa.Sl
