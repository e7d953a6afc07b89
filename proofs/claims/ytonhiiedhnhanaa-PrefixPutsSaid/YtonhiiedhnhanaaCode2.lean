/- What the functions of this program compute, told as plain functions, and that the calls come to just that. Printed by this session's program; part 2. -/
import Derived.Test.YtonhiiedhnhanaaCode1
set_option linter.unusedVariables false
set_option linter.unusedSimpArgs false
set_option linter.unnecessarySimpa false
namespace Go.Proofs.Ytonhiiedhnhanaa.Sl
open Go Go.RowKit Go.Proofs.Sl
/-! ### louver/louverlaw02.PrefixNoughts -/
def louverlaw02qPrefixNoughts.l0 : Nat → (List Int) → Int → Int → Int → Int → Option (Bool)
  | 0, _, _, _, _, _ => none
  | k + 1, x6230q, x6235q, p0, p1, p2 => if x6235q < (Int.tmod (IntKind.i64.wrap p2) 6) then (if 0 ≤ (IntKind.i64.wrap ((x6230q.length : Int) - 1)) then (if (IntKind.i64.wrap ((x6230q.length : Int) - 1)) < (x6230q.length : Int) then (lt1 (x6230q.set (IntKind.i64.wrap ((x6230q.length : Int) - 1)).toNat (bOr .u8 (gt (0 : Int) x6230q (IntKind.i64.wrap ((x6230q.length : Int) - 1))) 128) : List Int) fun y6271q => (if y6271q.length + 1 ≤ 140737488355328 then (lt1 (y6271q ++ ([0] : List Int) : List Int) fun y6295q => (louverlaw02qPrefixNoughts.l0 k y6295q (IntKind.i64.wrap (x6235q + 1)) p0 p1 p2)) else (none))) else (none)) else (none)) else (bnd3 (prefix_Get.f k x6230q p0) fun r6307q r6308q r6309q => (if (x6230q.length : Int) > 5 then (bnd1 (louverlaw02qfixed.f k) fun r6323q => (if r6323q = true then (if r6309q = 4 then (some (decide (r6308q = 0))) else (some false)) else (some false))) else (bnd1 (louverlaw02qfixed.f k) fun r6368q => (if r6368q = true then (if r6309q = 0 then (if r6307q = p1 then (some (decide (r6308q = (x6230q.length : Int)))) else (some false)) else (some false)) else (some false)))))
def louverlaw02qPrefixNoughts.f (k : Nat) (p0 : Int) (p1 : Int) (p2 : Int) : Option (Bool) := if p0 < 1 then (bnd1 (louverlaw02qfixed.f k) fun r6139q => (some r6139q)) else (if p0 > 8 then (bnd1 (louverlaw02qfixed.f k) fun r6162q => (some r6162q)) else (if p1 > 268435456 then (bnd1 (louverlaw02qfixed.f k) fun r6179q => (some r6179q)) else (bnd1 (louverref02qPut.f k p0 0 p1) fun r6191q => (if (r6191q.length : Int) < 2 then (bnd1 (louverlaw02qfixed.f k) fun r6210q => (some r6210q)) else (louverlaw02qPrefixNoughts.l0 k r6191q 0 p0 p1 p2)))))
set_option maxHeartbeats 2000000 in
set_option maxRecDepth 100000 in
theorem louverlaw02qPrefixNoughts.calls (k : Nat) {b : Nat} {w0 W : World} {R : Frag} {Fs : List Frag} {p0 : Int} {p1 : Int} {p2 : Int}  {r0q : Bool}  (H : louverlaw02qPrefixNoughts.f k p0 p1 p2 = some r0q) (hS : St b w0 W R (Fs)) :
    Calls Try.prog 6 ([.int .i64 p0, .int .u32 p1, .int .u8 p2] : List Value).toArray W (fun e W' => e = .returned (.bool r0q) ∧ St b w0 W' R (Fs)) := by
  unfold louverlaw02qPrefixNoughts.f at H
  refine calls_enter Try.func6 rfl 83 rfl (by kernel_rfl) (fun a h => ?_)
  refine wp_seq ?_
  refine WL.start ?_
  refine WL.block (c := 1) (m' := 1) h rfl [(6, .bool false)] (by kernel_rfl) (fun a6121q h6122q => ?_)
  refine WL.done (by kernel_rfl) ?_
  refine wp_seq ?_
  refine wp_seq ?_
  refine WL.start ?_
  refine WL.block (c := 3) (m' := 3) h6122q rfl [(14, .bool (decide (p0 < 1))), (13, .bool (decide (p0 < 1))), (12, .int .i64 p0)] (by kernel_rfl) (fun a6123q h6124q => ?_)
  clear h6122q a6121q
  by_cases c6125q : p0 < 1
  · rw [if_pos c6125q] at H
    have hb_ : (decide (p0 < 1)) = true := decide_eq_true c6125q
    try rw [hb_] at h6124q
    clear hb_
    refine WL.skipped (m := 3) h6124q rfl rfl (by kernel_rfl) rfl (fun a6126q h6127q => ?_)
    clear h6124q a6123q
    refine WL.skipped (m := 4) h6127q rfl rfl (by kernel_rfl) rfl (fun a6128q h6129q => ?_)
    clear h6127q a6126q
    refine WL.block (c := 2) (m' := 7) h6129q rfl [(18, .bool true), (17, .bool true)] (by kernel_rfl) (fun a6130q h6131q => ?_)
    clear h6129q a6128q
    refine WL.skipped (m := 7) h6131q rfl rfl (by kernel_rfl) rfl (fun a6132q h6133q => ?_)
    clear h6131q a6130q
    refine WL.skipped (m := 8) h6133q rfl rfl (by kernel_rfl) rfl (fun a6134q h6135q => ?_)
    clear h6133q a6132q
    refine WL.block (c := 1) (m' := 10) h6135q rfl [(21, .bool true)] (by kernel_rfl) (fun a6136q h6137q => ?_)
    clear h6135q a6134q
    refine WL.done (by kernel_rfl) ?_
    refine wp_then h6137q rfl ?_
    refine wp_seq ?_
    refine WL.start ?_
    obtain ⟨r6139q, A6138q, H⟩ := bind1 H
    refine WL.op' (m := 0) h6137q rfl rfl ?_
    refine owp_call [] h6137q rfl (by kernel_rfl) rfl Try.func8 (by kernel_rfl) rfl (by kernel_rfl) (louverlaw02qfixed.calls k  A6138q hS) (fun e6141q W6140q hp6142q => ?_)
    obtain ⟨rfl, hS6145q⟩ := hp6142q
    refine ⟨_, rfl, fun a6143q h6144q => ?_⟩
    clear h6137q a6136q
    refine WL.block (c := 1) (m' := 2) h6144q rfl [(6, .bool r6139q)] (by kernel_rfl) (fun a6146q h6147q => ?_)
    clear h6144q a6143q
    refine WL.done (by kernel_rfl) ?_
    refine wp_ret ?_
    obtain rfl := Option.some.inj H
    repeat (first | refine then_ret ?_ | refine inBlock_ret ?_ | refine inBlock_go ?_)
    refine body_ret (v := .bool r6139q) h6147q (by kernel_rfl) (by kernel_rfl) ?_
    exact ⟨rfl, hS6145q⟩
  · rw [if_neg c6125q] at H
    have hb_ : (decide (p0 < 1)) = false := decide_eq_false c6125q
    try rw [hb_] at h6124q
    clear hb_
    refine WL.op' (m := 3) h6124q rfl rfl (owp_run h6124q rfl (by kernel_rfl) (v := .int .i64 p0) (by kernel_rfl) (fun a6148q h6149q => ?_))
    clear h6124q a6123q
    refine WL.op' (m := 4) h6149q rfl rfl (owp_run h6149q rfl (by kernel_rfl) (v := .bool (decide (p0 > 8))) (by kernel_rfl) (fun a6150q h6151q => ?_))
    clear h6149q a6148q
    refine WL.block (c := 2) (m' := 7) h6151q rfl [(18, .bool (decide (p0 > 8))), (17, .bool (decide (p0 > 8)))] (by kernel_rfl) (fun a6152q h6153q => ?_)
    clear h6151q a6150q
    by_cases c6154q : p0 > 8
    · rw [if_pos c6154q] at H
      have hb_ : (decide (p0 > 8)) = true := decide_eq_true c6154q
      try rw [hb_] at h6153q
      clear hb_
      refine WL.skipped (m := 7) h6153q rfl rfl (by kernel_rfl) rfl (fun a6155q h6156q => ?_)
      clear h6153q a6152q
      refine WL.skipped (m := 8) h6156q rfl rfl (by kernel_rfl) rfl (fun a6157q h6158q => ?_)
      clear h6156q a6155q
      refine WL.block (c := 1) (m' := 10) h6158q rfl [(21, .bool true)] (by kernel_rfl) (fun a6159q h6160q => ?_)
      clear h6158q a6157q
      refine WL.done (by kernel_rfl) ?_
      refine wp_then h6160q rfl ?_
      refine wp_seq ?_
      refine WL.start ?_
      obtain ⟨r6162q, A6161q, H⟩ := bind1 H
      refine WL.op' (m := 0) h6160q rfl rfl ?_
      refine owp_call [] h6160q rfl (by kernel_rfl) rfl Try.func8 (by kernel_rfl) rfl (by kernel_rfl) (louverlaw02qfixed.calls k  A6161q hS) (fun e6164q W6163q hp6165q => ?_)
      obtain ⟨rfl, hS6168q⟩ := hp6165q
      refine ⟨_, rfl, fun a6166q h6167q => ?_⟩
      clear h6160q a6159q
      refine WL.block (c := 1) (m' := 2) h6167q rfl [(6, .bool r6162q)] (by kernel_rfl) (fun a6169q h6170q => ?_)
      clear h6167q a6166q
      refine WL.done (by kernel_rfl) ?_
      refine wp_ret ?_
      obtain rfl := Option.some.inj H
      repeat (first | refine then_ret ?_ | refine inBlock_ret ?_ | refine inBlock_go ?_)
      refine body_ret (v := .bool r6162q) h6170q (by kernel_rfl) (by kernel_rfl) ?_
      exact ⟨rfl, hS6168q⟩
    · rw [if_neg c6154q] at H
      have hb_ : (decide (p0 > 8)) = false := decide_eq_false c6154q
      try rw [hb_] at h6153q
      clear hb_
      refine WL.op' (m := 7) h6153q rfl rfl (owp_run h6153q rfl (by kernel_rfl) (v := .int .u32 p1) (by kernel_rfl) (fun a6171q h6172q => ?_))
      clear h6153q a6152q
      refine WL.op' (m := 8) h6172q rfl rfl (owp_run h6172q rfl (by kernel_rfl) (v := .bool (decide (p1 > 268435456))) (by kernel_rfl) (fun a6173q h6174q => ?_))
      clear h6172q a6171q
      refine WL.block (c := 1) (m' := 10) h6174q rfl [(21, .bool (decide (p1 > 268435456)))] (by kernel_rfl) (fun a6175q h6176q => ?_)
      clear h6174q a6173q
      refine WL.done (by kernel_rfl) ?_
      by_cases c6177q : p1 > 268435456
      · rw [if_pos c6177q] at H
        have hb_ : (decide (p1 > 268435456)) = true := decide_eq_true c6177q
        try rw [hb_] at h6176q
        clear hb_
        refine wp_then h6176q rfl ?_
        refine wp_seq ?_
        refine WL.start ?_
        obtain ⟨r6179q, A6178q, H⟩ := bind1 H
        refine WL.op' (m := 0) h6176q rfl rfl ?_
        refine owp_call [] h6176q rfl (by kernel_rfl) rfl Try.func8 (by kernel_rfl) rfl (by kernel_rfl) (louverlaw02qfixed.calls k  A6178q hS) (fun e6181q W6180q hp6182q => ?_)
        obtain ⟨rfl, hS6185q⟩ := hp6182q
        refine ⟨_, rfl, fun a6183q h6184q => ?_⟩
        clear h6176q a6175q
        refine WL.block (c := 1) (m' := 2) h6184q rfl [(6, .bool r6179q)] (by kernel_rfl) (fun a6186q h6187q => ?_)
        clear h6184q a6183q
        refine WL.done (by kernel_rfl) ?_
        refine wp_ret ?_
        obtain rfl := Option.some.inj H
        repeat (first | refine then_ret ?_ | refine inBlock_ret ?_ | refine inBlock_go ?_)
        refine body_ret (v := .bool r6179q) h6187q (by kernel_rfl) (by kernel_rfl) ?_
        exact ⟨rfl, hS6185q⟩
      · rw [if_neg c6177q] at H
        have hb_ : (decide (p1 > 268435456)) = false := decide_eq_false c6177q
        try rw [hb_] at h6176q
        clear hb_
        refine wp_else h6176q rfl ?_
        refine wp_skip ?_
        refine wp_seq ?_
        refine WL.start ?_
        refine WL.block (c := 2) (m' := 2) h6176q rfl [(24, .int .u32 p1), (23, .int .i64 p0)] (by kernel_rfl) (fun a6188q h6189q => ?_)
        clear h6176q a6175q
        obtain ⟨r6191q, A6190q, H⟩ := bind1 H
        refine WL.op' (m := 2) h6189q rfl rfl ?_
        refine owp_call [.int .i64 p0, .int .u8 0, .int .u32 p1] h6189q rfl (by kernel_rfl) rfl Try.func11 (by kernel_rfl) rfl (by kernel_rfl) (louverref02qPut.calls k  A6190q hS) (fun e6193q W6192q hp6194q => ?_)
        obtain ⟨v6197q, M6198q, rfl, hr6199q, hS6201q⟩ := hp6194q
        refine ⟨_, rfl, fun a6195q h6196q => ?_⟩
        clear h6189q a6188q
        obtain ⟨A6202q, c6203q, rfl⟩ := hr6199q.form
        refine WL.block (c := 1) (m' := 4) h6196q rfl [(7, .slice A6202q r6191q.length c6203q)] (by kernel_rfl) (fun a6204q h6205q => ?_)
        clear h6196q a6195q
        refine WL.done (by kernel_rfl) ?_
        refine wp_seq ?_
        refine wp_seq ?_
        refine WL.start ?_
        refine WL.block (c := 3) (m' := 3) h6205q rfl [(28, .bool (decide ((r6191q.length : Int) < 2))), (27, .int .i64 (r6191q.length : Int)), (26, .slice A6202q r6191q.length c6203q)] (by kernel_rfl) (fun a6206q h6207q => ?_)
        clear h6205q a6204q
        refine WL.done (by kernel_rfl) ?_
        by_cases c6208q : (r6191q.length : Int) < 2
        · rw [if_pos c6208q] at H
          have hb_ : (decide ((r6191q.length : Int) < 2)) = true := decide_eq_true c6208q
          try rw [hb_] at h6207q
          clear hb_
          refine wp_then h6207q rfl ?_
          refine wp_seq ?_
          refine WL.start ?_
          obtain ⟨r6210q, A6209q, H⟩ := bind1 H
          refine WL.op' (m := 0) h6207q rfl rfl ?_
          refine owp_call [] h6207q rfl (by kernel_rfl) rfl Try.func8 (by kernel_rfl) rfl (by kernel_rfl) (louverlaw02qfixed.calls k  A6209q hS6201q) (fun e6212q W6211q hp6213q => ?_)
          obtain ⟨rfl, hS6216q⟩ := hp6213q
          refine ⟨_, rfl, fun a6214q h6215q => ?_⟩
          clear h6207q a6206q
          refine WL.block (c := 1) (m' := 2) h6215q rfl [(6, .bool r6210q)] (by kernel_rfl) (fun a6217q h6218q => ?_)
          clear h6215q a6214q
          refine WL.done (by kernel_rfl) ?_
          refine wp_ret ?_
          have hS6219q : St b w0 W6211q R (Fs) := hS6216q.drop_
          obtain rfl := Option.some.inj H
          repeat (first | refine then_ret ?_ | refine inBlock_ret ?_ | refine inBlock_go ?_)
          refine body_ret (v := .bool r6210q) h6218q (by kernel_rfl) (by kernel_rfl) ?_
          exact ⟨rfl, hS6219q⟩
        · rw [if_neg c6208q] at H
          have hb_ : (decide ((r6191q.length : Int) < 2)) = false := decide_eq_false c6208q
          try rw [hb_] at h6207q
          clear hb_
          refine wp_else h6207q rfl ?_
          refine wp_skip ?_
          refine wp_seq ?_
          refine WL.start ?_
          refine WL.block (c := 4) (m' := 4) h6207q rfl [(8, .int .i64 (Int.tmod (IntKind.i64.wrap p2) 6)), (32, .int .i64 (Int.tmod (IntKind.i64.wrap p2) 6)), (31, .int .i64 (IntKind.i64.wrap p2)), (30, .int .u8 p2)] (by kernel_rfl) (fun a6220q h6221q => ?_)
          clear h6207q a6206q
          refine WL.done (by kernel_rfl) ?_
          refine wp_seq ?_
          refine wp_seq ?_
          refine WL.start ?_
          refine WL.block (c := 2) (m' := 2) h6221q rfl [(34, .int .i64 0), (33, .int .i64 (Int.tmod (IntKind.i64.wrap p2) 6))] (by kernel_rfl) (fun a6222q h6223q => ?_)
          clear h6221q a6220q
          refine WL.done (by kernel_rfl) ?_
          refine wp_block ?_
          refine wp_loop_ghost (fun kq_ a_ W_ => ∃ (x6230q : (List Int)), ∃ (A6231q : Option Addr), ∃ (c6232q : Nat), ∃ (M6233q : Frag), ∃ (x6235q : Int), Hd a_ 83 [(0, .int .i64 p0), (1, .int .u32 p1), (7, .slice A6231q x6230q.length c6232q), (33, .int .i64 (Int.tmod (IntKind.i64.wrap p2) 6)), (34, .int .i64 x6235q)] ∧ Asd (louverlaw02qPrefixNoughts.l0 kq_ x6230q x6235q p0 p1 p2 = some r0q) ∧ Asd (kq_ ≤ k) ∧ Asd (St b w0 W_ R (M6233q :: Fs)) ∧ Asd (Row (kInt .u8) 5 b w0 R (.slice A6231q x6230q.length c6232q) x6230q M6233q)) k ⟨r6191q, A6202q, c6203q, M6198q, 0, h6223q.keep ⟨rfl, rfl, rfl, rfl, rfl, trivial⟩, ⟨H⟩, ⟨Nat.le_refl _⟩, ⟨hS6201q⟩, ⟨hr6199q⟩⟩ ?_
          clear H hS6201q
          rintro k6228q a6225q W6226q ⟨x6230q, A6231q, c6232q, M6233q, x6235q, h6224q, ⟨H⟩, ⟨hkk6228q⟩, ⟨hS6227q⟩, ⟨hr6234q⟩⟩
          obtain _ | k6236q := k6228q
          · exact absurd H (by simp [louverlaw02qPrefixNoughts.l0])
          simp only [louverlaw02qPrefixNoughts.l0] at H
          refine wp_seq ?_
          refine WL.start ?_
          refine WL.block (c := 1) (m' := 1) h6224q rfl [(35, .bool (decide (x6235q < (Int.tmod (IntKind.i64.wrap p2) 6))))] (by kernel_rfl) (fun a6237q h6238q => ?_)
          clear h6224q a6225q
          refine WL.done (by kernel_rfl) ?_
          refine wp_seq ?_
          by_cases c6239q : x6235q < (Int.tmod (IntKind.i64.wrap p2) 6)
          · rw [if_pos c6239q] at H
            have hb_ : (decide (x6235q < (Int.tmod (IntKind.i64.wrap p2) 6))) = true := decide_eq_true c6239q
            try rw [hb_] at h6238q
            clear hb_
            refine wp_then h6238q rfl ?_
            refine wp_skip ?_
            refine wp_seq ?_
            refine wp_block ?_
            refine wp_seq ?_
            refine WL.start ?_
            refine WL.block (c := 4) (m' := 4) h6238q rfl [(39, .int .i64 (IntKind.i64.wrap ((x6230q.length : Int) - 1))), (38, .int .i64 (x6230q.length : Int)), (37, .slice A6231q x6230q.length c6232q), (36, .slice A6231q x6230q.length c6232q)] (by kernel_rfl) (fun a6240q h6241q => ?_)
            clear h6238q a6237q
            by_cases c6242q : 0 ≤ (IntKind.i64.wrap ((x6230q.length : Int) - 1))
            · rw [if_pos c6242q] at H
              by_cases c6243q : (IntKind.i64.wrap ((x6230q.length : Int) - 1)) < (x6230q.length : Int)
              · rw [if_pos c6243q] at H
                have hi6246q : 0 ≤ IntKind.i64.wrap ((x6230q.length : Int) - 1) := by first | assumption | omega
                have hi6247q : (IntKind.i64.wrap ((x6230q.length : Int) - 1)) < (x6230q.length : Int) := by first | assumption | omega
                obtain ⟨ad6244q, _, ha6245q, -, -⟩ := Rds.elemAny hr6234q.rds hi6246q (gt_get (z := (0 : Int)) hi6246q hi6247q)
                refine WL.op' (m := 4) h6241q rfl rfl ?_
                refine owp_run (v := .pointer (some (ad6244q.add ((IntKind.i64.wrap ((x6230q.length : Int) - 1)).toNat * 1)))) h6241q rfl (by kernel_rfl) (run_idx (ad := ad6244q) (sz := 1) rfl (by rw [← ha6245q]; rfl) rfl Try.underlying26 (by kernel_rfl) hi6246q hi6247q) (fun a6248q h6249q => ?_)
                clear h6241q a6240q
                obtain ⟨ad6250q, cs6251q, ha6252q, hr6254q, hc6253q⟩ := Rds.elemAny hr6234q.rds hi6246q (gt_get (z := (0 : Int)) hi6246q hi6247q)
                rw [ha6245q] at ha6252q; obtain rfl := Option.some.inj ha6252q
                obtain rfl : cs6251q = [.int .u8 (gt (0 : Int) x6230q (IntKind.i64.wrap ((x6230q.length : Int) - 1)))] := hr6254q
                refine WL.op' (m := 5) h6249q rfl rfl ?_
                refine owp_run (v := .int .u8 (gt (0 : Int) x6230q (IntKind.i64.wrap ((x6230q.length : Int) - 1)))) h6249q rfl (by kernel_rfl) (run_load1 rfl rfl Try.underlying5 rfl (cell0 (hc6253q _ (fun _ _ hk_ => (hS6227q).pool.kn hk_)))) (fun a6255q h6256q => ?_)
                clear h6249q a6248q
                refine WL.block (c := 1) (m' := 7) h6256q rfl [(42, .int .u8 (bOr .u8 (gt (0 : Int) x6230q (IntKind.i64.wrap ((x6230q.length : Int) - 1))) 128))] (by kernel_rfl) (fun a6257q h6258q => ?_)
                clear h6256q a6255q
                have hi6261q : 0 ≤ IntKind.i64.wrap ((x6230q.length : Int) - 1) := by first | assumption | omega
                have hi6262q : (IntKind.i64.wrap ((x6230q.length : Int) - 1)) < (x6230q.length : Int) := by first | assumption | omega
                obtain ⟨ad6259q, _, ha6260q, -, -⟩ := Rds.elemAny hr6234q.rds hi6261q (gt_get (z := (0 : Int)) hi6261q hi6262q)
                refine WL.op' (m := 7) h6258q rfl rfl ?_
                refine owp_run (v := .pointer (some (ad6259q.add ((IntKind.i64.wrap ((x6230q.length : Int) - 1)).toNat * 1)))) h6258q rfl (by kernel_rfl) (run_idx (ad := ad6259q) (sz := 1) rfl (by rw [← ha6260q]; rfl) rfl Try.underlying26 (by kernel_rfl) hi6261q hi6262q) (fun a6263q h6264q => ?_)
                clear h6258q a6257q
                refine WL.op' (m := 8) h6264q rfl rfl ?_
                refine owp_setelem (j := 0) (vs := [.int .u8 (bOr .u8 (gt (0 : Int) x6230q (IntKind.i64.wrap ((x6230q.length : Int) - 1))) 128)]) (x' := bOr .u8 (gt (0 : Int) x6230q (IntKind.i64.wrap ((x6230q.length : Int) - 1))) 128) h6264q rfl (by kernel_rfl) rfl rfl rfl rfl (by simp [Value.oneCell']) (by kernel_rfl) ha6260q hr6234q hS6227q hi6261q (gt_get (z := (0 : Int)) hi6261q hi6262q) (Nat.le_refl _) (by rintro _ _ ⟨rfl, rfl⟩; exact ⟨rfl, rfl⟩) (fun a6265q W6267q M6268q h6266q hr6269q hS6270q => ?_)
                clear h6264q a6263q
                obtain ⟨y6271q, hy6272q, H⟩ := lete H
                have hl6273q : y6271q.length = x6230q.length := by simp [hy6272q]
                have hr6274q : Row (kInt .u8) 5 b w0 R (.slice A6231q y6271q.length c6232q) y6271q M6268q := by rw [hl6273q]; rw [hy6272q]; exact hr6269q
                have h6275q : Hd a6265q 83 [(0, .int .i64 p0), (1, .int .u32 p1), (7, .slice A6231q y6271q.length c6232q), (33, .int .i64 (Int.tmod (IntKind.i64.wrap p2) 6)), (34, .int .i64 x6235q), (35, .bool true), (36, .slice A6231q y6271q.length c6232q), (37, .slice A6231q y6271q.length c6232q), (38, .int .i64 (x6230q.length : Int)), (39, .int .i64 (IntKind.i64.wrap ((x6230q.length : Int) - 1))), (40, .pointer (some (ad6244q.add ((IntKind.i64.wrap ((x6230q.length : Int) - 1)).toNat * 1)))), (41, .int .u8 (gt (0 : Int) x6230q (IntKind.i64.wrap ((x6230q.length : Int) - 1)))), (42, .int .u8 (bOr .u8 (gt (0 : Int) x6230q (IntKind.i64.wrap ((x6230q.length : Int) - 1))) 128)), (43, .pointer (some (ad6259q.add ((IntKind.i64.wrap ((x6230q.length : Int) - 1)).toNat * 1))))] := h6266q.keep ⟨rfl, rfl, (by rw [hl6273q] <;> rfl), rfl, rfl, rfl, (by rw [hl6273q] <;> rfl), (by rw [hl6273q] <;> rfl), rfl, rfl, rfl, rfl, rfl, rfl, trivial⟩
                clear h6266q
                refine WL.done (by kernel_rfl) ?_
                refine WL.start ?_
                refine WL.block (c := 1) (m' := 1) h6275q rfl [(44, .slice A6231q y6271q.length c6232q)] (by kernel_rfl) (fun a6276q h6277q => ?_)
                clear h6275q a6265q
                refine WL.op' (m := 1) h6277q rfl rfl ?_
                refine owp_new (fun g_ => .slice (some ⟨g_, 0, none⟩) 1 1) (.cells ([.int .u8 0] : List Value).toArray 5 (0, 0)) h6277q rfl (by kernel_rfl) (by kernel_rfl) hS6270q (fun a6278q W6280q g6281q h6279q hS6282q => ?_)
                clear h6277q a6276q
                have hr6284q : Row (kInt .u8) 5 b w0 R (.slice (some ⟨g6281q, 0, none⟩) 1 1) ([0] : List Int) [(g6281q, .cells ([.int .u8 0] : List Value).toArray 5 (0, 0))] := Row.lit (xs := ([0] : List Int)) (Mi := []) ⟨_, _, [], _, rfl, rfl, ⟨rfl, rfl⟩, ⟨rfl, rfl⟩⟩ (by simp [maxLen])
                by_cases c6285q : y6271q.length + 1 ≤ 140737488355328
                · rw [if_pos c6285q] at H
                  have hS6286q : St b w0 W6280q R (M6268q :: [(g6281q, .cells ([.int .u8 0] : List Value).toArray 5 (0, 0))] :: Fs) := hS6282q.bring 1 rfl rfl
                  refine WL.op' (m := 2) h6279q rfl rfl ?_
                  refine owp_app_take (z := .int .u8 0) (bytes := 1) (dk := (kInt .u8)) h6279q rfl (by kernel_rfl) rfl rfl rfl hr6274q hr6284q hS6286q Try.underlying26 (by kernel_rfl) rfl (by decide) (by decide) (by first | omega | (simp only [List.length_cons, List.length_nil] at *; omega)) (fun a6287q W6289q v6290q M6291q h6288q hr6292q hS6293q => ?_)
                  clear h6279q a6278q
                  obtain ⟨y6295q, hy6296q, H⟩ := lete H
                  have hr6297q : Row (kInt .u8) 5 b w0 R v6290q y6295q M6291q := by rw [hy6296q]; exact hr6292q
                  clear hr6292q
                  obtain ⟨A6298q, c6299q, rfl⟩ := hr6297q.form
                  refine WL.block (c := 1) (m' := 4) h6288q rfl [(7, .slice A6298q y6295q.length c6299q)] (by kernel_rfl) (fun a6300q h6301q => ?_)
                  clear h6288q a6287q
                  refine WL.done (by kernel_rfl) ?_
                  refine WL.start ?_
                  refine WL.block (c := 2) (m' := 2) h6301q rfl [(34, .int .i64 (IntKind.i64.wrap (x6235q + 1))), (47, .int .i64 (IntKind.i64.wrap (x6235q + 1)))] (by kernel_rfl) (fun a6302q h6303q => ?_)
                  clear h6301q a6300q
                  refine WL.done (by kernel_rfl) ?_
                  exact ⟨k6236q, by omega, y6295q, A6298q, c6299q, M6291q, IntKind.i64.wrap (x6235q + 1), h6303q.keep ⟨rfl, rfl, rfl, rfl, rfl, trivial⟩, ⟨H⟩, ⟨by omega⟩, ⟨hS6293q⟩, ⟨hr6297q⟩⟩
                · rw [if_neg c6285q] at H
                  cases H
              · rw [if_neg c6243q] at H
                cases H
            · rw [if_neg c6242q] at H
              cases H
          · rw [if_neg c6239q] at H
            have hb_ : (decide (x6235q < (Int.tmod (IntKind.i64.wrap p2) 6))) = false := decide_eq_false c6239q
            try rw [hb_] at h6238q
            clear hb_
            refine wp_else h6238q rfl ?_
            refine wp_exit ?_
            refine wp_seq ?_
            refine WL.start ?_
            refine WL.block (c := 2) (m' := 2) h6238q rfl [(50, .int .i64 p0), (49, .slice A6231q x6230q.length c6232q)] (by kernel_rfl) (fun a6304q h6305q => ?_)
            clear h6238q a6237q
            obtain ⟨r6307q, r6308q, r6309q, A6306q, H⟩ := bind3 H
            refine WL.op' (m := 2) h6305q rfl rfl ?_
            refine owp_call [.slice A6231q x6230q.length c6232q, .int .i64 p0] h6305q rfl (by kernel_rfl) rfl Try.func12 (by kernel_rfl) rfl (by kernel_rfl) (prefix_Get.calls k6236q hr6234q.rds A6306q (hS6227q.pool)) (fun e6311q W6310q hp6312q => ?_)
            obtain ⟨rfl, hS6315q⟩ := hp6312q
            have hS6316q : St b w0 W6310q R (M6233q :: Fs) := hS6315q.unpool
            refine ⟨_, rfl, fun a6313q h6314q => ?_⟩
            clear h6305q a6304q
            refine WL.block (c := 7) (m' := 10) h6314q rfl [(11, .int .i64 r6309q), (10, .int .i64 r6308q), (9, .int .u32 r6307q), (54, .int .i64 r6309q), (53, .int .i64 r6308q), (52, .int .u32 r6307q), (48, .tuple #[.int .u32 r6307q, .int .i64 r6308q, .int .i64 r6309q])] (by kernel_rfl) (fun a6317q h6318q => ?_)
            clear h6314q a6313q
            refine WL.done (by kernel_rfl) ?_
            refine wp_seq ?_
            refine wp_seq ?_
            refine WL.start ?_
            refine WL.block (c := 3) (m' := 3) h6318q rfl [(57, .bool (decide ((x6230q.length : Int) > 5))), (56, .int .i64 (x6230q.length : Int)), (55, .slice A6231q x6230q.length c6232q)] (by kernel_rfl) (fun a6319q h6320q => ?_)
            clear h6318q a6317q
            refine WL.done (by kernel_rfl) ?_
            by_cases c6321q : (x6230q.length : Int) > 5
            · rw [if_pos c6321q] at H
              have hb_ : (decide ((x6230q.length : Int) > 5)) = true := decide_eq_true c6321q
              try rw [hb_] at h6320q
              clear hb_
              refine wp_then h6320q rfl ?_
              refine wp_seq ?_
              refine WL.start ?_
              obtain ⟨r6323q, A6322q, H⟩ := bind1 H
              refine WL.op' (m := 0) h6320q rfl rfl ?_
              refine owp_call [] h6320q rfl (by kernel_rfl) rfl Try.func8 (by kernel_rfl) rfl (by kernel_rfl) (louverlaw02qfixed.calls k6236q  A6322q hS6316q) (fun e6325q W6324q hp6326q => ?_)
              obtain ⟨rfl, hS6329q⟩ := hp6326q
              refine ⟨_, rfl, fun a6327q h6328q => ?_⟩
              clear h6320q a6319q
              refine WL.block (c := 1) (m' := 2) h6328q rfl [(59, .bool r6323q)] (by kernel_rfl) (fun a6330q h6331q => ?_)
              clear h6328q a6327q
              by_cases c6332q : r6323q = true
              · rw [if_pos c6332q] at H
                have hb_ : r6323q = true := c6332q
                try rw [hb_] at h6331q
                clear hb_
                refine WL.op' (m := 2) h6331q rfl rfl (owp_run h6331q rfl (by kernel_rfl) (v := .int .i64 r6309q) (by kernel_rfl) (fun a6333q h6334q => ?_))
                clear h6331q a6330q
                refine WL.op' (m := 3) h6334q rfl rfl (owp_run h6334q rfl (by kernel_rfl) (v := .bool (decide (r6309q = 4))) (by kernel_rfl) (fun a6335q h6336q => ?_))
                clear h6334q a6333q
                refine WL.block (c := 2) (m' := 6) h6336q rfl [(63, .bool (decide (r6309q = 4))), (62, .bool (decide (r6309q = 4)))] (by kernel_rfl) (fun a6337q h6338q => ?_)
                clear h6336q a6335q
                by_cases c6339q : r6309q = 4
                · rw [if_pos c6339q] at H
                  have hb_ : (decide (r6309q = 4)) = true := decide_eq_true c6339q
                  try rw [hb_] at h6338q
                  clear hb_
                  refine WL.op' (m := 6) h6338q rfl rfl (owp_run h6338q rfl (by kernel_rfl) (v := .int .i64 r6308q) (by kernel_rfl) (fun a6340q h6341q => ?_))
                  clear h6338q a6337q
                  refine WL.op' (m := 7) h6341q rfl rfl (owp_run h6341q rfl (by kernel_rfl) (v := .bool (decide (r6308q = 0))) (by kernel_rfl) (fun a6342q h6343q => ?_))
                  clear h6341q a6340q
                  refine WL.block (c := 2) (m' := 10) h6343q rfl [(6, .bool (decide (r6308q = 0))), (66, .bool (decide (r6308q = 0)))] (by kernel_rfl) (fun a6344q h6345q => ?_)
                  clear h6343q a6342q
                  refine WL.done (by kernel_rfl) ?_
                  refine wp_ret ?_
                  have hS6346q : St b w0 W6324q R (Fs) := hS6329q.drop_
                  obtain rfl := Option.some.inj H
                  repeat (first | refine then_ret ?_ | refine inBlock_ret ?_ | refine inBlock_go ?_)
                  refine body_ret (v := .bool (decide (r6308q = 0))) h6345q (by kernel_rfl) (by kernel_rfl) ?_
                  exact ⟨rfl, hS6346q⟩
                · rw [if_neg c6339q] at H
                  have hb_ : (decide (r6309q = 4)) = false := decide_eq_false c6339q
                  try rw [hb_] at h6338q
                  clear hb_
                  refine WL.skipped (m := 6) h6338q rfl rfl (by kernel_rfl) rfl (fun a6347q h6348q => ?_)
                  clear h6338q a6337q
                  refine WL.skipped (m := 7) h6348q rfl rfl (by kernel_rfl) rfl (fun a6349q h6350q => ?_)
                  clear h6348q a6347q
                  refine WL.block (c := 2) (m' := 10) h6350q rfl [(6, .bool false), (66, .bool false)] (by kernel_rfl) (fun a6351q h6352q => ?_)
                  clear h6350q a6349q
                  refine WL.done (by kernel_rfl) ?_
                  refine wp_ret ?_
                  have hS6353q : St b w0 W6324q R (Fs) := hS6329q.drop_
                  obtain rfl := Option.some.inj H
                  repeat (first | refine then_ret ?_ | refine inBlock_ret ?_ | refine inBlock_go ?_)
                  refine body_ret (v := .bool false) h6352q (by kernel_rfl) (by kernel_rfl) ?_
                  exact ⟨rfl, hS6353q⟩
              · rw [if_neg c6332q] at H
                have hb_ : r6323q = false := (Bool.eq_false_iff.2 c6332q)
                try rw [hb_] at h6331q
                clear hb_
                refine WL.skipped (m := 2) h6331q rfl rfl (by kernel_rfl) rfl (fun a6354q h6355q => ?_)
                clear h6331q a6330q
                refine WL.skipped (m := 3) h6355q rfl rfl (by kernel_rfl) rfl (fun a6356q h6357q => ?_)
                clear h6355q a6354q
                refine WL.block (c := 2) (m' := 6) h6357q rfl [(63, .bool false), (62, .bool false)] (by kernel_rfl) (fun a6358q h6359q => ?_)
                clear h6357q a6356q
                refine WL.skipped (m := 6) h6359q rfl rfl (by kernel_rfl) rfl (fun a6360q h6361q => ?_)
                clear h6359q a6358q
                refine WL.skipped (m := 7) h6361q rfl rfl (by kernel_rfl) rfl (fun a6362q h6363q => ?_)
                clear h6361q a6360q
                refine WL.block (c := 2) (m' := 10) h6363q rfl [(6, .bool false), (66, .bool false)] (by kernel_rfl) (fun a6364q h6365q => ?_)
                clear h6363q a6362q
                refine WL.done (by kernel_rfl) ?_
                refine wp_ret ?_
                have hS6366q : St b w0 W6324q R (Fs) := hS6329q.drop_
                obtain rfl := Option.some.inj H
                repeat (first | refine then_ret ?_ | refine inBlock_ret ?_ | refine inBlock_go ?_)
                refine body_ret (v := .bool false) h6365q (by kernel_rfl) (by kernel_rfl) ?_
                exact ⟨rfl, hS6366q⟩
            · rw [if_neg c6321q] at H
              have hb_ : (decide ((x6230q.length : Int) > 5)) = false := decide_eq_false c6321q
              try rw [hb_] at h6320q
              clear hb_
              refine wp_else h6320q rfl ?_
              refine wp_skip ?_
              refine wp_seq ?_
              refine WL.start ?_
              obtain ⟨r6368q, A6367q, H⟩ := bind1 H
              refine WL.op' (m := 0) h6320q rfl rfl ?_
              refine owp_call [] h6320q rfl (by kernel_rfl) rfl Try.func8 (by kernel_rfl) rfl (by kernel_rfl) (louverlaw02qfixed.calls k6236q  A6367q hS6316q) (fun e6370q W6369q hp6371q => ?_)
              obtain ⟨rfl, hS6374q⟩ := hp6371q
              refine ⟨_, rfl, fun a6372q h6373q => ?_⟩
              clear h6320q a6319q
              refine WL.block (c := 1) (m' := 2) h6373q rfl [(68, .bool r6368q)] (by kernel_rfl) (fun a6375q h6376q => ?_)
              clear h6373q a6372q
              by_cases c6377q : r6368q = true
              · rw [if_pos c6377q] at H
                have hb_ : r6368q = true := c6377q
                try rw [hb_] at h6376q
                clear hb_
                refine WL.op' (m := 2) h6376q rfl rfl (owp_run h6376q rfl (by kernel_rfl) (v := .int .i64 r6309q) (by kernel_rfl) (fun a6378q h6379q => ?_))
                clear h6376q a6375q
                refine WL.op' (m := 3) h6379q rfl rfl (owp_run h6379q rfl (by kernel_rfl) (v := .bool (decide (r6309q = 0))) (by kernel_rfl) (fun a6380q h6381q => ?_))
                clear h6379q a6378q
                refine WL.block (c := 2) (m' := 6) h6381q rfl [(72, .bool (decide (r6309q = 0))), (71, .bool (decide (r6309q = 0)))] (by kernel_rfl) (fun a6382q h6383q => ?_)
                clear h6381q a6380q
                by_cases c6384q : r6309q = 0
                · rw [if_pos c6384q] at H
                  have hb_ : (decide (r6309q = 0)) = true := decide_eq_true c6384q
                  try rw [hb_] at h6383q
                  clear hb_
                  refine WL.op' (m := 6) h6383q rfl rfl (owp_run h6383q rfl (by kernel_rfl) (v := .int .u32 r6307q) (by kernel_rfl) (fun a6385q h6386q => ?_))
                  clear h6383q a6382q
                  refine WL.op' (m := 7) h6386q rfl rfl (owp_run h6386q rfl (by kernel_rfl) (v := .int .u32 p1) (by kernel_rfl) (fun a6387q h6388q => ?_))
                  clear h6386q a6385q
                  refine WL.op' (m := 8) h6388q rfl rfl (owp_run h6388q rfl (by kernel_rfl) (v := .bool (decide (r6307q = p1))) (by kernel_rfl) (fun a6389q h6390q => ?_))
                  clear h6388q a6387q
                  refine WL.block (c := 2) (m' := 11) h6390q rfl [(77, .bool (decide (r6307q = p1))), (76, .bool (decide (r6307q = p1)))] (by kernel_rfl) (fun a6391q h6392q => ?_)
                  clear h6390q a6389q
                  by_cases c6393q : r6307q = p1
                  · rw [if_pos c6393q] at H
                    have hb_ : (decide (r6307q = p1)) = true := decide_eq_true c6393q
                    try rw [hb_] at h6392q
                    clear hb_
                    refine WL.op' (m := 11) h6392q rfl rfl (owp_run h6392q rfl (by kernel_rfl) (v := .int .i64 r6308q) (by kernel_rfl) (fun a6394q h6395q => ?_))
                    clear h6392q a6391q
                    refine WL.op' (m := 12) h6395q rfl rfl (owp_run h6395q rfl (by kernel_rfl) (v := .slice A6231q x6230q.length c6232q) (by kernel_rfl) (fun a6396q h6397q => ?_))
                    clear h6395q a6394q
                    refine WL.op' (m := 13) h6397q rfl rfl (owp_run h6397q rfl (by kernel_rfl) (v := .int .i64 (x6230q.length : Int)) (by kernel_rfl) (fun a6398q h6399q => ?_))
                    clear h6397q a6396q
                    refine WL.op' (m := 14) h6399q rfl rfl (owp_run h6399q rfl (by kernel_rfl) (v := .bool (decide (r6308q = (x6230q.length : Int)))) (by kernel_rfl) (fun a6400q h6401q => ?_))
                    clear h6399q a6398q
                    refine WL.block (c := 2) (m' := 17) h6401q rfl [(6, .bool (decide (r6308q = (x6230q.length : Int)))), (82, .bool (decide (r6308q = (x6230q.length : Int))))] (by kernel_rfl) (fun a6402q h6403q => ?_)
                    clear h6401q a6400q
                    refine WL.done (by kernel_rfl) ?_
                    refine wp_ret ?_
                    have hS6404q : St b w0 W6369q R (Fs) := hS6374q.drop_
                    obtain rfl := Option.some.inj H
                    repeat (first | refine then_ret ?_ | refine inBlock_ret ?_ | refine inBlock_go ?_)
                    refine body_ret (v := .bool (decide (r6308q = (x6230q.length : Int)))) h6403q (by kernel_rfl) (by kernel_rfl) ?_
                    exact ⟨rfl, hS6404q⟩
                  · rw [if_neg c6393q] at H
                    have hb_ : (decide (r6307q = p1)) = false := decide_eq_false c6393q
                    try rw [hb_] at h6392q
                    clear hb_
                    refine WL.skipped (m := 11) h6392q rfl rfl (by kernel_rfl) rfl (fun a6405q h6406q => ?_)
                    clear h6392q a6391q
                    refine WL.skipped (m := 12) h6406q rfl rfl (by kernel_rfl) rfl (fun a6407q h6408q => ?_)
                    clear h6406q a6405q
                    refine WL.skipped (m := 13) h6408q rfl rfl (by kernel_rfl) rfl (fun a6409q h6410q => ?_)
                    clear h6408q a6407q
                    refine WL.skipped (m := 14) h6410q rfl rfl (by kernel_rfl) rfl (fun a6411q h6412q => ?_)
                    clear h6410q a6409q
                    refine WL.block (c := 2) (m' := 17) h6412q rfl [(6, .bool false), (82, .bool false)] (by kernel_rfl) (fun a6413q h6414q => ?_)
                    clear h6412q a6411q
                    refine WL.done (by kernel_rfl) ?_
                    refine wp_ret ?_
                    have hS6415q : St b w0 W6369q R (Fs) := hS6374q.drop_
                    obtain rfl := Option.some.inj H
                    repeat (first | refine then_ret ?_ | refine inBlock_ret ?_ | refine inBlock_go ?_)
                    refine body_ret (v := .bool false) h6414q (by kernel_rfl) (by kernel_rfl) ?_
                    exact ⟨rfl, hS6415q⟩
                · rw [if_neg c6384q] at H
                  have hb_ : (decide (r6309q = 0)) = false := decide_eq_false c6384q
                  try rw [hb_] at h6383q
                  clear hb_
                  refine WL.skipped (m := 6) h6383q rfl rfl (by kernel_rfl) rfl (fun a6416q h6417q => ?_)
                  clear h6383q a6382q
                  refine WL.skipped (m := 7) h6417q rfl rfl (by kernel_rfl) rfl (fun a6418q h6419q => ?_)
                  clear h6417q a6416q
                  refine WL.skipped (m := 8) h6419q rfl rfl (by kernel_rfl) rfl (fun a6420q h6421q => ?_)
                  clear h6419q a6418q
                  refine WL.block (c := 2) (m' := 11) h6421q rfl [(77, .bool false), (76, .bool false)] (by kernel_rfl) (fun a6422q h6423q => ?_)
                  clear h6421q a6420q
                  refine WL.skipped (m := 11) h6423q rfl rfl (by kernel_rfl) rfl (fun a6424q h6425q => ?_)
                  clear h6423q a6422q
                  refine WL.skipped (m := 12) h6425q rfl rfl (by kernel_rfl) rfl (fun a6426q h6427q => ?_)
                  clear h6425q a6424q
                  refine WL.skipped (m := 13) h6427q rfl rfl (by kernel_rfl) rfl (fun a6428q h6429q => ?_)
                  clear h6427q a6426q
                  refine WL.skipped (m := 14) h6429q rfl rfl (by kernel_rfl) rfl (fun a6430q h6431q => ?_)
                  clear h6429q a6428q
                  refine WL.block (c := 2) (m' := 17) h6431q rfl [(6, .bool false), (82, .bool false)] (by kernel_rfl) (fun a6432q h6433q => ?_)
                  clear h6431q a6430q
                  refine WL.done (by kernel_rfl) ?_
                  refine wp_ret ?_
                  have hS6434q : St b w0 W6369q R (Fs) := hS6374q.drop_
                  obtain rfl := Option.some.inj H
                  repeat (first | refine then_ret ?_ | refine inBlock_ret ?_ | refine inBlock_go ?_)
                  refine body_ret (v := .bool false) h6433q (by kernel_rfl) (by kernel_rfl) ?_
                  exact ⟨rfl, hS6434q⟩
              · rw [if_neg c6377q] at H
                have hb_ : r6368q = false := (Bool.eq_false_iff.2 c6377q)
                try rw [hb_] at h6376q
                clear hb_
                refine WL.skipped (m := 2) h6376q rfl rfl (by kernel_rfl) rfl (fun a6435q h6436q => ?_)
                clear h6376q a6375q
                refine WL.skipped (m := 3) h6436q rfl rfl (by kernel_rfl) rfl (fun a6437q h6438q => ?_)
                clear h6436q a6435q
                refine WL.block (c := 2) (m' := 6) h6438q rfl [(72, .bool false), (71, .bool false)] (by kernel_rfl) (fun a6439q h6440q => ?_)
                clear h6438q a6437q
                refine WL.skipped (m := 6) h6440q rfl rfl (by kernel_rfl) rfl (fun a6441q h6442q => ?_)
                clear h6440q a6439q
                refine WL.skipped (m := 7) h6442q rfl rfl (by kernel_rfl) rfl (fun a6443q h6444q => ?_)
                clear h6442q a6441q
                refine WL.skipped (m := 8) h6444q rfl rfl (by kernel_rfl) rfl (fun a6445q h6446q => ?_)
                clear h6444q a6443q
                refine WL.block (c := 2) (m' := 11) h6446q rfl [(77, .bool false), (76, .bool false)] (by kernel_rfl) (fun a6447q h6448q => ?_)
                clear h6446q a6445q
                refine WL.skipped (m := 11) h6448q rfl rfl (by kernel_rfl) rfl (fun a6449q h6450q => ?_)
                clear h6448q a6447q
                refine WL.skipped (m := 12) h6450q rfl rfl (by kernel_rfl) rfl (fun a6451q h6452q => ?_)
                clear h6450q a6449q
                refine WL.skipped (m := 13) h6452q rfl rfl (by kernel_rfl) rfl (fun a6453q h6454q => ?_)
                clear h6452q a6451q
                refine WL.skipped (m := 14) h6454q rfl rfl (by kernel_rfl) rfl (fun a6455q h6456q => ?_)
                clear h6454q a6453q
                refine WL.block (c := 2) (m' := 17) h6456q rfl [(6, .bool false), (82, .bool false)] (by kernel_rfl) (fun a6457q h6458q => ?_)
                clear h6456q a6455q
                refine WL.done (by kernel_rfl) ?_
                refine wp_ret ?_
                have hS6459q : St b w0 W6369q R (Fs) := hS6374q.drop_
                obtain rfl := Option.some.inj H
                repeat (first | refine then_ret ?_ | refine inBlock_ret ?_ | refine inBlock_go ?_)
                refine body_ret (v := .bool false) h6458q (by kernel_rfl) (by kernel_rfl) ?_
                exact ⟨rfl, hS6459q⟩

/-! ### louver/louverlaw02.PrefixHigh -/
def louverlaw02qPrefixHigh.f (k : Nat) (p0 : Int) (p1 : Int) (p2 : Int) (p3 : Int) : Option (Bool) := if p0 < 1 then (bnd1 (louverlaw02qfixed.f k) fun r8017q => (some r8017q)) else (if p0 > 8 then (bnd1 (louverlaw02qfixed.f k) fun r8040q => (some r8040q)) else (if p3 > 268435456 then (bnd1 (louverlaw02qfixed.f k) fun r8057q => (some r8057q)) else (bnd1 (prefix_Put.f k ([] : List Int) p0 p1 p3) fun r8069q => (bnd1 (prefix_Put.f k ([] : List Int) p0 p2 p3) fun r8085q => (if (r8069q.length : Int) = 0 then (some false) else (if (r8069q.length : Int) = (r8085q.length : Int) then (if 1 ≤ (r8069q.length : Int) then (if 1 ≤ (r8085q.length : Int) then (if (toS (r8069q.drop (1 : Int).toNat)) = (toS (r8085q.drop (1 : Int).toNat)) then (bnd3 (prefix_Get.f k r8069q p0) fun r8388q r8389q r8390q => (bnd3 (prefix_Get.f k r8085q p0) fun r8404q r8405q r8406q => (bnd1 (louverlaw02qfixed.f k) fun r9140q => (if r9140q = true then (if 0 < (r8069q.length : Int) then (if 0 ≤ p0 then (if (shrI .i64 (IntKind.i64.wrap (gt (0 : Int) r8069q (0 : Int))) p0) = (shrI .i64 (IntKind.i64.wrap p1) p0) then (if 0 < (r8085q.length : Int) then (if (shrI .i64 (IntKind.i64.wrap (gt (0 : Int) r8085q (0 : Int))) p0) = (shrI .i64 (IntKind.i64.wrap p2) p0) then (if r8388q = r8404q then (if r8388q = p3 then (if r8390q = 0 then (some (decide (r8406q = 0))) else (some false)) else (some false)) else (some false)) else (some false)) else (none)) else (some false)) else (none)) else (none)) else (some false))))) else (some false)) else (none)) else (none)) else (some false)))))))
set_option maxHeartbeats 2000000 in
set_option maxRecDepth 100000 in
theorem louverlaw02qPrefixHigh.calls (k : Nat) {b : Nat} {w0 W : World} {R : Frag} {Fs : List Frag} {p0 : Int} {p1 : Int} {p2 : Int} {p3 : Int}  {r0q : Bool}  (H : louverlaw02qPrefixHigh.f k p0 p1 p2 p3 = some r0q) (hS : St b w0 W R (Fs)) :
    Calls Try.prog 7 ([.int .i64 p0, .int .u8 p1, .int .u8 p2, .int .u32 p3] : List Value).toArray W (fun e W' => e = .returned (.bool r0q) ∧ St b w0 W' R (Fs)) := by
  unfold louverlaw02qPrefixHigh.f at H
  refine calls_enter Try.func7 rfl 114 rfl (by kernel_rfl) (fun a h => ?_)
  refine wp_seq ?_
  refine WL.start ?_
  refine WL.block (c := 1) (m' := 1) h rfl [(8, .bool false)] (by kernel_rfl) (fun a7999q h8000q => ?_)
  refine WL.done (by kernel_rfl) ?_
  refine wp_seq ?_
  refine wp_seq ?_
  refine WL.start ?_
  refine WL.block (c := 3) (m' := 3) h8000q rfl [(19, .bool (decide (p0 < 1))), (18, .bool (decide (p0 < 1))), (17, .int .i64 p0)] (by kernel_rfl) (fun a8001q h8002q => ?_)
  clear h8000q a7999q
  by_cases c8003q : p0 < 1
  · rw [if_pos c8003q] at H
    have hb_ : (decide (p0 < 1)) = true := decide_eq_true c8003q
    try rw [hb_] at h8002q
    clear hb_
    refine WL.skipped (m := 3) h8002q rfl rfl (by kernel_rfl) rfl (fun a8004q h8005q => ?_)
    clear h8002q a8001q
    refine WL.skipped (m := 4) h8005q rfl rfl (by kernel_rfl) rfl (fun a8006q h8007q => ?_)
    clear h8005q a8004q
    refine WL.block (c := 2) (m' := 7) h8007q rfl [(23, .bool true), (22, .bool true)] (by kernel_rfl) (fun a8008q h8009q => ?_)
    clear h8007q a8006q
    refine WL.skipped (m := 7) h8009q rfl rfl (by kernel_rfl) rfl (fun a8010q h8011q => ?_)
    clear h8009q a8008q
    refine WL.skipped (m := 8) h8011q rfl rfl (by kernel_rfl) rfl (fun a8012q h8013q => ?_)
    clear h8011q a8010q
    refine WL.block (c := 1) (m' := 10) h8013q rfl [(26, .bool true)] (by kernel_rfl) (fun a8014q h8015q => ?_)
    clear h8013q a8012q
    refine WL.done (by kernel_rfl) ?_
    refine wp_then h8015q rfl ?_
    refine wp_seq ?_
    refine WL.start ?_
    obtain ⟨r8017q, A8016q, H⟩ := bind1 H
    refine WL.op' (m := 0) h8015q rfl rfl ?_
    refine owp_call [] h8015q rfl (by kernel_rfl) rfl Try.func8 (by kernel_rfl) rfl (by kernel_rfl) (louverlaw02qfixed.calls k  A8016q hS) (fun e8019q W8018q hp8020q => ?_)
    obtain ⟨rfl, hS8023q⟩ := hp8020q
    refine ⟨_, rfl, fun a8021q h8022q => ?_⟩
    clear h8015q a8014q
    refine WL.block (c := 1) (m' := 2) h8022q rfl [(8, .bool r8017q)] (by kernel_rfl) (fun a8024q h8025q => ?_)
    clear h8022q a8021q
    refine WL.done (by kernel_rfl) ?_
    refine wp_ret ?_
    obtain rfl := Option.some.inj H
    repeat (first | refine then_ret ?_ | refine inBlock_ret ?_ | refine inBlock_go ?_)
    refine body_ret (v := .bool r8017q) h8025q (by kernel_rfl) (by kernel_rfl) ?_
    exact ⟨rfl, hS8023q⟩
  · rw [if_neg c8003q] at H
    have hb_ : (decide (p0 < 1)) = false := decide_eq_false c8003q
    try rw [hb_] at h8002q
    clear hb_
    refine WL.op' (m := 3) h8002q rfl rfl (owp_run h8002q rfl (by kernel_rfl) (v := .int .i64 p0) (by kernel_rfl) (fun a8026q h8027q => ?_))
    clear h8002q a8001q
    refine WL.op' (m := 4) h8027q rfl rfl (owp_run h8027q rfl (by kernel_rfl) (v := .bool (decide (p0 > 8))) (by kernel_rfl) (fun a8028q h8029q => ?_))
    clear h8027q a8026q
    refine WL.block (c := 2) (m' := 7) h8029q rfl [(23, .bool (decide (p0 > 8))), (22, .bool (decide (p0 > 8)))] (by kernel_rfl) (fun a8030q h8031q => ?_)
    clear h8029q a8028q
    by_cases c8032q : p0 > 8
    · rw [if_pos c8032q] at H
      have hb_ : (decide (p0 > 8)) = true := decide_eq_true c8032q
      try rw [hb_] at h8031q
      clear hb_
      refine WL.skipped (m := 7) h8031q rfl rfl (by kernel_rfl) rfl (fun a8033q h8034q => ?_)
      clear h8031q a8030q
      refine WL.skipped (m := 8) h8034q rfl rfl (by kernel_rfl) rfl (fun a8035q h8036q => ?_)
      clear h8034q a8033q
      refine WL.block (c := 1) (m' := 10) h8036q rfl [(26, .bool true)] (by kernel_rfl) (fun a8037q h8038q => ?_)
      clear h8036q a8035q
      refine WL.done (by kernel_rfl) ?_
      refine wp_then h8038q rfl ?_
      refine wp_seq ?_
      refine WL.start ?_
      obtain ⟨r8040q, A8039q, H⟩ := bind1 H
      refine WL.op' (m := 0) h8038q rfl rfl ?_
      refine owp_call [] h8038q rfl (by kernel_rfl) rfl Try.func8 (by kernel_rfl) rfl (by kernel_rfl) (louverlaw02qfixed.calls k  A8039q hS) (fun e8042q W8041q hp8043q => ?_)
      obtain ⟨rfl, hS8046q⟩ := hp8043q
      refine ⟨_, rfl, fun a8044q h8045q => ?_⟩
      clear h8038q a8037q
      refine WL.block (c := 1) (m' := 2) h8045q rfl [(8, .bool r8040q)] (by kernel_rfl) (fun a8047q h8048q => ?_)
      clear h8045q a8044q
      refine WL.done (by kernel_rfl) ?_
      refine wp_ret ?_
      obtain rfl := Option.some.inj H
      repeat (first | refine then_ret ?_ | refine inBlock_ret ?_ | refine inBlock_go ?_)
      refine body_ret (v := .bool r8040q) h8048q (by kernel_rfl) (by kernel_rfl) ?_
      exact ⟨rfl, hS8046q⟩
    · rw [if_neg c8032q] at H
      have hb_ : (decide (p0 > 8)) = false := decide_eq_false c8032q
      try rw [hb_] at h8031q
      clear hb_
      refine WL.op' (m := 7) h8031q rfl rfl (owp_run h8031q rfl (by kernel_rfl) (v := .int .u32 p3) (by kernel_rfl) (fun a8049q h8050q => ?_))
      clear h8031q a8030q
      refine WL.op' (m := 8) h8050q rfl rfl (owp_run h8050q rfl (by kernel_rfl) (v := .bool (decide (p3 > 268435456))) (by kernel_rfl) (fun a8051q h8052q => ?_))
      clear h8050q a8049q
      refine WL.block (c := 1) (m' := 10) h8052q rfl [(26, .bool (decide (p3 > 268435456)))] (by kernel_rfl) (fun a8053q h8054q => ?_)
      clear h8052q a8051q
      refine WL.done (by kernel_rfl) ?_
      by_cases c8055q : p3 > 268435456
      · rw [if_pos c8055q] at H
        have hb_ : (decide (p3 > 268435456)) = true := decide_eq_true c8055q
        try rw [hb_] at h8054q
        clear hb_
        refine wp_then h8054q rfl ?_
        refine wp_seq ?_
        refine WL.start ?_
        obtain ⟨r8057q, A8056q, H⟩ := bind1 H
        refine WL.op' (m := 0) h8054q rfl rfl ?_
        refine owp_call [] h8054q rfl (by kernel_rfl) rfl Try.func8 (by kernel_rfl) rfl (by kernel_rfl) (louverlaw02qfixed.calls k  A8056q hS) (fun e8059q W8058q hp8060q => ?_)
        obtain ⟨rfl, hS8063q⟩ := hp8060q
        refine ⟨_, rfl, fun a8061q h8062q => ?_⟩
        clear h8054q a8053q
        refine WL.block (c := 1) (m' := 2) h8062q rfl [(8, .bool r8057q)] (by kernel_rfl) (fun a8064q h8065q => ?_)
        clear h8062q a8061q
        refine WL.done (by kernel_rfl) ?_
        refine wp_ret ?_
        obtain rfl := Option.some.inj H
        repeat (first | refine then_ret ?_ | refine inBlock_ret ?_ | refine inBlock_go ?_)
        refine body_ret (v := .bool r8057q) h8065q (by kernel_rfl) (by kernel_rfl) ?_
        exact ⟨rfl, hS8063q⟩
      · rw [if_neg c8055q] at H
        have hb_ : (decide (p3 > 268435456)) = false := decide_eq_false c8055q
        try rw [hb_] at h8054q
        clear hb_
        refine wp_else h8054q rfl ?_
        refine wp_skip ?_
        refine wp_seq ?_
        refine WL.start ?_
        refine WL.block (c := 3) (m' := 3) h8054q rfl [(30, .int .u32 p3), (29, .int .u8 p1), (28, .int .i64 p0)] (by kernel_rfl) (fun a8066q h8067q => ?_)
        clear h8054q a8053q
        obtain ⟨r8069q, A8068q, H⟩ := bind1 H
        refine WL.op' (m := 3) h8067q rfl rfl ?_
        refine owp_call [.slice none 0 0, .int .i64 p0, .int .u8 p1, .int .u32 p3] h8067q rfl (by kernel_rfl) rfl Try.func10 (by kernel_rfl) rfl (by kernel_rfl) (prefix_Put.calls k (Rds.nil (dk := (kInt .u8)) (R := R)) A8068q hS) (fun e8071q W8070q hp8072q => ?_)
        obtain ⟨v8075q, M8076q, rfl, hr8077q, hS8079q⟩ := hp8072q
        refine ⟨_, rfl, fun a8073q h8074q => ?_⟩
        clear h8067q a8066q
        obtain ⟨A8080q, c8081q, rfl⟩ := hr8077q.form
        refine WL.block (c := 3) (m' := 7) h8074q rfl [(34, .int .u32 p3), (33, .int .u8 p2), (32, .int .i64 p0)] (by kernel_rfl) (fun a8082q h8083q => ?_)
        clear h8074q a8073q
        obtain ⟨r8085q, A8084q, H⟩ := bind1 H
        refine WL.op' (m := 7) h8083q rfl rfl ?_
        refine owp_call [.slice none 0 0, .int .i64 p0, .int .u8 p2, .int .u32 p3] h8083q rfl (by kernel_rfl) rfl Try.func10 (by kernel_rfl) rfl (by kernel_rfl) (prefix_Put.calls k (Rds.nil (dk := (kInt .u8)) (R := R)) A8084q hS8079q) (fun e8087q W8086q hp8088q => ?_)
        obtain ⟨v8091q, M8092q, rfl, hr8093q, hS8095q⟩ := hp8088q
        refine ⟨_, rfl, fun a8089q h8090q => ?_⟩
        clear h8083q a8082q
        obtain ⟨A8096q, c8097q, rfl⟩ := hr8093q.form
        refine WL.block (c := 2) (m' := 10) h8090q rfl [(10, .slice A8096q r8085q.length c8097q), (9, .slice A8080q r8069q.length c8081q)] (by kernel_rfl) (fun a8098q h8099q => ?_)
        clear h8090q a8089q
        refine WL.done (by kernel_rfl) ?_
        refine wp_seq ?_
        refine wp_seq ?_
        refine WH.start (fun w_ => (∀ a_ u_, Kn b w0 (M8076q ++ R) a_ u_ → w_.cell? a_ = some u_) ∧ (∀ a_ u_, Kn b w0 (M8092q ++ R) a_ u_ → w_.cell? a_ = some u_) ∧ True) (by kernel_rfl) #[false, false, false, false, false, false, false, false, false, false, false, false, false, false, false, false, false, false, false] 19 rfl rfl ?_
        have hS8296q := hS8095q.drew
        refine WH.take 0 (listed' := #[true, false, false, false, false, false, false, false, false, false, false, false, false, false, false, false, false, false, false]) h8099q rfl rfl (by kernel_rfl) rfl rfl (.slice A8080q r8069q.length c8081q) (fun _ _ => by kernel_rfl) ⟨(fun _ _ hk_ => (hS8296q.bring 1 rfl rfl).pool.kn hk_), (fun _ _ hk_ => (hS8296q).pool.kn hk_), trivial⟩ (fun _ _ _ h_ => h_) (fun a8297q h8298q => ?_)
        clear h8099q a8098q
        refine WH.take 1 (listed' := #[true, true, false, false, false, false, false, false, false, false, false, false, false, false, false, false, false, false, false]) h8298q rfl rfl (by kernel_rfl) rfl rfl (.int .i64 (r8069q.length : Int)) (fun _ _ => by kernel_rfl) ⟨(fun _ _ hk_ => (hS8296q.bring 1 rfl rfl).pool.kn hk_), (fun _ _ hk_ => (hS8296q).pool.kn hk_), trivial⟩ (fun _ _ _ h_ => h_) (fun a8299q h8300q => ?_)
        clear h8298q a8297q
        refine WH.take 2 (listed' := #[true, true, true, false, false, false, false, false, false, false, false, false, false, false, false, false, false, false, false]) h8300q rfl rfl (by kernel_rfl) rfl rfl (.bool (decide ((r8069q.length : Int) = 0))) (fun _ _ => by kernel_rfl) ⟨(fun _ _ hk_ => (hS8296q.bring 1 rfl rfl).pool.kn hk_), (fun _ _ hk_ => (hS8296q).pool.kn hk_), trivial⟩ (fun _ _ _ h_ => h_) (fun a8301q h8302q => ?_)
        clear h8300q a8299q
        refine WH.take 3 (listed' := #[true, true, true, true, false, false, false, false, false, false, false, false, false, false, false, false, false, false, false]) h8302q rfl rfl (by kernel_rfl) rfl rfl (.bool (decide ((r8069q.length : Int) = 0))) (fun _ _ => by kernel_rfl) ⟨(fun _ _ hk_ => (hS8296q.bring 1 rfl rfl).pool.kn hk_), (fun _ _ hk_ => (hS8296q).pool.kn hk_), trivial⟩ (fun _ _ _ h_ => h_) (fun a8303q h8304q => ?_)
        clear h8302q a8301q
        by_cases c8305q : (r8069q.length : Int) = 0
        · rw [if_pos c8305q] at H
          have hb_ : (decide ((r8069q.length : Int) = 0)) = true := decide_eq_true c8305q
          try rw [hb_] at h8304q
          clear hb_
          refine WH.skip 4 (listed' := #[true, true, true, true, true, false, false, false, false, false, false, false, false, false, false, false, false, false, false]) h8304q rfl rfl (by kernel_rfl) rfl rfl ⟨(fun _ _ hk_ => (hS8296q.bring 1 rfl rfl).pool.kn hk_), (fun _ _ hk_ => (hS8296q).pool.kn hk_), trivial⟩ (fun _ _ _ h_ => h_) (fun a8306q h8307q => ?_)
          clear h8304q a8303q
          refine WH.skip 5 (listed' := #[true, true, true, true, true, true, false, false, false, false, false, false, false, false, false, false, false, false, false]) h8307q rfl rfl (by kernel_rfl) rfl rfl ⟨(fun _ _ hk_ => (hS8296q.bring 1 rfl rfl).pool.kn hk_), (fun _ _ hk_ => (hS8296q).pool.kn hk_), trivial⟩ (fun _ _ _ h_ => h_) (fun a8308q h8309q => ?_)
          clear h8307q a8306q
          refine WH.skip 6 (listed' := #[true, true, true, true, true, true, true, false, false, false, false, false, false, false, false, false, false, false, false]) h8309q rfl rfl (by kernel_rfl) rfl rfl ⟨(fun _ _ hk_ => (hS8296q.bring 1 rfl rfl).pool.kn hk_), (fun _ _ hk_ => (hS8296q).pool.kn hk_), trivial⟩ (fun _ _ _ h_ => h_) (fun a8310q h8311q => ?_)
          clear h8309q a8308q
          refine WH.skip 7 (listed' := #[true, true, true, true, true, true, true, true, false, false, false, false, false, false, false, false, false, false, false]) h8311q rfl rfl (by kernel_rfl) rfl rfl ⟨(fun _ _ hk_ => (hS8296q.bring 1 rfl rfl).pool.kn hk_), (fun _ _ hk_ => (hS8296q).pool.kn hk_), trivial⟩ (fun _ _ _ h_ => h_) (fun a8312q h8313q => ?_)
          clear h8311q a8310q
          refine WH.skip 8 (listed' := #[true, true, true, true, true, true, true, true, true, false, false, false, false, false, false, false, false, false, false]) h8313q rfl rfl (by kernel_rfl) rfl rfl ⟨(fun _ _ hk_ => (hS8296q.bring 1 rfl rfl).pool.kn hk_), (fun _ _ hk_ => (hS8296q).pool.kn hk_), trivial⟩ (fun _ _ _ h_ => h_) (fun a8314q h8315q => ?_)
          clear h8313q a8312q
          refine WH.take 9 (listed' := #[true, true, true, true, true, true, true, true, true, true, false, false, false, false, false, false, false, false, false]) h8315q rfl rfl (by kernel_rfl) rfl rfl (.bool true) (fun _ _ => by kernel_rfl) ⟨(fun _ _ hk_ => (hS8296q.bring 1 rfl rfl).pool.kn hk_), (fun _ _ hk_ => (hS8296q).pool.kn hk_), trivial⟩ (fun _ _ _ h_ => h_) (fun a8316q h8317q => ?_)
          clear h8315q a8314q
          refine WH.take 10 (listed' := #[true, true, true, true, true, true, true, true, true, true, true, false, false, false, false, false, false, false, false]) h8317q rfl rfl (by kernel_rfl) rfl rfl (.bool true) (fun _ _ => by kernel_rfl) ⟨(fun _ _ hk_ => (hS8296q.bring 1 rfl rfl).pool.kn hk_), (fun _ _ hk_ => (hS8296q).pool.kn hk_), trivial⟩ (fun _ _ _ h_ => h_) (fun a8318q h8319q => ?_)
          clear h8317q a8316q
          refine WH.skip 11 (listed' := #[true, true, true, true, true, true, true, true, true, true, true, true, false, false, false, false, false, false, false]) h8319q rfl rfl (by kernel_rfl) rfl rfl ⟨(fun _ _ hk_ => (hS8296q.bring 1 rfl rfl).pool.kn hk_), (fun _ _ hk_ => (hS8296q).pool.kn hk_), trivial⟩ (fun _ _ _ h_ => h_) (fun a8320q h8321q => ?_)
          clear h8319q a8318q
          refine WH.skip 12 (listed' := #[true, true, true, true, true, true, true, true, true, true, true, true, true, false, false, false, false, false, false]) h8321q rfl rfl (by kernel_rfl) rfl rfl ⟨(fun _ _ hk_ => (hS8296q.bring 1 rfl rfl).pool.kn hk_), (fun _ _ hk_ => (hS8296q).pool.kn hk_), trivial⟩ (fun _ _ _ h_ => h_) (fun a8322q h8323q => ?_)
          clear h8321q a8320q
          refine WH.skip 13 (listed' := #[true, true, true, true, true, true, true, true, true, true, true, true, true, true, false, false, false, false, false]) h8323q rfl rfl (by kernel_rfl) rfl rfl ⟨(fun _ _ hk_ => (hS8296q.bring 1 rfl rfl).pool.kn hk_), (fun _ _ hk_ => (hS8296q).pool.kn hk_), trivial⟩ (fun _ _ _ h_ => h_) (fun a8324q h8325q => ?_)
          clear h8323q a8322q
          refine WH.skip 14 (listed' := #[true, true, true, true, true, true, true, true, true, true, true, true, true, true, true, false, false, false, false]) h8325q rfl rfl (by kernel_rfl) rfl rfl ⟨(fun _ _ hk_ => (hS8296q.bring 1 rfl rfl).pool.kn hk_), (fun _ _ hk_ => (hS8296q).pool.kn hk_), trivial⟩ (fun _ _ _ h_ => h_) (fun a8326q h8327q => ?_)
          clear h8325q a8324q
          refine WH.skip 15 (listed' := #[true, true, true, true, true, true, true, true, true, true, true, true, true, true, true, true, false, false, false]) h8327q rfl rfl (by kernel_rfl) rfl rfl ⟨(fun _ _ hk_ => (hS8296q.bring 1 rfl rfl).pool.kn hk_), (fun _ _ hk_ => (hS8296q).pool.kn hk_), trivial⟩ (fun _ _ _ h_ => h_) (fun a8328q h8329q => ?_)
          clear h8327q a8326q
          refine WH.skip 16 (listed' := #[true, true, true, true, true, true, true, true, true, true, true, true, true, true, true, true, true, false, false]) h8329q rfl rfl (by kernel_rfl) rfl rfl ⟨(fun _ _ hk_ => (hS8296q.bring 1 rfl rfl).pool.kn hk_), (fun _ _ hk_ => (hS8296q).pool.kn hk_), trivial⟩ (fun _ _ _ h_ => h_) (fun a8330q h8331q => ?_)
          clear h8329q a8328q
          refine WH.skip 17 (listed' := #[true, true, true, true, true, true, true, true, true, true, true, true, true, true, true, true, true, true, false]) h8331q rfl rfl (by kernel_rfl) rfl rfl ⟨(fun _ _ hk_ => (hS8296q.bring 1 rfl rfl).pool.kn hk_), (fun _ _ hk_ => (hS8296q).pool.kn hk_), trivial⟩ (fun _ _ _ h_ => h_) (fun a8332q h8333q => ?_)
          clear h8331q a8330q
          refine WH.take 18 (listed' := #[true, true, true, true, true, true, true, true, true, true, true, true, true, true, true, true, true, true, true]) h8333q rfl rfl (by kernel_rfl) rfl rfl (.bool true) (fun _ _ => by kernel_rfl) ⟨(fun _ _ hk_ => (hS8296q.bring 1 rfl rfl).pool.kn hk_), (fun _ _ hk_ => (hS8296q).pool.kn hk_), trivial⟩ (fun _ _ _ h_ => h_) (fun a8334q h8335q => ?_)
          clear h8333q a8332q
          refine WH.done (by kernel_rfl) ?_
          refine wp_then h8335q rfl ?_
          refine wp_seq ?_
          refine WL.start ?_
          refine WL.block (c := 1) (m' := 1) h8335q rfl [(8, .bool false)] (by kernel_rfl) (fun a8336q h8337q => ?_)
          clear h8335q a8334q
          refine WL.done (by kernel_rfl) ?_
          refine wp_ret ?_
          have hS8338q : St b w0 W8086q.drew R (M8076q :: Fs) := hS8296q.drop_
          have hS8339q : St b w0 W8086q.drew R (Fs) := hS8338q.drop_
          obtain rfl := Option.some.inj H
          repeat (first | refine then_ret ?_ | refine inBlock_ret ?_ | refine inBlock_go ?_)
          refine body_ret (v := .bool false) h8337q (by kernel_rfl) (by kernel_rfl) ?_
          exact ⟨rfl, hS8339q⟩
        · rw [if_neg c8305q] at H
          have hb_ : (decide ((r8069q.length : Int) = 0)) = false := decide_eq_false c8305q
          try rw [hb_] at h8304q
          clear hb_
          refine WH.take 4 (listed' := #[true, true, true, true, true, false, false, false, false, false, false, false, false, false, false, false, false, false, false]) h8304q rfl rfl (by kernel_rfl) rfl rfl (.slice A8080q r8069q.length c8081q) (fun _ _ => by kernel_rfl) ⟨(fun _ _ hk_ => (hS8296q.bring 1 rfl rfl).pool.kn hk_), (fun _ _ hk_ => (hS8296q).pool.kn hk_), trivial⟩ (fun _ _ _ h_ => h_) (fun a8340q h8341q => ?_)
          clear h8304q a8303q
          refine WH.take 5 (listed' := #[true, true, true, true, true, true, false, false, false, false, false, false, false, false, false, false, false, false, false]) h8341q rfl rfl (by kernel_rfl) rfl rfl (.int .i64 (r8069q.length : Int)) (fun _ _ => by kernel_rfl) ⟨(fun _ _ hk_ => (hS8296q.bring 1 rfl rfl).pool.kn hk_), (fun _ _ hk_ => (hS8296q).pool.kn hk_), trivial⟩ (fun _ _ _ h_ => h_) (fun a8342q h8343q => ?_)
          clear h8341q a8340q
          refine WH.take 6 (listed' := #[true, true, true, true, true, true, true, false, false, false, false, false, false, false, false, false, false, false, false]) h8343q rfl rfl (by kernel_rfl) rfl rfl (.slice A8096q r8085q.length c8097q) (fun _ _ => by kernel_rfl) ⟨(fun _ _ hk_ => (hS8296q.bring 1 rfl rfl).pool.kn hk_), (fun _ _ hk_ => (hS8296q).pool.kn hk_), trivial⟩ (fun _ _ _ h_ => h_) (fun a8344q h8345q => ?_)
          clear h8343q a8342q
          refine WH.take 7 (listed' := #[true, true, true, true, true, true, true, true, false, false, false, false, false, false, false, false, false, false, false]) h8345q rfl rfl (by kernel_rfl) rfl rfl (.int .i64 (r8085q.length : Int)) (fun _ _ => by kernel_rfl) ⟨(fun _ _ hk_ => (hS8296q.bring 1 rfl rfl).pool.kn hk_), (fun _ _ hk_ => (hS8296q).pool.kn hk_), trivial⟩ (fun _ _ _ h_ => h_) (fun a8346q h8347q => ?_)
          clear h8345q a8344q
          refine WH.take 8 (listed' := #[true, true, true, true, true, true, true, true, true, false, false, false, false, false, false, false, false, false, false]) h8347q rfl rfl (by kernel_rfl) rfl rfl (.bool (!decide ((r8069q.length : Int) = (r8085q.length : Int)))) (fun _ _ => by kernel_rfl) ⟨(fun _ _ hk_ => (hS8296q.bring 1 rfl rfl).pool.kn hk_), (fun _ _ hk_ => (hS8296q).pool.kn hk_), trivial⟩ (fun _ _ _ h_ => h_) (fun a8348q h8349q => ?_)
          clear h8347q a8346q
          refine WH.take 9 (listed' := #[true, true, true, true, true, true, true, true, true, true, false, false, false, false, false, false, false, false, false]) h8349q rfl rfl (by kernel_rfl) rfl rfl (.bool (!decide ((r8069q.length : Int) = (r8085q.length : Int)))) (fun _ _ => by kernel_rfl) ⟨(fun _ _ hk_ => (hS8296q.bring 1 rfl rfl).pool.kn hk_), (fun _ _ hk_ => (hS8296q).pool.kn hk_), trivial⟩ (fun _ _ _ h_ => h_) (fun a8350q h8351q => ?_)
          clear h8349q a8348q
          refine WH.take 10 (listed' := #[true, true, true, true, true, true, true, true, true, true, true, false, false, false, false, false, false, false, false]) h8351q rfl rfl (by kernel_rfl) rfl rfl (.bool (!decide ((r8069q.length : Int) = (r8085q.length : Int)))) (fun _ _ => by kernel_rfl) ⟨(fun _ _ hk_ => (hS8296q.bring 1 rfl rfl).pool.kn hk_), (fun _ _ hk_ => (hS8296q).pool.kn hk_), trivial⟩ (fun _ _ _ h_ => h_) (fun a8352q h8353q => ?_)
          clear h8351q a8350q
          by_cases c8354q : (r8069q.length : Int) = (r8085q.length : Int)
          · rw [if_pos c8354q] at H
            have hb_ : (decide ((r8069q.length : Int) = (r8085q.length : Int))) = true := decide_eq_true c8354q
            try rw [hb_] at h8353q
            clear hb_
            refine WH.take 11 (listed' := #[true, true, true, true, true, true, true, true, true, true, true, true, false, false, false, false, false, false, false]) h8353q rfl rfl (by kernel_rfl) rfl rfl (.slice A8080q r8069q.length c8081q) (fun _ _ => by kernel_rfl) ⟨(fun _ _ hk_ => (hS8296q.bring 1 rfl rfl).pool.kn hk_), (fun _ _ hk_ => (hS8296q).pool.kn hk_), trivial⟩ (fun _ _ _ h_ => h_) (fun a8355q h8356q => ?_)
            clear h8353q a8352q
            refine WH.take 14 (listed' := #[true, true, true, true, true, true, true, true, true, true, true, true, false, false, true, false, false, false, false]) h8356q rfl rfl (by kernel_rfl) rfl rfl (.slice A8096q r8085q.length c8097q) (fun _ _ => by kernel_rfl) ⟨(fun _ _ hk_ => (hS8296q.bring 1 rfl rfl).pool.kn hk_), (fun _ _ hk_ => (hS8296q).pool.kn hk_), trivial⟩ (fun _ _ _ h_ => h_) (fun a8357q h8358q => ?_)
            clear h8356q a8355q
            by_cases c8359q : 1 ≤ (r8069q.length : Int)
            · rw [if_pos c8359q] at H
              refine WH.take 12 (listed' := #[true, true, true, true, true, true, true, true, true, true, true, true, true, false, true, false, false, false, false]) h8358q rfl rfl (by kernel_rfl) rfl rfl (sliced A8080q (1 : Int).toNat (r8069q.length : Int).toNat c8081q 1) (fun w_ hs_ => (run_cut (l := 1) (h := (r8069q.length : Int)) rfl rfl Try.underlying26 (by kernel_rfl) ⟨_, rfl⟩ rfl (by first | assumption | omega) (by first | assumption | omega) (by have q_ := Rds.cap hr8077q.rds; omega) (by have q_ := Rds.cap hr8077q.rds; omega))) ⟨(fun _ _ hk_ => (hS8296q.bring 1 rfl rfl).pool.kn hk_), (fun _ _ hk_ => (hS8296q).pool.kn hk_), trivial⟩ (fun _ _ _ h_ => h_) (fun a8361q h8362q => ?_)
              clear h8358q a8357q
              have hx8360q := Rds.cut hr8077q.rds (l := (1 : Int).toNat) (h := (r8069q.length : Int).toNat) (by omega) (by omega)
              obtain ⟨v8363q, ev8364q⟩ : ∃ y_, y_ = sliced A8080q (1 : Int).toNat (r8069q.length : Int).toNat c8081q 1 := ⟨_, rfl⟩
              have hx_ : Rds (kInt .u8) b w0 (M8076q ++ R) v8363q (r8069q.drop (1 : Int).toNat) := hx8360q.as_ ev8364q.symm (by simp)
              rw [← ev8364q] at h8362q; clear hx8360q
              have hx8360q := hx_; clear hx_
              obtain ⟨A8365q, c8366q, rfl⟩ := hx8360q.form
              refine WH.take 13 (listed' := #[true, true, true, true, true, true, true, true, true, true, true, true, true, true, true, false, false, false, false]) h8362q rfl rfl (by kernel_rfl) rfl rfl (.string (mkS (toS (r8069q.drop (1 : Int).toNat)))) (fun w_ hs_ => (run_tostr rfl rfl hx8360q hs_.1 Try.underlying26 Try.underlying5 Try.underlying9)) ⟨(fun _ _ hk_ => (hS8296q.bring 1 rfl rfl).pool.kn hk_), (fun _ _ hk_ => (hS8296q).pool.kn hk_), trivial⟩ (fun _ _ _ h_ => h_) (fun a8367q h8368q => ?_)
              clear h8362q a8361q
              by_cases c8369q : 1 ≤ (r8085q.length : Int)
              · rw [if_pos c8369q] at H
                refine WH.take 15 (listed' := #[true, true, true, true, true, true, true, true, true, true, true, true, true, true, true, true, false, false, false]) h8368q rfl rfl (by kernel_rfl) rfl rfl (sliced A8096q (1 : Int).toNat (r8085q.length : Int).toNat c8097q 1) (fun w_ hs_ => (run_cut (l := 1) (h := (r8085q.length : Int)) rfl rfl Try.underlying26 (by kernel_rfl) ⟨_, rfl⟩ rfl (by first | assumption | omega) (by first | assumption | omega) (by have q_ := Rds.cap hr8093q.rds; omega) (by have q_ := Rds.cap hr8093q.rds; omega))) ⟨(fun _ _ hk_ => (hS8296q.bring 1 rfl rfl).pool.kn hk_), (fun _ _ hk_ => (hS8296q).pool.kn hk_), trivial⟩ (fun _ _ _ h_ => h_) (fun a8371q h8372q => ?_)
                clear h8368q a8367q
                have hx8370q := Rds.cut hr8093q.rds (l := (1 : Int).toNat) (h := (r8085q.length : Int).toNat) (by omega) (by omega)
                obtain ⟨v8373q, ev8374q⟩ : ∃ y_, y_ = sliced A8096q (1 : Int).toNat (r8085q.length : Int).toNat c8097q 1 := ⟨_, rfl⟩
                have hx_ : Rds (kInt .u8) b w0 (M8092q ++ R) v8373q (r8085q.drop (1 : Int).toNat) := hx8370q.as_ ev8374q.symm (by simp)
                rw [← ev8374q] at h8372q; clear hx8370q
                have hx8370q := hx_; clear hx_
                obtain ⟨A8375q, c8376q, rfl⟩ := hx8370q.form
                refine WH.take 16 (listed' := #[true, true, true, true, true, true, true, true, true, true, true, true, true, true, true, true, true, false, false]) h8372q rfl rfl (by kernel_rfl) rfl rfl (.string (mkS (toS (r8085q.drop (1 : Int).toNat)))) (fun w_ hs_ => (run_tostr rfl rfl hx8370q hs_.2.1 Try.underlying26 Try.underlying5 Try.underlying9)) ⟨(fun _ _ hk_ => (hS8296q.bring 1 rfl rfl).pool.kn hk_), (fun _ _ hk_ => (hS8296q).pool.kn hk_), trivial⟩ (fun _ _ _ h_ => h_) (fun a8377q h8378q => ?_)
                clear h8372q a8371q
                refine WH.take 17 (listed' := #[true, true, true, true, true, true, true, true, true, true, true, true, true, true, true, true, true, true, false]) h8378q rfl rfl (by kernel_rfl) rfl rfl (.bool (!decide ((toS (r8069q.drop (1 : Int).toNat)) = (toS (r8085q.drop (1 : Int).toNat))))) (fun w_ hs_ => (run_strne rfl rfl rfl)) ⟨(fun _ _ hk_ => (hS8296q.bring 1 rfl rfl).pool.kn hk_), (fun _ _ hk_ => (hS8296q).pool.kn hk_), trivial⟩ (fun _ _ _ h_ => h_) (fun a8379q h8380q => ?_)
                clear h8378q a8377q
                refine WH.take 18 (listed' := #[true, true, true, true, true, true, true, true, true, true, true, true, true, true, true, true, true, true, true]) h8380q rfl rfl (by kernel_rfl) rfl rfl (.bool (!decide ((toS (r8069q.drop (1 : Int).toNat)) = (toS (r8085q.drop (1 : Int).toNat))))) (fun _ _ => by kernel_rfl) ⟨(fun _ _ hk_ => (hS8296q.bring 1 rfl rfl).pool.kn hk_), (fun _ _ hk_ => (hS8296q).pool.kn hk_), trivial⟩ (fun _ _ _ h_ => h_) (fun a8381q h8382q => ?_)
                clear h8380q a8379q
                refine WH.done (by kernel_rfl) ?_
                by_cases c8383q : (toS (r8069q.drop (1 : Int).toNat)) = (toS (r8085q.drop (1 : Int).toNat))
                · rw [if_pos c8383q] at H
                  have hb_ : (decide ((toS (r8069q.drop (1 : Int).toNat)) = (toS (r8085q.drop (1 : Int).toNat)))) = true := decide_eq_true c8383q
                  try rw [hb_] at h8382q
                  clear hb_
                  refine wp_else h8382q rfl ?_
                  refine wp_skip ?_
                  refine wp_seq ?_
                  refine WL.start ?_
                  refine WL.block (c := 2) (m' := 2) h8382q rfl [(57, .int .i64 p0), (56, .slice A8080q r8069q.length c8081q)] (by kernel_rfl) (fun a8384q h8385q => ?_)
                  clear h8382q a8381q
                  have hS8386q : St b w0 W8086q.drew R (M8076q :: M8092q :: Fs) := hS8296q.bring 1 rfl rfl
                  obtain ⟨r8388q, r8389q, r8390q, A8387q, H⟩ := bind3 H
                  refine WL.op' (m := 2) h8385q rfl rfl ?_
                  refine owp_call [.slice A8080q r8069q.length c8081q, .int .i64 p0] h8385q rfl (by kernel_rfl) rfl Try.func12 (by kernel_rfl) rfl (by kernel_rfl) (prefix_Get.calls k hr8077q.rds A8387q (hS8386q.pool)) (fun e8392q W8391q hp8393q => ?_)
                  obtain ⟨rfl, hS8396q⟩ := hp8393q
                  have hS8397q : St b w0 W8391q R (M8076q :: M8092q :: Fs) := hS8396q.unpool
                  refine ⟨_, rfl, fun a8394q h8395q => ?_⟩
                  clear h8385q a8384q
                  refine WL.block (c := 7) (m' := 10) h8395q rfl [(13, .int .i64 r8390q), (12, .int .i64 r8389q), (11, .int .u32 r8388q), (61, .int .i64 r8390q), (60, .int .i64 r8389q), (59, .int .u32 r8388q), (55, .tuple #[.int .u32 r8388q, .int .i64 r8389q, .int .i64 r8390q])] (by kernel_rfl) (fun a8398q h8399q => ?_)
                  clear h8395q a8394q
                  refine WL.done (by kernel_rfl) ?_
                  refine wp_seq ?_
                  refine WL.start ?_
                  refine WL.block (c := 2) (m' := 2) h8399q rfl [(64, .int .i64 p0), (63, .slice A8096q r8085q.length c8097q)] (by kernel_rfl) (fun a8400q h8401q => ?_)
                  clear h8399q a8398q
                  have hS8402q : St b w0 W8391q R (M8092q :: M8076q :: Fs) := hS8397q.bring 1 rfl rfl
                  obtain ⟨r8404q, r8405q, r8406q, A8403q, H⟩ := bind3 H
                  refine WL.op' (m := 2) h8401q rfl rfl ?_
                  refine owp_call [.slice A8096q r8085q.length c8097q, .int .i64 p0] h8401q rfl (by kernel_rfl) rfl Try.func12 (by kernel_rfl) rfl (by kernel_rfl) (prefix_Get.calls k hr8093q.rds A8403q (hS8402q.pool)) (fun e8408q W8407q hp8409q => ?_)
                  obtain ⟨rfl, hS8412q⟩ := hp8409q
                  have hS8413q : St b w0 W8407q R (M8092q :: M8076q :: Fs) := hS8412q.unpool
                  refine ⟨_, rfl, fun a8410q h8411q => ?_⟩
                  clear h8401q a8400q
                  refine WL.block (c := 7) (m' := 10) h8411q rfl [(16, .int .i64 r8406q), (15, .int .i64 r8405q), (14, .int .u32 r8404q), (68, .int .i64 r8406q), (67, .int .i64 r8405q), (66, .int .u32 r8404q), (62, .tuple #[.int .u32 r8404q, .int .i64 r8405q, .int .i64 r8406q])] (by kernel_rfl) (fun a8414q h8415q => ?_)
                  clear h8411q a8410q
                  refine WL.done (by kernel_rfl) ?_
                  refine wp_seq ?_
                  refine WH.start (fun w_ => (∀ a_ u_, Kn b w0 (M8076q ++ R) a_ u_ → w_.cell? a_ = some u_) ∧ (∀ a_ u_, Kn b w0 (M8092q ++ R) a_ u_ → w_.cell? a_ = some u_) ∧ True) (by kernel_rfl) #[false, false, false, false, false, false, false, false, false, false, false, false, false, false, false, false, false, false, false, false, false, false, false, false, false, false, false, false, false, false, false, false, false, false, false, false, false, false, false, false, false, false, false, false, false, false] 46 rfl rfl ?_
                  have hS9138q := hS8413q.drew
                  obtain ⟨r9140q, A9139q, H⟩ := bind1 H
                  refine WH.op 0 (listed' := #[true, false, false, false, false, false, false, false, false, false, false, false, false, false, false, false, false, false, false, false, false, false, false, false, false, false, false, false, false, false, false, false, false, false, false, false, false, false, false, false, false, false, false, false, false, false]) h8415q rfl (by kernel_rfl) rfl rfl ?_
                  refine owp_call [] h8415q rfl (by kernel_rfl) rfl Try.func8 (by kernel_rfl) rfl (by kernel_rfl) (louverlaw02qfixed.calls k  A9139q hS9138q) (fun e9142q W9141q hp9143q => ?_)
                  obtain ⟨rfl, hS9146q⟩ := hp9143q
                  refine ⟨_, rfl, fun a9144q h9145q => ?_⟩
                  clear h8415q a8414q
                  refine ⟨⟨(fun _ _ hk_ => (hS9146q.bring 1 rfl rfl).pool.kn hk_), (fun _ _ hk_ => (hS9146q).pool.kn hk_), trivial⟩, ?_⟩
                  refine WH.take 1 (listed' := #[true, true, false, false, false, false, false, false, false, false, false, false, false, false, false, false, false, false, false, false, false, false, false, false, false, false, false, false, false, false, false, false, false, false, false, false, false, false, false, false, false, false, false, false, false, false]) h9145q rfl rfl (by kernel_rfl) rfl rfl (.bool r9140q) (fun _ _ => by kernel_rfl) ⟨(fun _ _ hk_ => (hS9146q.bring 1 rfl rfl).pool.kn hk_), (fun _ _ hk_ => (hS9146q).pool.kn hk_), trivial⟩ (fun _ _ _ h_ => h_) (fun a9147q h9148q => ?_)
                  clear h9145q a9144q
                  by_cases c9149q : r9140q = true
                  · rw [if_pos c9149q] at H
                    have hb_ : r9140q = true := c9149q
                    try rw [hb_] at h9148q
                    clear hb_
                    refine WH.take 2 (listed' := #[true, true, true, false, false, false, false, false, false, false, false, false, false, false, false, false, false, false, false, false, false, false, false, false, false, false, false, false, false, false, false, false, false, false, false, false, false, false, false, false, false, false, false, false, false, false]) h9148q rfl rfl (by kernel_rfl) rfl rfl (.slice A8080q r8069q.length c8081q) (fun _ _ => by kernel_rfl) ⟨(fun _ _ hk_ => (hS9146q.bring 1 rfl rfl).pool.kn hk_), (fun _ _ hk_ => (hS9146q).pool.kn hk_), trivial⟩ (fun _ _ _ h_ => h_) (fun a9150q h9151q => ?_)
                    clear h9148q a9147q
                    refine WH.take 6 (listed' := #[true, true, true, false, false, false, true, false, false, false, false, false, false, false, false, false, false, false, false, false, false, false, false, false, false, false, false, false, false, false, false, false, false, false, false, false, false, false, false, false, false, false, false, false, false, false]) h9151q rfl rfl (by kernel_rfl) rfl rfl (.int .i64 p0) (fun _ _ => by kernel_rfl) ⟨(fun _ _ hk_ => (hS9146q.bring 1 rfl rfl).pool.kn hk_), (fun _ _ hk_ => (hS9146q).pool.kn hk_), trivial⟩ (fun _ _ _ h_ => h_) (fun a9152q h9153q => ?_)
                    clear h9151q a9150q
                    refine WH.take 8 (listed' := #[true, true, true, false, false, false, true, false, true, false, false, false, false, false, false, false, false, false, false, false, false, false, false, false, false, false, false, false, false, false, false, false, false, false, false, false, false, false, false, false, false, false, false, false, false, false]) h9153q rfl rfl (by kernel_rfl) rfl rfl (.int .u8 p1) (fun _ _ => by kernel_rfl) ⟨(fun _ _ hk_ => (hS9146q.bring 1 rfl rfl).pool.kn hk_), (fun _ _ hk_ => (hS9146q).pool.kn hk_), trivial⟩ (fun _ _ _ h_ => h_) (fun a9154q h9155q => ?_)
                    clear h9153q a9152q
                    refine WH.take 9 (listed' := #[true, true, true, false, false, false, true, false, true, true, false, false, false, false, false, false, false, false, false, false, false, false, false, false, false, false, false, false, false, false, false, false, false, false, false, false, false, false, false, false, false, false, false, false, false, false]) h9155q rfl rfl (by kernel_rfl) rfl rfl (.int .i64 (IntKind.i64.wrap p1)) (fun _ _ => by kernel_rfl) ⟨(fun _ _ hk_ => (hS9146q.bring 1 rfl rfl).pool.kn hk_), (fun _ _ hk_ => (hS9146q).pool.kn hk_), trivial⟩ (fun _ _ _ h_ => h_) (fun a9156q h9157q => ?_)
                    clear h9155q a9154q
                    refine WH.take 10 (listed' := #[true, true, true, false, false, false, true, false, true, true, true, false, false, false, false, false, false, false, false, false, false, false, false, false, false, false, false, false, false, false, false, false, false, false, false, false, false, false, false, false, false, false, false, false, false, false]) h9157q rfl rfl (by kernel_rfl) rfl rfl (.int .i64 p0) (fun _ _ => by kernel_rfl) ⟨(fun _ _ hk_ => (hS9146q.bring 1 rfl rfl).pool.kn hk_), (fun _ _ hk_ => (hS9146q).pool.kn hk_), trivial⟩ (fun _ _ _ h_ => h_) (fun a9158q h9159q => ?_)
                    clear h9157q a9156q
                    by_cases c9160q : 0 < (r8069q.length : Int)
                    · rw [if_pos c9160q] at H
                      have hi9163q : 0 ≤ (0 : Int) := by first | assumption | omega
                      have hi9164q : 0 < (r8069q.length : Int) := by first | assumption | omega
                      obtain ⟨ad9161q, _, ha9162q, -, -⟩ := Rds.elemAny hr8077q.rds hi9163q (gt_get (z := (0 : Int)) hi9163q hi9164q)
                      refine WH.take 3 (listed' := #[true, true, true, true, false, false, true, false, true, true, true, false, false, false, false, false, false, false, false, false, false, false, false, false, false, false, false, false, false, false, false, false, false, false, false, false, false, false, false, false, false, false, false, false, false, false]) h9159q rfl rfl (by kernel_rfl) rfl rfl (.pointer (some (ad9161q.add ((0 : Int).toNat * 1)))) (fun w_ hs_ => (run_idx (ad := ad9161q) (sz := 1) rfl (by rw [← ha9162q]; rfl) rfl Try.underlying26 (by kernel_rfl) hi9163q hi9164q)) ⟨(fun _ _ hk_ => (hS9146q.bring 1 rfl rfl).pool.kn hk_), (fun _ _ hk_ => (hS9146q).pool.kn hk_), trivial⟩ (fun _ _ _ h_ => h_) (fun a9165q h9166q => ?_)
                      clear h9159q a9158q
                      obtain ⟨ad9167q, cs9168q, ha9169q, hr9171q, hc9170q⟩ := Rds.elemAny hr8077q.rds hi9163q (gt_get (z := (0 : Int)) hi9163q hi9164q)
                      rw [ha9162q] at ha9169q; obtain rfl := Option.some.inj ha9169q
                      obtain rfl : cs9168q = [.int .u8 (gt (0 : Int) r8069q (0 : Int))] := hr9171q
                      refine WH.take 4 (listed' := #[true, true, true, true, true, false, true, false, true, true, true, false, false, false, false, false, false, false, false, false, false, false, false, false, false, false, false, false, false, false, false, false, false, false, false, false, false, false, false, false, false, false, false, false, false, false]) h9166q rfl rfl (by kernel_rfl) rfl rfl (.int .u8 (gt (0 : Int) r8069q (0 : Int))) (fun w_ hs_ => (run_load1 rfl rfl Try.underlying5 rfl (cell0 (hc9170q _ hs_.1)))) ⟨(fun _ _ hk_ => (hS9146q.bring 1 rfl rfl).pool.kn hk_), (fun _ _ hk_ => (hS9146q).pool.kn hk_), trivial⟩ (fun _ _ _ h_ => h_) (fun a9172q h9173q => ?_)
                      clear h9166q a9165q
                      refine WH.take 5 (listed' := #[true, true, true, true, true, true, true, false, true, true, true, false, false, false, false, false, false, false, false, false, false, false, false, false, false, false, false, false, false, false, false, false, false, false, false, false, false, false, false, false, false, false, false, false, false, false]) h9173q rfl rfl (by kernel_rfl) rfl rfl (.int .i64 (IntKind.i64.wrap (gt (0 : Int) r8069q (0 : Int)))) (fun _ _ => by kernel_rfl) ⟨(fun _ _ hk_ => (hS9146q.bring 1 rfl rfl).pool.kn hk_), (fun _ _ hk_ => (hS9146q).pool.kn hk_), trivial⟩ (fun _ _ _ h_ => h_) (fun a9174q h9175q => ?_)
                      clear h9173q a9172q
                      by_cases c9176q : 0 ≤ p0
                      · rw [if_pos c9176q] at H
                        refine WH.take 7 (listed' := #[true, true, true, true, true, true, true, true, true, true, true, false, false, false, false, false, false, false, false, false, false, false, false, false, false, false, false, false, false, false, false, false, false, false, false, false, false, false, false, false, false, false, false, false, false, false]) h9175q rfl rfl (by kernel_rfl) rfl rfl (.int .i64 (shrI .i64 (IntKind.i64.wrap (gt (0 : Int) r8069q (0 : Int))) p0)) (fun w_ hs_ => (run_shr rfl rfl rfl (by assumption))) ⟨(fun _ _ hk_ => (hS9146q.bring 1 rfl rfl).pool.kn hk_), (fun _ _ hk_ => (hS9146q).pool.kn hk_), trivial⟩ (fun _ _ _ h_ => h_) (fun a9177q h9178q => ?_)
                        clear h9175q a9174q
                        refine WH.take 11 (listed' := #[true, true, true, true, true, true, true, true, true, true, true, true, false, false, false, false, false, false, false, false, false, false, false, false, false, false, false, false, false, false, false, false, false, false, false, false, false, false, false, false, false, false, false, false, false, false]) h9178q rfl rfl (by kernel_rfl) rfl rfl (.int .i64 (shrI .i64 (IntKind.i64.wrap p1) p0)) (fun w_ hs_ => (run_shr rfl rfl rfl (by assumption))) ⟨(fun _ _ hk_ => (hS9146q.bring 1 rfl rfl).pool.kn hk_), (fun _ _ hk_ => (hS9146q).pool.kn hk_), trivial⟩ (fun _ _ _ h_ => h_) (fun a9179q h9180q => ?_)
                        clear h9178q a9177q
                        refine WH.take 12 (listed' := #[true, true, true, true, true, true, true, true, true, true, true, true, true, false, false, false, false, false, false, false, false, false, false, false, false, false, false, false, false, false, false, false, false, false, false, false, false, false, false, false, false, false, false, false, false, false]) h9180q rfl rfl (by kernel_rfl) rfl rfl (.bool (decide ((shrI .i64 (IntKind.i64.wrap (gt (0 : Int) r8069q (0 : Int))) p0) = (shrI .i64 (IntKind.i64.wrap p1) p0)))) (fun _ _ => by kernel_rfl) ⟨(fun _ _ hk_ => (hS9146q.bring 1 rfl rfl).pool.kn hk_), (fun _ _ hk_ => (hS9146q).pool.kn hk_), trivial⟩ (fun _ _ _ h_ => h_) (fun a9181q h9182q => ?_)
                        clear h9180q a9179q
                        refine WH.take 13 (listed' := #[true, true, true, true, true, true, true, true, true, true, true, true, true, true, false, false, false, false, false, false, false, false, false, false, false, false, false, false, false, false, false, false, false, false, false, false, false, false, false, false, false, false, false, false, false, false]) h9182q rfl rfl (by kernel_rfl) rfl rfl (.bool (decide ((shrI .i64 (IntKind.i64.wrap (gt (0 : Int) r8069q (0 : Int))) p0) = (shrI .i64 (IntKind.i64.wrap p1) p0)))) (fun _ _ => by kernel_rfl) ⟨(fun _ _ hk_ => (hS9146q.bring 1 rfl rfl).pool.kn hk_), (fun _ _ hk_ => (hS9146q).pool.kn hk_), trivial⟩ (fun _ _ _ h_ => h_) (fun a9183q h9184q => ?_)
                        clear h9182q a9181q
                        refine WH.take 14 (listed' := #[true, true, true, true, true, true, true, true, true, true, true, true, true, true, true, false, false, false, false, false, false, false, false, false, false, false, false, false, false, false, false, false, false, false, false, false, false, false, false, false, false, false, false, false, false, false]) h9184q rfl rfl (by kernel_rfl) rfl rfl (.bool (decide ((shrI .i64 (IntKind.i64.wrap (gt (0 : Int) r8069q (0 : Int))) p0) = (shrI .i64 (IntKind.i64.wrap p1) p0)))) (fun _ _ => by kernel_rfl) ⟨(fun _ _ hk_ => (hS9146q.bring 1 rfl rfl).pool.kn hk_), (fun _ _ hk_ => (hS9146q).pool.kn hk_), trivial⟩ (fun _ _ _ h_ => h_) (fun a9185q h9186q => ?_)
                        clear h9184q a9183q
                        by_cases c9187q : (shrI .i64 (IntKind.i64.wrap (gt (0 : Int) r8069q (0 : Int))) p0) = (shrI .i64 (IntKind.i64.wrap p1) p0)
                        · rw [if_pos c9187q] at H
                          have hb_ : (decide ((shrI .i64 (IntKind.i64.wrap (gt (0 : Int) r8069q (0 : Int))) p0) = (shrI .i64 (IntKind.i64.wrap p1) p0))) = true := decide_eq_true c9187q
                          try rw [hb_] at h9186q
                          clear hb_
                          refine WH.take 15 (listed' := #[true, true, true, true, true, true, true, true, true, true, true, true, true, true, true, true, false, false, false, false, false, false, false, false, false, false, false, false, false, false, false, false, false, false, false, false, false, false, false, false, false, false, false, false, false, false]) h9186q rfl rfl (by kernel_rfl) rfl rfl (.slice A8096q r8085q.length c8097q) (fun _ _ => by kernel_rfl) ⟨(fun _ _ hk_ => (hS9146q.bring 1 rfl rfl).pool.kn hk_), (fun _ _ hk_ => (hS9146q).pool.kn hk_), trivial⟩ (fun _ _ _ h_ => h_) (fun a9188q h9189q => ?_)
                          clear h9186q a9185q
                          refine WH.take 19 (listed' := #[true, true, true, true, true, true, true, true, true, true, true, true, true, true, true, true, false, false, false, true, false, false, false, false, false, false, false, false, false, false, false, false, false, false, false, false, false, false, false, false, false, false, false, false, false, false]) h9189q rfl rfl (by kernel_rfl) rfl rfl (.int .i64 p0) (fun _ _ => by kernel_rfl) ⟨(fun _ _ hk_ => (hS9146q.bring 1 rfl rfl).pool.kn hk_), (fun _ _ hk_ => (hS9146q).pool.kn hk_), trivial⟩ (fun _ _ _ h_ => h_) (fun a9190q h9191q => ?_)
                          clear h9189q a9188q
                          refine WH.take 21 (listed' := #[true, true, true, true, true, true, true, true, true, true, true, true, true, true, true, true, false, false, false, true, false, true, false, false, false, false, false, false, false, false, false, false, false, false, false, false, false, false, false, false, false, false, false, false, false, false]) h9191q rfl rfl (by kernel_rfl) rfl rfl (.int .u8 p2) (fun _ _ => by kernel_rfl) ⟨(fun _ _ hk_ => (hS9146q.bring 1 rfl rfl).pool.kn hk_), (fun _ _ hk_ => (hS9146q).pool.kn hk_), trivial⟩ (fun _ _ _ h_ => h_) (fun a9192q h9193q => ?_)
                          clear h9191q a9190q
                          refine WH.take 22 (listed' := #[true, true, true, true, true, true, true, true, true, true, true, true, true, true, true, true, false, false, false, true, false, true, true, false, false, false, false, false, false, false, false, false, false, false, false, false, false, false, false, false, false, false, false, false, false, false]) h9193q rfl rfl (by kernel_rfl) rfl rfl (.int .i64 (IntKind.i64.wrap p2)) (fun _ _ => by kernel_rfl) ⟨(fun _ _ hk_ => (hS9146q.bring 1 rfl rfl).pool.kn hk_), (fun _ _ hk_ => (hS9146q).pool.kn hk_), trivial⟩ (fun _ _ _ h_ => h_) (fun a9194q h9195q => ?_)
                          clear h9193q a9192q
                          refine WH.take 23 (listed' := #[true, true, true, true, true, true, true, true, true, true, true, true, true, true, true, true, false, false, false, true, false, true, true, true, false, false, false, false, false, false, false, false, false, false, false, false, false, false, false, false, false, false, false, false, false, false]) h9195q rfl rfl (by kernel_rfl) rfl rfl (.int .i64 p0) (fun _ _ => by kernel_rfl) ⟨(fun _ _ hk_ => (hS9146q.bring 1 rfl rfl).pool.kn hk_), (fun _ _ hk_ => (hS9146q).pool.kn hk_), trivial⟩ (fun _ _ _ h_ => h_) (fun a9196q h9197q => ?_)
                          clear h9195q a9194q
                          by_cases c9198q : 0 < (r8085q.length : Int)
                          · rw [if_pos c9198q] at H
                            have hi9201q : 0 ≤ (0 : Int) := by first | assumption | omega
                            have hi9202q : 0 < (r8085q.length : Int) := by first | assumption | omega
                            obtain ⟨ad9199q, _, ha9200q, -, -⟩ := Rds.elemAny hr8093q.rds hi9201q (gt_get (z := (0 : Int)) hi9201q hi9202q)
                            refine WH.take 16 (listed' := #[true, true, true, true, true, true, true, true, true, true, true, true, true, true, true, true, true, false, false, true, false, true, true, true, false, false, false, false, false, false, false, false, false, false, false, false, false, false, false, false, false, false, false, false, false, false]) h9197q rfl rfl (by kernel_rfl) rfl rfl (.pointer (some (ad9199q.add ((0 : Int).toNat * 1)))) (fun w_ hs_ => (run_idx (ad := ad9199q) (sz := 1) rfl (by rw [← ha9200q]; rfl) rfl Try.underlying26 (by kernel_rfl) hi9201q hi9202q)) ⟨(fun _ _ hk_ => (hS9146q.bring 1 rfl rfl).pool.kn hk_), (fun _ _ hk_ => (hS9146q).pool.kn hk_), trivial⟩ (fun _ _ _ h_ => h_) (fun a9203q h9204q => ?_)
                            clear h9197q a9196q
                            obtain ⟨ad9205q, cs9206q, ha9207q, hr9209q, hc9208q⟩ := Rds.elemAny hr8093q.rds hi9201q (gt_get (z := (0 : Int)) hi9201q hi9202q)
                            rw [ha9200q] at ha9207q; obtain rfl := Option.some.inj ha9207q
                            obtain rfl : cs9206q = [.int .u8 (gt (0 : Int) r8085q (0 : Int))] := hr9209q
                            refine WH.take 17 (listed' := #[true, true, true, true, true, true, true, true, true, true, true, true, true, true, true, true, true, true, false, true, false, true, true, true, false, false, false, false, false, false, false, false, false, false, false, false, false, false, false, false, false, false, false, false, false, false]) h9204q rfl rfl (by kernel_rfl) rfl rfl (.int .u8 (gt (0 : Int) r8085q (0 : Int))) (fun w_ hs_ => (run_load1 rfl rfl Try.underlying5 rfl (cell0 (hc9208q _ hs_.2.1)))) ⟨(fun _ _ hk_ => (hS9146q.bring 1 rfl rfl).pool.kn hk_), (fun _ _ hk_ => (hS9146q).pool.kn hk_), trivial⟩ (fun _ _ _ h_ => h_) (fun a9210q h9211q => ?_)
                            clear h9204q a9203q
                            refine WH.take 18 (listed' := #[true, true, true, true, true, true, true, true, true, true, true, true, true, true, true, true, true, true, true, true, false, true, true, true, false, false, false, false, false, false, false, false, false, false, false, false, false, false, false, false, false, false, false, false, false, false]) h9211q rfl rfl (by kernel_rfl) rfl rfl (.int .i64 (IntKind.i64.wrap (gt (0 : Int) r8085q (0 : Int)))) (fun _ _ => by kernel_rfl) ⟨(fun _ _ hk_ => (hS9146q.bring 1 rfl rfl).pool.kn hk_), (fun _ _ hk_ => (hS9146q).pool.kn hk_), trivial⟩ (fun _ _ _ h_ => h_) (fun a9212q h9213q => ?_)
                            clear h9211q a9210q
                            refine WH.take 20 (listed' := #[true, true, true, true, true, true, true, true, true, true, true, true, true, true, true, true, true, true, true, true, true, true, true, true, false, false, false, false, false, false, false, false, false, false, false, false, false, false, false, false, false, false, false, false, false, false]) h9213q rfl rfl (by kernel_rfl) rfl rfl (.int .i64 (shrI .i64 (IntKind.i64.wrap (gt (0 : Int) r8085q (0 : Int))) p0)) (fun w_ hs_ => (run_shr rfl rfl rfl (by assumption))) ⟨(fun _ _ hk_ => (hS9146q.bring 1 rfl rfl).pool.kn hk_), (fun _ _ hk_ => (hS9146q).pool.kn hk_), trivial⟩ (fun _ _ _ h_ => h_) (fun a9214q h9215q => ?_)
                            clear h9213q a9212q
                            refine WH.take 24 (listed' := #[true, true, true, true, true, true, true, true, true, true, true, true, true, true, true, true, true, true, true, true, true, true, true, true, true, false, false, false, false, false, false, false, false, false, false, false, false, false, false, false, false, false, false, false, false, false]) h9215q rfl rfl (by kernel_rfl) rfl rfl (.int .i64 (shrI .i64 (IntKind.i64.wrap p2) p0)) (fun w_ hs_ => (run_shr rfl rfl rfl (by assumption))) ⟨(fun _ _ hk_ => (hS9146q.bring 1 rfl rfl).pool.kn hk_), (fun _ _ hk_ => (hS9146q).pool.kn hk_), trivial⟩ (fun _ _ _ h_ => h_) (fun a9216q h9217q => ?_)
                            clear h9215q a9214q
                            refine WH.take 25 (listed' := #[true, true, true, true, true, true, true, true, true, true, true, true, true, true, true, true, true, true, true, true, true, true, true, true, true, true, false, false, false, false, false, false, false, false, false, false, false, false, false, false, false, false, false, false, false, false]) h9217q rfl rfl (by kernel_rfl) rfl rfl (.bool (decide ((shrI .i64 (IntKind.i64.wrap (gt (0 : Int) r8085q (0 : Int))) p0) = (shrI .i64 (IntKind.i64.wrap p2) p0)))) (fun _ _ => by kernel_rfl) ⟨(fun _ _ hk_ => (hS9146q.bring 1 rfl rfl).pool.kn hk_), (fun _ _ hk_ => (hS9146q).pool.kn hk_), trivial⟩ (fun _ _ _ h_ => h_) (fun a9218q h9219q => ?_)
                            clear h9217q a9216q
                            refine WH.take 26 (listed' := #[true, true, true, true, true, true, true, true, true, true, true, true, true, true, true, true, true, true, true, true, true, true, true, true, true, true, true, false, false, false, false, false, false, false, false, false, false, false, false, false, false, false, false, false, false, false]) h9219q rfl rfl (by kernel_rfl) rfl rfl (.bool (decide ((shrI .i64 (IntKind.i64.wrap (gt (0 : Int) r8085q (0 : Int))) p0) = (shrI .i64 (IntKind.i64.wrap p2) p0)))) (fun _ _ => by kernel_rfl) ⟨(fun _ _ hk_ => (hS9146q.bring 1 rfl rfl).pool.kn hk_), (fun _ _ hk_ => (hS9146q).pool.kn hk_), trivial⟩ (fun _ _ _ h_ => h_) (fun a9220q h9221q => ?_)
                            clear h9219q a9218q
                            refine WH.take 27 (listed' := #[true, true, true, true, true, true, true, true, true, true, true, true, true, true, true, true, true, true, true, true, true, true, true, true, true, true, true, true, false, false, false, false, false, false, false, false, false, false, false, false, false, false, false, false, false, false]) h9221q rfl rfl (by kernel_rfl) rfl rfl (.bool (decide ((shrI .i64 (IntKind.i64.wrap (gt (0 : Int) r8085q (0 : Int))) p0) = (shrI .i64 (IntKind.i64.wrap p2) p0)))) (fun _ _ => by kernel_rfl) ⟨(fun _ _ hk_ => (hS9146q.bring 1 rfl rfl).pool.kn hk_), (fun _ _ hk_ => (hS9146q).pool.kn hk_), trivial⟩ (fun _ _ _ h_ => h_) (fun a9222q h9223q => ?_)
                            clear h9221q a9220q
                            by_cases c9224q : (shrI .i64 (IntKind.i64.wrap (gt (0 : Int) r8085q (0 : Int))) p0) = (shrI .i64 (IntKind.i64.wrap p2) p0)
                            · rw [if_pos c9224q] at H
                              have hb_ : (decide ((shrI .i64 (IntKind.i64.wrap (gt (0 : Int) r8085q (0 : Int))) p0) = (shrI .i64 (IntKind.i64.wrap p2) p0))) = true := decide_eq_true c9224q
                              try rw [hb_] at h9223q
                              clear hb_
                              refine WH.take 28 (listed' := #[true, true, true, true, true, true, true, true, true, true, true, true, true, true, true, true, true, true, true, true, true, true, true, true, true, true, true, true, true, false, false, false, false, false, false, false, false, false, false, false, false, false, false, false, false, false]) h9223q rfl rfl (by kernel_rfl) rfl rfl (.int .u32 r8388q) (fun _ _ => by kernel_rfl) ⟨(fun _ _ hk_ => (hS9146q.bring 1 rfl rfl).pool.kn hk_), (fun _ _ hk_ => (hS9146q).pool.kn hk_), trivial⟩ (fun _ _ _ h_ => h_) (fun a9225q h9226q => ?_)
                              clear h9223q a9222q
                              refine WH.take 29 (listed' := #[true, true, true, true, true, true, true, true, true, true, true, true, true, true, true, true, true, true, true, true, true, true, true, true, true, true, true, true, true, true, false, false, false, false, false, false, false, false, false, false, false, false, false, false, false, false]) h9226q rfl rfl (by kernel_rfl) rfl rfl (.int .u32 r8404q) (fun _ _ => by kernel_rfl) ⟨(fun _ _ hk_ => (hS9146q.bring 1 rfl rfl).pool.kn hk_), (fun _ _ hk_ => (hS9146q).pool.kn hk_), trivial⟩ (fun _ _ _ h_ => h_) (fun a9227q h9228q => ?_)
                              clear h9226q a9225q
                              refine WH.take 30 (listed' := #[true, true, true, true, true, true, true, true, true, true, true, true, true, true, true, true, true, true, true, true, true, true, true, true, true, true, true, true, true, true, true, false, false, false, false, false, false, false, false, false, false, false, false, false, false, false]) h9228q rfl rfl (by kernel_rfl) rfl rfl (.bool (decide (r8388q = r8404q))) (fun _ _ => by kernel_rfl) ⟨(fun _ _ hk_ => (hS9146q.bring 1 rfl rfl).pool.kn hk_), (fun _ _ hk_ => (hS9146q).pool.kn hk_), trivial⟩ (fun _ _ _ h_ => h_) (fun a9229q h9230q => ?_)
                              clear h9228q a9227q
                              refine WH.take 31 (listed' := #[true, true, true, true, true, true, true, true, true, true, true, true, true, true, true, true, true, true, true, true, true, true, true, true, true, true, true, true, true, true, true, true, false, false, false, false, false, false, false, false, false, false, false, false, false, false]) h9230q rfl rfl (by kernel_rfl) rfl rfl (.bool (decide (r8388q = r8404q))) (fun _ _ => by kernel_rfl) ⟨(fun _ _ hk_ => (hS9146q.bring 1 rfl rfl).pool.kn hk_), (fun _ _ hk_ => (hS9146q).pool.kn hk_), trivial⟩ (fun _ _ _ h_ => h_) (fun a9231q h9232q => ?_)
                              clear h9230q a9229q
                              refine WH.take 32 (listed' := #[true, true, true, true, true, true, true, true, true, true, true, true, true, true, true, true, true, true, true, true, true, true, true, true, true, true, true, true, true, true, true, true, true, false, false, false, false, false, false, false, false, false, false, false, false, false]) h9232q rfl rfl (by kernel_rfl) rfl rfl (.bool (decide (r8388q = r8404q))) (fun _ _ => by kernel_rfl) ⟨(fun _ _ hk_ => (hS9146q.bring 1 rfl rfl).pool.kn hk_), (fun _ _ hk_ => (hS9146q).pool.kn hk_), trivial⟩ (fun _ _ _ h_ => h_) (fun a9233q h9234q => ?_)
                              clear h9232q a9231q
                              by_cases c9235q : r8388q = r8404q
                              · rw [if_pos c9235q] at H
                                have hb_ : (decide (r8388q = r8404q)) = true := decide_eq_true c9235q
                                try rw [hb_] at h9234q
                                clear hb_
                                refine WH.take 33 (listed' := #[true, true, true, true, true, true, true, true, true, true, true, true, true, true, true, true, true, true, true, true, true, true, true, true, true, true, true, true, true, true, true, true, true, true, false, false, false, false, false, false, false, false, false, false, false, false]) h9234q rfl rfl (by kernel_rfl) rfl rfl (.int .u32 r8388q) (fun _ _ => by kernel_rfl) ⟨(fun _ _ hk_ => (hS9146q.bring 1 rfl rfl).pool.kn hk_), (fun _ _ hk_ => (hS9146q).pool.kn hk_), trivial⟩ (fun _ _ _ h_ => h_) (fun a9236q h9237q => ?_)
                                clear h9234q a9233q
                                refine WH.take 34 (listed' := #[true, true, true, true, true, true, true, true, true, true, true, true, true, true, true, true, true, true, true, true, true, true, true, true, true, true, true, true, true, true, true, true, true, true, true, false, false, false, false, false, false, false, false, false, false, false]) h9237q rfl rfl (by kernel_rfl) rfl rfl (.int .u32 p3) (fun _ _ => by kernel_rfl) ⟨(fun _ _ hk_ => (hS9146q.bring 1 rfl rfl).pool.kn hk_), (fun _ _ hk_ => (hS9146q).pool.kn hk_), trivial⟩ (fun _ _ _ h_ => h_) (fun a9238q h9239q => ?_)
                                clear h9237q a9236q
                                refine WH.take 35 (listed' := #[true, true, true, true, true, true, true, true, true, true, true, true, true, true, true, true, true, true, true, true, true, true, true, true, true, true, true, true, true, true, true, true, true, true, true, true, false, false, false, false, false, false, false, false, false, false]) h9239q rfl rfl (by kernel_rfl) rfl rfl (.bool (decide (r8388q = p3))) (fun _ _ => by kernel_rfl) ⟨(fun _ _ hk_ => (hS9146q.bring 1 rfl rfl).pool.kn hk_), (fun _ _ hk_ => (hS9146q).pool.kn hk_), trivial⟩ (fun _ _ _ h_ => h_) (fun a9240q h9241q => ?_)
                                clear h9239q a9238q
                                refine WH.take 36 (listed' := #[true, true, true, true, true, true, true, true, true, true, true, true, true, true, true, true, true, true, true, true, true, true, true, true, true, true, true, true, true, true, true, true, true, true, true, true, true, false, false, false, false, false, false, false, false, false]) h9241q rfl rfl (by kernel_rfl) rfl rfl (.bool (decide (r8388q = p3))) (fun _ _ => by kernel_rfl) ⟨(fun _ _ hk_ => (hS9146q.bring 1 rfl rfl).pool.kn hk_), (fun _ _ hk_ => (hS9146q).pool.kn hk_), trivial⟩ (fun _ _ _ h_ => h_) (fun a9242q h9243q => ?_)
                                clear h9241q a9240q
                                refine WH.take 37 (listed' := #[true, true, true, true, true, true, true, true, true, true, true, true, true, true, true, true, true, true, true, true, true, true, true, true, true, true, true, true, true, true, true, true, true, true, true, true, true, true, false, false, false, false, false, false, false, false]) h9243q rfl rfl (by kernel_rfl) rfl rfl (.bool (decide (r8388q = p3))) (fun _ _ => by kernel_rfl) ⟨(fun _ _ hk_ => (hS9146q.bring 1 rfl rfl).pool.kn hk_), (fun _ _ hk_ => (hS9146q).pool.kn hk_), trivial⟩ (fun _ _ _ h_ => h_) (fun a9244q h9245q => ?_)
                                clear h9243q a9242q
                                by_cases c9246q : r8388q = p3
                                · rw [if_pos c9246q] at H
                                  have hb_ : (decide (r8388q = p3)) = true := decide_eq_true c9246q
                                  try rw [hb_] at h9245q
                                  clear hb_
                                  refine WH.take 38 (listed' := #[true, true, true, true, true, true, true, true, true, true, true, true, true, true, true, true, true, true, true, true, true, true, true, true, true, true, true, true, true, true, true, true, true, true, true, true, true, true, true, false, false, false, false, false, false, false]) h9245q rfl rfl (by kernel_rfl) rfl rfl (.int .i64 r8390q) (fun _ _ => by kernel_rfl) ⟨(fun _ _ hk_ => (hS9146q.bring 1 rfl rfl).pool.kn hk_), (fun _ _ hk_ => (hS9146q).pool.kn hk_), trivial⟩ (fun _ _ _ h_ => h_) (fun a9247q h9248q => ?_)
                                  clear h9245q a9244q
                                  refine WH.take 39 (listed' := #[true, true, true, true, true, true, true, true, true, true, true, true, true, true, true, true, true, true, true, true, true, true, true, true, true, true, true, true, true, true, true, true, true, true, true, true, true, true, true, true, false, false, false, false, false, false]) h9248q rfl rfl (by kernel_rfl) rfl rfl (.bool (decide (r8390q = 0))) (fun _ _ => by kernel_rfl) ⟨(fun _ _ hk_ => (hS9146q.bring 1 rfl rfl).pool.kn hk_), (fun _ _ hk_ => (hS9146q).pool.kn hk_), trivial⟩ (fun _ _ _ h_ => h_) (fun a9249q h9250q => ?_)
                                  clear h9248q a9247q
                                  refine WH.take 40 (listed' := #[true, true, true, true, true, true, true, true, true, true, true, true, true, true, true, true, true, true, true, true, true, true, true, true, true, true, true, true, true, true, true, true, true, true, true, true, true, true, true, true, true, false, false, false, false, false]) h9250q rfl rfl (by kernel_rfl) rfl rfl (.bool (decide (r8390q = 0))) (fun _ _ => by kernel_rfl) ⟨(fun _ _ hk_ => (hS9146q.bring 1 rfl rfl).pool.kn hk_), (fun _ _ hk_ => (hS9146q).pool.kn hk_), trivial⟩ (fun _ _ _ h_ => h_) (fun a9251q h9252q => ?_)
                                  clear h9250q a9249q
                                  refine WH.take 41 (listed' := #[true, true, true, true, true, true, true, true, true, true, true, true, true, true, true, true, true, true, true, true, true, true, true, true, true, true, true, true, true, true, true, true, true, true, true, true, true, true, true, true, true, true, false, false, false, false]) h9252q rfl rfl (by kernel_rfl) rfl rfl (.bool (decide (r8390q = 0))) (fun _ _ => by kernel_rfl) ⟨(fun _ _ hk_ => (hS9146q.bring 1 rfl rfl).pool.kn hk_), (fun _ _ hk_ => (hS9146q).pool.kn hk_), trivial⟩ (fun _ _ _ h_ => h_) (fun a9253q h9254q => ?_)
                                  clear h9252q a9251q
                                  by_cases c9255q : r8390q = 0
                                  · rw [if_pos c9255q] at H
                                    have hb_ : (decide (r8390q = 0)) = true := decide_eq_true c9255q
                                    try rw [hb_] at h9254q
                                    clear hb_
                                    refine WH.take 42 (listed' := #[true, true, true, true, true, true, true, true, true, true, true, true, true, true, true, true, true, true, true, true, true, true, true, true, true, true, true, true, true, true, true, true, true, true, true, true, true, true, true, true, true, true, true, false, false, false]) h9254q rfl rfl (by kernel_rfl) rfl rfl (.int .i64 r8406q) (fun _ _ => by kernel_rfl) ⟨(fun _ _ hk_ => (hS9146q.bring 1 rfl rfl).pool.kn hk_), (fun _ _ hk_ => (hS9146q).pool.kn hk_), trivial⟩ (fun _ _ _ h_ => h_) (fun a9256q h9257q => ?_)
                                    clear h9254q a9253q
                                    refine WH.take 43 (listed' := #[true, true, true, true, true, true, true, true, true, true, true, true, true, true, true, true, true, true, true, true, true, true, true, true, true, true, true, true, true, true, true, true, true, true, true, true, true, true, true, true, true, true, true, true, false, false]) h9257q rfl rfl (by kernel_rfl) rfl rfl (.bool (decide (r8406q = 0))) (fun _ _ => by kernel_rfl) ⟨(fun _ _ hk_ => (hS9146q.bring 1 rfl rfl).pool.kn hk_), (fun _ _ hk_ => (hS9146q).pool.kn hk_), trivial⟩ (fun _ _ _ h_ => h_) (fun a9258q h9259q => ?_)
                                    clear h9257q a9256q
                                    refine WH.take 44 (listed' := #[true, true, true, true, true, true, true, true, true, true, true, true, true, true, true, true, true, true, true, true, true, true, true, true, true, true, true, true, true, true, true, true, true, true, true, true, true, true, true, true, true, true, true, true, true, false]) h9259q rfl rfl (by kernel_rfl) rfl rfl (.bool (decide (r8406q = 0))) (fun _ _ => by kernel_rfl) ⟨(fun _ _ hk_ => (hS9146q.bring 1 rfl rfl).pool.kn hk_), (fun _ _ hk_ => (hS9146q).pool.kn hk_), trivial⟩ (fun _ _ _ h_ => h_) (fun a9260q h9261q => ?_)
                                    clear h9259q a9258q
                                    refine WH.take 45 (listed' := #[true, true, true, true, true, true, true, true, true, true, true, true, true, true, true, true, true, true, true, true, true, true, true, true, true, true, true, true, true, true, true, true, true, true, true, true, true, true, true, true, true, true, true, true, true, true]) h9261q rfl rfl (by kernel_rfl) rfl rfl (.bool (decide (r8406q = 0))) (fun _ _ => by kernel_rfl) ⟨(fun _ _ hk_ => (hS9146q.bring 1 rfl rfl).pool.kn hk_), (fun _ _ hk_ => (hS9146q).pool.kn hk_), trivial⟩ (fun _ _ _ h_ => h_) (fun a9262q h9263q => ?_)
                                    clear h9261q a9260q
                                    refine WH.done (by kernel_rfl) ?_
                                    refine wp_ret ?_
                                    have hS9264q : St b w0 W9141q R (M8076q :: Fs) := hS9146q.drop_
                                    have hS9265q : St b w0 W9141q R (Fs) := hS9264q.drop_
                                    obtain rfl := Option.some.inj H
                                    repeat (first | refine then_ret ?_ | refine inBlock_ret ?_ | refine inBlock_go ?_)
                                    refine body_ret (v := .bool (decide (r8406q = 0))) h9263q (by kernel_rfl) (by kernel_rfl) ?_
                                    exact ⟨rfl, hS9265q⟩
                                  · rw [if_neg c9255q] at H
                                    have hb_ : (decide (r8390q = 0)) = false := decide_eq_false c9255q
                                    try rw [hb_] at h9254q
                                    clear hb_
                                    refine WH.skip 42 (listed' := #[true, true, true, true, true, true, true, true, true, true, true, true, true, true, true, true, true, true, true, true, true, true, true, true, true, true, true, true, true, true, true, true, true, true, true, true, true, true, true, true, true, true, true, false, false, false]) h9254q rfl rfl (by kernel_rfl) rfl rfl ⟨(fun _ _ hk_ => (hS9146q.bring 1 rfl rfl).pool.kn hk_), (fun _ _ hk_ => (hS9146q).pool.kn hk_), trivial⟩ (fun _ _ _ h_ => h_) (fun a9266q h9267q => ?_)
                                    clear h9254q a9253q
                                    refine WH.skip 43 (listed' := #[true, true, true, true, true, true, true, true, true, true, true, true, true, true, true, true, true, true, true, true, true, true, true, true, true, true, true, true, true, true, true, true, true, true, true, true, true, true, true, true, true, true, true, true, false, false]) h9267q rfl rfl (by kernel_rfl) rfl rfl ⟨(fun _ _ hk_ => (hS9146q.bring 1 rfl rfl).pool.kn hk_), (fun _ _ hk_ => (hS9146q).pool.kn hk_), trivial⟩ (fun _ _ _ h_ => h_) (fun a9268q h9269q => ?_)
                                    clear h9267q a9266q
                                    refine WH.take 44 (listed' := #[true, true, true, true, true, true, true, true, true, true, true, true, true, true, true, true, true, true, true, true, true, true, true, true, true, true, true, true, true, true, true, true, true, true, true, true, true, true, true, true, true, true, true, true, true, false]) h9269q rfl rfl (by kernel_rfl) rfl rfl (.bool false) (fun _ _ => by kernel_rfl) ⟨(fun _ _ hk_ => (hS9146q.bring 1 rfl rfl).pool.kn hk_), (fun _ _ hk_ => (hS9146q).pool.kn hk_), trivial⟩ (fun _ _ _ h_ => h_) (fun a9270q h9271q => ?_)
                                    clear h9269q a9268q
                                    refine WH.take 45 (listed' := #[true, true, true, true, true, true, true, true, true, true, true, true, true, true, true, true, true, true, true, true, true, true, true, true, true, true, true, true, true, true, true, true, true, true, true, true, true, true, true, true, true, true, true, true, true, true]) h9271q rfl rfl (by kernel_rfl) rfl rfl (.bool false) (fun _ _ => by kernel_rfl) ⟨(fun _ _ hk_ => (hS9146q.bring 1 rfl rfl).pool.kn hk_), (fun _ _ hk_ => (hS9146q).pool.kn hk_), trivial⟩ (fun _ _ _ h_ => h_) (fun a9272q h9273q => ?_)
                                    clear h9271q a9270q
                                    refine WH.done (by kernel_rfl) ?_
                                    refine wp_ret ?_
                                    have hS9274q : St b w0 W9141q R (M8076q :: Fs) := hS9146q.drop_
                                    have hS9275q : St b w0 W9141q R (Fs) := hS9274q.drop_
                                    obtain rfl := Option.some.inj H
                                    repeat (first | refine then_ret ?_ | refine inBlock_ret ?_ | refine inBlock_go ?_)
                                    refine body_ret (v := .bool false) h9273q (by kernel_rfl) (by kernel_rfl) ?_
                                    exact ⟨rfl, hS9275q⟩
                                · rw [if_neg c9246q] at H
                                  have hb_ : (decide (r8388q = p3)) = false := decide_eq_false c9246q
                                  try rw [hb_] at h9245q
                                  clear hb_
                                  refine WH.skip 38 (listed' := #[true, true, true, true, true, true, true, true, true, true, true, true, true, true, true, true, true, true, true, true, true, true, true, true, true, true, true, true, true, true, true, true, true, true, true, true, true, true, true, false, false, false, false, false, false, false]) h9245q rfl rfl (by kernel_rfl) rfl rfl ⟨(fun _ _ hk_ => (hS9146q.bring 1 rfl rfl).pool.kn hk_), (fun _ _ hk_ => (hS9146q).pool.kn hk_), trivial⟩ (fun _ _ _ h_ => h_) (fun a9276q h9277q => ?_)
                                  clear h9245q a9244q
                                  refine WH.skip 39 (listed' := #[true, true, true, true, true, true, true, true, true, true, true, true, true, true, true, true, true, true, true, true, true, true, true, true, true, true, true, true, true, true, true, true, true, true, true, true, true, true, true, true, false, false, false, false, false, false]) h9277q rfl rfl (by kernel_rfl) rfl rfl ⟨(fun _ _ hk_ => (hS9146q.bring 1 rfl rfl).pool.kn hk_), (fun _ _ hk_ => (hS9146q).pool.kn hk_), trivial⟩ (fun _ _ _ h_ => h_) (fun a9278q h9279q => ?_)
                                  clear h9277q a9276q
                                  refine WH.take 40 (listed' := #[true, true, true, true, true, true, true, true, true, true, true, true, true, true, true, true, true, true, true, true, true, true, true, true, true, true, true, true, true, true, true, true, true, true, true, true, true, true, true, true, true, false, false, false, false, false]) h9279q rfl rfl (by kernel_rfl) rfl rfl (.bool false) (fun _ _ => by kernel_rfl) ⟨(fun _ _ hk_ => (hS9146q.bring 1 rfl rfl).pool.kn hk_), (fun _ _ hk_ => (hS9146q).pool.kn hk_), trivial⟩ (fun _ _ _ h_ => h_) (fun a9280q h9281q => ?_)
                                  clear h9279q a9278q
                                  refine WH.take 41 (listed' := #[true, true, true, true, true, true, true, true, true, true, true, true, true, true, true, true, true, true, true, true, true, true, true, true, true, true, true, true, true, true, true, true, true, true, true, true, true, true, true, true, true, true, false, false, false, false]) h9281q rfl rfl (by kernel_rfl) rfl rfl (.bool false) (fun _ _ => by kernel_rfl) ⟨(fun _ _ hk_ => (hS9146q.bring 1 rfl rfl).pool.kn hk_), (fun _ _ hk_ => (hS9146q).pool.kn hk_), trivial⟩ (fun _ _ _ h_ => h_) (fun a9282q h9283q => ?_)
                                  clear h9281q a9280q
                                  refine WH.skip 42 (listed' := #[true, true, true, true, true, true, true, true, true, true, true, true, true, true, true, true, true, true, true, true, true, true, true, true, true, true, true, true, true, true, true, true, true, true, true, true, true, true, true, true, true, true, true, false, false, false]) h9283q rfl rfl (by kernel_rfl) rfl rfl ⟨(fun _ _ hk_ => (hS9146q.bring 1 rfl rfl).pool.kn hk_), (fun _ _ hk_ => (hS9146q).pool.kn hk_), trivial⟩ (fun _ _ _ h_ => h_) (fun a9284q h9285q => ?_)
                                  clear h9283q a9282q
                                  refine WH.skip 43 (listed' := #[true, true, true, true, true, true, true, true, true, true, true, true, true, true, true, true, true, true, true, true, true, true, true, true, true, true, true, true, true, true, true, true, true, true, true, true, true, true, true, true, true, true, true, true, false, false]) h9285q rfl rfl (by kernel_rfl) rfl rfl ⟨(fun _ _ hk_ => (hS9146q.bring 1 rfl rfl).pool.kn hk_), (fun _ _ hk_ => (hS9146q).pool.kn hk_), trivial⟩ (fun _ _ _ h_ => h_) (fun a9286q h9287q => ?_)
                                  clear h9285q a9284q
                                  refine WH.take 44 (listed' := #[true, true, true, true, true, true, true, true, true, true, true, true, true, true, true, true, true, true, true, true, true, true, true, true, true, true, true, true, true, true, true, true, true, true, true, true, true, true, true, true, true, true, true, true, true, false]) h9287q rfl rfl (by kernel_rfl) rfl rfl (.bool false) (fun _ _ => by kernel_rfl) ⟨(fun _ _ hk_ => (hS9146q.bring 1 rfl rfl).pool.kn hk_), (fun _ _ hk_ => (hS9146q).pool.kn hk_), trivial⟩ (fun _ _ _ h_ => h_) (fun a9288q h9289q => ?_)
                                  clear h9287q a9286q
                                  refine WH.take 45 (listed' := #[true, true, true, true, true, true, true, true, true, true, true, true, true, true, true, true, true, true, true, true, true, true, true, true, true, true, true, true, true, true, true, true, true, true, true, true, true, true, true, true, true, true, true, true, true, true]) h9289q rfl rfl (by kernel_rfl) rfl rfl (.bool false) (fun _ _ => by kernel_rfl) ⟨(fun _ _ hk_ => (hS9146q.bring 1 rfl rfl).pool.kn hk_), (fun _ _ hk_ => (hS9146q).pool.kn hk_), trivial⟩ (fun _ _ _ h_ => h_) (fun a9290q h9291q => ?_)
                                  clear h9289q a9288q
                                  refine WH.done (by kernel_rfl) ?_
                                  refine wp_ret ?_
                                  have hS9292q : St b w0 W9141q R (M8076q :: Fs) := hS9146q.drop_
                                  have hS9293q : St b w0 W9141q R (Fs) := hS9292q.drop_
                                  obtain rfl := Option.some.inj H
                                  repeat (first | refine then_ret ?_ | refine inBlock_ret ?_ | refine inBlock_go ?_)
                                  refine body_ret (v := .bool false) h9291q (by kernel_rfl) (by kernel_rfl) ?_
                                  exact ⟨rfl, hS9293q⟩
                              · rw [if_neg c9235q] at H
                                have hb_ : (decide (r8388q = r8404q)) = false := decide_eq_false c9235q
                                try rw [hb_] at h9234q
                                clear hb_
                                refine WH.skip 33 (listed' := #[true, true, true, true, true, true, true, true, true, true, true, true, true, true, true, true, true, true, true, true, true, true, true, true, true, true, true, true, true, true, true, true, true, true, false, false, false, false, false, false, false, false, false, false, false, false]) h9234q rfl rfl (by kernel_rfl) rfl rfl ⟨(fun _ _ hk_ => (hS9146q.bring 1 rfl rfl).pool.kn hk_), (fun _ _ hk_ => (hS9146q).pool.kn hk_), trivial⟩ (fun _ _ _ h_ => h_) (fun a9294q h9295q => ?_)
                                clear h9234q a9233q
                                refine WH.skip 34 (listed' := #[true, true, true, true, true, true, true, true, true, true, true, true, true, true, true, true, true, true, true, true, true, true, true, true, true, true, true, true, true, true, true, true, true, true, true, false, false, false, false, false, false, false, false, false, false, false]) h9295q rfl rfl (by kernel_rfl) rfl rfl ⟨(fun _ _ hk_ => (hS9146q.bring 1 rfl rfl).pool.kn hk_), (fun _ _ hk_ => (hS9146q).pool.kn hk_), trivial⟩ (fun _ _ _ h_ => h_) (fun a9296q h9297q => ?_)
                                clear h9295q a9294q
                                refine WH.skip 35 (listed' := #[true, true, true, true, true, true, true, true, true, true, true, true, true, true, true, true, true, true, true, true, true, true, true, true, true, true, true, true, true, true, true, true, true, true, true, true, false, false, false, false, false, false, false, false, false, false]) h9297q rfl rfl (by kernel_rfl) rfl rfl ⟨(fun _ _ hk_ => (hS9146q.bring 1 rfl rfl).pool.kn hk_), (fun _ _ hk_ => (hS9146q).pool.kn hk_), trivial⟩ (fun _ _ _ h_ => h_) (fun a9298q h9299q => ?_)
                                clear h9297q a9296q
                                refine WH.take 36 (listed' := #[true, true, true, true, true, true, true, true, true, true, true, true, true, true, true, true, true, true, true, true, true, true, true, true, true, true, true, true, true, true, true, true, true, true, true, true, true, false, false, false, false, false, false, false, false, false]) h9299q rfl rfl (by kernel_rfl) rfl rfl (.bool false) (fun _ _ => by kernel_rfl) ⟨(fun _ _ hk_ => (hS9146q.bring 1 rfl rfl).pool.kn hk_), (fun _ _ hk_ => (hS9146q).pool.kn hk_), trivial⟩ (fun _ _ _ h_ => h_) (fun a9300q h9301q => ?_)
                                clear h9299q a9298q
                                refine WH.take 37 (listed' := #[true, true, true, true, true, true, true, true, true, true, true, true, true, true, true, true, true, true, true, true, true, true, true, true, true, true, true, true, true, true, true, true, true, true, true, true, true, true, false, false, false, false, false, false, false, false]) h9301q rfl rfl (by kernel_rfl) rfl rfl (.bool false) (fun _ _ => by kernel_rfl) ⟨(fun _ _ hk_ => (hS9146q.bring 1 rfl rfl).pool.kn hk_), (fun _ _ hk_ => (hS9146q).pool.kn hk_), trivial⟩ (fun _ _ _ h_ => h_) (fun a9302q h9303q => ?_)
                                clear h9301q a9300q
                                refine WH.skip 38 (listed' := #[true, true, true, true, true, true, true, true, true, true, true, true, true, true, true, true, true, true, true, true, true, true, true, true, true, true, true, true, true, true, true, true, true, true, true, true, true, true, true, false, false, false, false, false, false, false]) h9303q rfl rfl (by kernel_rfl) rfl rfl ⟨(fun _ _ hk_ => (hS9146q.bring 1 rfl rfl).pool.kn hk_), (fun _ _ hk_ => (hS9146q).pool.kn hk_), trivial⟩ (fun _ _ _ h_ => h_) (fun a9304q h9305q => ?_)
                                clear h9303q a9302q
                                refine WH.skip 39 (listed' := #[true, true, true, true, true, true, true, true, true, true, true, true, true, true, true, true, true, true, true, true, true, true, true, true, true, true, true, true, true, true, true, true, true, true, true, true, true, true, true, true, false, false, false, false, false, false]) h9305q rfl rfl (by kernel_rfl) rfl rfl ⟨(fun _ _ hk_ => (hS9146q.bring 1 rfl rfl).pool.kn hk_), (fun _ _ hk_ => (hS9146q).pool.kn hk_), trivial⟩ (fun _ _ _ h_ => h_) (fun a9306q h9307q => ?_)
                                clear h9305q a9304q
                                refine WH.take 40 (listed' := #[true, true, true, true, true, true, true, true, true, true, true, true, true, true, true, true, true, true, true, true, true, true, true, true, true, true, true, true, true, true, true, true, true, true, true, true, true, true, true, true, true, false, false, false, false, false]) h9307q rfl rfl (by kernel_rfl) rfl rfl (.bool false) (fun _ _ => by kernel_rfl) ⟨(fun _ _ hk_ => (hS9146q.bring 1 rfl rfl).pool.kn hk_), (fun _ _ hk_ => (hS9146q).pool.kn hk_), trivial⟩ (fun _ _ _ h_ => h_) (fun a9308q h9309q => ?_)
                                clear h9307q a9306q
                                refine WH.take 41 (listed' := #[true, true, true, true, true, true, true, true, true, true, true, true, true, true, true, true, true, true, true, true, true, true, true, true, true, true, true, true, true, true, true, true, true, true, true, true, true, true, true, true, true, true, false, false, false, false]) h9309q rfl rfl (by kernel_rfl) rfl rfl (.bool false) (fun _ _ => by kernel_rfl) ⟨(fun _ _ hk_ => (hS9146q.bring 1 rfl rfl).pool.kn hk_), (fun _ _ hk_ => (hS9146q).pool.kn hk_), trivial⟩ (fun _ _ _ h_ => h_) (fun a9310q h9311q => ?_)
                                clear h9309q a9308q
                                refine WH.skip 42 (listed' := #[true, true, true, true, true, true, true, true, true, true, true, true, true, true, true, true, true, true, true, true, true, true, true, true, true, true, true, true, true, true, true, true, true, true, true, true, true, true, true, true, true, true, true, false, false, false]) h9311q rfl rfl (by kernel_rfl) rfl rfl ⟨(fun _ _ hk_ => (hS9146q.bring 1 rfl rfl).pool.kn hk_), (fun _ _ hk_ => (hS9146q).pool.kn hk_), trivial⟩ (fun _ _ _ h_ => h_) (fun a9312q h9313q => ?_)
                                clear h9311q a9310q
                                refine WH.skip 43 (listed' := #[true, true, true, true, true, true, true, true, true, true, true, true, true, true, true, true, true, true, true, true, true, true, true, true, true, true, true, true, true, true, true, true, true, true, true, true, true, true, true, true, true, true, true, true, false, false]) h9313q rfl rfl (by kernel_rfl) rfl rfl ⟨(fun _ _ hk_ => (hS9146q.bring 1 rfl rfl).pool.kn hk_), (fun _ _ hk_ => (hS9146q).pool.kn hk_), trivial⟩ (fun _ _ _ h_ => h_) (fun a9314q h9315q => ?_)
                                clear h9313q a9312q
                                refine WH.take 44 (listed' := #[true, true, true, true, true, true, true, true, true, true, true, true, true, true, true, true, true, true, true, true, true, true, true, true, true, true, true, true, true, true, true, true, true, true, true, true, true, true, true, true, true, true, true, true, true, false]) h9315q rfl rfl (by kernel_rfl) rfl rfl (.bool false) (fun _ _ => by kernel_rfl) ⟨(fun _ _ hk_ => (hS9146q.bring 1 rfl rfl).pool.kn hk_), (fun _ _ hk_ => (hS9146q).pool.kn hk_), trivial⟩ (fun _ _ _ h_ => h_) (fun a9316q h9317q => ?_)
                                clear h9315q a9314q
                                refine WH.take 45 (listed' := #[true, true, true, true, true, true, true, true, true, true, true, true, true, true, true, true, true, true, true, true, true, true, true, true, true, true, true, true, true, true, true, true, true, true, true, true, true, true, true, true, true, true, true, true, true, true]) h9317q rfl rfl (by kernel_rfl) rfl rfl (.bool false) (fun _ _ => by kernel_rfl) ⟨(fun _ _ hk_ => (hS9146q.bring 1 rfl rfl).pool.kn hk_), (fun _ _ hk_ => (hS9146q).pool.kn hk_), trivial⟩ (fun _ _ _ h_ => h_) (fun a9318q h9319q => ?_)
                                clear h9317q a9316q
                                refine WH.done (by kernel_rfl) ?_
                                refine wp_ret ?_
                                have hS9320q : St b w0 W9141q R (M8076q :: Fs) := hS9146q.drop_
                                have hS9321q : St b w0 W9141q R (Fs) := hS9320q.drop_
                                obtain rfl := Option.some.inj H
                                repeat (first | refine then_ret ?_ | refine inBlock_ret ?_ | refine inBlock_go ?_)
                                refine body_ret (v := .bool false) h9319q (by kernel_rfl) (by kernel_rfl) ?_
                                exact ⟨rfl, hS9321q⟩
                            · rw [if_neg c9224q] at H
                              have hb_ : (decide ((shrI .i64 (IntKind.i64.wrap (gt (0 : Int) r8085q (0 : Int))) p0) = (shrI .i64 (IntKind.i64.wrap p2) p0))) = false := decide_eq_false c9224q
                              try rw [hb_] at h9223q
                              clear hb_
                              refine WH.skip 28 (listed' := #[true, true, true, true, true, true, true, true, true, true, true, true, true, true, true, true, true, true, true, true, true, true, true, true, true, true, true, true, true, false, false, false, false, false, false, false, false, false, false, false, false, false, false, false, false, false]) h9223q rfl rfl (by kernel_rfl) rfl rfl ⟨(fun _ _ hk_ => (hS9146q.bring 1 rfl rfl).pool.kn hk_), (fun _ _ hk_ => (hS9146q).pool.kn hk_), trivial⟩ (fun _ _ _ h_ => h_) (fun a9322q h9323q => ?_)
                              clear h9223q a9222q
                              refine WH.skip 29 (listed' := #[true, true, true, true, true, true, true, true, true, true, true, true, true, true, true, true, true, true, true, true, true, true, true, true, true, true, true, true, true, true, false, false, false, false, false, false, false, false, false, false, false, false, false, false, false, false]) h9323q rfl rfl (by kernel_rfl) rfl rfl ⟨(fun _ _ hk_ => (hS9146q.bring 1 rfl rfl).pool.kn hk_), (fun _ _ hk_ => (hS9146q).pool.kn hk_), trivial⟩ (fun _ _ _ h_ => h_) (fun a9324q h9325q => ?_)
                              clear h9323q a9322q
                              refine WH.skip 30 (listed' := #[true, true, true, true, true, true, true, true, true, true, true, true, true, true, true, true, true, true, true, true, true, true, true, true, true, true, true, true, true, true, true, false, false, false, false, false, false, false, false, false, false, false, false, false, false, false]) h9325q rfl rfl (by kernel_rfl) rfl rfl ⟨(fun _ _ hk_ => (hS9146q.bring 1 rfl rfl).pool.kn hk_), (fun _ _ hk_ => (hS9146q).pool.kn hk_), trivial⟩ (fun _ _ _ h_ => h_) (fun a9326q h9327q => ?_)
                              clear h9325q a9324q
                              refine WH.take 31 (listed' := #[true, true, true, true, true, true, true, true, true, true, true, true, true, true, true, true, true, true, true, true, true, true, true, true, true, true, true, true, true, true, true, true, false, false, false, false, false, false, false, false, false, false, false, false, false, false]) h9327q rfl rfl (by kernel_rfl) rfl rfl (.bool false) (fun _ _ => by kernel_rfl) ⟨(fun _ _ hk_ => (hS9146q.bring 1 rfl rfl).pool.kn hk_), (fun _ _ hk_ => (hS9146q).pool.kn hk_), trivial⟩ (fun _ _ _ h_ => h_) (fun a9328q h9329q => ?_)
                              clear h9327q a9326q
                              refine WH.take 32 (listed' := #[true, true, true, true, true, true, true, true, true, true, true, true, true, true, true, true, true, true, true, true, true, true, true, true, true, true, true, true, true, true, true, true, true, false, false, false, false, false, false, false, false, false, false, false, false, false]) h9329q rfl rfl (by kernel_rfl) rfl rfl (.bool false) (fun _ _ => by kernel_rfl) ⟨(fun _ _ hk_ => (hS9146q.bring 1 rfl rfl).pool.kn hk_), (fun _ _ hk_ => (hS9146q).pool.kn hk_), trivial⟩ (fun _ _ _ h_ => h_) (fun a9330q h9331q => ?_)
                              clear h9329q a9328q
                              refine WH.skip 33 (listed' := #[true, true, true, true, true, true, true, true, true, true, true, true, true, true, true, true, true, true, true, true, true, true, true, true, true, true, true, true, true, true, true, true, true, true, false, false, false, false, false, false, false, false, false, false, false, false]) h9331q rfl rfl (by kernel_rfl) rfl rfl ⟨(fun _ _ hk_ => (hS9146q.bring 1 rfl rfl).pool.kn hk_), (fun _ _ hk_ => (hS9146q).pool.kn hk_), trivial⟩ (fun _ _ _ h_ => h_) (fun a9332q h9333q => ?_)
                              clear h9331q a9330q
                              refine WH.skip 34 (listed' := #[true, true, true, true, true, true, true, true, true, true, true, true, true, true, true, true, true, true, true, true, true, true, true, true, true, true, true, true, true, true, true, true, true, true, true, false, false, false, false, false, false, false, false, false, false, false]) h9333q rfl rfl (by kernel_rfl) rfl rfl ⟨(fun _ _ hk_ => (hS9146q.bring 1 rfl rfl).pool.kn hk_), (fun _ _ hk_ => (hS9146q).pool.kn hk_), trivial⟩ (fun _ _ _ h_ => h_) (fun a9334q h9335q => ?_)
                              clear h9333q a9332q
                              refine WH.skip 35 (listed' := #[true, true, true, true, true, true, true, true, true, true, true, true, true, true, true, true, true, true, true, true, true, true, true, true, true, true, true, true, true, true, true, true, true, true, true, true, false, false, false, false, false, false, false, false, false, false]) h9335q rfl rfl (by kernel_rfl) rfl rfl ⟨(fun _ _ hk_ => (hS9146q.bring 1 rfl rfl).pool.kn hk_), (fun _ _ hk_ => (hS9146q).pool.kn hk_), trivial⟩ (fun _ _ _ h_ => h_) (fun a9336q h9337q => ?_)
                              clear h9335q a9334q
                              refine WH.take 36 (listed' := #[true, true, true, true, true, true, true, true, true, true, true, true, true, true, true, true, true, true, true, true, true, true, true, true, true, true, true, true, true, true, true, true, true, true, true, true, true, false, false, false, false, false, false, false, false, false]) h9337q rfl rfl (by kernel_rfl) rfl rfl (.bool false) (fun _ _ => by kernel_rfl) ⟨(fun _ _ hk_ => (hS9146q.bring 1 rfl rfl).pool.kn hk_), (fun _ _ hk_ => (hS9146q).pool.kn hk_), trivial⟩ (fun _ _ _ h_ => h_) (fun a9338q h9339q => ?_)
                              clear h9337q a9336q
                              refine WH.take 37 (listed' := #[true, true, true, true, true, true, true, true, true, true, true, true, true, true, true, true, true, true, true, true, true, true, true, true, true, true, true, true, true, true, true, true, true, true, true, true, true, true, false, false, false, false, false, false, false, false]) h9339q rfl rfl (by kernel_rfl) rfl rfl (.bool false) (fun _ _ => by kernel_rfl) ⟨(fun _ _ hk_ => (hS9146q.bring 1 rfl rfl).pool.kn hk_), (fun _ _ hk_ => (hS9146q).pool.kn hk_), trivial⟩ (fun _ _ _ h_ => h_) (fun a9340q h9341q => ?_)
                              clear h9339q a9338q
                              refine WH.skip 38 (listed' := #[true, true, true, true, true, true, true, true, true, true, true, true, true, true, true, true, true, true, true, true, true, true, true, true, true, true, true, true, true, true, true, true, true, true, true, true, true, true, true, false, false, false, false, false, false, false]) h9341q rfl rfl (by kernel_rfl) rfl rfl ⟨(fun _ _ hk_ => (hS9146q.bring 1 rfl rfl).pool.kn hk_), (fun _ _ hk_ => (hS9146q).pool.kn hk_), trivial⟩ (fun _ _ _ h_ => h_) (fun a9342q h9343q => ?_)
                              clear h9341q a9340q
                              refine WH.skip 39 (listed' := #[true, true, true, true, true, true, true, true, true, true, true, true, true, true, true, true, true, true, true, true, true, true, true, true, true, true, true, true, true, true, true, true, true, true, true, true, true, true, true, true, false, false, false, false, false, false]) h9343q rfl rfl (by kernel_rfl) rfl rfl ⟨(fun _ _ hk_ => (hS9146q.bring 1 rfl rfl).pool.kn hk_), (fun _ _ hk_ => (hS9146q).pool.kn hk_), trivial⟩ (fun _ _ _ h_ => h_) (fun a9344q h9345q => ?_)
                              clear h9343q a9342q
                              refine WH.take 40 (listed' := #[true, true, true, true, true, true, true, true, true, true, true, true, true, true, true, true, true, true, true, true, true, true, true, true, true, true, true, true, true, true, true, true, true, true, true, true, true, true, true, true, true, false, false, false, false, false]) h9345q rfl rfl (by kernel_rfl) rfl rfl (.bool false) (fun _ _ => by kernel_rfl) ⟨(fun _ _ hk_ => (hS9146q.bring 1 rfl rfl).pool.kn hk_), (fun _ _ hk_ => (hS9146q).pool.kn hk_), trivial⟩ (fun _ _ _ h_ => h_) (fun a9346q h9347q => ?_)
                              clear h9345q a9344q
                              refine WH.take 41 (listed' := #[true, true, true, true, true, true, true, true, true, true, true, true, true, true, true, true, true, true, true, true, true, true, true, true, true, true, true, true, true, true, true, true, true, true, true, true, true, true, true, true, true, true, false, false, false, false]) h9347q rfl rfl (by kernel_rfl) rfl rfl (.bool false) (fun _ _ => by kernel_rfl) ⟨(fun _ _ hk_ => (hS9146q.bring 1 rfl rfl).pool.kn hk_), (fun _ _ hk_ => (hS9146q).pool.kn hk_), trivial⟩ (fun _ _ _ h_ => h_) (fun a9348q h9349q => ?_)
                              clear h9347q a9346q
                              refine WH.skip 42 (listed' := #[true, true, true, true, true, true, true, true, true, true, true, true, true, true, true, true, true, true, true, true, true, true, true, true, true, true, true, true, true, true, true, true, true, true, true, true, true, true, true, true, true, true, true, false, false, false]) h9349q rfl rfl (by kernel_rfl) rfl rfl ⟨(fun _ _ hk_ => (hS9146q.bring 1 rfl rfl).pool.kn hk_), (fun _ _ hk_ => (hS9146q).pool.kn hk_), trivial⟩ (fun _ _ _ h_ => h_) (fun a9350q h9351q => ?_)
                              clear h9349q a9348q
                              refine WH.skip 43 (listed' := #[true, true, true, true, true, true, true, true, true, true, true, true, true, true, true, true, true, true, true, true, true, true, true, true, true, true, true, true, true, true, true, true, true, true, true, true, true, true, true, true, true, true, true, true, false, false]) h9351q rfl rfl (by kernel_rfl) rfl rfl ⟨(fun _ _ hk_ => (hS9146q.bring 1 rfl rfl).pool.kn hk_), (fun _ _ hk_ => (hS9146q).pool.kn hk_), trivial⟩ (fun _ _ _ h_ => h_) (fun a9352q h9353q => ?_)
                              clear h9351q a9350q
                              refine WH.take 44 (listed' := #[true, true, true, true, true, true, true, true, true, true, true, true, true, true, true, true, true, true, true, true, true, true, true, true, true, true, true, true, true, true, true, true, true, true, true, true, true, true, true, true, true, true, true, true, true, false]) h9353q rfl rfl (by kernel_rfl) rfl rfl (.bool false) (fun _ _ => by kernel_rfl) ⟨(fun _ _ hk_ => (hS9146q.bring 1 rfl rfl).pool.kn hk_), (fun _ _ hk_ => (hS9146q).pool.kn hk_), trivial⟩ (fun _ _ _ h_ => h_) (fun a9354q h9355q => ?_)
                              clear h9353q a9352q
                              refine WH.take 45 (listed' := #[true, true, true, true, true, true, true, true, true, true, true, true, true, true, true, true, true, true, true, true, true, true, true, true, true, true, true, true, true, true, true, true, true, true, true, true, true, true, true, true, true, true, true, true, true, true]) h9355q rfl rfl (by kernel_rfl) rfl rfl (.bool false) (fun _ _ => by kernel_rfl) ⟨(fun _ _ hk_ => (hS9146q.bring 1 rfl rfl).pool.kn hk_), (fun _ _ hk_ => (hS9146q).pool.kn hk_), trivial⟩ (fun _ _ _ h_ => h_) (fun a9356q h9357q => ?_)
                              clear h9355q a9354q
                              refine WH.done (by kernel_rfl) ?_
                              refine wp_ret ?_
                              have hS9358q : St b w0 W9141q R (M8076q :: Fs) := hS9146q.drop_
                              have hS9359q : St b w0 W9141q R (Fs) := hS9358q.drop_
                              obtain rfl := Option.some.inj H
                              repeat (first | refine then_ret ?_ | refine inBlock_ret ?_ | refine inBlock_go ?_)
                              refine body_ret (v := .bool false) h9357q (by kernel_rfl) (by kernel_rfl) ?_
                              exact ⟨rfl, hS9359q⟩
                          · rw [if_neg c9198q] at H
                            cases H
                        · rw [if_neg c9187q] at H
                          have hb_ : (decide ((shrI .i64 (IntKind.i64.wrap (gt (0 : Int) r8069q (0 : Int))) p0) = (shrI .i64 (IntKind.i64.wrap p1) p0))) = false := decide_eq_false c9187q
                          try rw [hb_] at h9186q
                          clear hb_
                          refine WH.skip 15 (listed' := #[true, true, true, true, true, true, true, true, true, true, true, true, true, true, true, true, false, false, false, false, false, false, false, false, false, false, false, false, false, false, false, false, false, false, false, false, false, false, false, false, false, false, false, false, false, false]) h9186q rfl rfl (by kernel_rfl) rfl rfl ⟨(fun _ _ hk_ => (hS9146q.bring 1 rfl rfl).pool.kn hk_), (fun _ _ hk_ => (hS9146q).pool.kn hk_), trivial⟩ (fun _ _ _ h_ => h_) (fun a9360q h9361q => ?_)
                          clear h9186q a9185q
                          refine WH.skip 16 (listed' := #[true, true, true, true, true, true, true, true, true, true, true, true, true, true, true, true, true, false, false, false, false, false, false, false, false, false, false, false, false, false, false, false, false, false, false, false, false, false, false, false, false, false, false, false, false, false]) h9361q rfl rfl (by kernel_rfl) rfl rfl ⟨(fun _ _ hk_ => (hS9146q.bring 1 rfl rfl).pool.kn hk_), (fun _ _ hk_ => (hS9146q).pool.kn hk_), trivial⟩ (fun _ _ _ h_ => h_) (fun a9362q h9363q => ?_)
                          clear h9361q a9360q
                          refine WH.skip 17 (listed' := #[true, true, true, true, true, true, true, true, true, true, true, true, true, true, true, true, true, true, false, false, false, false, false, false, false, false, false, false, false, false, false, false, false, false, false, false, false, false, false, false, false, false, false, false, false, false]) h9363q rfl rfl (by kernel_rfl) rfl rfl ⟨(fun _ _ hk_ => (hS9146q.bring 1 rfl rfl).pool.kn hk_), (fun _ _ hk_ => (hS9146q).pool.kn hk_), trivial⟩ (fun _ _ _ h_ => h_) (fun a9364q h9365q => ?_)
                          clear h9363q a9362q
                          refine WH.skip 18 (listed' := #[true, true, true, true, true, true, true, true, true, true, true, true, true, true, true, true, true, true, true, false, false, false, false, false, false, false, false, false, false, false, false, false, false, false, false, false, false, false, false, false, false, false, false, false, false, false]) h9365q rfl rfl (by kernel_rfl) rfl rfl ⟨(fun _ _ hk_ => (hS9146q.bring 1 rfl rfl).pool.kn hk_), (fun _ _ hk_ => (hS9146q).pool.kn hk_), trivial⟩ (fun _ _ _ h_ => h_) (fun a9366q h9367q => ?_)
                          clear h9365q a9364q
                          refine WH.skip 19 (listed' := #[true, true, true, true, true, true, true, true, true, true, true, true, true, true, true, true, true, true, true, true, false, false, false, false, false, false, false, false, false, false, false, false, false, false, false, false, false, false, false, false, false, false, false, false, false, false]) h9367q rfl rfl (by kernel_rfl) rfl rfl ⟨(fun _ _ hk_ => (hS9146q.bring 1 rfl rfl).pool.kn hk_), (fun _ _ hk_ => (hS9146q).pool.kn hk_), trivial⟩ (fun _ _ _ h_ => h_) (fun a9368q h9369q => ?_)
                          clear h9367q a9366q
                          refine WH.skip 20 (listed' := #[true, true, true, true, true, true, true, true, true, true, true, true, true, true, true, true, true, true, true, true, true, false, false, false, false, false, false, false, false, false, false, false, false, false, false, false, false, false, false, false, false, false, false, false, false, false]) h9369q rfl rfl (by kernel_rfl) rfl rfl ⟨(fun _ _ hk_ => (hS9146q.bring 1 rfl rfl).pool.kn hk_), (fun _ _ hk_ => (hS9146q).pool.kn hk_), trivial⟩ (fun _ _ _ h_ => h_) (fun a9370q h9371q => ?_)
                          clear h9369q a9368q
                          refine WH.skip 21 (listed' := #[true, true, true, true, true, true, true, true, true, true, true, true, true, true, true, true, true, true, true, true, true, true, false, false, false, false, false, false, false, false, false, false, false, false, false, false, false, false, false, false, false, false, false, false, false, false]) h9371q rfl rfl (by kernel_rfl) rfl rfl ⟨(fun _ _ hk_ => (hS9146q.bring 1 rfl rfl).pool.kn hk_), (fun _ _ hk_ => (hS9146q).pool.kn hk_), trivial⟩ (fun _ _ _ h_ => h_) (fun a9372q h9373q => ?_)
                          clear h9371q a9370q
                          refine WH.skip 22 (listed' := #[true, true, true, true, true, true, true, true, true, true, true, true, true, true, true, true, true, true, true, true, true, true, true, false, false, false, false, false, false, false, false, false, false, false, false, false, false, false, false, false, false, false, false, false, false, false]) h9373q rfl rfl (by kernel_rfl) rfl rfl ⟨(fun _ _ hk_ => (hS9146q.bring 1 rfl rfl).pool.kn hk_), (fun _ _ hk_ => (hS9146q).pool.kn hk_), trivial⟩ (fun _ _ _ h_ => h_) (fun a9374q h9375q => ?_)
                          clear h9373q a9372q
                          refine WH.skip 23 (listed' := #[true, true, true, true, true, true, true, true, true, true, true, true, true, true, true, true, true, true, true, true, true, true, true, true, false, false, false, false, false, false, false, false, false, false, false, false, false, false, false, false, false, false, false, false, false, false]) h9375q rfl rfl (by kernel_rfl) rfl rfl ⟨(fun _ _ hk_ => (hS9146q.bring 1 rfl rfl).pool.kn hk_), (fun _ _ hk_ => (hS9146q).pool.kn hk_), trivial⟩ (fun _ _ _ h_ => h_) (fun a9376q h9377q => ?_)
                          clear h9375q a9374q
                          refine WH.skip 24 (listed' := #[true, true, true, true, true, true, true, true, true, true, true, true, true, true, true, true, true, true, true, true, true, true, true, true, true, false, false, false, false, false, false, false, false, false, false, false, false, false, false, false, false, false, false, false, false, false]) h9377q rfl rfl (by kernel_rfl) rfl rfl ⟨(fun _ _ hk_ => (hS9146q.bring 1 rfl rfl).pool.kn hk_), (fun _ _ hk_ => (hS9146q).pool.kn hk_), trivial⟩ (fun _ _ _ h_ => h_) (fun a9378q h9379q => ?_)
                          clear h9377q a9376q
                          refine WH.skip 25 (listed' := #[true, true, true, true, true, true, true, true, true, true, true, true, true, true, true, true, true, true, true, true, true, true, true, true, true, true, false, false, false, false, false, false, false, false, false, false, false, false, false, false, false, false, false, false, false, false]) h9379q rfl rfl (by kernel_rfl) rfl rfl ⟨(fun _ _ hk_ => (hS9146q.bring 1 rfl rfl).pool.kn hk_), (fun _ _ hk_ => (hS9146q).pool.kn hk_), trivial⟩ (fun _ _ _ h_ => h_) (fun a9380q h9381q => ?_)
                          clear h9379q a9378q
                          refine WH.take 26 (listed' := #[true, true, true, true, true, true, true, true, true, true, true, true, true, true, true, true, true, true, true, true, true, true, true, true, true, true, true, false, false, false, false, false, false, false, false, false, false, false, false, false, false, false, false, false, false, false]) h9381q rfl rfl (by kernel_rfl) rfl rfl (.bool false) (fun _ _ => by kernel_rfl) ⟨(fun _ _ hk_ => (hS9146q.bring 1 rfl rfl).pool.kn hk_), (fun _ _ hk_ => (hS9146q).pool.kn hk_), trivial⟩ (fun _ _ _ h_ => h_) (fun a9382q h9383q => ?_)
                          clear h9381q a9380q
                          refine WH.take 27 (listed' := #[true, true, true, true, true, true, true, true, true, true, true, true, true, true, true, true, true, true, true, true, true, true, true, true, true, true, true, true, false, false, false, false, false, false, false, false, false, false, false, false, false, false, false, false, false, false]) h9383q rfl rfl (by kernel_rfl) rfl rfl (.bool false) (fun _ _ => by kernel_rfl) ⟨(fun _ _ hk_ => (hS9146q.bring 1 rfl rfl).pool.kn hk_), (fun _ _ hk_ => (hS9146q).pool.kn hk_), trivial⟩ (fun _ _ _ h_ => h_) (fun a9384q h9385q => ?_)
                          clear h9383q a9382q
                          refine WH.skip 28 (listed' := #[true, true, true, true, true, true, true, true, true, true, true, true, true, true, true, true, true, true, true, true, true, true, true, true, true, true, true, true, true, false, false, false, false, false, false, false, false, false, false, false, false, false, false, false, false, false]) h9385q rfl rfl (by kernel_rfl) rfl rfl ⟨(fun _ _ hk_ => (hS9146q.bring 1 rfl rfl).pool.kn hk_), (fun _ _ hk_ => (hS9146q).pool.kn hk_), trivial⟩ (fun _ _ _ h_ => h_) (fun a9386q h9387q => ?_)
                          clear h9385q a9384q
                          refine WH.skip 29 (listed' := #[true, true, true, true, true, true, true, true, true, true, true, true, true, true, true, true, true, true, true, true, true, true, true, true, true, true, true, true, true, true, false, false, false, false, false, false, false, false, false, false, false, false, false, false, false, false]) h9387q rfl rfl (by kernel_rfl) rfl rfl ⟨(fun _ _ hk_ => (hS9146q.bring 1 rfl rfl).pool.kn hk_), (fun _ _ hk_ => (hS9146q).pool.kn hk_), trivial⟩ (fun _ _ _ h_ => h_) (fun a9388q h9389q => ?_)
                          clear h9387q a9386q
                          refine WH.skip 30 (listed' := #[true, true, true, true, true, true, true, true, true, true, true, true, true, true, true, true, true, true, true, true, true, true, true, true, true, true, true, true, true, true, true, false, false, false, false, false, false, false, false, false, false, false, false, false, false, false]) h9389q rfl rfl (by kernel_rfl) rfl rfl ⟨(fun _ _ hk_ => (hS9146q.bring 1 rfl rfl).pool.kn hk_), (fun _ _ hk_ => (hS9146q).pool.kn hk_), trivial⟩ (fun _ _ _ h_ => h_) (fun a9390q h9391q => ?_)
                          clear h9389q a9388q
                          refine WH.take 31 (listed' := #[true, true, true, true, true, true, true, true, true, true, true, true, true, true, true, true, true, true, true, true, true, true, true, true, true, true, true, true, true, true, true, true, false, false, false, false, false, false, false, false, false, false, false, false, false, false]) h9391q rfl rfl (by kernel_rfl) rfl rfl (.bool false) (fun _ _ => by kernel_rfl) ⟨(fun _ _ hk_ => (hS9146q.bring 1 rfl rfl).pool.kn hk_), (fun _ _ hk_ => (hS9146q).pool.kn hk_), trivial⟩ (fun _ _ _ h_ => h_) (fun a9392q h9393q => ?_)
                          clear h9391q a9390q
                          refine WH.take 32 (listed' := #[true, true, true, true, true, true, true, true, true, true, true, true, true, true, true, true, true, true, true, true, true, true, true, true, true, true, true, true, true, true, true, true, true, false, false, false, false, false, false, false, false, false, false, false, false, false]) h9393q rfl rfl (by kernel_rfl) rfl rfl (.bool false) (fun _ _ => by kernel_rfl) ⟨(fun _ _ hk_ => (hS9146q.bring 1 rfl rfl).pool.kn hk_), (fun _ _ hk_ => (hS9146q).pool.kn hk_), trivial⟩ (fun _ _ _ h_ => h_) (fun a9394q h9395q => ?_)
                          clear h9393q a9392q
                          refine WH.skip 33 (listed' := #[true, true, true, true, true, true, true, true, true, true, true, true, true, true, true, true, true, true, true, true, true, true, true, true, true, true, true, true, true, true, true, true, true, true, false, false, false, false, false, false, false, false, false, false, false, false]) h9395q rfl rfl (by kernel_rfl) rfl rfl ⟨(fun _ _ hk_ => (hS9146q.bring 1 rfl rfl).pool.kn hk_), (fun _ _ hk_ => (hS9146q).pool.kn hk_), trivial⟩ (fun _ _ _ h_ => h_) (fun a9396q h9397q => ?_)
                          clear h9395q a9394q
                          refine WH.skip 34 (listed' := #[true, true, true, true, true, true, true, true, true, true, true, true, true, true, true, true, true, true, true, true, true, true, true, true, true, true, true, true, true, true, true, true, true, true, true, false, false, false, false, false, false, false, false, false, false, false]) h9397q rfl rfl (by kernel_rfl) rfl rfl ⟨(fun _ _ hk_ => (hS9146q.bring 1 rfl rfl).pool.kn hk_), (fun _ _ hk_ => (hS9146q).pool.kn hk_), trivial⟩ (fun _ _ _ h_ => h_) (fun a9398q h9399q => ?_)
                          clear h9397q a9396q
                          refine WH.skip 35 (listed' := #[true, true, true, true, true, true, true, true, true, true, true, true, true, true, true, true, true, true, true, true, true, true, true, true, true, true, true, true, true, true, true, true, true, true, true, true, false, false, false, false, false, false, false, false, false, false]) h9399q rfl rfl (by kernel_rfl) rfl rfl ⟨(fun _ _ hk_ => (hS9146q.bring 1 rfl rfl).pool.kn hk_), (fun _ _ hk_ => (hS9146q).pool.kn hk_), trivial⟩ (fun _ _ _ h_ => h_) (fun a9400q h9401q => ?_)
                          clear h9399q a9398q
                          refine WH.take 36 (listed' := #[true, true, true, true, true, true, true, true, true, true, true, true, true, true, true, true, true, true, true, true, true, true, true, true, true, true, true, true, true, true, true, true, true, true, true, true, true, false, false, false, false, false, false, false, false, false]) h9401q rfl rfl (by kernel_rfl) rfl rfl (.bool false) (fun _ _ => by kernel_rfl) ⟨(fun _ _ hk_ => (hS9146q.bring 1 rfl rfl).pool.kn hk_), (fun _ _ hk_ => (hS9146q).pool.kn hk_), trivial⟩ (fun _ _ _ h_ => h_) (fun a9402q h9403q => ?_)
                          clear h9401q a9400q
                          refine WH.take 37 (listed' := #[true, true, true, true, true, true, true, true, true, true, true, true, true, true, true, true, true, true, true, true, true, true, true, true, true, true, true, true, true, true, true, true, true, true, true, true, true, true, false, false, false, false, false, false, false, false]) h9403q rfl rfl (by kernel_rfl) rfl rfl (.bool false) (fun _ _ => by kernel_rfl) ⟨(fun _ _ hk_ => (hS9146q.bring 1 rfl rfl).pool.kn hk_), (fun _ _ hk_ => (hS9146q).pool.kn hk_), trivial⟩ (fun _ _ _ h_ => h_) (fun a9404q h9405q => ?_)
                          clear h9403q a9402q
                          refine WH.skip 38 (listed' := #[true, true, true, true, true, true, true, true, true, true, true, true, true, true, true, true, true, true, true, true, true, true, true, true, true, true, true, true, true, true, true, true, true, true, true, true, true, true, true, false, false, false, false, false, false, false]) h9405q rfl rfl (by kernel_rfl) rfl rfl ⟨(fun _ _ hk_ => (hS9146q.bring 1 rfl rfl).pool.kn hk_), (fun _ _ hk_ => (hS9146q).pool.kn hk_), trivial⟩ (fun _ _ _ h_ => h_) (fun a9406q h9407q => ?_)
                          clear h9405q a9404q
                          refine WH.skip 39 (listed' := #[true, true, true, true, true, true, true, true, true, true, true, true, true, true, true, true, true, true, true, true, true, true, true, true, true, true, true, true, true, true, true, true, true, true, true, true, true, true, true, true, false, false, false, false, false, false]) h9407q rfl rfl (by kernel_rfl) rfl rfl ⟨(fun _ _ hk_ => (hS9146q.bring 1 rfl rfl).pool.kn hk_), (fun _ _ hk_ => (hS9146q).pool.kn hk_), trivial⟩ (fun _ _ _ h_ => h_) (fun a9408q h9409q => ?_)
                          clear h9407q a9406q
                          refine WH.take 40 (listed' := #[true, true, true, true, true, true, true, true, true, true, true, true, true, true, true, true, true, true, true, true, true, true, true, true, true, true, true, true, true, true, true, true, true, true, true, true, true, true, true, true, true, false, false, false, false, false]) h9409q rfl rfl (by kernel_rfl) rfl rfl (.bool false) (fun _ _ => by kernel_rfl) ⟨(fun _ _ hk_ => (hS9146q.bring 1 rfl rfl).pool.kn hk_), (fun _ _ hk_ => (hS9146q).pool.kn hk_), trivial⟩ (fun _ _ _ h_ => h_) (fun a9410q h9411q => ?_)
                          clear h9409q a9408q
                          refine WH.take 41 (listed' := #[true, true, true, true, true, true, true, true, true, true, true, true, true, true, true, true, true, true, true, true, true, true, true, true, true, true, true, true, true, true, true, true, true, true, true, true, true, true, true, true, true, true, false, false, false, false]) h9411q rfl rfl (by kernel_rfl) rfl rfl (.bool false) (fun _ _ => by kernel_rfl) ⟨(fun _ _ hk_ => (hS9146q.bring 1 rfl rfl).pool.kn hk_), (fun _ _ hk_ => (hS9146q).pool.kn hk_), trivial⟩ (fun _ _ _ h_ => h_) (fun a9412q h9413q => ?_)
                          clear h9411q a9410q
                          refine WH.skip 42 (listed' := #[true, true, true, true, true, true, true, true, true, true, true, true, true, true, true, true, true, true, true, true, true, true, true, true, true, true, true, true, true, true, true, true, true, true, true, true, true, true, true, true, true, true, true, false, false, false]) h9413q rfl rfl (by kernel_rfl) rfl rfl ⟨(fun _ _ hk_ => (hS9146q.bring 1 rfl rfl).pool.kn hk_), (fun _ _ hk_ => (hS9146q).pool.kn hk_), trivial⟩ (fun _ _ _ h_ => h_) (fun a9414q h9415q => ?_)
                          clear h9413q a9412q
                          refine WH.skip 43 (listed' := #[true, true, true, true, true, true, true, true, true, true, true, true, true, true, true, true, true, true, true, true, true, true, true, true, true, true, true, true, true, true, true, true, true, true, true, true, true, true, true, true, true, true, true, true, false, false]) h9415q rfl rfl (by kernel_rfl) rfl rfl ⟨(fun _ _ hk_ => (hS9146q.bring 1 rfl rfl).pool.kn hk_), (fun _ _ hk_ => (hS9146q).pool.kn hk_), trivial⟩ (fun _ _ _ h_ => h_) (fun a9416q h9417q => ?_)
                          clear h9415q a9414q
                          refine WH.take 44 (listed' := #[true, true, true, true, true, true, true, true, true, true, true, true, true, true, true, true, true, true, true, true, true, true, true, true, true, true, true, true, true, true, true, true, true, true, true, true, true, true, true, true, true, true, true, true, true, false]) h9417q rfl rfl (by kernel_rfl) rfl rfl (.bool false) (fun _ _ => by kernel_rfl) ⟨(fun _ _ hk_ => (hS9146q.bring 1 rfl rfl).pool.kn hk_), (fun _ _ hk_ => (hS9146q).pool.kn hk_), trivial⟩ (fun _ _ _ h_ => h_) (fun a9418q h9419q => ?_)
                          clear h9417q a9416q
                          refine WH.take 45 (listed' := #[true, true, true, true, true, true, true, true, true, true, true, true, true, true, true, true, true, true, true, true, true, true, true, true, true, true, true, true, true, true, true, true, true, true, true, true, true, true, true, true, true, true, true, true, true, true]) h9419q rfl rfl (by kernel_rfl) rfl rfl (.bool false) (fun _ _ => by kernel_rfl) ⟨(fun _ _ hk_ => (hS9146q.bring 1 rfl rfl).pool.kn hk_), (fun _ _ hk_ => (hS9146q).pool.kn hk_), trivial⟩ (fun _ _ _ h_ => h_) (fun a9420q h9421q => ?_)
                          clear h9419q a9418q
                          refine WH.done (by kernel_rfl) ?_
                          refine wp_ret ?_
                          have hS9422q : St b w0 W9141q R (M8076q :: Fs) := hS9146q.drop_
                          have hS9423q : St b w0 W9141q R (Fs) := hS9422q.drop_
                          obtain rfl := Option.some.inj H
                          repeat (first | refine then_ret ?_ | refine inBlock_ret ?_ | refine inBlock_go ?_)
                          refine body_ret (v := .bool false) h9421q (by kernel_rfl) (by kernel_rfl) ?_
                          exact ⟨rfl, hS9423q⟩
                      · rw [if_neg c9176q] at H
                        cases H
                    · rw [if_neg c9160q] at H
                      cases H
                  · rw [if_neg c9149q] at H
                    have hb_ : r9140q = false := (Bool.eq_false_iff.2 c9149q)
                    try rw [hb_] at h9148q
                    clear hb_
                    refine WH.skip 2 (listed' := #[true, true, true, false, false, false, false, false, false, false, false, false, false, false, false, false, false, false, false, false, false, false, false, false, false, false, false, false, false, false, false, false, false, false, false, false, false, false, false, false, false, false, false, false, false, false]) h9148q rfl rfl (by kernel_rfl) rfl rfl ⟨(fun _ _ hk_ => (hS9146q.bring 1 rfl rfl).pool.kn hk_), (fun _ _ hk_ => (hS9146q).pool.kn hk_), trivial⟩ (fun _ _ _ h_ => h_) (fun a9424q h9425q => ?_)
                    clear h9148q a9147q
                    refine WH.skip 3 (listed' := #[true, true, true, true, false, false, false, false, false, false, false, false, false, false, false, false, false, false, false, false, false, false, false, false, false, false, false, false, false, false, false, false, false, false, false, false, false, false, false, false, false, false, false, false, false, false]) h9425q rfl rfl (by kernel_rfl) rfl rfl ⟨(fun _ _ hk_ => (hS9146q.bring 1 rfl rfl).pool.kn hk_), (fun _ _ hk_ => (hS9146q).pool.kn hk_), trivial⟩ (fun _ _ _ h_ => h_) (fun a9426q h9427q => ?_)
                    clear h9425q a9424q
                    refine WH.skip 4 (listed' := #[true, true, true, true, true, false, false, false, false, false, false, false, false, false, false, false, false, false, false, false, false, false, false, false, false, false, false, false, false, false, false, false, false, false, false, false, false, false, false, false, false, false, false, false, false, false]) h9427q rfl rfl (by kernel_rfl) rfl rfl ⟨(fun _ _ hk_ => (hS9146q.bring 1 rfl rfl).pool.kn hk_), (fun _ _ hk_ => (hS9146q).pool.kn hk_), trivial⟩ (fun _ _ _ h_ => h_) (fun a9428q h9429q => ?_)
                    clear h9427q a9426q
                    refine WH.skip 5 (listed' := #[true, true, true, true, true, true, false, false, false, false, false, false, false, false, false, false, false, false, false, false, false, false, false, false, false, false, false, false, false, false, false, false, false, false, false, false, false, false, false, false, false, false, false, false, false, false]) h9429q rfl rfl (by kernel_rfl) rfl rfl ⟨(fun _ _ hk_ => (hS9146q.bring 1 rfl rfl).pool.kn hk_), (fun _ _ hk_ => (hS9146q).pool.kn hk_), trivial⟩ (fun _ _ _ h_ => h_) (fun a9430q h9431q => ?_)
                    clear h9429q a9428q
                    refine WH.skip 6 (listed' := #[true, true, true, true, true, true, true, false, false, false, false, false, false, false, false, false, false, false, false, false, false, false, false, false, false, false, false, false, false, false, false, false, false, false, false, false, false, false, false, false, false, false, false, false, false, false]) h9431q rfl rfl (by kernel_rfl) rfl rfl ⟨(fun _ _ hk_ => (hS9146q.bring 1 rfl rfl).pool.kn hk_), (fun _ _ hk_ => (hS9146q).pool.kn hk_), trivial⟩ (fun _ _ _ h_ => h_) (fun a9432q h9433q => ?_)
                    clear h9431q a9430q
                    refine WH.skip 7 (listed' := #[true, true, true, true, true, true, true, true, false, false, false, false, false, false, false, false, false, false, false, false, false, false, false, false, false, false, false, false, false, false, false, false, false, false, false, false, false, false, false, false, false, false, false, false, false, false]) h9433q rfl rfl (by kernel_rfl) rfl rfl ⟨(fun _ _ hk_ => (hS9146q.bring 1 rfl rfl).pool.kn hk_), (fun _ _ hk_ => (hS9146q).pool.kn hk_), trivial⟩ (fun _ _ _ h_ => h_) (fun a9434q h9435q => ?_)
                    clear h9433q a9432q
                    refine WH.skip 8 (listed' := #[true, true, true, true, true, true, true, true, true, false, false, false, false, false, false, false, false, false, false, false, false, false, false, false, false, false, false, false, false, false, false, false, false, false, false, false, false, false, false, false, false, false, false, false, false, false]) h9435q rfl rfl (by kernel_rfl) rfl rfl ⟨(fun _ _ hk_ => (hS9146q.bring 1 rfl rfl).pool.kn hk_), (fun _ _ hk_ => (hS9146q).pool.kn hk_), trivial⟩ (fun _ _ _ h_ => h_) (fun a9436q h9437q => ?_)
                    clear h9435q a9434q
                    refine WH.skip 9 (listed' := #[true, true, true, true, true, true, true, true, true, true, false, false, false, false, false, false, false, false, false, false, false, false, false, false, false, false, false, false, false, false, false, false, false, false, false, false, false, false, false, false, false, false, false, false, false, false]) h9437q rfl rfl (by kernel_rfl) rfl rfl ⟨(fun _ _ hk_ => (hS9146q.bring 1 rfl rfl).pool.kn hk_), (fun _ _ hk_ => (hS9146q).pool.kn hk_), trivial⟩ (fun _ _ _ h_ => h_) (fun a9438q h9439q => ?_)
                    clear h9437q a9436q
                    refine WH.skip 10 (listed' := #[true, true, true, true, true, true, true, true, true, true, true, false, false, false, false, false, false, false, false, false, false, false, false, false, false, false, false, false, false, false, false, false, false, false, false, false, false, false, false, false, false, false, false, false, false, false]) h9439q rfl rfl (by kernel_rfl) rfl rfl ⟨(fun _ _ hk_ => (hS9146q.bring 1 rfl rfl).pool.kn hk_), (fun _ _ hk_ => (hS9146q).pool.kn hk_), trivial⟩ (fun _ _ _ h_ => h_) (fun a9440q h9441q => ?_)
                    clear h9439q a9438q
                    refine WH.skip 11 (listed' := #[true, true, true, true, true, true, true, true, true, true, true, true, false, false, false, false, false, false, false, false, false, false, false, false, false, false, false, false, false, false, false, false, false, false, false, false, false, false, false, false, false, false, false, false, false, false]) h9441q rfl rfl (by kernel_rfl) rfl rfl ⟨(fun _ _ hk_ => (hS9146q.bring 1 rfl rfl).pool.kn hk_), (fun _ _ hk_ => (hS9146q).pool.kn hk_), trivial⟩ (fun _ _ _ h_ => h_) (fun a9442q h9443q => ?_)
                    clear h9441q a9440q
                    refine WH.skip 12 (listed' := #[true, true, true, true, true, true, true, true, true, true, true, true, true, false, false, false, false, false, false, false, false, false, false, false, false, false, false, false, false, false, false, false, false, false, false, false, false, false, false, false, false, false, false, false, false, false]) h9443q rfl rfl (by kernel_rfl) rfl rfl ⟨(fun _ _ hk_ => (hS9146q.bring 1 rfl rfl).pool.kn hk_), (fun _ _ hk_ => (hS9146q).pool.kn hk_), trivial⟩ (fun _ _ _ h_ => h_) (fun a9444q h9445q => ?_)
                    clear h9443q a9442q
                    refine WH.take 13 (listed' := #[true, true, true, true, true, true, true, true, true, true, true, true, true, true, false, false, false, false, false, false, false, false, false, false, false, false, false, false, false, false, false, false, false, false, false, false, false, false, false, false, false, false, false, false, false, false]) h9445q rfl rfl (by kernel_rfl) rfl rfl (.bool false) (fun _ _ => by kernel_rfl) ⟨(fun _ _ hk_ => (hS9146q.bring 1 rfl rfl).pool.kn hk_), (fun _ _ hk_ => (hS9146q).pool.kn hk_), trivial⟩ (fun _ _ _ h_ => h_) (fun a9446q h9447q => ?_)
                    clear h9445q a9444q
                    refine WH.take 14 (listed' := #[true, true, true, true, true, true, true, true, true, true, true, true, true, true, true, false, false, false, false, false, false, false, false, false, false, false, false, false, false, false, false, false, false, false, false, false, false, false, false, false, false, false, false, false, false, false]) h9447q rfl rfl (by kernel_rfl) rfl rfl (.bool false) (fun _ _ => by kernel_rfl) ⟨(fun _ _ hk_ => (hS9146q.bring 1 rfl rfl).pool.kn hk_), (fun _ _ hk_ => (hS9146q).pool.kn hk_), trivial⟩ (fun _ _ _ h_ => h_) (fun a9448q h9449q => ?_)
                    clear h9447q a9446q
                    refine WH.skip 15 (listed' := #[true, true, true, true, true, true, true, true, true, true, true, true, true, true, true, true, false, false, false, false, false, false, false, false, false, false, false, false, false, false, false, false, false, false, false, false, false, false, false, false, false, false, false, false, false, false]) h9449q rfl rfl (by kernel_rfl) rfl rfl ⟨(fun _ _ hk_ => (hS9146q.bring 1 rfl rfl).pool.kn hk_), (fun _ _ hk_ => (hS9146q).pool.kn hk_), trivial⟩ (fun _ _ _ h_ => h_) (fun a9450q h9451q => ?_)
                    clear h9449q a9448q
                    refine WH.skip 16 (listed' := #[true, true, true, true, true, true, true, true, true, true, true, true, true, true, true, true, true, false, false, false, false, false, false, false, false, false, false, false, false, false, false, false, false, false, false, false, false, false, false, false, false, false, false, false, false, false]) h9451q rfl rfl (by kernel_rfl) rfl rfl ⟨(fun _ _ hk_ => (hS9146q.bring 1 rfl rfl).pool.kn hk_), (fun _ _ hk_ => (hS9146q).pool.kn hk_), trivial⟩ (fun _ _ _ h_ => h_) (fun a9452q h9453q => ?_)
                    clear h9451q a9450q
                    refine WH.skip 17 (listed' := #[true, true, true, true, true, true, true, true, true, true, true, true, true, true, true, true, true, true, false, false, false, false, false, false, false, false, false, false, false, false, false, false, false, false, false, false, false, false, false, false, false, false, false, false, false, false]) h9453q rfl rfl (by kernel_rfl) rfl rfl ⟨(fun _ _ hk_ => (hS9146q.bring 1 rfl rfl).pool.kn hk_), (fun _ _ hk_ => (hS9146q).pool.kn hk_), trivial⟩ (fun _ _ _ h_ => h_) (fun a9454q h9455q => ?_)
                    clear h9453q a9452q
                    refine WH.skip 18 (listed' := #[true, true, true, true, true, true, true, true, true, true, true, true, true, true, true, true, true, true, true, false, false, false, false, false, false, false, false, false, false, false, false, false, false, false, false, false, false, false, false, false, false, false, false, false, false, false]) h9455q rfl rfl (by kernel_rfl) rfl rfl ⟨(fun _ _ hk_ => (hS9146q.bring 1 rfl rfl).pool.kn hk_), (fun _ _ hk_ => (hS9146q).pool.kn hk_), trivial⟩ (fun _ _ _ h_ => h_) (fun a9456q h9457q => ?_)
                    clear h9455q a9454q
                    refine WH.skip 19 (listed' := #[true, true, true, true, true, true, true, true, true, true, true, true, true, true, true, true, true, true, true, true, false, false, false, false, false, false, false, false, false, false, false, false, false, false, false, false, false, false, false, false, false, false, false, false, false, false]) h9457q rfl rfl (by kernel_rfl) rfl rfl ⟨(fun _ _ hk_ => (hS9146q.bring 1 rfl rfl).pool.kn hk_), (fun _ _ hk_ => (hS9146q).pool.kn hk_), trivial⟩ (fun _ _ _ h_ => h_) (fun a9458q h9459q => ?_)
                    clear h9457q a9456q
                    refine WH.skip 20 (listed' := #[true, true, true, true, true, true, true, true, true, true, true, true, true, true, true, true, true, true, true, true, true, false, false, false, false, false, false, false, false, false, false, false, false, false, false, false, false, false, false, false, false, false, false, false, false, false]) h9459q rfl rfl (by kernel_rfl) rfl rfl ⟨(fun _ _ hk_ => (hS9146q.bring 1 rfl rfl).pool.kn hk_), (fun _ _ hk_ => (hS9146q).pool.kn hk_), trivial⟩ (fun _ _ _ h_ => h_) (fun a9460q h9461q => ?_)
                    clear h9459q a9458q
                    refine WH.skip 21 (listed' := #[true, true, true, true, true, true, true, true, true, true, true, true, true, true, true, true, true, true, true, true, true, true, false, false, false, false, false, false, false, false, false, false, false, false, false, false, false, false, false, false, false, false, false, false, false, false]) h9461q rfl rfl (by kernel_rfl) rfl rfl ⟨(fun _ _ hk_ => (hS9146q.bring 1 rfl rfl).pool.kn hk_), (fun _ _ hk_ => (hS9146q).pool.kn hk_), trivial⟩ (fun _ _ _ h_ => h_) (fun a9462q h9463q => ?_)
                    clear h9461q a9460q
                    refine WH.skip 22 (listed' := #[true, true, true, true, true, true, true, true, true, true, true, true, true, true, true, true, true, true, true, true, true, true, true, false, false, false, false, false, false, false, false, false, false, false, false, false, false, false, false, false, false, false, false, false, false, false]) h9463q rfl rfl (by kernel_rfl) rfl rfl ⟨(fun _ _ hk_ => (hS9146q.bring 1 rfl rfl).pool.kn hk_), (fun _ _ hk_ => (hS9146q).pool.kn hk_), trivial⟩ (fun _ _ _ h_ => h_) (fun a9464q h9465q => ?_)
                    clear h9463q a9462q
                    refine WH.skip 23 (listed' := #[true, true, true, true, true, true, true, true, true, true, true, true, true, true, true, true, true, true, true, true, true, true, true, true, false, false, false, false, false, false, false, false, false, false, false, false, false, false, false, false, false, false, false, false, false, false]) h9465q rfl rfl (by kernel_rfl) rfl rfl ⟨(fun _ _ hk_ => (hS9146q.bring 1 rfl rfl).pool.kn hk_), (fun _ _ hk_ => (hS9146q).pool.kn hk_), trivial⟩ (fun _ _ _ h_ => h_) (fun a9466q h9467q => ?_)
                    clear h9465q a9464q
                    refine WH.skip 24 (listed' := #[true, true, true, true, true, true, true, true, true, true, true, true, true, true, true, true, true, true, true, true, true, true, true, true, true, false, false, false, false, false, false, false, false, false, false, false, false, false, false, false, false, false, false, false, false, false]) h9467q rfl rfl (by kernel_rfl) rfl rfl ⟨(fun _ _ hk_ => (hS9146q.bring 1 rfl rfl).pool.kn hk_), (fun _ _ hk_ => (hS9146q).pool.kn hk_), trivial⟩ (fun _ _ _ h_ => h_) (fun a9468q h9469q => ?_)
                    clear h9467q a9466q
                    refine WH.skip 25 (listed' := #[true, true, true, true, true, true, true, true, true, true, true, true, true, true, true, true, true, true, true, true, true, true, true, true, true, true, false, false, false, false, false, false, false, false, false, false, false, false, false, false, false, false, false, false, false, false]) h9469q rfl rfl (by kernel_rfl) rfl rfl ⟨(fun _ _ hk_ => (hS9146q.bring 1 rfl rfl).pool.kn hk_), (fun _ _ hk_ => (hS9146q).pool.kn hk_), trivial⟩ (fun _ _ _ h_ => h_) (fun a9470q h9471q => ?_)
                    clear h9469q a9468q
                    refine WH.take 26 (listed' := #[true, true, true, true, true, true, true, true, true, true, true, true, true, true, true, true, true, true, true, true, true, true, true, true, true, true, true, false, false, false, false, false, false, false, false, false, false, false, false, false, false, false, false, false, false, false]) h9471q rfl rfl (by kernel_rfl) rfl rfl (.bool false) (fun _ _ => by kernel_rfl) ⟨(fun _ _ hk_ => (hS9146q.bring 1 rfl rfl).pool.kn hk_), (fun _ _ hk_ => (hS9146q).pool.kn hk_), trivial⟩ (fun _ _ _ h_ => h_) (fun a9472q h9473q => ?_)
                    clear h9471q a9470q
                    refine WH.take 27 (listed' := #[true, true, true, true, true, true, true, true, true, true, true, true, true, true, true, true, true, true, true, true, true, true, true, true, true, true, true, true, false, false, false, false, false, false, false, false, false, false, false, false, false, false, false, false, false, false]) h9473q rfl rfl (by kernel_rfl) rfl rfl (.bool false) (fun _ _ => by kernel_rfl) ⟨(fun _ _ hk_ => (hS9146q.bring 1 rfl rfl).pool.kn hk_), (fun _ _ hk_ => (hS9146q).pool.kn hk_), trivial⟩ (fun _ _ _ h_ => h_) (fun a9474q h9475q => ?_)
                    clear h9473q a9472q
                    refine WH.skip 28 (listed' := #[true, true, true, true, true, true, true, true, true, true, true, true, true, true, true, true, true, true, true, true, true, true, true, true, true, true, true, true, true, false, false, false, false, false, false, false, false, false, false, false, false, false, false, false, false, false]) h9475q rfl rfl (by kernel_rfl) rfl rfl ⟨(fun _ _ hk_ => (hS9146q.bring 1 rfl rfl).pool.kn hk_), (fun _ _ hk_ => (hS9146q).pool.kn hk_), trivial⟩ (fun _ _ _ h_ => h_) (fun a9476q h9477q => ?_)
                    clear h9475q a9474q
                    refine WH.skip 29 (listed' := #[true, true, true, true, true, true, true, true, true, true, true, true, true, true, true, true, true, true, true, true, true, true, true, true, true, true, true, true, true, true, false, false, false, false, false, false, false, false, false, false, false, false, false, false, false, false]) h9477q rfl rfl (by kernel_rfl) rfl rfl ⟨(fun _ _ hk_ => (hS9146q.bring 1 rfl rfl).pool.kn hk_), (fun _ _ hk_ => (hS9146q).pool.kn hk_), trivial⟩ (fun _ _ _ h_ => h_) (fun a9478q h9479q => ?_)
                    clear h9477q a9476q
                    refine WH.skip 30 (listed' := #[true, true, true, true, true, true, true, true, true, true, true, true, true, true, true, true, true, true, true, true, true, true, true, true, true, true, true, true, true, true, true, false, false, false, false, false, false, false, false, false, false, false, false, false, false, false]) h9479q rfl rfl (by kernel_rfl) rfl rfl ⟨(fun _ _ hk_ => (hS9146q.bring 1 rfl rfl).pool.kn hk_), (fun _ _ hk_ => (hS9146q).pool.kn hk_), trivial⟩ (fun _ _ _ h_ => h_) (fun a9480q h9481q => ?_)
                    clear h9479q a9478q
                    refine WH.take 31 (listed' := #[true, true, true, true, true, true, true, true, true, true, true, true, true, true, true, true, true, true, true, true, true, true, true, true, true, true, true, true, true, true, true, true, false, false, false, false, false, false, false, false, false, false, false, false, false, false]) h9481q rfl rfl (by kernel_rfl) rfl rfl (.bool false) (fun _ _ => by kernel_rfl) ⟨(fun _ _ hk_ => (hS9146q.bring 1 rfl rfl).pool.kn hk_), (fun _ _ hk_ => (hS9146q).pool.kn hk_), trivial⟩ (fun _ _ _ h_ => h_) (fun a9482q h9483q => ?_)
                    clear h9481q a9480q
                    refine WH.take 32 (listed' := #[true, true, true, true, true, true, true, true, true, true, true, true, true, true, true, true, true, true, true, true, true, true, true, true, true, true, true, true, true, true, true, true, true, false, false, false, false, false, false, false, false, false, false, false, false, false]) h9483q rfl rfl (by kernel_rfl) rfl rfl (.bool false) (fun _ _ => by kernel_rfl) ⟨(fun _ _ hk_ => (hS9146q.bring 1 rfl rfl).pool.kn hk_), (fun _ _ hk_ => (hS9146q).pool.kn hk_), trivial⟩ (fun _ _ _ h_ => h_) (fun a9484q h9485q => ?_)
                    clear h9483q a9482q
                    refine WH.skip 33 (listed' := #[true, true, true, true, true, true, true, true, true, true, true, true, true, true, true, true, true, true, true, true, true, true, true, true, true, true, true, true, true, true, true, true, true, true, false, false, false, false, false, false, false, false, false, false, false, false]) h9485q rfl rfl (by kernel_rfl) rfl rfl ⟨(fun _ _ hk_ => (hS9146q.bring 1 rfl rfl).pool.kn hk_), (fun _ _ hk_ => (hS9146q).pool.kn hk_), trivial⟩ (fun _ _ _ h_ => h_) (fun a9486q h9487q => ?_)
                    clear h9485q a9484q
                    refine WH.skip 34 (listed' := #[true, true, true, true, true, true, true, true, true, true, true, true, true, true, true, true, true, true, true, true, true, true, true, true, true, true, true, true, true, true, true, true, true, true, true, false, false, false, false, false, false, false, false, false, false, false]) h9487q rfl rfl (by kernel_rfl) rfl rfl ⟨(fun _ _ hk_ => (hS9146q.bring 1 rfl rfl).pool.kn hk_), (fun _ _ hk_ => (hS9146q).pool.kn hk_), trivial⟩ (fun _ _ _ h_ => h_) (fun a9488q h9489q => ?_)
                    clear h9487q a9486q
                    refine WH.skip 35 (listed' := #[true, true, true, true, true, true, true, true, true, true, true, true, true, true, true, true, true, true, true, true, true, true, true, true, true, true, true, true, true, true, true, true, true, true, true, true, false, false, false, false, false, false, false, false, false, false]) h9489q rfl rfl (by kernel_rfl) rfl rfl ⟨(fun _ _ hk_ => (hS9146q.bring 1 rfl rfl).pool.kn hk_), (fun _ _ hk_ => (hS9146q).pool.kn hk_), trivial⟩ (fun _ _ _ h_ => h_) (fun a9490q h9491q => ?_)
                    clear h9489q a9488q
                    refine WH.take 36 (listed' := #[true, true, true, true, true, true, true, true, true, true, true, true, true, true, true, true, true, true, true, true, true, true, true, true, true, true, true, true, true, true, true, true, true, true, true, true, true, false, false, false, false, false, false, false, false, false]) h9491q rfl rfl (by kernel_rfl) rfl rfl (.bool false) (fun _ _ => by kernel_rfl) ⟨(fun _ _ hk_ => (hS9146q.bring 1 rfl rfl).pool.kn hk_), (fun _ _ hk_ => (hS9146q).pool.kn hk_), trivial⟩ (fun _ _ _ h_ => h_) (fun a9492q h9493q => ?_)
                    clear h9491q a9490q
                    refine WH.take 37 (listed' := #[true, true, true, true, true, true, true, true, true, true, true, true, true, true, true, true, true, true, true, true, true, true, true, true, true, true, true, true, true, true, true, true, true, true, true, true, true, true, false, false, false, false, false, false, false, false]) h9493q rfl rfl (by kernel_rfl) rfl rfl (.bool false) (fun _ _ => by kernel_rfl) ⟨(fun _ _ hk_ => (hS9146q.bring 1 rfl rfl).pool.kn hk_), (fun _ _ hk_ => (hS9146q).pool.kn hk_), trivial⟩ (fun _ _ _ h_ => h_) (fun a9494q h9495q => ?_)
                    clear h9493q a9492q
                    refine WH.skip 38 (listed' := #[true, true, true, true, true, true, true, true, true, true, true, true, true, true, true, true, true, true, true, true, true, true, true, true, true, true, true, true, true, true, true, true, true, true, true, true, true, true, true, false, false, false, false, false, false, false]) h9495q rfl rfl (by kernel_rfl) rfl rfl ⟨(fun _ _ hk_ => (hS9146q.bring 1 rfl rfl).pool.kn hk_), (fun _ _ hk_ => (hS9146q).pool.kn hk_), trivial⟩ (fun _ _ _ h_ => h_) (fun a9496q h9497q => ?_)
                    clear h9495q a9494q
                    refine WH.skip 39 (listed' := #[true, true, true, true, true, true, true, true, true, true, true, true, true, true, true, true, true, true, true, true, true, true, true, true, true, true, true, true, true, true, true, true, true, true, true, true, true, true, true, true, false, false, false, false, false, false]) h9497q rfl rfl (by kernel_rfl) rfl rfl ⟨(fun _ _ hk_ => (hS9146q.bring 1 rfl rfl).pool.kn hk_), (fun _ _ hk_ => (hS9146q).pool.kn hk_), trivial⟩ (fun _ _ _ h_ => h_) (fun a9498q h9499q => ?_)
                    clear h9497q a9496q
                    refine WH.take 40 (listed' := #[true, true, true, true, true, true, true, true, true, true, true, true, true, true, true, true, true, true, true, true, true, true, true, true, true, true, true, true, true, true, true, true, true, true, true, true, true, true, true, true, true, false, false, false, false, false]) h9499q rfl rfl (by kernel_rfl) rfl rfl (.bool false) (fun _ _ => by kernel_rfl) ⟨(fun _ _ hk_ => (hS9146q.bring 1 rfl rfl).pool.kn hk_), (fun _ _ hk_ => (hS9146q).pool.kn hk_), trivial⟩ (fun _ _ _ h_ => h_) (fun a9500q h9501q => ?_)
                    clear h9499q a9498q
                    refine WH.take 41 (listed' := #[true, true, true, true, true, true, true, true, true, true, true, true, true, true, true, true, true, true, true, true, true, true, true, true, true, true, true, true, true, true, true, true, true, true, true, true, true, true, true, true, true, true, false, false, false, false]) h9501q rfl rfl (by kernel_rfl) rfl rfl (.bool false) (fun _ _ => by kernel_rfl) ⟨(fun _ _ hk_ => (hS9146q.bring 1 rfl rfl).pool.kn hk_), (fun _ _ hk_ => (hS9146q).pool.kn hk_), trivial⟩ (fun _ _ _ h_ => h_) (fun a9502q h9503q => ?_)
                    clear h9501q a9500q
                    refine WH.skip 42 (listed' := #[true, true, true, true, true, true, true, true, true, true, true, true, true, true, true, true, true, true, true, true, true, true, true, true, true, true, true, true, true, true, true, true, true, true, true, true, true, true, true, true, true, true, true, false, false, false]) h9503q rfl rfl (by kernel_rfl) rfl rfl ⟨(fun _ _ hk_ => (hS9146q.bring 1 rfl rfl).pool.kn hk_), (fun _ _ hk_ => (hS9146q).pool.kn hk_), trivial⟩ (fun _ _ _ h_ => h_) (fun a9504q h9505q => ?_)
                    clear h9503q a9502q
                    refine WH.skip 43 (listed' := #[true, true, true, true, true, true, true, true, true, true, true, true, true, true, true, true, true, true, true, true, true, true, true, true, true, true, true, true, true, true, true, true, true, true, true, true, true, true, true, true, true, true, true, true, false, false]) h9505q rfl rfl (by kernel_rfl) rfl rfl ⟨(fun _ _ hk_ => (hS9146q.bring 1 rfl rfl).pool.kn hk_), (fun _ _ hk_ => (hS9146q).pool.kn hk_), trivial⟩ (fun _ _ _ h_ => h_) (fun a9506q h9507q => ?_)
                    clear h9505q a9504q
                    refine WH.take 44 (listed' := #[true, true, true, true, true, true, true, true, true, true, true, true, true, true, true, true, true, true, true, true, true, true, true, true, true, true, true, true, true, true, true, true, true, true, true, true, true, true, true, true, true, true, true, true, true, false]) h9507q rfl rfl (by kernel_rfl) rfl rfl (.bool false) (fun _ _ => by kernel_rfl) ⟨(fun _ _ hk_ => (hS9146q.bring 1 rfl rfl).pool.kn hk_), (fun _ _ hk_ => (hS9146q).pool.kn hk_), trivial⟩ (fun _ _ _ h_ => h_) (fun a9508q h9509q => ?_)
                    clear h9507q a9506q
                    refine WH.take 45 (listed' := #[true, true, true, true, true, true, true, true, true, true, true, true, true, true, true, true, true, true, true, true, true, true, true, true, true, true, true, true, true, true, true, true, true, true, true, true, true, true, true, true, true, true, true, true, true, true]) h9509q rfl rfl (by kernel_rfl) rfl rfl (.bool false) (fun _ _ => by kernel_rfl) ⟨(fun _ _ hk_ => (hS9146q.bring 1 rfl rfl).pool.kn hk_), (fun _ _ hk_ => (hS9146q).pool.kn hk_), trivial⟩ (fun _ _ _ h_ => h_) (fun a9510q h9511q => ?_)
                    clear h9509q a9508q
                    refine WH.done (by kernel_rfl) ?_
                    refine wp_ret ?_
                    have hS9512q : St b w0 W9141q R (M8076q :: Fs) := hS9146q.drop_
                    have hS9513q : St b w0 W9141q R (Fs) := hS9512q.drop_
                    obtain rfl := Option.some.inj H
                    repeat (first | refine then_ret ?_ | refine inBlock_ret ?_ | refine inBlock_go ?_)
                    refine body_ret (v := .bool false) h9511q (by kernel_rfl) (by kernel_rfl) ?_
                    exact ⟨rfl, hS9513q⟩
                · rw [if_neg c8383q] at H
                  have hb_ : (decide ((toS (r8069q.drop (1 : Int).toNat)) = (toS (r8085q.drop (1 : Int).toNat)))) = false := decide_eq_false c8383q
                  try rw [hb_] at h8382q
                  clear hb_
                  refine wp_then h8382q rfl ?_
                  refine wp_seq ?_
                  refine WL.start ?_
                  refine WL.block (c := 1) (m' := 1) h8382q rfl [(8, .bool false)] (by kernel_rfl) (fun a9514q h9515q => ?_)
                  clear h8382q a8381q
                  refine WL.done (by kernel_rfl) ?_
                  refine wp_ret ?_
                  have hS9516q : St b w0 W8086q.drew R (M8076q :: Fs) := hS8296q.drop_
                  have hS9517q : St b w0 W8086q.drew R (Fs) := hS9516q.drop_
                  obtain rfl := Option.some.inj H
                  repeat (first | refine then_ret ?_ | refine inBlock_ret ?_ | refine inBlock_go ?_)
                  refine body_ret (v := .bool false) h9515q (by kernel_rfl) (by kernel_rfl) ?_
                  exact ⟨rfl, hS9517q⟩
              · rw [if_neg c8369q] at H
                cases H
            · rw [if_neg c8359q] at H
              cases H
          · rw [if_neg c8354q] at H
            have hb_ : (decide ((r8069q.length : Int) = (r8085q.length : Int))) = false := decide_eq_false c8354q
            try rw [hb_] at h8353q
            clear hb_
            refine WH.skip 11 (listed' := #[true, true, true, true, true, true, true, true, true, true, true, true, false, false, false, false, false, false, false]) h8353q rfl rfl (by kernel_rfl) rfl rfl ⟨(fun _ _ hk_ => (hS8296q.bring 1 rfl rfl).pool.kn hk_), (fun _ _ hk_ => (hS8296q).pool.kn hk_), trivial⟩ (fun _ _ _ h_ => h_) (fun a9518q h9519q => ?_)
            clear h8353q a8352q
            refine WH.skip 12 (listed' := #[true, true, true, true, true, true, true, true, true, true, true, true, true, false, false, false, false, false, false]) h9519q rfl rfl (by kernel_rfl) rfl rfl ⟨(fun _ _ hk_ => (hS8296q.bring 1 rfl rfl).pool.kn hk_), (fun _ _ hk_ => (hS8296q).pool.kn hk_), trivial⟩ (fun _ _ _ h_ => h_) (fun a9520q h9521q => ?_)
            clear h9519q a9518q
            refine WH.skip 13 (listed' := #[true, true, true, true, true, true, true, true, true, true, true, true, true, true, false, false, false, false, false]) h9521q rfl rfl (by kernel_rfl) rfl rfl ⟨(fun _ _ hk_ => (hS8296q.bring 1 rfl rfl).pool.kn hk_), (fun _ _ hk_ => (hS8296q).pool.kn hk_), trivial⟩ (fun _ _ _ h_ => h_) (fun a9522q h9523q => ?_)
            clear h9521q a9520q
            refine WH.skip 14 (listed' := #[true, true, true, true, true, true, true, true, true, true, true, true, true, true, true, false, false, false, false]) h9523q rfl rfl (by kernel_rfl) rfl rfl ⟨(fun _ _ hk_ => (hS8296q.bring 1 rfl rfl).pool.kn hk_), (fun _ _ hk_ => (hS8296q).pool.kn hk_), trivial⟩ (fun _ _ _ h_ => h_) (fun a9524q h9525q => ?_)
            clear h9523q a9522q
            refine WH.skip 15 (listed' := #[true, true, true, true, true, true, true, true, true, true, true, true, true, true, true, true, false, false, false]) h9525q rfl rfl (by kernel_rfl) rfl rfl ⟨(fun _ _ hk_ => (hS8296q.bring 1 rfl rfl).pool.kn hk_), (fun _ _ hk_ => (hS8296q).pool.kn hk_), trivial⟩ (fun _ _ _ h_ => h_) (fun a9526q h9527q => ?_)
            clear h9525q a9524q
            refine WH.skip 16 (listed' := #[true, true, true, true, true, true, true, true, true, true, true, true, true, true, true, true, true, false, false]) h9527q rfl rfl (by kernel_rfl) rfl rfl ⟨(fun _ _ hk_ => (hS8296q.bring 1 rfl rfl).pool.kn hk_), (fun _ _ hk_ => (hS8296q).pool.kn hk_), trivial⟩ (fun _ _ _ h_ => h_) (fun a9528q h9529q => ?_)
            clear h9527q a9526q
            refine WH.skip 17 (listed' := #[true, true, true, true, true, true, true, true, true, true, true, true, true, true, true, true, true, true, false]) h9529q rfl rfl (by kernel_rfl) rfl rfl ⟨(fun _ _ hk_ => (hS8296q.bring 1 rfl rfl).pool.kn hk_), (fun _ _ hk_ => (hS8296q).pool.kn hk_), trivial⟩ (fun _ _ _ h_ => h_) (fun a9530q h9531q => ?_)
            clear h9529q a9528q
            refine WH.take 18 (listed' := #[true, true, true, true, true, true, true, true, true, true, true, true, true, true, true, true, true, true, true]) h9531q rfl rfl (by kernel_rfl) rfl rfl (.bool true) (fun _ _ => by kernel_rfl) ⟨(fun _ _ hk_ => (hS8296q.bring 1 rfl rfl).pool.kn hk_), (fun _ _ hk_ => (hS8296q).pool.kn hk_), trivial⟩ (fun _ _ _ h_ => h_) (fun a9532q h9533q => ?_)
            clear h9531q a9530q
            refine WH.done (by kernel_rfl) ?_
            refine wp_then h9533q rfl ?_
            refine wp_seq ?_
            refine WL.start ?_
            refine WL.block (c := 1) (m' := 1) h9533q rfl [(8, .bool false)] (by kernel_rfl) (fun a9534q h9535q => ?_)
            clear h9533q a9532q
            refine WL.done (by kernel_rfl) ?_
            refine wp_ret ?_
            have hS9536q : St b w0 W8086q.drew R (M8076q :: Fs) := hS8296q.drop_
            have hS9537q : St b w0 W8086q.drew R (Fs) := hS9536q.drop_
            obtain rfl := Option.some.inj H
            repeat (first | refine then_ret ?_ | refine inBlock_ret ?_ | refine inBlock_go ?_)
            refine body_ret (v := .bool false) h9535q (by kernel_rfl) (by kernel_rfl) ?_
            exact ⟨rfl, hS9537q⟩
end Go.Proofs.Ytonhiiedhnhanaa.Sl
