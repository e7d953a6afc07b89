/- What the functions of this program compute, told as plain functions, and that the calls come to just that. Printed by this session's program; part 4. -/
import Derived.Test.YtgbkllnfjehfcaaDoorCode3
set_option linter.unusedVariables false
set_option linter.unusedSimpArgs false
set_option linter.unnecessarySimpa false
namespace Go.Proofs.YtgbkllnfjehfcaaDoor.Sl
open Go Go.RowKit Go.Proofs.Sl
/-! ### louver/louverlaw05.DyntablePlays -/
mutual
def louverlaw05qDyntablePlays.l0 : Nat → S51 → S41 → Int → (List S43) → Option (Bool)
  | 0, _, _, _, _ => none
  | k + 1, x5742q, x5745q, x5748q, p1 => if x5748q < (p1.length : Int) then (if 0 ≤ x5748q then (if ((gt z43 p1 x5748q).f0) = 0 then (bnd1 (dyntable_Table_Add.f k x5742q (⟨(gt z43 p1 x5748q).f1.f0, (gt z43 p1 x5748q).f1.f1, (gt z43 p1 x5748q).f1.f2⟩ : S29)) fun r6126q => (bnd1 (louverref05qT_Add.f k (⟨x5745q.f0, x5745q.f1⟩ : S41) (⟨(gt z43 p1 x5748q).f1.f0, (gt z43 p1 x5748q).f1.f1, (gt z43 p1 x5748q).f1.f2⟩ : S29)) fun r6155q => (louverlaw05qDyntablePlays.j1 k r6126q (⟨r6155q.f0, r6155q.f1⟩ : S41) p1 x5748q))) else (if ((gt z43 p1 x5748q).f0) = 1 then (bnd1 (dyntable_Table_Limit.f k x5742q ((gt z43 p1 x5748q).f2)) fun r6192q => (bnd1 (louverref05qT_Limit.f k (⟨x5745q.f0, x5745q.f1⟩ : S41) (IntKind.i64.wrap ((gt z43 p1 x5748q).f2))) fun r6223q => (louverlaw05qDyntablePlays.j1 k r6192q (⟨r6223q.f0, r6223q.f1⟩ : S41) p1 x5748q))) else (if ((gt z43 p1 x5748q).f0) = 2 then (bnd2 (dyntable_Table_At.f x5742q ((gt z43 p1 x5748q).f3)) fun r6260q r6261q => (bnd2 (louverref05qT_At.f (⟨x5745q.f0, x5745q.f1⟩ : S41) ((gt z43 p1 x5748q).f3)) fun r6303q r6304q => (if (decide (r6260q.f0 = r6303q.f0) && (decide (r6260q.f1 = r6303q.f1) && decide (r6260q.f2 = r6303q.f2))) = true then (if (r6261q != r6304q) = true then (some false) else (louverlaw05qDyntablePlays.j1 k x5742q x5745q p1 x5748q)) else (some false)))) else (bnd2 (dyntable_Table_Find.f k x5742q ((gt z43 p1 x5748q).f1.f0) ((gt z43 p1 x5748q).f1.f1)) fun r6394q r6395q => (bnd2 (louverref05qT_Find.f k (⟨x5745q.f0, x5745q.f1⟩ : S41) ((gt z43 p1 x5748q).f1.f0) ((gt z43 p1 x5748q).f1.f1)) fun r6430q r6431q => (if r6394q = r6430q then (if (r6395q != r6431q) = true then (some false) else (louverlaw05qDyntablePlays.j1 k x5742q x5745q p1 x5748q)) else (some false))))))) else (none)) else (louverlaw05qDyntablePlays.l2 k 0 x5742q x5745q)
def louverlaw05qDyntablePlays.j1 : Nat → S51 → S41 → (List S43) → Int → Option (Bool)
  | 0, _, _, _, _ => none
  | k + 1, x6111q, x6114q, p1, x5748q => bnd1 (dyntable_Table_Size.f x6111q) fun r6876q => (bnd1 (louverref05qT_Size.f k (⟨x6114q.f0, x6114q.f1⟩ : S41)) fun r6887q => (if r6876q = r6887q then (bnd1 (dyntable_Table_Len.f x6111q) fun r6910q => (if r6910q = (x6114q.f0.length : Int) then (bnd1 (dyntable_Table_Most.f x6111q) fun r6933q => (if r6933q = x6114q.f1 then (bnd1 (dyntable_Table_Size.f x6111q) fun r6954q => (bnd1 (dyntable_Table_Most.f x6111q) fun r6964q => (if r6954q > r6964q then (some false) else (louverlaw05qDyntablePlays.l0 k x6111q x6114q (IntKind.i64.wrap (x5748q + 1)) p1)))) else (some false))) else (some false))) else (some false)))
def louverlaw05qDyntablePlays.l2 : Nat → Int → S51 → S41 → Option (Bool)
  | 0, _, _, _ => none
  | k + 1, x7113q, x5742q, x5745q => if x7113q < (x5745q.f0.length : Int) then (bnd2 (dyntable_Table_At.f x5742q (IntKind.i64.wrap (62 + x7113q))) fun r7126q r7127q => (if r7127q = true then (if 0 ≤ x7113q then (if (decide (r7126q.f0 = ((gt z29 x5745q.f0 x7113q).f0)) && (decide (r7126q.f1 = ((gt z29 x5745q.f0 x7113q).f1)) && decide (r7126q.f2 = ((gt z29 x5745q.f0 x7113q).f2)))) = true then (louverlaw05qDyntablePlays.l2 k (IntKind.i64.wrap (x7113q + 1)) x5742q x5745q) else (some false)) else (none)) else (some false))) else (bnd1 (louverlaw05qfixed.f k) fun r7314q => (some r7314q))
end
def louverlaw05qDyntablePlays.f (k : Nat) (p0 : Int) (p1 : (List S43)) : Option (Bool) := bnd1 (louverlaw05qgreat.f k p1) fun r5691q => (if r5691q = true then (bnd1 (louverlaw05qfixed.f k) fun r5700q => (some r5700q)) else (bnd1 (dyntable_New.f p0) fun r5712q => (louverlaw05qDyntablePlays.l0 k r5712q (⟨([] : List S29), IntKind.i64.wrap p0⟩ : S41) 0 p1)))
set_option maxHeartbeats 2000000 in
set_option maxRecDepth 100000 in
theorem louverlaw05qDyntablePlays.calls (k : Nat) {b : Nat} {w0 W : World} {R : Frag} {Fs : List Frag} {p0 : Int} {p1 : (List S43)} {v1 : Value} {r0q : Bool} (hp1 : Rds k43 b w0 R v1 p1) (hg0 : Rds k29 b w0 [] (.slice (some ⟨0, 0, none⟩) 61 61) G0) (H : louverlaw05qDyntablePlays.f k p0 p1 = some r0q) (hS : St b w0 W R (Fs)) :
    Calls Tryd.prog 5 ([.int .u32 p0, v1] : List Value).toArray W (fun e W' => e = .returned (.bool r0q) ∧ St b w0 W' R (Fs)) := by
  obtain ⟨A1, c1, rfl⟩ := hp1.form
  unfold louverlaw05qDyntablePlays.f at H
  refine calls_enter Tryd.func5 rfl 165 rfl (by kernel_rfl) (fun a h => ?_)
  refine wp_seq ?_
  refine WL.start ?_
  refine WL.block (c := 1) (m' := 1) h rfl [(4, .bool false)] (by kernel_rfl) (fun a5686q h5687q => ?_)
  refine WL.done (by kernel_rfl) ?_
  refine wp_seq ?_
  refine wp_seq ?_
  refine WL.start ?_
  refine WL.block (c := 1) (m' := 1) h5687q rfl [(20, .slice A1 p1.length c1)] (by kernel_rfl) (fun a5688q h5689q => ?_)
  clear h5687q a5686q
  obtain ⟨r5691q, A5690q, H⟩ := bind1 H
  refine WL.op' (m := 1) h5689q rfl rfl ?_
  refine owp_call [.slice A1 p1.length c1] h5689q rfl (by kernel_rfl) rfl Tryd.func16 (by kernel_rfl) rfl (by kernel_rfl) (louverlaw05qgreat.calls k hp1 A5690q hS) (fun e5693q W5692q hp5694q => ?_)
  obtain ⟨rfl, hS5697q⟩ := hp5694q
  refine ⟨_, rfl, fun a5695q h5696q => ?_⟩
  clear h5689q a5688q
  refine WL.done (by kernel_rfl) ?_
  by_cases c5698q : r5691q = true
  · rw [if_pos c5698q] at H
    have hb_ : r5691q = true := c5698q
    try rw [hb_] at h5696q
    clear hb_
    refine wp_then h5696q rfl ?_
    refine wp_seq ?_
    refine WL.start ?_
    obtain ⟨r5700q, A5699q, H⟩ := bind1 H
    refine WL.op' (m := 0) h5696q rfl rfl ?_
    refine owp_call [] h5696q rfl (by kernel_rfl) rfl Tryd.func8 (by kernel_rfl) rfl (by kernel_rfl) (louverlaw05qfixed.calls k hg0 A5699q hS5697q) (fun e5702q W5701q hp5703q => ?_)
    obtain ⟨rfl, hS5706q⟩ := hp5703q
    refine ⟨_, rfl, fun a5704q h5705q => ?_⟩
    clear h5696q a5695q
    refine WL.block (c := 1) (m' := 2) h5705q rfl [(4, .bool r5700q)] (by kernel_rfl) (fun a5707q h5708q => ?_)
    clear h5705q a5704q
    refine WL.done (by kernel_rfl) ?_
    refine wp_ret ?_
    obtain rfl := Option.some.inj H
    repeat (first | refine then_ret ?_ | refine inBlock_ret ?_ | refine inBlock_go ?_)
    refine body_ret (v := .bool r5700q) h5708q (by kernel_rfl) (by kernel_rfl) ?_
    exact ⟨rfl, hS5706q⟩
  · rw [if_neg c5698q] at H
    have hb_ : r5691q = false := (Bool.eq_false_iff.2 c5698q)
    try rw [hb_] at h5696q
    clear hb_
    refine wp_else h5696q rfl ?_
    refine wp_skip ?_
    refine wp_seq ?_
    refine WL.start ?_
    refine WL.block (c := 1) (m' := 1) h5696q rfl [(23, .int .u32 p0)] (by kernel_rfl) (fun a5709q h5710q => ?_)
    clear h5696q a5695q
    obtain ⟨r5712q, A5711q, H⟩ := bind1 H
    refine WL.op' (m := 1) h5710q rfl rfl ?_
    refine owp_call [.int .u32 p0] h5710q rfl (by kernel_rfl) rfl Tryd.func9 (by kernel_rfl) rfl (by kernel_rfl) (dyntable_New.calls  A5711q hS5697q) (fun e5714q W5713q hp5715q => ?_)
    obtain ⟨v5718q, M5719q, rfl, hr5720q, hS5721q⟩ := hp5715q
    refine ⟨_, rfl, fun a5716q h5717q => ?_⟩
    clear h5710q a5709q
    refine WL.block (c := 1) (m' := 3) h5717q rfl [(5, v5718q)] (by kernel_rfl) (fun a5722q h5723q => ?_)
    clear h5717q a5716q
    refine WL.done (by kernel_rfl) ?_
    refine wp_seq ?_
    refine WL.start ?_
    refine WL.block (c := 3) (m' := 3) h5723q rfl [(27, .agg #[.slice none 0 0, .int .i64 (IntKind.i64.wrap p0)]), (26, .int .i64 (IntKind.i64.wrap p0)), (25, .int .u32 p0)] (by kernel_rfl) (fun a5724q h5725q => ?_)
    clear h5723q a5722q
    refine WL.op' (m := 3) h5725q rfl rfl ?_
    refine owp_new (fun g_ => .pointer (some ⟨g_, 0, none⟩)) (.cells ([.slice none 0 0, .int .i64 0] : List Value).toArray 41 (0, 0)) h5725q rfl (by kernel_rfl) (by kernel_rfl) hS5721q (fun a5726q W5728q g5729q h5727q hS5730q => ?_)
    clear h5725q a5724q
    refine WL.op' (m := 4) h5727q rfl rfl ?_
    refine owp_store (i := 0) (vs := ([.slice none 0 0, .int .i64 (IntKind.i64.wrap p0)] : List Value)) h5727q rfl (by kernel_rfl) rfl rfl rfl rfl (by simp [Value.oneCell']) (by kernel_rfl) hS5730q (by simp) (cs' := ([.slice none 0 0, .int .i64 (IntKind.i64.wrap p0)] : List Value)) rfl (fun a5731q W5733q h5732q hS5734q => ?_)
    clear h5727q a5726q
    refine WL.done (by kernel_rfl) ?_
    refine wp_seq ?_
    refine wp_seq ?_
    refine WL.start ?_
    refine WL.block (c := 3) (m' := 3) h5732q rfl [(30, .int .i64 0), (29, .int .i64 (p1.length : Int)), (28, .slice A1 p1.length c1)] (by kernel_rfl) (fun a5735q h5736q => ?_)
    clear h5732q a5731q
    refine WL.done (by kernel_rfl) ?_
    refine wp_block ?_
    obtain ⟨M5750q, hr5749q, hM_⟩ := k41qmk (b := b) (w0 := w0) (R := R) (x := (⟨([] : List S29), IntKind.i64.wrap p0⟩ : S41)) (gvf0 := Row.nil)
    have hp5751q : Ptr k41 41 b w0 R (.pointer (some ⟨g5729q, 0, none⟩)) (⟨([] : List S29), IntKind.i64.wrap p0⟩ : S41) ((g5729q, .cells ([.slice none 0 0, .int .i64 (IntKind.i64.wrap p0)] : List Value).toArray 41 (0, 0)) :: M5750q) := ⟨_, _, _, rfl, rfl, hr5749q⟩
    rw [hM_] at hp5751q
    have hS5753q : St b w0 W5733q R (((g5729q, .cells ([.slice none 0 0, .int .i64 (IntKind.i64.wrap p0)] : List Value).toArray 41 (0, 0)) :: ([])) :: M5719q :: Fs) := hS5734q.assoc (by simp only [List.flatten_cons, List.append_assoc, List.cons_append, List.nil_append, List.append_nil])
    obtain ⟨M5754q, hM_⟩ : ∃ y : Frag, y = ((g5729q, .cells ([.slice none 0 0, .int .i64 (IntKind.i64.wrap p0)] : List Value).toArray 41 (0, 0)) :: ([])) := ⟨_, rfl⟩
    rw [← hM_] at hp5751q hS5753q
    clear hM_
    have hS5755q : St b w0 W5733q R (M5719q :: M5754q :: Fs) := hS5753q.bring 1 rfl rfl
    refine wp_loop_ghost (fun kq_ a_ W_ => ∃ (x5742q : S51), ∃ (M5743q : Frag), ∃ (x5745q : S41), ∃ (M5746q : Frag), ∃ (x5748q : Int), Hd a_ 165 [(5, v5718q), (6, .pointer (some ⟨g5729q, 0, none⟩)), (28, .slice A1 p1.length c1), (29, .int .i64 (p1.length : Int)), (30, .int .i64 x5748q)] ∧ Asd (louverlaw05qDyntablePlays.l0 kq_ x5742q x5745q x5748q p1 = some r0q) ∧ Asd (kq_ ≤ k) ∧ Asd (St b w0 W_ R (M5743q :: M5746q :: Fs)) ∧ Asd (Ptr k51 51 b w0 R v5718q x5742q M5743q) ∧ Asd (Ptr k41 41 b w0 R (.pointer (some ⟨g5729q, 0, none⟩)) x5745q M5746q)) k ⟨r5712q, M5719q, (⟨([] : List S29), IntKind.i64.wrap p0⟩ : S41), M5754q, 0, h5736q.keep ⟨rfl, rfl, rfl, rfl, rfl, trivial⟩, ⟨H⟩, ⟨Nat.le_refl _⟩, ⟨hS5755q⟩, ⟨hr5720q⟩, ⟨hp5751q⟩⟩ ?_
    clear H hS5755q
    rintro k5741q a5738q W5739q ⟨x5742q, M5743q, x5745q, M5746q, x5748q, h5737q, ⟨H⟩, ⟨hkk5741q⟩, ⟨hS5740q⟩, ⟨hr5744q⟩, ⟨hr5747q⟩⟩
    obtain _ | k5756q := k5741q
    · exact absurd H (by simp [louverlaw05qDyntablePlays.l0])
    simp only [louverlaw05qDyntablePlays.l0] at H
    refine wp_seq ?_
    refine WL.start ?_
    refine WL.block (c := 1) (m' := 1) h5737q rfl [(31, .bool (decide (x5748q < (p1.length : Int))))] (by kernel_rfl) (fun a5757q h5758q => ?_)
    clear h5737q a5738q
    refine WL.done (by kernel_rfl) ?_
    refine wp_seq ?_
    by_cases c5759q : x5748q < (p1.length : Int)
    · rw [if_pos c5759q] at H
      have hb_ : (decide (x5748q < (p1.length : Int))) = true := decide_eq_true c5759q
      try rw [hb_] at h5758q
      clear hb_
      refine wp_then h5758q rfl ?_
      refine wp_skip ?_
      refine wp_seq ?_
      refine wp_block ?_
      refine wp_seq ?_
      refine WL.start ?_
      by_cases c5760q : 0 ≤ x5748q
      · rw [if_pos c5760q] at H
        have hi5763q : 0 ≤ x5748q := by first | assumption | omega
        have hi5764q : x5748q < (p1.length : Int) := by first | assumption | omega
        obtain ⟨ad5761q, _, ha5762q, -, -⟩ := Rds.elemAny hp1 hi5763q (gt_get (z := z43) hi5763q hi5764q)
        refine WL.op' (m := 0) h5758q rfl rfl ?_
        refine owp_run (v := .pointer (some (ad5761q.add (x5748q.toNat * 6)))) h5758q rfl (by kernel_rfl) (run_idx (ad := ad5761q) (sz := 6) rfl (by rw [← ha5762q]; rfl) rfl Tryd.underlying38 (by kernel_rfl) hi5763q hi5764q) (fun a5765q h5766q => ?_)
        clear h5758q a5757q
        obtain ⟨ad5767q, cs5768q, ha5769q, hr5771q, hc5770q⟩ := Rds.elemAny hp1 hi5763q (gt_get (z := z43) hi5763q hi5764q)
        rw [ha5762q] at ha5769q; obtain rfl := Option.some.inj ha5769q
        obtain rfl := k43qrd hr5771q
        refine WL.op' (m := 1) h5766q rfl rfl ?_
        refine owp_run (v := .agg #[.int .i64 ((gt z43 p1 x5748q).f0), .string (mkS ((gt z43 p1 x5748q).f1.f0)), .string (mkS ((gt z43 p1 x5748q).f1.f1)), .bool ((gt z43 p1 x5748q).f1.f2), .int .u32 ((gt z43 p1 x5748q).f2), .int .i64 ((gt z43 p1 x5748q).f3)]) h5766q rfl (by kernel_rfl) (run_loadN rfl rfl Tryd.underlying43 rfl (cs := ([.int .i64 ((gt z43 p1 x5748q).f0), .string (mkS ((gt z43 p1 x5748q).f1.f0)), .string (mkS ((gt z43 p1 x5748q).f1.f1)), .bool ((gt z43 p1 x5748q).f1.f2), .int .u32 ((gt z43 p1 x5748q).f2), .int .i64 ((gt z43 p1 x5748q).f3)] : List Value)) (by kernel_rfl) (hc5770q _ (fun _ _ hk_ => hS5740q.kn hk_))) (fun a5772q h5773q => ?_)
        clear h5766q a5765q
        refine WL.op' (m := 2) h5773q rfl rfl ?_
        refine owp_new (fun g_ => .pointer (some ⟨g_, 0, none⟩)) (.cells ([.int .i64 0, .string (mkS ([] : List UInt8)), .string (mkS ([] : List UInt8)), .bool false, .int .u32 0, .int .i64 0] : List Value).toArray 43 (0, 0)) h5773q rfl (by kernel_rfl) (by kernel_rfl) hS5740q (fun a5774q W5776q g5777q h5775q hS5778q => ?_)
        clear h5773q a5772q
        refine WL.op' (m := 3) h5775q rfl rfl ?_
        refine owp_store (i := 0) (vs := ([.int .i64 ((gt z43 p1 x5748q).f0), .string (mkS ((gt z43 p1 x5748q).f1.f0)), .string (mkS ((gt z43 p1 x5748q).f1.f1)), .bool ((gt z43 p1 x5748q).f1.f2), .int .u32 ((gt z43 p1 x5748q).f2), .int .i64 ((gt z43 p1 x5748q).f3)] : List Value)) h5775q rfl (by kernel_rfl) rfl rfl rfl rfl (by simp [Value.oneCell']) (by kernel_rfl) hS5778q (by simp) (cs' := ([.int .i64 ((gt z43 p1 x5748q).f0), .string (mkS ((gt z43 p1 x5748q).f1.f0)), .string (mkS ((gt z43 p1 x5748q).f1.f1)), .bool ((gt z43 p1 x5748q).f1.f2), .int .u32 ((gt z43 p1 x5748q).f2), .int .i64 ((gt z43 p1 x5748q).f3)] : List Value)) rfl (fun a5779q W5781q h5780q hS5782q => ?_)
        clear h5775q a5774q
        refine WL.done (by kernel_rfl) ?_
        refine wp_seq ?_
        refine wp_seq ?_
        refine WL.start ?_
        refine WL.block (c := 1) (m' := 1) h5780q rfl [(34, .pointer (some ⟨g5777q, 0, none⟩))] (by kernel_rfl) (fun a5783q h5784q => ?_)
        clear h5780q a5779q
        refine WL.op' (m := 1) h5784q rfl rfl ?_
        refine owp_run (v := .int .i64 ((gt z43 p1 x5748q).f0)) h5784q rfl (by kernel_rfl) (run_load1 rfl rfl Tryd.underlying3 rfl (hS5782q.cell (i := 0) rfl)) (fun a5785q h5786q => ?_)
        clear h5784q a5783q
        refine WL.done (by kernel_rfl) ?_
        refine wp_meet (I := fun a_ W_ => ∃ kq_, ∃ (x6111q : S51), ∃ (M6112q : Frag), ∃ (x6114q : S41), ∃ (M6115q : Frag), Hd a_ 165 [(5, v5718q), (6, .pointer (some ⟨g5729q, 0, none⟩)), (28, .slice A1 p1.length c1), (29, .int .i64 (p1.length : Int)), (30, .int .i64 x5748q)] ∧ Asd (louverlaw05qDyntablePlays.j1 kq_ x6111q x6114q p1 x5748q = some r0q) ∧ Asd (kq_ ≤ k5756q) ∧ Asd (St b w0 W_ R (M6112q :: M6115q :: Fs)) ∧ Asd (Ptr k51 51 b w0 R v5718q x6111q M6112q) ∧ Asd (Ptr k41 41 b w0 R (.pointer (some ⟨g5729q, 0, none⟩)) x6114q M6115q)) ?_ ?_
        · refine wp_block ?_
          refine wp_seq ?_
          refine WL.start ?_
          refine WL.block (c := 2) (m' := 2) h5786q rfl [(66, .bool (decide (((gt z43 p1 x5748q).f0) = 0))), (67, .bool (decide (((gt z43 p1 x5748q).f0) = 0)))] (by kernel_rfl) (fun a6117q h6118q => ?_)
          clear h5786q a5785q
          refine WL.done (by kernel_rfl) ?_
          by_cases c6119q : ((gt z43 p1 x5748q).f0) = 0
          · rw [if_pos c6119q] at H
            have hb_ : (decide (((gt z43 p1 x5748q).f0) = 0)) = true := decide_eq_true c6119q
            try rw [hb_] at h6118q
            clear hb_
            refine wp_then h6118q rfl ?_
            refine wp_seq ?_
            refine WL.start ?_
            refine WL.block (c := 2) (m' := 2) h6118q rfl [(69, .pointer (some ⟨g5777q, 1, none⟩)), (68, v5718q)] (by kernel_rfl) (fun a6120q h6121q => ?_)
            clear h6118q a6117q
            refine WL.op' (m := 2) h6121q rfl rfl ?_
            refine owp_run (v := .agg #[.string (mkS ((gt z43 p1 x5748q).f1.f0)), .string (mkS ((gt z43 p1 x5748q).f1.f1)), .bool ((gt z43 p1 x5748q).f1.f2)]) h6121q rfl (by kernel_rfl) (run_loadN rfl rfl Tryd.underlying29 rfl (cs := ([.string (mkS ((gt z43 p1 x5748q).f1.f0)), .string (mkS ((gt z43 p1 x5748q).f1.f1)), .bool ((gt z43 p1 x5748q).f1.f2)] : List Value)) (by kernel_rfl) (hS5782q.cells (vs := ([.string (mkS ((gt z43 p1 x5748q).f1.f0)), .string (mkS ((gt z43 p1 x5748q).f1.f1)), .bool ((gt z43 p1 x5748q).f1.f2)] : List Value)) rfl)) (fun a6122q h6123q => ?_)
            clear h6121q a6120q
            have hS6124q : St b w0 W5781q R (M5743q :: [(g5777q, .cells ([.int .i64 ((gt z43 p1 x5748q).f0), .string (mkS ((gt z43 p1 x5748q).f1.f0)), .string (mkS ((gt z43 p1 x5748q).f1.f1)), .bool ((gt z43 p1 x5748q).f1.f2), .int .u32 ((gt z43 p1 x5748q).f2), .int .i64 ((gt z43 p1 x5748q).f3)] : List Value).toArray 43 (0, 0))] :: M5746q :: Fs) := hS5782q.bring 1 rfl rfl
            obtain ⟨r6126q, A6125q, H⟩ := bind1 H
            refine WL.op' (m := 3) h6123q rfl rfl ?_
            refine owp_call [v5718q, .agg #[.string (mkS ((gt z43 p1 x5748q).f1.f0)), .string (mkS ((gt z43 p1 x5748q).f1.f1)), .bool ((gt z43 p1 x5748q).f1.f2)]] h6123q rfl (by kernel_rfl) rfl Tryd.func10 (by kernel_rfl) rfl (by kernel_rfl) (dyntable_Table_Add.calls (p1 := (⟨(gt z43 p1 x5748q).f1.f0, (gt z43 p1 x5748q).f1.f1, (gt z43 p1 x5748q).f1.f2⟩ : S29)) k5756q hr5744q A6125q hS6124q) (fun e6128q W6127q hp6129q => ?_)
            obtain ⟨M6132q, rfl, hr6133q, hS6134q⟩ := hp6129q
            refine ⟨_, rfl, fun a6130q h6131q => ?_⟩
            clear h6123q a6122q
            refine WL.done (by kernel_rfl) ?_
            refine WL.start ?_
            have hS6135q : St b w0 W6127q R (M5746q :: M6132q :: [(g5777q, .cells ([.int .i64 ((gt z43 p1 x5748q).f0), .string (mkS ((gt z43 p1 x5748q).f1.f0)), .string (mkS ((gt z43 p1 x5748q).f1.f1)), .bool ((gt z43 p1 x5748q).f1.f2), .int .u32 ((gt z43 p1 x5748q).f2), .int .i64 ((gt z43 p1 x5748q).f3)] : List Value).toArray 43 (0, 0))] :: Fs) := hS6134q.bring 2 rfl rfl
            obtain ⟨g6136q, cs6137q, M6138q, hv_, hM_, hr6139q⟩ := hr5747q
            obtain ⟨v6140q, M6141q, rfl, hM2q, hr6142q⟩ := k41qrep hr6139q
            subst hM2q
            subst hM_
            have hg_ : g5729q = g6136q := by simpa using hv_
            subst hg_
            clear hv_
            replace hr6142q : Row k29 29 b w0 R v6140q x5745q.f0 M6138q := hr6142q
            obtain ⟨A6143q, c6144q, rfl⟩ := hr6142q.form
            have hS6145q : St b w0 W6127q R ([(g5729q, .cells ([.slice A6143q x5745q.f0.length c6144q, .int .i64 x5745q.f1] : List Value).toArray 41 (0, 0))] :: M6138q :: M6132q :: [(g5777q, .cells ([.int .i64 ((gt z43 p1 x5748q).f0), .string (mkS ((gt z43 p1 x5748q).f1.f0)), .string (mkS ((gt z43 p1 x5748q).f1.f1)), .bool ((gt z43 p1 x5748q).f1.f2), .int .u32 ((gt z43 p1 x5748q).f2), .int .i64 ((gt z43 p1 x5748q).f3)] : List Value).toArray 43 (0, 0))] :: Fs) := hS6135q.assoc (by simp only [List.flatten_cons, List.append_assoc, List.cons_append, List.nil_append, List.append_nil])
            refine WL.op' (m := 0) h6131q rfl rfl ?_
            refine owp_run (v := .agg #[.slice A6143q x5745q.f0.length c6144q, .int .i64 x5745q.f1]) h6131q rfl (by kernel_rfl) (run_loadN rfl rfl Tryd.underlying41 rfl (cs := ([.slice A6143q x5745q.f0.length c6144q, .int .i64 x5745q.f1] : List Value)) (by kernel_rfl) (hS6145q.cells (vs := ([.slice A6143q x5745q.f0.length c6144q, .int .i64 x5745q.f1] : List Value)) rfl)) (fun a6146q h6147q => ?_)
            clear h6131q a6130q
            refine WL.block (c := 1) (m' := 2) h6147q rfl [(73, .pointer (some ⟨g5777q, 1, none⟩))] (by kernel_rfl) (fun a6148q h6149q => ?_)
            clear h6147q a6146q
            have hS6150q : St b w0 W6127q R ([(g5777q, .cells ([.int .i64 ((gt z43 p1 x5748q).f0), .string (mkS ((gt z43 p1 x5748q).f1.f0)), .string (mkS ((gt z43 p1 x5748q).f1.f1)), .bool ((gt z43 p1 x5748q).f1.f2), .int .u32 ((gt z43 p1 x5748q).f2), .int .i64 ((gt z43 p1 x5748q).f3)] : List Value).toArray 43 (0, 0))] :: [(g5729q, .cells ([.slice A6143q x5745q.f0.length c6144q, .int .i64 x5745q.f1] : List Value).toArray 41 (0, 0))] :: M6138q :: M6132q :: Fs) := hS6145q.bring 3 rfl rfl
            refine WL.op' (m := 2) h6149q rfl rfl ?_
            refine owp_run (v := .agg #[.string (mkS ((gt z43 p1 x5748q).f1.f0)), .string (mkS ((gt z43 p1 x5748q).f1.f1)), .bool ((gt z43 p1 x5748q).f1.f2)]) h6149q rfl (by kernel_rfl) (run_loadN rfl rfl Tryd.underlying29 rfl (cs := ([.string (mkS ((gt z43 p1 x5748q).f1.f0)), .string (mkS ((gt z43 p1 x5748q).f1.f1)), .bool ((gt z43 p1 x5748q).f1.f2)] : List Value)) (by kernel_rfl) (hS6150q.cells (vs := ([.string (mkS ((gt z43 p1 x5748q).f1.f0)), .string (mkS ((gt z43 p1 x5748q).f1.f1)), .bool ((gt z43 p1 x5748q).f1.f2)] : List Value)) rfl)) (fun a6151q h6152q => ?_)
            clear h6149q a6148q
            have hS6153q : St b w0 W6127q R (M6138q :: [(g5777q, .cells ([.int .i64 ((gt z43 p1 x5748q).f0), .string (mkS ((gt z43 p1 x5748q).f1.f0)), .string (mkS ((gt z43 p1 x5748q).f1.f1)), .bool ((gt z43 p1 x5748q).f1.f2), .int .u32 ((gt z43 p1 x5748q).f2), .int .i64 ((gt z43 p1 x5748q).f3)] : List Value).toArray 43 (0, 0))] :: [(g5729q, .cells ([.slice A6143q x5745q.f0.length c6144q, .int .i64 x5745q.f1] : List Value).toArray 41 (0, 0))] :: M6132q :: Fs) := hS6150q.bring 2 rfl rfl
            obtain ⟨r6155q, A6154q, H⟩ := bind1 H
            refine WL.op' (m := 3) h6152q rfl rfl ?_
            refine owp_call [.agg #[.slice A6143q x5745q.f0.length c6144q, .int .i64 x5745q.f1], .agg #[.string (mkS ((gt z43 p1 x5748q).f1.f0)), .string (mkS ((gt z43 p1 x5748q).f1.f1)), .bool ((gt z43 p1 x5748q).f1.f2)]] h6152q rfl (by kernel_rfl) rfl Tryd.func17 (by kernel_rfl) rfl (by kernel_rfl) (louverref05qT_Add.calls (p0 := (⟨x5745q.f0, x5745q.f1⟩ : S41)) (p1 := (⟨(gt z43 p1 x5748q).f1.f0, (gt z43 p1 x5748q).f1.f1, (gt z43 p1 x5748q).f1.f2⟩ : S29)) k5756q hr6142q A6154q hS6153q) (fun e6157q W6156q hp6158q => ?_)
            obtain ⟨v6161q, M6162q, rfl, hr6163q, hS6164q⟩ := hp6158q
            refine ⟨_, rfl, fun a6159q h6160q => ?_⟩
            clear h6152q a6151q
            obtain ⟨A6165q, c6166q, rfl⟩ := hr6163q.form
            have hS6167q : St b w0 W6156q R ([(g5729q, .cells ([.slice A6143q x5745q.f0.length c6144q, .int .i64 x5745q.f1] : List Value).toArray 41 (0, 0))] :: M6162q :: [(g5777q, .cells ([.int .i64 ((gt z43 p1 x5748q).f0), .string (mkS ((gt z43 p1 x5748q).f1.f0)), .string (mkS ((gt z43 p1 x5748q).f1.f1)), .bool ((gt z43 p1 x5748q).f1.f2), .int .u32 ((gt z43 p1 x5748q).f2), .int .i64 ((gt z43 p1 x5748q).f3)] : List Value).toArray 43 (0, 0))] :: M6132q :: Fs) := hS6164q.bring 2 rfl rfl
            refine WL.op' (m := 4) h6160q rfl rfl ?_
            refine owp_store (i := 0) (vs := ([.slice A6165q r6155q.f0.length c6166q, .int .i64 r6155q.f1] : List Value)) h6160q rfl (by kernel_rfl) rfl rfl rfl rfl (by simp [Value.oneCell']) (by kernel_rfl) hS6167q (by simp) (cs' := ([.slice A6165q r6155q.f0.length c6166q, .int .i64 r6155q.f1] : List Value)) rfl (fun a6168q W6170q h6169q hS6171q => ?_)
            clear h6160q a6159q
            refine WL.done (by kernel_rfl) ?_
            have hS6172q : St b w0 W6170q R (M6162q :: [(g5729q, .cells ([.slice A6165q r6155q.f0.length c6166q, .int .i64 r6155q.f1] : List Value).toArray 41 (0, 0))] :: [(g5777q, .cells ([.int .i64 ((gt z43 p1 x5748q).f0), .string (mkS ((gt z43 p1 x5748q).f1.f0)), .string (mkS ((gt z43 p1 x5748q).f1.f1)), .bool ((gt z43 p1 x5748q).f1.f2), .int .u32 ((gt z43 p1 x5748q).f2), .int .i64 ((gt z43 p1 x5748q).f3)] : List Value).toArray 43 (0, 0))] :: M6132q :: Fs) := hS6171q.bring 1 rfl rfl
            have hS6173q : St b w0 W6170q R ([(g5729q, .cells ([.slice A6165q r6155q.f0.length c6166q, .int .i64 r6155q.f1] : List Value).toArray 41 (0, 0))] :: M6162q :: [(g5777q, .cells ([.int .i64 ((gt z43 p1 x5748q).f0), .string (mkS ((gt z43 p1 x5748q).f1.f0)), .string (mkS ((gt z43 p1 x5748q).f1.f1)), .bool ((gt z43 p1 x5748q).f1.f2), .int .u32 ((gt z43 p1 x5748q).f2), .int .i64 ((gt z43 p1 x5748q).f3)] : List Value).toArray 43 (0, 0))] :: M6132q :: Fs) := hS6172q.bring 1 rfl rfl
            obtain ⟨M6175q, hr6174q, hM_⟩ := k41qmk (b := b) (w0 := w0) (R := R) (x := (⟨r6155q.f0, r6155q.f1⟩ : S41)) (gvf0 := hr6163q)
            have hp6176q : Ptr k41 41 b w0 R (.pointer (some ⟨g5729q, 0, none⟩)) (⟨r6155q.f0, r6155q.f1⟩ : S41) ((g5729q, .cells ([.slice A6165q r6155q.f0.length c6166q, .int .i64 r6155q.f1] : List Value).toArray 41 (0, 0)) :: M6175q) := ⟨_, _, _, rfl, rfl, hr6174q⟩
            rw [hM_] at hp6176q
            have hS6178q : St b w0 W6170q R (((g5729q, .cells ([.slice A6165q r6155q.f0.length c6166q, .int .i64 r6155q.f1] : List Value).toArray 41 (0, 0)) :: (M6162q)) :: [(g5777q, .cells ([.int .i64 ((gt z43 p1 x5748q).f0), .string (mkS ((gt z43 p1 x5748q).f1.f0)), .string (mkS ((gt z43 p1 x5748q).f1.f1)), .bool ((gt z43 p1 x5748q).f1.f2), .int .u32 ((gt z43 p1 x5748q).f2), .int .i64 ((gt z43 p1 x5748q).f3)] : List Value).toArray 43 (0, 0))] :: M6132q :: Fs) := hS6173q.assoc (by simp only [List.flatten_cons, List.append_assoc, List.cons_append, List.nil_append, List.append_nil])
            obtain ⟨M6179q, hM_⟩ : ∃ y : Frag, y = ((g5729q, .cells ([.slice A6165q r6155q.f0.length c6166q, .int .i64 r6155q.f1] : List Value).toArray 41 (0, 0)) :: (M6162q)) := ⟨_, rfl⟩
            rw [← hM_] at hp6176q hS6178q
            clear hM_
            have hS6180q : St b w0 W6170q R ([(g5777q, .cells ([.int .i64 ((gt z43 p1 x5748q).f0), .string (mkS ((gt z43 p1 x5748q).f1.f0)), .string (mkS ((gt z43 p1 x5748q).f1.f1)), .bool ((gt z43 p1 x5748q).f1.f2), .int .u32 ((gt z43 p1 x5748q).f2), .int .i64 ((gt z43 p1 x5748q).f3)] : List Value).toArray 43 (0, 0))] :: M6179q :: M6132q :: Fs) := hS6178q.bring 1 rfl rfl
            have hS6181q : St b w0 W6170q R (M6179q :: M6132q :: Fs) := hS6180q.drop_
            have hS6182q : St b w0 W6170q R (M6132q :: M6179q :: Fs) := hS6181q.bring 1 rfl rfl
            exact ⟨k5756q, r6126q, M6132q, (⟨r6155q.f0, r6155q.f1⟩ : S41), M6179q, h6169q.keep ⟨rfl, rfl, rfl, rfl, rfl, trivial⟩, ⟨H⟩, ⟨by omega⟩, ⟨hS6182q⟩, ⟨hr6133q⟩, ⟨hp6176q⟩⟩
          · rw [if_neg c6119q] at H
            have hb_ : (decide (((gt z43 p1 x5748q).f0) = 0)) = false := decide_eq_false c6119q
            try rw [hb_] at h6118q
            clear hb_
            refine wp_else h6118q rfl ?_
            refine wp_seq ?_
            refine WL.start ?_
            refine WL.block (c := 2) (m' := 2) h6118q rfl [(76, .bool (decide (((gt z43 p1 x5748q).f0) = 1))), (77, .bool (decide (((gt z43 p1 x5748q).f0) = 1)))] (by kernel_rfl) (fun a6183q h6184q => ?_)
            clear h6118q a6117q
            refine WL.done (by kernel_rfl) ?_
            by_cases c6185q : ((gt z43 p1 x5748q).f0) = 1
            · rw [if_pos c6185q] at H
              have hb_ : (decide (((gt z43 p1 x5748q).f0) = 1)) = true := decide_eq_true c6185q
              try rw [hb_] at h6184q
              clear hb_
              refine wp_then h6184q rfl ?_
              refine wp_seq ?_
              refine WL.start ?_
              refine WL.block (c := 2) (m' := 2) h6184q rfl [(79, .pointer (some ⟨g5777q, 4, none⟩)), (78, v5718q)] (by kernel_rfl) (fun a6186q h6187q => ?_)
              clear h6184q a6183q
              refine WL.op' (m := 2) h6187q rfl rfl ?_
              refine owp_run (v := .int .u32 ((gt z43 p1 x5748q).f2)) h6187q rfl (by kernel_rfl) (run_load1 rfl rfl Tryd.underlying22 rfl (hS5782q.cell (i := 4) rfl)) (fun a6188q h6189q => ?_)
              clear h6187q a6186q
              have hS6190q : St b w0 W5781q R (M5743q :: [(g5777q, .cells ([.int .i64 ((gt z43 p1 x5748q).f0), .string (mkS ((gt z43 p1 x5748q).f1.f0)), .string (mkS ((gt z43 p1 x5748q).f1.f1)), .bool ((gt z43 p1 x5748q).f1.f2), .int .u32 ((gt z43 p1 x5748q).f2), .int .i64 ((gt z43 p1 x5748q).f3)] : List Value).toArray 43 (0, 0))] :: M5746q :: Fs) := hS5782q.bring 1 rfl rfl
              obtain ⟨r6192q, A6191q, H⟩ := bind1 H
              refine WL.op' (m := 3) h6189q rfl rfl ?_
              refine owp_call [v5718q, .int .u32 ((gt z43 p1 x5748q).f2)] h6189q rfl (by kernel_rfl) rfl Tryd.func13 (by kernel_rfl) rfl (by kernel_rfl) (dyntable_Table_Limit.calls k5756q hr5744q A6191q hS6190q) (fun e6194q W6193q hp6195q => ?_)
              obtain ⟨M6198q, rfl, hr6199q, hS6200q⟩ := hp6195q
              refine ⟨_, rfl, fun a6196q h6197q => ?_⟩
              clear h6189q a6188q
              refine WL.done (by kernel_rfl) ?_
              refine WL.start ?_
              have hS6201q : St b w0 W6193q R (M5746q :: M6198q :: [(g5777q, .cells ([.int .i64 ((gt z43 p1 x5748q).f0), .string (mkS ((gt z43 p1 x5748q).f1.f0)), .string (mkS ((gt z43 p1 x5748q).f1.f1)), .bool ((gt z43 p1 x5748q).f1.f2), .int .u32 ((gt z43 p1 x5748q).f2), .int .i64 ((gt z43 p1 x5748q).f3)] : List Value).toArray 43 (0, 0))] :: Fs) := hS6200q.bring 2 rfl rfl
              obtain ⟨g6202q, cs6203q, M6204q, hv_, hM_, hr6205q⟩ := hr5747q
              obtain ⟨v6206q, M6207q, rfl, hM2q, hr6208q⟩ := k41qrep hr6205q
              subst hM2q
              subst hM_
              have hg_ : g5729q = g6202q := by simpa using hv_
              subst hg_
              clear hv_
              replace hr6208q : Row k29 29 b w0 R v6206q x5745q.f0 M6204q := hr6208q
              obtain ⟨A6209q, c6210q, rfl⟩ := hr6208q.form
              have hS6211q : St b w0 W6193q R ([(g5729q, .cells ([.slice A6209q x5745q.f0.length c6210q, .int .i64 x5745q.f1] : List Value).toArray 41 (0, 0))] :: M6204q :: M6198q :: [(g5777q, .cells ([.int .i64 ((gt z43 p1 x5748q).f0), .string (mkS ((gt z43 p1 x5748q).f1.f0)), .string (mkS ((gt z43 p1 x5748q).f1.f1)), .bool ((gt z43 p1 x5748q).f1.f2), .int .u32 ((gt z43 p1 x5748q).f2), .int .i64 ((gt z43 p1 x5748q).f3)] : List Value).toArray 43 (0, 0))] :: Fs) := hS6201q.assoc (by simp only [List.flatten_cons, List.append_assoc, List.cons_append, List.nil_append, List.append_nil])
              refine WL.op' (m := 0) h6197q rfl rfl ?_
              refine owp_run (v := .agg #[.slice A6209q x5745q.f0.length c6210q, .int .i64 x5745q.f1]) h6197q rfl (by kernel_rfl) (run_loadN rfl rfl Tryd.underlying41 rfl (cs := ([.slice A6209q x5745q.f0.length c6210q, .int .i64 x5745q.f1] : List Value)) (by kernel_rfl) (hS6211q.cells (vs := ([.slice A6209q x5745q.f0.length c6210q, .int .i64 x5745q.f1] : List Value)) rfl)) (fun a6212q h6213q => ?_)
              clear h6197q a6196q
              refine WL.block (c := 1) (m' := 2) h6213q rfl [(83, .pointer (some ⟨g5777q, 4, none⟩))] (by kernel_rfl) (fun a6214q h6215q => ?_)
              clear h6213q a6212q
              have hS6216q : St b w0 W6193q R ([(g5777q, .cells ([.int .i64 ((gt z43 p1 x5748q).f0), .string (mkS ((gt z43 p1 x5748q).f1.f0)), .string (mkS ((gt z43 p1 x5748q).f1.f1)), .bool ((gt z43 p1 x5748q).f1.f2), .int .u32 ((gt z43 p1 x5748q).f2), .int .i64 ((gt z43 p1 x5748q).f3)] : List Value).toArray 43 (0, 0))] :: [(g5729q, .cells ([.slice A6209q x5745q.f0.length c6210q, .int .i64 x5745q.f1] : List Value).toArray 41 (0, 0))] :: M6204q :: M6198q :: Fs) := hS6211q.bring 3 rfl rfl
              refine WL.op' (m := 2) h6215q rfl rfl ?_
              refine owp_run (v := .int .u32 ((gt z43 p1 x5748q).f2)) h6215q rfl (by kernel_rfl) (run_load1 rfl rfl Tryd.underlying22 rfl (hS6216q.cell (i := 4) rfl)) (fun a6217q h6218q => ?_)
              clear h6215q a6214q
              refine WL.block (c := 1) (m' := 4) h6218q rfl [(85, .int .i64 (IntKind.i64.wrap ((gt z43 p1 x5748q).f2)))] (by kernel_rfl) (fun a6219q h6220q => ?_)
              clear h6218q a6217q
              have hS6221q : St b w0 W6193q R (M6204q :: [(g5777q, .cells ([.int .i64 ((gt z43 p1 x5748q).f0), .string (mkS ((gt z43 p1 x5748q).f1.f0)), .string (mkS ((gt z43 p1 x5748q).f1.f1)), .bool ((gt z43 p1 x5748q).f1.f2), .int .u32 ((gt z43 p1 x5748q).f2), .int .i64 ((gt z43 p1 x5748q).f3)] : List Value).toArray 43 (0, 0))] :: [(g5729q, .cells ([.slice A6209q x5745q.f0.length c6210q, .int .i64 x5745q.f1] : List Value).toArray 41 (0, 0))] :: M6198q :: Fs) := hS6216q.bring 2 rfl rfl
              obtain ⟨r6223q, A6222q, H⟩ := bind1 H
              refine WL.op' (m := 4) h6220q rfl rfl ?_
              refine owp_call [.agg #[.slice A6209q x5745q.f0.length c6210q, .int .i64 x5745q.f1], .int .i64 (IntKind.i64.wrap ((gt z43 p1 x5748q).f2))] h6220q rfl (by kernel_rfl) rfl Tryd.func18 (by kernel_rfl) rfl (by kernel_rfl) (louverref05qT_Limit.calls (p0 := (⟨x5745q.f0, x5745q.f1⟩ : S41)) k5756q hr6208q A6222q hS6221q) (fun e6225q W6224q hp6226q => ?_)
              obtain ⟨v6229q, M6230q, rfl, hr6231q, hS6232q⟩ := hp6226q
              refine ⟨_, rfl, fun a6227q h6228q => ?_⟩
              clear h6220q a6219q
              obtain ⟨A6233q, c6234q, rfl⟩ := hr6231q.form
              have hS6235q : St b w0 W6224q R ([(g5729q, .cells ([.slice A6209q x5745q.f0.length c6210q, .int .i64 x5745q.f1] : List Value).toArray 41 (0, 0))] :: M6230q :: [(g5777q, .cells ([.int .i64 ((gt z43 p1 x5748q).f0), .string (mkS ((gt z43 p1 x5748q).f1.f0)), .string (mkS ((gt z43 p1 x5748q).f1.f1)), .bool ((gt z43 p1 x5748q).f1.f2), .int .u32 ((gt z43 p1 x5748q).f2), .int .i64 ((gt z43 p1 x5748q).f3)] : List Value).toArray 43 (0, 0))] :: M6198q :: Fs) := hS6232q.bring 2 rfl rfl
              refine WL.op' (m := 5) h6228q rfl rfl ?_
              refine owp_store (i := 0) (vs := ([.slice A6233q r6223q.f0.length c6234q, .int .i64 r6223q.f1] : List Value)) h6228q rfl (by kernel_rfl) rfl rfl rfl rfl (by simp [Value.oneCell']) (by kernel_rfl) hS6235q (by simp) (cs' := ([.slice A6233q r6223q.f0.length c6234q, .int .i64 r6223q.f1] : List Value)) rfl (fun a6236q W6238q h6237q hS6239q => ?_)
              clear h6228q a6227q
              refine WL.done (by kernel_rfl) ?_
              have hS6240q : St b w0 W6238q R (M6230q :: [(g5729q, .cells ([.slice A6233q r6223q.f0.length c6234q, .int .i64 r6223q.f1] : List Value).toArray 41 (0, 0))] :: [(g5777q, .cells ([.int .i64 ((gt z43 p1 x5748q).f0), .string (mkS ((gt z43 p1 x5748q).f1.f0)), .string (mkS ((gt z43 p1 x5748q).f1.f1)), .bool ((gt z43 p1 x5748q).f1.f2), .int .u32 ((gt z43 p1 x5748q).f2), .int .i64 ((gt z43 p1 x5748q).f3)] : List Value).toArray 43 (0, 0))] :: M6198q :: Fs) := hS6239q.bring 1 rfl rfl
              have hS6241q : St b w0 W6238q R ([(g5729q, .cells ([.slice A6233q r6223q.f0.length c6234q, .int .i64 r6223q.f1] : List Value).toArray 41 (0, 0))] :: M6230q :: [(g5777q, .cells ([.int .i64 ((gt z43 p1 x5748q).f0), .string (mkS ((gt z43 p1 x5748q).f1.f0)), .string (mkS ((gt z43 p1 x5748q).f1.f1)), .bool ((gt z43 p1 x5748q).f1.f2), .int .u32 ((gt z43 p1 x5748q).f2), .int .i64 ((gt z43 p1 x5748q).f3)] : List Value).toArray 43 (0, 0))] :: M6198q :: Fs) := hS6240q.bring 1 rfl rfl
              obtain ⟨M6243q, hr6242q, hM_⟩ := k41qmk (b := b) (w0 := w0) (R := R) (x := (⟨r6223q.f0, r6223q.f1⟩ : S41)) (gvf0 := hr6231q)
              have hp6244q : Ptr k41 41 b w0 R (.pointer (some ⟨g5729q, 0, none⟩)) (⟨r6223q.f0, r6223q.f1⟩ : S41) ((g5729q, .cells ([.slice A6233q r6223q.f0.length c6234q, .int .i64 r6223q.f1] : List Value).toArray 41 (0, 0)) :: M6243q) := ⟨_, _, _, rfl, rfl, hr6242q⟩
              rw [hM_] at hp6244q
              have hS6246q : St b w0 W6238q R (((g5729q, .cells ([.slice A6233q r6223q.f0.length c6234q, .int .i64 r6223q.f1] : List Value).toArray 41 (0, 0)) :: (M6230q)) :: [(g5777q, .cells ([.int .i64 ((gt z43 p1 x5748q).f0), .string (mkS ((gt z43 p1 x5748q).f1.f0)), .string (mkS ((gt z43 p1 x5748q).f1.f1)), .bool ((gt z43 p1 x5748q).f1.f2), .int .u32 ((gt z43 p1 x5748q).f2), .int .i64 ((gt z43 p1 x5748q).f3)] : List Value).toArray 43 (0, 0))] :: M6198q :: Fs) := hS6241q.assoc (by simp only [List.flatten_cons, List.append_assoc, List.cons_append, List.nil_append, List.append_nil])
              obtain ⟨M6247q, hM_⟩ : ∃ y : Frag, y = ((g5729q, .cells ([.slice A6233q r6223q.f0.length c6234q, .int .i64 r6223q.f1] : List Value).toArray 41 (0, 0)) :: (M6230q)) := ⟨_, rfl⟩
              rw [← hM_] at hp6244q hS6246q
              clear hM_
              have hS6248q : St b w0 W6238q R ([(g5777q, .cells ([.int .i64 ((gt z43 p1 x5748q).f0), .string (mkS ((gt z43 p1 x5748q).f1.f0)), .string (mkS ((gt z43 p1 x5748q).f1.f1)), .bool ((gt z43 p1 x5748q).f1.f2), .int .u32 ((gt z43 p1 x5748q).f2), .int .i64 ((gt z43 p1 x5748q).f3)] : List Value).toArray 43 (0, 0))] :: M6247q :: M6198q :: Fs) := hS6246q.bring 1 rfl rfl
              have hS6249q : St b w0 W6238q R (M6247q :: M6198q :: Fs) := hS6248q.drop_
              have hS6250q : St b w0 W6238q R (M6198q :: M6247q :: Fs) := hS6249q.bring 1 rfl rfl
              exact ⟨k5756q, r6192q, M6198q, (⟨r6223q.f0, r6223q.f1⟩ : S41), M6247q, h6237q.keep ⟨rfl, rfl, rfl, rfl, rfl, trivial⟩, ⟨H⟩, ⟨by omega⟩, ⟨hS6250q⟩, ⟨hr6199q⟩, ⟨hp6244q⟩⟩
            · rw [if_neg c6185q] at H
              have hb_ : (decide (((gt z43 p1 x5748q).f0) = 1)) = false := decide_eq_false c6185q
              try rw [hb_] at h6184q
              clear hb_
              refine wp_else h6184q rfl ?_
              refine wp_seq ?_
              refine WL.start ?_
              refine WL.block (c := 2) (m' := 2) h6184q rfl [(87, .bool (decide (((gt z43 p1 x5748q).f0) = 2))), (88, .bool (decide (((gt z43 p1 x5748q).f0) = 2)))] (by kernel_rfl) (fun a6251q h6252q => ?_)
              clear h6184q a6183q
              refine WL.done (by kernel_rfl) ?_
              by_cases c6253q : ((gt z43 p1 x5748q).f0) = 2
              · rw [if_pos c6253q] at H
                have hb_ : (decide (((gt z43 p1 x5748q).f0) = 2)) = true := decide_eq_true c6253q
                try rw [hb_] at h6252q
                clear hb_
                refine wp_then h6252q rfl ?_
                refine wp_seq ?_
                refine WL.start ?_
                refine WL.block (c := 2) (m' := 2) h6252q rfl [(91, .pointer (some ⟨g5777q, 5, none⟩)), (90, v5718q)] (by kernel_rfl) (fun a6254q h6255q => ?_)
                clear h6252q a6251q
                refine WL.op' (m := 2) h6255q rfl rfl ?_
                refine owp_run (v := .int .i64 ((gt z43 p1 x5748q).f3)) h6255q rfl (by kernel_rfl) (run_load1 rfl rfl Tryd.underlying3 rfl (hS5782q.cell (i := 5) rfl)) (fun a6256q h6257q => ?_)
                clear h6255q a6254q
                have hS6258q : St b w0 W5781q R (M5743q :: [(g5777q, .cells ([.int .i64 ((gt z43 p1 x5748q).f0), .string (mkS ((gt z43 p1 x5748q).f1.f0)), .string (mkS ((gt z43 p1 x5748q).f1.f1)), .bool ((gt z43 p1 x5748q).f1.f2), .int .u32 ((gt z43 p1 x5748q).f2), .int .i64 ((gt z43 p1 x5748q).f3)] : List Value).toArray 43 (0, 0))] :: M5746q :: Fs) := hS5782q.bring 1 rfl rfl
                obtain ⟨r6260q, r6261q, A6259q, H⟩ := bind2 H
                refine WL.op' (m := 3) h6257q rfl rfl ?_
                refine owp_call [v5718q, .int .i64 ((gt z43 p1 x5748q).f3)] h6257q rfl (by kernel_rfl) rfl Tryd.func14 (by kernel_rfl) rfl (by kernel_rfl) (dyntable_Table_At.calls hr5744q hg0 A6259q hS6258q) (fun e6263q W6262q hp6264q => ?_)
                obtain ⟨M6267q, rfl, hr6268q, hS6269q⟩ := hp6264q
                refine ⟨_, rfl, fun a6265q h6266q => ?_⟩
                clear h6257q a6256q
                refine WL.block (c := 3) (m' := 7) h6266q rfl [(95, .bool r6261q), (94, .agg #[.string (mkS r6260q.f0), .string (mkS r6260q.f1), .bool r6260q.f2]), (89, .tuple #[.agg #[.string (mkS r6260q.f0), .string (mkS r6260q.f1), .bool r6260q.f2], .bool r6261q])] (by kernel_rfl) (fun a6270q h6271q => ?_)
                clear h6266q a6265q
                refine WL.op' (m := 7) h6271q rfl rfl ?_
                refine owp_new (fun g_ => .pointer (some ⟨g_, 0, none⟩)) (.cells ([.string (mkS ([] : List UInt8)), .string (mkS ([] : List UInt8)), .bool false] : List Value).toArray 29 (0, 0)) h6271q rfl (by kernel_rfl) (by kernel_rfl) hS6269q (fun a6272q W6274q g6275q h6273q hS6276q => ?_)
                clear h6271q a6270q
                refine WL.op' (m := 8) h6273q rfl rfl ?_
                refine owp_store (i := 0) (vs := ([.string (mkS r6260q.f0), .string (mkS r6260q.f1), .bool r6260q.f2] : List Value)) h6273q rfl (by kernel_rfl) rfl rfl rfl rfl (by simp [Value.oneCell']) (by kernel_rfl) hS6276q (by simp) (cs' := ([.string (mkS r6260q.f0), .string (mkS r6260q.f1), .bool r6260q.f2] : List Value)) rfl (fun a6277q W6279q h6278q hS6280q => ?_)
                clear h6273q a6272q
                refine WL.block (c := 1) (m' := 10) h6278q rfl [(10, .bool r6261q)] (by kernel_rfl) (fun a6281q h6282q => ?_)
                clear h6278q a6277q
                refine WL.done (by kernel_rfl) ?_
                refine wp_seq ?_
                refine WL.start ?_
                have hS6283q : St b w0 W6279q R (M5746q :: [(g6275q, .cells ([.string (mkS r6260q.f0), .string (mkS r6260q.f1), .bool r6260q.f2] : List Value).toArray 29 (0, 0))] :: M6267q :: [(g5777q, .cells ([.int .i64 ((gt z43 p1 x5748q).f0), .string (mkS ((gt z43 p1 x5748q).f1.f0)), .string (mkS ((gt z43 p1 x5748q).f1.f1)), .bool ((gt z43 p1 x5748q).f1.f2), .int .u32 ((gt z43 p1 x5748q).f2), .int .i64 ((gt z43 p1 x5748q).f3)] : List Value).toArray 43 (0, 0))] :: Fs) := hS6280q.bring 3 rfl rfl
                obtain ⟨g6284q, cs6285q, M6286q, hv_, hM_, hr6287q⟩ := hr5747q
                obtain ⟨v6288q, M6289q, rfl, hM2q, hr6290q⟩ := k41qrep hr6287q
                subst hM2q
                subst hM_
                have hg_ : g5729q = g6284q := by simpa using hv_
                subst hg_
                clear hv_
                replace hr6290q : Row k29 29 b w0 R v6288q x5745q.f0 M6286q := hr6290q
                obtain ⟨A6291q, c6292q, rfl⟩ := hr6290q.form
                have hS6293q : St b w0 W6279q R ([(g5729q, .cells ([.slice A6291q x5745q.f0.length c6292q, .int .i64 x5745q.f1] : List Value).toArray 41 (0, 0))] :: M6286q :: [(g6275q, .cells ([.string (mkS r6260q.f0), .string (mkS r6260q.f1), .bool r6260q.f2] : List Value).toArray 29 (0, 0))] :: M6267q :: [(g5777q, .cells ([.int .i64 ((gt z43 p1 x5748q).f0), .string (mkS ((gt z43 p1 x5748q).f1.f0)), .string (mkS ((gt z43 p1 x5748q).f1.f1)), .bool ((gt z43 p1 x5748q).f1.f2), .int .u32 ((gt z43 p1 x5748q).f2), .int .i64 ((gt z43 p1 x5748q).f3)] : List Value).toArray 43 (0, 0))] :: Fs) := hS6283q.assoc (by simp only [List.flatten_cons, List.append_assoc, List.cons_append, List.nil_append, List.append_nil])
                refine WL.op' (m := 0) h6282q rfl rfl ?_
                refine owp_run (v := .agg #[.slice A6291q x5745q.f0.length c6292q, .int .i64 x5745q.f1]) h6282q rfl (by kernel_rfl) (run_loadN rfl rfl Tryd.underlying41 rfl (cs := ([.slice A6291q x5745q.f0.length c6292q, .int .i64 x5745q.f1] : List Value)) (by kernel_rfl) (hS6293q.cells (vs := ([.slice A6291q x5745q.f0.length c6292q, .int .i64 x5745q.f1] : List Value)) rfl)) (fun a6294q h6295q => ?_)
                clear h6282q a6281q
                refine WL.block (c := 1) (m' := 2) h6295q rfl [(98, .pointer (some ⟨g5777q, 5, none⟩))] (by kernel_rfl) (fun a6296q h6297q => ?_)
                clear h6295q a6294q
                have hS6298q : St b w0 W6279q R ([(g5777q, .cells ([.int .i64 ((gt z43 p1 x5748q).f0), .string (mkS ((gt z43 p1 x5748q).f1.f0)), .string (mkS ((gt z43 p1 x5748q).f1.f1)), .bool ((gt z43 p1 x5748q).f1.f2), .int .u32 ((gt z43 p1 x5748q).f2), .int .i64 ((gt z43 p1 x5748q).f3)] : List Value).toArray 43 (0, 0))] :: [(g5729q, .cells ([.slice A6291q x5745q.f0.length c6292q, .int .i64 x5745q.f1] : List Value).toArray 41 (0, 0))] :: M6286q :: [(g6275q, .cells ([.string (mkS r6260q.f0), .string (mkS r6260q.f1), .bool r6260q.f2] : List Value).toArray 29 (0, 0))] :: M6267q :: Fs) := hS6293q.bring 4 rfl rfl
                refine WL.op' (m := 2) h6297q rfl rfl ?_
                refine owp_run (v := .int .i64 ((gt z43 p1 x5748q).f3)) h6297q rfl (by kernel_rfl) (run_load1 rfl rfl Tryd.underlying3 rfl (hS6298q.cell (i := 5) rfl)) (fun a6299q h6300q => ?_)
                clear h6297q a6296q
                have hS6301q : St b w0 W6279q R (M6286q :: [(g5777q, .cells ([.int .i64 ((gt z43 p1 x5748q).f0), .string (mkS ((gt z43 p1 x5748q).f1.f0)), .string (mkS ((gt z43 p1 x5748q).f1.f1)), .bool ((gt z43 p1 x5748q).f1.f2), .int .u32 ((gt z43 p1 x5748q).f2), .int .i64 ((gt z43 p1 x5748q).f3)] : List Value).toArray 43 (0, 0))] :: [(g5729q, .cells ([.slice A6291q x5745q.f0.length c6292q, .int .i64 x5745q.f1] : List Value).toArray 41 (0, 0))] :: [(g6275q, .cells ([.string (mkS r6260q.f0), .string (mkS r6260q.f1), .bool r6260q.f2] : List Value).toArray 29 (0, 0))] :: M6267q :: Fs) := hS6298q.bring 2 rfl rfl
                obtain ⟨r6303q, r6304q, A6302q, H⟩ := bind2 H
                refine WL.op' (m := 3) h6300q rfl rfl ?_
                refine owp_call [.agg #[.slice A6291q x5745q.f0.length c6292q, .int .i64 x5745q.f1], .int .i64 ((gt z43 p1 x5748q).f3)] h6300q rfl (by kernel_rfl) rfl Tryd.func19 (by kernel_rfl) rfl (by kernel_rfl) (louverref05qT_At.calls (p0 := (⟨x5745q.f0, x5745q.f1⟩ : S41)) hr6290q.rds A6302q (hS6301q.pool)) (fun e6306q W6305q hp6307q => ?_)
                obtain ⟨rfl, hS6310q⟩ := hp6307q
                have hS6311q : St b w0 W6305q R (M6286q :: [(g5777q, .cells ([.int .i64 ((gt z43 p1 x5748q).f0), .string (mkS ((gt z43 p1 x5748q).f1.f0)), .string (mkS ((gt z43 p1 x5748q).f1.f1)), .bool ((gt z43 p1 x5748q).f1.f2), .int .u32 ((gt z43 p1 x5748q).f2), .int .i64 ((gt z43 p1 x5748q).f3)] : List Value).toArray 43 (0, 0))] :: [(g5729q, .cells ([.slice A6291q x5745q.f0.length c6292q, .int .i64 x5745q.f1] : List Value).toArray 41 (0, 0))] :: [(g6275q, .cells ([.string (mkS r6260q.f0), .string (mkS r6260q.f1), .bool r6260q.f2] : List Value).toArray 29 (0, 0))] :: M6267q :: Fs) := hS6310q.unpool
                refine ⟨_, rfl, fun a6308q h6309q => ?_⟩
                clear h6300q a6299q
                refine WL.block (c := 3) (m' := 7) h6309q rfl [(102, .bool r6304q), (101, .agg #[.string (mkS r6303q.f0), .string (mkS r6303q.f1), .bool r6303q.f2]), (96, .tuple #[.agg #[.string (mkS r6303q.f0), .string (mkS r6303q.f1), .bool r6303q.f2], .bool r6304q])] (by kernel_rfl) (fun a6312q h6313q => ?_)
                clear h6309q a6308q
                refine WL.op' (m := 7) h6313q rfl rfl ?_
                refine owp_new (fun g_ => .pointer (some ⟨g_, 0, none⟩)) (.cells ([.string (mkS ([] : List UInt8)), .string (mkS ([] : List UInt8)), .bool false] : List Value).toArray 29 (0, 0)) h6313q rfl (by kernel_rfl) (by kernel_rfl) hS6311q (fun a6314q W6316q g6317q h6315q hS6318q => ?_)
                clear h6313q a6312q
                refine WL.op' (m := 8) h6315q rfl rfl ?_
                refine owp_store (i := 0) (vs := ([.string (mkS r6303q.f0), .string (mkS r6303q.f1), .bool r6303q.f2] : List Value)) h6315q rfl (by kernel_rfl) rfl rfl rfl rfl (by simp [Value.oneCell']) (by kernel_rfl) hS6318q (by simp) (cs' := ([.string (mkS r6303q.f0), .string (mkS r6303q.f1), .bool r6303q.f2] : List Value)) rfl (fun a6319q W6321q h6320q hS6322q => ?_)
                clear h6315q a6314q
                refine WL.block (c := 1) (m' := 10) h6320q rfl [(12, .bool r6304q)] (by kernel_rfl) (fun a6323q h6324q => ?_)
                clear h6320q a6319q
                refine WL.done (by kernel_rfl) ?_
                refine wp_seq ?_
                refine WL.start ?_
                have hS6325q : St b w0 W6321q R ([(g6275q, .cells ([.string (mkS r6260q.f0), .string (mkS r6260q.f1), .bool r6260q.f2] : List Value).toArray 29 (0, 0))] :: [(g6317q, .cells ([.string (mkS r6303q.f0), .string (mkS r6303q.f1), .bool r6303q.f2] : List Value).toArray 29 (0, 0))] :: M6286q :: [(g5777q, .cells ([.int .i64 ((gt z43 p1 x5748q).f0), .string (mkS ((gt z43 p1 x5748q).f1.f0)), .string (mkS ((gt z43 p1 x5748q).f1.f1)), .bool ((gt z43 p1 x5748q).f1.f2), .int .u32 ((gt z43 p1 x5748q).f2), .int .i64 ((gt z43 p1 x5748q).f3)] : List Value).toArray 43 (0, 0))] :: [(g5729q, .cells ([.slice A6291q x5745q.f0.length c6292q, .int .i64 x5745q.f1] : List Value).toArray 41 (0, 0))] :: M6267q :: Fs) := hS6322q.bring 4 rfl rfl
                refine WL.op' (m := 0) h6324q rfl rfl ?_
                refine owp_run (v := .agg #[.string (mkS r6260q.f0), .string (mkS r6260q.f1), .bool r6260q.f2]) h6324q rfl (by kernel_rfl) (run_loadN rfl rfl Tryd.underlying29 rfl (cs := ([.string (mkS r6260q.f0), .string (mkS r6260q.f1), .bool r6260q.f2] : List Value)) (by kernel_rfl) (hS6325q.cells (vs := ([.string (mkS r6260q.f0), .string (mkS r6260q.f1), .bool r6260q.f2] : List Value)) rfl)) (fun a6326q h6327q => ?_)
                clear h6324q a6323q
                have hS6328q : St b w0 W6321q R ([(g6317q, .cells ([.string (mkS r6303q.f0), .string (mkS r6303q.f1), .bool r6303q.f2] : List Value).toArray 29 (0, 0))] :: [(g6275q, .cells ([.string (mkS r6260q.f0), .string (mkS r6260q.f1), .bool r6260q.f2] : List Value).toArray 29 (0, 0))] :: M6286q :: [(g5777q, .cells ([.int .i64 ((gt z43 p1 x5748q).f0), .string (mkS ((gt z43 p1 x5748q).f1.f0)), .string (mkS ((gt z43 p1 x5748q).f1.f1)), .bool ((gt z43 p1 x5748q).f1.f2), .int .u32 ((gt z43 p1 x5748q).f2), .int .i64 ((gt z43 p1 x5748q).f3)] : List Value).toArray 43 (0, 0))] :: [(g5729q, .cells ([.slice A6291q x5745q.f0.length c6292q, .int .i64 x5745q.f1] : List Value).toArray 41 (0, 0))] :: M6267q :: Fs) := hS6325q.bring 1 rfl rfl
                refine WL.op' (m := 1) h6327q rfl rfl ?_
                refine owp_run (v := .agg #[.string (mkS r6303q.f0), .string (mkS r6303q.f1), .bool r6303q.f2]) h6327q rfl (by kernel_rfl) (run_loadN rfl rfl Tryd.underlying29 rfl (cs := ([.string (mkS r6303q.f0), .string (mkS r6303q.f1), .bool r6303q.f2] : List Value)) (by kernel_rfl) (hS6328q.cells (vs := ([.string (mkS r6303q.f0), .string (mkS r6303q.f1), .bool r6303q.f2] : List Value)) rfl)) (fun a6329q h6330q => ?_)
                clear h6327q a6326q
                refine WL.op' (m := 2) h6330q rfl rfl ?_
                refine owp_run (v := .bool (!(decide (r6260q.f0 = r6303q.f0) && (decide (r6260q.f1 = r6303q.f1) && decide (r6260q.f2 = r6303q.f2))))) h6330q rfl (by kernel_rfl) (run_stne (xs := [.string (mkS r6260q.f0), .string (mkS r6260q.f1), .bool r6260q.f2]) (ys := [.string (mkS r6303q.f0), .string (mkS r6303q.f1), .bool r6303q.f2]) rfl rfl rfl (by kernel_rfl) (eqs_of Tryd.underlying29 (by kernel_rfl) (eqf_cons rfl (by kernel_rfl) rfl rfl (eqi_str Tryd.underlying9) (eqf_cons rfl (by kernel_rfl) rfl rfl (eqi_str Tryd.underlying9) (eqf_last rfl (by kernel_rfl) rfl rfl (eqi_bool Tryd.underlying4)))))) (fun a6331q h6332q => ?_)
                clear h6330q a6329q
                refine WL.block (c := 1) (m' := 4) h6332q rfl [(106, .bool (!(decide (r6260q.f0 = r6303q.f0) && (decide (r6260q.f1 = r6303q.f1) && decide (r6260q.f2 = r6303q.f2)))))] (by kernel_rfl) (fun a6333q h6334q => ?_)
                clear h6332q a6331q
                by_cases c6335q : (decide (r6260q.f0 = r6303q.f0) && (decide (r6260q.f1 = r6303q.f1) && decide (r6260q.f2 = r6303q.f2))) = true
                · rw [if_pos c6335q] at H
                  have hb_ : (decide (r6260q.f0 = r6303q.f0) && (decide (r6260q.f1 = r6303q.f1) && decide (r6260q.f2 = r6303q.f2))) = true := c6335q
                  try rw [hb_] at h6334q
                  clear hb_
                  refine WL.op' (m := 4) h6334q rfl rfl (owp_run h6334q rfl (by kernel_rfl) (v := .bool r6261q) (by kernel_rfl) (fun a6336q h6337q => ?_))
                  clear h6334q a6333q
                  refine WL.op' (m := 5) h6337q rfl rfl (owp_run h6337q rfl (by kernel_rfl) (v := .bool r6304q) (by kernel_rfl) (fun a6338q h6339q => ?_))
                  clear h6337q a6336q
                  refine WL.op' (m := 6) h6339q rfl rfl (owp_run h6339q rfl (by kernel_rfl) (v := .bool (r6261q != r6304q)) (by kernel_rfl) (fun a6340q h6341q => ?_))
                  clear h6339q a6338q
                  refine WL.block (c := 1) (m' := 8) h6341q rfl [(110, .bool (r6261q != r6304q))] (by kernel_rfl) (fun a6342q h6343q => ?_)
                  clear h6341q a6340q
                  refine WL.done (by kernel_rfl) ?_
                  by_cases c6344q : (r6261q != r6304q) = true
                  · rw [if_pos c6344q] at H
                    have hb_ : (r6261q != r6304q) = true := c6344q
                    try rw [hb_] at h6343q
                    clear hb_
                    refine wp_then h6343q rfl ?_
                    refine wp_seq ?_
                    refine WL.start ?_
                    refine WL.block (c := 1) (m' := 1) h6343q rfl [(4, .bool false)] (by kernel_rfl) (fun a6345q h6346q => ?_)
                    clear h6343q a6342q
                    refine WL.done (by kernel_rfl) ?_
                    refine wp_ret ?_
                    have hS6347q : St b w0 W6321q R ([(g6275q, .cells ([.string (mkS r6260q.f0), .string (mkS r6260q.f1), .bool r6260q.f2] : List Value).toArray 29 (0, 0))] :: M6286q :: [(g5777q, .cells ([.int .i64 ((gt z43 p1 x5748q).f0), .string (mkS ((gt z43 p1 x5748q).f1.f0)), .string (mkS ((gt z43 p1 x5748q).f1.f1)), .bool ((gt z43 p1 x5748q).f1.f2), .int .u32 ((gt z43 p1 x5748q).f2), .int .i64 ((gt z43 p1 x5748q).f3)] : List Value).toArray 43 (0, 0))] :: [(g5729q, .cells ([.slice A6291q x5745q.f0.length c6292q, .int .i64 x5745q.f1] : List Value).toArray 41 (0, 0))] :: M6267q :: Fs) := hS6328q.drop_
                    have hS6348q : St b w0 W6321q R (M6286q :: [(g5777q, .cells ([.int .i64 ((gt z43 p1 x5748q).f0), .string (mkS ((gt z43 p1 x5748q).f1.f0)), .string (mkS ((gt z43 p1 x5748q).f1.f1)), .bool ((gt z43 p1 x5748q).f1.f2), .int .u32 ((gt z43 p1 x5748q).f2), .int .i64 ((gt z43 p1 x5748q).f3)] : List Value).toArray 43 (0, 0))] :: [(g5729q, .cells ([.slice A6291q x5745q.f0.length c6292q, .int .i64 x5745q.f1] : List Value).toArray 41 (0, 0))] :: M6267q :: Fs) := hS6347q.drop_
                    have hS6349q : St b w0 W6321q R ([(g5777q, .cells ([.int .i64 ((gt z43 p1 x5748q).f0), .string (mkS ((gt z43 p1 x5748q).f1.f0)), .string (mkS ((gt z43 p1 x5748q).f1.f1)), .bool ((gt z43 p1 x5748q).f1.f2), .int .u32 ((gt z43 p1 x5748q).f2), .int .i64 ((gt z43 p1 x5748q).f3)] : List Value).toArray 43 (0, 0))] :: [(g5729q, .cells ([.slice A6291q x5745q.f0.length c6292q, .int .i64 x5745q.f1] : List Value).toArray 41 (0, 0))] :: M6267q :: Fs) := hS6348q.drop_
                    have hS6350q : St b w0 W6321q R ([(g5729q, .cells ([.slice A6291q x5745q.f0.length c6292q, .int .i64 x5745q.f1] : List Value).toArray 41 (0, 0))] :: M6267q :: Fs) := hS6349q.drop_
                    have hS6351q : St b w0 W6321q R (M6267q :: Fs) := hS6350q.drop_
                    have hS6352q : St b w0 W6321q R (Fs) := hS6351q.drop_
                    obtain rfl := Option.some.inj H
                    repeat (first | refine then_ret ?_ | refine inBlock_ret ?_ | refine inBlock_go ?_)
                    refine body_ret (v := .bool false) h6346q (by kernel_rfl) (by kernel_rfl) ?_
                    exact ⟨rfl, hS6352q⟩
                  · rw [if_neg c6344q] at H
                    have hb_ : (r6261q != r6304q) = false := (Bool.eq_false_iff.2 c6344q)
                    try rw [hb_] at h6343q
                    clear hb_
                    refine wp_else h6343q rfl ?_
                    refine wp_skip ?_
                    have hS6353q : St b w0 W6321q R (M6286q :: [(g6317q, .cells ([.string (mkS r6303q.f0), .string (mkS r6303q.f1), .bool r6303q.f2] : List Value).toArray 29 (0, 0))] :: [(g6275q, .cells ([.string (mkS r6260q.f0), .string (mkS r6260q.f1), .bool r6260q.f2] : List Value).toArray 29 (0, 0))] :: [(g5777q, .cells ([.int .i64 ((gt z43 p1 x5748q).f0), .string (mkS ((gt z43 p1 x5748q).f1.f0)), .string (mkS ((gt z43 p1 x5748q).f1.f1)), .bool ((gt z43 p1 x5748q).f1.f2), .int .u32 ((gt z43 p1 x5748q).f2), .int .i64 ((gt z43 p1 x5748q).f3)] : List Value).toArray 43 (0, 0))] :: [(g5729q, .cells ([.slice A6291q x5745q.f0.length c6292q, .int .i64 x5745q.f1] : List Value).toArray 41 (0, 0))] :: M6267q :: Fs) := hS6328q.bring 2 rfl rfl
                    have hS6354q : St b w0 W6321q R ([(g5729q, .cells ([.slice A6291q x5745q.f0.length c6292q, .int .i64 x5745q.f1] : List Value).toArray 41 (0, 0))] :: M6286q :: [(g6317q, .cells ([.string (mkS r6303q.f0), .string (mkS r6303q.f1), .bool r6303q.f2] : List Value).toArray 29 (0, 0))] :: [(g6275q, .cells ([.string (mkS r6260q.f0), .string (mkS r6260q.f1), .bool r6260q.f2] : List Value).toArray 29 (0, 0))] :: [(g5777q, .cells ([.int .i64 ((gt z43 p1 x5748q).f0), .string (mkS ((gt z43 p1 x5748q).f1.f0)), .string (mkS ((gt z43 p1 x5748q).f1.f1)), .bool ((gt z43 p1 x5748q).f1.f2), .int .u32 ((gt z43 p1 x5748q).f2), .int .i64 ((gt z43 p1 x5748q).f3)] : List Value).toArray 43 (0, 0))] :: M6267q :: Fs) := hS6353q.bring 4 rfl rfl
                    obtain ⟨M6356q, hr6355q, hM_⟩ := k41qmk (b := b) (w0 := w0) (R := R) (x := x5745q) (gvf0 := hr6290q)
                    have hp6357q : Ptr k41 41 b w0 R (.pointer (some ⟨g5729q, 0, none⟩)) x5745q ((g5729q, .cells ([.slice A6291q x5745q.f0.length c6292q, .int .i64 x5745q.f1] : List Value).toArray 41 (0, 0)) :: M6356q) := ⟨_, _, _, rfl, rfl, hr6355q⟩
                    rw [hM_] at hp6357q
                    have hS6359q : St b w0 W6321q R (((g5729q, .cells ([.slice A6291q x5745q.f0.length c6292q, .int .i64 x5745q.f1] : List Value).toArray 41 (0, 0)) :: (M6286q)) :: [(g6317q, .cells ([.string (mkS r6303q.f0), .string (mkS r6303q.f1), .bool r6303q.f2] : List Value).toArray 29 (0, 0))] :: [(g6275q, .cells ([.string (mkS r6260q.f0), .string (mkS r6260q.f1), .bool r6260q.f2] : List Value).toArray 29 (0, 0))] :: [(g5777q, .cells ([.int .i64 ((gt z43 p1 x5748q).f0), .string (mkS ((gt z43 p1 x5748q).f1.f0)), .string (mkS ((gt z43 p1 x5748q).f1.f1)), .bool ((gt z43 p1 x5748q).f1.f2), .int .u32 ((gt z43 p1 x5748q).f2), .int .i64 ((gt z43 p1 x5748q).f3)] : List Value).toArray 43 (0, 0))] :: M6267q :: Fs) := hS6354q.assoc (by simp only [List.flatten_cons, List.append_assoc, List.cons_append, List.nil_append, List.append_nil])
                    obtain ⟨M6360q, hM_⟩ : ∃ y : Frag, y = ((g5729q, .cells ([.slice A6291q x5745q.f0.length c6292q, .int .i64 x5745q.f1] : List Value).toArray 41 (0, 0)) :: (M6286q)) := ⟨_, rfl⟩
                    rw [← hM_] at hp6357q hS6359q
                    clear hM_
                    have hS6361q : St b w0 W6321q R ([(g6317q, .cells ([.string (mkS r6303q.f0), .string (mkS r6303q.f1), .bool r6303q.f2] : List Value).toArray 29 (0, 0))] :: M6360q :: [(g6275q, .cells ([.string (mkS r6260q.f0), .string (mkS r6260q.f1), .bool r6260q.f2] : List Value).toArray 29 (0, 0))] :: [(g5777q, .cells ([.int .i64 ((gt z43 p1 x5748q).f0), .string (mkS ((gt z43 p1 x5748q).f1.f0)), .string (mkS ((gt z43 p1 x5748q).f1.f1)), .bool ((gt z43 p1 x5748q).f1.f2), .int .u32 ((gt z43 p1 x5748q).f2), .int .i64 ((gt z43 p1 x5748q).f3)] : List Value).toArray 43 (0, 0))] :: M6267q :: Fs) := hS6359q.bring 1 rfl rfl
                    have hS6362q : St b w0 W6321q R (M6360q :: [(g6275q, .cells ([.string (mkS r6260q.f0), .string (mkS r6260q.f1), .bool r6260q.f2] : List Value).toArray 29 (0, 0))] :: [(g5777q, .cells ([.int .i64 ((gt z43 p1 x5748q).f0), .string (mkS ((gt z43 p1 x5748q).f1.f0)), .string (mkS ((gt z43 p1 x5748q).f1.f1)), .bool ((gt z43 p1 x5748q).f1.f2), .int .u32 ((gt z43 p1 x5748q).f2), .int .i64 ((gt z43 p1 x5748q).f3)] : List Value).toArray 43 (0, 0))] :: M6267q :: Fs) := hS6361q.drop_
                    have hS6363q : St b w0 W6321q R ([(g6275q, .cells ([.string (mkS r6260q.f0), .string (mkS r6260q.f1), .bool r6260q.f2] : List Value).toArray 29 (0, 0))] :: M6360q :: [(g5777q, .cells ([.int .i64 ((gt z43 p1 x5748q).f0), .string (mkS ((gt z43 p1 x5748q).f1.f0)), .string (mkS ((gt z43 p1 x5748q).f1.f1)), .bool ((gt z43 p1 x5748q).f1.f2), .int .u32 ((gt z43 p1 x5748q).f2), .int .i64 ((gt z43 p1 x5748q).f3)] : List Value).toArray 43 (0, 0))] :: M6267q :: Fs) := hS6362q.bring 1 rfl rfl
                    have hS6364q : St b w0 W6321q R (M6360q :: [(g5777q, .cells ([.int .i64 ((gt z43 p1 x5748q).f0), .string (mkS ((gt z43 p1 x5748q).f1.f0)), .string (mkS ((gt z43 p1 x5748q).f1.f1)), .bool ((gt z43 p1 x5748q).f1.f2), .int .u32 ((gt z43 p1 x5748q).f2), .int .i64 ((gt z43 p1 x5748q).f3)] : List Value).toArray 43 (0, 0))] :: M6267q :: Fs) := hS6363q.drop_
                    have hS6365q : St b w0 W6321q R ([(g5777q, .cells ([.int .i64 ((gt z43 p1 x5748q).f0), .string (mkS ((gt z43 p1 x5748q).f1.f0)), .string (mkS ((gt z43 p1 x5748q).f1.f1)), .bool ((gt z43 p1 x5748q).f1.f2), .int .u32 ((gt z43 p1 x5748q).f2), .int .i64 ((gt z43 p1 x5748q).f3)] : List Value).toArray 43 (0, 0))] :: M6360q :: M6267q :: Fs) := hS6364q.bring 1 rfl rfl
                    have hS6366q : St b w0 W6321q R (M6360q :: M6267q :: Fs) := hS6365q.drop_
                    have hS6367q : St b w0 W6321q R (M6267q :: M6360q :: Fs) := hS6366q.bring 1 rfl rfl
                    exact ⟨k5756q, x5742q, M6267q, x5745q, M6360q, h6343q.keep ⟨rfl, rfl, rfl, rfl, rfl, trivial⟩, ⟨H⟩, ⟨by omega⟩, ⟨hS6367q⟩, ⟨hr6268q⟩, ⟨hp6357q⟩⟩
                · rw [if_neg c6335q] at H
                  have hb_ : (decide (r6260q.f0 = r6303q.f0) && (decide (r6260q.f1 = r6303q.f1) && decide (r6260q.f2 = r6303q.f2))) = false := (Bool.eq_false_iff.2 c6335q)
                  try rw [hb_] at h6334q
                  clear hb_
                  refine WL.skipped (m := 4) h6334q rfl rfl (by kernel_rfl) rfl (fun a6368q h6369q => ?_)
                  clear h6334q a6333q
                  refine WL.skipped (m := 5) h6369q rfl rfl (by kernel_rfl) rfl (fun a6370q h6371q => ?_)
                  clear h6369q a6368q
                  refine WL.skipped (m := 6) h6371q rfl rfl (by kernel_rfl) rfl (fun a6372q h6373q => ?_)
                  clear h6371q a6370q
                  refine WL.block (c := 1) (m' := 8) h6373q rfl [(110, .bool true)] (by kernel_rfl) (fun a6374q h6375q => ?_)
                  clear h6373q a6372q
                  refine WL.done (by kernel_rfl) ?_
                  refine wp_then h6375q rfl ?_
                  refine wp_seq ?_
                  refine WL.start ?_
                  refine WL.block (c := 1) (m' := 1) h6375q rfl [(4, .bool false)] (by kernel_rfl) (fun a6376q h6377q => ?_)
                  clear h6375q a6374q
                  refine WL.done (by kernel_rfl) ?_
                  refine wp_ret ?_
                  have hS6378q : St b w0 W6321q R ([(g6275q, .cells ([.string (mkS r6260q.f0), .string (mkS r6260q.f1), .bool r6260q.f2] : List Value).toArray 29 (0, 0))] :: M6286q :: [(g5777q, .cells ([.int .i64 ((gt z43 p1 x5748q).f0), .string (mkS ((gt z43 p1 x5748q).f1.f0)), .string (mkS ((gt z43 p1 x5748q).f1.f1)), .bool ((gt z43 p1 x5748q).f1.f2), .int .u32 ((gt z43 p1 x5748q).f2), .int .i64 ((gt z43 p1 x5748q).f3)] : List Value).toArray 43 (0, 0))] :: [(g5729q, .cells ([.slice A6291q x5745q.f0.length c6292q, .int .i64 x5745q.f1] : List Value).toArray 41 (0, 0))] :: M6267q :: Fs) := hS6328q.drop_
                  have hS6379q : St b w0 W6321q R (M6286q :: [(g5777q, .cells ([.int .i64 ((gt z43 p1 x5748q).f0), .string (mkS ((gt z43 p1 x5748q).f1.f0)), .string (mkS ((gt z43 p1 x5748q).f1.f1)), .bool ((gt z43 p1 x5748q).f1.f2), .int .u32 ((gt z43 p1 x5748q).f2), .int .i64 ((gt z43 p1 x5748q).f3)] : List Value).toArray 43 (0, 0))] :: [(g5729q, .cells ([.slice A6291q x5745q.f0.length c6292q, .int .i64 x5745q.f1] : List Value).toArray 41 (0, 0))] :: M6267q :: Fs) := hS6378q.drop_
                  have hS6380q : St b w0 W6321q R ([(g5777q, .cells ([.int .i64 ((gt z43 p1 x5748q).f0), .string (mkS ((gt z43 p1 x5748q).f1.f0)), .string (mkS ((gt z43 p1 x5748q).f1.f1)), .bool ((gt z43 p1 x5748q).f1.f2), .int .u32 ((gt z43 p1 x5748q).f2), .int .i64 ((gt z43 p1 x5748q).f3)] : List Value).toArray 43 (0, 0))] :: [(g5729q, .cells ([.slice A6291q x5745q.f0.length c6292q, .int .i64 x5745q.f1] : List Value).toArray 41 (0, 0))] :: M6267q :: Fs) := hS6379q.drop_
                  have hS6381q : St b w0 W6321q R ([(g5729q, .cells ([.slice A6291q x5745q.f0.length c6292q, .int .i64 x5745q.f1] : List Value).toArray 41 (0, 0))] :: M6267q :: Fs) := hS6380q.drop_
                  have hS6382q : St b w0 W6321q R (M6267q :: Fs) := hS6381q.drop_
                  have hS6383q : St b w0 W6321q R (Fs) := hS6382q.drop_
                  obtain rfl := Option.some.inj H
                  repeat (first | refine then_ret ?_ | refine inBlock_ret ?_ | refine inBlock_go ?_)
                  refine body_ret (v := .bool false) h6377q (by kernel_rfl) (by kernel_rfl) ?_
                  exact ⟨rfl, hS6383q⟩
              · rw [if_neg c6253q] at H
                have hb_ : (decide (((gt z43 p1 x5748q).f0) = 2)) = false := decide_eq_false c6253q
                try rw [hb_] at h6252q
                clear hb_
                refine wp_else h6252q rfl ?_
                refine wp_seq ?_
                refine WL.start ?_
                refine WL.block (c := 3) (m' := 3) h6252q rfl [(39, .pointer (some ⟨g5777q, 1, none⟩)), (38, .pointer (some ⟨g5777q, 1, none⟩)), (37, v5718q)] (by kernel_rfl) (fun a6384q h6385q => ?_)
                clear h6252q a6251q
                refine WL.op' (m := 3) h6385q rfl rfl ?_
                refine owp_run (v := .string (mkS ((gt z43 p1 x5748q).f1.f0))) h6385q rfl (by kernel_rfl) (run_load1 rfl rfl Tryd.underlying9 rfl (hS5782q.cell (i := 1) rfl)) (fun a6386q h6387q => ?_)
                clear h6385q a6384q
                refine WL.block (c := 2) (m' := 6) h6387q rfl [(42, .pointer (some ⟨g5777q, 2, none⟩)), (41, .pointer (some ⟨g5777q, 1, none⟩))] (by kernel_rfl) (fun a6388q h6389q => ?_)
                clear h6387q a6386q
                refine WL.op' (m := 6) h6389q rfl rfl ?_
                refine owp_run (v := .string (mkS ((gt z43 p1 x5748q).f1.f1))) h6389q rfl (by kernel_rfl) (run_load1 rfl rfl Tryd.underlying9 rfl (hS5782q.cell (i := 2) rfl)) (fun a6390q h6391q => ?_)
                clear h6389q a6388q
                have hS6392q : St b w0 W5781q R (M5743q :: [(g5777q, .cells ([.int .i64 ((gt z43 p1 x5748q).f0), .string (mkS ((gt z43 p1 x5748q).f1.f0)), .string (mkS ((gt z43 p1 x5748q).f1.f1)), .bool ((gt z43 p1 x5748q).f1.f2), .int .u32 ((gt z43 p1 x5748q).f2), .int .i64 ((gt z43 p1 x5748q).f3)] : List Value).toArray 43 (0, 0))] :: M5746q :: Fs) := hS5782q.bring 1 rfl rfl
                obtain ⟨r6394q, r6395q, A6393q, H⟩ := bind2 H
                refine WL.op' (m := 7) h6391q rfl rfl ?_
                refine owp_call [v5718q, .string (mkS ((gt z43 p1 x5748q).f1.f0)), .string (mkS ((gt z43 p1 x5748q).f1.f1))] h6391q rfl (by kernel_rfl) rfl Tryd.func15 (by kernel_rfl) rfl (by kernel_rfl) (dyntable_Table_Find.calls k5756q hr5744q hg0 A6393q hS6392q) (fun e6397q W6396q hp6398q => ?_)
                obtain ⟨M6401q, rfl, hr6402q, hS6403q⟩ := hp6398q
                refine ⟨_, rfl, fun a6399q h6400q => ?_⟩
                clear h6391q a6390q
                refine WL.block (c := 5) (m' := 13) h6400q rfl [(14, .bool r6395q), (13, .int .i64 r6394q), (46, .bool r6395q), (45, .int .i64 r6394q), (36, .tuple #[.int .i64 r6394q, .bool r6395q])] (by kernel_rfl) (fun a6404q h6405q => ?_)
                clear h6400q a6399q
                refine WL.done (by kernel_rfl) ?_
                refine wp_seq ?_
                refine WL.start ?_
                have hS6406q : St b w0 W6396q R (M5746q :: M6401q :: [(g5777q, .cells ([.int .i64 ((gt z43 p1 x5748q).f0), .string (mkS ((gt z43 p1 x5748q).f1.f0)), .string (mkS ((gt z43 p1 x5748q).f1.f1)), .bool ((gt z43 p1 x5748q).f1.f2), .int .u32 ((gt z43 p1 x5748q).f2), .int .i64 ((gt z43 p1 x5748q).f3)] : List Value).toArray 43 (0, 0))] :: Fs) := hS6403q.bring 2 rfl rfl
                obtain ⟨g6407q, cs6408q, M6409q, hv_, hM_, hr6410q⟩ := hr5747q
                obtain ⟨v6411q, M6412q, rfl, hM2q, hr6413q⟩ := k41qrep hr6410q
                subst hM2q
                subst hM_
                have hg_ : g5729q = g6407q := by simpa using hv_
                subst hg_
                clear hv_
                replace hr6413q : Row k29 29 b w0 R v6411q x5745q.f0 M6409q := hr6413q
                obtain ⟨A6414q, c6415q, rfl⟩ := hr6413q.form
                have hS6416q : St b w0 W6396q R ([(g5729q, .cells ([.slice A6414q x5745q.f0.length c6415q, .int .i64 x5745q.f1] : List Value).toArray 41 (0, 0))] :: M6409q :: M6401q :: [(g5777q, .cells ([.int .i64 ((gt z43 p1 x5748q).f0), .string (mkS ((gt z43 p1 x5748q).f1.f0)), .string (mkS ((gt z43 p1 x5748q).f1.f1)), .bool ((gt z43 p1 x5748q).f1.f2), .int .u32 ((gt z43 p1 x5748q).f2), .int .i64 ((gt z43 p1 x5748q).f3)] : List Value).toArray 43 (0, 0))] :: Fs) := hS6406q.assoc (by simp only [List.flatten_cons, List.append_assoc, List.cons_append, List.nil_append, List.append_nil])
                refine WL.op' (m := 0) h6405q rfl rfl ?_
                refine owp_run (v := .agg #[.slice A6414q x5745q.f0.length c6415q, .int .i64 x5745q.f1]) h6405q rfl (by kernel_rfl) (run_loadN rfl rfl Tryd.underlying41 rfl (cs := ([.slice A6414q x5745q.f0.length c6415q, .int .i64 x5745q.f1] : List Value)) (by kernel_rfl) (hS6416q.cells (vs := ([.slice A6414q x5745q.f0.length c6415q, .int .i64 x5745q.f1] : List Value)) rfl)) (fun a6417q h6418q => ?_)
                clear h6405q a6404q
                refine WL.block (c := 2) (m' := 3) h6418q rfl [(50, .pointer (some ⟨g5777q, 1, none⟩)), (49, .pointer (some ⟨g5777q, 1, none⟩))] (by kernel_rfl) (fun a6419q h6420q => ?_)
                clear h6418q a6417q
                have hS6421q : St b w0 W6396q R ([(g5777q, .cells ([.int .i64 ((gt z43 p1 x5748q).f0), .string (mkS ((gt z43 p1 x5748q).f1.f0)), .string (mkS ((gt z43 p1 x5748q).f1.f1)), .bool ((gt z43 p1 x5748q).f1.f2), .int .u32 ((gt z43 p1 x5748q).f2), .int .i64 ((gt z43 p1 x5748q).f3)] : List Value).toArray 43 (0, 0))] :: [(g5729q, .cells ([.slice A6414q x5745q.f0.length c6415q, .int .i64 x5745q.f1] : List Value).toArray 41 (0, 0))] :: M6409q :: M6401q :: Fs) := hS6416q.bring 3 rfl rfl
                refine WL.op' (m := 3) h6420q rfl rfl ?_
                refine owp_run (v := .string (mkS ((gt z43 p1 x5748q).f1.f0))) h6420q rfl (by kernel_rfl) (run_load1 rfl rfl Tryd.underlying9 rfl (hS6421q.cell (i := 1) rfl)) (fun a6422q h6423q => ?_)
                clear h6420q a6419q
                refine WL.block (c := 2) (m' := 6) h6423q rfl [(53, .pointer (some ⟨g5777q, 2, none⟩)), (52, .pointer (some ⟨g5777q, 1, none⟩))] (by kernel_rfl) (fun a6424q h6425q => ?_)
                clear h6423q a6422q
                refine WL.op' (m := 6) h6425q rfl rfl ?_
                refine owp_run (v := .string (mkS ((gt z43 p1 x5748q).f1.f1))) h6425q rfl (by kernel_rfl) (run_load1 rfl rfl Tryd.underlying9 rfl (hS6421q.cell (i := 2) rfl)) (fun a6426q h6427q => ?_)
                clear h6425q a6424q
                have hS6428q : St b w0 W6396q R (M6409q :: [(g5777q, .cells ([.int .i64 ((gt z43 p1 x5748q).f0), .string (mkS ((gt z43 p1 x5748q).f1.f0)), .string (mkS ((gt z43 p1 x5748q).f1.f1)), .bool ((gt z43 p1 x5748q).f1.f2), .int .u32 ((gt z43 p1 x5748q).f2), .int .i64 ((gt z43 p1 x5748q).f3)] : List Value).toArray 43 (0, 0))] :: [(g5729q, .cells ([.slice A6414q x5745q.f0.length c6415q, .int .i64 x5745q.f1] : List Value).toArray 41 (0, 0))] :: M6401q :: Fs) := hS6421q.bring 2 rfl rfl
                obtain ⟨r6430q, r6431q, A6429q, H⟩ := bind2 H
                refine WL.op' (m := 7) h6427q rfl rfl ?_
                refine owp_call [.agg #[.slice A6414q x5745q.f0.length c6415q, .int .i64 x5745q.f1], .string (mkS ((gt z43 p1 x5748q).f1.f0)), .string (mkS ((gt z43 p1 x5748q).f1.f1))] h6427q rfl (by kernel_rfl) rfl Tryd.func20 (by kernel_rfl) rfl (by kernel_rfl) (louverref05qT_Find.calls (p0 := (⟨x5745q.f0, x5745q.f1⟩ : S41)) k5756q hr6413q.rds A6429q (hS6428q.pool)) (fun e6433q W6432q hp6434q => ?_)
                obtain ⟨rfl, hS6437q⟩ := hp6434q
                have hS6438q : St b w0 W6432q R (M6409q :: [(g5777q, .cells ([.int .i64 ((gt z43 p1 x5748q).f0), .string (mkS ((gt z43 p1 x5748q).f1.f0)), .string (mkS ((gt z43 p1 x5748q).f1.f1)), .bool ((gt z43 p1 x5748q).f1.f2), .int .u32 ((gt z43 p1 x5748q).f2), .int .i64 ((gt z43 p1 x5748q).f3)] : List Value).toArray 43 (0, 0))] :: [(g5729q, .cells ([.slice A6414q x5745q.f0.length c6415q, .int .i64 x5745q.f1] : List Value).toArray 41 (0, 0))] :: M6401q :: Fs) := hS6437q.unpool
                refine ⟨_, rfl, fun a6435q h6436q => ?_⟩
                clear h6427q a6426q
                refine WL.block (c := 5) (m' := 13) h6436q rfl [(16, .bool r6431q), (15, .int .i64 r6430q), (57, .bool r6431q), (56, .int .i64 r6430q), (47, .tuple #[.int .i64 r6430q, .bool r6431q])] (by kernel_rfl) (fun a6439q h6440q => ?_)
                clear h6436q a6435q
                refine WL.done (by kernel_rfl) ?_
                refine wp_seq ?_
                refine WL.start ?_
                refine WL.block (c := 4) (m' := 4) h6440q rfl [(61, .bool (!decide (r6394q = r6430q))), (60, .bool (!decide (r6394q = r6430q))), (59, .int .i64 r6430q), (58, .int .i64 r6394q)] (by kernel_rfl) (fun a6441q h6442q => ?_)
                clear h6440q a6439q
                by_cases c6443q : r6394q = r6430q
                · rw [if_pos c6443q] at H
                  have hb_ : (decide (r6394q = r6430q)) = true := decide_eq_true c6443q
                  try rw [hb_] at h6442q
                  clear hb_
                  refine WL.op' (m := 4) h6442q rfl rfl (owp_run h6442q rfl (by kernel_rfl) (v := .bool r6395q) (by kernel_rfl) (fun a6444q h6445q => ?_))
                  clear h6442q a6441q
                  refine WL.op' (m := 5) h6445q rfl rfl (owp_run h6445q rfl (by kernel_rfl) (v := .bool r6431q) (by kernel_rfl) (fun a6446q h6447q => ?_))
                  clear h6445q a6444q
                  refine WL.op' (m := 6) h6447q rfl rfl (owp_run h6447q rfl (by kernel_rfl) (v := .bool (r6395q != r6431q)) (by kernel_rfl) (fun a6448q h6449q => ?_))
                  clear h6447q a6446q
                  refine WL.block (c := 1) (m' := 8) h6449q rfl [(65, .bool (r6395q != r6431q))] (by kernel_rfl) (fun a6450q h6451q => ?_)
                  clear h6449q a6448q
                  refine WL.done (by kernel_rfl) ?_
                  by_cases c6452q : (r6395q != r6431q) = true
                  · rw [if_pos c6452q] at H
                    have hb_ : (r6395q != r6431q) = true := c6452q
                    try rw [hb_] at h6451q
                    clear hb_
                    refine wp_then h6451q rfl ?_
                    refine wp_seq ?_
                    refine WL.start ?_
                    refine WL.block (c := 1) (m' := 1) h6451q rfl [(4, .bool false)] (by kernel_rfl) (fun a6453q h6454q => ?_)
                    clear h6451q a6450q
                    refine WL.done (by kernel_rfl) ?_
                    refine wp_ret ?_
                    have hS6455q : St b w0 W6432q R ([(g5777q, .cells ([.int .i64 ((gt z43 p1 x5748q).f0), .string (mkS ((gt z43 p1 x5748q).f1.f0)), .string (mkS ((gt z43 p1 x5748q).f1.f1)), .bool ((gt z43 p1 x5748q).f1.f2), .int .u32 ((gt z43 p1 x5748q).f2), .int .i64 ((gt z43 p1 x5748q).f3)] : List Value).toArray 43 (0, 0))] :: [(g5729q, .cells ([.slice A6414q x5745q.f0.length c6415q, .int .i64 x5745q.f1] : List Value).toArray 41 (0, 0))] :: M6401q :: Fs) := hS6438q.drop_
                    have hS6456q : St b w0 W6432q R ([(g5729q, .cells ([.slice A6414q x5745q.f0.length c6415q, .int .i64 x5745q.f1] : List Value).toArray 41 (0, 0))] :: M6401q :: Fs) := hS6455q.drop_
                    have hS6457q : St b w0 W6432q R (M6401q :: Fs) := hS6456q.drop_
                    have hS6458q : St b w0 W6432q R (Fs) := hS6457q.drop_
                    obtain rfl := Option.some.inj H
                    repeat (first | refine then_ret ?_ | refine inBlock_ret ?_ | refine inBlock_go ?_)
                    refine body_ret (v := .bool false) h6454q (by kernel_rfl) (by kernel_rfl) ?_
                    exact ⟨rfl, hS6458q⟩
                  · rw [if_neg c6452q] at H
                    have hb_ : (r6395q != r6431q) = false := (Bool.eq_false_iff.2 c6452q)
                    try rw [hb_] at h6451q
                    clear hb_
                    refine wp_else h6451q rfl ?_
                    refine wp_skip ?_
                    have hS6459q : St b w0 W6432q R ([(g5729q, .cells ([.slice A6414q x5745q.f0.length c6415q, .int .i64 x5745q.f1] : List Value).toArray 41 (0, 0))] :: M6409q :: [(g5777q, .cells ([.int .i64 ((gt z43 p1 x5748q).f0), .string (mkS ((gt z43 p1 x5748q).f1.f0)), .string (mkS ((gt z43 p1 x5748q).f1.f1)), .bool ((gt z43 p1 x5748q).f1.f2), .int .u32 ((gt z43 p1 x5748q).f2), .int .i64 ((gt z43 p1 x5748q).f3)] : List Value).toArray 43 (0, 0))] :: M6401q :: Fs) := hS6438q.bring 2 rfl rfl
                    obtain ⟨M6461q, hr6460q, hM_⟩ := k41qmk (b := b) (w0 := w0) (R := R) (x := x5745q) (gvf0 := hr6413q)
                    have hp6462q : Ptr k41 41 b w0 R (.pointer (some ⟨g5729q, 0, none⟩)) x5745q ((g5729q, .cells ([.slice A6414q x5745q.f0.length c6415q, .int .i64 x5745q.f1] : List Value).toArray 41 (0, 0)) :: M6461q) := ⟨_, _, _, rfl, rfl, hr6460q⟩
                    rw [hM_] at hp6462q
                    have hS6464q : St b w0 W6432q R (((g5729q, .cells ([.slice A6414q x5745q.f0.length c6415q, .int .i64 x5745q.f1] : List Value).toArray 41 (0, 0)) :: (M6409q)) :: [(g5777q, .cells ([.int .i64 ((gt z43 p1 x5748q).f0), .string (mkS ((gt z43 p1 x5748q).f1.f0)), .string (mkS ((gt z43 p1 x5748q).f1.f1)), .bool ((gt z43 p1 x5748q).f1.f2), .int .u32 ((gt z43 p1 x5748q).f2), .int .i64 ((gt z43 p1 x5748q).f3)] : List Value).toArray 43 (0, 0))] :: M6401q :: Fs) := hS6459q.assoc (by simp only [List.flatten_cons, List.append_assoc, List.cons_append, List.nil_append, List.append_nil])
                    obtain ⟨M6465q, hM_⟩ : ∃ y : Frag, y = ((g5729q, .cells ([.slice A6414q x5745q.f0.length c6415q, .int .i64 x5745q.f1] : List Value).toArray 41 (0, 0)) :: (M6409q)) := ⟨_, rfl⟩
                    rw [← hM_] at hp6462q hS6464q
                    clear hM_
                    have hS6466q : St b w0 W6432q R ([(g5777q, .cells ([.int .i64 ((gt z43 p1 x5748q).f0), .string (mkS ((gt z43 p1 x5748q).f1.f0)), .string (mkS ((gt z43 p1 x5748q).f1.f1)), .bool ((gt z43 p1 x5748q).f1.f2), .int .u32 ((gt z43 p1 x5748q).f2), .int .i64 ((gt z43 p1 x5748q).f3)] : List Value).toArray 43 (0, 0))] :: M6465q :: M6401q :: Fs) := hS6464q.bring 1 rfl rfl
                    have hS6467q : St b w0 W6432q R (M6465q :: M6401q :: Fs) := hS6466q.drop_
                    have hS6468q : St b w0 W6432q R (M6401q :: M6465q :: Fs) := hS6467q.bring 1 rfl rfl
                    exact ⟨k5756q, x5742q, M6401q, x5745q, M6465q, h6451q.keep ⟨rfl, rfl, rfl, rfl, rfl, trivial⟩, ⟨H⟩, ⟨by omega⟩, ⟨hS6468q⟩, ⟨hr6402q⟩, ⟨hp6462q⟩⟩
                · rw [if_neg c6443q] at H
                  have hb_ : (decide (r6394q = r6430q)) = false := decide_eq_false c6443q
                  try rw [hb_] at h6442q
                  clear hb_
                  refine WL.skipped (m := 4) h6442q rfl rfl (by kernel_rfl) rfl (fun a6469q h6470q => ?_)
                  clear h6442q a6441q
                  refine WL.skipped (m := 5) h6470q rfl rfl (by kernel_rfl) rfl (fun a6471q h6472q => ?_)
                  clear h6470q a6469q
                  refine WL.skipped (m := 6) h6472q rfl rfl (by kernel_rfl) rfl (fun a6473q h6474q => ?_)
                  clear h6472q a6471q
                  refine WL.block (c := 1) (m' := 8) h6474q rfl [(65, .bool true)] (by kernel_rfl) (fun a6475q h6476q => ?_)
                  clear h6474q a6473q
                  refine WL.done (by kernel_rfl) ?_
                  refine wp_then h6476q rfl ?_
                  refine wp_seq ?_
                  refine WL.start ?_
                  refine WL.block (c := 1) (m' := 1) h6476q rfl [(4, .bool false)] (by kernel_rfl) (fun a6477q h6478q => ?_)
                  clear h6476q a6475q
                  refine WL.done (by kernel_rfl) ?_
                  refine wp_ret ?_
                  have hS6479q : St b w0 W6432q R ([(g5777q, .cells ([.int .i64 ((gt z43 p1 x5748q).f0), .string (mkS ((gt z43 p1 x5748q).f1.f0)), .string (mkS ((gt z43 p1 x5748q).f1.f1)), .bool ((gt z43 p1 x5748q).f1.f2), .int .u32 ((gt z43 p1 x5748q).f2), .int .i64 ((gt z43 p1 x5748q).f3)] : List Value).toArray 43 (0, 0))] :: [(g5729q, .cells ([.slice A6414q x5745q.f0.length c6415q, .int .i64 x5745q.f1] : List Value).toArray 41 (0, 0))] :: M6401q :: Fs) := hS6438q.drop_
                  have hS6480q : St b w0 W6432q R ([(g5729q, .cells ([.slice A6414q x5745q.f0.length c6415q, .int .i64 x5745q.f1] : List Value).toArray 41 (0, 0))] :: M6401q :: Fs) := hS6479q.drop_
                  have hS6481q : St b w0 W6432q R (M6401q :: Fs) := hS6480q.drop_
                  have hS6482q : St b w0 W6432q R (Fs) := hS6481q.drop_
                  obtain rfl := Option.some.inj H
                  repeat (first | refine then_ret ?_ | refine inBlock_ret ?_ | refine inBlock_go ?_)
                  refine body_ret (v := .bool false) h6478q (by kernel_rfl) (by kernel_rfl) ?_
                  exact ⟨rfl, hS6482q⟩
        · clear H hS5782q
          rintro a6107q W6108q ⟨k6110q, x6111q, M6112q, x6114q, M6115q, h6106q, ⟨H⟩, ⟨hkk6110q⟩, ⟨hS6109q⟩, ⟨hr6113q⟩, ⟨hr6116q⟩⟩
          obtain _ | k6483q := k6110q
          · exact absurd H (by simp [louverlaw05qDyntablePlays.j1])
          simp only [louverlaw05qDyntablePlays.j1] at H
          refine wp_seq ?_
          have hS6484q : St b w0 W6108q R (M6115q :: M6112q :: Fs) := hS6109q.bring 1 rfl rfl
          obtain ⟨g6485q, cs6486q, M6487q, hv_, hM_, hr6488q⟩ := hr6116q
          obtain ⟨v6489q, M6490q, rfl, hM2q, hr6491q⟩ := k41qrep hr6488q
          subst hM2q
          subst hM_
          have hg_ : g5729q = g6485q := by simpa using hv_
          subst hg_
          clear hv_
          replace hr6491q : Row k29 29 b w0 R v6489q x6114q.f0 M6487q := hr6491q
          obtain ⟨A6492q, c6493q, rfl⟩ := hr6491q.form
          have hS6494q : St b w0 W6108q R ([(g5729q, .cells ([.slice A6492q x6114q.f0.length c6493q, .int .i64 x6114q.f1] : List Value).toArray 41 (0, 0))] :: M6487q :: M6112q :: Fs) := hS6484q.assoc (by simp only [List.flatten_cons, List.append_assoc, List.cons_append, List.nil_append, List.append_nil])
          refine WT.start 27 (fun w_ => (∀ j_ u_, ([.slice A6492q x6114q.f0.length c6493q, .int .i64 x6114q.f1] : List Value)[j_]? = some u_ → w_.cell? ((⟨g5729q, 0, none⟩ : Addr).add j_) = some u_) ∧ (w_.cell? ⟨g5729q, 0, none⟩ = some (.slice A6492q x6114q.f0.length c6493q)) ∧ (w_.cell? ⟨g5729q, 1, none⟩ = some (.int .i64 x6114q.f1)) ∧ True) (by kernel_rfl) #[false, false, false, false, false, false, false, false, false, false, false, false, false, false, false, false, false, false, false, false, false, false, false, false, false, false, false] 27 rfl rfl ?_
          have hS6869q := hS6494q.drew
          refine WT.take 0 (listed' := #[true, false, false, false, false, false, false, false, false, false, false, false, false, false, false, false, false, false, false, false, false, false, false, false, false, false, false]) h6106q rfl rfl (by kernel_rfl) rfl rfl (v5718q) (fun _ _ => by kernel_rfl) ⟨(hS6869q.cells (vs := ([.slice A6492q x6114q.f0.length c6493q, .int .i64 x6114q.f1] : List Value)) rfl), (hS6869q.cell (i := 0) rfl), (hS6869q.cell (i := 1) rfl), trivial⟩ (fun _ _ _ h_ => h_) (fun a6870q h6871q => ?_)
          clear h6106q a6107q
          refine WT.take 2 (listed' := #[true, false, true, false, false, false, false, false, false, false, false, false, false, false, false, false, false, false, false, false, false, false, false, false, false, false, false]) h6871q rfl rfl (by kernel_rfl) rfl rfl (.agg #[.slice A6492q x6114q.f0.length c6493q, .int .i64 x6114q.f1]) (fun w_ hs_ => (run_loadN rfl rfl Tryd.underlying41 rfl (cs := ([.slice A6492q x6114q.f0.length c6493q, .int .i64 x6114q.f1] : List Value)) (by kernel_rfl) hs_.1)) ⟨(hS6869q.cells (vs := ([.slice A6492q x6114q.f0.length c6493q, .int .i64 x6114q.f1] : List Value)) rfl), (hS6869q.cell (i := 0) rfl), (hS6869q.cell (i := 1) rfl), trivial⟩ (fun _ _ _ h_ => h_) (fun a6872q h6873q => ?_)
          clear h6871q a6870q
          have hS6874q : St b w0 W6108q.drew R (M6112q :: [(g5729q, .cells ([.slice A6492q x6114q.f0.length c6493q, .int .i64 x6114q.f1] : List Value).toArray 41 (0, 0))] :: M6487q :: Fs) := hS6869q.bring 2 rfl rfl
          obtain ⟨r6876q, A6875q, H⟩ := bind1 H
          refine WT.op 1 (listed' := #[true, true, true, false, false, false, false, false, false, false, false, false, false, false, false, false, false, false, false, false, false, false, false, false, false, false, false]) h6873q rfl (by kernel_rfl) rfl rfl ?_
          refine owp_call [v5718q] h6873q rfl (by kernel_rfl) rfl Tryd.func12 (by kernel_rfl) rfl (by kernel_rfl) (dyntable_Table_Size.calls hr6113q A6875q hS6874q) (fun e6878q W6877q hp6879q => ?_)
          obtain ⟨M6882q, rfl, hr6883q, hS6884q⟩ := hp6879q
          refine ⟨_, rfl, fun a6880q h6881q => ?_⟩
          clear h6873q a6872q
          refine ⟨.inr ⟨((hS6884q.bring 1 rfl rfl).cells (vs := ([.slice A6492q x6114q.f0.length c6493q, .int .i64 x6114q.f1] : List Value)) rfl), ((hS6884q.bring 1 rfl rfl).cell (i := 0) rfl), ((hS6884q.bring 1 rfl rfl).cell (i := 1) rfl), trivial⟩, ?_⟩
          have hS6885q : St b w0 W6877q R (M6487q :: M6882q :: [(g5729q, .cells ([.slice A6492q x6114q.f0.length c6493q, .int .i64 x6114q.f1] : List Value).toArray 41 (0, 0))] :: Fs) := hS6884q.bring 2 rfl rfl
          obtain ⟨r6887q, A6886q, H⟩ := bind1 H
          refine WT.op 3 (listed' := #[true, true, true, true, false, false, false, false, false, false, false, false, false, false, false, false, false, false, false, false, false, false, false, false, false, false, false]) h6881q rfl (by kernel_rfl) rfl rfl ?_
          refine owp_call [.agg #[.slice A6492q x6114q.f0.length c6493q, .int .i64 x6114q.f1]] h6881q rfl (by kernel_rfl) rfl Tryd.func21 (by kernel_rfl) rfl (by kernel_rfl) (louverref05qT_Size.calls (p0 := (⟨x6114q.f0, x6114q.f1⟩ : S41)) k6483q hr6491q.rds A6886q (hS6885q.pool)) (fun e6889q W6888q hp6890q => ?_)
          obtain ⟨rfl, hS6893q⟩ := hp6890q
          have hS6894q : St b w0 W6888q R (M6487q :: M6882q :: [(g5729q, .cells ([.slice A6492q x6114q.f0.length c6493q, .int .i64 x6114q.f1] : List Value).toArray 41 (0, 0))] :: Fs) := hS6893q.unpool
          refine ⟨_, rfl, fun a6891q h6892q => ?_⟩
          clear h6881q a6880q
          refine ⟨.inr ⟨((hS6894q.bring 2 rfl rfl).cells (vs := ([.slice A6492q x6114q.f0.length c6493q, .int .i64 x6114q.f1] : List Value)) rfl), ((hS6894q.bring 2 rfl rfl).cell (i := 0) rfl), ((hS6894q.bring 2 rfl rfl).cell (i := 1) rfl), trivial⟩, ?_⟩
          refine WT.take 4 (listed' := #[true, true, true, true, true, false, false, false, false, false, false, false, false, false, false, false, false, false, false, false, false, false, false, false, false, false, false]) h6892q rfl rfl (by kernel_rfl) rfl rfl (.bool (!decide (r6876q = r6887q))) (fun _ _ => by kernel_rfl) ⟨((hS6894q.bring 2 rfl rfl).cells (vs := ([.slice A6492q x6114q.f0.length c6493q, .int .i64 x6114q.f1] : List Value)) rfl), ((hS6894q.bring 2 rfl rfl).cell (i := 0) rfl), ((hS6894q.bring 2 rfl rfl).cell (i := 1) rfl), trivial⟩ (fun _ _ _ h_ => h_) (fun a6895q h6896q => ?_)
          clear h6892q a6891q
          refine WT.take 5 (listed' := #[true, true, true, true, true, true, false, false, false, false, false, false, false, false, false, false, false, false, false, false, false, false, false, false, false, false, false]) h6896q rfl rfl (by kernel_rfl) rfl rfl (.bool (!decide (r6876q = r6887q))) (fun _ _ => by kernel_rfl) ⟨((hS6894q.bring 2 rfl rfl).cells (vs := ([.slice A6492q x6114q.f0.length c6493q, .int .i64 x6114q.f1] : List Value)) rfl), ((hS6894q.bring 2 rfl rfl).cell (i := 0) rfl), ((hS6894q.bring 2 rfl rfl).cell (i := 1) rfl), trivial⟩ (fun _ _ _ h_ => h_) (fun a6897q h6898q => ?_)
          clear h6896q a6895q
          by_cases c6899q : r6876q = r6887q
          · rw [if_pos c6899q] at H
            have hb_ : (decide (r6876q = r6887q)) = true := decide_eq_true c6899q
            try rw [hb_] at h6898q
            clear hb_
            refine WT.take 6 (listed' := #[true, true, true, true, true, true, true, false, false, false, false, false, false, false, false, false, false, false, false, false, false, false, false, false, false, false, false]) h6898q rfl rfl (by kernel_rfl) rfl rfl (v5718q) (fun _ _ => by kernel_rfl) ⟨((hS6894q.bring 2 rfl rfl).cells (vs := ([.slice A6492q x6114q.f0.length c6493q, .int .i64 x6114q.f1] : List Value)) rfl), ((hS6894q.bring 2 rfl rfl).cell (i := 0) rfl), ((hS6894q.bring 2 rfl rfl).cell (i := 1) rfl), trivial⟩ (fun _ _ _ h_ => h_) (fun a6900q h6901q => ?_)
            clear h6898q a6897q
            refine WT.take 8 (listed' := #[true, true, true, true, true, true, true, false, true, false, false, false, false, false, false, false, false, false, false, false, false, false, false, false, false, false, false]) h6901q rfl rfl (by kernel_rfl) rfl rfl (.pointer (some ⟨g5729q, 0, none⟩)) (fun _ _ => by kernel_rfl) ⟨((hS6894q.bring 2 rfl rfl).cells (vs := ([.slice A6492q x6114q.f0.length c6493q, .int .i64 x6114q.f1] : List Value)) rfl), ((hS6894q.bring 2 rfl rfl).cell (i := 0) rfl), ((hS6894q.bring 2 rfl rfl).cell (i := 1) rfl), trivial⟩ (fun _ _ _ h_ => h_) (fun a6902q h6903q => ?_)
            clear h6901q a6900q
            refine WT.take 9 (listed' := #[true, true, true, true, true, true, true, false, true, true, false, false, false, false, false, false, false, false, false, false, false, false, false, false, false, false, false]) h6903q rfl rfl (by kernel_rfl) rfl rfl (.slice A6492q x6114q.f0.length c6493q) (fun w_ hs_ => (run_load1 rfl rfl Tryd.underlying23 rfl hs_.2.1)) ⟨((hS6894q.bring 2 rfl rfl).cells (vs := ([.slice A6492q x6114q.f0.length c6493q, .int .i64 x6114q.f1] : List Value)) rfl), ((hS6894q.bring 2 rfl rfl).cell (i := 0) rfl), ((hS6894q.bring 2 rfl rfl).cell (i := 1) rfl), trivial⟩ (fun _ _ _ h_ => h_) (fun a6904q h6905q => ?_)
            clear h6903q a6902q
            refine WT.take 10 (listed' := #[true, true, true, true, true, true, true, false, true, true, true, false, false, false, false, false, false, false, false, false, false, false, false, false, false, false, false]) h6905q rfl rfl (by kernel_rfl) rfl rfl (.int .i64 (x6114q.f0.length : Int)) (fun _ _ => by kernel_rfl) ⟨((hS6894q.bring 2 rfl rfl).cells (vs := ([.slice A6492q x6114q.f0.length c6493q, .int .i64 x6114q.f1] : List Value)) rfl), ((hS6894q.bring 2 rfl rfl).cell (i := 0) rfl), ((hS6894q.bring 2 rfl rfl).cell (i := 1) rfl), trivial⟩ (fun _ _ _ h_ => h_) (fun a6906q h6907q => ?_)
            clear h6905q a6904q
            have hS6908q : St b w0 W6888q R (M6882q :: M6487q :: [(g5729q, .cells ([.slice A6492q x6114q.f0.length c6493q, .int .i64 x6114q.f1] : List Value).toArray 41 (0, 0))] :: Fs) := hS6894q.bring 1 rfl rfl
            obtain ⟨r6910q, A6909q, H⟩ := bind1 H
            refine WT.op 7 (listed' := #[true, true, true, true, true, true, true, true, true, true, true, false, false, false, false, false, false, false, false, false, false, false, false, false, false, false, false]) h6907q rfl (by kernel_rfl) rfl rfl ?_
            refine owp_call [v5718q] h6907q rfl (by kernel_rfl) rfl Tryd.func11 (by kernel_rfl) rfl (by kernel_rfl) (dyntable_Table_Len.calls hr6883q A6909q hS6908q) (fun e6912q W6911q hp6913q => ?_)
            obtain ⟨M6916q, rfl, hr6917q, hS6918q⟩ := hp6913q
            refine ⟨_, rfl, fun a6914q h6915q => ?_⟩
            clear h6907q a6906q
            refine ⟨.inr ⟨((hS6918q.bring 2 rfl rfl).cells (vs := ([.slice A6492q x6114q.f0.length c6493q, .int .i64 x6114q.f1] : List Value)) rfl), ((hS6918q.bring 2 rfl rfl).cell (i := 0) rfl), ((hS6918q.bring 2 rfl rfl).cell (i := 1) rfl), trivial⟩, ?_⟩
            refine WT.take 11 (listed' := #[true, true, true, true, true, true, true, true, true, true, true, true, false, false, false, false, false, false, false, false, false, false, false, false, false, false, false]) h6915q rfl rfl (by kernel_rfl) rfl rfl (.bool (!decide (r6910q = (x6114q.f0.length : Int)))) (fun _ _ => by kernel_rfl) ⟨((hS6918q.bring 2 rfl rfl).cells (vs := ([.slice A6492q x6114q.f0.length c6493q, .int .i64 x6114q.f1] : List Value)) rfl), ((hS6918q.bring 2 rfl rfl).cell (i := 0) rfl), ((hS6918q.bring 2 rfl rfl).cell (i := 1) rfl), trivial⟩ (fun _ _ _ h_ => h_) (fun a6919q h6920q => ?_)
            clear h6915q a6914q
            refine WT.take 12 (listed' := #[true, true, true, true, true, true, true, true, true, true, true, true, true, false, false, false, false, false, false, false, false, false, false, false, false, false, false]) h6920q rfl rfl (by kernel_rfl) rfl rfl (.bool (!decide (r6910q = (x6114q.f0.length : Int)))) (fun _ _ => by kernel_rfl) ⟨((hS6918q.bring 2 rfl rfl).cells (vs := ([.slice A6492q x6114q.f0.length c6493q, .int .i64 x6114q.f1] : List Value)) rfl), ((hS6918q.bring 2 rfl rfl).cell (i := 0) rfl), ((hS6918q.bring 2 rfl rfl).cell (i := 1) rfl), trivial⟩ (fun _ _ _ h_ => h_) (fun a6921q h6922q => ?_)
            clear h6920q a6919q
            refine WT.take 13 (listed' := #[true, true, true, true, true, true, true, true, true, true, true, true, true, true, false, false, false, false, false, false, false, false, false, false, false, false, false]) h6922q rfl rfl (by kernel_rfl) rfl rfl (.bool (!decide (r6910q = (x6114q.f0.length : Int)))) (fun _ _ => by kernel_rfl) ⟨((hS6918q.bring 2 rfl rfl).cells (vs := ([.slice A6492q x6114q.f0.length c6493q, .int .i64 x6114q.f1] : List Value)) rfl), ((hS6918q.bring 2 rfl rfl).cell (i := 0) rfl), ((hS6918q.bring 2 rfl rfl).cell (i := 1) rfl), trivial⟩ (fun _ _ _ h_ => h_) (fun a6923q h6924q => ?_)
            clear h6922q a6921q
            by_cases c6925q : r6910q = (x6114q.f0.length : Int)
            · rw [if_pos c6925q] at H
              have hb_ : (decide (r6910q = (x6114q.f0.length : Int))) = true := decide_eq_true c6925q
              try rw [hb_] at h6924q
              clear hb_
              refine WT.take 14 (listed' := #[true, true, true, true, true, true, true, true, true, true, true, true, true, true, true, false, false, false, false, false, false, false, false, false, false, false, false]) h6924q rfl rfl (by kernel_rfl) rfl rfl (v5718q) (fun _ _ => by kernel_rfl) ⟨((hS6918q.bring 2 rfl rfl).cells (vs := ([.slice A6492q x6114q.f0.length c6493q, .int .i64 x6114q.f1] : List Value)) rfl), ((hS6918q.bring 2 rfl rfl).cell (i := 0) rfl), ((hS6918q.bring 2 rfl rfl).cell (i := 1) rfl), trivial⟩ (fun _ _ _ h_ => h_) (fun a6926q h6927q => ?_)
              clear h6924q a6923q
              refine WT.take 16 (listed' := #[true, true, true, true, true, true, true, true, true, true, true, true, true, true, true, false, true, false, false, false, false, false, false, false, false, false, false]) h6927q rfl rfl (by kernel_rfl) rfl rfl (.pointer (some ⟨g5729q, 1, none⟩)) (fun _ _ => by kernel_rfl) ⟨((hS6918q.bring 2 rfl rfl).cells (vs := ([.slice A6492q x6114q.f0.length c6493q, .int .i64 x6114q.f1] : List Value)) rfl), ((hS6918q.bring 2 rfl rfl).cell (i := 0) rfl), ((hS6918q.bring 2 rfl rfl).cell (i := 1) rfl), trivial⟩ (fun _ _ _ h_ => h_) (fun a6928q h6929q => ?_)
              clear h6927q a6926q
              refine WT.take 17 (listed' := #[true, true, true, true, true, true, true, true, true, true, true, true, true, true, true, false, true, true, false, false, false, false, false, false, false, false, false]) h6929q rfl rfl (by kernel_rfl) rfl rfl (.int .i64 x6114q.f1) (fun w_ hs_ => (run_load1 rfl rfl Tryd.underlying3 rfl hs_.2.2.1)) ⟨((hS6918q.bring 2 rfl rfl).cells (vs := ([.slice A6492q x6114q.f0.length c6493q, .int .i64 x6114q.f1] : List Value)) rfl), ((hS6918q.bring 2 rfl rfl).cell (i := 0) rfl), ((hS6918q.bring 2 rfl rfl).cell (i := 1) rfl), trivial⟩ (fun _ _ _ h_ => h_) (fun a6930q h6931q => ?_)
              clear h6929q a6928q
              obtain ⟨r6933q, A6932q, H⟩ := bind1 H
              refine WT.op 15 (listed' := #[true, true, true, true, true, true, true, true, true, true, true, true, true, true, true, true, true, true, false, false, false, false, false, false, false, false, false]) h6931q rfl (by kernel_rfl) rfl rfl ?_
              refine owp_call [v5718q] h6931q rfl (by kernel_rfl) rfl Tryd.func22 (by kernel_rfl) rfl (by kernel_rfl) (dyntable_Table_Most.calls hr6917q A6932q hS6918q) (fun e6935q W6934q hp6936q => ?_)
              obtain ⟨M6939q, rfl, hr6940q, hS6941q⟩ := hp6936q
              refine ⟨_, rfl, fun a6937q h6938q => ?_⟩
              clear h6931q a6930q
              refine ⟨.inr ⟨((hS6941q.bring 2 rfl rfl).cells (vs := ([.slice A6492q x6114q.f0.length c6493q, .int .i64 x6114q.f1] : List Value)) rfl), ((hS6941q.bring 2 rfl rfl).cell (i := 0) rfl), ((hS6941q.bring 2 rfl rfl).cell (i := 1) rfl), trivial⟩, ?_⟩
              refine WT.take 18 (listed' := #[true, true, true, true, true, true, true, true, true, true, true, true, true, true, true, true, true, true, true, false, false, false, false, false, false, false, false]) h6938q rfl rfl (by kernel_rfl) rfl rfl (.bool (!decide (r6933q = x6114q.f1))) (fun _ _ => by kernel_rfl) ⟨((hS6941q.bring 2 rfl rfl).cells (vs := ([.slice A6492q x6114q.f0.length c6493q, .int .i64 x6114q.f1] : List Value)) rfl), ((hS6941q.bring 2 rfl rfl).cell (i := 0) rfl), ((hS6941q.bring 2 rfl rfl).cell (i := 1) rfl), trivial⟩ (fun _ _ _ h_ => h_) (fun a6942q h6943q => ?_)
              clear h6938q a6937q
              refine WT.take 19 (listed' := #[true, true, true, true, true, true, true, true, true, true, true, true, true, true, true, true, true, true, true, true, false, false, false, false, false, false, false]) h6943q rfl rfl (by kernel_rfl) rfl rfl (.bool (!decide (r6933q = x6114q.f1))) (fun _ _ => by kernel_rfl) ⟨((hS6941q.bring 2 rfl rfl).cells (vs := ([.slice A6492q x6114q.f0.length c6493q, .int .i64 x6114q.f1] : List Value)) rfl), ((hS6941q.bring 2 rfl rfl).cell (i := 0) rfl), ((hS6941q.bring 2 rfl rfl).cell (i := 1) rfl), trivial⟩ (fun _ _ _ h_ => h_) (fun a6944q h6945q => ?_)
              clear h6943q a6942q
              refine WT.take 20 (listed' := #[true, true, true, true, true, true, true, true, true, true, true, true, true, true, true, true, true, true, true, true, true, false, false, false, false, false, false]) h6945q rfl rfl (by kernel_rfl) rfl rfl (.bool (!decide (r6933q = x6114q.f1))) (fun _ _ => by kernel_rfl) ⟨((hS6941q.bring 2 rfl rfl).cells (vs := ([.slice A6492q x6114q.f0.length c6493q, .int .i64 x6114q.f1] : List Value)) rfl), ((hS6941q.bring 2 rfl rfl).cell (i := 0) rfl), ((hS6941q.bring 2 rfl rfl).cell (i := 1) rfl), trivial⟩ (fun _ _ _ h_ => h_) (fun a6946q h6947q => ?_)
              clear h6945q a6944q
              by_cases c6948q : r6933q = x6114q.f1
              · rw [if_pos c6948q] at H
                have hb_ : (decide (r6933q = x6114q.f1)) = true := decide_eq_true c6948q
                try rw [hb_] at h6947q
                clear hb_
                refine WT.take 21 (listed' := #[true, true, true, true, true, true, true, true, true, true, true, true, true, true, true, true, true, true, true, true, true, true, false, false, false, false, false]) h6947q rfl rfl (by kernel_rfl) rfl rfl (v5718q) (fun _ _ => by kernel_rfl) ⟨((hS6941q.bring 2 rfl rfl).cells (vs := ([.slice A6492q x6114q.f0.length c6493q, .int .i64 x6114q.f1] : List Value)) rfl), ((hS6941q.bring 2 rfl rfl).cell (i := 0) rfl), ((hS6941q.bring 2 rfl rfl).cell (i := 1) rfl), trivial⟩ (fun _ _ _ h_ => h_) (fun a6949q h6950q => ?_)
                clear h6947q a6946q
                refine WT.take 23 (listed' := #[true, true, true, true, true, true, true, true, true, true, true, true, true, true, true, true, true, true, true, true, true, true, false, true, false, false, false]) h6950q rfl rfl (by kernel_rfl) rfl rfl (v5718q) (fun _ _ => by kernel_rfl) ⟨((hS6941q.bring 2 rfl rfl).cells (vs := ([.slice A6492q x6114q.f0.length c6493q, .int .i64 x6114q.f1] : List Value)) rfl), ((hS6941q.bring 2 rfl rfl).cell (i := 0) rfl), ((hS6941q.bring 2 rfl rfl).cell (i := 1) rfl), trivial⟩ (fun _ _ _ h_ => h_) (fun a6951q h6952q => ?_)
                clear h6950q a6949q
                obtain ⟨r6954q, A6953q, H⟩ := bind1 H
                refine WT.op 22 (listed' := #[true, true, true, true, true, true, true, true, true, true, true, true, true, true, true, true, true, true, true, true, true, true, true, true, false, false, false]) h6952q rfl (by kernel_rfl) rfl rfl ?_
                refine owp_call [v5718q] h6952q rfl (by kernel_rfl) rfl Tryd.func12 (by kernel_rfl) rfl (by kernel_rfl) (dyntable_Table_Size.calls hr6940q A6953q hS6941q) (fun e6956q W6955q hp6957q => ?_)
                obtain ⟨M6960q, rfl, hr6961q, hS6962q⟩ := hp6957q
                refine ⟨_, rfl, fun a6958q h6959q => ?_⟩
                clear h6952q a6951q
                refine ⟨.inr ⟨((hS6962q.bring 2 rfl rfl).cells (vs := ([.slice A6492q x6114q.f0.length c6493q, .int .i64 x6114q.f1] : List Value)) rfl), ((hS6962q.bring 2 rfl rfl).cell (i := 0) rfl), ((hS6962q.bring 2 rfl rfl).cell (i := 1) rfl), trivial⟩, ?_⟩
                obtain ⟨r6964q, A6963q, H⟩ := bind1 H
                refine WT.op 24 (listed' := #[true, true, true, true, true, true, true, true, true, true, true, true, true, true, true, true, true, true, true, true, true, true, true, true, true, false, false]) h6959q rfl (by kernel_rfl) rfl rfl ?_
                refine owp_call [v5718q] h6959q rfl (by kernel_rfl) rfl Tryd.func22 (by kernel_rfl) rfl (by kernel_rfl) (dyntable_Table_Most.calls hr6961q A6963q hS6962q) (fun e6966q W6965q hp6967q => ?_)
                obtain ⟨M6970q, rfl, hr6971q, hS6972q⟩ := hp6967q
                refine ⟨_, rfl, fun a6968q h6969q => ?_⟩
                clear h6959q a6958q
                refine ⟨.inr ⟨((hS6972q.bring 2 rfl rfl).cells (vs := ([.slice A6492q x6114q.f0.length c6493q, .int .i64 x6114q.f1] : List Value)) rfl), ((hS6972q.bring 2 rfl rfl).cell (i := 0) rfl), ((hS6972q.bring 2 rfl rfl).cell (i := 1) rfl), trivial⟩, ?_⟩
                refine WT.take 25 (listed' := #[true, true, true, true, true, true, true, true, true, true, true, true, true, true, true, true, true, true, true, true, true, true, true, true, true, true, false]) h6969q rfl rfl (by kernel_rfl) rfl rfl (.bool (decide (r6954q > r6964q))) (fun _ _ => by kernel_rfl) ⟨((hS6972q.bring 2 rfl rfl).cells (vs := ([.slice A6492q x6114q.f0.length c6493q, .int .i64 x6114q.f1] : List Value)) rfl), ((hS6972q.bring 2 rfl rfl).cell (i := 0) rfl), ((hS6972q.bring 2 rfl rfl).cell (i := 1) rfl), trivial⟩ (fun _ _ _ h_ => h_) (fun a6973q h6974q => ?_)
                clear h6969q a6968q
                refine WT.take 26 (listed' := #[true, true, true, true, true, true, true, true, true, true, true, true, true, true, true, true, true, true, true, true, true, true, true, true, true, true, true]) h6974q rfl rfl (by kernel_rfl) rfl rfl (.bool (decide (r6954q > r6964q))) (fun _ _ => by kernel_rfl) ⟨((hS6972q.bring 2 rfl rfl).cells (vs := ([.slice A6492q x6114q.f0.length c6493q, .int .i64 x6114q.f1] : List Value)) rfl), ((hS6972q.bring 2 rfl rfl).cell (i := 0) rfl), ((hS6972q.bring 2 rfl rfl).cell (i := 1) rfl), trivial⟩ (fun _ _ _ h_ => h_) (fun a6975q h6976q => ?_)
                clear h6974q a6973q
                refine WT.done (by kernel_rfl) ?_
                by_cases c6977q : r6954q > r6964q
                · rw [if_pos c6977q] at H
                  have hb_ : (decide (r6954q > r6964q)) = true := decide_eq_true c6977q
                  try rw [hb_] at h6976q
                  clear hb_
                  refine wp_then h6976q rfl ?_
                  refine wp_seq ?_
                  refine WL.start ?_
                  refine WL.block (c := 1) (m' := 1) h6976q rfl [(4, .bool false)] (by kernel_rfl) (fun a6978q h6979q => ?_)
                  clear h6976q a6975q
                  refine WL.done (by kernel_rfl) ?_
                  refine wp_ret ?_
                  have hS6980q : St b w0 W6965q R (M6487q :: [(g5729q, .cells ([.slice A6492q x6114q.f0.length c6493q, .int .i64 x6114q.f1] : List Value).toArray 41 (0, 0))] :: Fs) := hS6972q.drop_
                  have hS6981q : St b w0 W6965q R ([(g5729q, .cells ([.slice A6492q x6114q.f0.length c6493q, .int .i64 x6114q.f1] : List Value).toArray 41 (0, 0))] :: Fs) := hS6980q.drop_
                  have hS6982q : St b w0 W6965q R (Fs) := hS6981q.drop_
                  obtain rfl := Option.some.inj H
                  repeat (first | refine then_ret ?_ | refine inBlock_ret ?_ | refine inBlock_go ?_)
                  refine body_ret (v := .bool false) h6979q (by kernel_rfl) (by kernel_rfl) ?_
                  exact ⟨rfl, hS6982q⟩
                · rw [if_neg c6977q] at H
                  have hb_ : (decide (r6954q > r6964q)) = false := decide_eq_false c6977q
                  try rw [hb_] at h6976q
                  clear hb_
                  refine wp_else h6976q rfl ?_
                  refine wp_skip ?_
                  refine WL.start ?_
                  refine WL.block (c := 2) (m' := 2) h6976q rfl [(30, .int .i64 (IntKind.i64.wrap (x5748q + 1))), (138, .int .i64 (IntKind.i64.wrap (x5748q + 1)))] (by kernel_rfl) (fun a6983q h6984q => ?_)
                  clear h6976q a6975q
                  refine WL.done (by kernel_rfl) ?_
                  have hS6985q : St b w0 W6965q R (M6487q :: M6970q :: [(g5729q, .cells ([.slice A6492q x6114q.f0.length c6493q, .int .i64 x6114q.f1] : List Value).toArray 41 (0, 0))] :: Fs) := hS6972q.bring 1 rfl rfl
                  have hS6986q : St b w0 W6965q R ([(g5729q, .cells ([.slice A6492q x6114q.f0.length c6493q, .int .i64 x6114q.f1] : List Value).toArray 41 (0, 0))] :: M6487q :: M6970q :: Fs) := hS6985q.bring 2 rfl rfl
                  obtain ⟨M6988q, hr6987q, hM_⟩ := k41qmk (b := b) (w0 := w0) (R := R) (x := x6114q) (gvf0 := hr6491q)
                  have hp6989q : Ptr k41 41 b w0 R (.pointer (some ⟨g5729q, 0, none⟩)) x6114q ((g5729q, .cells ([.slice A6492q x6114q.f0.length c6493q, .int .i64 x6114q.f1] : List Value).toArray 41 (0, 0)) :: M6988q) := ⟨_, _, _, rfl, rfl, hr6987q⟩
                  rw [hM_] at hp6989q
                  have hS6991q : St b w0 W6965q R (((g5729q, .cells ([.slice A6492q x6114q.f0.length c6493q, .int .i64 x6114q.f1] : List Value).toArray 41 (0, 0)) :: (M6487q)) :: M6970q :: Fs) := hS6986q.assoc (by simp only [List.flatten_cons, List.append_assoc, List.cons_append, List.nil_append, List.append_nil])
                  obtain ⟨M6992q, hM_⟩ : ∃ y : Frag, y = ((g5729q, .cells ([.slice A6492q x6114q.f0.length c6493q, .int .i64 x6114q.f1] : List Value).toArray 41 (0, 0)) :: (M6487q)) := ⟨_, rfl⟩
                  rw [← hM_] at hp6989q hS6991q
                  clear hM_
                  have hS6993q : St b w0 W6965q R (M6970q :: M6992q :: Fs) := hS6991q.bring 1 rfl rfl
                  exact ⟨k6483q, by omega, x6111q, M6970q, x6114q, M6992q, IntKind.i64.wrap (x5748q + 1), h6984q.keep ⟨rfl, rfl, rfl, rfl, rfl, trivial⟩, ⟨H⟩, ⟨by omega⟩, ⟨hS6993q⟩, ⟨hr6971q⟩, ⟨hp6989q⟩⟩
              · rw [if_neg c6948q] at H
                have hb_ : (decide (r6933q = x6114q.f1)) = false := decide_eq_false c6948q
                try rw [hb_] at h6947q
                clear hb_
                refine WT.skip 21 (listed' := #[true, true, true, true, true, true, true, true, true, true, true, true, true, true, true, true, true, true, true, true, true, true, false, false, false, false, false]) h6947q rfl rfl (by kernel_rfl) rfl rfl ⟨((hS6941q.bring 2 rfl rfl).cells (vs := ([.slice A6492q x6114q.f0.length c6493q, .int .i64 x6114q.f1] : List Value)) rfl), ((hS6941q.bring 2 rfl rfl).cell (i := 0) rfl), ((hS6941q.bring 2 rfl rfl).cell (i := 1) rfl), trivial⟩ (fun _ _ _ h_ => h_) (fun a6994q h6995q => ?_)
                clear h6947q a6946q
                refine WT.skip 22 (listed' := #[true, true, true, true, true, true, true, true, true, true, true, true, true, true, true, true, true, true, true, true, true, true, true, false, false, false, false]) h6995q rfl rfl (by kernel_rfl) rfl rfl ⟨((hS6941q.bring 2 rfl rfl).cells (vs := ([.slice A6492q x6114q.f0.length c6493q, .int .i64 x6114q.f1] : List Value)) rfl), ((hS6941q.bring 2 rfl rfl).cell (i := 0) rfl), ((hS6941q.bring 2 rfl rfl).cell (i := 1) rfl), trivial⟩ (fun _ _ _ h_ => h_) (fun a6996q h6997q => ?_)
                clear h6995q a6994q
                refine WT.skip 23 (listed' := #[true, true, true, true, true, true, true, true, true, true, true, true, true, true, true, true, true, true, true, true, true, true, true, true, false, false, false]) h6997q rfl rfl (by kernel_rfl) rfl rfl ⟨((hS6941q.bring 2 rfl rfl).cells (vs := ([.slice A6492q x6114q.f0.length c6493q, .int .i64 x6114q.f1] : List Value)) rfl), ((hS6941q.bring 2 rfl rfl).cell (i := 0) rfl), ((hS6941q.bring 2 rfl rfl).cell (i := 1) rfl), trivial⟩ (fun _ _ _ h_ => h_) (fun a6998q h6999q => ?_)
                clear h6997q a6996q
                refine WT.skip 24 (listed' := #[true, true, true, true, true, true, true, true, true, true, true, true, true, true, true, true, true, true, true, true, true, true, true, true, true, false, false]) h6999q rfl rfl (by kernel_rfl) rfl rfl ⟨((hS6941q.bring 2 rfl rfl).cells (vs := ([.slice A6492q x6114q.f0.length c6493q, .int .i64 x6114q.f1] : List Value)) rfl), ((hS6941q.bring 2 rfl rfl).cell (i := 0) rfl), ((hS6941q.bring 2 rfl rfl).cell (i := 1) rfl), trivial⟩ (fun _ _ _ h_ => h_) (fun a7000q h7001q => ?_)
                clear h6999q a6998q
                refine WT.skip 25 (listed' := #[true, true, true, true, true, true, true, true, true, true, true, true, true, true, true, true, true, true, true, true, true, true, true, true, true, true, false]) h7001q rfl rfl (by kernel_rfl) rfl rfl ⟨((hS6941q.bring 2 rfl rfl).cells (vs := ([.slice A6492q x6114q.f0.length c6493q, .int .i64 x6114q.f1] : List Value)) rfl), ((hS6941q.bring 2 rfl rfl).cell (i := 0) rfl), ((hS6941q.bring 2 rfl rfl).cell (i := 1) rfl), trivial⟩ (fun _ _ _ h_ => h_) (fun a7002q h7003q => ?_)
                clear h7001q a7000q
                refine WT.take 26 (listed' := #[true, true, true, true, true, true, true, true, true, true, true, true, true, true, true, true, true, true, true, true, true, true, true, true, true, true, true]) h7003q rfl rfl (by kernel_rfl) rfl rfl (.bool true) (fun _ _ => by kernel_rfl) ⟨((hS6941q.bring 2 rfl rfl).cells (vs := ([.slice A6492q x6114q.f0.length c6493q, .int .i64 x6114q.f1] : List Value)) rfl), ((hS6941q.bring 2 rfl rfl).cell (i := 0) rfl), ((hS6941q.bring 2 rfl rfl).cell (i := 1) rfl), trivial⟩ (fun _ _ _ h_ => h_) (fun a7004q h7005q => ?_)
                clear h7003q a7002q
                refine WT.done (by kernel_rfl) ?_
                refine wp_then h7005q rfl ?_
                refine wp_seq ?_
                refine WL.start ?_
                refine WL.block (c := 1) (m' := 1) h7005q rfl [(4, .bool false)] (by kernel_rfl) (fun a7006q h7007q => ?_)
                clear h7005q a7004q
                refine WL.done (by kernel_rfl) ?_
                refine wp_ret ?_
                have hS7008q : St b w0 W6934q R (M6487q :: [(g5729q, .cells ([.slice A6492q x6114q.f0.length c6493q, .int .i64 x6114q.f1] : List Value).toArray 41 (0, 0))] :: Fs) := hS6941q.drop_
                have hS7009q : St b w0 W6934q R ([(g5729q, .cells ([.slice A6492q x6114q.f0.length c6493q, .int .i64 x6114q.f1] : List Value).toArray 41 (0, 0))] :: Fs) := hS7008q.drop_
                have hS7010q : St b w0 W6934q R (Fs) := hS7009q.drop_
                obtain rfl := Option.some.inj H
                repeat (first | refine then_ret ?_ | refine inBlock_ret ?_ | refine inBlock_go ?_)
                refine body_ret (v := .bool false) h7007q (by kernel_rfl) (by kernel_rfl) ?_
                exact ⟨rfl, hS7010q⟩
            · rw [if_neg c6925q] at H
              have hb_ : (decide (r6910q = (x6114q.f0.length : Int))) = false := decide_eq_false c6925q
              try rw [hb_] at h6924q
              clear hb_
              refine WT.skip 14 (listed' := #[true, true, true, true, true, true, true, true, true, true, true, true, true, true, true, false, false, false, false, false, false, false, false, false, false, false, false]) h6924q rfl rfl (by kernel_rfl) rfl rfl ⟨((hS6918q.bring 2 rfl rfl).cells (vs := ([.slice A6492q x6114q.f0.length c6493q, .int .i64 x6114q.f1] : List Value)) rfl), ((hS6918q.bring 2 rfl rfl).cell (i := 0) rfl), ((hS6918q.bring 2 rfl rfl).cell (i := 1) rfl), trivial⟩ (fun _ _ _ h_ => h_) (fun a7011q h7012q => ?_)
              clear h6924q a6923q
              refine WT.skip 15 (listed' := #[true, true, true, true, true, true, true, true, true, true, true, true, true, true, true, true, false, false, false, false, false, false, false, false, false, false, false]) h7012q rfl rfl (by kernel_rfl) rfl rfl ⟨((hS6918q.bring 2 rfl rfl).cells (vs := ([.slice A6492q x6114q.f0.length c6493q, .int .i64 x6114q.f1] : List Value)) rfl), ((hS6918q.bring 2 rfl rfl).cell (i := 0) rfl), ((hS6918q.bring 2 rfl rfl).cell (i := 1) rfl), trivial⟩ (fun _ _ _ h_ => h_) (fun a7013q h7014q => ?_)
              clear h7012q a7011q
              refine WT.skip 16 (listed' := #[true, true, true, true, true, true, true, true, true, true, true, true, true, true, true, true, true, false, false, false, false, false, false, false, false, false, false]) h7014q rfl rfl (by kernel_rfl) rfl rfl ⟨((hS6918q.bring 2 rfl rfl).cells (vs := ([.slice A6492q x6114q.f0.length c6493q, .int .i64 x6114q.f1] : List Value)) rfl), ((hS6918q.bring 2 rfl rfl).cell (i := 0) rfl), ((hS6918q.bring 2 rfl rfl).cell (i := 1) rfl), trivial⟩ (fun _ _ _ h_ => h_) (fun a7015q h7016q => ?_)
              clear h7014q a7013q
              refine WT.skip 17 (listed' := #[true, true, true, true, true, true, true, true, true, true, true, true, true, true, true, true, true, true, false, false, false, false, false, false, false, false, false]) h7016q rfl rfl (by kernel_rfl) rfl rfl ⟨((hS6918q.bring 2 rfl rfl).cells (vs := ([.slice A6492q x6114q.f0.length c6493q, .int .i64 x6114q.f1] : List Value)) rfl), ((hS6918q.bring 2 rfl rfl).cell (i := 0) rfl), ((hS6918q.bring 2 rfl rfl).cell (i := 1) rfl), trivial⟩ (fun _ _ _ h_ => h_) (fun a7017q h7018q => ?_)
              clear h7016q a7015q
              refine WT.skip 18 (listed' := #[true, true, true, true, true, true, true, true, true, true, true, true, true, true, true, true, true, true, true, false, false, false, false, false, false, false, false]) h7018q rfl rfl (by kernel_rfl) rfl rfl ⟨((hS6918q.bring 2 rfl rfl).cells (vs := ([.slice A6492q x6114q.f0.length c6493q, .int .i64 x6114q.f1] : List Value)) rfl), ((hS6918q.bring 2 rfl rfl).cell (i := 0) rfl), ((hS6918q.bring 2 rfl rfl).cell (i := 1) rfl), trivial⟩ (fun _ _ _ h_ => h_) (fun a7019q h7020q => ?_)
              clear h7018q a7017q
              refine WT.take 19 (listed' := #[true, true, true, true, true, true, true, true, true, true, true, true, true, true, true, true, true, true, true, true, false, false, false, false, false, false, false]) h7020q rfl rfl (by kernel_rfl) rfl rfl (.bool true) (fun _ _ => by kernel_rfl) ⟨((hS6918q.bring 2 rfl rfl).cells (vs := ([.slice A6492q x6114q.f0.length c6493q, .int .i64 x6114q.f1] : List Value)) rfl), ((hS6918q.bring 2 rfl rfl).cell (i := 0) rfl), ((hS6918q.bring 2 rfl rfl).cell (i := 1) rfl), trivial⟩ (fun _ _ _ h_ => h_) (fun a7021q h7022q => ?_)
              clear h7020q a7019q
              refine WT.take 20 (listed' := #[true, true, true, true, true, true, true, true, true, true, true, true, true, true, true, true, true, true, true, true, true, false, false, false, false, false, false]) h7022q rfl rfl (by kernel_rfl) rfl rfl (.bool true) (fun _ _ => by kernel_rfl) ⟨((hS6918q.bring 2 rfl rfl).cells (vs := ([.slice A6492q x6114q.f0.length c6493q, .int .i64 x6114q.f1] : List Value)) rfl), ((hS6918q.bring 2 rfl rfl).cell (i := 0) rfl), ((hS6918q.bring 2 rfl rfl).cell (i := 1) rfl), trivial⟩ (fun _ _ _ h_ => h_) (fun a7023q h7024q => ?_)
              clear h7022q a7021q
              refine WT.skip 21 (listed' := #[true, true, true, true, true, true, true, true, true, true, true, true, true, true, true, true, true, true, true, true, true, true, false, false, false, false, false]) h7024q rfl rfl (by kernel_rfl) rfl rfl ⟨((hS6918q.bring 2 rfl rfl).cells (vs := ([.slice A6492q x6114q.f0.length c6493q, .int .i64 x6114q.f1] : List Value)) rfl), ((hS6918q.bring 2 rfl rfl).cell (i := 0) rfl), ((hS6918q.bring 2 rfl rfl).cell (i := 1) rfl), trivial⟩ (fun _ _ _ h_ => h_) (fun a7025q h7026q => ?_)
              clear h7024q a7023q
              refine WT.skip 22 (listed' := #[true, true, true, true, true, true, true, true, true, true, true, true, true, true, true, true, true, true, true, true, true, true, true, false, false, false, false]) h7026q rfl rfl (by kernel_rfl) rfl rfl ⟨((hS6918q.bring 2 rfl rfl).cells (vs := ([.slice A6492q x6114q.f0.length c6493q, .int .i64 x6114q.f1] : List Value)) rfl), ((hS6918q.bring 2 rfl rfl).cell (i := 0) rfl), ((hS6918q.bring 2 rfl rfl).cell (i := 1) rfl), trivial⟩ (fun _ _ _ h_ => h_) (fun a7027q h7028q => ?_)
              clear h7026q a7025q
              refine WT.skip 23 (listed' := #[true, true, true, true, true, true, true, true, true, true, true, true, true, true, true, true, true, true, true, true, true, true, true, true, false, false, false]) h7028q rfl rfl (by kernel_rfl) rfl rfl ⟨((hS6918q.bring 2 rfl rfl).cells (vs := ([.slice A6492q x6114q.f0.length c6493q, .int .i64 x6114q.f1] : List Value)) rfl), ((hS6918q.bring 2 rfl rfl).cell (i := 0) rfl), ((hS6918q.bring 2 rfl rfl).cell (i := 1) rfl), trivial⟩ (fun _ _ _ h_ => h_) (fun a7029q h7030q => ?_)
              clear h7028q a7027q
              refine WT.skip 24 (listed' := #[true, true, true, true, true, true, true, true, true, true, true, true, true, true, true, true, true, true, true, true, true, true, true, true, true, false, false]) h7030q rfl rfl (by kernel_rfl) rfl rfl ⟨((hS6918q.bring 2 rfl rfl).cells (vs := ([.slice A6492q x6114q.f0.length c6493q, .int .i64 x6114q.f1] : List Value)) rfl), ((hS6918q.bring 2 rfl rfl).cell (i := 0) rfl), ((hS6918q.bring 2 rfl rfl).cell (i := 1) rfl), trivial⟩ (fun _ _ _ h_ => h_) (fun a7031q h7032q => ?_)
              clear h7030q a7029q
              refine WT.skip 25 (listed' := #[true, true, true, true, true, true, true, true, true, true, true, true, true, true, true, true, true, true, true, true, true, true, true, true, true, true, false]) h7032q rfl rfl (by kernel_rfl) rfl rfl ⟨((hS6918q.bring 2 rfl rfl).cells (vs := ([.slice A6492q x6114q.f0.length c6493q, .int .i64 x6114q.f1] : List Value)) rfl), ((hS6918q.bring 2 rfl rfl).cell (i := 0) rfl), ((hS6918q.bring 2 rfl rfl).cell (i := 1) rfl), trivial⟩ (fun _ _ _ h_ => h_) (fun a7033q h7034q => ?_)
              clear h7032q a7031q
              refine WT.take 26 (listed' := #[true, true, true, true, true, true, true, true, true, true, true, true, true, true, true, true, true, true, true, true, true, true, true, true, true, true, true]) h7034q rfl rfl (by kernel_rfl) rfl rfl (.bool true) (fun _ _ => by kernel_rfl) ⟨((hS6918q.bring 2 rfl rfl).cells (vs := ([.slice A6492q x6114q.f0.length c6493q, .int .i64 x6114q.f1] : List Value)) rfl), ((hS6918q.bring 2 rfl rfl).cell (i := 0) rfl), ((hS6918q.bring 2 rfl rfl).cell (i := 1) rfl), trivial⟩ (fun _ _ _ h_ => h_) (fun a7035q h7036q => ?_)
              clear h7034q a7033q
              refine WT.done (by kernel_rfl) ?_
              refine wp_then h7036q rfl ?_
              refine wp_seq ?_
              refine WL.start ?_
              refine WL.block (c := 1) (m' := 1) h7036q rfl [(4, .bool false)] (by kernel_rfl) (fun a7037q h7038q => ?_)
              clear h7036q a7035q
              refine WL.done (by kernel_rfl) ?_
              refine wp_ret ?_
              have hS7039q : St b w0 W6911q R (M6487q :: [(g5729q, .cells ([.slice A6492q x6114q.f0.length c6493q, .int .i64 x6114q.f1] : List Value).toArray 41 (0, 0))] :: Fs) := hS6918q.drop_
              have hS7040q : St b w0 W6911q R ([(g5729q, .cells ([.slice A6492q x6114q.f0.length c6493q, .int .i64 x6114q.f1] : List Value).toArray 41 (0, 0))] :: Fs) := hS7039q.drop_
              have hS7041q : St b w0 W6911q R (Fs) := hS7040q.drop_
              obtain rfl := Option.some.inj H
              repeat (first | refine then_ret ?_ | refine inBlock_ret ?_ | refine inBlock_go ?_)
              refine body_ret (v := .bool false) h7038q (by kernel_rfl) (by kernel_rfl) ?_
              exact ⟨rfl, hS7041q⟩
          · rw [if_neg c6899q] at H
            have hb_ : (decide (r6876q = r6887q)) = false := decide_eq_false c6899q
            try rw [hb_] at h6898q
            clear hb_
            refine WT.skip 6 (listed' := #[true, true, true, true, true, true, true, false, false, false, false, false, false, false, false, false, false, false, false, false, false, false, false, false, false, false, false]) h6898q rfl rfl (by kernel_rfl) rfl rfl ⟨((hS6894q.bring 2 rfl rfl).cells (vs := ([.slice A6492q x6114q.f0.length c6493q, .int .i64 x6114q.f1] : List Value)) rfl), ((hS6894q.bring 2 rfl rfl).cell (i := 0) rfl), ((hS6894q.bring 2 rfl rfl).cell (i := 1) rfl), trivial⟩ (fun _ _ _ h_ => h_) (fun a7042q h7043q => ?_)
            clear h6898q a6897q
            refine WT.skip 7 (listed' := #[true, true, true, true, true, true, true, true, false, false, false, false, false, false, false, false, false, false, false, false, false, false, false, false, false, false, false]) h7043q rfl rfl (by kernel_rfl) rfl rfl ⟨((hS6894q.bring 2 rfl rfl).cells (vs := ([.slice A6492q x6114q.f0.length c6493q, .int .i64 x6114q.f1] : List Value)) rfl), ((hS6894q.bring 2 rfl rfl).cell (i := 0) rfl), ((hS6894q.bring 2 rfl rfl).cell (i := 1) rfl), trivial⟩ (fun _ _ _ h_ => h_) (fun a7044q h7045q => ?_)
            clear h7043q a7042q
            refine WT.skip 8 (listed' := #[true, true, true, true, true, true, true, true, true, false, false, false, false, false, false, false, false, false, false, false, false, false, false, false, false, false, false]) h7045q rfl rfl (by kernel_rfl) rfl rfl ⟨((hS6894q.bring 2 rfl rfl).cells (vs := ([.slice A6492q x6114q.f0.length c6493q, .int .i64 x6114q.f1] : List Value)) rfl), ((hS6894q.bring 2 rfl rfl).cell (i := 0) rfl), ((hS6894q.bring 2 rfl rfl).cell (i := 1) rfl), trivial⟩ (fun _ _ _ h_ => h_) (fun a7046q h7047q => ?_)
            clear h7045q a7044q
            refine WT.skip 9 (listed' := #[true, true, true, true, true, true, true, true, true, true, false, false, false, false, false, false, false, false, false, false, false, false, false, false, false, false, false]) h7047q rfl rfl (by kernel_rfl) rfl rfl ⟨((hS6894q.bring 2 rfl rfl).cells (vs := ([.slice A6492q x6114q.f0.length c6493q, .int .i64 x6114q.f1] : List Value)) rfl), ((hS6894q.bring 2 rfl rfl).cell (i := 0) rfl), ((hS6894q.bring 2 rfl rfl).cell (i := 1) rfl), trivial⟩ (fun _ _ _ h_ => h_) (fun a7048q h7049q => ?_)
            clear h7047q a7046q
            refine WT.skip 10 (listed' := #[true, true, true, true, true, true, true, true, true, true, true, false, false, false, false, false, false, false, false, false, false, false, false, false, false, false, false]) h7049q rfl rfl (by kernel_rfl) rfl rfl ⟨((hS6894q.bring 2 rfl rfl).cells (vs := ([.slice A6492q x6114q.f0.length c6493q, .int .i64 x6114q.f1] : List Value)) rfl), ((hS6894q.bring 2 rfl rfl).cell (i := 0) rfl), ((hS6894q.bring 2 rfl rfl).cell (i := 1) rfl), trivial⟩ (fun _ _ _ h_ => h_) (fun a7050q h7051q => ?_)
            clear h7049q a7048q
            refine WT.skip 11 (listed' := #[true, true, true, true, true, true, true, true, true, true, true, true, false, false, false, false, false, false, false, false, false, false, false, false, false, false, false]) h7051q rfl rfl (by kernel_rfl) rfl rfl ⟨((hS6894q.bring 2 rfl rfl).cells (vs := ([.slice A6492q x6114q.f0.length c6493q, .int .i64 x6114q.f1] : List Value)) rfl), ((hS6894q.bring 2 rfl rfl).cell (i := 0) rfl), ((hS6894q.bring 2 rfl rfl).cell (i := 1) rfl), trivial⟩ (fun _ _ _ h_ => h_) (fun a7052q h7053q => ?_)
            clear h7051q a7050q
            refine WT.take 12 (listed' := #[true, true, true, true, true, true, true, true, true, true, true, true, true, false, false, false, false, false, false, false, false, false, false, false, false, false, false]) h7053q rfl rfl (by kernel_rfl) rfl rfl (.bool true) (fun _ _ => by kernel_rfl) ⟨((hS6894q.bring 2 rfl rfl).cells (vs := ([.slice A6492q x6114q.f0.length c6493q, .int .i64 x6114q.f1] : List Value)) rfl), ((hS6894q.bring 2 rfl rfl).cell (i := 0) rfl), ((hS6894q.bring 2 rfl rfl).cell (i := 1) rfl), trivial⟩ (fun _ _ _ h_ => h_) (fun a7054q h7055q => ?_)
            clear h7053q a7052q
            refine WT.take 13 (listed' := #[true, true, true, true, true, true, true, true, true, true, true, true, true, true, false, false, false, false, false, false, false, false, false, false, false, false, false]) h7055q rfl rfl (by kernel_rfl) rfl rfl (.bool true) (fun _ _ => by kernel_rfl) ⟨((hS6894q.bring 2 rfl rfl).cells (vs := ([.slice A6492q x6114q.f0.length c6493q, .int .i64 x6114q.f1] : List Value)) rfl), ((hS6894q.bring 2 rfl rfl).cell (i := 0) rfl), ((hS6894q.bring 2 rfl rfl).cell (i := 1) rfl), trivial⟩ (fun _ _ _ h_ => h_) (fun a7056q h7057q => ?_)
            clear h7055q a7054q
            refine WT.skip 14 (listed' := #[true, true, true, true, true, true, true, true, true, true, true, true, true, true, true, false, false, false, false, false, false, false, false, false, false, false, false]) h7057q rfl rfl (by kernel_rfl) rfl rfl ⟨((hS6894q.bring 2 rfl rfl).cells (vs := ([.slice A6492q x6114q.f0.length c6493q, .int .i64 x6114q.f1] : List Value)) rfl), ((hS6894q.bring 2 rfl rfl).cell (i := 0) rfl), ((hS6894q.bring 2 rfl rfl).cell (i := 1) rfl), trivial⟩ (fun _ _ _ h_ => h_) (fun a7058q h7059q => ?_)
            clear h7057q a7056q
            refine WT.skip 15 (listed' := #[true, true, true, true, true, true, true, true, true, true, true, true, true, true, true, true, false, false, false, false, false, false, false, false, false, false, false]) h7059q rfl rfl (by kernel_rfl) rfl rfl ⟨((hS6894q.bring 2 rfl rfl).cells (vs := ([.slice A6492q x6114q.f0.length c6493q, .int .i64 x6114q.f1] : List Value)) rfl), ((hS6894q.bring 2 rfl rfl).cell (i := 0) rfl), ((hS6894q.bring 2 rfl rfl).cell (i := 1) rfl), trivial⟩ (fun _ _ _ h_ => h_) (fun a7060q h7061q => ?_)
            clear h7059q a7058q
            refine WT.skip 16 (listed' := #[true, true, true, true, true, true, true, true, true, true, true, true, true, true, true, true, true, false, false, false, false, false, false, false, false, false, false]) h7061q rfl rfl (by kernel_rfl) rfl rfl ⟨((hS6894q.bring 2 rfl rfl).cells (vs := ([.slice A6492q x6114q.f0.length c6493q, .int .i64 x6114q.f1] : List Value)) rfl), ((hS6894q.bring 2 rfl rfl).cell (i := 0) rfl), ((hS6894q.bring 2 rfl rfl).cell (i := 1) rfl), trivial⟩ (fun _ _ _ h_ => h_) (fun a7062q h7063q => ?_)
            clear h7061q a7060q
            refine WT.skip 17 (listed' := #[true, true, true, true, true, true, true, true, true, true, true, true, true, true, true, true, true, true, false, false, false, false, false, false, false, false, false]) h7063q rfl rfl (by kernel_rfl) rfl rfl ⟨((hS6894q.bring 2 rfl rfl).cells (vs := ([.slice A6492q x6114q.f0.length c6493q, .int .i64 x6114q.f1] : List Value)) rfl), ((hS6894q.bring 2 rfl rfl).cell (i := 0) rfl), ((hS6894q.bring 2 rfl rfl).cell (i := 1) rfl), trivial⟩ (fun _ _ _ h_ => h_) (fun a7064q h7065q => ?_)
            clear h7063q a7062q
            refine WT.skip 18 (listed' := #[true, true, true, true, true, true, true, true, true, true, true, true, true, true, true, true, true, true, true, false, false, false, false, false, false, false, false]) h7065q rfl rfl (by kernel_rfl) rfl rfl ⟨((hS6894q.bring 2 rfl rfl).cells (vs := ([.slice A6492q x6114q.f0.length c6493q, .int .i64 x6114q.f1] : List Value)) rfl), ((hS6894q.bring 2 rfl rfl).cell (i := 0) rfl), ((hS6894q.bring 2 rfl rfl).cell (i := 1) rfl), trivial⟩ (fun _ _ _ h_ => h_) (fun a7066q h7067q => ?_)
            clear h7065q a7064q
            refine WT.take 19 (listed' := #[true, true, true, true, true, true, true, true, true, true, true, true, true, true, true, true, true, true, true, true, false, false, false, false, false, false, false]) h7067q rfl rfl (by kernel_rfl) rfl rfl (.bool true) (fun _ _ => by kernel_rfl) ⟨((hS6894q.bring 2 rfl rfl).cells (vs := ([.slice A6492q x6114q.f0.length c6493q, .int .i64 x6114q.f1] : List Value)) rfl), ((hS6894q.bring 2 rfl rfl).cell (i := 0) rfl), ((hS6894q.bring 2 rfl rfl).cell (i := 1) rfl), trivial⟩ (fun _ _ _ h_ => h_) (fun a7068q h7069q => ?_)
            clear h7067q a7066q
            refine WT.take 20 (listed' := #[true, true, true, true, true, true, true, true, true, true, true, true, true, true, true, true, true, true, true, true, true, false, false, false, false, false, false]) h7069q rfl rfl (by kernel_rfl) rfl rfl (.bool true) (fun _ _ => by kernel_rfl) ⟨((hS6894q.bring 2 rfl rfl).cells (vs := ([.slice A6492q x6114q.f0.length c6493q, .int .i64 x6114q.f1] : List Value)) rfl), ((hS6894q.bring 2 rfl rfl).cell (i := 0) rfl), ((hS6894q.bring 2 rfl rfl).cell (i := 1) rfl), trivial⟩ (fun _ _ _ h_ => h_) (fun a7070q h7071q => ?_)
            clear h7069q a7068q
            refine WT.skip 21 (listed' := #[true, true, true, true, true, true, true, true, true, true, true, true, true, true, true, true, true, true, true, true, true, true, false, false, false, false, false]) h7071q rfl rfl (by kernel_rfl) rfl rfl ⟨((hS6894q.bring 2 rfl rfl).cells (vs := ([.slice A6492q x6114q.f0.length c6493q, .int .i64 x6114q.f1] : List Value)) rfl), ((hS6894q.bring 2 rfl rfl).cell (i := 0) rfl), ((hS6894q.bring 2 rfl rfl).cell (i := 1) rfl), trivial⟩ (fun _ _ _ h_ => h_) (fun a7072q h7073q => ?_)
            clear h7071q a7070q
            refine WT.skip 22 (listed' := #[true, true, true, true, true, true, true, true, true, true, true, true, true, true, true, true, true, true, true, true, true, true, true, false, false, false, false]) h7073q rfl rfl (by kernel_rfl) rfl rfl ⟨((hS6894q.bring 2 rfl rfl).cells (vs := ([.slice A6492q x6114q.f0.length c6493q, .int .i64 x6114q.f1] : List Value)) rfl), ((hS6894q.bring 2 rfl rfl).cell (i := 0) rfl), ((hS6894q.bring 2 rfl rfl).cell (i := 1) rfl), trivial⟩ (fun _ _ _ h_ => h_) (fun a7074q h7075q => ?_)
            clear h7073q a7072q
            refine WT.skip 23 (listed' := #[true, true, true, true, true, true, true, true, true, true, true, true, true, true, true, true, true, true, true, true, true, true, true, true, false, false, false]) h7075q rfl rfl (by kernel_rfl) rfl rfl ⟨((hS6894q.bring 2 rfl rfl).cells (vs := ([.slice A6492q x6114q.f0.length c6493q, .int .i64 x6114q.f1] : List Value)) rfl), ((hS6894q.bring 2 rfl rfl).cell (i := 0) rfl), ((hS6894q.bring 2 rfl rfl).cell (i := 1) rfl), trivial⟩ (fun _ _ _ h_ => h_) (fun a7076q h7077q => ?_)
            clear h7075q a7074q
            refine WT.skip 24 (listed' := #[true, true, true, true, true, true, true, true, true, true, true, true, true, true, true, true, true, true, true, true, true, true, true, true, true, false, false]) h7077q rfl rfl (by kernel_rfl) rfl rfl ⟨((hS6894q.bring 2 rfl rfl).cells (vs := ([.slice A6492q x6114q.f0.length c6493q, .int .i64 x6114q.f1] : List Value)) rfl), ((hS6894q.bring 2 rfl rfl).cell (i := 0) rfl), ((hS6894q.bring 2 rfl rfl).cell (i := 1) rfl), trivial⟩ (fun _ _ _ h_ => h_) (fun a7078q h7079q => ?_)
            clear h7077q a7076q
            refine WT.skip 25 (listed' := #[true, true, true, true, true, true, true, true, true, true, true, true, true, true, true, true, true, true, true, true, true, true, true, true, true, true, false]) h7079q rfl rfl (by kernel_rfl) rfl rfl ⟨((hS6894q.bring 2 rfl rfl).cells (vs := ([.slice A6492q x6114q.f0.length c6493q, .int .i64 x6114q.f1] : List Value)) rfl), ((hS6894q.bring 2 rfl rfl).cell (i := 0) rfl), ((hS6894q.bring 2 rfl rfl).cell (i := 1) rfl), trivial⟩ (fun _ _ _ h_ => h_) (fun a7080q h7081q => ?_)
            clear h7079q a7078q
            refine WT.take 26 (listed' := #[true, true, true, true, true, true, true, true, true, true, true, true, true, true, true, true, true, true, true, true, true, true, true, true, true, true, true]) h7081q rfl rfl (by kernel_rfl) rfl rfl (.bool true) (fun _ _ => by kernel_rfl) ⟨((hS6894q.bring 2 rfl rfl).cells (vs := ([.slice A6492q x6114q.f0.length c6493q, .int .i64 x6114q.f1] : List Value)) rfl), ((hS6894q.bring 2 rfl rfl).cell (i := 0) rfl), ((hS6894q.bring 2 rfl rfl).cell (i := 1) rfl), trivial⟩ (fun _ _ _ h_ => h_) (fun a7082q h7083q => ?_)
            clear h7081q a7080q
            refine WT.done (by kernel_rfl) ?_
            refine wp_then h7083q rfl ?_
            refine wp_seq ?_
            refine WL.start ?_
            refine WL.block (c := 1) (m' := 1) h7083q rfl [(4, .bool false)] (by kernel_rfl) (fun a7084q h7085q => ?_)
            clear h7083q a7082q
            refine WL.done (by kernel_rfl) ?_
            refine wp_ret ?_
            have hS7086q : St b w0 W6888q R (M6882q :: [(g5729q, .cells ([.slice A6492q x6114q.f0.length c6493q, .int .i64 x6114q.f1] : List Value).toArray 41 (0, 0))] :: Fs) := hS6894q.drop_
            have hS7087q : St b w0 W6888q R ([(g5729q, .cells ([.slice A6492q x6114q.f0.length c6493q, .int .i64 x6114q.f1] : List Value).toArray 41 (0, 0))] :: Fs) := hS7086q.drop_
            have hS7088q : St b w0 W6888q R (Fs) := hS7087q.drop_
            obtain rfl := Option.some.inj H
            repeat (first | refine then_ret ?_ | refine inBlock_ret ?_ | refine inBlock_go ?_)
            refine body_ret (v := .bool false) h7085q (by kernel_rfl) (by kernel_rfl) ?_
            exact ⟨rfl, hS7088q⟩
      · rw [if_neg c5760q] at H
        cases H
    · rw [if_neg c5759q] at H
      have hb_ : (decide (x5748q < (p1.length : Int))) = false := decide_eq_false c5759q
      try rw [hb_] at h5758q
      clear hb_
      refine wp_else h5758q rfl ?_
      refine wp_exit ?_
      refine wp_seq ?_
      refine wp_seq ?_
      refine WL.start ?_
      have hS7089q : St b w0 W5739q R (M5746q :: M5743q :: Fs) := hS5740q.bring 1 rfl rfl
      obtain ⟨g7090q, cs7091q, M7092q, hv_, hM_, hr7093q⟩ := hr5747q
      obtain ⟨v7094q, M7095q, rfl, hM2q, hr7096q⟩ := k41qrep hr7093q
      subst hM2q
      subst hM_
      have hg_ : g5729q = g7090q := by simpa using hv_
      subst hg_
      clear hv_
      replace hr7096q : Row k29 29 b w0 R v7094q x5745q.f0 M7092q := hr7096q
      obtain ⟨A7097q, c7098q, rfl⟩ := hr7096q.form
      have hS7099q : St b w0 W5739q R ([(g5729q, .cells ([.slice A7097q x5745q.f0.length c7098q, .int .i64 x5745q.f1] : List Value).toArray 41 (0, 0))] :: M7092q :: M5743q :: Fs) := hS7089q.assoc (by simp only [List.flatten_cons, List.append_assoc, List.cons_append, List.nil_append, List.append_nil])
      refine WL.block (c := 1) (m' := 1) h5758q rfl [(139, .pointer (some ⟨g5729q, 0, none⟩))] (by kernel_rfl) (fun a7100q h7101q => ?_)
      clear h5758q a5757q
      refine WL.op' (m := 1) h7101q rfl rfl ?_
      refine owp_run (v := .slice A7097q x5745q.f0.length c7098q) h7101q rfl (by kernel_rfl) (run_load1 rfl rfl Tryd.underlying23 rfl (hS7099q.cell (i := 0) rfl)) (fun a7102q h7103q => ?_)
      clear h7101q a7100q
      refine WL.block (c := 2) (m' := 4) h7103q rfl [(142, .int .i64 0), (141, .int .i64 (x5745q.f0.length : Int))] (by kernel_rfl) (fun a7104q h7105q => ?_)
      clear h7103q a7102q
      refine WL.done (by kernel_rfl) ?_
      refine wp_block ?_
      have hS7114q : St b w0 W5739q R (M7092q :: [(g5729q, .cells ([.slice A7097q x5745q.f0.length c7098q, .int .i64 x5745q.f1] : List Value).toArray 41 (0, 0))] :: M5743q :: Fs) := hS7099q.bring 1 rfl rfl
      have hS7115q : St b w0 W5739q R ([(g5729q, .cells ([.slice A7097q x5745q.f0.length c7098q, .int .i64 x5745q.f1] : List Value).toArray 41 (0, 0))] :: M7092q :: M5743q :: Fs) := hS7114q.bring 1 rfl rfl
      have hS7116q : St b w0 W5739q R (M5743q :: [(g5729q, .cells ([.slice A7097q x5745q.f0.length c7098q, .int .i64 x5745q.f1] : List Value).toArray 41 (0, 0))] :: M7092q :: Fs) := hS7115q.bring 2 rfl rfl
      refine wp_loop_ghost (fun kq_ a_ W_ => ∃ (M7111q : Frag), ∃ (x7113q : Int), Hd a_ 165 [(5, v5718q), (6, .pointer (some ⟨g5729q, 0, none⟩)), (141, .int .i64 (x5745q.f0.length : Int)), (142, .int .i64 x7113q)] ∧ Asd (louverlaw05qDyntablePlays.l2 kq_ x7113q x5742q x5745q = some r0q) ∧ Asd (kq_ ≤ k5756q) ∧ Asd (St b w0 W_ R (M7111q :: [(g5729q, .cells ([.slice A7097q x5745q.f0.length c7098q, .int .i64 x5745q.f1] : List Value).toArray 41 (0, 0))] :: M7092q :: Fs)) ∧ Asd (Ptr k51 51 b w0 R v5718q x5742q M7111q)) k5756q ⟨M5743q, 0, h7105q.keep ⟨rfl, rfl, rfl, rfl, trivial⟩, ⟨H⟩, ⟨Nat.le_refl _⟩, ⟨hS7116q⟩, ⟨hr5744q⟩⟩ ?_
      clear H hS7116q
      rintro k7110q a7107q W7108q ⟨M7111q, x7113q, h7106q, ⟨H⟩, ⟨hkk7110q⟩, ⟨hS7109q⟩, ⟨hr7112q⟩⟩
      obtain _ | k7117q := k7110q
      · exact absurd H (by simp [louverlaw05qDyntablePlays.l2])
      simp only [louverlaw05qDyntablePlays.l2] at H
      refine wp_seq ?_
      refine WL.start ?_
      refine WL.block (c := 1) (m' := 1) h7106q rfl [(143, .bool (decide (x7113q < (x5745q.f0.length : Int))))] (by kernel_rfl) (fun a7118q h7119q => ?_)
      clear h7106q a7107q
      refine WL.done (by kernel_rfl) ?_
      refine wp_seq ?_
      by_cases c7120q : x7113q < (x5745q.f0.length : Int)
      · rw [if_pos c7120q] at H
        have hb_ : (decide (x7113q < (x5745q.f0.length : Int))) = true := decide_eq_true c7120q
        try rw [hb_] at h7119q
        clear hb_
        refine wp_then h7119q rfl ?_
        refine wp_skip ?_
        refine wp_seq ?_
        refine wp_block ?_
        refine wp_seq ?_
        refine WL.start ?_
        refine WL.block (c := 2) (m' := 2) h7119q rfl [(17, .int .i64 x7113q), (144, .int .i64 x7113q)] (by kernel_rfl) (fun a7121q h7122q => ?_)
        clear h7119q a7118q
        refine WL.done (by kernel_rfl) ?_
        refine wp_seq ?_
        refine WL.start ?_
        refine WL.block (c := 3) (m' := 3) h7122q rfl [(148, .int .i64 (IntKind.i64.wrap (62 + x7113q))), (147, .int .i64 x7113q), (146, v5718q)] (by kernel_rfl) (fun a7123q h7124q => ?_)
        clear h7122q a7121q
        obtain ⟨r7126q, r7127q, A7125q, H⟩ := bind2 H
        refine WL.op' (m := 3) h7124q rfl rfl ?_
        refine owp_call [v5718q, .int .i64 (IntKind.i64.wrap (62 + x7113q))] h7124q rfl (by kernel_rfl) rfl Tryd.func14 (by kernel_rfl) rfl (by kernel_rfl) (dyntable_Table_At.calls hr7112q hg0 A7125q hS7109q) (fun e7129q W7128q hp7130q => ?_)
        obtain ⟨M7133q, rfl, hr7134q, hS7135q⟩ := hp7130q
        refine ⟨_, rfl, fun a7131q h7132q => ?_⟩
        clear h7124q a7123q
        refine WL.block (c := 3) (m' := 7) h7132q rfl [(151, .bool r7127q), (150, .agg #[.string (mkS r7126q.f0), .string (mkS r7126q.f1), .bool r7126q.f2]), (145, .tuple #[.agg #[.string (mkS r7126q.f0), .string (mkS r7126q.f1), .bool r7126q.f2], .bool r7127q])] (by kernel_rfl) (fun a7136q h7137q => ?_)
        clear h7132q a7131q
        refine WL.op' (m := 7) h7137q rfl rfl ?_
        refine owp_new (fun g_ => .pointer (some ⟨g_, 0, none⟩)) (.cells ([.string (mkS ([] : List UInt8)), .string (mkS ([] : List UInt8)), .bool false] : List Value).toArray 29 (0, 0)) h7137q rfl (by kernel_rfl) (by kernel_rfl) hS7135q (fun a7138q W7140q g7141q h7139q hS7142q => ?_)
        clear h7137q a7136q
        refine WL.op' (m := 8) h7139q rfl rfl ?_
        refine owp_store (i := 0) (vs := ([.string (mkS r7126q.f0), .string (mkS r7126q.f1), .bool r7126q.f2] : List Value)) h7139q rfl (by kernel_rfl) rfl rfl rfl rfl (by simp [Value.oneCell']) (by kernel_rfl) hS7142q (by simp) (cs' := ([.string (mkS r7126q.f0), .string (mkS r7126q.f1), .bool r7126q.f2] : List Value)) rfl (fun a7143q W7145q h7144q hS7146q => ?_)
        clear h7139q a7138q
        refine WL.block (c := 1) (m' := 10) h7144q rfl [(19, .bool r7127q)] (by kernel_rfl) (fun a7147q h7148q => ?_)
        clear h7144q a7143q
        refine WL.done (by kernel_rfl) ?_
        refine wp_seq ?_
        refine WT.start 11 (fun w_ => (∀ j_ u_, ([.string (mkS r7126q.f0), .string (mkS r7126q.f1), .bool r7126q.f2] : List Value)[j_]? = some u_ → w_.cell? ((⟨g7141q, 0, none⟩ : Addr).add j_) = some u_) ∧ (w_.cell? ⟨g5729q, 0, none⟩ = some (.slice A7097q x5745q.f0.length c7098q)) ∧ (∀ a_ u_, Kn b w0 (M7092q ++ R) a_ u_ → w_.cell? a_ = some u_) ∧ True) (by kernel_rfl) #[false, false, false, false, false, false, false, false, false, false, false] 11 rfl rfl ?_
        have hS7247q := hS7146q.drew
        refine WT.take 0 (listed' := #[true, false, false, false, false, false, false, false, false, false, false]) h7148q rfl rfl (by kernel_rfl) rfl rfl (.bool r7127q) (fun _ _ => by kernel_rfl) ⟨(hS7247q.cells (vs := ([.string (mkS r7126q.f0), .string (mkS r7126q.f1), .bool r7126q.f2] : List Value)) rfl), ((hS7247q.bring 2 rfl rfl).cell (i := 0) rfl), (fun _ _ hk_ => (hS7247q.bring 3 rfl rfl).pool.kn hk_), trivial⟩ (fun _ _ _ h_ => h_) (fun a7248q h7249q => ?_)
        clear h7148q a7147q
        refine WT.take 1 (listed' := #[true, true, false, false, false, false, false, false, false, false, false]) h7249q rfl rfl (by kernel_rfl) rfl rfl (.bool (!r7127q)) (fun _ _ => by kernel_rfl) ⟨(hS7247q.cells (vs := ([.string (mkS r7126q.f0), .string (mkS r7126q.f1), .bool r7126q.f2] : List Value)) rfl), ((hS7247q.bring 2 rfl rfl).cell (i := 0) rfl), (fun _ _ hk_ => (hS7247q.bring 3 rfl rfl).pool.kn hk_), trivial⟩ (fun _ _ _ h_ => h_) (fun a7250q h7251q => ?_)
        clear h7249q a7248q
        refine WT.take 2 (listed' := #[true, true, true, false, false, false, false, false, false, false, false]) h7251q rfl rfl (by kernel_rfl) rfl rfl (.bool (!r7127q)) (fun _ _ => by kernel_rfl) ⟨(hS7247q.cells (vs := ([.string (mkS r7126q.f0), .string (mkS r7126q.f1), .bool r7126q.f2] : List Value)) rfl), ((hS7247q.bring 2 rfl rfl).cell (i := 0) rfl), (fun _ _ hk_ => (hS7247q.bring 3 rfl rfl).pool.kn hk_), trivial⟩ (fun _ _ _ h_ => h_) (fun a7252q h7253q => ?_)
        clear h7251q a7250q
        by_cases c7254q : r7127q = true
        · rw [if_pos c7254q] at H
          have hb_ : r7127q = true := c7254q
          try rw [hb_] at h7253q
          clear hb_
          refine WT.take 4 (listed' := #[true, true, true, false, true, false, false, false, false, false, false]) h7253q rfl rfl (by kernel_rfl) rfl rfl (.pointer (some ⟨g5729q, 0, none⟩)) (fun _ _ => by kernel_rfl) ⟨(hS7247q.cells (vs := ([.string (mkS r7126q.f0), .string (mkS r7126q.f1), .bool r7126q.f2] : List Value)) rfl), ((hS7247q.bring 2 rfl rfl).cell (i := 0) rfl), (fun _ _ hk_ => (hS7247q.bring 3 rfl rfl).pool.kn hk_), trivial⟩ (fun _ _ _ h_ => h_) (fun a7255q h7256q => ?_)
          clear h7253q a7252q
          refine WT.take 6 (listed' := #[true, true, true, false, true, false, true, false, false, false, false]) h7256q rfl rfl (by kernel_rfl) rfl rfl (.int .i64 x7113q) (fun _ _ => by kernel_rfl) ⟨(hS7247q.cells (vs := ([.string (mkS r7126q.f0), .string (mkS r7126q.f1), .bool r7126q.f2] : List Value)) rfl), ((hS7247q.bring 2 rfl rfl).cell (i := 0) rfl), (fun _ _ hk_ => (hS7247q.bring 3 rfl rfl).pool.kn hk_), trivial⟩ (fun _ _ _ h_ => h_) (fun a7257q h7258q => ?_)
          clear h7256q a7255q
          refine WT.take 3 (listed' := #[true, true, true, true, true, false, true, false, false, false, false]) h7258q rfl rfl (by kernel_rfl) rfl rfl (.agg #[.string (mkS r7126q.f0), .string (mkS r7126q.f1), .bool r7126q.f2]) (fun w_ hs_ => (run_loadN rfl rfl Tryd.underlying29 rfl (cs := ([.string (mkS r7126q.f0), .string (mkS r7126q.f1), .bool r7126q.f2] : List Value)) (by kernel_rfl) hs_.1)) ⟨(hS7247q.cells (vs := ([.string (mkS r7126q.f0), .string (mkS r7126q.f1), .bool r7126q.f2] : List Value)) rfl), ((hS7247q.bring 2 rfl rfl).cell (i := 0) rfl), (fun _ _ hk_ => (hS7247q.bring 3 rfl rfl).pool.kn hk_), trivial⟩ (fun _ _ _ h_ => h_) (fun a7259q h7260q => ?_)
          clear h7258q a7257q
          refine WT.take 5 (listed' := #[true, true, true, true, true, true, true, false, false, false, false]) h7260q rfl rfl (by kernel_rfl) rfl rfl (.slice A7097q x5745q.f0.length c7098q) (fun w_ hs_ => (run_load1 rfl rfl Tryd.underlying23 rfl hs_.2.1)) ⟨(hS7247q.cells (vs := ([.string (mkS r7126q.f0), .string (mkS r7126q.f1), .bool r7126q.f2] : List Value)) rfl), ((hS7247q.bring 2 rfl rfl).cell (i := 0) rfl), (fun _ _ hk_ => (hS7247q.bring 3 rfl rfl).pool.kn hk_), trivial⟩ (fun _ _ _ h_ => h_) (fun a7261q h7262q => ?_)
          clear h7260q a7259q
          by_cases c7263q : 0 ≤ x7113q
          · rw [if_pos c7263q] at H
            have hi7266q : 0 ≤ x7113q := by first | assumption | omega
            have hi7267q : x7113q < (x5745q.f0.length : Int) := by first | assumption | omega
            obtain ⟨ad7264q, _, ha7265q, -, -⟩ := Rds.elemAny hr7096q.rds hi7266q (gt_get (z := z29) hi7266q hi7267q)
            refine WT.take 7 (listed' := #[true, true, true, true, true, true, true, true, false, false, false]) h7262q rfl rfl (by kernel_rfl) rfl rfl (.pointer (some (ad7264q.add (x7113q.toNat * 3)))) (fun w_ hs_ => (run_idx (ad := ad7264q) (sz := 3) rfl (by rw [← ha7265q]; rfl) rfl Tryd.underlying23 (by kernel_rfl) hi7266q hi7267q)) ⟨(hS7247q.cells (vs := ([.string (mkS r7126q.f0), .string (mkS r7126q.f1), .bool r7126q.f2] : List Value)) rfl), ((hS7247q.bring 2 rfl rfl).cell (i := 0) rfl), (fun _ _ hk_ => (hS7247q.bring 3 rfl rfl).pool.kn hk_), trivial⟩ (fun _ _ _ h_ => h_) (fun a7268q h7269q => ?_)
            clear h7262q a7261q
            obtain ⟨ad7270q, cs7271q, ha7272q, hr7274q, hc7273q⟩ := Rds.elemAny hr7096q.rds hi7266q (gt_get (z := z29) hi7266q hi7267q)
            rw [ha7265q] at ha7272q; obtain rfl := Option.some.inj ha7272q
            obtain rfl := k29qrd hr7274q
            refine WT.take 8 (listed' := #[true, true, true, true, true, true, true, true, true, false, false]) h7269q rfl rfl (by kernel_rfl) rfl rfl (.agg #[.string (mkS ((gt z29 x5745q.f0 x7113q).f0)), .string (mkS ((gt z29 x5745q.f0 x7113q).f1)), .bool ((gt z29 x5745q.f0 x7113q).f2)]) (fun w_ hs_ => (run_loadN rfl rfl Tryd.underlying29 rfl (cs := ([.string (mkS ((gt z29 x5745q.f0 x7113q).f0)), .string (mkS ((gt z29 x5745q.f0 x7113q).f1)), .bool ((gt z29 x5745q.f0 x7113q).f2)] : List Value)) (by kernel_rfl) (hc7273q _ hs_.2.2.1))) ⟨(hS7247q.cells (vs := ([.string (mkS r7126q.f0), .string (mkS r7126q.f1), .bool r7126q.f2] : List Value)) rfl), ((hS7247q.bring 2 rfl rfl).cell (i := 0) rfl), (fun _ _ hk_ => (hS7247q.bring 3 rfl rfl).pool.kn hk_), trivial⟩ (fun _ _ _ h_ => h_) (fun a7275q h7276q => ?_)
            clear h7269q a7268q
            refine WT.take 9 (listed' := #[true, true, true, true, true, true, true, true, true, true, false]) h7276q rfl rfl (by kernel_rfl) rfl rfl (.bool (!(decide (r7126q.f0 = ((gt z29 x5745q.f0 x7113q).f0)) && (decide (r7126q.f1 = ((gt z29 x5745q.f0 x7113q).f1)) && decide (r7126q.f2 = ((gt z29 x5745q.f0 x7113q).f2)))))) (fun w_ hs_ => (run_stne (xs := [.string (mkS r7126q.f0), .string (mkS r7126q.f1), .bool r7126q.f2]) (ys := [.string (mkS ((gt z29 x5745q.f0 x7113q).f0)), .string (mkS ((gt z29 x5745q.f0 x7113q).f1)), .bool ((gt z29 x5745q.f0 x7113q).f2)]) rfl rfl rfl (by kernel_rfl) (eqs_of Tryd.underlying29 (by kernel_rfl) (eqf_cons rfl (by kernel_rfl) rfl rfl (eqi_str Tryd.underlying9) (eqf_cons rfl (by kernel_rfl) rfl rfl (eqi_str Tryd.underlying9) (eqf_last rfl (by kernel_rfl) rfl rfl (eqi_bool Tryd.underlying4))))))) ⟨(hS7247q.cells (vs := ([.string (mkS r7126q.f0), .string (mkS r7126q.f1), .bool r7126q.f2] : List Value)) rfl), ((hS7247q.bring 2 rfl rfl).cell (i := 0) rfl), (fun _ _ hk_ => (hS7247q.bring 3 rfl rfl).pool.kn hk_), trivial⟩ (fun _ _ _ h_ => h_) (fun a7277q h7278q => ?_)
            clear h7276q a7275q
            refine WT.take 10 (listed' := #[true, true, true, true, true, true, true, true, true, true, true]) h7278q rfl rfl (by kernel_rfl) rfl rfl (.bool (!(decide (r7126q.f0 = ((gt z29 x5745q.f0 x7113q).f0)) && (decide (r7126q.f1 = ((gt z29 x5745q.f0 x7113q).f1)) && decide (r7126q.f2 = ((gt z29 x5745q.f0 x7113q).f2)))))) (fun _ _ => by kernel_rfl) ⟨(hS7247q.cells (vs := ([.string (mkS r7126q.f0), .string (mkS r7126q.f1), .bool r7126q.f2] : List Value)) rfl), ((hS7247q.bring 2 rfl rfl).cell (i := 0) rfl), (fun _ _ hk_ => (hS7247q.bring 3 rfl rfl).pool.kn hk_), trivial⟩ (fun _ _ _ h_ => h_) (fun a7279q h7280q => ?_)
            clear h7278q a7277q
            refine WT.done (by kernel_rfl) ?_
            by_cases c7281q : (decide (r7126q.f0 = ((gt z29 x5745q.f0 x7113q).f0)) && (decide (r7126q.f1 = ((gt z29 x5745q.f0 x7113q).f1)) && decide (r7126q.f2 = ((gt z29 x5745q.f0 x7113q).f2)))) = true
            · rw [if_pos c7281q] at H
              have hb_ : (decide (r7126q.f0 = ((gt z29 x5745q.f0 x7113q).f0)) && (decide (r7126q.f1 = ((gt z29 x5745q.f0 x7113q).f1)) && decide (r7126q.f2 = ((gt z29 x5745q.f0 x7113q).f2)))) = true := c7281q
              try rw [hb_] at h7280q
              clear hb_
              refine wp_else h7280q rfl ?_
              refine wp_skip ?_
              refine WL.start ?_
              refine WL.block (c := 2) (m' := 2) h7280q rfl [(142, .int .i64 (IntKind.i64.wrap (x7113q + 1))), (163, .int .i64 (IntKind.i64.wrap (x7113q + 1)))] (by kernel_rfl) (fun a7282q h7283q => ?_)
              clear h7280q a7279q
              refine WL.done (by kernel_rfl) ?_
              have hS7284q : St b w0 W7145q.drew R (M7133q :: [(g5729q, .cells ([.slice A7097q x5745q.f0.length c7098q, .int .i64 x5745q.f1] : List Value).toArray 41 (0, 0))] :: M7092q :: Fs) := hS7247q.drop_
              exact ⟨k7117q, by omega, M7133q, IntKind.i64.wrap (x7113q + 1), h7283q.keep ⟨rfl, rfl, rfl, rfl, trivial⟩, ⟨H⟩, ⟨by omega⟩, ⟨hS7284q⟩, ⟨hr7134q⟩⟩
            · rw [if_neg c7281q] at H
              have hb_ : (decide (r7126q.f0 = ((gt z29 x5745q.f0 x7113q).f0)) && (decide (r7126q.f1 = ((gt z29 x5745q.f0 x7113q).f1)) && decide (r7126q.f2 = ((gt z29 x5745q.f0 x7113q).f2)))) = false := (Bool.eq_false_iff.2 c7281q)
              try rw [hb_] at h7280q
              clear hb_
              refine wp_then h7280q rfl ?_
              refine wp_seq ?_
              refine WL.start ?_
              refine WL.block (c := 1) (m' := 1) h7280q rfl [(4, .bool false)] (by kernel_rfl) (fun a7285q h7286q => ?_)
              clear h7280q a7279q
              refine WL.done (by kernel_rfl) ?_
              refine wp_ret ?_
              have hS7287q : St b w0 W7145q.drew R (M7133q :: [(g5729q, .cells ([.slice A7097q x5745q.f0.length c7098q, .int .i64 x5745q.f1] : List Value).toArray 41 (0, 0))] :: M7092q :: Fs) := hS7247q.drop_
              have hS7288q : St b w0 W7145q.drew R ([(g5729q, .cells ([.slice A7097q x5745q.f0.length c7098q, .int .i64 x5745q.f1] : List Value).toArray 41 (0, 0))] :: M7092q :: Fs) := hS7287q.drop_
              have hS7289q : St b w0 W7145q.drew R (M7092q :: Fs) := hS7288q.drop_
              have hS7290q : St b w0 W7145q.drew R (Fs) := hS7289q.drop_
              obtain rfl := Option.some.inj H
              repeat (first | refine then_ret ?_ | refine inBlock_ret ?_ | refine inBlock_go ?_)
              refine body_ret (v := .bool false) h7286q (by kernel_rfl) (by kernel_rfl) ?_
              exact ⟨rfl, hS7290q⟩
          · rw [if_neg c7263q] at H
            cases H
        · rw [if_neg c7254q] at H
          have hb_ : r7127q = false := (Bool.eq_false_iff.2 c7254q)
          try rw [hb_] at h7253q
          clear hb_
          refine WT.skip 3 (listed' := #[true, true, true, true, false, false, false, false, false, false, false]) h7253q rfl rfl (by kernel_rfl) rfl rfl ⟨(hS7247q.cells (vs := ([.string (mkS r7126q.f0), .string (mkS r7126q.f1), .bool r7126q.f2] : List Value)) rfl), ((hS7247q.bring 2 rfl rfl).cell (i := 0) rfl), (fun _ _ hk_ => (hS7247q.bring 3 rfl rfl).pool.kn hk_), trivial⟩ (fun _ _ _ h_ => h_) (fun a7291q h7292q => ?_)
          clear h7253q a7252q
          refine WT.skip 4 (listed' := #[true, true, true, true, true, false, false, false, false, false, false]) h7292q rfl rfl (by kernel_rfl) rfl rfl ⟨(hS7247q.cells (vs := ([.string (mkS r7126q.f0), .string (mkS r7126q.f1), .bool r7126q.f2] : List Value)) rfl), ((hS7247q.bring 2 rfl rfl).cell (i := 0) rfl), (fun _ _ hk_ => (hS7247q.bring 3 rfl rfl).pool.kn hk_), trivial⟩ (fun _ _ _ h_ => h_) (fun a7293q h7294q => ?_)
          clear h7292q a7291q
          refine WT.skip 5 (listed' := #[true, true, true, true, true, true, false, false, false, false, false]) h7294q rfl rfl (by kernel_rfl) rfl rfl ⟨(hS7247q.cells (vs := ([.string (mkS r7126q.f0), .string (mkS r7126q.f1), .bool r7126q.f2] : List Value)) rfl), ((hS7247q.bring 2 rfl rfl).cell (i := 0) rfl), (fun _ _ hk_ => (hS7247q.bring 3 rfl rfl).pool.kn hk_), trivial⟩ (fun _ _ _ h_ => h_) (fun a7295q h7296q => ?_)
          clear h7294q a7293q
          refine WT.skip 6 (listed' := #[true, true, true, true, true, true, true, false, false, false, false]) h7296q rfl rfl (by kernel_rfl) rfl rfl ⟨(hS7247q.cells (vs := ([.string (mkS r7126q.f0), .string (mkS r7126q.f1), .bool r7126q.f2] : List Value)) rfl), ((hS7247q.bring 2 rfl rfl).cell (i := 0) rfl), (fun _ _ hk_ => (hS7247q.bring 3 rfl rfl).pool.kn hk_), trivial⟩ (fun _ _ _ h_ => h_) (fun a7297q h7298q => ?_)
          clear h7296q a7295q
          refine WT.skip 7 (listed' := #[true, true, true, true, true, true, true, true, false, false, false]) h7298q rfl rfl (by kernel_rfl) rfl rfl ⟨(hS7247q.cells (vs := ([.string (mkS r7126q.f0), .string (mkS r7126q.f1), .bool r7126q.f2] : List Value)) rfl), ((hS7247q.bring 2 rfl rfl).cell (i := 0) rfl), (fun _ _ hk_ => (hS7247q.bring 3 rfl rfl).pool.kn hk_), trivial⟩ (fun _ _ _ h_ => h_) (fun a7299q h7300q => ?_)
          clear h7298q a7297q
          refine WT.skip 8 (listed' := #[true, true, true, true, true, true, true, true, true, false, false]) h7300q rfl rfl (by kernel_rfl) rfl rfl ⟨(hS7247q.cells (vs := ([.string (mkS r7126q.f0), .string (mkS r7126q.f1), .bool r7126q.f2] : List Value)) rfl), ((hS7247q.bring 2 rfl rfl).cell (i := 0) rfl), (fun _ _ hk_ => (hS7247q.bring 3 rfl rfl).pool.kn hk_), trivial⟩ (fun _ _ _ h_ => h_) (fun a7301q h7302q => ?_)
          clear h7300q a7299q
          refine WT.skip 9 (listed' := #[true, true, true, true, true, true, true, true, true, true, false]) h7302q rfl rfl (by kernel_rfl) rfl rfl ⟨(hS7247q.cells (vs := ([.string (mkS r7126q.f0), .string (mkS r7126q.f1), .bool r7126q.f2] : List Value)) rfl), ((hS7247q.bring 2 rfl rfl).cell (i := 0) rfl), (fun _ _ hk_ => (hS7247q.bring 3 rfl rfl).pool.kn hk_), trivial⟩ (fun _ _ _ h_ => h_) (fun a7303q h7304q => ?_)
          clear h7302q a7301q
          refine WT.take 10 (listed' := #[true, true, true, true, true, true, true, true, true, true, true]) h7304q rfl rfl (by kernel_rfl) rfl rfl (.bool true) (fun _ _ => by kernel_rfl) ⟨(hS7247q.cells (vs := ([.string (mkS r7126q.f0), .string (mkS r7126q.f1), .bool r7126q.f2] : List Value)) rfl), ((hS7247q.bring 2 rfl rfl).cell (i := 0) rfl), (fun _ _ hk_ => (hS7247q.bring 3 rfl rfl).pool.kn hk_), trivial⟩ (fun _ _ _ h_ => h_) (fun a7305q h7306q => ?_)
          clear h7304q a7303q
          refine WT.done (by kernel_rfl) ?_
          refine wp_then h7306q rfl ?_
          refine wp_seq ?_
          refine WL.start ?_
          refine WL.block (c := 1) (m' := 1) h7306q rfl [(4, .bool false)] (by kernel_rfl) (fun a7307q h7308q => ?_)
          clear h7306q a7305q
          refine WL.done (by kernel_rfl) ?_
          refine wp_ret ?_
          have hS7309q : St b w0 W7145q.drew R (M7133q :: [(g5729q, .cells ([.slice A7097q x5745q.f0.length c7098q, .int .i64 x5745q.f1] : List Value).toArray 41 (0, 0))] :: M7092q :: Fs) := hS7247q.drop_
          have hS7310q : St b w0 W7145q.drew R ([(g5729q, .cells ([.slice A7097q x5745q.f0.length c7098q, .int .i64 x5745q.f1] : List Value).toArray 41 (0, 0))] :: M7092q :: Fs) := hS7309q.drop_
          have hS7311q : St b w0 W7145q.drew R (M7092q :: Fs) := hS7310q.drop_
          have hS7312q : St b w0 W7145q.drew R (Fs) := hS7311q.drop_
          obtain rfl := Option.some.inj H
          repeat (first | refine then_ret ?_ | refine inBlock_ret ?_ | refine inBlock_go ?_)
          refine body_ret (v := .bool false) h7308q (by kernel_rfl) (by kernel_rfl) ?_
          exact ⟨rfl, hS7312q⟩
      · rw [if_neg c7120q] at H
        have hb_ : (decide (x7113q < (x5745q.f0.length : Int))) = false := decide_eq_false c7120q
        try rw [hb_] at h7119q
        clear hb_
        refine wp_else h7119q rfl ?_
        refine wp_exit ?_
        refine wp_seq ?_
        refine WL.start ?_
        obtain ⟨r7314q, A7313q, H⟩ := bind1 H
        refine WL.op' (m := 0) h7119q rfl rfl ?_
        refine owp_call [] h7119q rfl (by kernel_rfl) rfl Tryd.func8 (by kernel_rfl) rfl (by kernel_rfl) (louverlaw05qfixed.calls k7117q hg0 A7313q hS7109q) (fun e7316q W7315q hp7317q => ?_)
        obtain ⟨rfl, hS7320q⟩ := hp7317q
        refine ⟨_, rfl, fun a7318q h7319q => ?_⟩
        clear h7119q a7118q
        refine WL.block (c := 1) (m' := 2) h7319q rfl [(4, .bool r7314q)] (by kernel_rfl) (fun a7321q h7322q => ?_)
        clear h7319q a7318q
        refine WL.done (by kernel_rfl) ?_
        refine wp_ret ?_
        have hS7323q : St b w0 W7315q R ([(g5729q, .cells ([.slice A7097q x5745q.f0.length c7098q, .int .i64 x5745q.f1] : List Value).toArray 41 (0, 0))] :: M7092q :: Fs) := hS7320q.drop_
        have hS7324q : St b w0 W7315q R (M7092q :: Fs) := hS7323q.drop_
        have hS7325q : St b w0 W7315q R (Fs) := hS7324q.drop_
        obtain rfl := Option.some.inj H
        repeat (first | refine then_ret ?_ | refine inBlock_ret ?_ | refine inBlock_go ?_)
        refine body_ret (v := .bool r7314q) h7322q (by kernel_rfl) (by kernel_rfl) ?_
        exact ⟨rfl, hS7325q⟩
end Go.Proofs.YtgbkllnfjehfcaaDoor.Sl
