/- What the functions of this program compute, told as plain functions, and that the calls come to just that. Printed by this session's program; part 2. -/
import Derived.Test.YtgbognkigcedbaaCode1
set_option linter.unusedVariables false
set_option linter.unusedSimpArgs false
set_option linter.unnecessarySimpa false
namespace Go.Proofs.Ytgbognkigcedbaa.Sl
open Go Go.RowKit Go.Proofs.Sl
structure S33 where
  f0 : Int
  f1 : Int
  f2 : Int
  f3 : Int
  deriving DecidableEq
def z33 : S33 := ⟨(0 : Int), (0 : Int), (0 : Int), (0 : Int)⟩
def k33 : Kd S33 := kIso (kPair (kInt .i64) (kPair (kInt .i64) (kPair (kInt .u32) (kInt .u32)))) (fun x : S33 => (x.f0, (x.f1, (x.f2, x.f3))))
theorem k33qflat : k33.Flat := kIso_flat (kPair_flat (kInt_flat _) (kPair_flat (kInt_flat _) (kPair_flat (kInt_flat _) (kInt_flat _))))
theorem k33qrd {b : Nat} {w0 : World} {R : Frag} {x : S33} {cs : List Value} (h : k33.rd b w0 R x cs) : cs = [.int .i64 x.f0, .int .i64 x.f1, .int .u32 x.f2, .int .u32 x.f3] := by
  obtain ⟨c2223q, c2224q, rfl, h2225q, h2226q⟩ := h
  obtain ⟨c2227q, c2228q, rfl, h2229q, h2230q⟩ := h2226q
  obtain ⟨c2231q, c2232q, rfl, h2233q, h2234q⟩ := h2230q
  obtain rfl := h2225q
  obtain rfl := h2229q
  obtain rfl := h2233q
  obtain rfl := h2234q
  exact rfl
theorem k33qrep {b : Nat} {w0 : World} {R : Frag} {x : S33} {cs : List Value} {M : Frag} (h : k33.rep b w0 R x cs M) : cs = [.int .i64 x.f0, .int .i64 x.f1, .int .u32 x.f2, .int .u32 x.f3] ∧ M = [] := by
  obtain ⟨c2235q, c2236q, M2239q, M2240q, rfl, rfl, h2237q, h2238q⟩ := h
  obtain ⟨c2241q, c2242q, M2245q, M2246q, rfl, rfl, h2243q, h2244q⟩ := h2238q
  obtain ⟨c2247q, c2248q, M2251q, M2252q, rfl, rfl, h2249q, h2250q⟩ := h2244q
  obtain ⟨rfl, rfl⟩ := h2237q
  obtain ⟨rfl, rfl⟩ := h2243q
  obtain ⟨rfl, rfl⟩ := h2249q
  obtain ⟨rfl, rfl⟩ := h2250q
  exact ⟨rfl, by simp⟩
theorem k33qmk {b : Nat} {w0 : World} {R : Frag} {x : S33}  : ∃ M, k33.rep b w0 R x [.int .i64 x.f0, .int .i64 x.f1, .int .u32 x.f2, .int .u32 x.f3] M ∧ M = [] := ⟨_, ⟨_, _, _, _, rfl, rfl, ⟨rfl, rfl⟩, ⟨_, _, _, _, rfl, rfl, ⟨rfl, rfl⟩, ⟨_, _, _, _, rfl, rfl, ⟨rfl, rfl⟩, ⟨rfl, rfl⟩⟩⟩⟩, by simp⟩
/-! ### louver/louverlaw10.WindowMeters -/
mutual
def louverlaw10qWindowMeters.j0 : Nat → Int → Int → S63 → S28 → (List S33) → Option (Bool)
  | 0, _, _, _, _, _ => none
  | k + 1, x6434q, x6435q, r6378q, r6393q, p2 => louverlaw10qWindowMeters.l1 k r6378q r6393q.f0 r6393q.f1 r6393q.f2 r6393q.f3 0 p2 x6434q x6435q
def louverlaw10qWindowMeters.l1 : Nat → S63 → Int → Int → Int → Int → Int → (List S33) → Int → Int → Option (Bool)
  | 0, _, _, _, _, _, _, _, _, _ => none
  | k + 1, x6455q, x6458q, x6459q, x6460q, x6461q, x6462q, p2, x6434q, x6435q => if x6462q < (p2.length : Int) then (if 0 ≤ x6462q then (if ((gt z33 p2 x6462q).f0) = 0 then (bnd2 (louverref10qM_Come.f (⟨x6458q, x6459q, x6460q, x6461q⟩ : S28) ((gt z33 p2 x6462q).f1)) fun r6732q r6733q => (bnd2 (window_Meter_Come.f x6455q ((gt z33 p2 x6462q).f1)) fun r6767q r6768q => (if r6733q = true then (if (decide (r6767q.f0 = 0) && decide (r6767q.f1 = 0)) = true then (louverlaw10qWindowMeters.j2 k r6768q r6732q.f0 r6732q.f1 r6732q.f2 r6732q.f3 p2 x6434q x6435q x6462q) else (some false)) else (if (decide (r6767q.f0 = x6434q) && decide (r6767q.f1 = x6435q)) = true then (louverlaw10qWindowMeters.j2 k r6768q r6732q.f0 r6732q.f1 r6732q.f2 r6732q.f3 p2 x6434q x6435q x6462q) else (some false))))) else (bnd2 (louverref10qM_Use.f k (⟨x6458q, x6459q, x6460q, x6461q⟩ : S28) ((gt z33 p2 x6462q).f1)) fun r6894q r6895q => (bnd2 (window_Meter_Use.f x6455q ((gt z33 p2 x6462q).f1)) fun r6929q r6930q => (if (IntKind.i64.wrap r6929q) = r6895q then (louverlaw10qWindowMeters.j2 k r6930q r6894q.f0 r6894q.f1 r6894q.f2 r6894q.f3 p2 x6434q x6435q x6462q) else (some false))))) else (none)) else (bnd1 (louverlaw10qfixed.f) fun r7788q => (some r7788q))
def louverlaw10qWindowMeters.j2 : Nat → S63 → Int → Int → Int → Int → (List S33) → Int → Int → Int → Option (Bool)
  | 0, _, _, _, _, _, _, _, _, _ => none
  | k + 1, x6715q, x6718q, x6719q, x6720q, x6721q, p2, x6434q, x6435q, x6462q => bnd1 (window_Meter_Left.f x6715q) fun r7498q => (if r7498q = x6719q then (bnd1 (window_Meter_Owed.f x6715q) fun r7519q => (if r7519q = x6720q then (bnd1 (window_Meter_Left.f x6715q) fun r7538q => (if r7538q < 0 then (some false) else (bnd1 (window_Meter_Left.f x6715q) fun r7598q => (if r7598q > x6718q then (some false) else (bnd1 (window_Meter_Left.f x6715q) fun r7646q => (bnd1 (window_Meter_Owed.f x6715q) fun r7656q => (if (IntKind.i64.wrap (r7646q + r7656q)) > x6718q then (some false) else (louverlaw10qWindowMeters.l1 k x6715q x6718q x6719q x6720q x6721q (IntKind.i64.wrap (x6462q + 1)) p2 x6434q x6435q)))))))) else (some false))) else (some false))
end
def louverlaw10qWindowMeters.f (k : Nat) (p0 : Int) (p1 : Bool) (p2 : (List S33)) : Option (Bool) := if (p2.length : Int) > 500 then (bnd1 (louverlaw10qfixed.f) fun r6366q => (some r6366q)) else (bnd1 (window_Of.f p0 p1) fun r6378q => (bnd1 (louverref10qOf.f p0) fun r6393q => (if p1 = true then (louverlaw10qWindowMeters.j0 k 2 3 r6378q r6393q p2) else (louverlaw10qWindowMeters.j0 k 1 3 r6378q r6393q p2))))
set_option maxHeartbeats 2000000 in
set_option maxRecDepth 100000 in
theorem louverlaw10qWindowMeters.calls (k : Nat) {b : Nat} {w0 W : World} {R : Frag} {Fs : List Frag} {p0 : Int} {p1 : Bool} {p2 : (List S33)} {v2 : Value} {r0q : Bool} (hp2 : Rds k33 b w0 R v2 p2) (H : louverlaw10qWindowMeters.f k p0 p1 p2 = some r0q) (hS : St b w0 W R (Fs)) :
    Calls Try.prog 3 ([.int .u32 p0, .bool p1, v2] : List Value).toArray W (fun e W' => e = .returned (.bool r0q) ∧ St b w0 W' R (Fs)) := by
  obtain ⟨A2, c2, rfl⟩ := hp2.form
  unfold louverlaw10qWindowMeters.f at H
  refine calls_enter Try.func3 rfl 116 rfl (by kernel_rfl) (fun a h => ?_)
  refine wp_seq ?_
  refine WL.start ?_
  refine WL.block (c := 1) (m' := 1) h rfl [(6, .bool false)] (by kernel_rfl) (fun a6360q h6361q => ?_)
  refine WL.done (by kernel_rfl) ?_
  refine wp_seq ?_
  refine wp_seq ?_
  refine WL.start ?_
  refine WL.block (c := 3) (m' := 3) h6361q rfl [(19, .bool (decide ((p2.length : Int) > 500))), (18, .int .i64 (p2.length : Int)), (17, .slice A2 p2.length c2)] (by kernel_rfl) (fun a6362q h6363q => ?_)
  clear h6361q a6360q
  refine WL.done (by kernel_rfl) ?_
  by_cases c6364q : (p2.length : Int) > 500
  · rw [if_pos c6364q] at H
    have hb_ : (decide ((p2.length : Int) > 500)) = true := decide_eq_true c6364q
    try rw [hb_] at h6363q
    clear hb_
    refine wp_then h6363q rfl ?_
    refine wp_seq ?_
    refine WL.start ?_
    obtain ⟨r6366q, A6365q, H⟩ := bind1 H
    refine WL.op' (m := 0) h6363q rfl rfl ?_
    refine owp_call [] h6363q rfl (by kernel_rfl) rfl Try.func9 (by kernel_rfl) rfl (by kernel_rfl) (louverlaw10qfixed.calls  A6365q hS) (fun e6368q W6367q hp6369q => ?_)
    obtain ⟨rfl, hS6372q⟩ := hp6369q
    refine ⟨_, rfl, fun a6370q h6371q => ?_⟩
    clear h6363q a6362q
    refine WL.block (c := 1) (m' := 2) h6371q rfl [(6, .bool r6366q)] (by kernel_rfl) (fun a6373q h6374q => ?_)
    clear h6371q a6370q
    refine WL.done (by kernel_rfl) ?_
    refine wp_ret ?_
    obtain rfl := Option.some.inj H
    repeat (first | refine then_ret ?_ | refine inBlock_ret ?_ | refine inBlock_go ?_)
    refine body_ret (v := .bool r6366q) h6374q (by kernel_rfl) (by kernel_rfl) ?_
    exact ⟨rfl, hS6372q⟩
  · rw [if_neg c6364q] at H
    have hb_ : (decide ((p2.length : Int) > 500)) = false := decide_eq_false c6364q
    try rw [hb_] at h6363q
    clear hb_
    refine wp_else h6363q rfl ?_
    refine wp_skip ?_
    refine wp_seq ?_
    refine WL.start ?_
    refine WL.block (c := 2) (m' := 2) h6363q rfl [(22, .bool p1), (21, .int .u32 p0)] (by kernel_rfl) (fun a6375q h6376q => ?_)
    clear h6363q a6362q
    obtain ⟨r6378q, A6377q, H⟩ := bind1 H
    refine WL.op' (m := 2) h6376q rfl rfl ?_
    refine owp_call [.int .u32 p0, .bool p1] h6376q rfl (by kernel_rfl) rfl Try.func10 (by kernel_rfl) rfl (by kernel_rfl) (window_Of.calls  A6377q hS) (fun e6380q W6379q hp6381q => ?_)
    obtain ⟨v6384q, M6385q, rfl, hr6386q, hS6387q⟩ := hp6381q
    refine ⟨_, rfl, fun a6382q h6383q => ?_⟩
    clear h6376q a6375q
    refine WL.block (c := 1) (m' := 4) h6383q rfl [(7, v6384q)] (by kernel_rfl) (fun a6388q h6389q => ?_)
    clear h6383q a6382q
    refine WL.done (by kernel_rfl) ?_
    refine wp_seq ?_
    refine WL.start ?_
    refine WL.block (c := 1) (m' := 1) h6389q rfl [(24, .int .u32 p0)] (by kernel_rfl) (fun a6390q h6391q => ?_)
    clear h6389q a6388q
    obtain ⟨r6393q, A6392q, H⟩ := bind1 H
    refine WL.op' (m := 1) h6391q rfl rfl ?_
    refine owp_call [.int .u32 p0] h6391q rfl (by kernel_rfl) rfl Try.func11 (by kernel_rfl) rfl (by kernel_rfl) (louverref10qOf.calls  A6392q hS6387q) (fun e6395q W6394q hp6396q => ?_)
    obtain ⟨rfl, hS6399q⟩ := hp6396q
    refine ⟨_, rfl, fun a6397q h6398q => ?_⟩
    clear h6391q a6390q
    refine WL.op' (m := 2) h6398q rfl rfl ?_
    refine owp_new (fun g_ => .pointer (some ⟨g_, 0, none⟩)) (.cells ([.int .i64 0, .int .i64 0, .int .i64 0, .int .i64 0] : List Value).toArray 28 (0, 0)) h6398q rfl (by kernel_rfl) (by kernel_rfl) hS6399q (fun a6400q W6402q g6403q h6401q hS6404q => ?_)
    clear h6398q a6397q
    refine WL.op' (m := 3) h6401q rfl rfl ?_
    refine owp_store (i := 0) (vs := ([.int .i64 r6393q.f0, .int .i64 r6393q.f1, .int .i64 r6393q.f2, .int .i64 r6393q.f3] : List Value)) h6401q rfl (by kernel_rfl) rfl rfl rfl rfl (by simp [Value.oneCell']) (by kernel_rfl) hS6404q (by simp) (cs' := ([.int .i64 r6393q.f0, .int .i64 r6393q.f1, .int .i64 r6393q.f2, .int .i64 r6393q.f3] : List Value)) rfl (fun a6405q W6407q h6406q hS6408q => ?_)
    clear h6401q a6400q
    refine WL.done (by kernel_rfl) ?_
    refine wp_seq ?_
    refine WL.start ?_
    refine WL.block (c := 1) (m' := 1) h6406q rfl [(26, .agg #[.int .u8 1, .int .u32 3])] (by kernel_rfl) (fun a6409q h6410q => ?_)
    clear h6406q a6405q
    refine WL.op' (m := 1) h6410q rfl rfl ?_
    refine owp_new (fun g_ => .pointer (some ⟨g_, 0, none⟩)) (.cells ([.int .u8 0, .int .u32 0] : List Value).toArray 31 (0, 0)) h6410q rfl (by kernel_rfl) (by kernel_rfl) hS6408q (fun a6411q W6413q g6414q h6412q hS6415q => ?_)
    clear h6410q a6409q
    refine WL.op' (m := 2) h6412q rfl rfl ?_
    refine owp_store (i := 0) (vs := ([.int .u8 1, .int .u32 3] : List Value)) h6412q rfl (by kernel_rfl) rfl rfl rfl rfl (by simp [Value.oneCell']) (by kernel_rfl) hS6415q (by simp) (cs' := ([.int .u8 1, .int .u32 3] : List Value)) rfl (fun a6416q W6418q h6417q hS6419q => ?_)
    clear h6412q a6411q
    refine WL.done (by kernel_rfl) ?_
    refine wp_seq ?_
    refine wp_seq ?_
    refine WL.start ?_
    refine WL.block (c := 1) (m' := 1) h6417q rfl [(27, .bool p1)] (by kernel_rfl) (fun a6420q h6421q => ?_)
    clear h6417q a6416q
    refine WL.done (by kernel_rfl) ?_
    refine wp_meet (I := fun a_ W_ => ∃ kq_, ∃ (x6434q : Int), ∃ (x6435q : Int), Hd a_ 116 [(2, .slice A2 p2.length c2), (7, v6384q), (8, .pointer (some ⟨g6403q, 0, none⟩)), (9, .pointer (some ⟨g6414q, 0, none⟩))] ∧ Asd (louverlaw10qWindowMeters.j0 kq_ x6434q x6435q r6378q r6393q p2 = some r0q) ∧ Asd (kq_ ≤ k) ∧ Asd (St b w0 W_ R (M6385q :: [(g6403q, .cells ([.int .i64 r6393q.f0, .int .i64 r6393q.f1, .int .i64 r6393q.f2, .int .i64 r6393q.f3] : List Value).toArray 28 (0, 0))] :: [(g6414q, .cells ([.int .u8 x6434q, .int .u32 x6435q] : List Value).toArray 31 (0, 0))] :: Fs))) ?_ ?_
    · by_cases c6436q : p1 = true
      · rw [if_pos c6436q] at H
        have hb_ : p1 = true := c6436q
        try rw [hb_] at h6421q
        clear hb_
        refine wp_then h6421q rfl ?_
        refine WL.start ?_
        refine WL.block (c := 1) (m' := 1) h6421q rfl [(28, .pointer (some ⟨g6414q, 0, none⟩))] (by kernel_rfl) (fun a6437q h6438q => ?_)
        clear h6421q a6420q
        refine WL.op' (m := 1) h6438q rfl rfl ?_
        refine owp_store (i := 0) (vs := ([.int .u8 2] : List Value)) h6438q rfl (by kernel_rfl) rfl rfl rfl rfl (by simp [Value.oneCell']) (by kernel_rfl) hS6419q (by simp) (cs' := ([.int .u8 2, .int .u32 3] : List Value)) rfl (fun a6439q W6441q h6440q hS6442q => ?_)
        clear h6438q a6437q
        refine WL.done (by kernel_rfl) ?_
        have hS6443q : St b w0 W6441q R ([(g6403q, .cells ([.int .i64 r6393q.f0, .int .i64 r6393q.f1, .int .i64 r6393q.f2, .int .i64 r6393q.f3] : List Value).toArray 28 (0, 0))] :: [(g6414q, .cells ([.int .u8 2, .int .u32 3] : List Value).toArray 31 (0, 0))] :: M6385q :: Fs) := hS6442q.bring 1 rfl rfl
        have hS6444q : St b w0 W6441q R (M6385q :: [(g6403q, .cells ([.int .i64 r6393q.f0, .int .i64 r6393q.f1, .int .i64 r6393q.f2, .int .i64 r6393q.f3] : List Value).toArray 28 (0, 0))] :: [(g6414q, .cells ([.int .u8 2, .int .u32 3] : List Value).toArray 31 (0, 0))] :: Fs) := hS6443q.bring 2 rfl rfl
        exact ⟨k, 2, 3, h6440q.keep ⟨rfl, rfl, rfl, rfl, trivial⟩, ⟨H⟩, ⟨Nat.le_refl _⟩, ⟨hS6444q⟩⟩
      · rw [if_neg c6436q] at H
        have hb_ : p1 = false := (Bool.eq_false_iff.2 c6436q)
        try rw [hb_] at h6421q
        clear hb_
        refine wp_else h6421q rfl ?_
        refine wp_skip ?_
        have hS6445q : St b w0 W6418q R ([(g6403q, .cells ([.int .i64 r6393q.f0, .int .i64 r6393q.f1, .int .i64 r6393q.f2, .int .i64 r6393q.f3] : List Value).toArray 28 (0, 0))] :: [(g6414q, .cells ([.int .u8 1, .int .u32 3] : List Value).toArray 31 (0, 0))] :: M6385q :: Fs) := hS6419q.bring 1 rfl rfl
        have hS6446q : St b w0 W6418q R (M6385q :: [(g6403q, .cells ([.int .i64 r6393q.f0, .int .i64 r6393q.f1, .int .i64 r6393q.f2, .int .i64 r6393q.f3] : List Value).toArray 28 (0, 0))] :: [(g6414q, .cells ([.int .u8 1, .int .u32 3] : List Value).toArray 31 (0, 0))] :: Fs) := hS6445q.bring 2 rfl rfl
        exact ⟨k, 1, 3, h6421q.keep ⟨rfl, rfl, rfl, rfl, trivial⟩, ⟨H⟩, ⟨Nat.le_refl _⟩, ⟨hS6446q⟩⟩
    · clear H hS6419q
      rintro a6430q W6431q ⟨k6433q, x6434q, x6435q, h6429q, ⟨H⟩, ⟨hkk6433q⟩, ⟨hS6432q⟩⟩
      obtain _ | k6447q := k6433q
      · exact absurd H (by simp [louverlaw10qWindowMeters.j0])
      simp only [louverlaw10qWindowMeters.j0] at H
      refine wp_seq ?_
      refine wp_seq ?_
      refine WL.start ?_
      refine WL.block (c := 3) (m' := 3) h6429q rfl [(31, .int .i64 0), (30, .int .i64 (p2.length : Int)), (29, .slice A2 p2.length c2)] (by kernel_rfl) (fun a6448q h6449q => ?_)
      clear h6429q a6430q
      refine WL.done (by kernel_rfl) ?_
      refine wp_block ?_
      refine wp_loop_ghost (fun kq_ a_ W_ => ∃ (x6455q : S63), ∃ (M6456q : Frag), ∃ (x6458q : Int), ∃ (x6459q : Int), ∃ (x6460q : Int), ∃ (x6461q : Int), ∃ (x6462q : Int), Hd a_ 116 [(7, v6384q), (8, .pointer (some ⟨g6403q, 0, none⟩)), (9, .pointer (some ⟨g6414q, 0, none⟩)), (29, .slice A2 p2.length c2), (30, .int .i64 (p2.length : Int)), (31, .int .i64 x6462q)] ∧ Asd (louverlaw10qWindowMeters.l1 kq_ x6455q x6458q x6459q x6460q x6461q x6462q p2 x6434q x6435q = some r0q) ∧ Asd (kq_ ≤ k6447q) ∧ Asd (St b w0 W_ R (M6456q :: [(g6403q, .cells ([.int .i64 x6458q, .int .i64 x6459q, .int .i64 x6460q, .int .i64 x6461q] : List Value).toArray 28 (0, 0))] :: [(g6414q, .cells ([.int .u8 x6434q, .int .u32 x6435q] : List Value).toArray 31 (0, 0))] :: Fs)) ∧ Asd (Ptr k63 63 b w0 R v6384q x6455q M6456q)) k6447q ⟨r6378q, M6385q, r6393q.f0, r6393q.f1, r6393q.f2, r6393q.f3, 0, h6449q.keep ⟨rfl, rfl, rfl, rfl, rfl, rfl, trivial⟩, ⟨H⟩, ⟨Nat.le_refl _⟩, ⟨hS6432q⟩, ⟨hr6386q⟩⟩ ?_
      clear H hS6432q
      rintro k6454q a6451q W6452q ⟨x6455q, M6456q, x6458q, x6459q, x6460q, x6461q, x6462q, h6450q, ⟨H⟩, ⟨hkk6454q⟩, ⟨hS6453q⟩, ⟨hr6457q⟩⟩
      obtain _ | k6463q := k6454q
      · exact absurd H (by simp [louverlaw10qWindowMeters.l1])
      simp only [louverlaw10qWindowMeters.l1] at H
      refine wp_seq ?_
      refine WL.start ?_
      refine WL.block (c := 1) (m' := 1) h6450q rfl [(32, .bool (decide (x6462q < (p2.length : Int))))] (by kernel_rfl) (fun a6464q h6465q => ?_)
      clear h6450q a6451q
      refine WL.done (by kernel_rfl) ?_
      refine wp_seq ?_
      by_cases c6466q : x6462q < (p2.length : Int)
      · rw [if_pos c6466q] at H
        have hb_ : (decide (x6462q < (p2.length : Int))) = true := decide_eq_true c6466q
        try rw [hb_] at h6465q
        clear hb_
        refine wp_then h6465q rfl ?_
        refine wp_skip ?_
        refine wp_seq ?_
        refine wp_block ?_
        refine wp_seq ?_
        refine WL.start ?_
        by_cases c6467q : 0 ≤ x6462q
        · rw [if_pos c6467q] at H
          have hi6470q : 0 ≤ x6462q := by first | assumption | omega
          have hi6471q : x6462q < (p2.length : Int) := by first | assumption | omega
          obtain ⟨ad6468q, _, ha6469q, -, -⟩ := Rds.elemAny hp2 hi6470q (gt_get (z := z33) hi6470q hi6471q)
          refine WL.op' (m := 0) h6465q rfl rfl ?_
          refine owp_run (v := .pointer (some (ad6468q.add (x6462q.toNat * 4)))) h6465q rfl (by kernel_rfl) (run_idx (ad := ad6468q) (sz := 4) rfl (by rw [← ha6469q]; rfl) rfl Try.underlying23 (by kernel_rfl) hi6470q hi6471q) (fun a6472q h6473q => ?_)
          clear h6465q a6464q
          obtain ⟨ad6474q, cs6475q, ha6476q, hr6478q, hc6477q⟩ := Rds.elemAny hp2 hi6470q (gt_get (z := z33) hi6470q hi6471q)
          rw [ha6469q] at ha6476q; obtain rfl := Option.some.inj ha6476q
          obtain rfl := k33qrd hr6478q
          refine WL.op' (m := 1) h6473q rfl rfl ?_
          refine owp_run (v := .agg #[.int .i64 ((gt z33 p2 x6462q).f0), .int .i64 ((gt z33 p2 x6462q).f1), .int .u32 ((gt z33 p2 x6462q).f2), .int .u32 ((gt z33 p2 x6462q).f3)]) h6473q rfl (by kernel_rfl) (run_loadN rfl rfl Try.underlying33 rfl (cs := ([.int .i64 ((gt z33 p2 x6462q).f0), .int .i64 ((gt z33 p2 x6462q).f1), .int .u32 ((gt z33 p2 x6462q).f2), .int .u32 ((gt z33 p2 x6462q).f3)] : List Value)) (by kernel_rfl) (hc6477q _ (fun _ _ hk_ => hS6453q.kn hk_))) (fun a6479q h6480q => ?_)
          clear h6473q a6472q
          refine WL.op' (m := 2) h6480q rfl rfl ?_
          refine owp_new (fun g_ => .pointer (some ⟨g_, 0, none⟩)) (.cells ([.int .i64 0, .int .i64 0, .int .u32 0, .int .u32 0] : List Value).toArray 33 (0, 0)) h6480q rfl (by kernel_rfl) (by kernel_rfl) hS6453q (fun a6481q W6483q g6484q h6482q hS6485q => ?_)
          clear h6480q a6479q
          refine WL.op' (m := 3) h6482q rfl rfl ?_
          refine owp_store (i := 0) (vs := ([.int .i64 ((gt z33 p2 x6462q).f0), .int .i64 ((gt z33 p2 x6462q).f1), .int .u32 ((gt z33 p2 x6462q).f2), .int .u32 ((gt z33 p2 x6462q).f3)] : List Value)) h6482q rfl (by kernel_rfl) rfl rfl rfl rfl (by simp [Value.oneCell']) (by kernel_rfl) hS6485q (by simp) (cs' := ([.int .i64 ((gt z33 p2 x6462q).f0), .int .i64 ((gt z33 p2 x6462q).f1), .int .u32 ((gt z33 p2 x6462q).f2), .int .u32 ((gt z33 p2 x6462q).f3)] : List Value)) rfl (fun a6486q W6488q h6487q hS6489q => ?_)
          clear h6482q a6481q
          refine WL.done (by kernel_rfl) ?_
          refine wp_seq ?_
          refine wp_seq ?_
          refine WL.start ?_
          refine WL.block (c := 1) (m' := 1) h6487q rfl [(35, .pointer (some ⟨g6484q, 0, none⟩))] (by kernel_rfl) (fun a6490q h6491q => ?_)
          clear h6487q a6486q
          refine WL.op' (m := 1) h6491q rfl rfl ?_
          refine owp_run (v := .int .i64 ((gt z33 p2 x6462q).f0)) h6491q rfl (by kernel_rfl) (run_load1 rfl rfl Try.underlying3 rfl (hS6489q.cell (i := 0) rfl)) (fun a6492q h6493q => ?_)
          clear h6491q a6490q
          refine WL.block (c := 1) (m' := 3) h6493q rfl [(37, .bool (decide (((gt z33 p2 x6462q).f0) = 0)))] (by kernel_rfl) (fun a6494q h6495q => ?_)
          clear h6493q a6492q
          refine WL.done (by kernel_rfl) ?_
          refine wp_meet (I := fun a_ W_ => ∃ kq_, ∃ (x6715q : S63), ∃ (M6716q : Frag), ∃ (x6718q : Int), ∃ (x6719q : Int), ∃ (x6720q : Int), ∃ (x6721q : Int), Hd a_ 116 [(7, v6384q), (8, .pointer (some ⟨g6403q, 0, none⟩)), (9, .pointer (some ⟨g6414q, 0, none⟩)), (29, .slice A2 p2.length c2), (30, .int .i64 (p2.length : Int)), (31, .int .i64 x6462q)] ∧ Asd (louverlaw10qWindowMeters.j2 kq_ x6715q x6718q x6719q x6720q x6721q p2 x6434q x6435q x6462q = some r0q) ∧ Asd (kq_ ≤ k6463q) ∧ Asd (St b w0 W_ R (M6716q :: [(g6403q, .cells ([.int .i64 x6718q, .int .i64 x6719q, .int .i64 x6720q, .int .i64 x6721q] : List Value).toArray 28 (0, 0))] :: [(g6414q, .cells ([.int .u8 x6434q, .int .u32 x6435q] : List Value).toArray 31 (0, 0))] :: Fs)) ∧ Asd (Ptr k63 63 b w0 R v6384q x6715q M6716q)) ?_ ?_
          · by_cases c6722q : ((gt z33 p2 x6462q).f0) = 0
            · rw [if_pos c6722q] at H
              have hb_ : (decide (((gt z33 p2 x6462q).f0) = 0)) = true := decide_eq_true c6722q
              try rw [hb_] at h6495q
              clear hb_
              refine wp_then h6495q rfl ?_
              refine wp_seq ?_
              refine WL.start ?_
              have hS6723q : St b w0 W6488q R ([(g6403q, .cells ([.int .i64 x6458q, .int .i64 x6459q, .int .i64 x6460q, .int .i64 x6461q] : List Value).toArray 28 (0, 0))] :: [(g6484q, .cells ([.int .i64 ((gt z33 p2 x6462q).f0), .int .i64 ((gt z33 p2 x6462q).f1), .int .u32 ((gt z33 p2 x6462q).f2), .int .u32 ((gt z33 p2 x6462q).f3)] : List Value).toArray 33 (0, 0))] :: M6456q :: [(g6414q, .cells ([.int .u8 x6434q, .int .u32 x6435q] : List Value).toArray 31 (0, 0))] :: Fs) := hS6489q.bring 2 rfl rfl
              refine WL.op' (m := 0) h6495q rfl rfl ?_
              refine owp_run (v := .agg #[.int .i64 x6458q, .int .i64 x6459q, .int .i64 x6460q, .int .i64 x6461q]) h6495q rfl (by kernel_rfl) (run_loadN rfl rfl Try.underlying28 rfl (cs := ([.int .i64 x6458q, .int .i64 x6459q, .int .i64 x6460q, .int .i64 x6461q] : List Value)) (by kernel_rfl) (hS6723q.cells (vs := ([.int .i64 x6458q, .int .i64 x6459q, .int .i64 x6460q, .int .i64 x6461q] : List Value)) rfl)) (fun a6724q h6725q => ?_)
              clear h6495q a6494q
              refine WL.block (c := 1) (m' := 2) h6725q rfl [(40, .pointer (some ⟨g6484q, 1, none⟩))] (by kernel_rfl) (fun a6726q h6727q => ?_)
              clear h6725q a6724q
              have hS6728q : St b w0 W6488q R ([(g6484q, .cells ([.int .i64 ((gt z33 p2 x6462q).f0), .int .i64 ((gt z33 p2 x6462q).f1), .int .u32 ((gt z33 p2 x6462q).f2), .int .u32 ((gt z33 p2 x6462q).f3)] : List Value).toArray 33 (0, 0))] :: [(g6403q, .cells ([.int .i64 x6458q, .int .i64 x6459q, .int .i64 x6460q, .int .i64 x6461q] : List Value).toArray 28 (0, 0))] :: M6456q :: [(g6414q, .cells ([.int .u8 x6434q, .int .u32 x6435q] : List Value).toArray 31 (0, 0))] :: Fs) := hS6723q.bring 1 rfl rfl
              refine WL.op' (m := 2) h6727q rfl rfl ?_
              refine owp_run (v := .int .i64 ((gt z33 p2 x6462q).f1)) h6727q rfl (by kernel_rfl) (run_load1 rfl rfl Try.underlying3 rfl (hS6728q.cell (i := 1) rfl)) (fun a6729q h6730q => ?_)
              clear h6727q a6726q
              obtain ⟨r6732q, r6733q, A6731q, H⟩ := bind2 H
              refine WL.op' (m := 3) h6730q rfl rfl ?_
              refine owp_call [.agg #[.int .i64 x6458q, .int .i64 x6459q, .int .i64 x6460q, .int .i64 x6461q], .int .i64 ((gt z33 p2 x6462q).f1)] h6730q rfl (by kernel_rfl) rfl Try.func12 (by kernel_rfl) rfl (by kernel_rfl) (louverref10qM_Come.calls (p0 := (⟨x6458q, x6459q, x6460q, x6461q⟩ : S28))  A6731q hS6728q) (fun e6735q W6734q hp6736q => ?_)
              obtain ⟨rfl, hS6739q⟩ := hp6736q
              refine ⟨_, rfl, fun a6737q h6738q => ?_⟩
              clear h6730q a6729q
              refine WL.block (c := 3) (m' := 7) h6738q rfl [(44, .bool r6733q), (43, .agg #[.int .i64 r6732q.f0, .int .i64 r6732q.f1, .int .i64 r6732q.f2, .int .i64 r6732q.f3]), (38, .tuple #[.agg #[.int .i64 r6732q.f0, .int .i64 r6732q.f1, .int .i64 r6732q.f2, .int .i64 r6732q.f3], .bool r6733q])] (by kernel_rfl) (fun a6740q h6741q => ?_)
              clear h6738q a6737q
              refine WL.op' (m := 7) h6741q rfl rfl ?_
              refine owp_new (fun g_ => .pointer (some ⟨g_, 0, none⟩)) (.cells ([.int .i64 0, .int .i64 0, .int .i64 0, .int .i64 0] : List Value).toArray 28 (0, 0)) h6741q rfl (by kernel_rfl) (by kernel_rfl) hS6739q (fun a6742q W6744q g6745q h6743q hS6746q => ?_)
              clear h6741q a6740q
              refine WL.op' (m := 8) h6743q rfl rfl ?_
              refine owp_store (i := 0) (vs := ([.int .i64 r6732q.f0, .int .i64 r6732q.f1, .int .i64 r6732q.f2, .int .i64 r6732q.f3] : List Value)) h6743q rfl (by kernel_rfl) rfl rfl rfl rfl (by simp [Value.oneCell']) (by kernel_rfl) hS6746q (by simp) (cs' := ([.int .i64 r6732q.f0, .int .i64 r6732q.f1, .int .i64 r6732q.f2, .int .i64 r6732q.f3] : List Value)) rfl (fun a6747q W6749q h6748q hS6750q => ?_)
              clear h6743q a6742q
              refine WL.block (c := 1) (m' := 10) h6748q rfl [(13, .bool r6733q)] (by kernel_rfl) (fun a6751q h6752q => ?_)
              clear h6748q a6747q
              refine WL.done (by kernel_rfl) ?_
              refine wp_seq ?_
              refine WL.start ?_
              refine WL.op' (m := 0) h6752q rfl rfl ?_
              refine owp_run (v := .agg #[.int .i64 r6732q.f0, .int .i64 r6732q.f1, .int .i64 r6732q.f2, .int .i64 r6732q.f3]) h6752q rfl (by kernel_rfl) (run_loadN rfl rfl Try.underlying28 rfl (cs := ([.int .i64 r6732q.f0, .int .i64 r6732q.f1, .int .i64 r6732q.f2, .int .i64 r6732q.f3] : List Value)) (by kernel_rfl) (hS6750q.cells (vs := ([.int .i64 r6732q.f0, .int .i64 r6732q.f1, .int .i64 r6732q.f2, .int .i64 r6732q.f3] : List Value)) rfl)) (fun a6753q h6754q => ?_)
              clear h6752q a6751q
              have hS6755q : St b w0 W6749q R ([(g6403q, .cells ([.int .i64 x6458q, .int .i64 x6459q, .int .i64 x6460q, .int .i64 x6461q] : List Value).toArray 28 (0, 0))] :: [(g6745q, .cells ([.int .i64 r6732q.f0, .int .i64 r6732q.f1, .int .i64 r6732q.f2, .int .i64 r6732q.f3] : List Value).toArray 28 (0, 0))] :: [(g6484q, .cells ([.int .i64 ((gt z33 p2 x6462q).f0), .int .i64 ((gt z33 p2 x6462q).f1), .int .u32 ((gt z33 p2 x6462q).f2), .int .u32 ((gt z33 p2 x6462q).f3)] : List Value).toArray 33 (0, 0))] :: M6456q :: [(g6414q, .cells ([.int .u8 x6434q, .int .u32 x6435q] : List Value).toArray 31 (0, 0))] :: Fs) := hS6750q.bring 2 rfl rfl
              refine WL.op' (m := 1) h6754q rfl rfl ?_
              refine owp_store (i := 0) (vs := ([.int .i64 r6732q.f0, .int .i64 r6732q.f1, .int .i64 r6732q.f2, .int .i64 r6732q.f3] : List Value)) h6754q rfl (by kernel_rfl) rfl rfl rfl rfl (by simp [Value.oneCell']) (by kernel_rfl) hS6755q (by simp) (cs' := ([.int .i64 r6732q.f0, .int .i64 r6732q.f1, .int .i64 r6732q.f2, .int .i64 r6732q.f3] : List Value)) rfl (fun a6756q W6758q h6757q hS6759q => ?_)
              clear h6754q a6753q
              refine WL.done (by kernel_rfl) ?_
              refine wp_seq ?_
              refine WL.start ?_
              refine WL.block (c := 2) (m' := 2) h6757q rfl [(47, .pointer (some ⟨g6484q, 1, none⟩)), (46, v6384q)] (by kernel_rfl) (fun a6760q h6761q => ?_)
              clear h6757q a6756q
              have hS6762q : St b w0 W6758q R ([(g6484q, .cells ([.int .i64 ((gt z33 p2 x6462q).f0), .int .i64 ((gt z33 p2 x6462q).f1), .int .u32 ((gt z33 p2 x6462q).f2), .int .u32 ((gt z33 p2 x6462q).f3)] : List Value).toArray 33 (0, 0))] :: [(g6403q, .cells ([.int .i64 r6732q.f0, .int .i64 r6732q.f1, .int .i64 r6732q.f2, .int .i64 r6732q.f3] : List Value).toArray 28 (0, 0))] :: [(g6745q, .cells ([.int .i64 r6732q.f0, .int .i64 r6732q.f1, .int .i64 r6732q.f2, .int .i64 r6732q.f3] : List Value).toArray 28 (0, 0))] :: M6456q :: [(g6414q, .cells ([.int .u8 x6434q, .int .u32 x6435q] : List Value).toArray 31 (0, 0))] :: Fs) := hS6759q.bring 2 rfl rfl
              refine WL.op' (m := 2) h6761q rfl rfl ?_
              refine owp_run (v := .int .i64 ((gt z33 p2 x6462q).f1)) h6761q rfl (by kernel_rfl) (run_load1 rfl rfl Try.underlying3 rfl (hS6762q.cell (i := 1) rfl)) (fun a6763q h6764q => ?_)
              clear h6761q a6760q
              have hS6765q : St b w0 W6758q R (M6456q :: [(g6484q, .cells ([.int .i64 ((gt z33 p2 x6462q).f0), .int .i64 ((gt z33 p2 x6462q).f1), .int .u32 ((gt z33 p2 x6462q).f2), .int .u32 ((gt z33 p2 x6462q).f3)] : List Value).toArray 33 (0, 0))] :: [(g6403q, .cells ([.int .i64 r6732q.f0, .int .i64 r6732q.f1, .int .i64 r6732q.f2, .int .i64 r6732q.f3] : List Value).toArray 28 (0, 0))] :: [(g6745q, .cells ([.int .i64 r6732q.f0, .int .i64 r6732q.f1, .int .i64 r6732q.f2, .int .i64 r6732q.f3] : List Value).toArray 28 (0, 0))] :: [(g6414q, .cells ([.int .u8 x6434q, .int .u32 x6435q] : List Value).toArray 31 (0, 0))] :: Fs) := hS6762q.bring 3 rfl rfl
              obtain ⟨r6767q, r6768q, A6766q, H⟩ := bind2 H
              refine WL.op' (m := 3) h6764q rfl rfl ?_
              refine owp_call [v6384q, .int .i64 ((gt z33 p2 x6462q).f1)] h6764q rfl (by kernel_rfl) rfl Try.func13 (by kernel_rfl) rfl (by kernel_rfl) (window_Meter_Come.calls hr6457q A6766q hS6765q) (fun e6770q W6769q hp6771q => ?_)
              obtain ⟨M6774q, rfl, hr6775q, hS6776q⟩ := hp6771q
              refine ⟨_, rfl, fun a6772q h6773q => ?_⟩
              clear h6764q a6763q
              refine WL.op' (m := 4) h6773q rfl rfl ?_
              refine owp_new (fun g_ => .pointer (some ⟨g_, 0, none⟩)) (.cells ([.int .u8 0, .int .u32 0] : List Value).toArray 31 (0, 0)) h6773q rfl (by kernel_rfl) (by kernel_rfl) hS6776q (fun a6777q W6779q g6780q h6778q hS6781q => ?_)
              clear h6773q a6772q
              refine WL.op' (m := 5) h6778q rfl rfl ?_
              refine owp_store (i := 0) (vs := ([.int .u8 r6767q.f0, .int .u32 r6767q.f1] : List Value)) h6778q rfl (by kernel_rfl) rfl rfl rfl rfl (by simp [Value.oneCell']) (by kernel_rfl) hS6781q (by simp) (cs' := ([.int .u8 r6767q.f0, .int .u32 r6767q.f1] : List Value)) rfl (fun a6782q W6784q h6783q hS6785q => ?_)
              clear h6778q a6777q
              refine WL.done (by kernel_rfl) ?_
              refine wp_seq ?_
              refine WL.start ?_
              refine WL.block (c := 2) (m' := 2) h6783q rfl [(51, .bool r6733q), (50, .bool r6733q)] (by kernel_rfl) (fun a6786q h6787q => ?_)
              clear h6783q a6782q
              by_cases c6788q : r6733q = true
              · rw [if_pos c6788q] at H
                have hb_ : r6733q = true := c6788q
                try rw [hb_] at h6787q
                clear hb_
                refine WL.op' (m := 2) h6787q rfl rfl ?_
                refine owp_run (v := .agg #[.int .u8 r6767q.f0, .int .u32 r6767q.f1]) h6787q rfl (by kernel_rfl) (run_loadN rfl rfl Try.underlying31 rfl (cs := ([.int .u8 r6767q.f0, .int .u32 r6767q.f1] : List Value)) (by kernel_rfl) (hS6785q.cells (vs := ([.int .u8 r6767q.f0, .int .u32 r6767q.f1] : List Value)) rfl)) (fun a6789q h6790q => ?_)
                clear h6787q a6786q
                refine WL.op' (m := 3) h6790q rfl rfl (owp_run h6790q rfl (by kernel_rfl) (v := .agg #[.int .u8 0, .int .u32 0]) (by kernel_rfl) (fun a6791q h6792q => ?_))
                clear h6790q a6789q
                refine WL.op' (m := 4) h6792q rfl rfl ?_
                refine owp_run (v := .bool (!(decide (r6767q.f0 = 0) && decide (r6767q.f1 = 0)))) h6792q rfl (by kernel_rfl) (run_stne (xs := [.int .u8 r6767q.f0, .int .u32 r6767q.f1]) (ys := [.int .u8 0, .int .u32 0]) rfl rfl rfl (by kernel_rfl) (eqs_of Try.underlying31 (by kernel_rfl) (eqf_cons rfl (by kernel_rfl) rfl rfl (eqi_int Try.underlying5) (eqf_last rfl (by kernel_rfl) rfl rfl (eqi_int Try.underlying22))))) (fun a6793q h6794q => ?_)
                clear h6792q a6791q
                refine WL.block (c := 2) (m' := 7) h6794q rfl [(56, .bool (!(decide (r6767q.f0 = 0) && decide (r6767q.f1 = 0)))), (55, .bool (!(decide (r6767q.f0 = 0) && decide (r6767q.f1 = 0))))] (by kernel_rfl) (fun a6795q h6796q => ?_)
                clear h6794q a6793q
                by_cases c6797q : (decide (r6767q.f0 = 0) && decide (r6767q.f1 = 0)) = true
                · rw [if_pos c6797q] at H
                  have hb_ : (decide (r6767q.f0 = 0) && decide (r6767q.f1 = 0)) = true := c6797q
                  try rw [hb_] at h6796q
                  clear hb_
                  refine WL.op' (m := 7) h6796q rfl rfl (owp_run h6796q rfl (by kernel_rfl) (v := .bool true) (by kernel_rfl) (fun a6798q h6799q => ?_))
                  clear h6796q a6795q
                  refine WL.op' (m := 8) h6799q rfl rfl (owp_run h6799q rfl (by kernel_rfl) (v := .bool false) (by kernel_rfl) (fun a6800q h6801q => ?_))
                  clear h6799q a6798q
                  refine WL.op' (m := 9) h6801q rfl rfl (owp_run h6801q rfl (by kernel_rfl) (v := .bool false) (by kernel_rfl) (fun a6802q h6803q => ?_))
                  clear h6801q a6800q
                  refine WL.skipped (m := 10) h6803q rfl rfl (by kernel_rfl) rfl (fun a6804q h6805q => ?_)
                  clear h6803q a6802q
                  refine WL.skipped (m := 11) h6805q rfl rfl (by kernel_rfl) rfl (fun a6806q h6807q => ?_)
                  clear h6805q a6804q
                  refine WL.skipped (m := 12) h6807q rfl rfl (by kernel_rfl) rfl (fun a6808q h6809q => ?_)
                  clear h6807q a6806q
                  refine WL.op' (m := 13) h6809q rfl rfl (owp_run h6809q rfl (by kernel_rfl) (v := .bool false) (by kernel_rfl) (fun a6810q h6811q => ?_))
                  clear h6809q a6808q
                  refine WL.block (c := 1) (m' := 15) h6811q rfl [(64, .bool false)] (by kernel_rfl) (fun a6812q h6813q => ?_)
                  clear h6811q a6810q
                  refine WL.done (by kernel_rfl) ?_
                  refine wp_else h6813q rfl ?_
                  refine wp_skip ?_
                  have hS6814q : St b w0 W6784q R (M6774q :: [(g6484q, .cells ([.int .i64 ((gt z33 p2 x6462q).f0), .int .i64 ((gt z33 p2 x6462q).f1), .int .u32 ((gt z33 p2 x6462q).f2), .int .u32 ((gt z33 p2 x6462q).f3)] : List Value).toArray 33 (0, 0))] :: [(g6403q, .cells ([.int .i64 r6732q.f0, .int .i64 r6732q.f1, .int .i64 r6732q.f2, .int .i64 r6732q.f3] : List Value).toArray 28 (0, 0))] :: [(g6745q, .cells ([.int .i64 r6732q.f0, .int .i64 r6732q.f1, .int .i64 r6732q.f2, .int .i64 r6732q.f3] : List Value).toArray 28 (0, 0))] :: [(g6414q, .cells ([.int .u8 x6434q, .int .u32 x6435q] : List Value).toArray 31 (0, 0))] :: Fs) := hS6785q.drop_
                  have hS6815q : St b w0 W6784q R ([(g6484q, .cells ([.int .i64 ((gt z33 p2 x6462q).f0), .int .i64 ((gt z33 p2 x6462q).f1), .int .u32 ((gt z33 p2 x6462q).f2), .int .u32 ((gt z33 p2 x6462q).f3)] : List Value).toArray 33 (0, 0))] :: M6774q :: [(g6403q, .cells ([.int .i64 r6732q.f0, .int .i64 r6732q.f1, .int .i64 r6732q.f2, .int .i64 r6732q.f3] : List Value).toArray 28 (0, 0))] :: [(g6745q, .cells ([.int .i64 r6732q.f0, .int .i64 r6732q.f1, .int .i64 r6732q.f2, .int .i64 r6732q.f3] : List Value).toArray 28 (0, 0))] :: [(g6414q, .cells ([.int .u8 x6434q, .int .u32 x6435q] : List Value).toArray 31 (0, 0))] :: Fs) := hS6814q.bring 1 rfl rfl
                  have hS6816q : St b w0 W6784q R (M6774q :: [(g6403q, .cells ([.int .i64 r6732q.f0, .int .i64 r6732q.f1, .int .i64 r6732q.f2, .int .i64 r6732q.f3] : List Value).toArray 28 (0, 0))] :: [(g6745q, .cells ([.int .i64 r6732q.f0, .int .i64 r6732q.f1, .int .i64 r6732q.f2, .int .i64 r6732q.f3] : List Value).toArray 28 (0, 0))] :: [(g6414q, .cells ([.int .u8 x6434q, .int .u32 x6435q] : List Value).toArray 31 (0, 0))] :: Fs) := hS6815q.drop_
                  have hS6817q : St b w0 W6784q R ([(g6745q, .cells ([.int .i64 r6732q.f0, .int .i64 r6732q.f1, .int .i64 r6732q.f2, .int .i64 r6732q.f3] : List Value).toArray 28 (0, 0))] :: M6774q :: [(g6403q, .cells ([.int .i64 r6732q.f0, .int .i64 r6732q.f1, .int .i64 r6732q.f2, .int .i64 r6732q.f3] : List Value).toArray 28 (0, 0))] :: [(g6414q, .cells ([.int .u8 x6434q, .int .u32 x6435q] : List Value).toArray 31 (0, 0))] :: Fs) := hS6816q.bring 2 rfl rfl
                  have hS6818q : St b w0 W6784q R (M6774q :: [(g6403q, .cells ([.int .i64 r6732q.f0, .int .i64 r6732q.f1, .int .i64 r6732q.f2, .int .i64 r6732q.f3] : List Value).toArray 28 (0, 0))] :: [(g6414q, .cells ([.int .u8 x6434q, .int .u32 x6435q] : List Value).toArray 31 (0, 0))] :: Fs) := hS6817q.drop_
                  exact ⟨k6463q, r6768q, M6774q, r6732q.f0, r6732q.f1, r6732q.f2, r6732q.f3, h6813q.keep ⟨rfl, rfl, rfl, rfl, rfl, rfl, trivial⟩, ⟨H⟩, ⟨Nat.le_refl _⟩, ⟨hS6818q⟩, ⟨hr6775q⟩⟩
                · rw [if_neg c6797q] at H
                  have hb_ : (decide (r6767q.f0 = 0) && decide (r6767q.f1 = 0)) = false := (Bool.eq_false_iff.2 c6797q)
                  try rw [hb_] at h6796q
                  clear hb_
                  refine WL.skipped (m := 7) h6796q rfl rfl (by kernel_rfl) rfl (fun a6819q h6820q => ?_)
                  clear h6796q a6795q
                  refine WL.skipped (m := 8) h6820q rfl rfl (by kernel_rfl) rfl (fun a6821q h6822q => ?_)
                  clear h6820q a6819q
                  refine WL.skipped (m := 9) h6822q rfl rfl (by kernel_rfl) rfl (fun a6823q h6824q => ?_)
                  clear h6822q a6821q
                  refine WL.skipped (m := 10) h6824q rfl rfl (by kernel_rfl) rfl (fun a6825q h6826q => ?_)
                  clear h6824q a6823q
                  refine WL.skipped (m := 11) h6826q rfl rfl (by kernel_rfl) rfl (fun a6827q h6828q => ?_)
                  clear h6826q a6825q
                  refine WL.skipped (m := 12) h6828q rfl rfl (by kernel_rfl) rfl (fun a6829q h6830q => ?_)
                  clear h6828q a6827q
                  refine WL.skipped (m := 13) h6830q rfl rfl (by kernel_rfl) rfl (fun a6831q h6832q => ?_)
                  clear h6830q a6829q
                  refine WL.block (c := 1) (m' := 15) h6832q rfl [(64, .bool true)] (by kernel_rfl) (fun a6833q h6834q => ?_)
                  clear h6832q a6831q
                  refine WL.done (by kernel_rfl) ?_
                  refine wp_then h6834q rfl ?_
                  refine wp_seq ?_
                  refine WL.start ?_
                  refine WL.block (c := 1) (m' := 1) h6834q rfl [(6, .bool false)] (by kernel_rfl) (fun a6835q h6836q => ?_)
                  clear h6834q a6833q
                  refine WL.done (by kernel_rfl) ?_
                  refine wp_ret ?_
                  have hS6837q : St b w0 W6784q R (M6774q :: [(g6484q, .cells ([.int .i64 ((gt z33 p2 x6462q).f0), .int .i64 ((gt z33 p2 x6462q).f1), .int .u32 ((gt z33 p2 x6462q).f2), .int .u32 ((gt z33 p2 x6462q).f3)] : List Value).toArray 33 (0, 0))] :: [(g6403q, .cells ([.int .i64 r6732q.f0, .int .i64 r6732q.f1, .int .i64 r6732q.f2, .int .i64 r6732q.f3] : List Value).toArray 28 (0, 0))] :: [(g6745q, .cells ([.int .i64 r6732q.f0, .int .i64 r6732q.f1, .int .i64 r6732q.f2, .int .i64 r6732q.f3] : List Value).toArray 28 (0, 0))] :: [(g6414q, .cells ([.int .u8 x6434q, .int .u32 x6435q] : List Value).toArray 31 (0, 0))] :: Fs) := hS6785q.drop_
                  have hS6838q : St b w0 W6784q R ([(g6484q, .cells ([.int .i64 ((gt z33 p2 x6462q).f0), .int .i64 ((gt z33 p2 x6462q).f1), .int .u32 ((gt z33 p2 x6462q).f2), .int .u32 ((gt z33 p2 x6462q).f3)] : List Value).toArray 33 (0, 0))] :: [(g6403q, .cells ([.int .i64 r6732q.f0, .int .i64 r6732q.f1, .int .i64 r6732q.f2, .int .i64 r6732q.f3] : List Value).toArray 28 (0, 0))] :: [(g6745q, .cells ([.int .i64 r6732q.f0, .int .i64 r6732q.f1, .int .i64 r6732q.f2, .int .i64 r6732q.f3] : List Value).toArray 28 (0, 0))] :: [(g6414q, .cells ([.int .u8 x6434q, .int .u32 x6435q] : List Value).toArray 31 (0, 0))] :: Fs) := hS6837q.drop_
                  have hS6839q : St b w0 W6784q R ([(g6403q, .cells ([.int .i64 r6732q.f0, .int .i64 r6732q.f1, .int .i64 r6732q.f2, .int .i64 r6732q.f3] : List Value).toArray 28 (0, 0))] :: [(g6745q, .cells ([.int .i64 r6732q.f0, .int .i64 r6732q.f1, .int .i64 r6732q.f2, .int .i64 r6732q.f3] : List Value).toArray 28 (0, 0))] :: [(g6414q, .cells ([.int .u8 x6434q, .int .u32 x6435q] : List Value).toArray 31 (0, 0))] :: Fs) := hS6838q.drop_
                  have hS6840q : St b w0 W6784q R ([(g6745q, .cells ([.int .i64 r6732q.f0, .int .i64 r6732q.f1, .int .i64 r6732q.f2, .int .i64 r6732q.f3] : List Value).toArray 28 (0, 0))] :: [(g6414q, .cells ([.int .u8 x6434q, .int .u32 x6435q] : List Value).toArray 31 (0, 0))] :: Fs) := hS6839q.drop_
                  have hS6841q : St b w0 W6784q R ([(g6414q, .cells ([.int .u8 x6434q, .int .u32 x6435q] : List Value).toArray 31 (0, 0))] :: Fs) := hS6840q.drop_
                  have hS6842q : St b w0 W6784q R (Fs) := hS6841q.drop_
                  obtain rfl := Option.some.inj H
                  repeat (first | refine then_ret ?_ | refine inBlock_ret ?_ | refine inBlock_go ?_)
                  refine body_ret (v := .bool false) h6836q (by kernel_rfl) (by kernel_rfl) ?_
                  exact ⟨rfl, hS6842q⟩
              · rw [if_neg c6788q] at H
                have hb_ : r6733q = false := (Bool.eq_false_iff.2 c6788q)
                try rw [hb_] at h6787q
                clear hb_
                refine WL.skipped (m := 2) h6787q rfl rfl (by kernel_rfl) rfl (fun a6843q h6844q => ?_)
                clear h6787q a6786q
                refine WL.skipped (m := 3) h6844q rfl rfl (by kernel_rfl) rfl (fun a6845q h6846q => ?_)
                clear h6844q a6843q
                refine WL.skipped (m := 4) h6846q rfl rfl (by kernel_rfl) rfl (fun a6847q h6848q => ?_)
                clear h6846q a6845q
                refine WL.block (c := 2) (m' := 7) h6848q rfl [(56, .bool false), (55, .bool false)] (by kernel_rfl) (fun a6849q h6850q => ?_)
                clear h6848q a6847q
                refine WL.op' (m := 7) h6850q rfl rfl (owp_run h6850q rfl (by kernel_rfl) (v := .bool false) (by kernel_rfl) (fun a6851q h6852q => ?_))
                clear h6850q a6849q
                refine WL.op' (m := 8) h6852q rfl rfl (owp_run h6852q rfl (by kernel_rfl) (v := .bool true) (by kernel_rfl) (fun a6853q h6854q => ?_))
                clear h6852q a6851q
                refine WL.op' (m := 9) h6854q rfl rfl (owp_run h6854q rfl (by kernel_rfl) (v := .bool true) (by kernel_rfl) (fun a6855q h6856q => ?_))
                clear h6854q a6853q
                refine WL.op' (m := 10) h6856q rfl rfl ?_
                refine owp_run (v := .agg #[.int .u8 r6767q.f0, .int .u32 r6767q.f1]) h6856q rfl (by kernel_rfl) (run_loadN rfl rfl Try.underlying31 rfl (cs := ([.int .u8 r6767q.f0, .int .u32 r6767q.f1] : List Value)) (by kernel_rfl) (hS6785q.cells (vs := ([.int .u8 r6767q.f0, .int .u32 r6767q.f1] : List Value)) rfl)) (fun a6857q h6858q => ?_)
                clear h6856q a6855q
                have hS6859q : St b w0 W6784q R ([(g6414q, .cells ([.int .u8 x6434q, .int .u32 x6435q] : List Value).toArray 31 (0, 0))] :: [(g6780q, .cells ([.int .u8 r6767q.f0, .int .u32 r6767q.f1] : List Value).toArray 31 (0, 0))] :: M6774q :: [(g6484q, .cells ([.int .i64 ((gt z33 p2 x6462q).f0), .int .i64 ((gt z33 p2 x6462q).f1), .int .u32 ((gt z33 p2 x6462q).f2), .int .u32 ((gt z33 p2 x6462q).f3)] : List Value).toArray 33 (0, 0))] :: [(g6403q, .cells ([.int .i64 r6732q.f0, .int .i64 r6732q.f1, .int .i64 r6732q.f2, .int .i64 r6732q.f3] : List Value).toArray 28 (0, 0))] :: [(g6745q, .cells ([.int .i64 r6732q.f0, .int .i64 r6732q.f1, .int .i64 r6732q.f2, .int .i64 r6732q.f3] : List Value).toArray 28 (0, 0))] :: Fs) := hS6785q.bring 5 rfl rfl
                refine WL.op' (m := 11) h6858q rfl rfl ?_
                refine owp_run (v := .agg #[.int .u8 x6434q, .int .u32 x6435q]) h6858q rfl (by kernel_rfl) (run_loadN rfl rfl Try.underlying31 rfl (cs := ([.int .u8 x6434q, .int .u32 x6435q] : List Value)) (by kernel_rfl) (hS6859q.cells (vs := ([.int .u8 x6434q, .int .u32 x6435q] : List Value)) rfl)) (fun a6860q h6861q => ?_)
                clear h6858q a6857q
                refine WL.op' (m := 12) h6861q rfl rfl ?_
                refine owp_run (v := .bool (!(decide (r6767q.f0 = x6434q) && decide (r6767q.f1 = x6435q)))) h6861q rfl (by kernel_rfl) (run_stne (xs := [.int .u8 r6767q.f0, .int .u32 r6767q.f1]) (ys := [.int .u8 x6434q, .int .u32 x6435q]) rfl rfl rfl (by kernel_rfl) (eqs_of Try.underlying31 (by kernel_rfl) (eqf_cons rfl (by kernel_rfl) rfl rfl (eqi_int Try.underlying5) (eqf_last rfl (by kernel_rfl) rfl rfl (eqi_int Try.underlying22))))) (fun a6862q h6863q => ?_)
                clear h6861q a6860q
                refine WL.op' (m := 13) h6863q rfl rfl (owp_run h6863q rfl (by kernel_rfl) (v := .bool (!(decide (r6767q.f0 = x6434q) && decide (r6767q.f1 = x6435q)))) (by kernel_rfl) (fun a6864q h6865q => ?_))
                clear h6863q a6862q
                refine WL.block (c := 1) (m' := 15) h6865q rfl [(64, .bool (!(decide (r6767q.f0 = x6434q) && decide (r6767q.f1 = x6435q))))] (by kernel_rfl) (fun a6866q h6867q => ?_)
                clear h6865q a6864q
                refine WL.done (by kernel_rfl) ?_
                by_cases c6868q : (decide (r6767q.f0 = x6434q) && decide (r6767q.f1 = x6435q)) = true
                · rw [if_pos c6868q] at H
                  have hb_ : (decide (r6767q.f0 = x6434q) && decide (r6767q.f1 = x6435q)) = true := c6868q
                  try rw [hb_] at h6867q
                  clear hb_
                  refine wp_else h6867q rfl ?_
                  refine wp_skip ?_
                  have hS6869q : St b w0 W6784q R ([(g6780q, .cells ([.int .u8 r6767q.f0, .int .u32 r6767q.f1] : List Value).toArray 31 (0, 0))] :: [(g6414q, .cells ([.int .u8 x6434q, .int .u32 x6435q] : List Value).toArray 31 (0, 0))] :: M6774q :: [(g6484q, .cells ([.int .i64 ((gt z33 p2 x6462q).f0), .int .i64 ((gt z33 p2 x6462q).f1), .int .u32 ((gt z33 p2 x6462q).f2), .int .u32 ((gt z33 p2 x6462q).f3)] : List Value).toArray 33 (0, 0))] :: [(g6403q, .cells ([.int .i64 r6732q.f0, .int .i64 r6732q.f1, .int .i64 r6732q.f2, .int .i64 r6732q.f3] : List Value).toArray 28 (0, 0))] :: [(g6745q, .cells ([.int .i64 r6732q.f0, .int .i64 r6732q.f1, .int .i64 r6732q.f2, .int .i64 r6732q.f3] : List Value).toArray 28 (0, 0))] :: Fs) := hS6859q.bring 1 rfl rfl
                  have hS6870q : St b w0 W6784q R ([(g6414q, .cells ([.int .u8 x6434q, .int .u32 x6435q] : List Value).toArray 31 (0, 0))] :: M6774q :: [(g6484q, .cells ([.int .i64 ((gt z33 p2 x6462q).f0), .int .i64 ((gt z33 p2 x6462q).f1), .int .u32 ((gt z33 p2 x6462q).f2), .int .u32 ((gt z33 p2 x6462q).f3)] : List Value).toArray 33 (0, 0))] :: [(g6403q, .cells ([.int .i64 r6732q.f0, .int .i64 r6732q.f1, .int .i64 r6732q.f2, .int .i64 r6732q.f3] : List Value).toArray 28 (0, 0))] :: [(g6745q, .cells ([.int .i64 r6732q.f0, .int .i64 r6732q.f1, .int .i64 r6732q.f2, .int .i64 r6732q.f3] : List Value).toArray 28 (0, 0))] :: Fs) := hS6869q.drop_
                  have hS6871q : St b w0 W6784q R ([(g6484q, .cells ([.int .i64 ((gt z33 p2 x6462q).f0), .int .i64 ((gt z33 p2 x6462q).f1), .int .u32 ((gt z33 p2 x6462q).f2), .int .u32 ((gt z33 p2 x6462q).f3)] : List Value).toArray 33 (0, 0))] :: [(g6414q, .cells ([.int .u8 x6434q, .int .u32 x6435q] : List Value).toArray 31 (0, 0))] :: M6774q :: [(g6403q, .cells ([.int .i64 r6732q.f0, .int .i64 r6732q.f1, .int .i64 r6732q.f2, .int .i64 r6732q.f3] : List Value).toArray 28 (0, 0))] :: [(g6745q, .cells ([.int .i64 r6732q.f0, .int .i64 r6732q.f1, .int .i64 r6732q.f2, .int .i64 r6732q.f3] : List Value).toArray 28 (0, 0))] :: Fs) := hS6870q.bring 2 rfl rfl
                  have hS6872q : St b w0 W6784q R ([(g6414q, .cells ([.int .u8 x6434q, .int .u32 x6435q] : List Value).toArray 31 (0, 0))] :: M6774q :: [(g6403q, .cells ([.int .i64 r6732q.f0, .int .i64 r6732q.f1, .int .i64 r6732q.f2, .int .i64 r6732q.f3] : List Value).toArray 28 (0, 0))] :: [(g6745q, .cells ([.int .i64 r6732q.f0, .int .i64 r6732q.f1, .int .i64 r6732q.f2, .int .i64 r6732q.f3] : List Value).toArray 28 (0, 0))] :: Fs) := hS6871q.drop_
                  have hS6873q : St b w0 W6784q R ([(g6745q, .cells ([.int .i64 r6732q.f0, .int .i64 r6732q.f1, .int .i64 r6732q.f2, .int .i64 r6732q.f3] : List Value).toArray 28 (0, 0))] :: [(g6414q, .cells ([.int .u8 x6434q, .int .u32 x6435q] : List Value).toArray 31 (0, 0))] :: M6774q :: [(g6403q, .cells ([.int .i64 r6732q.f0, .int .i64 r6732q.f1, .int .i64 r6732q.f2, .int .i64 r6732q.f3] : List Value).toArray 28 (0, 0))] :: Fs) := hS6872q.bring 3 rfl rfl
                  have hS6874q : St b w0 W6784q R ([(g6414q, .cells ([.int .u8 x6434q, .int .u32 x6435q] : List Value).toArray 31 (0, 0))] :: M6774q :: [(g6403q, .cells ([.int .i64 r6732q.f0, .int .i64 r6732q.f1, .int .i64 r6732q.f2, .int .i64 r6732q.f3] : List Value).toArray 28 (0, 0))] :: Fs) := hS6873q.drop_
                  have hS6875q : St b w0 W6784q R ([(g6403q, .cells ([.int .i64 r6732q.f0, .int .i64 r6732q.f1, .int .i64 r6732q.f2, .int .i64 r6732q.f3] : List Value).toArray 28 (0, 0))] :: [(g6414q, .cells ([.int .u8 x6434q, .int .u32 x6435q] : List Value).toArray 31 (0, 0))] :: M6774q :: Fs) := hS6874q.bring 2 rfl rfl
                  have hS6876q : St b w0 W6784q R (M6774q :: [(g6403q, .cells ([.int .i64 r6732q.f0, .int .i64 r6732q.f1, .int .i64 r6732q.f2, .int .i64 r6732q.f3] : List Value).toArray 28 (0, 0))] :: [(g6414q, .cells ([.int .u8 x6434q, .int .u32 x6435q] : List Value).toArray 31 (0, 0))] :: Fs) := hS6875q.bring 2 rfl rfl
                  exact ⟨k6463q, r6768q, M6774q, r6732q.f0, r6732q.f1, r6732q.f2, r6732q.f3, h6867q.keep ⟨rfl, rfl, rfl, rfl, rfl, rfl, trivial⟩, ⟨H⟩, ⟨Nat.le_refl _⟩, ⟨hS6876q⟩, ⟨hr6775q⟩⟩
                · rw [if_neg c6868q] at H
                  have hb_ : (decide (r6767q.f0 = x6434q) && decide (r6767q.f1 = x6435q)) = false := (Bool.eq_false_iff.2 c6868q)
                  try rw [hb_] at h6867q
                  clear hb_
                  refine wp_then h6867q rfl ?_
                  refine wp_seq ?_
                  refine WL.start ?_
                  refine WL.block (c := 1) (m' := 1) h6867q rfl [(6, .bool false)] (by kernel_rfl) (fun a6877q h6878q => ?_)
                  clear h6867q a6866q
                  refine WL.done (by kernel_rfl) ?_
                  refine wp_ret ?_
                  have hS6879q : St b w0 W6784q R ([(g6780q, .cells ([.int .u8 r6767q.f0, .int .u32 r6767q.f1] : List Value).toArray 31 (0, 0))] :: M6774q :: [(g6484q, .cells ([.int .i64 ((gt z33 p2 x6462q).f0), .int .i64 ((gt z33 p2 x6462q).f1), .int .u32 ((gt z33 p2 x6462q).f2), .int .u32 ((gt z33 p2 x6462q).f3)] : List Value).toArray 33 (0, 0))] :: [(g6403q, .cells ([.int .i64 r6732q.f0, .int .i64 r6732q.f1, .int .i64 r6732q.f2, .int .i64 r6732q.f3] : List Value).toArray 28 (0, 0))] :: [(g6745q, .cells ([.int .i64 r6732q.f0, .int .i64 r6732q.f1, .int .i64 r6732q.f2, .int .i64 r6732q.f3] : List Value).toArray 28 (0, 0))] :: Fs) := hS6859q.drop_
                  have hS6880q : St b w0 W6784q R (M6774q :: [(g6484q, .cells ([.int .i64 ((gt z33 p2 x6462q).f0), .int .i64 ((gt z33 p2 x6462q).f1), .int .u32 ((gt z33 p2 x6462q).f2), .int .u32 ((gt z33 p2 x6462q).f3)] : List Value).toArray 33 (0, 0))] :: [(g6403q, .cells ([.int .i64 r6732q.f0, .int .i64 r6732q.f1, .int .i64 r6732q.f2, .int .i64 r6732q.f3] : List Value).toArray 28 (0, 0))] :: [(g6745q, .cells ([.int .i64 r6732q.f0, .int .i64 r6732q.f1, .int .i64 r6732q.f2, .int .i64 r6732q.f3] : List Value).toArray 28 (0, 0))] :: Fs) := hS6879q.drop_
                  have hS6881q : St b w0 W6784q R ([(g6484q, .cells ([.int .i64 ((gt z33 p2 x6462q).f0), .int .i64 ((gt z33 p2 x6462q).f1), .int .u32 ((gt z33 p2 x6462q).f2), .int .u32 ((gt z33 p2 x6462q).f3)] : List Value).toArray 33 (0, 0))] :: [(g6403q, .cells ([.int .i64 r6732q.f0, .int .i64 r6732q.f1, .int .i64 r6732q.f2, .int .i64 r6732q.f3] : List Value).toArray 28 (0, 0))] :: [(g6745q, .cells ([.int .i64 r6732q.f0, .int .i64 r6732q.f1, .int .i64 r6732q.f2, .int .i64 r6732q.f3] : List Value).toArray 28 (0, 0))] :: Fs) := hS6880q.drop_
                  have hS6882q : St b w0 W6784q R ([(g6403q, .cells ([.int .i64 r6732q.f0, .int .i64 r6732q.f1, .int .i64 r6732q.f2, .int .i64 r6732q.f3] : List Value).toArray 28 (0, 0))] :: [(g6745q, .cells ([.int .i64 r6732q.f0, .int .i64 r6732q.f1, .int .i64 r6732q.f2, .int .i64 r6732q.f3] : List Value).toArray 28 (0, 0))] :: Fs) := hS6881q.drop_
                  have hS6883q : St b w0 W6784q R ([(g6745q, .cells ([.int .i64 r6732q.f0, .int .i64 r6732q.f1, .int .i64 r6732q.f2, .int .i64 r6732q.f3] : List Value).toArray 28 (0, 0))] :: Fs) := hS6882q.drop_
                  have hS6884q : St b w0 W6784q R (Fs) := hS6883q.drop_
                  obtain rfl := Option.some.inj H
                  repeat (first | refine then_ret ?_ | refine inBlock_ret ?_ | refine inBlock_go ?_)
                  refine body_ret (v := .bool false) h6878q (by kernel_rfl) (by kernel_rfl) ?_
                  exact ⟨rfl, hS6884q⟩
            · rw [if_neg c6722q] at H
              have hb_ : (decide (((gt z33 p2 x6462q).f0) = 0)) = false := decide_eq_false c6722q
              try rw [hb_] at h6495q
              clear hb_
              refine wp_else h6495q rfl ?_
              refine wp_seq ?_
              refine WL.start ?_
              have hS6885q : St b w0 W6488q R ([(g6403q, .cells ([.int .i64 x6458q, .int .i64 x6459q, .int .i64 x6460q, .int .i64 x6461q] : List Value).toArray 28 (0, 0))] :: [(g6484q, .cells ([.int .i64 ((gt z33 p2 x6462q).f0), .int .i64 ((gt z33 p2 x6462q).f1), .int .u32 ((gt z33 p2 x6462q).f2), .int .u32 ((gt z33 p2 x6462q).f3)] : List Value).toArray 33 (0, 0))] :: M6456q :: [(g6414q, .cells ([.int .u8 x6434q, .int .u32 x6435q] : List Value).toArray 31 (0, 0))] :: Fs) := hS6489q.bring 2 rfl rfl
              refine WL.op' (m := 0) h6495q rfl rfl ?_
              refine owp_run (v := .agg #[.int .i64 x6458q, .int .i64 x6459q, .int .i64 x6460q, .int .i64 x6461q]) h6495q rfl (by kernel_rfl) (run_loadN rfl rfl Try.underlying28 rfl (cs := ([.int .i64 x6458q, .int .i64 x6459q, .int .i64 x6460q, .int .i64 x6461q] : List Value)) (by kernel_rfl) (hS6885q.cells (vs := ([.int .i64 x6458q, .int .i64 x6459q, .int .i64 x6460q, .int .i64 x6461q] : List Value)) rfl)) (fun a6886q h6887q => ?_)
              clear h6495q a6494q
              refine WL.block (c := 1) (m' := 2) h6887q rfl [(67, .pointer (some ⟨g6484q, 1, none⟩))] (by kernel_rfl) (fun a6888q h6889q => ?_)
              clear h6887q a6886q
              have hS6890q : St b w0 W6488q R ([(g6484q, .cells ([.int .i64 ((gt z33 p2 x6462q).f0), .int .i64 ((gt z33 p2 x6462q).f1), .int .u32 ((gt z33 p2 x6462q).f2), .int .u32 ((gt z33 p2 x6462q).f3)] : List Value).toArray 33 (0, 0))] :: [(g6403q, .cells ([.int .i64 x6458q, .int .i64 x6459q, .int .i64 x6460q, .int .i64 x6461q] : List Value).toArray 28 (0, 0))] :: M6456q :: [(g6414q, .cells ([.int .u8 x6434q, .int .u32 x6435q] : List Value).toArray 31 (0, 0))] :: Fs) := hS6885q.bring 1 rfl rfl
              refine WL.op' (m := 2) h6889q rfl rfl ?_
              refine owp_run (v := .int .i64 ((gt z33 p2 x6462q).f1)) h6889q rfl (by kernel_rfl) (run_load1 rfl rfl Try.underlying3 rfl (hS6890q.cell (i := 1) rfl)) (fun a6891q h6892q => ?_)
              clear h6889q a6888q
              obtain ⟨r6894q, r6895q, A6893q, H⟩ := bind2 H
              refine WL.op' (m := 3) h6892q rfl rfl ?_
              refine owp_call [.agg #[.int .i64 x6458q, .int .i64 x6459q, .int .i64 x6460q, .int .i64 x6461q], .int .i64 ((gt z33 p2 x6462q).f1)] h6892q rfl (by kernel_rfl) rfl Try.func14 (by kernel_rfl) rfl (by kernel_rfl) (louverref10qM_Use.calls (p0 := (⟨x6458q, x6459q, x6460q, x6461q⟩ : S28)) k6463q  A6893q hS6890q) (fun e6897q W6896q hp6898q => ?_)
              obtain ⟨rfl, hS6901q⟩ := hp6898q
              refine ⟨_, rfl, fun a6899q h6900q => ?_⟩
              clear h6892q a6891q
              refine WL.block (c := 3) (m' := 7) h6900q rfl [(71, .int .i64 r6895q), (70, .agg #[.int .i64 r6894q.f0, .int .i64 r6894q.f1, .int .i64 r6894q.f2, .int .i64 r6894q.f3]), (65, .tuple #[.agg #[.int .i64 r6894q.f0, .int .i64 r6894q.f1, .int .i64 r6894q.f2, .int .i64 r6894q.f3], .int .i64 r6895q])] (by kernel_rfl) (fun a6902q h6903q => ?_)
              clear h6900q a6899q
              refine WL.op' (m := 7) h6903q rfl rfl ?_
              refine owp_new (fun g_ => .pointer (some ⟨g_, 0, none⟩)) (.cells ([.int .i64 0, .int .i64 0, .int .i64 0, .int .i64 0] : List Value).toArray 28 (0, 0)) h6903q rfl (by kernel_rfl) (by kernel_rfl) hS6901q (fun a6904q W6906q g6907q h6905q hS6908q => ?_)
              clear h6903q a6902q
              refine WL.op' (m := 8) h6905q rfl rfl ?_
              refine owp_store (i := 0) (vs := ([.int .i64 r6894q.f0, .int .i64 r6894q.f1, .int .i64 r6894q.f2, .int .i64 r6894q.f3] : List Value)) h6905q rfl (by kernel_rfl) rfl rfl rfl rfl (by simp [Value.oneCell']) (by kernel_rfl) hS6908q (by simp) (cs' := ([.int .i64 r6894q.f0, .int .i64 r6894q.f1, .int .i64 r6894q.f2, .int .i64 r6894q.f3] : List Value)) rfl (fun a6909q W6911q h6910q hS6912q => ?_)
              clear h6905q a6904q
              refine WL.block (c := 1) (m' := 10) h6910q rfl [(16, .int .i64 r6895q)] (by kernel_rfl) (fun a6913q h6914q => ?_)
              clear h6910q a6909q
              refine WL.done (by kernel_rfl) ?_
              refine wp_seq ?_
              refine WL.start ?_
              refine WL.op' (m := 0) h6914q rfl rfl ?_
              refine owp_run (v := .agg #[.int .i64 r6894q.f0, .int .i64 r6894q.f1, .int .i64 r6894q.f2, .int .i64 r6894q.f3]) h6914q rfl (by kernel_rfl) (run_loadN rfl rfl Try.underlying28 rfl (cs := ([.int .i64 r6894q.f0, .int .i64 r6894q.f1, .int .i64 r6894q.f2, .int .i64 r6894q.f3] : List Value)) (by kernel_rfl) (hS6912q.cells (vs := ([.int .i64 r6894q.f0, .int .i64 r6894q.f1, .int .i64 r6894q.f2, .int .i64 r6894q.f3] : List Value)) rfl)) (fun a6915q h6916q => ?_)
              clear h6914q a6913q
              have hS6917q : St b w0 W6911q R ([(g6403q, .cells ([.int .i64 x6458q, .int .i64 x6459q, .int .i64 x6460q, .int .i64 x6461q] : List Value).toArray 28 (0, 0))] :: [(g6907q, .cells ([.int .i64 r6894q.f0, .int .i64 r6894q.f1, .int .i64 r6894q.f2, .int .i64 r6894q.f3] : List Value).toArray 28 (0, 0))] :: [(g6484q, .cells ([.int .i64 ((gt z33 p2 x6462q).f0), .int .i64 ((gt z33 p2 x6462q).f1), .int .u32 ((gt z33 p2 x6462q).f2), .int .u32 ((gt z33 p2 x6462q).f3)] : List Value).toArray 33 (0, 0))] :: M6456q :: [(g6414q, .cells ([.int .u8 x6434q, .int .u32 x6435q] : List Value).toArray 31 (0, 0))] :: Fs) := hS6912q.bring 2 rfl rfl
              refine WL.op' (m := 1) h6916q rfl rfl ?_
              refine owp_store (i := 0) (vs := ([.int .i64 r6894q.f0, .int .i64 r6894q.f1, .int .i64 r6894q.f2, .int .i64 r6894q.f3] : List Value)) h6916q rfl (by kernel_rfl) rfl rfl rfl rfl (by simp [Value.oneCell']) (by kernel_rfl) hS6917q (by simp) (cs' := ([.int .i64 r6894q.f0, .int .i64 r6894q.f1, .int .i64 r6894q.f2, .int .i64 r6894q.f3] : List Value)) rfl (fun a6918q W6920q h6919q hS6921q => ?_)
              clear h6916q a6915q
              refine WL.done (by kernel_rfl) ?_
              refine wp_seq ?_
              refine WL.start ?_
              refine WL.block (c := 2) (m' := 2) h6919q rfl [(74, .pointer (some ⟨g6484q, 1, none⟩)), (73, v6384q)] (by kernel_rfl) (fun a6922q h6923q => ?_)
              clear h6919q a6918q
              have hS6924q : St b w0 W6920q R ([(g6484q, .cells ([.int .i64 ((gt z33 p2 x6462q).f0), .int .i64 ((gt z33 p2 x6462q).f1), .int .u32 ((gt z33 p2 x6462q).f2), .int .u32 ((gt z33 p2 x6462q).f3)] : List Value).toArray 33 (0, 0))] :: [(g6403q, .cells ([.int .i64 r6894q.f0, .int .i64 r6894q.f1, .int .i64 r6894q.f2, .int .i64 r6894q.f3] : List Value).toArray 28 (0, 0))] :: [(g6907q, .cells ([.int .i64 r6894q.f0, .int .i64 r6894q.f1, .int .i64 r6894q.f2, .int .i64 r6894q.f3] : List Value).toArray 28 (0, 0))] :: M6456q :: [(g6414q, .cells ([.int .u8 x6434q, .int .u32 x6435q] : List Value).toArray 31 (0, 0))] :: Fs) := hS6921q.bring 2 rfl rfl
              refine WL.op' (m := 2) h6923q rfl rfl ?_
              refine owp_run (v := .int .i64 ((gt z33 p2 x6462q).f1)) h6923q rfl (by kernel_rfl) (run_load1 rfl rfl Try.underlying3 rfl (hS6924q.cell (i := 1) rfl)) (fun a6925q h6926q => ?_)
              clear h6923q a6922q
              have hS6927q : St b w0 W6920q R (M6456q :: [(g6484q, .cells ([.int .i64 ((gt z33 p2 x6462q).f0), .int .i64 ((gt z33 p2 x6462q).f1), .int .u32 ((gt z33 p2 x6462q).f2), .int .u32 ((gt z33 p2 x6462q).f3)] : List Value).toArray 33 (0, 0))] :: [(g6403q, .cells ([.int .i64 r6894q.f0, .int .i64 r6894q.f1, .int .i64 r6894q.f2, .int .i64 r6894q.f3] : List Value).toArray 28 (0, 0))] :: [(g6907q, .cells ([.int .i64 r6894q.f0, .int .i64 r6894q.f1, .int .i64 r6894q.f2, .int .i64 r6894q.f3] : List Value).toArray 28 (0, 0))] :: [(g6414q, .cells ([.int .u8 x6434q, .int .u32 x6435q] : List Value).toArray 31 (0, 0))] :: Fs) := hS6924q.bring 3 rfl rfl
              obtain ⟨r6929q, r6930q, A6928q, H⟩ := bind2 H
              refine WL.op' (m := 3) h6926q rfl rfl ?_
              refine owp_call [v6384q, .int .i64 ((gt z33 p2 x6462q).f1)] h6926q rfl (by kernel_rfl) rfl Try.func15 (by kernel_rfl) rfl (by kernel_rfl) (window_Meter_Use.calls hr6457q A6928q hS6927q) (fun e6932q W6931q hp6933q => ?_)
              obtain ⟨M6936q, rfl, hr6937q, hS6938q⟩ := hp6933q
              refine ⟨_, rfl, fun a6934q h6935q => ?_⟩
              clear h6926q a6925q
              refine WL.block (c := 3) (m' := 7) h6935q rfl [(79, .bool (!decide ((IntKind.i64.wrap r6929q) = r6895q))), (78, .int .i64 r6895q), (77, .int .i64 (IntKind.i64.wrap r6929q))] (by kernel_rfl) (fun a6939q h6940q => ?_)
              clear h6935q a6934q
              refine WL.done (by kernel_rfl) ?_
              by_cases c6941q : (IntKind.i64.wrap r6929q) = r6895q
              · rw [if_pos c6941q] at H
                have hb_ : (decide ((IntKind.i64.wrap r6929q) = r6895q)) = true := decide_eq_true c6941q
                try rw [hb_] at h6940q
                clear hb_
                refine wp_else h6940q rfl ?_
                refine wp_skip ?_
                have hS6942q : St b w0 W6931q R ([(g6484q, .cells ([.int .i64 ((gt z33 p2 x6462q).f0), .int .i64 ((gt z33 p2 x6462q).f1), .int .u32 ((gt z33 p2 x6462q).f2), .int .u32 ((gt z33 p2 x6462q).f3)] : List Value).toArray 33 (0, 0))] :: M6936q :: [(g6403q, .cells ([.int .i64 r6894q.f0, .int .i64 r6894q.f1, .int .i64 r6894q.f2, .int .i64 r6894q.f3] : List Value).toArray 28 (0, 0))] :: [(g6907q, .cells ([.int .i64 r6894q.f0, .int .i64 r6894q.f1, .int .i64 r6894q.f2, .int .i64 r6894q.f3] : List Value).toArray 28 (0, 0))] :: [(g6414q, .cells ([.int .u8 x6434q, .int .u32 x6435q] : List Value).toArray 31 (0, 0))] :: Fs) := hS6938q.bring 1 rfl rfl
                have hS6943q : St b w0 W6931q R (M6936q :: [(g6403q, .cells ([.int .i64 r6894q.f0, .int .i64 r6894q.f1, .int .i64 r6894q.f2, .int .i64 r6894q.f3] : List Value).toArray 28 (0, 0))] :: [(g6907q, .cells ([.int .i64 r6894q.f0, .int .i64 r6894q.f1, .int .i64 r6894q.f2, .int .i64 r6894q.f3] : List Value).toArray 28 (0, 0))] :: [(g6414q, .cells ([.int .u8 x6434q, .int .u32 x6435q] : List Value).toArray 31 (0, 0))] :: Fs) := hS6942q.drop_
                have hS6944q : St b w0 W6931q R ([(g6907q, .cells ([.int .i64 r6894q.f0, .int .i64 r6894q.f1, .int .i64 r6894q.f2, .int .i64 r6894q.f3] : List Value).toArray 28 (0, 0))] :: M6936q :: [(g6403q, .cells ([.int .i64 r6894q.f0, .int .i64 r6894q.f1, .int .i64 r6894q.f2, .int .i64 r6894q.f3] : List Value).toArray 28 (0, 0))] :: [(g6414q, .cells ([.int .u8 x6434q, .int .u32 x6435q] : List Value).toArray 31 (0, 0))] :: Fs) := hS6943q.bring 2 rfl rfl
                have hS6945q : St b w0 W6931q R (M6936q :: [(g6403q, .cells ([.int .i64 r6894q.f0, .int .i64 r6894q.f1, .int .i64 r6894q.f2, .int .i64 r6894q.f3] : List Value).toArray 28 (0, 0))] :: [(g6414q, .cells ([.int .u8 x6434q, .int .u32 x6435q] : List Value).toArray 31 (0, 0))] :: Fs) := hS6944q.drop_
                exact ⟨k6463q, r6930q, M6936q, r6894q.f0, r6894q.f1, r6894q.f2, r6894q.f3, h6940q.keep ⟨rfl, rfl, rfl, rfl, rfl, rfl, trivial⟩, ⟨H⟩, ⟨Nat.le_refl _⟩, ⟨hS6945q⟩, ⟨hr6937q⟩⟩
              · rw [if_neg c6941q] at H
                have hb_ : (decide ((IntKind.i64.wrap r6929q) = r6895q)) = false := decide_eq_false c6941q
                try rw [hb_] at h6940q
                clear hb_
                refine wp_then h6940q rfl ?_
                refine wp_seq ?_
                refine WL.start ?_
                refine WL.block (c := 1) (m' := 1) h6940q rfl [(6, .bool false)] (by kernel_rfl) (fun a6946q h6947q => ?_)
                clear h6940q a6939q
                refine WL.done (by kernel_rfl) ?_
                refine wp_ret ?_
                have hS6948q : St b w0 W6931q R ([(g6484q, .cells ([.int .i64 ((gt z33 p2 x6462q).f0), .int .i64 ((gt z33 p2 x6462q).f1), .int .u32 ((gt z33 p2 x6462q).f2), .int .u32 ((gt z33 p2 x6462q).f3)] : List Value).toArray 33 (0, 0))] :: [(g6403q, .cells ([.int .i64 r6894q.f0, .int .i64 r6894q.f1, .int .i64 r6894q.f2, .int .i64 r6894q.f3] : List Value).toArray 28 (0, 0))] :: [(g6907q, .cells ([.int .i64 r6894q.f0, .int .i64 r6894q.f1, .int .i64 r6894q.f2, .int .i64 r6894q.f3] : List Value).toArray 28 (0, 0))] :: [(g6414q, .cells ([.int .u8 x6434q, .int .u32 x6435q] : List Value).toArray 31 (0, 0))] :: Fs) := hS6938q.drop_
                have hS6949q : St b w0 W6931q R ([(g6403q, .cells ([.int .i64 r6894q.f0, .int .i64 r6894q.f1, .int .i64 r6894q.f2, .int .i64 r6894q.f3] : List Value).toArray 28 (0, 0))] :: [(g6907q, .cells ([.int .i64 r6894q.f0, .int .i64 r6894q.f1, .int .i64 r6894q.f2, .int .i64 r6894q.f3] : List Value).toArray 28 (0, 0))] :: [(g6414q, .cells ([.int .u8 x6434q, .int .u32 x6435q] : List Value).toArray 31 (0, 0))] :: Fs) := hS6948q.drop_
                have hS6950q : St b w0 W6931q R ([(g6907q, .cells ([.int .i64 r6894q.f0, .int .i64 r6894q.f1, .int .i64 r6894q.f2, .int .i64 r6894q.f3] : List Value).toArray 28 (0, 0))] :: [(g6414q, .cells ([.int .u8 x6434q, .int .u32 x6435q] : List Value).toArray 31 (0, 0))] :: Fs) := hS6949q.drop_
                have hS6951q : St b w0 W6931q R ([(g6414q, .cells ([.int .u8 x6434q, .int .u32 x6435q] : List Value).toArray 31 (0, 0))] :: Fs) := hS6950q.drop_
                have hS6952q : St b w0 W6931q R (Fs) := hS6951q.drop_
                obtain rfl := Option.some.inj H
                repeat (first | refine then_ret ?_ | refine inBlock_ret ?_ | refine inBlock_go ?_)
                refine body_ret (v := .bool false) h6947q (by kernel_rfl) (by kernel_rfl) ?_
                exact ⟨rfl, hS6952q⟩
          · clear H hS6489q
            rintro a6711q W6712q ⟨k6714q, x6715q, M6716q, x6718q, x6719q, x6720q, x6721q, h6710q, ⟨H⟩, ⟨hkk6714q⟩, ⟨hS6713q⟩, ⟨hr6717q⟩⟩
            obtain _ | k6953q := k6714q
            · exact absurd H (by simp [louverlaw10qWindowMeters.j2])
            simp only [louverlaw10qWindowMeters.j2] at H
            refine wp_seq ?_
            refine WH.start (fun w_ => (w_.cell? ⟨g6403q, 1, none⟩ = some (.int .i64 x6719q)) ∧ (w_.cell? ⟨g6403q, 2, none⟩ = some (.int .i64 x6720q)) ∧ (w_.cell? ⟨g6403q, 0, none⟩ = some (.int .i64 x6718q)) ∧ True) (by kernel_rfl) #[false, false, false, false, false, false, false, false, false, false, false, false, false, false, false, false, false, false, false, false, false, false, false, false, false, false, false, false, false, false, false, false, false, false] 34 rfl rfl ?_
            have hS7490q := hS6713q.drew
            refine WH.take 0 (listed' := #[true, false, false, false, false, false, false, false, false, false, false, false, false, false, false, false, false, false, false, false, false, false, false, false, false, false, false, false, false, false, false, false, false, false]) h6710q rfl rfl (by kernel_rfl) rfl rfl (v6384q) (fun _ _ => by kernel_rfl) ⟨((hS7490q.bring 1 rfl rfl).cell (i := 1) rfl), ((hS7490q.bring 1 rfl rfl).cell (i := 2) rfl), ((hS7490q.bring 1 rfl rfl).cell (i := 0) rfl), trivial⟩ (fun _ _ _ h_ => h_) (fun a7491q h7492q => ?_)
            clear h6710q a6711q
            refine WH.take 2 (listed' := #[true, false, true, false, false, false, false, false, false, false, false, false, false, false, false, false, false, false, false, false, false, false, false, false, false, false, false, false, false, false, false, false, false, false]) h7492q rfl rfl (by kernel_rfl) rfl rfl (.pointer (some ⟨g6403q, 1, none⟩)) (fun _ _ => by kernel_rfl) ⟨((hS7490q.bring 1 rfl rfl).cell (i := 1) rfl), ((hS7490q.bring 1 rfl rfl).cell (i := 2) rfl), ((hS7490q.bring 1 rfl rfl).cell (i := 0) rfl), trivial⟩ (fun _ _ _ h_ => h_) (fun a7493q h7494q => ?_)
            clear h7492q a7491q
            refine WH.take 3 (listed' := #[true, false, true, true, false, false, false, false, false, false, false, false, false, false, false, false, false, false, false, false, false, false, false, false, false, false, false, false, false, false, false, false, false, false]) h7494q rfl rfl (by kernel_rfl) rfl rfl (.int .i64 x6719q) (fun w_ hs_ => (run_load1 rfl rfl Try.underlying2 rfl hs_.1)) ⟨((hS7490q.bring 1 rfl rfl).cell (i := 1) rfl), ((hS7490q.bring 1 rfl rfl).cell (i := 2) rfl), ((hS7490q.bring 1 rfl rfl).cell (i := 0) rfl), trivial⟩ (fun _ _ _ h_ => h_) (fun a7495q h7496q => ?_)
            clear h7494q a7493q
            obtain ⟨r7498q, A7497q, H⟩ := bind1 H
            refine WH.op 1 (listed' := #[true, true, true, true, false, false, false, false, false, false, false, false, false, false, false, false, false, false, false, false, false, false, false, false, false, false, false, false, false, false, false, false, false, false]) h7496q rfl (by kernel_rfl) rfl rfl ?_
            refine owp_call [v6384q] h7496q rfl (by kernel_rfl) rfl Try.func16 (by kernel_rfl) rfl (by kernel_rfl) (window_Meter_Left.calls hr6717q A7497q hS7490q) (fun e7500q W7499q hp7501q => ?_)
            obtain ⟨M7504q, rfl, hr7505q, hS7506q⟩ := hp7501q
            refine ⟨_, rfl, fun a7502q h7503q => ?_⟩
            clear h7496q a7495q
            refine ⟨⟨((hS7506q.bring 1 rfl rfl).cell (i := 1) rfl), ((hS7506q.bring 1 rfl rfl).cell (i := 2) rfl), ((hS7506q.bring 1 rfl rfl).cell (i := 0) rfl), trivial⟩, ?_⟩
            refine WH.take 4 (listed' := #[true, true, true, true, true, false, false, false, false, false, false, false, false, false, false, false, false, false, false, false, false, false, false, false, false, false, false, false, false, false, false, false, false, false]) h7503q rfl rfl (by kernel_rfl) rfl rfl (.bool (!decide (r7498q = x6719q))) (fun _ _ => by kernel_rfl) ⟨((hS7506q.bring 1 rfl rfl).cell (i := 1) rfl), ((hS7506q.bring 1 rfl rfl).cell (i := 2) rfl), ((hS7506q.bring 1 rfl rfl).cell (i := 0) rfl), trivial⟩ (fun _ _ _ h_ => h_) (fun a7507q h7508q => ?_)
            clear h7503q a7502q
            refine WH.take 5 (listed' := #[true, true, true, true, true, true, false, false, false, false, false, false, false, false, false, false, false, false, false, false, false, false, false, false, false, false, false, false, false, false, false, false, false, false]) h7508q rfl rfl (by kernel_rfl) rfl rfl (.bool (!decide (r7498q = x6719q))) (fun _ _ => by kernel_rfl) ⟨((hS7506q.bring 1 rfl rfl).cell (i := 1) rfl), ((hS7506q.bring 1 rfl rfl).cell (i := 2) rfl), ((hS7506q.bring 1 rfl rfl).cell (i := 0) rfl), trivial⟩ (fun _ _ _ h_ => h_) (fun a7509q h7510q => ?_)
            clear h7508q a7507q
            by_cases c7511q : r7498q = x6719q
            · rw [if_pos c7511q] at H
              have hb_ : (decide (r7498q = x6719q)) = true := decide_eq_true c7511q
              try rw [hb_] at h7510q
              clear hb_
              refine WH.take 6 (listed' := #[true, true, true, true, true, true, true, false, false, false, false, false, false, false, false, false, false, false, false, false, false, false, false, false, false, false, false, false, false, false, false, false, false, false]) h7510q rfl rfl (by kernel_rfl) rfl rfl (v6384q) (fun _ _ => by kernel_rfl) ⟨((hS7506q.bring 1 rfl rfl).cell (i := 1) rfl), ((hS7506q.bring 1 rfl rfl).cell (i := 2) rfl), ((hS7506q.bring 1 rfl rfl).cell (i := 0) rfl), trivial⟩ (fun _ _ _ h_ => h_) (fun a7512q h7513q => ?_)
              clear h7510q a7509q
              refine WH.take 8 (listed' := #[true, true, true, true, true, true, true, false, true, false, false, false, false, false, false, false, false, false, false, false, false, false, false, false, false, false, false, false, false, false, false, false, false, false]) h7513q rfl rfl (by kernel_rfl) rfl rfl (.pointer (some ⟨g6403q, 2, none⟩)) (fun _ _ => by kernel_rfl) ⟨((hS7506q.bring 1 rfl rfl).cell (i := 1) rfl), ((hS7506q.bring 1 rfl rfl).cell (i := 2) rfl), ((hS7506q.bring 1 rfl rfl).cell (i := 0) rfl), trivial⟩ (fun _ _ _ h_ => h_) (fun a7514q h7515q => ?_)
              clear h7513q a7512q
              refine WH.take 9 (listed' := #[true, true, true, true, true, true, true, false, true, true, false, false, false, false, false, false, false, false, false, false, false, false, false, false, false, false, false, false, false, false, false, false, false, false]) h7515q rfl rfl (by kernel_rfl) rfl rfl (.int .i64 x6720q) (fun w_ hs_ => (run_load1 rfl rfl Try.underlying2 rfl hs_.2.1)) ⟨((hS7506q.bring 1 rfl rfl).cell (i := 1) rfl), ((hS7506q.bring 1 rfl rfl).cell (i := 2) rfl), ((hS7506q.bring 1 rfl rfl).cell (i := 0) rfl), trivial⟩ (fun _ _ _ h_ => h_) (fun a7516q h7517q => ?_)
              clear h7515q a7514q
              obtain ⟨r7519q, A7518q, H⟩ := bind1 H
              refine WH.op 7 (listed' := #[true, true, true, true, true, true, true, true, true, true, false, false, false, false, false, false, false, false, false, false, false, false, false, false, false, false, false, false, false, false, false, false, false, false]) h7517q rfl (by kernel_rfl) rfl rfl ?_
              refine owp_call [v6384q] h7517q rfl (by kernel_rfl) rfl Try.func17 (by kernel_rfl) rfl (by kernel_rfl) (window_Meter_Owed.calls hr7505q A7518q hS7506q) (fun e7521q W7520q hp7522q => ?_)
              obtain ⟨M7525q, rfl, hr7526q, hS7527q⟩ := hp7522q
              refine ⟨_, rfl, fun a7523q h7524q => ?_⟩
              clear h7517q a7516q
              refine ⟨⟨((hS7527q.bring 1 rfl rfl).cell (i := 1) rfl), ((hS7527q.bring 1 rfl rfl).cell (i := 2) rfl), ((hS7527q.bring 1 rfl rfl).cell (i := 0) rfl), trivial⟩, ?_⟩
              refine WH.take 10 (listed' := #[true, true, true, true, true, true, true, true, true, true, true, false, false, false, false, false, false, false, false, false, false, false, false, false, false, false, false, false, false, false, false, false, false, false]) h7524q rfl rfl (by kernel_rfl) rfl rfl (.bool (!decide (r7519q = x6720q))) (fun _ _ => by kernel_rfl) ⟨((hS7527q.bring 1 rfl rfl).cell (i := 1) rfl), ((hS7527q.bring 1 rfl rfl).cell (i := 2) rfl), ((hS7527q.bring 1 rfl rfl).cell (i := 0) rfl), trivial⟩ (fun _ _ _ h_ => h_) (fun a7528q h7529q => ?_)
              clear h7524q a7523q
              refine WH.take 11 (listed' := #[true, true, true, true, true, true, true, true, true, true, true, true, false, false, false, false, false, false, false, false, false, false, false, false, false, false, false, false, false, false, false, false, false, false]) h7529q rfl rfl (by kernel_rfl) rfl rfl (.bool (!decide (r7519q = x6720q))) (fun _ _ => by kernel_rfl) ⟨((hS7527q.bring 1 rfl rfl).cell (i := 1) rfl), ((hS7527q.bring 1 rfl rfl).cell (i := 2) rfl), ((hS7527q.bring 1 rfl rfl).cell (i := 0) rfl), trivial⟩ (fun _ _ _ h_ => h_) (fun a7530q h7531q => ?_)
              clear h7529q a7528q
              refine WH.take 12 (listed' := #[true, true, true, true, true, true, true, true, true, true, true, true, true, false, false, false, false, false, false, false, false, false, false, false, false, false, false, false, false, false, false, false, false, false]) h7531q rfl rfl (by kernel_rfl) rfl rfl (.bool (!decide (r7519q = x6720q))) (fun _ _ => by kernel_rfl) ⟨((hS7527q.bring 1 rfl rfl).cell (i := 1) rfl), ((hS7527q.bring 1 rfl rfl).cell (i := 2) rfl), ((hS7527q.bring 1 rfl rfl).cell (i := 0) rfl), trivial⟩ (fun _ _ _ h_ => h_) (fun a7532q h7533q => ?_)
              clear h7531q a7530q
              by_cases c7534q : r7519q = x6720q
              · rw [if_pos c7534q] at H
                have hb_ : (decide (r7519q = x6720q)) = true := decide_eq_true c7534q
                try rw [hb_] at h7533q
                clear hb_
                refine WH.take 13 (listed' := #[true, true, true, true, true, true, true, true, true, true, true, true, true, true, false, false, false, false, false, false, false, false, false, false, false, false, false, false, false, false, false, false, false, false]) h7533q rfl rfl (by kernel_rfl) rfl rfl (v6384q) (fun _ _ => by kernel_rfl) ⟨((hS7527q.bring 1 rfl rfl).cell (i := 1) rfl), ((hS7527q.bring 1 rfl rfl).cell (i := 2) rfl), ((hS7527q.bring 1 rfl rfl).cell (i := 0) rfl), trivial⟩ (fun _ _ _ h_ => h_) (fun a7535q h7536q => ?_)
                clear h7533q a7532q
                obtain ⟨r7538q, A7537q, H⟩ := bind1 H
                refine WH.op 14 (listed' := #[true, true, true, true, true, true, true, true, true, true, true, true, true, true, true, false, false, false, false, false, false, false, false, false, false, false, false, false, false, false, false, false, false, false]) h7536q rfl (by kernel_rfl) rfl rfl ?_
                refine owp_call [v6384q] h7536q rfl (by kernel_rfl) rfl Try.func16 (by kernel_rfl) rfl (by kernel_rfl) (window_Meter_Left.calls hr7526q A7537q hS7527q) (fun e7540q W7539q hp7541q => ?_)
                obtain ⟨M7544q, rfl, hr7545q, hS7546q⟩ := hp7541q
                refine ⟨_, rfl, fun a7542q h7543q => ?_⟩
                clear h7536q a7535q
                refine ⟨⟨((hS7546q.bring 1 rfl rfl).cell (i := 1) rfl), ((hS7546q.bring 1 rfl rfl).cell (i := 2) rfl), ((hS7546q.bring 1 rfl rfl).cell (i := 0) rfl), trivial⟩, ?_⟩
                refine WH.take 15 (listed' := #[true, true, true, true, true, true, true, true, true, true, true, true, true, true, true, true, false, false, false, false, false, false, false, false, false, false, false, false, false, false, false, false, false, false]) h7543q rfl rfl (by kernel_rfl) rfl rfl (.bool (decide (r7538q < 0))) (fun _ _ => by kernel_rfl) ⟨((hS7546q.bring 1 rfl rfl).cell (i := 1) rfl), ((hS7546q.bring 1 rfl rfl).cell (i := 2) rfl), ((hS7546q.bring 1 rfl rfl).cell (i := 0) rfl), trivial⟩ (fun _ _ _ h_ => h_) (fun a7547q h7548q => ?_)
                clear h7543q a7542q
                refine WH.take 16 (listed' := #[true, true, true, true, true, true, true, true, true, true, true, true, true, true, true, true, true, false, false, false, false, false, false, false, false, false, false, false, false, false, false, false, false, false]) h7548q rfl rfl (by kernel_rfl) rfl rfl (.bool (decide (r7538q < 0))) (fun _ _ => by kernel_rfl) ⟨((hS7546q.bring 1 rfl rfl).cell (i := 1) rfl), ((hS7546q.bring 1 rfl rfl).cell (i := 2) rfl), ((hS7546q.bring 1 rfl rfl).cell (i := 0) rfl), trivial⟩ (fun _ _ _ h_ => h_) (fun a7549q h7550q => ?_)
                clear h7548q a7547q
                refine WH.take 17 (listed' := #[true, true, true, true, true, true, true, true, true, true, true, true, true, true, true, true, true, true, false, false, false, false, false, false, false, false, false, false, false, false, false, false, false, false]) h7550q rfl rfl (by kernel_rfl) rfl rfl (.bool (decide (r7538q < 0))) (fun _ _ => by kernel_rfl) ⟨((hS7546q.bring 1 rfl rfl).cell (i := 1) rfl), ((hS7546q.bring 1 rfl rfl).cell (i := 2) rfl), ((hS7546q.bring 1 rfl rfl).cell (i := 0) rfl), trivial⟩ (fun _ _ _ h_ => h_) (fun a7551q h7552q => ?_)
                clear h7550q a7549q
                by_cases c7553q : r7538q < 0
                · rw [if_pos c7553q] at H
                  have hb_ : (decide (r7538q < 0)) = true := decide_eq_true c7553q
                  try rw [hb_] at h7552q
                  clear hb_
                  refine WH.skip 18 (listed' := #[true, true, true, true, true, true, true, true, true, true, true, true, true, true, true, true, true, true, true, false, false, false, false, false, false, false, false, false, false, false, false, false, false, false]) h7552q rfl rfl (by kernel_rfl) rfl rfl ⟨((hS7546q.bring 1 rfl rfl).cell (i := 1) rfl), ((hS7546q.bring 1 rfl rfl).cell (i := 2) rfl), ((hS7546q.bring 1 rfl rfl).cell (i := 0) rfl), trivial⟩ (fun _ _ _ h_ => h_) (fun a7554q h7555q => ?_)
                  clear h7552q a7551q
                  refine WH.skip 19 (listed' := #[true, true, true, true, true, true, true, true, true, true, true, true, true, true, true, true, true, true, true, true, false, false, false, false, false, false, false, false, false, false, false, false, false, false]) h7555q rfl rfl (by kernel_rfl) rfl rfl ⟨((hS7546q.bring 1 rfl rfl).cell (i := 1) rfl), ((hS7546q.bring 1 rfl rfl).cell (i := 2) rfl), ((hS7546q.bring 1 rfl rfl).cell (i := 0) rfl), trivial⟩ (fun _ _ _ h_ => h_) (fun a7556q h7557q => ?_)
                  clear h7555q a7554q
                  refine WH.skip 20 (listed' := #[true, true, true, true, true, true, true, true, true, true, true, true, true, true, true, true, true, true, true, true, true, false, false, false, false, false, false, false, false, false, false, false, false, false]) h7557q rfl rfl (by kernel_rfl) rfl rfl ⟨((hS7546q.bring 1 rfl rfl).cell (i := 1) rfl), ((hS7546q.bring 1 rfl rfl).cell (i := 2) rfl), ((hS7546q.bring 1 rfl rfl).cell (i := 0) rfl), trivial⟩ (fun _ _ _ h_ => h_) (fun a7558q h7559q => ?_)
                  clear h7557q a7556q
                  refine WH.skip 21 (listed' := #[true, true, true, true, true, true, true, true, true, true, true, true, true, true, true, true, true, true, true, true, true, true, false, false, false, false, false, false, false, false, false, false, false, false]) h7559q rfl rfl (by kernel_rfl) rfl rfl ⟨((hS7546q.bring 1 rfl rfl).cell (i := 1) rfl), ((hS7546q.bring 1 rfl rfl).cell (i := 2) rfl), ((hS7546q.bring 1 rfl rfl).cell (i := 0) rfl), trivial⟩ (fun _ _ _ h_ => h_) (fun a7560q h7561q => ?_)
                  clear h7559q a7558q
                  refine WH.skip 22 (listed' := #[true, true, true, true, true, true, true, true, true, true, true, true, true, true, true, true, true, true, true, true, true, true, true, false, false, false, false, false, false, false, false, false, false, false]) h7561q rfl rfl (by kernel_rfl) rfl rfl ⟨((hS7546q.bring 1 rfl rfl).cell (i := 1) rfl), ((hS7546q.bring 1 rfl rfl).cell (i := 2) rfl), ((hS7546q.bring 1 rfl rfl).cell (i := 0) rfl), trivial⟩ (fun _ _ _ h_ => h_) (fun a7562q h7563q => ?_)
                  clear h7561q a7560q
                  refine WH.take 23 (listed' := #[true, true, true, true, true, true, true, true, true, true, true, true, true, true, true, true, true, true, true, true, true, true, true, true, false, false, false, false, false, false, false, false, false, false]) h7563q rfl rfl (by kernel_rfl) rfl rfl (.bool true) (fun _ _ => by kernel_rfl) ⟨((hS7546q.bring 1 rfl rfl).cell (i := 1) rfl), ((hS7546q.bring 1 rfl rfl).cell (i := 2) rfl), ((hS7546q.bring 1 rfl rfl).cell (i := 0) rfl), trivial⟩ (fun _ _ _ h_ => h_) (fun a7564q h7565q => ?_)
                  clear h7563q a7562q
                  refine WH.take 24 (listed' := #[true, true, true, true, true, true, true, true, true, true, true, true, true, true, true, true, true, true, true, true, true, true, true, true, true, false, false, false, false, false, false, false, false, false]) h7565q rfl rfl (by kernel_rfl) rfl rfl (.bool true) (fun _ _ => by kernel_rfl) ⟨((hS7546q.bring 1 rfl rfl).cell (i := 1) rfl), ((hS7546q.bring 1 rfl rfl).cell (i := 2) rfl), ((hS7546q.bring 1 rfl rfl).cell (i := 0) rfl), trivial⟩ (fun _ _ _ h_ => h_) (fun a7566q h7567q => ?_)
                  clear h7565q a7564q
                  refine WH.skip 25 (listed' := #[true, true, true, true, true, true, true, true, true, true, true, true, true, true, true, true, true, true, true, true, true, true, true, true, true, true, false, false, false, false, false, false, false, false]) h7567q rfl rfl (by kernel_rfl) rfl rfl ⟨((hS7546q.bring 1 rfl rfl).cell (i := 1) rfl), ((hS7546q.bring 1 rfl rfl).cell (i := 2) rfl), ((hS7546q.bring 1 rfl rfl).cell (i := 0) rfl), trivial⟩ (fun _ _ _ h_ => h_) (fun a7568q h7569q => ?_)
                  clear h7567q a7566q
                  refine WH.skip 26 (listed' := #[true, true, true, true, true, true, true, true, true, true, true, true, true, true, true, true, true, true, true, true, true, true, true, true, true, true, true, false, false, false, false, false, false, false]) h7569q rfl rfl (by kernel_rfl) rfl rfl ⟨((hS7546q.bring 1 rfl rfl).cell (i := 1) rfl), ((hS7546q.bring 1 rfl rfl).cell (i := 2) rfl), ((hS7546q.bring 1 rfl rfl).cell (i := 0) rfl), trivial⟩ (fun _ _ _ h_ => h_) (fun a7570q h7571q => ?_)
                  clear h7569q a7568q
                  refine WH.skip 27 (listed' := #[true, true, true, true, true, true, true, true, true, true, true, true, true, true, true, true, true, true, true, true, true, true, true, true, true, true, true, true, false, false, false, false, false, false]) h7571q rfl rfl (by kernel_rfl) rfl rfl ⟨((hS7546q.bring 1 rfl rfl).cell (i := 1) rfl), ((hS7546q.bring 1 rfl rfl).cell (i := 2) rfl), ((hS7546q.bring 1 rfl rfl).cell (i := 0) rfl), trivial⟩ (fun _ _ _ h_ => h_) (fun a7572q h7573q => ?_)
                  clear h7571q a7570q
                  refine WH.skip 28 (listed' := #[true, true, true, true, true, true, true, true, true, true, true, true, true, true, true, true, true, true, true, true, true, true, true, true, true, true, true, true, true, false, false, false, false, false]) h7573q rfl rfl (by kernel_rfl) rfl rfl ⟨((hS7546q.bring 1 rfl rfl).cell (i := 1) rfl), ((hS7546q.bring 1 rfl rfl).cell (i := 2) rfl), ((hS7546q.bring 1 rfl rfl).cell (i := 0) rfl), trivial⟩ (fun _ _ _ h_ => h_) (fun a7574q h7575q => ?_)
                  clear h7573q a7572q
                  refine WH.skip 29 (listed' := #[true, true, true, true, true, true, true, true, true, true, true, true, true, true, true, true, true, true, true, true, true, true, true, true, true, true, true, true, true, true, false, false, false, false]) h7575q rfl rfl (by kernel_rfl) rfl rfl ⟨((hS7546q.bring 1 rfl rfl).cell (i := 1) rfl), ((hS7546q.bring 1 rfl rfl).cell (i := 2) rfl), ((hS7546q.bring 1 rfl rfl).cell (i := 0) rfl), trivial⟩ (fun _ _ _ h_ => h_) (fun a7576q h7577q => ?_)
                  clear h7575q a7574q
                  refine WH.skip 30 (listed' := #[true, true, true, true, true, true, true, true, true, true, true, true, true, true, true, true, true, true, true, true, true, true, true, true, true, true, true, true, true, true, true, false, false, false]) h7577q rfl rfl (by kernel_rfl) rfl rfl ⟨((hS7546q.bring 1 rfl rfl).cell (i := 1) rfl), ((hS7546q.bring 1 rfl rfl).cell (i := 2) rfl), ((hS7546q.bring 1 rfl rfl).cell (i := 0) rfl), trivial⟩ (fun _ _ _ h_ => h_) (fun a7578q h7579q => ?_)
                  clear h7577q a7576q
                  refine WH.skip 31 (listed' := #[true, true, true, true, true, true, true, true, true, true, true, true, true, true, true, true, true, true, true, true, true, true, true, true, true, true, true, true, true, true, true, true, false, false]) h7579q rfl rfl (by kernel_rfl) rfl rfl ⟨((hS7546q.bring 1 rfl rfl).cell (i := 1) rfl), ((hS7546q.bring 1 rfl rfl).cell (i := 2) rfl), ((hS7546q.bring 1 rfl rfl).cell (i := 0) rfl), trivial⟩ (fun _ _ _ h_ => h_) (fun a7580q h7581q => ?_)
                  clear h7579q a7578q
                  refine WH.skip 32 (listed' := #[true, true, true, true, true, true, true, true, true, true, true, true, true, true, true, true, true, true, true, true, true, true, true, true, true, true, true, true, true, true, true, true, true, false]) h7581q rfl rfl (by kernel_rfl) rfl rfl ⟨((hS7546q.bring 1 rfl rfl).cell (i := 1) rfl), ((hS7546q.bring 1 rfl rfl).cell (i := 2) rfl), ((hS7546q.bring 1 rfl rfl).cell (i := 0) rfl), trivial⟩ (fun _ _ _ h_ => h_) (fun a7582q h7583q => ?_)
                  clear h7581q a7580q
                  refine WH.take 33 (listed' := #[true, true, true, true, true, true, true, true, true, true, true, true, true, true, true, true, true, true, true, true, true, true, true, true, true, true, true, true, true, true, true, true, true, true]) h7583q rfl rfl (by kernel_rfl) rfl rfl (.bool true) (fun _ _ => by kernel_rfl) ⟨((hS7546q.bring 1 rfl rfl).cell (i := 1) rfl), ((hS7546q.bring 1 rfl rfl).cell (i := 2) rfl), ((hS7546q.bring 1 rfl rfl).cell (i := 0) rfl), trivial⟩ (fun _ _ _ h_ => h_) (fun a7584q h7585q => ?_)
                  clear h7583q a7582q
                  refine WH.done (by kernel_rfl) ?_
                  refine wp_then h7585q rfl ?_
                  refine wp_seq ?_
                  refine WL.start ?_
                  refine WL.block (c := 1) (m' := 1) h7585q rfl [(6, .bool false)] (by kernel_rfl) (fun a7586q h7587q => ?_)
                  clear h7585q a7584q
                  refine WL.done (by kernel_rfl) ?_
                  refine wp_ret ?_
                  have hS7588q : St b w0 W7539q R ([(g6403q, .cells ([.int .i64 x6718q, .int .i64 x6719q, .int .i64 x6720q, .int .i64 x6721q] : List Value).toArray 28 (0, 0))] :: [(g6414q, .cells ([.int .u8 x6434q, .int .u32 x6435q] : List Value).toArray 31 (0, 0))] :: Fs) := hS7546q.drop_
                  have hS7589q : St b w0 W7539q R ([(g6414q, .cells ([.int .u8 x6434q, .int .u32 x6435q] : List Value).toArray 31 (0, 0))] :: Fs) := hS7588q.drop_
                  have hS7590q : St b w0 W7539q R (Fs) := hS7589q.drop_
                  obtain rfl := Option.some.inj H
                  repeat (first | refine then_ret ?_ | refine inBlock_ret ?_ | refine inBlock_go ?_)
                  refine body_ret (v := .bool false) h7587q (by kernel_rfl) (by kernel_rfl) ?_
                  exact ⟨rfl, hS7590q⟩
                · rw [if_neg c7553q] at H
                  have hb_ : (decide (r7538q < 0)) = false := decide_eq_false c7553q
                  try rw [hb_] at h7552q
                  clear hb_
                  refine WH.take 18 (listed' := #[true, true, true, true, true, true, true, true, true, true, true, true, true, true, true, true, true, true, true, false, false, false, false, false, false, false, false, false, false, false, false, false, false, false]) h7552q rfl rfl (by kernel_rfl) rfl rfl (v6384q) (fun _ _ => by kernel_rfl) ⟨((hS7546q.bring 1 rfl rfl).cell (i := 1) rfl), ((hS7546q.bring 1 rfl rfl).cell (i := 2) rfl), ((hS7546q.bring 1 rfl rfl).cell (i := 0) rfl), trivial⟩ (fun _ _ _ h_ => h_) (fun a7591q h7592q => ?_)
                  clear h7552q a7551q
                  refine WH.take 20 (listed' := #[true, true, true, true, true, true, true, true, true, true, true, true, true, true, true, true, true, true, true, false, true, false, false, false, false, false, false, false, false, false, false, false, false, false]) h7592q rfl rfl (by kernel_rfl) rfl rfl (.pointer (some ⟨g6403q, 0, none⟩)) (fun _ _ => by kernel_rfl) ⟨((hS7546q.bring 1 rfl rfl).cell (i := 1) rfl), ((hS7546q.bring 1 rfl rfl).cell (i := 2) rfl), ((hS7546q.bring 1 rfl rfl).cell (i := 0) rfl), trivial⟩ (fun _ _ _ h_ => h_) (fun a7593q h7594q => ?_)
                  clear h7592q a7591q
                  refine WH.take 21 (listed' := #[true, true, true, true, true, true, true, true, true, true, true, true, true, true, true, true, true, true, true, false, true, true, false, false, false, false, false, false, false, false, false, false, false, false]) h7594q rfl rfl (by kernel_rfl) rfl rfl (.int .i64 x6718q) (fun w_ hs_ => (run_load1 rfl rfl Try.underlying2 rfl hs_.2.2.1)) ⟨((hS7546q.bring 1 rfl rfl).cell (i := 1) rfl), ((hS7546q.bring 1 rfl rfl).cell (i := 2) rfl), ((hS7546q.bring 1 rfl rfl).cell (i := 0) rfl), trivial⟩ (fun _ _ _ h_ => h_) (fun a7595q h7596q => ?_)
                  clear h7594q a7593q
                  obtain ⟨r7598q, A7597q, H⟩ := bind1 H
                  refine WH.op 19 (listed' := #[true, true, true, true, true, true, true, true, true, true, true, true, true, true, true, true, true, true, true, true, true, true, false, false, false, false, false, false, false, false, false, false, false, false]) h7596q rfl (by kernel_rfl) rfl rfl ?_
                  refine owp_call [v6384q] h7596q rfl (by kernel_rfl) rfl Try.func16 (by kernel_rfl) rfl (by kernel_rfl) (window_Meter_Left.calls hr7545q A7597q hS7546q) (fun e7600q W7599q hp7601q => ?_)
                  obtain ⟨M7604q, rfl, hr7605q, hS7606q⟩ := hp7601q
                  refine ⟨_, rfl, fun a7602q h7603q => ?_⟩
                  clear h7596q a7595q
                  refine ⟨⟨((hS7606q.bring 1 rfl rfl).cell (i := 1) rfl), ((hS7606q.bring 1 rfl rfl).cell (i := 2) rfl), ((hS7606q.bring 1 rfl rfl).cell (i := 0) rfl), trivial⟩, ?_⟩
                  refine WH.take 22 (listed' := #[true, true, true, true, true, true, true, true, true, true, true, true, true, true, true, true, true, true, true, true, true, true, true, false, false, false, false, false, false, false, false, false, false, false]) h7603q rfl rfl (by kernel_rfl) rfl rfl (.bool (decide (r7598q > x6718q))) (fun _ _ => by kernel_rfl) ⟨((hS7606q.bring 1 rfl rfl).cell (i := 1) rfl), ((hS7606q.bring 1 rfl rfl).cell (i := 2) rfl), ((hS7606q.bring 1 rfl rfl).cell (i := 0) rfl), trivial⟩ (fun _ _ _ h_ => h_) (fun a7607q h7608q => ?_)
                  clear h7603q a7602q
                  refine WH.take 23 (listed' := #[true, true, true, true, true, true, true, true, true, true, true, true, true, true, true, true, true, true, true, true, true, true, true, true, false, false, false, false, false, false, false, false, false, false]) h7608q rfl rfl (by kernel_rfl) rfl rfl (.bool (decide (r7598q > x6718q))) (fun _ _ => by kernel_rfl) ⟨((hS7606q.bring 1 rfl rfl).cell (i := 1) rfl), ((hS7606q.bring 1 rfl rfl).cell (i := 2) rfl), ((hS7606q.bring 1 rfl rfl).cell (i := 0) rfl), trivial⟩ (fun _ _ _ h_ => h_) (fun a7609q h7610q => ?_)
                  clear h7608q a7607q
                  refine WH.take 24 (listed' := #[true, true, true, true, true, true, true, true, true, true, true, true, true, true, true, true, true, true, true, true, true, true, true, true, true, false, false, false, false, false, false, false, false, false]) h7610q rfl rfl (by kernel_rfl) rfl rfl (.bool (decide (r7598q > x6718q))) (fun _ _ => by kernel_rfl) ⟨((hS7606q.bring 1 rfl rfl).cell (i := 1) rfl), ((hS7606q.bring 1 rfl rfl).cell (i := 2) rfl), ((hS7606q.bring 1 rfl rfl).cell (i := 0) rfl), trivial⟩ (fun _ _ _ h_ => h_) (fun a7611q h7612q => ?_)
                  clear h7610q a7609q
                  by_cases c7613q : r7598q > x6718q
                  · rw [if_pos c7613q] at H
                    have hb_ : (decide (r7598q > x6718q)) = true := decide_eq_true c7613q
                    try rw [hb_] at h7612q
                    clear hb_
                    refine WH.skip 25 (listed' := #[true, true, true, true, true, true, true, true, true, true, true, true, true, true, true, true, true, true, true, true, true, true, true, true, true, true, false, false, false, false, false, false, false, false]) h7612q rfl rfl (by kernel_rfl) rfl rfl ⟨((hS7606q.bring 1 rfl rfl).cell (i := 1) rfl), ((hS7606q.bring 1 rfl rfl).cell (i := 2) rfl), ((hS7606q.bring 1 rfl rfl).cell (i := 0) rfl), trivial⟩ (fun _ _ _ h_ => h_) (fun a7614q h7615q => ?_)
                    clear h7612q a7611q
                    refine WH.skip 26 (listed' := #[true, true, true, true, true, true, true, true, true, true, true, true, true, true, true, true, true, true, true, true, true, true, true, true, true, true, true, false, false, false, false, false, false, false]) h7615q rfl rfl (by kernel_rfl) rfl rfl ⟨((hS7606q.bring 1 rfl rfl).cell (i := 1) rfl), ((hS7606q.bring 1 rfl rfl).cell (i := 2) rfl), ((hS7606q.bring 1 rfl rfl).cell (i := 0) rfl), trivial⟩ (fun _ _ _ h_ => h_) (fun a7616q h7617q => ?_)
                    clear h7615q a7614q
                    refine WH.skip 27 (listed' := #[true, true, true, true, true, true, true, true, true, true, true, true, true, true, true, true, true, true, true, true, true, true, true, true, true, true, true, true, false, false, false, false, false, false]) h7617q rfl rfl (by kernel_rfl) rfl rfl ⟨((hS7606q.bring 1 rfl rfl).cell (i := 1) rfl), ((hS7606q.bring 1 rfl rfl).cell (i := 2) rfl), ((hS7606q.bring 1 rfl rfl).cell (i := 0) rfl), trivial⟩ (fun _ _ _ h_ => h_) (fun a7618q h7619q => ?_)
                    clear h7617q a7616q
                    refine WH.skip 28 (listed' := #[true, true, true, true, true, true, true, true, true, true, true, true, true, true, true, true, true, true, true, true, true, true, true, true, true, true, true, true, true, false, false, false, false, false]) h7619q rfl rfl (by kernel_rfl) rfl rfl ⟨((hS7606q.bring 1 rfl rfl).cell (i := 1) rfl), ((hS7606q.bring 1 rfl rfl).cell (i := 2) rfl), ((hS7606q.bring 1 rfl rfl).cell (i := 0) rfl), trivial⟩ (fun _ _ _ h_ => h_) (fun a7620q h7621q => ?_)
                    clear h7619q a7618q
                    refine WH.skip 29 (listed' := #[true, true, true, true, true, true, true, true, true, true, true, true, true, true, true, true, true, true, true, true, true, true, true, true, true, true, true, true, true, true, false, false, false, false]) h7621q rfl rfl (by kernel_rfl) rfl rfl ⟨((hS7606q.bring 1 rfl rfl).cell (i := 1) rfl), ((hS7606q.bring 1 rfl rfl).cell (i := 2) rfl), ((hS7606q.bring 1 rfl rfl).cell (i := 0) rfl), trivial⟩ (fun _ _ _ h_ => h_) (fun a7622q h7623q => ?_)
                    clear h7621q a7620q
                    refine WH.skip 30 (listed' := #[true, true, true, true, true, true, true, true, true, true, true, true, true, true, true, true, true, true, true, true, true, true, true, true, true, true, true, true, true, true, true, false, false, false]) h7623q rfl rfl (by kernel_rfl) rfl rfl ⟨((hS7606q.bring 1 rfl rfl).cell (i := 1) rfl), ((hS7606q.bring 1 rfl rfl).cell (i := 2) rfl), ((hS7606q.bring 1 rfl rfl).cell (i := 0) rfl), trivial⟩ (fun _ _ _ h_ => h_) (fun a7624q h7625q => ?_)
                    clear h7623q a7622q
                    refine WH.skip 31 (listed' := #[true, true, true, true, true, true, true, true, true, true, true, true, true, true, true, true, true, true, true, true, true, true, true, true, true, true, true, true, true, true, true, true, false, false]) h7625q rfl rfl (by kernel_rfl) rfl rfl ⟨((hS7606q.bring 1 rfl rfl).cell (i := 1) rfl), ((hS7606q.bring 1 rfl rfl).cell (i := 2) rfl), ((hS7606q.bring 1 rfl rfl).cell (i := 0) rfl), trivial⟩ (fun _ _ _ h_ => h_) (fun a7626q h7627q => ?_)
                    clear h7625q a7624q
                    refine WH.skip 32 (listed' := #[true, true, true, true, true, true, true, true, true, true, true, true, true, true, true, true, true, true, true, true, true, true, true, true, true, true, true, true, true, true, true, true, true, false]) h7627q rfl rfl (by kernel_rfl) rfl rfl ⟨((hS7606q.bring 1 rfl rfl).cell (i := 1) rfl), ((hS7606q.bring 1 rfl rfl).cell (i := 2) rfl), ((hS7606q.bring 1 rfl rfl).cell (i := 0) rfl), trivial⟩ (fun _ _ _ h_ => h_) (fun a7628q h7629q => ?_)
                    clear h7627q a7626q
                    refine WH.take 33 (listed' := #[true, true, true, true, true, true, true, true, true, true, true, true, true, true, true, true, true, true, true, true, true, true, true, true, true, true, true, true, true, true, true, true, true, true]) h7629q rfl rfl (by kernel_rfl) rfl rfl (.bool true) (fun _ _ => by kernel_rfl) ⟨((hS7606q.bring 1 rfl rfl).cell (i := 1) rfl), ((hS7606q.bring 1 rfl rfl).cell (i := 2) rfl), ((hS7606q.bring 1 rfl rfl).cell (i := 0) rfl), trivial⟩ (fun _ _ _ h_ => h_) (fun a7630q h7631q => ?_)
                    clear h7629q a7628q
                    refine WH.done (by kernel_rfl) ?_
                    refine wp_then h7631q rfl ?_
                    refine wp_seq ?_
                    refine WL.start ?_
                    refine WL.block (c := 1) (m' := 1) h7631q rfl [(6, .bool false)] (by kernel_rfl) (fun a7632q h7633q => ?_)
                    clear h7631q a7630q
                    refine WL.done (by kernel_rfl) ?_
                    refine wp_ret ?_
                    have hS7634q : St b w0 W7599q R ([(g6403q, .cells ([.int .i64 x6718q, .int .i64 x6719q, .int .i64 x6720q, .int .i64 x6721q] : List Value).toArray 28 (0, 0))] :: [(g6414q, .cells ([.int .u8 x6434q, .int .u32 x6435q] : List Value).toArray 31 (0, 0))] :: Fs) := hS7606q.drop_
                    have hS7635q : St b w0 W7599q R ([(g6414q, .cells ([.int .u8 x6434q, .int .u32 x6435q] : List Value).toArray 31 (0, 0))] :: Fs) := hS7634q.drop_
                    have hS7636q : St b w0 W7599q R (Fs) := hS7635q.drop_
                    obtain rfl := Option.some.inj H
                    repeat (first | refine then_ret ?_ | refine inBlock_ret ?_ | refine inBlock_go ?_)
                    refine body_ret (v := .bool false) h7633q (by kernel_rfl) (by kernel_rfl) ?_
                    exact ⟨rfl, hS7636q⟩
                  · rw [if_neg c7613q] at H
                    have hb_ : (decide (r7598q > x6718q)) = false := decide_eq_false c7613q
                    try rw [hb_] at h7612q
                    clear hb_
                    refine WH.take 25 (listed' := #[true, true, true, true, true, true, true, true, true, true, true, true, true, true, true, true, true, true, true, true, true, true, true, true, true, true, false, false, false, false, false, false, false, false]) h7612q rfl rfl (by kernel_rfl) rfl rfl (v6384q) (fun _ _ => by kernel_rfl) ⟨((hS7606q.bring 1 rfl rfl).cell (i := 1) rfl), ((hS7606q.bring 1 rfl rfl).cell (i := 2) rfl), ((hS7606q.bring 1 rfl rfl).cell (i := 0) rfl), trivial⟩ (fun _ _ _ h_ => h_) (fun a7637q h7638q => ?_)
                    clear h7612q a7611q
                    refine WH.take 27 (listed' := #[true, true, true, true, true, true, true, true, true, true, true, true, true, true, true, true, true, true, true, true, true, true, true, true, true, true, false, true, false, false, false, false, false, false]) h7638q rfl rfl (by kernel_rfl) rfl rfl (v6384q) (fun _ _ => by kernel_rfl) ⟨((hS7606q.bring 1 rfl rfl).cell (i := 1) rfl), ((hS7606q.bring 1 rfl rfl).cell (i := 2) rfl), ((hS7606q.bring 1 rfl rfl).cell (i := 0) rfl), trivial⟩ (fun _ _ _ h_ => h_) (fun a7639q h7640q => ?_)
                    clear h7638q a7637q
                    refine WH.take 30 (listed' := #[true, true, true, true, true, true, true, true, true, true, true, true, true, true, true, true, true, true, true, true, true, true, true, true, true, true, false, true, false, false, true, false, false, false]) h7640q rfl rfl (by kernel_rfl) rfl rfl (.pointer (some ⟨g6403q, 0, none⟩)) (fun _ _ => by kernel_rfl) ⟨((hS7606q.bring 1 rfl rfl).cell (i := 1) rfl), ((hS7606q.bring 1 rfl rfl).cell (i := 2) rfl), ((hS7606q.bring 1 rfl rfl).cell (i := 0) rfl), trivial⟩ (fun _ _ _ h_ => h_) (fun a7641q h7642q => ?_)
                    clear h7640q a7639q
                    refine WH.take 31 (listed' := #[true, true, true, true, true, true, true, true, true, true, true, true, true, true, true, true, true, true, true, true, true, true, true, true, true, true, false, true, false, false, true, true, false, false]) h7642q rfl rfl (by kernel_rfl) rfl rfl (.int .i64 x6718q) (fun w_ hs_ => (run_load1 rfl rfl Try.underlying2 rfl hs_.2.2.1)) ⟨((hS7606q.bring 1 rfl rfl).cell (i := 1) rfl), ((hS7606q.bring 1 rfl rfl).cell (i := 2) rfl), ((hS7606q.bring 1 rfl rfl).cell (i := 0) rfl), trivial⟩ (fun _ _ _ h_ => h_) (fun a7643q h7644q => ?_)
                    clear h7642q a7641q
                    obtain ⟨r7646q, A7645q, H⟩ := bind1 H
                    refine WH.op 26 (listed' := #[true, true, true, true, true, true, true, true, true, true, true, true, true, true, true, true, true, true, true, true, true, true, true, true, true, true, true, true, false, false, true, true, false, false]) h7644q rfl (by kernel_rfl) rfl rfl ?_
                    refine owp_call [v6384q] h7644q rfl (by kernel_rfl) rfl Try.func16 (by kernel_rfl) rfl (by kernel_rfl) (window_Meter_Left.calls hr7605q A7645q hS7606q) (fun e7648q W7647q hp7649q => ?_)
                    obtain ⟨M7652q, rfl, hr7653q, hS7654q⟩ := hp7649q
                    refine ⟨_, rfl, fun a7650q h7651q => ?_⟩
                    clear h7644q a7643q
                    refine ⟨⟨((hS7654q.bring 1 rfl rfl).cell (i := 1) rfl), ((hS7654q.bring 1 rfl rfl).cell (i := 2) rfl), ((hS7654q.bring 1 rfl rfl).cell (i := 0) rfl), trivial⟩, ?_⟩
                    obtain ⟨r7656q, A7655q, H⟩ := bind1 H
                    refine WH.op 28 (listed' := #[true, true, true, true, true, true, true, true, true, true, true, true, true, true, true, true, true, true, true, true, true, true, true, true, true, true, true, true, true, false, true, true, false, false]) h7651q rfl (by kernel_rfl) rfl rfl ?_
                    refine owp_call [v6384q] h7651q rfl (by kernel_rfl) rfl Try.func17 (by kernel_rfl) rfl (by kernel_rfl) (window_Meter_Owed.calls hr7653q A7655q hS7654q) (fun e7658q W7657q hp7659q => ?_)
                    obtain ⟨M7662q, rfl, hr7663q, hS7664q⟩ := hp7659q
                    refine ⟨_, rfl, fun a7660q h7661q => ?_⟩
                    clear h7651q a7650q
                    refine ⟨⟨((hS7664q.bring 1 rfl rfl).cell (i := 1) rfl), ((hS7664q.bring 1 rfl rfl).cell (i := 2) rfl), ((hS7664q.bring 1 rfl rfl).cell (i := 0) rfl), trivial⟩, ?_⟩
                    refine WH.take 29 (listed' := #[true, true, true, true, true, true, true, true, true, true, true, true, true, true, true, true, true, true, true, true, true, true, true, true, true, true, true, true, true, true, true, true, false, false]) h7661q rfl rfl (by kernel_rfl) rfl rfl (.int .i64 (IntKind.i64.wrap (r7646q + r7656q))) (fun _ _ => by kernel_rfl) ⟨((hS7664q.bring 1 rfl rfl).cell (i := 1) rfl), ((hS7664q.bring 1 rfl rfl).cell (i := 2) rfl), ((hS7664q.bring 1 rfl rfl).cell (i := 0) rfl), trivial⟩ (fun _ _ _ h_ => h_) (fun a7665q h7666q => ?_)
                    clear h7661q a7660q
                    refine WH.take 32 (listed' := #[true, true, true, true, true, true, true, true, true, true, true, true, true, true, true, true, true, true, true, true, true, true, true, true, true, true, true, true, true, true, true, true, true, false]) h7666q rfl rfl (by kernel_rfl) rfl rfl (.bool (decide ((IntKind.i64.wrap (r7646q + r7656q)) > x6718q))) (fun _ _ => by kernel_rfl) ⟨((hS7664q.bring 1 rfl rfl).cell (i := 1) rfl), ((hS7664q.bring 1 rfl rfl).cell (i := 2) rfl), ((hS7664q.bring 1 rfl rfl).cell (i := 0) rfl), trivial⟩ (fun _ _ _ h_ => h_) (fun a7667q h7668q => ?_)
                    clear h7666q a7665q
                    refine WH.take 33 (listed' := #[true, true, true, true, true, true, true, true, true, true, true, true, true, true, true, true, true, true, true, true, true, true, true, true, true, true, true, true, true, true, true, true, true, true]) h7668q rfl rfl (by kernel_rfl) rfl rfl (.bool (decide ((IntKind.i64.wrap (r7646q + r7656q)) > x6718q))) (fun _ _ => by kernel_rfl) ⟨((hS7664q.bring 1 rfl rfl).cell (i := 1) rfl), ((hS7664q.bring 1 rfl rfl).cell (i := 2) rfl), ((hS7664q.bring 1 rfl rfl).cell (i := 0) rfl), trivial⟩ (fun _ _ _ h_ => h_) (fun a7669q h7670q => ?_)
                    clear h7668q a7667q
                    refine WH.done (by kernel_rfl) ?_
                    by_cases c7671q : (IntKind.i64.wrap (r7646q + r7656q)) > x6718q
                    · rw [if_pos c7671q] at H
                      have hb_ : (decide ((IntKind.i64.wrap (r7646q + r7656q)) > x6718q)) = true := decide_eq_true c7671q
                      try rw [hb_] at h7670q
                      clear hb_
                      refine wp_then h7670q rfl ?_
                      refine wp_seq ?_
                      refine WL.start ?_
                      refine WL.block (c := 1) (m' := 1) h7670q rfl [(6, .bool false)] (by kernel_rfl) (fun a7672q h7673q => ?_)
                      clear h7670q a7669q
                      refine WL.done (by kernel_rfl) ?_
                      refine wp_ret ?_
                      have hS7674q : St b w0 W7657q R ([(g6403q, .cells ([.int .i64 x6718q, .int .i64 x6719q, .int .i64 x6720q, .int .i64 x6721q] : List Value).toArray 28 (0, 0))] :: [(g6414q, .cells ([.int .u8 x6434q, .int .u32 x6435q] : List Value).toArray 31 (0, 0))] :: Fs) := hS7664q.drop_
                      have hS7675q : St b w0 W7657q R ([(g6414q, .cells ([.int .u8 x6434q, .int .u32 x6435q] : List Value).toArray 31 (0, 0))] :: Fs) := hS7674q.drop_
                      have hS7676q : St b w0 W7657q R (Fs) := hS7675q.drop_
                      obtain rfl := Option.some.inj H
                      repeat (first | refine then_ret ?_ | refine inBlock_ret ?_ | refine inBlock_go ?_)
                      refine body_ret (v := .bool false) h7673q (by kernel_rfl) (by kernel_rfl) ?_
                      exact ⟨rfl, hS7676q⟩
                    · rw [if_neg c7671q] at H
                      have hb_ : (decide ((IntKind.i64.wrap (r7646q + r7656q)) > x6718q)) = false := decide_eq_false c7671q
                      try rw [hb_] at h7670q
                      clear hb_
                      refine wp_else h7670q rfl ?_
                      refine wp_skip ?_
                      refine WL.start ?_
                      refine WL.block (c := 2) (m' := 2) h7670q rfl [(31, .int .i64 (IntKind.i64.wrap (x6462q + 1))), (114, .int .i64 (IntKind.i64.wrap (x6462q + 1)))] (by kernel_rfl) (fun a7677q h7678q => ?_)
                      clear h7670q a7669q
                      refine WL.done (by kernel_rfl) ?_
                      exact ⟨k6953q, by omega, x6715q, M7662q, x6718q, x6719q, x6720q, x6721q, IntKind.i64.wrap (x6462q + 1), h7678q.keep ⟨rfl, rfl, rfl, rfl, rfl, rfl, trivial⟩, ⟨H⟩, ⟨by omega⟩, ⟨hS7664q⟩, ⟨hr7663q⟩⟩
              · rw [if_neg c7534q] at H
                have hb_ : (decide (r7519q = x6720q)) = false := decide_eq_false c7534q
                try rw [hb_] at h7533q
                clear hb_
                refine WH.skip 13 (listed' := #[true, true, true, true, true, true, true, true, true, true, true, true, true, true, false, false, false, false, false, false, false, false, false, false, false, false, false, false, false, false, false, false, false, false]) h7533q rfl rfl (by kernel_rfl) rfl rfl ⟨((hS7527q.bring 1 rfl rfl).cell (i := 1) rfl), ((hS7527q.bring 1 rfl rfl).cell (i := 2) rfl), ((hS7527q.bring 1 rfl rfl).cell (i := 0) rfl), trivial⟩ (fun _ _ _ h_ => h_) (fun a7679q h7680q => ?_)
                clear h7533q a7532q
                refine WH.skip 14 (listed' := #[true, true, true, true, true, true, true, true, true, true, true, true, true, true, true, false, false, false, false, false, false, false, false, false, false, false, false, false, false, false, false, false, false, false]) h7680q rfl rfl (by kernel_rfl) rfl rfl ⟨((hS7527q.bring 1 rfl rfl).cell (i := 1) rfl), ((hS7527q.bring 1 rfl rfl).cell (i := 2) rfl), ((hS7527q.bring 1 rfl rfl).cell (i := 0) rfl), trivial⟩ (fun _ _ _ h_ => h_) (fun a7681q h7682q => ?_)
                clear h7680q a7679q
                refine WH.skip 15 (listed' := #[true, true, true, true, true, true, true, true, true, true, true, true, true, true, true, true, false, false, false, false, false, false, false, false, false, false, false, false, false, false, false, false, false, false]) h7682q rfl rfl (by kernel_rfl) rfl rfl ⟨((hS7527q.bring 1 rfl rfl).cell (i := 1) rfl), ((hS7527q.bring 1 rfl rfl).cell (i := 2) rfl), ((hS7527q.bring 1 rfl rfl).cell (i := 0) rfl), trivial⟩ (fun _ _ _ h_ => h_) (fun a7683q h7684q => ?_)
                clear h7682q a7681q
                refine WH.take 16 (listed' := #[true, true, true, true, true, true, true, true, true, true, true, true, true, true, true, true, true, false, false, false, false, false, false, false, false, false, false, false, false, false, false, false, false, false]) h7684q rfl rfl (by kernel_rfl) rfl rfl (.bool true) (fun _ _ => by kernel_rfl) ⟨((hS7527q.bring 1 rfl rfl).cell (i := 1) rfl), ((hS7527q.bring 1 rfl rfl).cell (i := 2) rfl), ((hS7527q.bring 1 rfl rfl).cell (i := 0) rfl), trivial⟩ (fun _ _ _ h_ => h_) (fun a7685q h7686q => ?_)
                clear h7684q a7683q
                refine WH.take 17 (listed' := #[true, true, true, true, true, true, true, true, true, true, true, true, true, true, true, true, true, true, false, false, false, false, false, false, false, false, false, false, false, false, false, false, false, false]) h7686q rfl rfl (by kernel_rfl) rfl rfl (.bool true) (fun _ _ => by kernel_rfl) ⟨((hS7527q.bring 1 rfl rfl).cell (i := 1) rfl), ((hS7527q.bring 1 rfl rfl).cell (i := 2) rfl), ((hS7527q.bring 1 rfl rfl).cell (i := 0) rfl), trivial⟩ (fun _ _ _ h_ => h_) (fun a7687q h7688q => ?_)
                clear h7686q a7685q
                refine WH.skip 18 (listed' := #[true, true, true, true, true, true, true, true, true, true, true, true, true, true, true, true, true, true, true, false, false, false, false, false, false, false, false, false, false, false, false, false, false, false]) h7688q rfl rfl (by kernel_rfl) rfl rfl ⟨((hS7527q.bring 1 rfl rfl).cell (i := 1) rfl), ((hS7527q.bring 1 rfl rfl).cell (i := 2) rfl), ((hS7527q.bring 1 rfl rfl).cell (i := 0) rfl), trivial⟩ (fun _ _ _ h_ => h_) (fun a7689q h7690q => ?_)
                clear h7688q a7687q
                refine WH.skip 19 (listed' := #[true, true, true, true, true, true, true, true, true, true, true, true, true, true, true, true, true, true, true, true, false, false, false, false, false, false, false, false, false, false, false, false, false, false]) h7690q rfl rfl (by kernel_rfl) rfl rfl ⟨((hS7527q.bring 1 rfl rfl).cell (i := 1) rfl), ((hS7527q.bring 1 rfl rfl).cell (i := 2) rfl), ((hS7527q.bring 1 rfl rfl).cell (i := 0) rfl), trivial⟩ (fun _ _ _ h_ => h_) (fun a7691q h7692q => ?_)
                clear h7690q a7689q
                refine WH.skip 20 (listed' := #[true, true, true, true, true, true, true, true, true, true, true, true, true, true, true, true, true, true, true, true, true, false, false, false, false, false, false, false, false, false, false, false, false, false]) h7692q rfl rfl (by kernel_rfl) rfl rfl ⟨((hS7527q.bring 1 rfl rfl).cell (i := 1) rfl), ((hS7527q.bring 1 rfl rfl).cell (i := 2) rfl), ((hS7527q.bring 1 rfl rfl).cell (i := 0) rfl), trivial⟩ (fun _ _ _ h_ => h_) (fun a7693q h7694q => ?_)
                clear h7692q a7691q
                refine WH.skip 21 (listed' := #[true, true, true, true, true, true, true, true, true, true, true, true, true, true, true, true, true, true, true, true, true, true, false, false, false, false, false, false, false, false, false, false, false, false]) h7694q rfl rfl (by kernel_rfl) rfl rfl ⟨((hS7527q.bring 1 rfl rfl).cell (i := 1) rfl), ((hS7527q.bring 1 rfl rfl).cell (i := 2) rfl), ((hS7527q.bring 1 rfl rfl).cell (i := 0) rfl), trivial⟩ (fun _ _ _ h_ => h_) (fun a7695q h7696q => ?_)
                clear h7694q a7693q
                refine WH.skip 22 (listed' := #[true, true, true, true, true, true, true, true, true, true, true, true, true, true, true, true, true, true, true, true, true, true, true, false, false, false, false, false, false, false, false, false, false, false]) h7696q rfl rfl (by kernel_rfl) rfl rfl ⟨((hS7527q.bring 1 rfl rfl).cell (i := 1) rfl), ((hS7527q.bring 1 rfl rfl).cell (i := 2) rfl), ((hS7527q.bring 1 rfl rfl).cell (i := 0) rfl), trivial⟩ (fun _ _ _ h_ => h_) (fun a7697q h7698q => ?_)
                clear h7696q a7695q
                refine WH.take 23 (listed' := #[true, true, true, true, true, true, true, true, true, true, true, true, true, true, true, true, true, true, true, true, true, true, true, true, false, false, false, false, false, false, false, false, false, false]) h7698q rfl rfl (by kernel_rfl) rfl rfl (.bool true) (fun _ _ => by kernel_rfl) ⟨((hS7527q.bring 1 rfl rfl).cell (i := 1) rfl), ((hS7527q.bring 1 rfl rfl).cell (i := 2) rfl), ((hS7527q.bring 1 rfl rfl).cell (i := 0) rfl), trivial⟩ (fun _ _ _ h_ => h_) (fun a7699q h7700q => ?_)
                clear h7698q a7697q
                refine WH.take 24 (listed' := #[true, true, true, true, true, true, true, true, true, true, true, true, true, true, true, true, true, true, true, true, true, true, true, true, true, false, false, false, false, false, false, false, false, false]) h7700q rfl rfl (by kernel_rfl) rfl rfl (.bool true) (fun _ _ => by kernel_rfl) ⟨((hS7527q.bring 1 rfl rfl).cell (i := 1) rfl), ((hS7527q.bring 1 rfl rfl).cell (i := 2) rfl), ((hS7527q.bring 1 rfl rfl).cell (i := 0) rfl), trivial⟩ (fun _ _ _ h_ => h_) (fun a7701q h7702q => ?_)
                clear h7700q a7699q
                refine WH.skip 25 (listed' := #[true, true, true, true, true, true, true, true, true, true, true, true, true, true, true, true, true, true, true, true, true, true, true, true, true, true, false, false, false, false, false, false, false, false]) h7702q rfl rfl (by kernel_rfl) rfl rfl ⟨((hS7527q.bring 1 rfl rfl).cell (i := 1) rfl), ((hS7527q.bring 1 rfl rfl).cell (i := 2) rfl), ((hS7527q.bring 1 rfl rfl).cell (i := 0) rfl), trivial⟩ (fun _ _ _ h_ => h_) (fun a7703q h7704q => ?_)
                clear h7702q a7701q
                refine WH.skip 26 (listed' := #[true, true, true, true, true, true, true, true, true, true, true, true, true, true, true, true, true, true, true, true, true, true, true, true, true, true, true, false, false, false, false, false, false, false]) h7704q rfl rfl (by kernel_rfl) rfl rfl ⟨((hS7527q.bring 1 rfl rfl).cell (i := 1) rfl), ((hS7527q.bring 1 rfl rfl).cell (i := 2) rfl), ((hS7527q.bring 1 rfl rfl).cell (i := 0) rfl), trivial⟩ (fun _ _ _ h_ => h_) (fun a7705q h7706q => ?_)
                clear h7704q a7703q
                refine WH.skip 27 (listed' := #[true, true, true, true, true, true, true, true, true, true, true, true, true, true, true, true, true, true, true, true, true, true, true, true, true, true, true, true, false, false, false, false, false, false]) h7706q rfl rfl (by kernel_rfl) rfl rfl ⟨((hS7527q.bring 1 rfl rfl).cell (i := 1) rfl), ((hS7527q.bring 1 rfl rfl).cell (i := 2) rfl), ((hS7527q.bring 1 rfl rfl).cell (i := 0) rfl), trivial⟩ (fun _ _ _ h_ => h_) (fun a7707q h7708q => ?_)
                clear h7706q a7705q
                refine WH.skip 28 (listed' := #[true, true, true, true, true, true, true, true, true, true, true, true, true, true, true, true, true, true, true, true, true, true, true, true, true, true, true, true, true, false, false, false, false, false]) h7708q rfl rfl (by kernel_rfl) rfl rfl ⟨((hS7527q.bring 1 rfl rfl).cell (i := 1) rfl), ((hS7527q.bring 1 rfl rfl).cell (i := 2) rfl), ((hS7527q.bring 1 rfl rfl).cell (i := 0) rfl), trivial⟩ (fun _ _ _ h_ => h_) (fun a7709q h7710q => ?_)
                clear h7708q a7707q
                refine WH.skip 29 (listed' := #[true, true, true, true, true, true, true, true, true, true, true, true, true, true, true, true, true, true, true, true, true, true, true, true, true, true, true, true, true, true, false, false, false, false]) h7710q rfl rfl (by kernel_rfl) rfl rfl ⟨((hS7527q.bring 1 rfl rfl).cell (i := 1) rfl), ((hS7527q.bring 1 rfl rfl).cell (i := 2) rfl), ((hS7527q.bring 1 rfl rfl).cell (i := 0) rfl), trivial⟩ (fun _ _ _ h_ => h_) (fun a7711q h7712q => ?_)
                clear h7710q a7709q
                refine WH.skip 30 (listed' := #[true, true, true, true, true, true, true, true, true, true, true, true, true, true, true, true, true, true, true, true, true, true, true, true, true, true, true, true, true, true, true, false, false, false]) h7712q rfl rfl (by kernel_rfl) rfl rfl ⟨((hS7527q.bring 1 rfl rfl).cell (i := 1) rfl), ((hS7527q.bring 1 rfl rfl).cell (i := 2) rfl), ((hS7527q.bring 1 rfl rfl).cell (i := 0) rfl), trivial⟩ (fun _ _ _ h_ => h_) (fun a7713q h7714q => ?_)
                clear h7712q a7711q
                refine WH.skip 31 (listed' := #[true, true, true, true, true, true, true, true, true, true, true, true, true, true, true, true, true, true, true, true, true, true, true, true, true, true, true, true, true, true, true, true, false, false]) h7714q rfl rfl (by kernel_rfl) rfl rfl ⟨((hS7527q.bring 1 rfl rfl).cell (i := 1) rfl), ((hS7527q.bring 1 rfl rfl).cell (i := 2) rfl), ((hS7527q.bring 1 rfl rfl).cell (i := 0) rfl), trivial⟩ (fun _ _ _ h_ => h_) (fun a7715q h7716q => ?_)
                clear h7714q a7713q
                refine WH.skip 32 (listed' := #[true, true, true, true, true, true, true, true, true, true, true, true, true, true, true, true, true, true, true, true, true, true, true, true, true, true, true, true, true, true, true, true, true, false]) h7716q rfl rfl (by kernel_rfl) rfl rfl ⟨((hS7527q.bring 1 rfl rfl).cell (i := 1) rfl), ((hS7527q.bring 1 rfl rfl).cell (i := 2) rfl), ((hS7527q.bring 1 rfl rfl).cell (i := 0) rfl), trivial⟩ (fun _ _ _ h_ => h_) (fun a7717q h7718q => ?_)
                clear h7716q a7715q
                refine WH.take 33 (listed' := #[true, true, true, true, true, true, true, true, true, true, true, true, true, true, true, true, true, true, true, true, true, true, true, true, true, true, true, true, true, true, true, true, true, true]) h7718q rfl rfl (by kernel_rfl) rfl rfl (.bool true) (fun _ _ => by kernel_rfl) ⟨((hS7527q.bring 1 rfl rfl).cell (i := 1) rfl), ((hS7527q.bring 1 rfl rfl).cell (i := 2) rfl), ((hS7527q.bring 1 rfl rfl).cell (i := 0) rfl), trivial⟩ (fun _ _ _ h_ => h_) (fun a7719q h7720q => ?_)
                clear h7718q a7717q
                refine WH.done (by kernel_rfl) ?_
                refine wp_then h7720q rfl ?_
                refine wp_seq ?_
                refine WL.start ?_
                refine WL.block (c := 1) (m' := 1) h7720q rfl [(6, .bool false)] (by kernel_rfl) (fun a7721q h7722q => ?_)
                clear h7720q a7719q
                refine WL.done (by kernel_rfl) ?_
                refine wp_ret ?_
                have hS7723q : St b w0 W7520q R ([(g6403q, .cells ([.int .i64 x6718q, .int .i64 x6719q, .int .i64 x6720q, .int .i64 x6721q] : List Value).toArray 28 (0, 0))] :: [(g6414q, .cells ([.int .u8 x6434q, .int .u32 x6435q] : List Value).toArray 31 (0, 0))] :: Fs) := hS7527q.drop_
                have hS7724q : St b w0 W7520q R ([(g6414q, .cells ([.int .u8 x6434q, .int .u32 x6435q] : List Value).toArray 31 (0, 0))] :: Fs) := hS7723q.drop_
                have hS7725q : St b w0 W7520q R (Fs) := hS7724q.drop_
                obtain rfl := Option.some.inj H
                repeat (first | refine then_ret ?_ | refine inBlock_ret ?_ | refine inBlock_go ?_)
                refine body_ret (v := .bool false) h7722q (by kernel_rfl) (by kernel_rfl) ?_
                exact ⟨rfl, hS7725q⟩
            · rw [if_neg c7511q] at H
              have hb_ : (decide (r7498q = x6719q)) = false := decide_eq_false c7511q
              try rw [hb_] at h7510q
              clear hb_
              refine WH.skip 6 (listed' := #[true, true, true, true, true, true, true, false, false, false, false, false, false, false, false, false, false, false, false, false, false, false, false, false, false, false, false, false, false, false, false, false, false, false]) h7510q rfl rfl (by kernel_rfl) rfl rfl ⟨((hS7506q.bring 1 rfl rfl).cell (i := 1) rfl), ((hS7506q.bring 1 rfl rfl).cell (i := 2) rfl), ((hS7506q.bring 1 rfl rfl).cell (i := 0) rfl), trivial⟩ (fun _ _ _ h_ => h_) (fun a7726q h7727q => ?_)
              clear h7510q a7509q
              refine WH.skip 7 (listed' := #[true, true, true, true, true, true, true, true, false, false, false, false, false, false, false, false, false, false, false, false, false, false, false, false, false, false, false, false, false, false, false, false, false, false]) h7727q rfl rfl (by kernel_rfl) rfl rfl ⟨((hS7506q.bring 1 rfl rfl).cell (i := 1) rfl), ((hS7506q.bring 1 rfl rfl).cell (i := 2) rfl), ((hS7506q.bring 1 rfl rfl).cell (i := 0) rfl), trivial⟩ (fun _ _ _ h_ => h_) (fun a7728q h7729q => ?_)
              clear h7727q a7726q
              refine WH.skip 8 (listed' := #[true, true, true, true, true, true, true, true, true, false, false, false, false, false, false, false, false, false, false, false, false, false, false, false, false, false, false, false, false, false, false, false, false, false]) h7729q rfl rfl (by kernel_rfl) rfl rfl ⟨((hS7506q.bring 1 rfl rfl).cell (i := 1) rfl), ((hS7506q.bring 1 rfl rfl).cell (i := 2) rfl), ((hS7506q.bring 1 rfl rfl).cell (i := 0) rfl), trivial⟩ (fun _ _ _ h_ => h_) (fun a7730q h7731q => ?_)
              clear h7729q a7728q
              refine WH.skip 9 (listed' := #[true, true, true, true, true, true, true, true, true, true, false, false, false, false, false, false, false, false, false, false, false, false, false, false, false, false, false, false, false, false, false, false, false, false]) h7731q rfl rfl (by kernel_rfl) rfl rfl ⟨((hS7506q.bring 1 rfl rfl).cell (i := 1) rfl), ((hS7506q.bring 1 rfl rfl).cell (i := 2) rfl), ((hS7506q.bring 1 rfl rfl).cell (i := 0) rfl), trivial⟩ (fun _ _ _ h_ => h_) (fun a7732q h7733q => ?_)
              clear h7731q a7730q
              refine WH.skip 10 (listed' := #[true, true, true, true, true, true, true, true, true, true, true, false, false, false, false, false, false, false, false, false, false, false, false, false, false, false, false, false, false, false, false, false, false, false]) h7733q rfl rfl (by kernel_rfl) rfl rfl ⟨((hS7506q.bring 1 rfl rfl).cell (i := 1) rfl), ((hS7506q.bring 1 rfl rfl).cell (i := 2) rfl), ((hS7506q.bring 1 rfl rfl).cell (i := 0) rfl), trivial⟩ (fun _ _ _ h_ => h_) (fun a7734q h7735q => ?_)
              clear h7733q a7732q
              refine WH.take 11 (listed' := #[true, true, true, true, true, true, true, true, true, true, true, true, false, false, false, false, false, false, false, false, false, false, false, false, false, false, false, false, false, false, false, false, false, false]) h7735q rfl rfl (by kernel_rfl) rfl rfl (.bool true) (fun _ _ => by kernel_rfl) ⟨((hS7506q.bring 1 rfl rfl).cell (i := 1) rfl), ((hS7506q.bring 1 rfl rfl).cell (i := 2) rfl), ((hS7506q.bring 1 rfl rfl).cell (i := 0) rfl), trivial⟩ (fun _ _ _ h_ => h_) (fun a7736q h7737q => ?_)
              clear h7735q a7734q
              refine WH.take 12 (listed' := #[true, true, true, true, true, true, true, true, true, true, true, true, true, false, false, false, false, false, false, false, false, false, false, false, false, false, false, false, false, false, false, false, false, false]) h7737q rfl rfl (by kernel_rfl) rfl rfl (.bool true) (fun _ _ => by kernel_rfl) ⟨((hS7506q.bring 1 rfl rfl).cell (i := 1) rfl), ((hS7506q.bring 1 rfl rfl).cell (i := 2) rfl), ((hS7506q.bring 1 rfl rfl).cell (i := 0) rfl), trivial⟩ (fun _ _ _ h_ => h_) (fun a7738q h7739q => ?_)
              clear h7737q a7736q
              refine WH.skip 13 (listed' := #[true, true, true, true, true, true, true, true, true, true, true, true, true, true, false, false, false, false, false, false, false, false, false, false, false, false, false, false, false, false, false, false, false, false]) h7739q rfl rfl (by kernel_rfl) rfl rfl ⟨((hS7506q.bring 1 rfl rfl).cell (i := 1) rfl), ((hS7506q.bring 1 rfl rfl).cell (i := 2) rfl), ((hS7506q.bring 1 rfl rfl).cell (i := 0) rfl), trivial⟩ (fun _ _ _ h_ => h_) (fun a7740q h7741q => ?_)
              clear h7739q a7738q
              refine WH.skip 14 (listed' := #[true, true, true, true, true, true, true, true, true, true, true, true, true, true, true, false, false, false, false, false, false, false, false, false, false, false, false, false, false, false, false, false, false, false]) h7741q rfl rfl (by kernel_rfl) rfl rfl ⟨((hS7506q.bring 1 rfl rfl).cell (i := 1) rfl), ((hS7506q.bring 1 rfl rfl).cell (i := 2) rfl), ((hS7506q.bring 1 rfl rfl).cell (i := 0) rfl), trivial⟩ (fun _ _ _ h_ => h_) (fun a7742q h7743q => ?_)
              clear h7741q a7740q
              refine WH.skip 15 (listed' := #[true, true, true, true, true, true, true, true, true, true, true, true, true, true, true, true, false, false, false, false, false, false, false, false, false, false, false, false, false, false, false, false, false, false]) h7743q rfl rfl (by kernel_rfl) rfl rfl ⟨((hS7506q.bring 1 rfl rfl).cell (i := 1) rfl), ((hS7506q.bring 1 rfl rfl).cell (i := 2) rfl), ((hS7506q.bring 1 rfl rfl).cell (i := 0) rfl), trivial⟩ (fun _ _ _ h_ => h_) (fun a7744q h7745q => ?_)
              clear h7743q a7742q
              refine WH.take 16 (listed' := #[true, true, true, true, true, true, true, true, true, true, true, true, true, true, true, true, true, false, false, false, false, false, false, false, false, false, false, false, false, false, false, false, false, false]) h7745q rfl rfl (by kernel_rfl) rfl rfl (.bool true) (fun _ _ => by kernel_rfl) ⟨((hS7506q.bring 1 rfl rfl).cell (i := 1) rfl), ((hS7506q.bring 1 rfl rfl).cell (i := 2) rfl), ((hS7506q.bring 1 rfl rfl).cell (i := 0) rfl), trivial⟩ (fun _ _ _ h_ => h_) (fun a7746q h7747q => ?_)
              clear h7745q a7744q
              refine WH.take 17 (listed' := #[true, true, true, true, true, true, true, true, true, true, true, true, true, true, true, true, true, true, false, false, false, false, false, false, false, false, false, false, false, false, false, false, false, false]) h7747q rfl rfl (by kernel_rfl) rfl rfl (.bool true) (fun _ _ => by kernel_rfl) ⟨((hS7506q.bring 1 rfl rfl).cell (i := 1) rfl), ((hS7506q.bring 1 rfl rfl).cell (i := 2) rfl), ((hS7506q.bring 1 rfl rfl).cell (i := 0) rfl), trivial⟩ (fun _ _ _ h_ => h_) (fun a7748q h7749q => ?_)
              clear h7747q a7746q
              refine WH.skip 18 (listed' := #[true, true, true, true, true, true, true, true, true, true, true, true, true, true, true, true, true, true, true, false, false, false, false, false, false, false, false, false, false, false, false, false, false, false]) h7749q rfl rfl (by kernel_rfl) rfl rfl ⟨((hS7506q.bring 1 rfl rfl).cell (i := 1) rfl), ((hS7506q.bring 1 rfl rfl).cell (i := 2) rfl), ((hS7506q.bring 1 rfl rfl).cell (i := 0) rfl), trivial⟩ (fun _ _ _ h_ => h_) (fun a7750q h7751q => ?_)
              clear h7749q a7748q
              refine WH.skip 19 (listed' := #[true, true, true, true, true, true, true, true, true, true, true, true, true, true, true, true, true, true, true, true, false, false, false, false, false, false, false, false, false, false, false, false, false, false]) h7751q rfl rfl (by kernel_rfl) rfl rfl ⟨((hS7506q.bring 1 rfl rfl).cell (i := 1) rfl), ((hS7506q.bring 1 rfl rfl).cell (i := 2) rfl), ((hS7506q.bring 1 rfl rfl).cell (i := 0) rfl), trivial⟩ (fun _ _ _ h_ => h_) (fun a7752q h7753q => ?_)
              clear h7751q a7750q
              refine WH.skip 20 (listed' := #[true, true, true, true, true, true, true, true, true, true, true, true, true, true, true, true, true, true, true, true, true, false, false, false, false, false, false, false, false, false, false, false, false, false]) h7753q rfl rfl (by kernel_rfl) rfl rfl ⟨((hS7506q.bring 1 rfl rfl).cell (i := 1) rfl), ((hS7506q.bring 1 rfl rfl).cell (i := 2) rfl), ((hS7506q.bring 1 rfl rfl).cell (i := 0) rfl), trivial⟩ (fun _ _ _ h_ => h_) (fun a7754q h7755q => ?_)
              clear h7753q a7752q
              refine WH.skip 21 (listed' := #[true, true, true, true, true, true, true, true, true, true, true, true, true, true, true, true, true, true, true, true, true, true, false, false, false, false, false, false, false, false, false, false, false, false]) h7755q rfl rfl (by kernel_rfl) rfl rfl ⟨((hS7506q.bring 1 rfl rfl).cell (i := 1) rfl), ((hS7506q.bring 1 rfl rfl).cell (i := 2) rfl), ((hS7506q.bring 1 rfl rfl).cell (i := 0) rfl), trivial⟩ (fun _ _ _ h_ => h_) (fun a7756q h7757q => ?_)
              clear h7755q a7754q
              refine WH.skip 22 (listed' := #[true, true, true, true, true, true, true, true, true, true, true, true, true, true, true, true, true, true, true, true, true, true, true, false, false, false, false, false, false, false, false, false, false, false]) h7757q rfl rfl (by kernel_rfl) rfl rfl ⟨((hS7506q.bring 1 rfl rfl).cell (i := 1) rfl), ((hS7506q.bring 1 rfl rfl).cell (i := 2) rfl), ((hS7506q.bring 1 rfl rfl).cell (i := 0) rfl), trivial⟩ (fun _ _ _ h_ => h_) (fun a7758q h7759q => ?_)
              clear h7757q a7756q
              refine WH.take 23 (listed' := #[true, true, true, true, true, true, true, true, true, true, true, true, true, true, true, true, true, true, true, true, true, true, true, true, false, false, false, false, false, false, false, false, false, false]) h7759q rfl rfl (by kernel_rfl) rfl rfl (.bool true) (fun _ _ => by kernel_rfl) ⟨((hS7506q.bring 1 rfl rfl).cell (i := 1) rfl), ((hS7506q.bring 1 rfl rfl).cell (i := 2) rfl), ((hS7506q.bring 1 rfl rfl).cell (i := 0) rfl), trivial⟩ (fun _ _ _ h_ => h_) (fun a7760q h7761q => ?_)
              clear h7759q a7758q
              refine WH.take 24 (listed' := #[true, true, true, true, true, true, true, true, true, true, true, true, true, true, true, true, true, true, true, true, true, true, true, true, true, false, false, false, false, false, false, false, false, false]) h7761q rfl rfl (by kernel_rfl) rfl rfl (.bool true) (fun _ _ => by kernel_rfl) ⟨((hS7506q.bring 1 rfl rfl).cell (i := 1) rfl), ((hS7506q.bring 1 rfl rfl).cell (i := 2) rfl), ((hS7506q.bring 1 rfl rfl).cell (i := 0) rfl), trivial⟩ (fun _ _ _ h_ => h_) (fun a7762q h7763q => ?_)
              clear h7761q a7760q
              refine WH.skip 25 (listed' := #[true, true, true, true, true, true, true, true, true, true, true, true, true, true, true, true, true, true, true, true, true, true, true, true, true, true, false, false, false, false, false, false, false, false]) h7763q rfl rfl (by kernel_rfl) rfl rfl ⟨((hS7506q.bring 1 rfl rfl).cell (i := 1) rfl), ((hS7506q.bring 1 rfl rfl).cell (i := 2) rfl), ((hS7506q.bring 1 rfl rfl).cell (i := 0) rfl), trivial⟩ (fun _ _ _ h_ => h_) (fun a7764q h7765q => ?_)
              clear h7763q a7762q
              refine WH.skip 26 (listed' := #[true, true, true, true, true, true, true, true, true, true, true, true, true, true, true, true, true, true, true, true, true, true, true, true, true, true, true, false, false, false, false, false, false, false]) h7765q rfl rfl (by kernel_rfl) rfl rfl ⟨((hS7506q.bring 1 rfl rfl).cell (i := 1) rfl), ((hS7506q.bring 1 rfl rfl).cell (i := 2) rfl), ((hS7506q.bring 1 rfl rfl).cell (i := 0) rfl), trivial⟩ (fun _ _ _ h_ => h_) (fun a7766q h7767q => ?_)
              clear h7765q a7764q
              refine WH.skip 27 (listed' := #[true, true, true, true, true, true, true, true, true, true, true, true, true, true, true, true, true, true, true, true, true, true, true, true, true, true, true, true, false, false, false, false, false, false]) h7767q rfl rfl (by kernel_rfl) rfl rfl ⟨((hS7506q.bring 1 rfl rfl).cell (i := 1) rfl), ((hS7506q.bring 1 rfl rfl).cell (i := 2) rfl), ((hS7506q.bring 1 rfl rfl).cell (i := 0) rfl), trivial⟩ (fun _ _ _ h_ => h_) (fun a7768q h7769q => ?_)
              clear h7767q a7766q
              refine WH.skip 28 (listed' := #[true, true, true, true, true, true, true, true, true, true, true, true, true, true, true, true, true, true, true, true, true, true, true, true, true, true, true, true, true, false, false, false, false, false]) h7769q rfl rfl (by kernel_rfl) rfl rfl ⟨((hS7506q.bring 1 rfl rfl).cell (i := 1) rfl), ((hS7506q.bring 1 rfl rfl).cell (i := 2) rfl), ((hS7506q.bring 1 rfl rfl).cell (i := 0) rfl), trivial⟩ (fun _ _ _ h_ => h_) (fun a7770q h7771q => ?_)
              clear h7769q a7768q
              refine WH.skip 29 (listed' := #[true, true, true, true, true, true, true, true, true, true, true, true, true, true, true, true, true, true, true, true, true, true, true, true, true, true, true, true, true, true, false, false, false, false]) h7771q rfl rfl (by kernel_rfl) rfl rfl ⟨((hS7506q.bring 1 rfl rfl).cell (i := 1) rfl), ((hS7506q.bring 1 rfl rfl).cell (i := 2) rfl), ((hS7506q.bring 1 rfl rfl).cell (i := 0) rfl), trivial⟩ (fun _ _ _ h_ => h_) (fun a7772q h7773q => ?_)
              clear h7771q a7770q
              refine WH.skip 30 (listed' := #[true, true, true, true, true, true, true, true, true, true, true, true, true, true, true, true, true, true, true, true, true, true, true, true, true, true, true, true, true, true, true, false, false, false]) h7773q rfl rfl (by kernel_rfl) rfl rfl ⟨((hS7506q.bring 1 rfl rfl).cell (i := 1) rfl), ((hS7506q.bring 1 rfl rfl).cell (i := 2) rfl), ((hS7506q.bring 1 rfl rfl).cell (i := 0) rfl), trivial⟩ (fun _ _ _ h_ => h_) (fun a7774q h7775q => ?_)
              clear h7773q a7772q
              refine WH.skip 31 (listed' := #[true, true, true, true, true, true, true, true, true, true, true, true, true, true, true, true, true, true, true, true, true, true, true, true, true, true, true, true, true, true, true, true, false, false]) h7775q rfl rfl (by kernel_rfl) rfl rfl ⟨((hS7506q.bring 1 rfl rfl).cell (i := 1) rfl), ((hS7506q.bring 1 rfl rfl).cell (i := 2) rfl), ((hS7506q.bring 1 rfl rfl).cell (i := 0) rfl), trivial⟩ (fun _ _ _ h_ => h_) (fun a7776q h7777q => ?_)
              clear h7775q a7774q
              refine WH.skip 32 (listed' := #[true, true, true, true, true, true, true, true, true, true, true, true, true, true, true, true, true, true, true, true, true, true, true, true, true, true, true, true, true, true, true, true, true, false]) h7777q rfl rfl (by kernel_rfl) rfl rfl ⟨((hS7506q.bring 1 rfl rfl).cell (i := 1) rfl), ((hS7506q.bring 1 rfl rfl).cell (i := 2) rfl), ((hS7506q.bring 1 rfl rfl).cell (i := 0) rfl), trivial⟩ (fun _ _ _ h_ => h_) (fun a7778q h7779q => ?_)
              clear h7777q a7776q
              refine WH.take 33 (listed' := #[true, true, true, true, true, true, true, true, true, true, true, true, true, true, true, true, true, true, true, true, true, true, true, true, true, true, true, true, true, true, true, true, true, true]) h7779q rfl rfl (by kernel_rfl) rfl rfl (.bool true) (fun _ _ => by kernel_rfl) ⟨((hS7506q.bring 1 rfl rfl).cell (i := 1) rfl), ((hS7506q.bring 1 rfl rfl).cell (i := 2) rfl), ((hS7506q.bring 1 rfl rfl).cell (i := 0) rfl), trivial⟩ (fun _ _ _ h_ => h_) (fun a7780q h7781q => ?_)
              clear h7779q a7778q
              refine WH.done (by kernel_rfl) ?_
              refine wp_then h7781q rfl ?_
              refine wp_seq ?_
              refine WL.start ?_
              refine WL.block (c := 1) (m' := 1) h7781q rfl [(6, .bool false)] (by kernel_rfl) (fun a7782q h7783q => ?_)
              clear h7781q a7780q
              refine WL.done (by kernel_rfl) ?_
              refine wp_ret ?_
              have hS7784q : St b w0 W7499q R ([(g6403q, .cells ([.int .i64 x6718q, .int .i64 x6719q, .int .i64 x6720q, .int .i64 x6721q] : List Value).toArray 28 (0, 0))] :: [(g6414q, .cells ([.int .u8 x6434q, .int .u32 x6435q] : List Value).toArray 31 (0, 0))] :: Fs) := hS7506q.drop_
              have hS7785q : St b w0 W7499q R ([(g6414q, .cells ([.int .u8 x6434q, .int .u32 x6435q] : List Value).toArray 31 (0, 0))] :: Fs) := hS7784q.drop_
              have hS7786q : St b w0 W7499q R (Fs) := hS7785q.drop_
              obtain rfl := Option.some.inj H
              repeat (first | refine then_ret ?_ | refine inBlock_ret ?_ | refine inBlock_go ?_)
              refine body_ret (v := .bool false) h7783q (by kernel_rfl) (by kernel_rfl) ?_
              exact ⟨rfl, hS7786q⟩
        · rw [if_neg c6467q] at H
          cases H
      · rw [if_neg c6466q] at H
        have hb_ : (decide (x6462q < (p2.length : Int))) = false := decide_eq_false c6466q
        try rw [hb_] at h6465q
        clear hb_
        refine wp_else h6465q rfl ?_
        refine wp_exit ?_
        refine wp_seq ?_
        refine WL.start ?_
        obtain ⟨r7788q, A7787q, H⟩ := bind1 H
        refine WL.op' (m := 0) h6465q rfl rfl ?_
        refine owp_call [] h6465q rfl (by kernel_rfl) rfl Try.func9 (by kernel_rfl) rfl (by kernel_rfl) (louverlaw10qfixed.calls  A7787q hS6453q) (fun e7790q W7789q hp7791q => ?_)
        obtain ⟨rfl, hS7794q⟩ := hp7791q
        refine ⟨_, rfl, fun a7792q h7793q => ?_⟩
        clear h6465q a6464q
        refine WL.block (c := 1) (m' := 2) h7793q rfl [(6, .bool r7788q)] (by kernel_rfl) (fun a7795q h7796q => ?_)
        clear h7793q a7792q
        refine WL.done (by kernel_rfl) ?_
        refine wp_ret ?_
        have hS7797q : St b w0 W7789q R ([(g6403q, .cells ([.int .i64 x6458q, .int .i64 x6459q, .int .i64 x6460q, .int .i64 x6461q] : List Value).toArray 28 (0, 0))] :: [(g6414q, .cells ([.int .u8 x6434q, .int .u32 x6435q] : List Value).toArray 31 (0, 0))] :: Fs) := hS7794q.drop_
        have hS7798q : St b w0 W7789q R ([(g6414q, .cells ([.int .u8 x6434q, .int .u32 x6435q] : List Value).toArray 31 (0, 0))] :: Fs) := hS7797q.drop_
        have hS7799q : St b w0 W7789q R (Fs) := hS7798q.drop_
        obtain rfl := Option.some.inj H
        repeat (first | refine then_ret ?_ | refine inBlock_ret ?_ | refine inBlock_go ?_)
        refine body_ret (v := .bool r7788q) h7796q (by kernel_rfl) (by kernel_rfl) ?_
        exact ⟨rfl, hS7799q⟩

/-! ### louver/louverlaw10.WindowWhole -/
def louverlaw10qWindowWhole.l0 : Nat → S63 → Int → (List Int) → Int → Option (Bool)
  | 0, _, _, _, _ => none
  | k + 1, x8184q, x8187q, p1, r8166q => if x8187q < (p1.length : Int) then (if 0 ≤ x8187q then (bnd2 (window_Meter_Come.f x8184q (IntKind.i64.wrap (gt (0 : Int) p1 x8187q))) fun r8211q r8212q => (if (decide (r8211q.f0 = 0) && decide (r8211q.f1 = 0)) = true then (bnd2 (window_Meter_Use.f r8212q (IntKind.i64.wrap (gt (0 : Int) p1 x8187q))) fun r8229q r8230q => (bnd1 (window_Meter_Owed.f r8230q) fun r8242q => (if r8242q = 0 then (bnd1 (window_Meter_Left.f r8230q) fun r8259q => (if (IntKind.i64.wrap (r8166q - r8259q)) > (IntKind.i64.wrap (Int.tdiv r8166q 2)) then (some false) else (louverlaw10qWindowWhole.l0 k r8230q (IntKind.i64.wrap (x8187q + 1)) p1 r8166q))) else (some false)))) else (louverlaw10qWindowWhole.l0 k r8212q (IntKind.i64.wrap (x8187q + 1)) p1 r8166q))) else (none)) else (bnd1 (louverlaw10qfixed.f) fun r8306q => (some r8306q))
def louverlaw10qWindowWhole.f (k : Nat) (p0 : Int) (p1 : (List Int)) : Option (Bool) := if (p1.length : Int) > 2000 then (bnd1 (louverlaw10qfixed.f) fun r8139q => (some r8139q)) else (bnd1 (window_Of.f p0 false) fun r8151q => (bnd1 (window_Meter_Left.f r8151q) fun r8166q => (louverlaw10qWindowWhole.l0 k r8151q 0 p1 r8166q)))
set_option maxHeartbeats 2000000 in
set_option maxRecDepth 100000 in
theorem louverlaw10qWindowWhole.calls (k : Nat) {b : Nat} {w0 W : World} {R : Frag} {Fs : List Frag} {p0 : Int} {p1 : (List Int)} {v1 : Value} {r0q : Bool} (hp1 : Rds (kInt .u16) b w0 R v1 p1) (H : louverlaw10qWindowWhole.f k p0 p1 = some r0q) (hS : St b w0 W R (Fs)) :
    Calls Try.prog 4 ([.int .u32 p0, v1] : List Value).toArray W (fun e W' => e = .returned (.bool r0q) ∧ St b w0 W' R (Fs)) := by
  obtain ⟨A1, c1, rfl⟩ := hp1.form
  unfold louverlaw10qWindowWhole.f at H
  refine calls_enter Try.func4 rfl 47 rfl (by kernel_rfl) (fun a h => ?_)
  refine wp_seq ?_
  refine WL.start ?_
  refine WL.block (c := 1) (m' := 1) h rfl [(4, .bool false)] (by kernel_rfl) (fun a8133q h8134q => ?_)
  refine WL.done (by kernel_rfl) ?_
  refine wp_seq ?_
  refine wp_seq ?_
  refine WL.start ?_
  refine WL.block (c := 3) (m' := 3) h8134q rfl [(11, .bool (decide ((p1.length : Int) > 2000))), (10, .int .i64 (p1.length : Int)), (9, .slice A1 p1.length c1)] (by kernel_rfl) (fun a8135q h8136q => ?_)
  clear h8134q a8133q
  refine WL.done (by kernel_rfl) ?_
  by_cases c8137q : (p1.length : Int) > 2000
  · rw [if_pos c8137q] at H
    have hb_ : (decide ((p1.length : Int) > 2000)) = true := decide_eq_true c8137q
    try rw [hb_] at h8136q
    clear hb_
    refine wp_then h8136q rfl ?_
    refine wp_seq ?_
    refine WL.start ?_
    obtain ⟨r8139q, A8138q, H⟩ := bind1 H
    refine WL.op' (m := 0) h8136q rfl rfl ?_
    refine owp_call [] h8136q rfl (by kernel_rfl) rfl Try.func9 (by kernel_rfl) rfl (by kernel_rfl) (louverlaw10qfixed.calls  A8138q hS) (fun e8141q W8140q hp8142q => ?_)
    obtain ⟨rfl, hS8145q⟩ := hp8142q
    refine ⟨_, rfl, fun a8143q h8144q => ?_⟩
    clear h8136q a8135q
    refine WL.block (c := 1) (m' := 2) h8144q rfl [(4, .bool r8139q)] (by kernel_rfl) (fun a8146q h8147q => ?_)
    clear h8144q a8143q
    refine WL.done (by kernel_rfl) ?_
    refine wp_ret ?_
    obtain rfl := Option.some.inj H
    repeat (first | refine then_ret ?_ | refine inBlock_ret ?_ | refine inBlock_go ?_)
    refine body_ret (v := .bool r8139q) h8147q (by kernel_rfl) (by kernel_rfl) ?_
    exact ⟨rfl, hS8145q⟩
  · rw [if_neg c8137q] at H
    have hb_ : (decide ((p1.length : Int) > 2000)) = false := decide_eq_false c8137q
    try rw [hb_] at h8136q
    clear hb_
    refine wp_else h8136q rfl ?_
    refine wp_skip ?_
    refine wp_seq ?_
    refine WL.start ?_
    refine WL.block (c := 1) (m' := 1) h8136q rfl [(13, .int .u32 p0)] (by kernel_rfl) (fun a8148q h8149q => ?_)
    clear h8136q a8135q
    obtain ⟨r8151q, A8150q, H⟩ := bind1 H
    refine WL.op' (m := 1) h8149q rfl rfl ?_
    refine owp_call [.int .u32 p0, .bool false] h8149q rfl (by kernel_rfl) rfl Try.func10 (by kernel_rfl) rfl (by kernel_rfl) (window_Of.calls  A8150q hS) (fun e8153q W8152q hp8154q => ?_)
    obtain ⟨v8157q, M8158q, rfl, hr8159q, hS8160q⟩ := hp8154q
    refine ⟨_, rfl, fun a8155q h8156q => ?_⟩
    clear h8149q a8148q
    refine WL.block (c := 1) (m' := 3) h8156q rfl [(5, v8157q)] (by kernel_rfl) (fun a8161q h8162q => ?_)
    clear h8156q a8155q
    refine WL.done (by kernel_rfl) ?_
    refine wp_seq ?_
    refine WL.start ?_
    refine WL.block (c := 1) (m' := 1) h8162q rfl [(15, v8157q)] (by kernel_rfl) (fun a8163q h8164q => ?_)
    clear h8162q a8161q
    obtain ⟨r8166q, A8165q, H⟩ := bind1 H
    refine WL.op' (m := 1) h8164q rfl rfl ?_
    refine owp_call [v8157q] h8164q rfl (by kernel_rfl) rfl Try.func16 (by kernel_rfl) rfl (by kernel_rfl) (window_Meter_Left.calls hr8159q A8165q hS8160q) (fun e8168q W8167q hp8169q => ?_)
    obtain ⟨M8172q, rfl, hr8173q, hS8174q⟩ := hp8169q
    refine ⟨_, rfl, fun a8170q h8171q => ?_⟩
    clear h8164q a8163q
    refine WL.block (c := 1) (m' := 3) h8171q rfl [(6, .int .i64 r8166q)] (by kernel_rfl) (fun a8175q h8176q => ?_)
    clear h8171q a8170q
    refine WL.done (by kernel_rfl) ?_
    refine wp_seq ?_
    refine wp_seq ?_
    refine WL.start ?_
    refine WL.block (c := 3) (m' := 3) h8176q rfl [(19, .int .i64 0), (18, .int .i64 (p1.length : Int)), (17, .slice A1 p1.length c1)] (by kernel_rfl) (fun a8177q h8178q => ?_)
    clear h8176q a8175q
    refine WL.done (by kernel_rfl) ?_
    refine wp_block ?_
    refine wp_loop_ghost (fun kq_ a_ W_ => ∃ (x8184q : S63), ∃ (M8185q : Frag), ∃ (x8187q : Int), Hd a_ 47 [(5, v8157q), (6, .int .i64 r8166q), (17, .slice A1 p1.length c1), (18, .int .i64 (p1.length : Int)), (19, .int .i64 x8187q)] ∧ Asd (louverlaw10qWindowWhole.l0 kq_ x8184q x8187q p1 r8166q = some r0q) ∧ Asd (kq_ ≤ k) ∧ Asd (St b w0 W_ R (M8185q :: Fs)) ∧ Asd (Ptr k63 63 b w0 R v8157q x8184q M8185q)) k ⟨r8151q, M8172q, 0, h8178q.keep ⟨rfl, rfl, rfl, rfl, rfl, trivial⟩, ⟨H⟩, ⟨Nat.le_refl _⟩, ⟨hS8174q⟩, ⟨hr8173q⟩⟩ ?_
    clear H hS8174q
    rintro k8183q a8180q W8181q ⟨x8184q, M8185q, x8187q, h8179q, ⟨H⟩, ⟨hkk8183q⟩, ⟨hS8182q⟩, ⟨hr8186q⟩⟩
    obtain _ | k8188q := k8183q
    · exact absurd H (by simp [louverlaw10qWindowWhole.l0])
    simp only [louverlaw10qWindowWhole.l0] at H
    refine wp_seq ?_
    refine WL.start ?_
    refine WL.block (c := 1) (m' := 1) h8179q rfl [(20, .bool (decide (x8187q < (p1.length : Int))))] (by kernel_rfl) (fun a8189q h8190q => ?_)
    clear h8179q a8180q
    refine WL.done (by kernel_rfl) ?_
    refine wp_seq ?_
    by_cases c8191q : x8187q < (p1.length : Int)
    · rw [if_pos c8191q] at H
      have hb_ : (decide (x8187q < (p1.length : Int))) = true := decide_eq_true c8191q
      try rw [hb_] at h8190q
      clear hb_
      refine wp_then h8190q rfl ?_
      refine wp_skip ?_
      refine wp_seq ?_
      refine wp_block ?_
      refine wp_seq ?_
      refine WL.start ?_
      by_cases c8192q : 0 ≤ x8187q
      · rw [if_pos c8192q] at H
        have hi8195q : 0 ≤ x8187q := by first | assumption | omega
        have hi8196q : x8187q < (p1.length : Int) := by first | assumption | omega
        obtain ⟨ad8193q, _, ha8194q, -, -⟩ := Rds.elemAny hp1 hi8195q (gt_get (z := (0 : Int)) hi8195q hi8196q)
        refine WL.op' (m := 0) h8190q rfl rfl ?_
        refine owp_run (v := .pointer (some (ad8193q.add (x8187q.toNat * 1)))) h8190q rfl (by kernel_rfl) (run_idx (ad := ad8193q) (sz := 1) rfl (by rw [← ha8194q]; rfl) rfl Try.underlying43 (by kernel_rfl) hi8195q hi8196q) (fun a8197q h8198q => ?_)
        clear h8190q a8189q
        obtain ⟨ad8199q, cs8200q, ha8201q, hr8203q, hc8202q⟩ := Rds.elemAny hp1 hi8195q (gt_get (z := (0 : Int)) hi8195q hi8196q)
        rw [ha8194q] at ha8201q; obtain rfl := Option.some.inj ha8201q
        obtain rfl : cs8200q = [.int .u16 (gt (0 : Int) p1 x8187q)] := hr8203q
        refine WL.op' (m := 1) h8198q rfl rfl ?_
        refine owp_run (v := .int .u16 (gt (0 : Int) p1 x8187q)) h8198q rfl (by kernel_rfl) (run_load1 rfl rfl Try.underlying44 rfl (cell0 (hc8202q _ (fun _ _ hk_ => hS8182q.kn hk_)))) (fun a8204q h8205q => ?_)
        clear h8198q a8197q
        refine WL.block (c := 1) (m' := 3) h8205q rfl [(8, .int .u16 (gt (0 : Int) p1 x8187q))] (by kernel_rfl) (fun a8206q h8207q => ?_)
        clear h8205q a8204q
        refine WL.done (by kernel_rfl) ?_
        refine wp_seq ?_
        refine wp_seq ?_
        refine WL.start ?_
        refine WL.block (c := 3) (m' := 3) h8207q rfl [(25, .int .i64 (IntKind.i64.wrap (gt (0 : Int) p1 x8187q))), (24, .int .u16 (gt (0 : Int) p1 x8187q)), (23, v8157q)] (by kernel_rfl) (fun a8208q h8209q => ?_)
        clear h8207q a8206q
        obtain ⟨r8211q, r8212q, A8210q, H⟩ := bind2 H
        refine WL.op' (m := 3) h8209q rfl rfl ?_
        refine owp_call [v8157q, .int .i64 (IntKind.i64.wrap (gt (0 : Int) p1 x8187q))] h8209q rfl (by kernel_rfl) rfl Try.func13 (by kernel_rfl) rfl (by kernel_rfl) (window_Meter_Come.calls hr8186q A8210q hS8182q) (fun e8214q W8213q hp8215q => ?_)
        obtain ⟨M8218q, rfl, hr8219q, hS8220q⟩ := hp8215q
        refine ⟨_, rfl, fun a8216q h8217q => ?_⟩
        clear h8209q a8208q
        refine WL.block (c := 1) (m' := 5) h8217q rfl [(27, .agg #[.int .u8 0, .int .u32 0])] (by kernel_rfl) (fun a8221q h8222q => ?_)
        clear h8217q a8216q
        refine WL.op' (m := 5) h8222q rfl rfl ?_
        refine owp_run (v := .bool (!(decide (r8211q.f0 = 0) && decide (r8211q.f1 = 0)))) h8222q rfl (by kernel_rfl) (run_stne (xs := [.int .u8 r8211q.f0, .int .u32 r8211q.f1]) (ys := [.int .u8 0, .int .u32 0]) rfl rfl rfl (by kernel_rfl) (eqs_of Try.underlying31 (by kernel_rfl) (eqf_cons rfl (by kernel_rfl) rfl rfl (eqi_int Try.underlying5) (eqf_last rfl (by kernel_rfl) rfl rfl (eqi_int Try.underlying22))))) (fun a8223q h8224q => ?_)
        clear h8222q a8221q
        refine WL.done (by kernel_rfl) ?_
        by_cases c8225q : (decide (r8211q.f0 = 0) && decide (r8211q.f1 = 0)) = true
        · rw [if_pos c8225q] at H
          have hb_ : (decide (r8211q.f0 = 0) && decide (r8211q.f1 = 0)) = true := c8225q
          try rw [hb_] at h8224q
          clear hb_
          refine wp_else h8224q rfl ?_
          refine wp_skip ?_
          refine wp_seq ?_
          refine WL.start ?_
          refine WL.block (c := 3) (m' := 3) h8224q rfl [(31, .int .i64 (IntKind.i64.wrap (gt (0 : Int) p1 x8187q))), (30, .int .u16 (gt (0 : Int) p1 x8187q)), (29, v8157q)] (by kernel_rfl) (fun a8226q h8227q => ?_)
          clear h8224q a8223q
          obtain ⟨r8229q, r8230q, A8228q, H⟩ := bind2 H
          refine WL.op' (m := 3) h8227q rfl rfl ?_
          refine owp_call [v8157q, .int .i64 (IntKind.i64.wrap (gt (0 : Int) p1 x8187q))] h8227q rfl (by kernel_rfl) rfl Try.func15 (by kernel_rfl) rfl (by kernel_rfl) (window_Meter_Use.calls hr8219q A8228q hS8220q) (fun e8232q W8231q hp8233q => ?_)
          obtain ⟨M8236q, rfl, hr8237q, hS8238q⟩ := hp8233q
          refine ⟨_, rfl, fun a8234q h8235q => ?_⟩
          clear h8227q a8226q
          refine WL.done (by kernel_rfl) ?_
          refine wp_seq ?_
          refine WL.start ?_
          refine WL.block (c := 1) (m' := 1) h8235q rfl [(33, v8157q)] (by kernel_rfl) (fun a8239q h8240q => ?_)
          clear h8235q a8234q
          obtain ⟨r8242q, A8241q, H⟩ := bind1 H
          refine WL.op' (m := 1) h8240q rfl rfl ?_
          refine owp_call [v8157q] h8240q rfl (by kernel_rfl) rfl Try.func17 (by kernel_rfl) rfl (by kernel_rfl) (window_Meter_Owed.calls hr8237q A8241q hS8238q) (fun e8244q W8243q hp8245q => ?_)
          obtain ⟨M8248q, rfl, hr8249q, hS8250q⟩ := hp8245q
          refine ⟨_, rfl, fun a8246q h8247q => ?_⟩
          clear h8240q a8239q
          refine WL.block (c := 2) (m' := 4) h8247q rfl [(36, .bool (!decide (r8242q = 0))), (35, .bool (!decide (r8242q = 0)))] (by kernel_rfl) (fun a8251q h8252q => ?_)
          clear h8247q a8246q
          by_cases c8253q : r8242q = 0
          · rw [if_pos c8253q] at H
            have hb_ : (decide (r8242q = 0)) = true := decide_eq_true c8253q
            try rw [hb_] at h8252q
            clear hb_
            refine WL.op' (m := 4) h8252q rfl rfl (owp_run h8252q rfl (by kernel_rfl) (v := .int .i64 r8166q) (by kernel_rfl) (fun a8254q h8255q => ?_))
            clear h8252q a8251q
            refine WL.op' (m := 5) h8255q rfl rfl (owp_run h8255q rfl (by kernel_rfl) (v := v8157q) (by kernel_rfl) (fun a8256q h8257q => ?_))
            clear h8255q a8254q
            obtain ⟨r8259q, A8258q, H⟩ := bind1 H
            refine WL.op' (m := 6) h8257q rfl rfl ?_
            refine owp_call [v8157q] h8257q rfl (by kernel_rfl) rfl Try.func16 (by kernel_rfl) rfl (by kernel_rfl) (window_Meter_Left.calls hr8249q A8258q hS8250q) (fun e8261q W8260q hp8262q => ?_)
            obtain ⟨M8265q, rfl, hr8266q, hS8267q⟩ := hp8262q
            refine ⟨_, rfl, fun a8263q h8264q => ?_⟩
            clear h8257q a8256q
            refine WL.op' (m := 7) h8264q rfl rfl (owp_run h8264q rfl (by kernel_rfl) (v := .int .i64 (IntKind.i64.wrap (r8166q - r8259q))) (by kernel_rfl) (fun a8268q h8269q => ?_))
            clear h8264q a8263q
            refine WL.op' (m := 8) h8269q rfl rfl (owp_run h8269q rfl (by kernel_rfl) (v := .int .i64 r8166q) (by kernel_rfl) (fun a8270q h8271q => ?_))
            clear h8269q a8268q
            refine WL.op' (m := 9) h8271q rfl rfl (owp_run h8271q rfl (by kernel_rfl) (v := .int .i64 (IntKind.i64.wrap (Int.tdiv r8166q 2))) (by kernel_rfl) (fun a8272q h8273q => ?_))
            clear h8271q a8270q
            refine WL.op' (m := 10) h8273q rfl rfl (owp_run h8273q rfl (by kernel_rfl) (v := .bool (decide ((IntKind.i64.wrap (r8166q - r8259q)) > (IntKind.i64.wrap (Int.tdiv r8166q 2))))) (by kernel_rfl) (fun a8274q h8275q => ?_))
            clear h8273q a8272q
            refine WL.block (c := 1) (m' := 12) h8275q rfl [(44, .bool (decide ((IntKind.i64.wrap (r8166q - r8259q)) > (IntKind.i64.wrap (Int.tdiv r8166q 2)))))] (by kernel_rfl) (fun a8276q h8277q => ?_)
            clear h8275q a8274q
            refine WL.done (by kernel_rfl) ?_
            by_cases c8278q : (IntKind.i64.wrap (r8166q - r8259q)) > (IntKind.i64.wrap (Int.tdiv r8166q 2))
            · rw [if_pos c8278q] at H
              have hb_ : (decide ((IntKind.i64.wrap (r8166q - r8259q)) > (IntKind.i64.wrap (Int.tdiv r8166q 2)))) = true := decide_eq_true c8278q
              try rw [hb_] at h8277q
              clear hb_
              refine wp_then h8277q rfl ?_
              refine wp_seq ?_
              refine WL.start ?_
              refine WL.block (c := 1) (m' := 1) h8277q rfl [(4, .bool false)] (by kernel_rfl) (fun a8279q h8280q => ?_)
              clear h8277q a8276q
              refine WL.done (by kernel_rfl) ?_
              refine wp_ret ?_
              have hS8281q : St b w0 W8260q R (Fs) := hS8267q.drop_
              obtain rfl := Option.some.inj H
              repeat (first | refine then_ret ?_ | refine inBlock_ret ?_ | refine inBlock_go ?_)
              refine body_ret (v := .bool false) h8280q (by kernel_rfl) (by kernel_rfl) ?_
              exact ⟨rfl, hS8281q⟩
            · rw [if_neg c8278q] at H
              have hb_ : (decide ((IntKind.i64.wrap (r8166q - r8259q)) > (IntKind.i64.wrap (Int.tdiv r8166q 2)))) = false := decide_eq_false c8278q
              try rw [hb_] at h8277q
              clear hb_
              refine wp_else h8277q rfl ?_
              refine wp_skip ?_
              refine WL.start ?_
              refine WL.block (c := 2) (m' := 2) h8277q rfl [(19, .int .i64 (IntKind.i64.wrap (x8187q + 1))), (45, .int .i64 (IntKind.i64.wrap (x8187q + 1)))] (by kernel_rfl) (fun a8282q h8283q => ?_)
              clear h8277q a8276q
              refine WL.done (by kernel_rfl) ?_
              exact ⟨k8188q, by omega, r8230q, M8265q, IntKind.i64.wrap (x8187q + 1), h8283q.keep ⟨rfl, rfl, rfl, rfl, rfl, trivial⟩, ⟨H⟩, ⟨by omega⟩, ⟨hS8267q⟩, ⟨hr8266q⟩⟩
          · rw [if_neg c8253q] at H
            have hb_ : (decide (r8242q = 0)) = false := decide_eq_false c8253q
            try rw [hb_] at h8252q
            clear hb_
            refine WL.skipped (m := 4) h8252q rfl rfl (by kernel_rfl) rfl (fun a8284q h8285q => ?_)
            clear h8252q a8251q
            refine WL.skipped (m := 5) h8285q rfl rfl (by kernel_rfl) rfl (fun a8286q h8287q => ?_)
            clear h8285q a8284q
            refine WL.skipped (m := 6) h8287q rfl rfl (by kernel_rfl) rfl (fun a8288q h8289q => ?_)
            clear h8287q a8286q
            refine WL.skipped (m := 7) h8289q rfl rfl (by kernel_rfl) rfl (fun a8290q h8291q => ?_)
            clear h8289q a8288q
            refine WL.skipped (m := 8) h8291q rfl rfl (by kernel_rfl) rfl (fun a8292q h8293q => ?_)
            clear h8291q a8290q
            refine WL.skipped (m := 9) h8293q rfl rfl (by kernel_rfl) rfl (fun a8294q h8295q => ?_)
            clear h8293q a8292q
            refine WL.skipped (m := 10) h8295q rfl rfl (by kernel_rfl) rfl (fun a8296q h8297q => ?_)
            clear h8295q a8294q
            refine WL.block (c := 1) (m' := 12) h8297q rfl [(44, .bool true)] (by kernel_rfl) (fun a8298q h8299q => ?_)
            clear h8297q a8296q
            refine WL.done (by kernel_rfl) ?_
            refine wp_then h8299q rfl ?_
            refine wp_seq ?_
            refine WL.start ?_
            refine WL.block (c := 1) (m' := 1) h8299q rfl [(4, .bool false)] (by kernel_rfl) (fun a8300q h8301q => ?_)
            clear h8299q a8298q
            refine WL.done (by kernel_rfl) ?_
            refine wp_ret ?_
            have hS8302q : St b w0 W8243q R (Fs) := hS8250q.drop_
            obtain rfl := Option.some.inj H
            repeat (first | refine then_ret ?_ | refine inBlock_ret ?_ | refine inBlock_go ?_)
            refine body_ret (v := .bool false) h8301q (by kernel_rfl) (by kernel_rfl) ?_
            exact ⟨rfl, hS8302q⟩
        · rw [if_neg c8225q] at H
          have hb_ : (decide (r8211q.f0 = 0) && decide (r8211q.f1 = 0)) = false := (Bool.eq_false_iff.2 c8225q)
          try rw [hb_] at h8224q
          clear hb_
          refine wp_then h8224q rfl ?_
          refine wp_exit ?_
          refine WL.start ?_
          refine WL.block (c := 2) (m' := 2) h8224q rfl [(19, .int .i64 (IntKind.i64.wrap (x8187q + 1))), (45, .int .i64 (IntKind.i64.wrap (x8187q + 1)))] (by kernel_rfl) (fun a8303q h8304q => ?_)
          clear h8224q a8223q
          refine WL.done (by kernel_rfl) ?_
          exact ⟨k8188q, by omega, r8212q, M8218q, IntKind.i64.wrap (x8187q + 1), h8304q.keep ⟨rfl, rfl, rfl, rfl, rfl, trivial⟩, ⟨H⟩, ⟨by omega⟩, ⟨hS8220q⟩, ⟨hr8219q⟩⟩
      · rw [if_neg c8192q] at H
        cases H
    · rw [if_neg c8191q] at H
      have hb_ : (decide (x8187q < (p1.length : Int))) = false := decide_eq_false c8191q
      try rw [hb_] at h8190q
      clear hb_
      refine wp_else h8190q rfl ?_
      refine wp_exit ?_
      refine wp_seq ?_
      refine WL.start ?_
      obtain ⟨r8306q, A8305q, H⟩ := bind1 H
      refine WL.op' (m := 0) h8190q rfl rfl ?_
      refine owp_call [] h8190q rfl (by kernel_rfl) rfl Try.func9 (by kernel_rfl) rfl (by kernel_rfl) (louverlaw10qfixed.calls  A8305q hS8182q) (fun e8308q W8307q hp8309q => ?_)
      obtain ⟨rfl, hS8312q⟩ := hp8309q
      refine ⟨_, rfl, fun a8310q h8311q => ?_⟩
      clear h8190q a8189q
      refine WL.block (c := 1) (m' := 2) h8311q rfl [(4, .bool r8306q)] (by kernel_rfl) (fun a8313q h8314q => ?_)
      clear h8311q a8310q
      refine WL.done (by kernel_rfl) ?_
      refine wp_ret ?_
      have hS8315q : St b w0 W8307q R (Fs) := hS8312q.drop_
      obtain rfl := Option.some.inj H
      repeat (first | refine then_ret ?_ | refine inBlock_ret ?_ | refine inBlock_go ?_)
      refine body_ret (v := .bool r8306q) h8314q (by kernel_rfl) (by kernel_rfl) ?_
      exact ⟨rfl, hS8315q⟩

structure S68 where
  f0 : Int
  f1 : Bool
  deriving DecidableEq
def z68 : S68 := ⟨(0 : Int), false⟩
def k68 : Kd S68 := kIso (kPair (kInt .i64) kBool) (fun x : S68 => (x.f0, x.f1))
theorem k68qflat : k68.Flat := kIso_flat (kPair_flat (kInt_flat _) kBool_flat)
theorem k68qrd {b : Nat} {w0 : World} {R : Frag} {x : S68} {cs : List Value} (h : k68.rd b w0 R x cs) : cs = [.int .i64 x.f0, .bool x.f1] := by
  obtain ⟨c8316q, c8317q, rfl, h8318q, h8319q⟩ := h
  obtain rfl := h8318q
  obtain rfl := h8319q
  exact rfl
theorem k68qrep {b : Nat} {w0 : World} {R : Frag} {x : S68} {cs : List Value} {M : Frag} (h : k68.rep b w0 R x cs M) : cs = [.int .i64 x.f0, .bool x.f1] ∧ M = [] := by
  obtain ⟨c8320q, c8321q, M8324q, M8325q, rfl, rfl, h8322q, h8323q⟩ := h
  obtain ⟨rfl, rfl⟩ := h8322q
  obtain ⟨rfl, rfl⟩ := h8323q
  exact ⟨rfl, by simp⟩
theorem k68qmk {b : Nat} {w0 : World} {R : Frag} {x : S68}  : ∃ M, k68.rep b w0 R x [.int .i64 x.f0, .bool x.f1] M ∧ M = [] := ⟨_, ⟨_, _, _, _, rfl, rfl, ⟨rfl, rfl⟩, ⟨rfl, rfl⟩⟩, by simp⟩
/-! ### louver/window.New -/
def window_New.f (p0 : Int) (p1 : Bool) : Option (S68) := some (⟨mnI (mxI p0 (-2147483648)) 2147483647, p1⟩ : S68)
set_option maxHeartbeats 2000000 in
set_option maxRecDepth 100000 in
theorem window_New.calls {b : Nat} {w0 W : World} {R : Frag} {Fs : List Frag} {p0 : Int} {p1 : Bool}  {r0q : S68}  (H : window_New.f p0 p1 = some r0q) (hS : St b w0 W R (Fs)) :
    Calls Try.prog 18 ([.int .i64 p0, .bool p1] : List Value).toArray W (fun e W' => ∃ (u0q : Value) (N0q : Frag), e = .returned (u0q) ∧ Ptr k68 68 b w0 R u0q r0q N0q ∧ St b w0 W' R (N0q :: Fs)) := by
  unfold window_New.f at H
  refine calls_enter Try.func18 rfl 11 rfl (by kernel_rfl) (fun a h => ?_)
  refine wp_seq ?_
  refine WL.start ?_
  refine WL.block (c := 1) (m' := 1) h rfl [(4, .pointer none)] (by kernel_rfl) (fun a8343q h8344q => ?_)
  refine WL.done (by kernel_rfl) ?_
  refine wp_seq ?_
  refine WL.start ?_
  refine WL.block (c := 5) (m' := 5) h8344q rfl [(9, .agg #[.int .i64 (mnI (mxI p0 (-2147483648)) 2147483647), .bool p1]), (8, .bool p1), (7, .int .i64 (mnI (mxI p0 (-2147483648)) 2147483647)), (6, .int .i64 (mxI p0 (-2147483648))), (5, .int .i64 p0)] (by kernel_rfl) (fun a8345q h8346q => ?_)
  clear h8344q a8343q
  refine WL.op' (m := 5) h8346q rfl rfl ?_
  refine owp_new (fun g_ => .pointer (some ⟨g_, 0, none⟩)) (.cells ([.int .i64 (mnI (mxI p0 (-2147483648)) 2147483647), .bool p1] : List Value).toArray 68 (0, 0)) h8346q rfl (by kernel_rfl) (by kernel_rfl) hS (fun a8347q W8349q g8350q h8348q hS8351q => ?_)
  clear h8346q a8345q
  refine WL.block (c := 1) (m' := 7) h8348q rfl [(4, .pointer (some ⟨g8350q, 0, none⟩))] (by kernel_rfl) (fun a8352q h8353q => ?_)
  clear h8348q a8347q
  refine WL.done (by kernel_rfl) ?_
  refine wp_ret ?_
  obtain ⟨M8355q, hr8354q, hM_⟩ := k68qmk (b := b) (w0 := w0) (R := R) (x := (⟨mnI (mxI p0 (-2147483648)) 2147483647, p1⟩ : S68)) 
  have hp8356q : Ptr k68 68 b w0 R (.pointer (some ⟨g8350q, 0, none⟩)) (⟨mnI (mxI p0 (-2147483648)) 2147483647, p1⟩ : S68) ((g8350q, .cells ([.int .i64 (mnI (mxI p0 (-2147483648)) 2147483647), .bool p1] : List Value).toArray 68 (0, 0)) :: M8355q) := ⟨_, _, _, rfl, rfl, hr8354q⟩
  rw [hM_] at hp8356q
  have hS8358q : St b w0 W8349q R (((g8350q, .cells ([.int .i64 (mnI (mxI p0 (-2147483648)) 2147483647), .bool p1] : List Value).toArray 68 (0, 0)) :: ([])) :: Fs) := hS8351q.assoc (by simp only [List.flatten_cons, List.append_assoc, List.cons_append, List.nil_append, List.append_nil])
  obtain ⟨M8359q, hM_⟩ : ∃ y : Frag, y = ((g8350q, .cells ([.int .i64 (mnI (mxI p0 (-2147483648)) 2147483647), .bool p1] : List Value).toArray 68 (0, 0)) :: ([])) := ⟨_, rfl⟩
  rw [← hM_] at hp8356q hS8358q
  clear hM_
  obtain rfl := Option.some.inj H
  repeat (first | refine then_ret ?_ | refine inBlock_ret ?_ | refine inBlock_go ?_)
  refine body_ret (v := .pointer (some ⟨g8350q, 0, none⟩)) h8353q (by kernel_rfl) (by kernel_rfl) ?_
  exact ⟨.pointer (some ⟨g8350q, 0, none⟩), M8359q, rfl, hp8356q, hS8358q⟩

/-! ### (*louver/window.Window).Left -/
def window_Window_Left.f (p0 : S68) : Option (Int) := some p0.f0
set_option maxHeartbeats 2000000 in
set_option maxRecDepth 100000 in
theorem window_Window_Left.calls {b : Nat} {w0 W : World} {R : Frag} {Fs : List Frag} {p0 : S68}  {v0 : Value} {M0 : Frag} {r0q : Int} (hp0 : Ptr k68 68 b w0 R v0 p0 M0) (H : window_Window_Left.f p0 = some r0q) (hS : St b w0 W R (M0 :: Fs)) :
    Calls Try.prog 19 ([v0] : List Value).toArray W (fun e W' => ∃ (O0q : Frag), e = .returned (.int .i64 r0q) ∧ Ptr k68 68 b w0 R v0 p0 O0q ∧ St b w0 W' R (O0q :: Fs)) := by
  unfold window_Window_Left.f at H
  refine calls_enter Try.func19 rfl 9 rfl (by kernel_rfl) (fun a h => ?_)
  refine wp_seq ?_
  refine WL.start ?_
  refine WL.block (c := 1) (m' := 1) h rfl [(2, .int .i64 0)] (by kernel_rfl) (fun a8383q h8384q => ?_)
  refine WL.done (by kernel_rfl) ?_
  refine wp_seq ?_
  refine wp_seq ?_
  refine WL.start ?_
  refine WL.block (c := 1) (m' := 1) h8384q rfl [(3, v0)] (by kernel_rfl) (fun a8385q h8386q => ?_)
  clear h8384q a8383q
  obtain ⟨g8387q, cs8388q, M8389q, hv_, hM_, hr8390q⟩ := hp0
  obtain ⟨rfl, hM2q⟩ := k68qrep hr8390q
  subst hM2q
  subst hM_
  subst hv_
  have hS8391q : St b w0 W R ([(g8387q, .cells ([.int .i64 p0.f0, .bool p0.f1] : List Value).toArray 68 (0, 0))] :: Fs) := hS.assoc (by simp only [List.flatten_cons, List.append_assoc, List.cons_append, List.nil_append, List.append_nil])
  refine WL.block (c := 1) (m' := 2) h8386q rfl [(4, .bool false)] (by kernel_rfl) (fun a8392q h8393q => ?_)
  clear h8386q a8385q
  refine WL.done (by kernel_rfl) ?_
  refine wp_else h8393q rfl ?_
  refine wp_skip ?_
  refine wp_seq ?_
  refine WL.start ?_
  refine WL.block (c := 3) (m' := 3) h8393q rfl [(7, .pointer (some ⟨g8387q, 0, none⟩)), (6, .pointer (some ⟨g8387q, 0, none⟩)), (5, .pointer (some ⟨g8387q, 0, none⟩))] (by kernel_rfl) (fun a8394q h8395q => ?_)
  clear h8393q a8392q
  refine WL.op' (m := 3) h8395q rfl rfl ?_
  refine owp_run (v := .int .i64 p0.f0) h8395q rfl (by kernel_rfl) (run_load1 rfl rfl Try.underlying2 rfl (hS8391q.cell (i := 0) rfl)) (fun a8396q h8397q => ?_)
  clear h8395q a8394q
  refine WL.block (c := 1) (m' := 5) h8397q rfl [(2, .int .i64 p0.f0)] (by kernel_rfl) (fun a8398q h8399q => ?_)
  clear h8397q a8396q
  refine WL.done (by kernel_rfl) ?_
  refine wp_ret ?_
  obtain ⟨M8401q, hr8400q, hM_⟩ := k68qmk (b := b) (w0 := w0) (R := R) (x := (⟨p0.f0, p0.f1⟩ : S68)) 
  have hp8402q : Ptr k68 68 b w0 R (.pointer (some ⟨g8387q, 0, none⟩)) (⟨p0.f0, p0.f1⟩ : S68) ((g8387q, .cells ([.int .i64 p0.f0, .bool p0.f1] : List Value).toArray 68 (0, 0)) :: M8401q) := ⟨_, _, _, rfl, rfl, hr8400q⟩
  rw [hM_] at hp8402q
  have hS8404q : St b w0 W R (((g8387q, .cells ([.int .i64 p0.f0, .bool p0.f1] : List Value).toArray 68 (0, 0)) :: ([])) :: Fs) := hS8391q.assoc (by simp only [List.flatten_cons, List.append_assoc, List.cons_append, List.nil_append, List.append_nil])
  obtain ⟨M8405q, hM_⟩ : ∃ y : Frag, y = ((g8387q, .cells ([.int .i64 p0.f0, .bool p0.f1] : List Value).toArray 68 (0, 0)) :: ([])) := ⟨_, rfl⟩
  rw [← hM_] at hp8402q hS8404q
  clear hM_
  obtain rfl := Option.some.inj H
  repeat (first | refine then_ret ?_ | refine inBlock_ret ?_ | refine inBlock_go ?_)
  refine body_ret (v := .int .i64 p0.f0) h8399q (by kernel_rfl) (by kernel_rfl) ?_
  exact ⟨M8405q, rfl, hp8402q, hS8404q⟩

/-! ### (*louver/window.Window).Left -/
def window_Window_Left_nil.f  : Option (Int) := some 0
set_option maxHeartbeats 2000000 in
set_option maxRecDepth 100000 in
theorem window_Window_Left_nil.calls {b : Nat} {w0 W : World} {R : Frag} {Fs : List Frag}   {r0q : Int}  (H : window_Window_Left_nil.f = some r0q) (hS : St b w0 W R (Fs)) :
    Calls Try.prog 19 ([.pointer none] : List Value).toArray W (fun e W' => e = .returned (.int .i64 r0q) ∧ St b w0 W' R (Fs)) := by
  unfold window_Window_Left_nil.f at H
  refine calls_enter Try.func19 rfl 9 rfl (by kernel_rfl) (fun a h => ?_)
  refine wp_seq ?_
  refine WL.start ?_
  refine WL.block (c := 1) (m' := 1) h rfl [(2, .int .i64 0)] (by kernel_rfl) (fun a8412q h8413q => ?_)
  refine WL.done (by kernel_rfl) ?_
  refine wp_seq ?_
  refine wp_seq ?_
  refine WL.start ?_
  refine WL.block (c := 2) (m' := 2) h8413q rfl [(4, .bool true), (3, .pointer none)] (by kernel_rfl) (fun a8414q h8415q => ?_)
  clear h8413q a8412q
  refine WL.done (by kernel_rfl) ?_
  refine wp_then h8415q rfl ?_
  refine wp_seq ?_
  refine WL.start ?_
  refine WL.block (c := 1) (m' := 1) h8415q rfl [(2, .int .i64 0)] (by kernel_rfl) (fun a8416q h8417q => ?_)
  clear h8415q a8414q
  refine WL.done (by kernel_rfl) ?_
  refine wp_ret ?_
  obtain rfl := Option.some.inj H
  repeat (first | refine then_ret ?_ | refine inBlock_ret ?_ | refine inBlock_go ?_)
  refine body_ret (v := .int .i64 0) h8417q (by kernel_rfl) (by kernel_rfl) ?_
  exact ⟨rfl, hS⟩

/-! ### (*louver/window.Window).to -/
def window_Window_to.f (p0 : S68) (p1 : Int) : Option (Bool × S68) := if p1 > 2147483647 then (some (false, p0)) else (some (true, (⟨mxI p1 (-2147483648), p0.f1⟩ : S68)))
set_option maxHeartbeats 2000000 in
set_option maxRecDepth 100000 in
theorem window_Window_to.calls {b : Nat} {w0 W : World} {R : Frag} {Fs : List Frag} {p0 : S68} {p1 : Int}  {v0 : Value} {M0 : Frag} {r0q : Bool} {r1q : S68} (hp0 : Ptr k68 68 b w0 R v0 p0 M0) (H : window_Window_to.f p0 p1 = some (r0q, r1q)) (hS : St b w0 W R (M0 :: Fs)) :
    Calls Try.prog 29 ([v0, .int .i64 p1] : List Value).toArray W (fun e W' => ∃ (O0q : Frag), e = .returned (.bool r0q) ∧ Ptr k68 68 b w0 R v0 r1q O0q ∧ St b w0 W' R (O0q :: Fs)) := by
  unfold window_Window_to.f at H
  refine calls_enter Try.func29 rfl 12 rfl (by kernel_rfl) (fun a h => ?_)
  refine wp_seq ?_
  refine WL.start ?_
  refine WL.block (c := 1) (m' := 1) h rfl [(4, .bool false)] (by kernel_rfl) (fun a8462q h8463q => ?_)
  refine WL.done (by kernel_rfl) ?_
  refine wp_seq ?_
  refine wp_seq ?_
  refine WL.start ?_
  refine WL.block (c := 2) (m' := 2) h8463q rfl [(6, .bool (decide (p1 > 2147483647))), (5, .int .i64 p1)] (by kernel_rfl) (fun a8464q h8465q => ?_)
  clear h8463q a8462q
  refine WL.done (by kernel_rfl) ?_
  by_cases c8466q : p1 > 2147483647
  · rw [if_pos c8466q] at H
    have hb_ : (decide (p1 > 2147483647)) = true := decide_eq_true c8466q
    try rw [hb_] at h8465q
    clear hb_
    refine wp_then h8465q rfl ?_
    refine wp_seq ?_
    refine WL.start ?_
    refine WL.block (c := 1) (m' := 1) h8465q rfl [(4, .bool false)] (by kernel_rfl) (fun a8467q h8468q => ?_)
    clear h8465q a8464q
    refine WL.done (by kernel_rfl) ?_
    refine wp_ret ?_
    obtain ⟨rfl, rfl⟩ := ret2 H
    repeat (first | refine then_ret ?_ | refine inBlock_ret ?_ | refine inBlock_go ?_)
    refine body_ret (v := .bool false) h8468q (by kernel_rfl) (by kernel_rfl) ?_
    exact ⟨M0, rfl, hp0, hS⟩
  · rw [if_neg c8466q] at H
    have hb_ : (decide (p1 > 2147483647)) = false := decide_eq_false c8466q
    try rw [hb_] at h8465q
    clear hb_
    refine wp_else h8465q rfl ?_
    refine wp_skip ?_
    refine wp_seq ?_
    refine WL.start ?_
    refine WL.block (c := 3) (m' := 3) h8465q rfl [(9, .int .i64 (mxI p1 (-2147483648))), (8, .int .i64 p1), (7, v0)] (by kernel_rfl) (fun a8469q h8470q => ?_)
    clear h8465q a8464q
    obtain ⟨g8471q, cs8472q, M8473q, hv_, hM_, hr8474q⟩ := hp0
    obtain ⟨rfl, hM2q⟩ := k68qrep hr8474q
    subst hM2q
    subst hM_
    subst hv_
    have hS8475q : St b w0 W R ([(g8471q, .cells ([.int .i64 p0.f0, .bool p0.f1] : List Value).toArray 68 (0, 0))] :: Fs) := hS.assoc (by simp only [List.flatten_cons, List.append_assoc, List.cons_append, List.nil_append, List.append_nil])
    refine WL.block (c := 2) (m' := 5) h8470q rfl [(11, .pointer (some ⟨g8471q, 0, none⟩)), (10, .pointer (some ⟨g8471q, 0, none⟩))] (by kernel_rfl) (fun a8476q h8477q => ?_)
    clear h8470q a8469q
    refine WL.op' (m := 5) h8477q rfl rfl ?_
    refine owp_store (i := 0) (vs := ([.int .i64 (mxI p1 (-2147483648))] : List Value)) h8477q rfl (by kernel_rfl) rfl rfl rfl rfl (by simp [Value.oneCell']) (by kernel_rfl) hS8475q (by simp) (cs' := ([.int .i64 (mxI p1 (-2147483648)), .bool p0.f1] : List Value)) rfl (fun a8478q W8480q h8479q hS8481q => ?_)
    clear h8477q a8476q
    refine WL.done (by kernel_rfl) ?_
    refine wp_seq ?_
    refine WL.start ?_
    refine WL.block (c := 1) (m' := 1) h8479q rfl [(4, .bool true)] (by kernel_rfl) (fun a8482q h8483q => ?_)
    clear h8479q a8478q
    refine WL.done (by kernel_rfl) ?_
    refine wp_ret ?_
    obtain ⟨M8485q, hr8484q, hM_⟩ := k68qmk (b := b) (w0 := w0) (R := R) (x := (⟨mxI p1 (-2147483648), p0.f1⟩ : S68)) 
    have hp8486q : Ptr k68 68 b w0 R (.pointer (some ⟨g8471q, 0, none⟩)) (⟨mxI p1 (-2147483648), p0.f1⟩ : S68) ((g8471q, .cells ([.int .i64 (mxI p1 (-2147483648)), .bool p0.f1] : List Value).toArray 68 (0, 0)) :: M8485q) := ⟨_, _, _, rfl, rfl, hr8484q⟩
    rw [hM_] at hp8486q
    have hS8488q : St b w0 W8480q R (((g8471q, .cells ([.int .i64 (mxI p1 (-2147483648)), .bool p0.f1] : List Value).toArray 68 (0, 0)) :: ([])) :: Fs) := hS8481q.assoc (by simp only [List.flatten_cons, List.append_assoc, List.cons_append, List.nil_append, List.append_nil])
    obtain ⟨M8489q, hM_⟩ : ∃ y : Frag, y = ((g8471q, .cells ([.int .i64 (mxI p1 (-2147483648)), .bool p0.f1] : List Value).toArray 68 (0, 0)) :: ([])) := ⟨_, rfl⟩
    rw [← hM_] at hp8486q hS8488q
    clear hM_
    obtain ⟨rfl, rfl⟩ := ret2 H
    repeat (first | refine then_ret ?_ | refine inBlock_ret ?_ | refine inBlock_go ?_)
    refine body_ret (v := .bool true) h8483q (by kernel_rfl) (by kernel_rfl) ?_
    exact ⟨M8489q, rfl, hp8486q, hS8488q⟩

/-! ### (*louver/window.Window).Shift -/
def window_Window_Shift.f (p0 : S68) (p1 : Int) (p2 : Int) : Option (S31 × S68) := bnd2 (window_Window_to.f (⟨p0.f0, p0.f1⟩ : S68) (IntKind.i64.wrap ((IntKind.i64.wrap (p0.f0 + (IntKind.i64.wrap p2))) - (IntKind.i64.wrap p1)))) fun r8612q r8613q => (if r8612q = true then (some ((⟨0, 0⟩ : S31), r8613q)) else (some ((⟨1, 3⟩ : S31), r8613q)))
set_option maxHeartbeats 2000000 in
set_option maxRecDepth 100000 in
theorem window_Window_Shift.calls {b : Nat} {w0 W : World} {R : Frag} {Fs : List Frag} {p0 : S68} {p1 : Int} {p2 : Int}  {v0 : Value} {M0 : Frag} {r0q : S31} {r1q : S68} (hp0 : Ptr k68 68 b w0 R v0 p0 M0) (H : window_Window_Shift.f p0 p1 p2 = some (r0q, r1q)) (hS : St b w0 W R (M0 :: Fs)) :
    Calls Try.prog 20 ([v0, .int .u32 p1, .int .u32 p2] : List Value).toArray W (fun e W' => ∃ (O0q : Frag), e = .returned (.agg #[.int .u8 r0q.f0, .int .u32 r0q.f1]) ∧ Ptr k68 68 b w0 R v0 r1q O0q ∧ St b w0 W' R (O0q :: Fs)) := by
  unfold window_Window_Shift.f at H
  refine calls_enter Try.func20 rfl 27 rfl (by kernel_rfl) (fun a h => ?_)
  refine wp_seq ?_
  refine WL.start ?_
  refine WL.op' (m := 0) h rfl rfl ?_
  refine owp_new (fun g_ => .pointer (some ⟨g_, 0, none⟩)) (.cells ([.int .u8 0, .int .u32 0] : List Value).toArray 31 (0, 0)) h rfl (by kernel_rfl) (by kernel_rfl) hS (fun a8584q W8586q g8587q h8585q hS8588q => ?_)
  refine WL.done (by kernel_rfl) ?_
  refine wp_seq ?_
  refine wp_block ?_
  refine wp_seq ?_
  refine WL.start ?_
  refine WL.block (c := 1) (m' := 1) h8585q rfl [(8, v0)] (by kernel_rfl) (fun a8589q h8590q => ?_)
  clear h8585q a8584q
  have hS8591q : St b w0 W8586q R (M0 :: [(g8587q, .cells ([.int .u8 0, .int .u32 0] : List Value).toArray 31 (0, 0))] :: Fs) := hS8588q.bring 1 rfl rfl
  obtain ⟨g8592q, cs8593q, M8594q, hv_, hM_, hr8595q⟩ := hp0
  obtain ⟨rfl, hM2q⟩ := k68qrep hr8595q
  subst hM2q
  subst hM_
  subst hv_
  have hS8596q : St b w0 W8586q R ([(g8592q, .cells ([.int .i64 p0.f0, .bool p0.f1] : List Value).toArray 68 (0, 0))] :: [(g8587q, .cells ([.int .u8 0, .int .u32 0] : List Value).toArray 31 (0, 0))] :: Fs) := hS8591q.assoc (by simp only [List.flatten_cons, List.append_assoc, List.cons_append, List.nil_append, List.append_nil])
  refine WL.block (c := 2) (m' := 3) h8590q rfl [(7, .bool false), (9, .bool false)] (by kernel_rfl) (fun a8597q h8598q => ?_)
  clear h8590q a8589q
  refine WL.done (by kernel_rfl) ?_
  refine wp_else h8598q rfl ?_
  refine wp_seq ?_
  refine WL.start ?_
  refine WL.block (c := 4) (m' := 4) h8598q rfl [(15, .pointer (some ⟨g8592q, 0, none⟩)), (14, .pointer (some ⟨g8592q, 0, none⟩)), (13, .pointer (some ⟨g8592q, 0, none⟩)), (12, .pointer (some ⟨g8592q, 0, none⟩))] (by kernel_rfl) (fun a8599q h8600q => ?_)
  clear h8598q a8597q
  refine WL.op' (m := 4) h8600q rfl rfl ?_
  refine owp_run (v := .int .i64 p0.f0) h8600q rfl (by kernel_rfl) (run_load1 rfl rfl Try.underlying2 rfl (hS8596q.cell (i := 0) rfl)) (fun a8601q h8602q => ?_)
  clear h8600q a8599q
  refine WL.block (c := 6) (m' := 11) h8602q rfl [(22, .int .i64 (IntKind.i64.wrap ((IntKind.i64.wrap (p0.f0 + (IntKind.i64.wrap p2))) - (IntKind.i64.wrap p1)))), (21, .int .i64 (IntKind.i64.wrap p1)), (20, .int .u32 p1), (19, .int .i64 (IntKind.i64.wrap (p0.f0 + (IntKind.i64.wrap p2)))), (18, .int .i64 (IntKind.i64.wrap p2)), (17, .int .u32 p2)] (by kernel_rfl) (fun a8603q h8604q => ?_)
  clear h8602q a8601q
  obtain ⟨M8606q, hr8605q, hM_⟩ := k68qmk (b := b) (w0 := w0) (R := R) (x := (⟨p0.f0, p0.f1⟩ : S68)) 
  have hp8607q : Ptr k68 68 b w0 R (.pointer (some ⟨g8592q, 0, none⟩)) (⟨p0.f0, p0.f1⟩ : S68) ((g8592q, .cells ([.int .i64 p0.f0, .bool p0.f1] : List Value).toArray 68 (0, 0)) :: M8606q) := ⟨_, _, _, rfl, rfl, hr8605q⟩
  rw [hM_] at hp8607q
  have hS8609q : St b w0 W8586q R (((g8592q, .cells ([.int .i64 p0.f0, .bool p0.f1] : List Value).toArray 68 (0, 0)) :: ([])) :: [(g8587q, .cells ([.int .u8 0, .int .u32 0] : List Value).toArray 31 (0, 0))] :: Fs) := hS8596q.assoc (by simp only [List.flatten_cons, List.append_assoc, List.cons_append, List.nil_append, List.append_nil])
  obtain ⟨M8610q, hM_⟩ : ∃ y : Frag, y = ((g8592q, .cells ([.int .i64 p0.f0, .bool p0.f1] : List Value).toArray 68 (0, 0)) :: ([])) := ⟨_, rfl⟩
  rw [← hM_] at hp8607q hS8609q
  clear hM_
  obtain ⟨r8612q, r8613q, A8611q, H⟩ := bind2 H
  refine WL.op' (m := 11) h8604q rfl rfl ?_
  refine owp_call [.pointer (some ⟨g8592q, 0, none⟩), .int .i64 (IntKind.i64.wrap ((IntKind.i64.wrap (p0.f0 + (IntKind.i64.wrap p2))) - (IntKind.i64.wrap p1)))] h8604q rfl (by kernel_rfl) rfl Try.func29 (by kernel_rfl) rfl (by kernel_rfl) (window_Window_to.calls hp8607q A8611q hS8609q) (fun e8615q W8614q hp8616q => ?_)
  obtain ⟨M8619q, rfl, hr8620q, hS8621q⟩ := hp8616q
  refine ⟨_, rfl, fun a8617q h8618q => ?_⟩
  clear h8604q a8603q
  refine WL.block (c := 2) (m' := 14) h8618q rfl [(11, .bool (!r8612q)), (24, .bool (!r8612q))] (by kernel_rfl) (fun a8622q h8623q => ?_)
  clear h8618q a8617q
  refine WL.done (by kernel_rfl) ?_
  by_cases c8624q : r8612q = true
  · rw [if_pos c8624q] at H
    have hb_ : r8612q = true := c8624q
    try rw [hb_] at h8623q
    clear hb_
    refine wp_else h8623q rfl ?_
    refine wp_skip ?_
    refine wp_seq ?_
    refine WL.start ?_
    refine WL.block (c := 1) (m' := 1) h8623q rfl [(26, .agg #[.int .u8 0, .int .u32 0])] (by kernel_rfl) (fun a8625q h8626q => ?_)
    clear h8623q a8622q
    have hS8627q : St b w0 W8614q R ([(g8587q, .cells ([.int .u8 0, .int .u32 0] : List Value).toArray 31 (0, 0))] :: M8619q :: Fs) := hS8621q.bring 1 rfl rfl
    refine WL.op' (m := 1) h8626q rfl rfl ?_
    refine owp_store (i := 0) (vs := ([.int .u8 0, .int .u32 0] : List Value)) h8626q rfl (by kernel_rfl) rfl rfl rfl rfl (by simp [Value.oneCell']) (by kernel_rfl) hS8627q (by simp) (cs' := ([.int .u8 0, .int .u32 0] : List Value)) rfl (fun a8628q W8630q h8629q hS8631q => ?_)
    clear h8626q a8625q
    refine WL.done (by kernel_rfl) ?_
    refine wp_ret ?_
    have hS8632q : St b w0 W8630q R (M8619q :: Fs) := hS8631q.drop_
    obtain ⟨rfl, rfl⟩ := ret2 H
    repeat (first | refine then_ret ?_ | refine inBlock_ret ?_ | refine inBlock_go ?_)
    refine body_ret (v := .agg #[.int .u8 0, .int .u32 0]) h8629q (by kernel_rfl) (res_one rfl ⟨_, rfl, loadVarN Try.underlying31 rfl (cs := ([.int .u8 0, .int .u32 0] : List Value)) (by kernel_rfl) (hS8631q.cells (vs := ([.int .u8 0, .int .u32 0] : List Value)) rfl)⟩) ?_
    exact ⟨M8619q, rfl, hr8620q, hS8632q⟩
  · rw [if_neg c8624q] at H
    have hb_ : r8612q = false := (Bool.eq_false_iff.2 c8624q)
    try rw [hb_] at h8623q
    clear hb_
    refine wp_then h8623q rfl ?_
    refine wp_seq ?_
    refine WL.start ?_
    refine WL.block (c := 1) (m' := 1) h8623q rfl [(25, .agg #[.int .u8 1, .int .u32 3])] (by kernel_rfl) (fun a8633q h8634q => ?_)
    clear h8623q a8622q
    have hS8635q : St b w0 W8614q R ([(g8587q, .cells ([.int .u8 0, .int .u32 0] : List Value).toArray 31 (0, 0))] :: M8619q :: Fs) := hS8621q.bring 1 rfl rfl
    refine WL.op' (m := 1) h8634q rfl rfl ?_
    refine owp_store (i := 0) (vs := ([.int .u8 1, .int .u32 3] : List Value)) h8634q rfl (by kernel_rfl) rfl rfl rfl rfl (by simp [Value.oneCell']) (by kernel_rfl) hS8635q (by simp) (cs' := ([.int .u8 1, .int .u32 3] : List Value)) rfl (fun a8636q W8638q h8637q hS8639q => ?_)
    clear h8634q a8633q
    refine WL.done (by kernel_rfl) ?_
    refine wp_ret ?_
    have hS8640q : St b w0 W8638q R (M8619q :: Fs) := hS8639q.drop_
    obtain ⟨rfl, rfl⟩ := ret2 H
    repeat (first | refine then_ret ?_ | refine inBlock_ret ?_ | refine inBlock_go ?_)
    refine body_ret (v := .agg #[.int .u8 1, .int .u32 3]) h8637q (by kernel_rfl) (res_one rfl ⟨_, rfl, loadVarN Try.underlying31 rfl (cs := ([.int .u8 1, .int .u32 3] : List Value)) (by kernel_rfl) (hS8639q.cells (vs := ([.int .u8 1, .int .u32 3] : List Value)) rfl)⟩) ?_
    exact ⟨M8619q, rfl, hr8620q, hS8640q⟩

/-! ### (*louver/window.Window).Shift -/
def window_Window_Shift_nil.f (p1 : Int) (p2 : Int) : Option (S31) := bnd1 (window_internal.f) fun r8669q => (some (⟨r8669q.f0, r8669q.f1⟩ : S31))
set_option maxHeartbeats 2000000 in
set_option maxRecDepth 100000 in
theorem window_Window_Shift_nil.calls {b : Nat} {w0 W : World} {R : Frag} {Fs : List Frag} {p1 : Int} {p2 : Int}  {r0q : S31}  (H : window_Window_Shift_nil.f p1 p2 = some r0q) (hS : St b w0 W R (Fs)) :
    Calls Try.prog 20 ([.pointer none, .int .u32 p1, .int .u32 p2] : List Value).toArray W (fun e W' => e = .returned (.agg #[.int .u8 r0q.f0, .int .u32 r0q.f1]) ∧ St b w0 W' R (Fs)) := by
  unfold window_Window_Shift_nil.f at H
  refine calls_enter Try.func20 rfl 27 rfl (by kernel_rfl) (fun a h => ?_)
  refine wp_seq ?_
  refine WL.start ?_
  refine WL.op' (m := 0) h rfl rfl ?_
  refine owp_new (fun g_ => .pointer (some ⟨g_, 0, none⟩)) (.cells ([.int .u8 0, .int .u32 0] : List Value).toArray 31 (0, 0)) h rfl (by kernel_rfl) (by kernel_rfl) hS (fun a8661q W8663q g8664q h8662q hS8665q => ?_)
  refine WL.done (by kernel_rfl) ?_
  refine wp_seq ?_
  refine wp_block ?_
  refine wp_seq ?_
  refine WL.start ?_
  refine WL.block (c := 3) (m' := 3) h8662q rfl [(7, .bool true), (9, .bool true), (8, .pointer none)] (by kernel_rfl) (fun a8666q h8667q => ?_)
  clear h8662q a8661q
  refine WL.done (by kernel_rfl) ?_
  refine wp_then h8667q rfl ?_
  refine wp_seq ?_
  refine WL.start ?_
  obtain ⟨r8669q, A8668q, H⟩ := bind1 H
  refine WL.op' (m := 0) h8667q rfl rfl ?_
  refine owp_call [] h8667q rfl (by kernel_rfl) rfl Try.func27 (by kernel_rfl) rfl (by kernel_rfl) (window_internal.calls  A8668q hS8665q) (fun e8671q W8670q hp8672q => ?_)
  obtain ⟨rfl, hS8675q⟩ := hp8672q
  refine ⟨_, rfl, fun a8673q h8674q => ?_⟩
  clear h8667q a8666q
  refine WL.op' (m := 1) h8674q rfl rfl ?_
  refine owp_store (i := 0) (vs := ([.int .u8 r8669q.f0, .int .u32 r8669q.f1] : List Value)) h8674q rfl (by kernel_rfl) rfl rfl rfl rfl (by simp [Value.oneCell']) (by kernel_rfl) hS8675q (by simp) (cs' := ([.int .u8 r8669q.f0, .int .u32 r8669q.f1] : List Value)) rfl (fun a8676q W8678q h8677q hS8679q => ?_)
  clear h8674q a8673q
  refine WL.done (by kernel_rfl) ?_
  refine wp_ret ?_
  have hS8680q : St b w0 W8678q R (Fs) := hS8679q.drop_
  obtain rfl := Option.some.inj H
  repeat (first | refine then_ret ?_ | refine inBlock_ret ?_ | refine inBlock_go ?_)
  refine body_ret (v := .agg #[.int .u8 r8669q.f0, .int .u32 r8669q.f1]) h8677q (by kernel_rfl) (res_one rfl ⟨_, rfl, loadVarN Try.underlying31 rfl (cs := ([.int .u8 r8669q.f0, .int .u32 r8669q.f1] : List Value)) (by kernel_rfl) (hS8679q.cells (vs := ([.int .u8 r8669q.f0, .int .u32 r8669q.f1] : List Value)) rfl)⟩) ?_
  exact ⟨rfl, hS8680q⟩

/-! ### louver/louverlaw10.WindowShifts -/
def louverlaw10qWindowShifts.f (p0 : Int) (p1 : Int) (p2 : Int) : Option (Bool) := bnd1 (window_New.f p0 true) fun r8981q => (bnd1 (window_Window_Left.f r8981q) fun r8996q => (bnd2 (window_Window_Shift.f r8981q p1 p2) fun r9010q r9011q => (bnd1 (window_Window_Left.f r9011q) fun r9033q => (if (decide (r9010q.f0 = 0) && decide (r9010q.f1 = 0)) = true then (bnd2 (window_Window_Shift.f r9011q p2 p1) fun r9056q r9057q => (if (IntKind.i64.wrap ((IntKind.i64.wrap (r8996q + (IntKind.i64.wrap p2))) - (IntKind.i64.wrap p1))) < (-2147483648) then (bnd1 (louverlaw10qfixed.f) fun r9079q => (if r9079q = true then (some (decide (r9033q = (-2147483648)))) else (some false))) else (bnd1 (louverlaw10qfixed.f) fun r9108q => (if r9108q = true then (if (decide (r9056q.f0 = 0) && decide (r9056q.f1 = 0)) = true then (bnd1 (window_Window_Left.f r9057q) fun r9131q => (some (decide (r9131q = r8996q)))) else (some false)) else (some false))))) else (bnd1 (louverlaw10qfixed.f) fun r9184q => (if r9184q = true then (if r9033q = r8996q then (some (decide ((IntKind.i64.wrap ((IntKind.i64.wrap (r8996q + (IntKind.i64.wrap p2))) - (IntKind.i64.wrap p1))) > 2147483647))) else (some false)) else (some false)))))))
set_option maxHeartbeats 2000000 in
set_option maxRecDepth 100000 in
theorem louverlaw10qWindowShifts.calls {b : Nat} {w0 W : World} {R : Frag} {Fs : List Frag} {p0 : Int} {p1 : Int} {p2 : Int}  {r0q : Bool}  (H : louverlaw10qWindowShifts.f p0 p1 p2 = some r0q) (hS : St b w0 W R (Fs)) :
    Calls Try.prog 5 ([.int .i64 p0, .int .u32 p1, .int .u32 p2] : List Value).toArray W (fun e W' => e = .returned (.bool r0q) ∧ St b w0 W' R (Fs)) := by
  unfold louverlaw10qWindowShifts.f at H
  refine calls_enter Try.func5 rfl 70 rfl (by kernel_rfl) (fun a h => ?_)
  refine wp_seq ?_
  refine WL.start ?_
  refine WL.block (c := 1) (m' := 1) h rfl [(6, .bool false)] (by kernel_rfl) (fun a8976q h8977q => ?_)
  refine WL.done (by kernel_rfl) ?_
  refine wp_seq ?_
  refine WL.start ?_
  refine WL.block (c := 1) (m' := 1) h8977q rfl [(12, .int .i64 p0)] (by kernel_rfl) (fun a8978q h8979q => ?_)
  clear h8977q a8976q
  obtain ⟨r8981q, A8980q, H⟩ := bind1 H
  refine WL.op' (m := 1) h8979q rfl rfl ?_
  refine owp_call [.int .i64 p0, .bool true] h8979q rfl (by kernel_rfl) rfl Try.func18 (by kernel_rfl) rfl (by kernel_rfl) (window_New.calls  A8980q hS) (fun e8983q W8982q hp8984q => ?_)
  obtain ⟨v8987q, M8988q, rfl, hr8989q, hS8990q⟩ := hp8984q
  refine ⟨_, rfl, fun a8985q h8986q => ?_⟩
  clear h8979q a8978q
  refine WL.block (c := 1) (m' := 3) h8986q rfl [(7, v8987q)] (by kernel_rfl) (fun a8991q h8992q => ?_)
  clear h8986q a8985q
  refine WL.done (by kernel_rfl) ?_
  refine wp_seq ?_
  refine WL.start ?_
  refine WL.block (c := 1) (m' := 1) h8992q rfl [(14, v8987q)] (by kernel_rfl) (fun a8993q h8994q => ?_)
  clear h8992q a8991q
  obtain ⟨r8996q, A8995q, H⟩ := bind1 H
  refine WL.op' (m := 1) h8994q rfl rfl ?_
  refine owp_call [v8987q] h8994q rfl (by kernel_rfl) rfl Try.func19 (by kernel_rfl) rfl (by kernel_rfl) (window_Window_Left.calls hr8989q A8995q hS8990q) (fun e8998q W8997q hp8999q => ?_)
  obtain ⟨M9002q, rfl, hr9003q, hS9004q⟩ := hp8999q
  refine ⟨_, rfl, fun a9000q h9001q => ?_⟩
  clear h8994q a8993q
  refine WL.block (c := 1) (m' := 3) h9001q rfl [(8, .int .i64 r8996q)] (by kernel_rfl) (fun a9005q h9006q => ?_)
  clear h9001q a9000q
  refine WL.done (by kernel_rfl) ?_
  refine wp_seq ?_
  refine WL.start ?_
  refine WL.block (c := 3) (m' := 3) h9006q rfl [(18, .int .u32 p2), (17, .int .u32 p1), (16, v8987q)] (by kernel_rfl) (fun a9007q h9008q => ?_)
  clear h9006q a9005q
  obtain ⟨r9010q, r9011q, A9009q, H⟩ := bind2 H
  refine WL.op' (m := 3) h9008q rfl rfl ?_
  refine owp_call [v8987q, .int .u32 p1, .int .u32 p2] h9008q rfl (by kernel_rfl) rfl Try.func20 (by kernel_rfl) rfl (by kernel_rfl) (window_Window_Shift.calls hr9003q A9009q hS9004q) (fun e9013q W9012q hp9014q => ?_)
  obtain ⟨M9017q, rfl, hr9018q, hS9019q⟩ := hp9014q
  refine ⟨_, rfl, fun a9015q h9016q => ?_⟩
  clear h9008q a9007q
  refine WL.op' (m := 4) h9016q rfl rfl ?_
  refine owp_new (fun g_ => .pointer (some ⟨g_, 0, none⟩)) (.cells ([.int .u8 0, .int .u32 0] : List Value).toArray 31 (0, 0)) h9016q rfl (by kernel_rfl) (by kernel_rfl) hS9019q (fun a9020q W9022q g9023q h9021q hS9024q => ?_)
  clear h9016q a9015q
  refine WL.op' (m := 5) h9021q rfl rfl ?_
  refine owp_store (i := 0) (vs := ([.int .u8 r9010q.f0, .int .u32 r9010q.f1] : List Value)) h9021q rfl (by kernel_rfl) rfl rfl rfl rfl (by simp [Value.oneCell']) (by kernel_rfl) hS9024q (by simp) (cs' := ([.int .u8 r9010q.f0, .int .u32 r9010q.f1] : List Value)) rfl (fun a9025q W9027q h9026q hS9028q => ?_)
  clear h9021q a9020q
  refine WL.done (by kernel_rfl) ?_
  refine wp_seq ?_
  refine WL.start ?_
  refine WL.block (c := 1) (m' := 1) h9026q rfl [(20, v8987q)] (by kernel_rfl) (fun a9029q h9030q => ?_)
  clear h9026q a9025q
  have hS9031q : St b w0 W9027q R (M9017q :: [(g9023q, .cells ([.int .u8 r9010q.f0, .int .u32 r9010q.f1] : List Value).toArray 31 (0, 0))] :: Fs) := hS9028q.bring 1 rfl rfl
  obtain ⟨r9033q, A9032q, H⟩ := bind1 H
  refine WL.op' (m := 1) h9030q rfl rfl ?_
  refine owp_call [v8987q] h9030q rfl (by kernel_rfl) rfl Try.func19 (by kernel_rfl) rfl (by kernel_rfl) (window_Window_Left.calls hr9018q A9032q hS9031q) (fun e9035q W9034q hp9036q => ?_)
  obtain ⟨M9039q, rfl, hr9040q, hS9041q⟩ := hp9036q
  refine ⟨_, rfl, fun a9037q h9038q => ?_⟩
  clear h9030q a9029q
  refine WL.block (c := 1) (m' := 3) h9038q rfl [(10, .int .i64 r9033q)] (by kernel_rfl) (fun a9042q h9043q => ?_)
  clear h9038q a9037q
  refine WL.done (by kernel_rfl) ?_
  refine wp_seq ?_
  refine wp_seq ?_
  refine WL.start ?_
  have hS9044q : St b w0 W9034q R ([(g9023q, .cells ([.int .u8 r9010q.f0, .int .u32 r9010q.f1] : List Value).toArray 31 (0, 0))] :: M9039q :: Fs) := hS9041q.bring 1 rfl rfl
  refine WL.op' (m := 0) h9043q rfl rfl ?_
  refine owp_run (v := .agg #[.int .u8 r9010q.f0, .int .u32 r9010q.f1]) h9043q rfl (by kernel_rfl) (run_loadN rfl rfl Try.underlying31 rfl (cs := ([.int .u8 r9010q.f0, .int .u32 r9010q.f1] : List Value)) (by kernel_rfl) (hS9044q.cells (vs := ([.int .u8 r9010q.f0, .int .u32 r9010q.f1] : List Value)) rfl)) (fun a9045q h9046q => ?_)
  clear h9043q a9042q
  refine WL.block (c := 1) (m' := 2) h9046q rfl [(23, .agg #[.int .u8 0, .int .u32 0])] (by kernel_rfl) (fun a9047q h9048q => ?_)
  clear h9046q a9045q
  refine WL.op' (m := 2) h9048q rfl rfl ?_
  refine owp_run (v := .bool (!(decide (r9010q.f0 = 0) && decide (r9010q.f1 = 0)))) h9048q rfl (by kernel_rfl) (run_stne (xs := [.int .u8 r9010q.f0, .int .u32 r9010q.f1]) (ys := [.int .u8 0, .int .u32 0]) rfl rfl rfl (by kernel_rfl) (eqs_of Try.underlying31 (by kernel_rfl) (eqf_cons rfl (by kernel_rfl) rfl rfl (eqi_int Try.underlying5) (eqf_last rfl (by kernel_rfl) rfl rfl (eqi_int Try.underlying22))))) (fun a9049q h9050q => ?_)
  clear h9048q a9047q
  refine WL.done (by kernel_rfl) ?_
  by_cases c9051q : (decide (r9010q.f0 = 0) && decide (r9010q.f1 = 0)) = true
  · rw [if_pos c9051q] at H
    have hb_ : (decide (r9010q.f0 = 0) && decide (r9010q.f1 = 0)) = true := c9051q
    try rw [hb_] at h9050q
    clear hb_
    refine wp_else h9050q rfl ?_
    refine wp_skip ?_
    refine wp_seq ?_
    refine WL.start ?_
    refine WL.block (c := 3) (m' := 3) h9050q rfl [(43, .int .u32 p1), (42, .int .u32 p2), (41, v8987q)] (by kernel_rfl) (fun a9052q h9053q => ?_)
    clear h9050q a9049q
    have hS9054q : St b w0 W9034q R (M9039q :: [(g9023q, .cells ([.int .u8 r9010q.f0, .int .u32 r9010q.f1] : List Value).toArray 31 (0, 0))] :: Fs) := hS9044q.bring 1 rfl rfl
    obtain ⟨r9056q, r9057q, A9055q, H⟩ := bind2 H
    refine WL.op' (m := 3) h9053q rfl rfl ?_
    refine owp_call [v8987q, .int .u32 p2, .int .u32 p1] h9053q rfl (by kernel_rfl) rfl Try.func20 (by kernel_rfl) rfl (by kernel_rfl) (window_Window_Shift.calls hr9040q A9055q hS9054q) (fun e9059q W9058q hp9060q => ?_)
    obtain ⟨M9063q, rfl, hr9064q, hS9065q⟩ := hp9060q
    refine ⟨_, rfl, fun a9061q h9062q => ?_⟩
    clear h9053q a9052q
    refine WL.op' (m := 4) h9062q rfl rfl ?_
    refine owp_new (fun g_ => .pointer (some ⟨g_, 0, none⟩)) (.cells ([.int .u8 0, .int .u32 0] : List Value).toArray 31 (0, 0)) h9062q rfl (by kernel_rfl) (by kernel_rfl) hS9065q (fun a9066q W9068q g9069q h9067q hS9070q => ?_)
    clear h9062q a9061q
    refine WL.op' (m := 5) h9067q rfl rfl ?_
    refine owp_store (i := 0) (vs := ([.int .u8 r9056q.f0, .int .u32 r9056q.f1] : List Value)) h9067q rfl (by kernel_rfl) rfl rfl rfl rfl (by simp [Value.oneCell']) (by kernel_rfl) hS9070q (by simp) (cs' := ([.int .u8 r9056q.f0, .int .u32 r9056q.f1] : List Value)) rfl (fun a9071q W9073q h9072q hS9074q => ?_)
    clear h9067q a9066q
    refine WL.done (by kernel_rfl) ?_
    refine wp_seq ?_
    refine wp_seq ?_
    refine WL.start ?_
    refine WL.block (c := 8) (m' := 8) h9072q rfl [(52, .bool (decide ((IntKind.i64.wrap ((IntKind.i64.wrap (r8996q + (IntKind.i64.wrap p2))) - (IntKind.i64.wrap p1))) < (-2147483648)))), (51, .int .i64 (IntKind.i64.wrap ((IntKind.i64.wrap (r8996q + (IntKind.i64.wrap p2))) - (IntKind.i64.wrap p1)))), (50, .int .i64 (IntKind.i64.wrap p1)), (49, .int .u32 p1), (48, .int .i64 (IntKind.i64.wrap (r8996q + (IntKind.i64.wrap p2)))), (47, .int .i64 (IntKind.i64.wrap p2)), (46, .int .u32 p2), (45, .int .i64 r8996q)] (by kernel_rfl) (fun a9075q h9076q => ?_)
    clear h9072q a9071q
    refine WL.done (by kernel_rfl) ?_
    by_cases c9077q : (IntKind.i64.wrap ((IntKind.i64.wrap (r8996q + (IntKind.i64.wrap p2))) - (IntKind.i64.wrap p1))) < (-2147483648)
    · rw [if_pos c9077q] at H
      have hb_ : (decide ((IntKind.i64.wrap ((IntKind.i64.wrap (r8996q + (IntKind.i64.wrap p2))) - (IntKind.i64.wrap p1))) < (-2147483648))) = true := decide_eq_true c9077q
      try rw [hb_] at h9076q
      clear hb_
      refine wp_then h9076q rfl ?_
      refine wp_seq ?_
      refine WL.start ?_
      obtain ⟨r9079q, A9078q, H⟩ := bind1 H
      refine WL.op' (m := 0) h9076q rfl rfl ?_
      refine owp_call [] h9076q rfl (by kernel_rfl) rfl Try.func9 (by kernel_rfl) rfl (by kernel_rfl) (louverlaw10qfixed.calls  A9078q hS9074q) (fun e9081q W9080q hp9082q => ?_)
      obtain ⟨rfl, hS9085q⟩ := hp9082q
      refine ⟨_, rfl, fun a9083q h9084q => ?_⟩
      clear h9076q a9075q
      refine WL.block (c := 1) (m' := 2) h9084q rfl [(54, .bool r9079q)] (by kernel_rfl) (fun a9086q h9087q => ?_)
      clear h9084q a9083q
      by_cases c9088q : r9079q = true
      · rw [if_pos c9088q] at H
        have hb_ : r9079q = true := c9088q
        try rw [hb_] at h9087q
        clear hb_
        refine WL.op' (m := 2) h9087q rfl rfl (owp_run h9087q rfl (by kernel_rfl) (v := .int .i64 r9033q) (by kernel_rfl) (fun a9089q h9090q => ?_))
        clear h9087q a9086q
        refine WL.op' (m := 3) h9090q rfl rfl (owp_run h9090q rfl (by kernel_rfl) (v := .bool (decide (r9033q = (-2147483648)))) (by kernel_rfl) (fun a9091q h9092q => ?_))
        clear h9090q a9089q
        refine WL.block (c := 2) (m' := 6) h9092q rfl [(6, .bool (decide (r9033q = (-2147483648)))), (57, .bool (decide (r9033q = (-2147483648))))] (by kernel_rfl) (fun a9093q h9094q => ?_)
        clear h9092q a9091q
        refine WL.done (by kernel_rfl) ?_
        refine wp_ret ?_
        have hS9095q : St b w0 W9080q R (M9063q :: [(g9023q, .cells ([.int .u8 r9010q.f0, .int .u32 r9010q.f1] : List Value).toArray 31 (0, 0))] :: Fs) := hS9085q.drop_
        have hS9096q : St b w0 W9080q R ([(g9023q, .cells ([.int .u8 r9010q.f0, .int .u32 r9010q.f1] : List Value).toArray 31 (0, 0))] :: Fs) := hS9095q.drop_
        have hS9097q : St b w0 W9080q R (Fs) := hS9096q.drop_
        obtain rfl := Option.some.inj H
        repeat (first | refine then_ret ?_ | refine inBlock_ret ?_ | refine inBlock_go ?_)
        refine body_ret (v := .bool (decide (r9033q = (-2147483648)))) h9094q (by kernel_rfl) (by kernel_rfl) ?_
        exact ⟨rfl, hS9097q⟩
      · rw [if_neg c9088q] at H
        have hb_ : r9079q = false := (Bool.eq_false_iff.2 c9088q)
        try rw [hb_] at h9087q
        clear hb_
        refine WL.skipped (m := 2) h9087q rfl rfl (by kernel_rfl) rfl (fun a9098q h9099q => ?_)
        clear h9087q a9086q
        refine WL.skipped (m := 3) h9099q rfl rfl (by kernel_rfl) rfl (fun a9100q h9101q => ?_)
        clear h9099q a9098q
        refine WL.block (c := 2) (m' := 6) h9101q rfl [(6, .bool false), (57, .bool false)] (by kernel_rfl) (fun a9102q h9103q => ?_)
        clear h9101q a9100q
        refine WL.done (by kernel_rfl) ?_
        refine wp_ret ?_
        have hS9104q : St b w0 W9080q R (M9063q :: [(g9023q, .cells ([.int .u8 r9010q.f0, .int .u32 r9010q.f1] : List Value).toArray 31 (0, 0))] :: Fs) := hS9085q.drop_
        have hS9105q : St b w0 W9080q R ([(g9023q, .cells ([.int .u8 r9010q.f0, .int .u32 r9010q.f1] : List Value).toArray 31 (0, 0))] :: Fs) := hS9104q.drop_
        have hS9106q : St b w0 W9080q R (Fs) := hS9105q.drop_
        obtain rfl := Option.some.inj H
        repeat (first | refine then_ret ?_ | refine inBlock_ret ?_ | refine inBlock_go ?_)
        refine body_ret (v := .bool false) h9103q (by kernel_rfl) (by kernel_rfl) ?_
        exact ⟨rfl, hS9106q⟩
    · rw [if_neg c9077q] at H
      have hb_ : (decide ((IntKind.i64.wrap ((IntKind.i64.wrap (r8996q + (IntKind.i64.wrap p2))) - (IntKind.i64.wrap p1))) < (-2147483648))) = false := decide_eq_false c9077q
      try rw [hb_] at h9076q
      clear hb_
      refine wp_else h9076q rfl ?_
      refine wp_skip ?_
      refine wp_seq ?_
      refine WL.start ?_
      obtain ⟨r9108q, A9107q, H⟩ := bind1 H
      refine WL.op' (m := 0) h9076q rfl rfl ?_
      refine owp_call [] h9076q rfl (by kernel_rfl) rfl Try.func9 (by kernel_rfl) rfl (by kernel_rfl) (louverlaw10qfixed.calls  A9107q hS9074q) (fun e9110q W9109q hp9111q => ?_)
      obtain ⟨rfl, hS9114q⟩ := hp9111q
      refine ⟨_, rfl, fun a9112q h9113q => ?_⟩
      clear h9076q a9075q
      refine WL.block (c := 1) (m' := 2) h9113q rfl [(59, .bool r9108q)] (by kernel_rfl) (fun a9115q h9116q => ?_)
      clear h9113q a9112q
      by_cases c9117q : r9108q = true
      · rw [if_pos c9117q] at H
        have hb_ : r9108q = true := c9117q
        try rw [hb_] at h9116q
        clear hb_
        refine WL.op' (m := 2) h9116q rfl rfl ?_
        refine owp_run (v := .agg #[.int .u8 r9056q.f0, .int .u32 r9056q.f1]) h9116q rfl (by kernel_rfl) (run_loadN rfl rfl Try.underlying31 rfl (cs := ([.int .u8 r9056q.f0, .int .u32 r9056q.f1] : List Value)) (by kernel_rfl) (hS9114q.cells (vs := ([.int .u8 r9056q.f0, .int .u32 r9056q.f1] : List Value)) rfl)) (fun a9118q h9119q => ?_)
        clear h9116q a9115q
        refine WL.op' (m := 3) h9119q rfl rfl (owp_run h9119q rfl (by kernel_rfl) (v := .agg #[.int .u8 0, .int .u32 0]) (by kernel_rfl) (fun a9120q h9121q => ?_))
        clear h9119q a9118q
        refine WL.op' (m := 4) h9121q rfl rfl ?_
        refine owp_run (v := .bool (decide (r9056q.f0 = 0) && decide (r9056q.f1 = 0))) h9121q rfl (by kernel_rfl) (run_steq (xs := [.int .u8 r9056q.f0, .int .u32 r9056q.f1]) (ys := [.int .u8 0, .int .u32 0]) rfl rfl rfl (by kernel_rfl) (eqs_of Try.underlying31 (by kernel_rfl) (eqf_cons rfl (by kernel_rfl) rfl rfl (eqi_int Try.underlying5) (eqf_last rfl (by kernel_rfl) rfl rfl (eqi_int Try.underlying22))))) (fun a9122q h9123q => ?_)
        clear h9121q a9120q
        refine WL.block (c := 2) (m' := 7) h9123q rfl [(64, .bool (decide (r9056q.f0 = 0) && decide (r9056q.f1 = 0))), (63, .bool (decide (r9056q.f0 = 0) && decide (r9056q.f1 = 0)))] (by kernel_rfl) (fun a9124q h9125q => ?_)
        clear h9123q a9122q
        by_cases c9126q : (decide (r9056q.f0 = 0) && decide (r9056q.f1 = 0)) = true
        · rw [if_pos c9126q] at H
          have hb_ : (decide (r9056q.f0 = 0) && decide (r9056q.f1 = 0)) = true := c9126q
          try rw [hb_] at h9125q
          clear hb_
          refine WL.op' (m := 7) h9125q rfl rfl (owp_run h9125q rfl (by kernel_rfl) (v := v8987q) (by kernel_rfl) (fun a9127q h9128q => ?_))
          clear h9125q a9124q
          have hS9129q : St b w0 W9109q R (M9063q :: [(g9069q, .cells ([.int .u8 r9056q.f0, .int .u32 r9056q.f1] : List Value).toArray 31 (0, 0))] :: [(g9023q, .cells ([.int .u8 r9010q.f0, .int .u32 r9010q.f1] : List Value).toArray 31 (0, 0))] :: Fs) := hS9114q.bring 1 rfl rfl
          obtain ⟨r9131q, A9130q, H⟩ := bind1 H
          refine WL.op' (m := 8) h9128q rfl rfl ?_
          refine owp_call [v8987q] h9128q rfl (by kernel_rfl) rfl Try.func19 (by kernel_rfl) rfl (by kernel_rfl) (window_Window_Left.calls hr9064q A9130q hS9129q) (fun e9133q W9132q hp9134q => ?_)
          obtain ⟨M9137q, rfl, hr9138q, hS9139q⟩ := hp9134q
          refine ⟨_, rfl, fun a9135q h9136q => ?_⟩
          clear h9128q a9127q
          refine WL.op' (m := 9) h9136q rfl rfl (owp_run h9136q rfl (by kernel_rfl) (v := .int .i64 r8996q) (by kernel_rfl) (fun a9140q h9141q => ?_))
          clear h9136q a9135q
          refine WL.op' (m := 10) h9141q rfl rfl (owp_run h9141q rfl (by kernel_rfl) (v := .bool (decide (r9131q = r8996q))) (by kernel_rfl) (fun a9142q h9143q => ?_))
          clear h9141q a9140q
          refine WL.block (c := 2) (m' := 13) h9143q rfl [(6, .bool (decide (r9131q = r8996q))), (69, .bool (decide (r9131q = r8996q)))] (by kernel_rfl) (fun a9144q h9145q => ?_)
          clear h9143q a9142q
          refine WL.done (by kernel_rfl) ?_
          refine wp_ret ?_
          have hS9146q : St b w0 W9132q R ([(g9069q, .cells ([.int .u8 r9056q.f0, .int .u32 r9056q.f1] : List Value).toArray 31 (0, 0))] :: [(g9023q, .cells ([.int .u8 r9010q.f0, .int .u32 r9010q.f1] : List Value).toArray 31 (0, 0))] :: Fs) := hS9139q.drop_
          have hS9147q : St b w0 W9132q R ([(g9023q, .cells ([.int .u8 r9010q.f0, .int .u32 r9010q.f1] : List Value).toArray 31 (0, 0))] :: Fs) := hS9146q.drop_
          have hS9148q : St b w0 W9132q R (Fs) := hS9147q.drop_
          obtain rfl := Option.some.inj H
          repeat (first | refine then_ret ?_ | refine inBlock_ret ?_ | refine inBlock_go ?_)
          refine body_ret (v := .bool (decide (r9131q = r8996q))) h9145q (by kernel_rfl) (by kernel_rfl) ?_
          exact ⟨rfl, hS9148q⟩
        · rw [if_neg c9126q] at H
          have hb_ : (decide (r9056q.f0 = 0) && decide (r9056q.f1 = 0)) = false := (Bool.eq_false_iff.2 c9126q)
          try rw [hb_] at h9125q
          clear hb_
          refine WL.skipped (m := 7) h9125q rfl rfl (by kernel_rfl) rfl (fun a9149q h9150q => ?_)
          clear h9125q a9124q
          refine WL.skipped (m := 8) h9150q rfl rfl (by kernel_rfl) rfl (fun a9151q h9152q => ?_)
          clear h9150q a9149q
          refine WL.skipped (m := 9) h9152q rfl rfl (by kernel_rfl) rfl (fun a9153q h9154q => ?_)
          clear h9152q a9151q
          refine WL.skipped (m := 10) h9154q rfl rfl (by kernel_rfl) rfl (fun a9155q h9156q => ?_)
          clear h9154q a9153q
          refine WL.block (c := 2) (m' := 13) h9156q rfl [(6, .bool false), (69, .bool false)] (by kernel_rfl) (fun a9157q h9158q => ?_)
          clear h9156q a9155q
          refine WL.done (by kernel_rfl) ?_
          refine wp_ret ?_
          have hS9159q : St b w0 W9109q R (M9063q :: [(g9023q, .cells ([.int .u8 r9010q.f0, .int .u32 r9010q.f1] : List Value).toArray 31 (0, 0))] :: Fs) := hS9114q.drop_
          have hS9160q : St b w0 W9109q R ([(g9023q, .cells ([.int .u8 r9010q.f0, .int .u32 r9010q.f1] : List Value).toArray 31 (0, 0))] :: Fs) := hS9159q.drop_
          have hS9161q : St b w0 W9109q R (Fs) := hS9160q.drop_
          obtain rfl := Option.some.inj H
          repeat (first | refine then_ret ?_ | refine inBlock_ret ?_ | refine inBlock_go ?_)
          refine body_ret (v := .bool false) h9158q (by kernel_rfl) (by kernel_rfl) ?_
          exact ⟨rfl, hS9161q⟩
      · rw [if_neg c9117q] at H
        have hb_ : r9108q = false := (Bool.eq_false_iff.2 c9117q)
        try rw [hb_] at h9116q
        clear hb_
        refine WL.skipped (m := 2) h9116q rfl rfl (by kernel_rfl) rfl (fun a9162q h9163q => ?_)
        clear h9116q a9115q
        refine WL.skipped (m := 3) h9163q rfl rfl (by kernel_rfl) rfl (fun a9164q h9165q => ?_)
        clear h9163q a9162q
        refine WL.skipped (m := 4) h9165q rfl rfl (by kernel_rfl) rfl (fun a9166q h9167q => ?_)
        clear h9165q a9164q
        refine WL.block (c := 2) (m' := 7) h9167q rfl [(64, .bool false), (63, .bool false)] (by kernel_rfl) (fun a9168q h9169q => ?_)
        clear h9167q a9166q
        refine WL.skipped (m := 7) h9169q rfl rfl (by kernel_rfl) rfl (fun a9170q h9171q => ?_)
        clear h9169q a9168q
        refine WL.skipped (m := 8) h9171q rfl rfl (by kernel_rfl) rfl (fun a9172q h9173q => ?_)
        clear h9171q a9170q
        refine WL.skipped (m := 9) h9173q rfl rfl (by kernel_rfl) rfl (fun a9174q h9175q => ?_)
        clear h9173q a9172q
        refine WL.skipped (m := 10) h9175q rfl rfl (by kernel_rfl) rfl (fun a9176q h9177q => ?_)
        clear h9175q a9174q
        refine WL.block (c := 2) (m' := 13) h9177q rfl [(6, .bool false), (69, .bool false)] (by kernel_rfl) (fun a9178q h9179q => ?_)
        clear h9177q a9176q
        refine WL.done (by kernel_rfl) ?_
        refine wp_ret ?_
        have hS9180q : St b w0 W9109q R (M9063q :: [(g9023q, .cells ([.int .u8 r9010q.f0, .int .u32 r9010q.f1] : List Value).toArray 31 (0, 0))] :: Fs) := hS9114q.drop_
        have hS9181q : St b w0 W9109q R ([(g9023q, .cells ([.int .u8 r9010q.f0, .int .u32 r9010q.f1] : List Value).toArray 31 (0, 0))] :: Fs) := hS9180q.drop_
        have hS9182q : St b w0 W9109q R (Fs) := hS9181q.drop_
        obtain rfl := Option.some.inj H
        repeat (first | refine then_ret ?_ | refine inBlock_ret ?_ | refine inBlock_go ?_)
        refine body_ret (v := .bool false) h9179q (by kernel_rfl) (by kernel_rfl) ?_
        exact ⟨rfl, hS9182q⟩
  · rw [if_neg c9051q] at H
    have hb_ : (decide (r9010q.f0 = 0) && decide (r9010q.f1 = 0)) = false := (Bool.eq_false_iff.2 c9051q)
    try rw [hb_] at h9050q
    clear hb_
    refine wp_then h9050q rfl ?_
    refine wp_seq ?_
    refine WL.start ?_
    obtain ⟨r9184q, A9183q, H⟩ := bind1 H
    refine WL.op' (m := 0) h9050q rfl rfl ?_
    refine owp_call [] h9050q rfl (by kernel_rfl) rfl Try.func9 (by kernel_rfl) rfl (by kernel_rfl) (louverlaw10qfixed.calls  A9183q hS9044q) (fun e9186q W9185q hp9187q => ?_)
    obtain ⟨rfl, hS9190q⟩ := hp9187q
    refine ⟨_, rfl, fun a9188q h9189q => ?_⟩
    clear h9050q a9049q
    refine WL.block (c := 1) (m' := 2) h9189q rfl [(26, .bool r9184q)] (by kernel_rfl) (fun a9191q h9192q => ?_)
    clear h9189q a9188q
    by_cases c9193q : r9184q = true
    · rw [if_pos c9193q] at H
      have hb_ : r9184q = true := c9193q
      try rw [hb_] at h9192q
      clear hb_
      refine WL.op' (m := 2) h9192q rfl rfl (owp_run h9192q rfl (by kernel_rfl) (v := .int .i64 r9033q) (by kernel_rfl) (fun a9194q h9195q => ?_))
      clear h9192q a9191q
      refine WL.op' (m := 3) h9195q rfl rfl (owp_run h9195q rfl (by kernel_rfl) (v := .int .i64 r8996q) (by kernel_rfl) (fun a9196q h9197q => ?_))
      clear h9195q a9194q
      refine WL.op' (m := 4) h9197q rfl rfl (owp_run h9197q rfl (by kernel_rfl) (v := .bool (decide (r9033q = r8996q))) (by kernel_rfl) (fun a9198q h9199q => ?_))
      clear h9197q a9196q
      refine WL.block (c := 2) (m' := 7) h9199q rfl [(31, .bool (decide (r9033q = r8996q))), (30, .bool (decide (r9033q = r8996q)))] (by kernel_rfl) (fun a9200q h9201q => ?_)
      clear h9199q a9198q
      by_cases c9202q : r9033q = r8996q
      · rw [if_pos c9202q] at H
        have hb_ : (decide (r9033q = r8996q)) = true := decide_eq_true c9202q
        try rw [hb_] at h9201q
        clear hb_
        refine WL.op' (m := 7) h9201q rfl rfl (owp_run h9201q rfl (by kernel_rfl) (v := .int .i64 r8996q) (by kernel_rfl) (fun a9203q h9204q => ?_))
        clear h9201q a9200q
        refine WL.op' (m := 8) h9204q rfl rfl (owp_run h9204q rfl (by kernel_rfl) (v := .int .u32 p2) (by kernel_rfl) (fun a9205q h9206q => ?_))
        clear h9204q a9203q
        refine WL.op' (m := 9) h9206q rfl rfl (owp_run h9206q rfl (by kernel_rfl) (v := .int .i64 (IntKind.i64.wrap p2)) (by kernel_rfl) (fun a9207q h9208q => ?_))
        clear h9206q a9205q
        refine WL.op' (m := 10) h9208q rfl rfl (owp_run h9208q rfl (by kernel_rfl) (v := .int .i64 (IntKind.i64.wrap (r8996q + (IntKind.i64.wrap p2)))) (by kernel_rfl) (fun a9209q h9210q => ?_))
        clear h9208q a9207q
        refine WL.op' (m := 11) h9210q rfl rfl (owp_run h9210q rfl (by kernel_rfl) (v := .int .u32 p1) (by kernel_rfl) (fun a9211q h9212q => ?_))
        clear h9210q a9209q
        refine WL.op' (m := 12) h9212q rfl rfl (owp_run h9212q rfl (by kernel_rfl) (v := .int .i64 (IntKind.i64.wrap p1)) (by kernel_rfl) (fun a9213q h9214q => ?_))
        clear h9212q a9211q
        refine WL.op' (m := 13) h9214q rfl rfl (owp_run h9214q rfl (by kernel_rfl) (v := .int .i64 (IntKind.i64.wrap ((IntKind.i64.wrap (r8996q + (IntKind.i64.wrap p2))) - (IntKind.i64.wrap p1)))) (by kernel_rfl) (fun a9215q h9216q => ?_))
        clear h9214q a9213q
        refine WL.op' (m := 14) h9216q rfl rfl (owp_run h9216q rfl (by kernel_rfl) (v := .bool (decide ((IntKind.i64.wrap ((IntKind.i64.wrap (r8996q + (IntKind.i64.wrap p2))) - (IntKind.i64.wrap p1))) > 2147483647))) (by kernel_rfl) (fun a9217q h9218q => ?_))
        clear h9216q a9215q
        refine WL.block (c := 2) (m' := 17) h9218q rfl [(6, .bool (decide ((IntKind.i64.wrap ((IntKind.i64.wrap (r8996q + (IntKind.i64.wrap p2))) - (IntKind.i64.wrap p1))) > 2147483647))), (40, .bool (decide ((IntKind.i64.wrap ((IntKind.i64.wrap (r8996q + (IntKind.i64.wrap p2))) - (IntKind.i64.wrap p1))) > 2147483647)))] (by kernel_rfl) (fun a9219q h9220q => ?_)
        clear h9218q a9217q
        refine WL.done (by kernel_rfl) ?_
        refine wp_ret ?_
        have hS9221q : St b w0 W9185q R (M9039q :: Fs) := hS9190q.drop_
        have hS9222q : St b w0 W9185q R (Fs) := hS9221q.drop_
        obtain rfl := Option.some.inj H
        repeat (first | refine then_ret ?_ | refine inBlock_ret ?_ | refine inBlock_go ?_)
        refine body_ret (v := .bool (decide ((IntKind.i64.wrap ((IntKind.i64.wrap (r8996q + (IntKind.i64.wrap p2))) - (IntKind.i64.wrap p1))) > 2147483647))) h9220q (by kernel_rfl) (by kernel_rfl) ?_
        exact ⟨rfl, hS9222q⟩
      · rw [if_neg c9202q] at H
        have hb_ : (decide (r9033q = r8996q)) = false := decide_eq_false c9202q
        try rw [hb_] at h9201q
        clear hb_
        refine WL.skipped (m := 7) h9201q rfl rfl (by kernel_rfl) rfl (fun a9223q h9224q => ?_)
        clear h9201q a9200q
        refine WL.skipped (m := 8) h9224q rfl rfl (by kernel_rfl) rfl (fun a9225q h9226q => ?_)
        clear h9224q a9223q
        refine WL.skipped (m := 9) h9226q rfl rfl (by kernel_rfl) rfl (fun a9227q h9228q => ?_)
        clear h9226q a9225q
        refine WL.skipped (m := 10) h9228q rfl rfl (by kernel_rfl) rfl (fun a9229q h9230q => ?_)
        clear h9228q a9227q
        refine WL.skipped (m := 11) h9230q rfl rfl (by kernel_rfl) rfl (fun a9231q h9232q => ?_)
        clear h9230q a9229q
        refine WL.skipped (m := 12) h9232q rfl rfl (by kernel_rfl) rfl (fun a9233q h9234q => ?_)
        clear h9232q a9231q
        refine WL.skipped (m := 13) h9234q rfl rfl (by kernel_rfl) rfl (fun a9235q h9236q => ?_)
        clear h9234q a9233q
        refine WL.skipped (m := 14) h9236q rfl rfl (by kernel_rfl) rfl (fun a9237q h9238q => ?_)
        clear h9236q a9235q
        refine WL.block (c := 2) (m' := 17) h9238q rfl [(6, .bool false), (40, .bool false)] (by kernel_rfl) (fun a9239q h9240q => ?_)
        clear h9238q a9237q
        refine WL.done (by kernel_rfl) ?_
        refine wp_ret ?_
        have hS9241q : St b w0 W9185q R (M9039q :: Fs) := hS9190q.drop_
        have hS9242q : St b w0 W9185q R (Fs) := hS9241q.drop_
        obtain rfl := Option.some.inj H
        repeat (first | refine then_ret ?_ | refine inBlock_ret ?_ | refine inBlock_go ?_)
        refine body_ret (v := .bool false) h9240q (by kernel_rfl) (by kernel_rfl) ?_
        exact ⟨rfl, hS9242q⟩
    · rw [if_neg c9193q] at H
      have hb_ : r9184q = false := (Bool.eq_false_iff.2 c9193q)
      try rw [hb_] at h9192q
      clear hb_
      refine WL.skipped (m := 2) h9192q rfl rfl (by kernel_rfl) rfl (fun a9243q h9244q => ?_)
      clear h9192q a9191q
      refine WL.skipped (m := 3) h9244q rfl rfl (by kernel_rfl) rfl (fun a9245q h9246q => ?_)
      clear h9244q a9243q
      refine WL.skipped (m := 4) h9246q rfl rfl (by kernel_rfl) rfl (fun a9247q h9248q => ?_)
      clear h9246q a9245q
      refine WL.block (c := 2) (m' := 7) h9248q rfl [(31, .bool false), (30, .bool false)] (by kernel_rfl) (fun a9249q h9250q => ?_)
      clear h9248q a9247q
      refine WL.skipped (m := 7) h9250q rfl rfl (by kernel_rfl) rfl (fun a9251q h9252q => ?_)
      clear h9250q a9249q
      refine WL.skipped (m := 8) h9252q rfl rfl (by kernel_rfl) rfl (fun a9253q h9254q => ?_)
      clear h9252q a9251q
      refine WL.skipped (m := 9) h9254q rfl rfl (by kernel_rfl) rfl (fun a9255q h9256q => ?_)
      clear h9254q a9253q
      refine WL.skipped (m := 10) h9256q rfl rfl (by kernel_rfl) rfl (fun a9257q h9258q => ?_)
      clear h9256q a9255q
      refine WL.skipped (m := 11) h9258q rfl rfl (by kernel_rfl) rfl (fun a9259q h9260q => ?_)
      clear h9258q a9257q
      refine WL.skipped (m := 12) h9260q rfl rfl (by kernel_rfl) rfl (fun a9261q h9262q => ?_)
      clear h9260q a9259q
      refine WL.skipped (m := 13) h9262q rfl rfl (by kernel_rfl) rfl (fun a9263q h9264q => ?_)
      clear h9262q a9261q
      refine WL.skipped (m := 14) h9264q rfl rfl (by kernel_rfl) rfl (fun a9265q h9266q => ?_)
      clear h9264q a9263q
      refine WL.block (c := 2) (m' := 17) h9266q rfl [(6, .bool false), (40, .bool false)] (by kernel_rfl) (fun a9267q h9268q => ?_)
      clear h9266q a9265q
      refine WL.done (by kernel_rfl) ?_
      refine wp_ret ?_
      have hS9269q : St b w0 W9185q R (M9039q :: Fs) := hS9190q.drop_
      have hS9270q : St b w0 W9185q R (Fs) := hS9269q.drop_
      obtain rfl := Option.some.inj H
      repeat (first | refine then_ret ?_ | refine inBlock_ret ?_ | refine inBlock_go ?_)
      refine body_ret (v := .bool false) h9268q (by kernel_rfl) (by kernel_rfl) ?_
      exact ⟨rfl, hS9270q⟩

/-! ### (*louver/window.Window).Take -/
def window_Window_Take.f (p0 : S68) (p1 : Int) : Option (Bool × S68) := if p1 < 0 then (some (false, (⟨p0.f0, p0.f1⟩ : S68))) else (if p1 > (mxI p0.f0 0) then (some (false, (⟨p0.f0, p0.f1⟩ : S68))) else (some (true, (⟨IntKind.i64.wrap (p0.f0 - p1), p0.f1⟩ : S68))))
set_option maxHeartbeats 2000000 in
set_option maxRecDepth 100000 in
theorem window_Window_Take.calls {b : Nat} {w0 W : World} {R : Frag} {Fs : List Frag} {p0 : S68} {p1 : Int}  {v0 : Value} {M0 : Frag} {r0q : Bool} {r1q : S68} (hp0 : Ptr k68 68 b w0 R v0 p0 M0) (H : window_Window_Take.f p0 p1 = some (r0q, r1q)) (hS : St b w0 W R (M0 :: Fs)) :
    Calls Try.prog 21 ([v0, .int .i64 p1] : List Value).toArray W (fun e W' => ∃ (O0q : Frag), e = .returned (.bool r0q) ∧ Ptr k68 68 b w0 R v0 r1q O0q ∧ St b w0 W' R (O0q :: Fs)) := by
  unfold window_Window_Take.f at H
  refine calls_enter Try.func21 rfl 28 rfl (by kernel_rfl) (fun a h => ?_)
  refine wp_seq ?_
  refine WL.start ?_
  refine WL.block (c := 1) (m' := 1) h rfl [(4, .bool false)] (by kernel_rfl) (fun a9429q h9430q => ?_)
  refine WL.done (by kernel_rfl) ?_
  refine wp_seq ?_
  refine wp_seq ?_
  refine WL.start ?_
  refine WL.block (c := 1) (m' := 1) h9430q rfl [(5, v0)] (by kernel_rfl) (fun a9431q h9432q => ?_)
  clear h9430q a9429q
  obtain ⟨g9433q, cs9434q, M9435q, hv_, hM_, hr9436q⟩ := hp0
  obtain ⟨rfl, hM2q⟩ := k68qrep hr9436q
  subst hM2q
  subst hM_
  subst hv_
  have hS9437q : St b w0 W R ([(g9433q, .cells ([.int .i64 p0.f0, .bool p0.f1] : List Value).toArray 68 (0, 0))] :: Fs) := hS.assoc (by simp only [List.flatten_cons, List.append_assoc, List.cons_append, List.nil_append, List.append_nil])
  refine WL.block (c := 2) (m' := 3) h9432q rfl [(7, .bool false), (6, .bool false)] (by kernel_rfl) (fun a9438q h9439q => ?_)
  clear h9432q a9431q
  refine WL.op' (m := 3) h9439q rfl rfl (owp_run h9439q rfl (by kernel_rfl) (v := .int .i64 p1) (by kernel_rfl) (fun a9440q h9441q => ?_))
  clear h9439q a9438q
  refine WL.op' (m := 4) h9441q rfl rfl (owp_run h9441q rfl (by kernel_rfl) (v := .bool (decide (p1 < 0))) (by kernel_rfl) (fun a9442q h9443q => ?_))
  clear h9441q a9440q
  refine WL.block (c := 2) (m' := 7) h9443q rfl [(11, .bool (decide (p1 < 0))), (10, .bool (decide (p1 < 0)))] (by kernel_rfl) (fun a9444q h9445q => ?_)
  clear h9443q a9442q
  by_cases c9446q : p1 < 0
  · rw [if_pos c9446q] at H
    have hb_ : (decide (p1 < 0)) = true := decide_eq_true c9446q
    try rw [hb_] at h9445q
    clear hb_
    refine WL.skipped (m := 7) h9445q rfl rfl (by kernel_rfl) rfl (fun a9447q h9448q => ?_)
    clear h9445q a9444q
    refine WL.skipped (m := 8) h9448q rfl rfl (by kernel_rfl) rfl (fun a9449q h9450q => ?_)
    clear h9448q a9447q
    refine WL.skipped (m := 9) h9450q rfl rfl (by kernel_rfl) rfl (fun a9451q h9452q => ?_)
    clear h9450q a9449q
    refine WL.skipped (m := 10) h9452q rfl rfl (by kernel_rfl) rfl (fun a9453q h9454q => ?_)
    clear h9452q a9451q
    refine WL.skipped (m := 11) h9454q rfl rfl (by kernel_rfl) rfl (fun a9455q h9456q => ?_)
    clear h9454q a9453q
    refine WL.skipped (m := 12) h9456q rfl rfl (by kernel_rfl) rfl (fun a9457q h9458q => ?_)
    clear h9456q a9455q
    refine WL.skipped (m := 13) h9458q rfl rfl (by kernel_rfl) rfl (fun a9459q h9460q => ?_)
    clear h9458q a9457q
    refine WL.block (c := 1) (m' := 15) h9460q rfl [(19, .bool true)] (by kernel_rfl) (fun a9461q h9462q => ?_)
    clear h9460q a9459q
    refine WL.done (by kernel_rfl) ?_
    refine wp_then h9462q rfl ?_
    refine wp_seq ?_
    refine WL.start ?_
    refine WL.block (c := 1) (m' := 1) h9462q rfl [(4, .bool false)] (by kernel_rfl) (fun a9463q h9464q => ?_)
    clear h9462q a9461q
    refine WL.done (by kernel_rfl) ?_
    refine wp_ret ?_
    obtain ⟨M9466q, hr9465q, hM_⟩ := k68qmk (b := b) (w0 := w0) (R := R) (x := (⟨p0.f0, p0.f1⟩ : S68)) 
    have hp9467q : Ptr k68 68 b w0 R (.pointer (some ⟨g9433q, 0, none⟩)) (⟨p0.f0, p0.f1⟩ : S68) ((g9433q, .cells ([.int .i64 p0.f0, .bool p0.f1] : List Value).toArray 68 (0, 0)) :: M9466q) := ⟨_, _, _, rfl, rfl, hr9465q⟩
    rw [hM_] at hp9467q
    have hS9469q : St b w0 W R (((g9433q, .cells ([.int .i64 p0.f0, .bool p0.f1] : List Value).toArray 68 (0, 0)) :: ([])) :: Fs) := hS9437q.assoc (by simp only [List.flatten_cons, List.append_assoc, List.cons_append, List.nil_append, List.append_nil])
    obtain ⟨M9470q, hM_⟩ : ∃ y : Frag, y = ((g9433q, .cells ([.int .i64 p0.f0, .bool p0.f1] : List Value).toArray 68 (0, 0)) :: ([])) := ⟨_, rfl⟩
    rw [← hM_] at hp9467q hS9469q
    clear hM_
    obtain ⟨rfl, rfl⟩ := ret2 H
    repeat (first | refine then_ret ?_ | refine inBlock_ret ?_ | refine inBlock_go ?_)
    refine body_ret (v := .bool false) h9464q (by kernel_rfl) (by kernel_rfl) ?_
    exact ⟨M9470q, rfl, hp9467q, hS9469q⟩
  · rw [if_neg c9446q] at H
    have hb_ : (decide (p1 < 0)) = false := decide_eq_false c9446q
    try rw [hb_] at h9445q
    clear hb_
    refine WL.op' (m := 7) h9445q rfl rfl (owp_run h9445q rfl (by kernel_rfl) (v := .int .i64 p1) (by kernel_rfl) (fun a9471q h9472q => ?_))
    clear h9445q a9444q
    refine WL.op' (m := 8) h9472q rfl rfl (owp_run h9472q rfl (by kernel_rfl) (v := .pointer (some ⟨g9433q, 0, none⟩)) (by kernel_rfl) (fun a9473q h9474q => ?_))
    clear h9472q a9471q
    refine WL.op' (m := 9) h9474q rfl rfl (owp_run h9474q rfl (by kernel_rfl) (v := .pointer (some ⟨g9433q, 0, none⟩)) (by kernel_rfl) (fun a9475q h9476q => ?_))
    clear h9474q a9473q
    refine WL.op' (m := 10) h9476q rfl rfl (owp_run h9476q rfl (by kernel_rfl) (v := .pointer (some ⟨g9433q, 0, none⟩)) (by kernel_rfl) (fun a9477q h9478q => ?_))
    clear h9476q a9475q
    refine WL.op' (m := 11) h9478q rfl rfl ?_
    refine owp_run (v := .int .i64 p0.f0) h9478q rfl (by kernel_rfl) (run_load1 rfl rfl Try.underlying2 rfl (hS9437q.cell (i := 0) rfl)) (fun a9479q h9480q => ?_)
    clear h9478q a9477q
    refine WL.op' (m := 12) h9480q rfl rfl (owp_run h9480q rfl (by kernel_rfl) (v := .int .i64 (mxI p0.f0 0)) (by kernel_rfl) (fun a9481q h9482q => ?_))
    clear h9480q a9479q
    refine WL.op' (m := 13) h9482q rfl rfl (owp_run h9482q rfl (by kernel_rfl) (v := .bool (decide (p1 > (mxI p0.f0 0)))) (by kernel_rfl) (fun a9483q h9484q => ?_))
    clear h9482q a9481q
    refine WL.block (c := 1) (m' := 15) h9484q rfl [(19, .bool (decide (p1 > (mxI p0.f0 0))))] (by kernel_rfl) (fun a9485q h9486q => ?_)
    clear h9484q a9483q
    refine WL.done (by kernel_rfl) ?_
    by_cases c9487q : p1 > (mxI p0.f0 0)
    · rw [if_pos c9487q] at H
      have hb_ : (decide (p1 > (mxI p0.f0 0))) = true := decide_eq_true c9487q
      try rw [hb_] at h9486q
      clear hb_
      refine wp_then h9486q rfl ?_
      refine wp_seq ?_
      refine WL.start ?_
      refine WL.block (c := 1) (m' := 1) h9486q rfl [(4, .bool false)] (by kernel_rfl) (fun a9488q h9489q => ?_)
      clear h9486q a9485q
      refine WL.done (by kernel_rfl) ?_
      refine wp_ret ?_
      obtain ⟨M9491q, hr9490q, hM_⟩ := k68qmk (b := b) (w0 := w0) (R := R) (x := (⟨p0.f0, p0.f1⟩ : S68)) 
      have hp9492q : Ptr k68 68 b w0 R (.pointer (some ⟨g9433q, 0, none⟩)) (⟨p0.f0, p0.f1⟩ : S68) ((g9433q, .cells ([.int .i64 p0.f0, .bool p0.f1] : List Value).toArray 68 (0, 0)) :: M9491q) := ⟨_, _, _, rfl, rfl, hr9490q⟩
      rw [hM_] at hp9492q
      have hS9494q : St b w0 W R (((g9433q, .cells ([.int .i64 p0.f0, .bool p0.f1] : List Value).toArray 68 (0, 0)) :: ([])) :: Fs) := hS9437q.assoc (by simp only [List.flatten_cons, List.append_assoc, List.cons_append, List.nil_append, List.append_nil])
      obtain ⟨M9495q, hM_⟩ : ∃ y : Frag, y = ((g9433q, .cells ([.int .i64 p0.f0, .bool p0.f1] : List Value).toArray 68 (0, 0)) :: ([])) := ⟨_, rfl⟩
      rw [← hM_] at hp9492q hS9494q
      clear hM_
      obtain ⟨rfl, rfl⟩ := ret2 H
      repeat (first | refine then_ret ?_ | refine inBlock_ret ?_ | refine inBlock_go ?_)
      refine body_ret (v := .bool false) h9489q (by kernel_rfl) (by kernel_rfl) ?_
      exact ⟨M9495q, rfl, hp9492q, hS9494q⟩
    · rw [if_neg c9487q] at H
      have hb_ : (decide (p1 > (mxI p0.f0 0))) = false := decide_eq_false c9487q
      try rw [hb_] at h9486q
      clear hb_
      refine wp_else h9486q rfl ?_
      refine wp_skip ?_
      refine wp_seq ?_
      refine WL.start ?_
      refine WL.block (c := 3) (m' := 3) h9486q rfl [(22, .pointer (some ⟨g9433q, 0, none⟩)), (21, .pointer (some ⟨g9433q, 0, none⟩)), (20, .pointer (some ⟨g9433q, 0, none⟩))] (by kernel_rfl) (fun a9496q h9497q => ?_)
      clear h9486q a9485q
      refine WL.op' (m := 3) h9497q rfl rfl ?_
      refine owp_run (v := .int .i64 p0.f0) h9497q rfl (by kernel_rfl) (run_load1 rfl rfl Try.underlying2 rfl (hS9437q.cell (i := 0) rfl)) (fun a9498q h9499q => ?_)
      clear h9497q a9496q
      refine WL.block (c := 4) (m' := 8) h9499q rfl [(27, .pointer (some ⟨g9433q, 0, none⟩)), (26, .pointer (some ⟨g9433q, 0, none⟩)), (25, .int .i64 (IntKind.i64.wrap (p0.f0 - p1))), (24, .int .i64 p1)] (by kernel_rfl) (fun a9500q h9501q => ?_)
      clear h9499q a9498q
      refine WL.op' (m := 8) h9501q rfl rfl ?_
      refine owp_store (i := 0) (vs := ([.int .i64 (IntKind.i64.wrap (p0.f0 - p1))] : List Value)) h9501q rfl (by kernel_rfl) rfl rfl rfl rfl (by simp [Value.oneCell']) (by kernel_rfl) hS9437q (by simp) (cs' := ([.int .i64 (IntKind.i64.wrap (p0.f0 - p1)), .bool p0.f1] : List Value)) rfl (fun a9502q W9504q h9503q hS9505q => ?_)
      clear h9501q a9500q
      refine WL.done (by kernel_rfl) ?_
      refine wp_seq ?_
      refine WL.start ?_
      refine WL.block (c := 1) (m' := 1) h9503q rfl [(4, .bool true)] (by kernel_rfl) (fun a9506q h9507q => ?_)
      clear h9503q a9502q
      refine WL.done (by kernel_rfl) ?_
      refine wp_ret ?_
      obtain ⟨M9509q, hr9508q, hM_⟩ := k68qmk (b := b) (w0 := w0) (R := R) (x := (⟨IntKind.i64.wrap (p0.f0 - p1), p0.f1⟩ : S68)) 
      have hp9510q : Ptr k68 68 b w0 R (.pointer (some ⟨g9433q, 0, none⟩)) (⟨IntKind.i64.wrap (p0.f0 - p1), p0.f1⟩ : S68) ((g9433q, .cells ([.int .i64 (IntKind.i64.wrap (p0.f0 - p1)), .bool p0.f1] : List Value).toArray 68 (0, 0)) :: M9509q) := ⟨_, _, _, rfl, rfl, hr9508q⟩
      rw [hM_] at hp9510q
      have hS9512q : St b w0 W9504q R (((g9433q, .cells ([.int .i64 (IntKind.i64.wrap (p0.f0 - p1)), .bool p0.f1] : List Value).toArray 68 (0, 0)) :: ([])) :: Fs) := hS9505q.assoc (by simp only [List.flatten_cons, List.append_assoc, List.cons_append, List.nil_append, List.append_nil])
      obtain ⟨M9513q, hM_⟩ : ∃ y : Frag, y = ((g9433q, .cells ([.int .i64 (IntKind.i64.wrap (p0.f0 - p1)), .bool p0.f1] : List Value).toArray 68 (0, 0)) :: ([])) := ⟨_, rfl⟩
      rw [← hM_] at hp9510q hS9512q
      clear hM_
      obtain ⟨rfl, rfl⟩ := ret2 H
      repeat (first | refine then_ret ?_ | refine inBlock_ret ?_ | refine inBlock_go ?_)
      refine body_ret (v := .bool true) h9507q (by kernel_rfl) (by kernel_rfl) ?_
      exact ⟨M9513q, rfl, hp9510q, hS9512q⟩

/-! ### (*louver/window.Window).Take -/
def window_Window_Take_nil.f (p1 : Int) : Option (Bool) := some false
set_option maxHeartbeats 2000000 in
set_option maxRecDepth 100000 in
theorem window_Window_Take_nil.calls {b : Nat} {w0 W : World} {R : Frag} {Fs : List Frag} {p1 : Int}  {r0q : Bool}  (H : window_Window_Take_nil.f p1 = some r0q) (hS : St b w0 W R (Fs)) :
    Calls Try.prog 21 ([.pointer none, .int .i64 p1] : List Value).toArray W (fun e W' => e = .returned (.bool r0q) ∧ St b w0 W' R (Fs)) := by
  unfold window_Window_Take_nil.f at H
  refine calls_enter Try.func21 rfl 28 rfl (by kernel_rfl) (fun a h => ?_)
  refine wp_seq ?_
  refine WL.start ?_
  refine WL.block (c := 1) (m' := 1) h rfl [(4, .bool false)] (by kernel_rfl) (fun a9542q h9543q => ?_)
  refine WL.done (by kernel_rfl) ?_
  refine wp_seq ?_
  refine wp_seq ?_
  refine WL.start ?_
  refine WL.block (c := 3) (m' := 3) h9543q rfl [(7, .bool true), (6, .bool true), (5, .pointer none)] (by kernel_rfl) (fun a9544q h9545q => ?_)
  clear h9543q a9542q
  refine WL.skipped (m := 3) h9545q rfl rfl (by kernel_rfl) rfl (fun a9546q h9547q => ?_)
  clear h9545q a9544q
  refine WL.skipped (m := 4) h9547q rfl rfl (by kernel_rfl) rfl (fun a9548q h9549q => ?_)
  clear h9547q a9546q
  refine WL.block (c := 2) (m' := 7) h9549q rfl [(11, .bool true), (10, .bool true)] (by kernel_rfl) (fun a9550q h9551q => ?_)
  clear h9549q a9548q
  refine WL.skipped (m := 7) h9551q rfl rfl (by kernel_rfl) rfl (fun a9552q h9553q => ?_)
  clear h9551q a9550q
  refine WL.skipped (m := 8) h9553q rfl rfl (by kernel_rfl) rfl (fun a9554q h9555q => ?_)
  clear h9553q a9552q
  refine WL.skipped (m := 9) h9555q rfl rfl (by kernel_rfl) rfl (fun a9556q h9557q => ?_)
  clear h9555q a9554q
  refine WL.skipped (m := 10) h9557q rfl rfl (by kernel_rfl) rfl (fun a9558q h9559q => ?_)
  clear h9557q a9556q
  refine WL.skipped (m := 11) h9559q rfl rfl (by kernel_rfl) rfl (fun a9560q h9561q => ?_)
  clear h9559q a9558q
  refine WL.skipped (m := 12) h9561q rfl rfl (by kernel_rfl) rfl (fun a9562q h9563q => ?_)
  clear h9561q a9560q
  refine WL.skipped (m := 13) h9563q rfl rfl (by kernel_rfl) rfl (fun a9564q h9565q => ?_)
  clear h9563q a9562q
  refine WL.block (c := 1) (m' := 15) h9565q rfl [(19, .bool true)] (by kernel_rfl) (fun a9566q h9567q => ?_)
  clear h9565q a9564q
  refine WL.done (by kernel_rfl) ?_
  refine wp_then h9567q rfl ?_
  refine wp_seq ?_
  refine WL.start ?_
  refine WL.block (c := 1) (m' := 1) h9567q rfl [(4, .bool false)] (by kernel_rfl) (fun a9568q h9569q => ?_)
  clear h9567q a9566q
  refine WL.done (by kernel_rfl) ?_
  refine wp_ret ?_
  obtain rfl := Option.some.inj H
  repeat (first | refine then_ret ?_ | refine inBlock_ret ?_ | refine inBlock_go ?_)
  refine body_ret (v := .bool false) h9569q (by kernel_rfl) (by kernel_rfl) ?_
  exact ⟨rfl, hS⟩
end Go.Proofs.Ytgbognkigcedbaa.Sl
