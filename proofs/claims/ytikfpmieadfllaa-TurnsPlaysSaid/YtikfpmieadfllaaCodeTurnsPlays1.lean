/- What the functions of this program compute, told as plain functions, and that the calls come to just that. Printed by this session's program; part 1. -/
import Derived.Test.YtikfpmieadfllaaProg
import Derived.Test.YtikfpmieadfllaaSlY
set_option linter.unusedVariables false
set_option linter.unusedSimpArgs false
set_option linter.unnecessarySimpa false
namespace Go.Proofs.Ytikfpmieadfllaa.Sl
open Go Go.RowKit Go.Proofs.Sl
structure S45 where
 f0 : Int
 f1 : Int
 f2 : Int
 f3 : (List Int)
 f4 : Bool
 f5 : Int
 f6 : Int
 deriving DecidableEq
def z45 : S45 := ⟨(0 : Int), (0 : Int), (0 : Int), [], false, (0 : Int), (0 : Int)⟩
def k45 : Kd S45 := kIso (kPair (kInt .i64) (kPair (kInt .u32) (kPair (kInt .i64) (kPair (kRds (kInt .u8)) (kPair kBool (kPair (kInt .u32) (kInt .u32))))))) (fun x : S45 => (x.f0, (x.f1, (x.f2, (x.f3, (x.f4, (x.f5, x.f6)))))))
theorem k45qflat : k45.Flat := kIso_flat (kPair_flat (kInt_flat _) (kPair_flat (kInt_flat _) (kPair_flat (kInt_flat _) (kPair_flat kRds_flat (kPair_flat kBool_flat (kPair_flat (kInt_flat _) (kInt_flat _)))))))
theorem k45qrd {b : Nat} {w0 : World} {R : Frag} {x : S45} {cs : List Value} (h : k45.rd b w0 R x cs) : ∃ (vf3 : Value), cs = [i6 x.f0, .int .u32 x.f1, i6 x.f2, vf3, .bool x.f4, .int .u32 x.f5, .int .u32 x.f6] ∧ Rds (kInt .u8) b w0 R vf3 x.f3 := by
 obtain ⟨c100, c101, rfl, h102, h103⟩ := h
 obtain ⟨c104, c105, rfl, h106, h107⟩ := h103
 obtain ⟨c108, c109, rfl, h10a, h10b⟩ := h107
 obtain ⟨c10c, c10d, rfl, h10e, h10f⟩ := h10b
 obtain ⟨c10g, c10h, rfl, h10i, h10j⟩ := h10f
 obtain ⟨c10k, c10l, rfl, h10m, h10n⟩ := h10j
 obtain rfl := h102
 obtain rfl := h106
 obtain rfl := h10a
 obtain ⟨v10o, rfl, g10p⟩ := h10e
 obtain rfl := h10i
 obtain rfl := h10m
 obtain rfl := h10n
 exact ⟨v10o, rfl, g10p⟩
theorem k45qrep {b : Nat} {w0 : World} {R : Frag} {x : S45} {cs : List Value} {M : Frag} (h : k45.rep b w0 R x cs M) : ∃ (vf3 : Value), cs = [i6 x.f0, .int .u32 x.f1, i6 x.f2, vf3, .bool x.f4, .int .u32 x.f5, .int .u32 x.f6] ∧ M = [] ∧ Rds (kInt .u8) b w0 R vf3 x.f3 := by
 obtain ⟨c10q, c10r, M10u, M10v, rfl, rfl, h10s, h10t⟩ := h
 obtain ⟨c10w, c10x, M110, M111, rfl, rfl, h10y, h10z⟩ := h10t
 obtain ⟨c112, c113, M116, M117, rfl, rfl, h114, h115⟩ := h10z
 obtain ⟨c118, c119, M11c, M11d, rfl, rfl, h11a, h11b⟩ := h115
 obtain ⟨c11e, c11f, M11i, M11j, rfl, rfl, h11g, h11h⟩ := h11b
 obtain ⟨c11k, c11l, M11o, M11p, rfl, rfl, h11m, h11n⟩ := h11h
 obtain ⟨rfl, rfl⟩ := h10s
 obtain ⟨rfl, rfl⟩ := h10y
 obtain ⟨rfl, rfl⟩ := h114
 obtain ⟨⟨v11q, rfl, g11r⟩, rfl⟩ := h11a
 obtain ⟨rfl, rfl⟩ := h11g
 obtain ⟨rfl, rfl⟩ := h11m
 obtain ⟨rfl, rfl⟩ := h11n
 exact ⟨v11q, rfl, by simp, g11r⟩
theorem k45qno {b : Nat} {w0 : World} {R : Frag} {x : S45} {cs : List Value} {M : Frag} (h : k45.rep b w0 R x cs M) : M = [] := by
 obtain ⟨_, _, hM_, _⟩ := k45qrep h
 exact hM_
theorem k45qmk {b : Nat} {w0 : World} {R : Frag} {x : S45} {vf3 : Value} (gvf3 : Rds (kInt .u8) b w0 R vf3 x.f3) : ∃ M, k45.rep b w0 R x [i6 x.f0, .int .u32 x.f1, i6 x.f2, vf3, .bool x.f4, .int .u32 x.f5, .int .u32 x.f6] M ∧ M = [] := ⟨_, ⟨_, _, _, _, rfl, rfl, ⟨rfl, rfl⟩, ⟨_, _, _, _, rfl, rfl, ⟨rfl, rfl⟩, ⟨_, _, _, _, rfl, rfl, ⟨rfl, rfl⟩, ⟨_, _, _, _, rfl, rfl, ⟨⟨vf3, rfl, gvf3⟩, rfl⟩, ⟨_, _, _, _, rfl, rfl, ⟨rfl, rfl⟩, ⟨_, _, _, _, rfl, rfl, ⟨rfl, rfl⟩, ⟨rfl, rfl⟩⟩⟩⟩⟩⟩⟩, by simp⟩
/-! ### louver/louverlaw13.great -/
def louverlaw13qgreat.l0 : Nat → Int → Int → (List S45) → Option (Bool)
 | 0, _, _, _ => none
 | k + 1, x15v, x15w, p0 => if x15w < (p0.length : Int) then (if 0 ≤ x15w then (louverlaw13qgreat.l0 k (IntKind.i64.wrap (x15v + (IntKind.i64.wrap (1 + (mnI (((gt z45 p0 x15w).f3).length : Int) 9000))))) (IntKind.i64.wrap (x15w + 1)) p0) else (none)) else (if (p0.length : Int) > 300 then (some true) else (some (decide (x15v > 9000))))
def louverlaw13qgreat.f (k : Nat) (p0 : (List S45)) : Option (Bool) := louverlaw13qgreat.l0 k 0 0 p0
set_option maxHeartbeats 20000000 in
set_option maxRecDepth 100000 in
theorem louverlaw13qgreat.calls (k : Nat) {b : Nat} {w0 W : World} {R : Frag} {Fs : List Frag} {p0 : (List S45)} {v0 : Value} {r0q : Bool} (hp0 : Rds k45 b w0 R v0 p0) (H : louverlaw13qgreat.f k p0 = some r0q) (hS : St b w0 W R (Fs)) :
  Calls Try.prog 16 ([v0] : List Value).toArray W (fun e W' => e = .returned (.bool r0q) ∧ St b w0 W' R (Fs)) := by
 obtain ⟨A0, c0, rfl⟩ := hp0.form
 unfold louverlaw13qgreat.f at H
 refine calls_enter Try.func16 rfl 27 rfl (by kernel_rfl) (fun a h => ?_)
 refine wp_seq ?_
 refine WL.start ?_
 refine WL.bl 1 1 h [(2, .bool false)] (fun a15k h15l => ?_)
 refine WL.dn ?_
 refine wp_seq ?_
 refine WL.start ?_
 refine WL.bl 1 1 h15l [(3, i6 0)] (fun a15m h15n => ?_)
 refine WL.dn ?_
 refine wp_seq ?_
 refine wp_seq ?_
 refine WL.start ?_
 refine WL.bl 3 3 h15n [(8, i6 0), (7, i6 (p0.length : Int)), (6, .slice A0 p0.length c0)] (fun a15o h15p => ?_)
 refine WL.dn ?_
 refine wp_block ?_
 clear h15l a15k h15n a15m
 refine wp_loop_ghost (fun kq_ a_ W_ => ∃ (x15v : Int), ∃ (x15w : Int), Hd a_ 27 [(0, .slice A0 p0.length c0), (3, i6 x15v), (6, .slice A0 p0.length c0), (7, i6 (p0.length : Int)), (8, i6 x15w)] ∧ Asd (louverlaw13qgreat.l0 kq_ x15v x15w p0 = some r0q) ∧ Asd (kq_ ≤ k) ∧ Asd (St b w0 W_ R (Fs))) k ⟨0, 0, h15p.keep ⟨rfl, rfl, rfl, rfl, rfl, trivial⟩, ⟨H⟩, ⟨Nat.le_refl _⟩, ⟨hS⟩⟩ ?_
 clear H hS
 rintro kk15u a15r W15s ⟨x15v, x15w, h15q, ⟨H⟩, ⟨hkkk15u⟩, ⟨hS15t⟩⟩
 obtain _ | kk15x := kk15u
 ·exact absurd H (by simp [louverlaw13qgreat.l0])
 simp only [louverlaw13qgreat.l0] at H
 refine wp_seq ?_
 refine WL.start ?_
 refine WL.bl 1 1 h15q [(9, .bool (decide (x15w < (p0.length : Int))))] (fun a15y h15z => ?_)
 refine WL.dn ?_
 refine wp_seq ?_
 clear h15q a15r
 by_cases c160 : x15w < (p0.length : Int)
 ·rw [if_pos c160] at H
  have hb_ : (decide (x15w < (p0.length : Int))) = true := decide_eq_true c160
  try rw [hb_] at h15z
  clear hb_
  refine wp_then h15z rfl ?_
  refine wp_skip ?_
  refine wp_seq ?_
  refine wp_block ?_
  refine wp_seq ?_
  refine WL.start ?_
  by_cases c161 : 0 ≤ x15w
  ·rw [if_pos c161] at H
   have hi164 : 0 ≤ x15w := by first | assumption | omega
   have hi165 : x15w < (p0.length : Int) := by first | assumption | omega
   obtain ⟨ad162, _, ha163, -, -⟩ := Rds.elemAny hp0 hi164 (gt_get (z := z45) hi164 hi165)
   refine WL.oq h15z rfl ?_
   refine owp_rn (.pointer (some (ad162.add (x15w.toNat * 7)))) h15z rfl (run_idx (ad := ad162) (sz := 7) rfl (by rw [← ha163]; rfl) rfl Try.underlying38 (by kernel_rfl) hi164 hi165) (fun a166 h167 => ?_)
   obtain ⟨ad168, cs169, ha16a, hr16c, hc16b⟩ := Rds.elemAny hp0 hi164 (gt_get (z := z45) hi164 hi165)
   rw [ha163] at ha16a; obtain rfl := Option.some.inj ha16a
   obtain ⟨v16d, rfl, hx16e⟩ := k45qrd hr16c
   obtain ⟨A16f, c16g, rfl⟩ := hx16e.form
   refine WL.oq h167 rfl ?_
   refine owp_rn (.agg #[i6 ((gt z45 p0 x15w).f0), .int .u32 ((gt z45 p0 x15w).f1), i6 ((gt z45 p0 x15w).f2), .slice A16f ((gt z45 p0 x15w).f3).length c16g, .bool ((gt z45 p0 x15w).f4), .int .u32 ((gt z45 p0 x15w).f5), .int .u32 ((gt z45 p0 x15w).f6)]) h167 rfl (run_loadN rfl rfl Try.underlying45 rfl (cs := [i6 ((gt z45 p0 x15w).f0), .int .u32 ((gt z45 p0 x15w).f1), i6 ((gt z45 p0 x15w).f2), .slice A16f ((gt z45 p0 x15w).f3).length c16g, .bool ((gt z45 p0 x15w).f4), .int .u32 ((gt z45 p0 x15w).f5), .int .u32 ((gt z45 p0 x15w).f6)]) (by kernel_rfl) (hc16b _ (fun _ _ hk_ => hS15t.kn hk_))) (fun a16h h16i => ?_)
   refine WL.oq h16i rfl ?_
   refine owp_nw (fun g_ => (pt g_)) (.cells ([i6 0, .int .u32 0, i6 0, .slice none 0 0, .bool false, .int .u32 0, .int .u32 0] : List Value).toArray 45 (0, 0)) h16i rfl hS15t (fun a16j W16l g16m h16k hS16n => ?_)
   refine WL.oq h16k rfl ?_
   refine owp_st 0 [i6 ((gt z45 p0 x15w).f0), .int .u32 ((gt z45 p0 x15w).f1), i6 ((gt z45 p0 x15w).f2), .slice A16f ((gt z45 p0 x15w).f3).length c16g, .bool ((gt z45 p0 x15w).f4), .int .u32 ((gt z45 p0 x15w).f5), .int .u32 ((gt z45 p0 x15w).f6)] h16k rfl rfl rfl hS16n [i6 ((gt z45 p0 x15w).f0), .int .u32 ((gt z45 p0 x15w).f1), i6 ((gt z45 p0 x15w).f2), .slice A16f ((gt z45 p0 x15w).f3).length c16g, .bool ((gt z45 p0 x15w).f4), .int .u32 ((gt z45 p0 x15w).f5), .int .u32 ((gt z45 p0 x15w).f6)] (fun a16o W16q h16p hS16r => ?_)
   refine WL.dn ?_
   refine WL.start ?_
   refine WL.bl 2 2 h16p [(13, .pointer (some ⟨g16m, 3, none⟩)), (12, i6 x15v)] (fun a16s h16t => ?_)
   refine WL.oq h16t rfl ?_
   refine owp_rn (.slice A16f ((gt z45 p0 x15w).f3).length c16g) h16t rfl (run_load1 rfl rfl Try.underlying27 rfl (hS16r.cell (i := 3) rfl)) (fun a16u h16v => ?_)
   refine WL.bl 5 8 h16v [(3, i6 (IntKind.i64.wrap (x15v + (IntKind.i64.wrap (1 + (mnI (((gt z45 p0 x15w).f3).length : Int) 9000)))))), (18, i6 (IntKind.i64.wrap (x15v + (IntKind.i64.wrap (1 + (mnI (((gt z45 p0 x15w).f3).length : Int) 9000)))))), (17, i6 (IntKind.i64.wrap (1 + (mnI (((gt z45 p0 x15w).f3).length : Int) 9000)))), (16, i6 (mnI (((gt z45 p0 x15w).f3).length : Int) 9000)), (15, i6 (((gt z45 p0 x15w).f3).length : Int))] (fun a16w h16x => ?_)
   refine WL.dn ?_
   refine WL.start ?_
   refine WL.bl 2 2 h16x [(8, i6 (IntKind.i64.wrap (x15w + 1))), (19, i6 (IntKind.i64.wrap (x15w + 1)))] (fun a16y h16z => ?_)
   refine WL.dn ?_
   have hS170 := hS16r.drop_
   exact ⟨kk15x, by omega, IntKind.i64.wrap (x15v + (IntKind.i64.wrap (1 + (mnI (((gt z45 p0 x15w).f3).length : Int) 9000)))), IntKind.i64.wrap (x15w + 1), h16z.keep ⟨rfl, rfl, rfl, rfl, rfl, trivial⟩, ⟨H⟩, ⟨by omega⟩, ⟨hS170⟩⟩
  ·rw [if_neg c161] at H
   cases H
 ·rw [if_neg c160] at H
  have hb_ : (decide (x15w < (p0.length : Int))) = false := decide_eq_false c160
  try rw [hb_] at h15z
  clear hb_
  refine wp_else h15z rfl ?_
  refine wp_exit ?_
  refine wp_seq ?_
  refine WL.start ?_
  refine WL.bl 4 4 h15z [(23, .bool (decide ((p0.length : Int) > 300))), (22, .bool (decide ((p0.length : Int) > 300))), (21, i6 (p0.length : Int)), (20, .slice A0 p0.length c0)] (fun a171 h172 => ?_)
  clear h15z a15y
  by_cases c173 : (p0.length : Int) > 300
  ·rw [if_pos c173] at H
   have hb_ : (decide ((p0.length : Int) > 300)) = true := decide_eq_true c173
   try rw [hb_] at h172
   clear hb_
   refine WL.sk h172 rfl rfl (fun a174 h175 => ?_)
   refine WL.sk h175 rfl rfl (fun a176 h177 => ?_)
   refine WL.bl 2 8 h177 [(2, .bool true), (26, .bool true)] (fun a178 h179 => ?_)
   refine WL.dn ?_
   refine wp_ret ?_
   obtain rfl := Option.some.inj H
   repeat (first | with_reducible refine t1 ?_ | with_reducible refine t2 ?_ | with_reducible refine t3 ?_)
   refine bret (.bool true) h179 ?_
   exact ⟨rfl, hS15t⟩
  ·rw [if_neg c173] at H
   have hb_ : (decide ((p0.length : Int) > 300)) = false := decide_eq_false c173
   try rw [hb_] at h172
   clear hb_
   refine WL.oq h172 rfl (owp_rk (i6 x15v) h172 rfl (fun a17a h17b => ?_))
   refine WL.oq h17b rfl (owp_rk (.bool (decide (x15v > 9000))) h17b rfl (fun a17c h17d => ?_))
   refine WL.bl 2 8 h17d [(2, .bool (decide (x15v > 9000))), (26, .bool (decide (x15v > 9000)))] (fun a17e h17f => ?_)
   refine WL.dn ?_
   refine wp_ret ?_
   obtain rfl := Option.some.inj H
   repeat (first | with_reducible refine t1 ?_ | with_reducible refine t2 ?_ | with_reducible refine t3 ?_)
   refine bret (.bool (decide (x15v > 9000))) h17f ?_
   exact ⟨rfl, hS15t⟩

structure S94 where
 f0 : Int
 f1 : Bool
 deriving DecidableEq
def z94 : S94 := ⟨(0 : Int), false⟩
def k94 : Kd S94 := kIso (kPair (kInt .i64) kBool) (fun x : S94 => (x.f0, x.f1))
theorem k94qflat : k94.Flat := kIso_flat (kPair_flat (kInt_flat _) kBool_flat)
theorem k94qind : k94.Ind := kIso_ind (kPair_ind (kInt_ind _) kBool_ind)
theorem k94qrd {b : Nat} {w0 : World} {R : Frag} {x : S94} {cs : List Value} (h : k94.rd b w0 R x cs) : cs = [i6 x.f0, .bool x.f1] := by
 obtain ⟨c100, c101, rfl, h102, h103⟩ := h
 obtain rfl := h102
 obtain rfl := h103
 exact rfl
theorem k94qrep {b : Nat} {w0 : World} {R : Frag} {x : S94} {cs : List Value} {M : Frag} (h : k94.rep b w0 R x cs M) : cs = [i6 x.f0, .bool x.f1] ∧ M = [] := by
 obtain ⟨c104, c105, M108, M109, rfl, rfl, h106, h107⟩ := h
 obtain ⟨rfl, rfl⟩ := h106
 obtain ⟨rfl, rfl⟩ := h107
 exact ⟨rfl, by simp⟩
theorem k94qno {b : Nat} {w0 : World} {R : Frag} {x : S94} {cs : List Value} {M : Frag} (h : k94.rep b w0 R x cs M) : M = [] := by
 obtain ⟨_, hM_⟩ := k94qrep h
 exact hM_
theorem k94qmk {b : Nat} {w0 : World} {R : Frag} {x : S94}  : ∃ M, k94.rep b w0 R x [i6 x.f0, .bool x.f1] M ∧ M = [] := ⟨_, ⟨_, _, _, _, rfl, rfl, ⟨rfl, rfl⟩, ⟨rfl, rfl⟩⟩, by simp⟩
theorem k94qop {b : Nat} {w0 W : World} {R : Frag} {Ms : List Frag} {v : Value} {M : Frag} {y0 : Int} {y1 : Bool} (h : Ptr k94 94 b w0 R v (⟨y0, y1⟩ : S94) M) (hS : St b w0 W R (M :: Ms)) : ∃ (g : Nat), v = (pt g) ∧ St b w0 W R ((bx g 94 [i6 y0, .bool y1]) :: Ms) := by
 obtain ⟨g, cs, Mx, rfl, rfl, hr⟩ := h
 obtain ⟨rfl, hM2q⟩ := k94qrep hr
 rw [hM2q] at hS
 exact ⟨g, rfl, hS.assoc (by simp only [List.flatten_cons, List.append_assoc, List.cons_append, List.nil_append, List.append_nil])⟩
theorem k94qoq {b : Nat} {w0 W : World} {R : Frag} {Ms : List Frag} {g : Nat} {M : Frag} {y0 : Int} {y1 : Bool} (h : Ptr k94 94 b w0 R (pt g) (⟨y0, y1⟩ : S94) M) (hS : St b w0 W R (M :: Ms)) : St b w0 W R ((bx g 94 [i6 y0, .bool y1]) :: Ms) := by
 obtain ⟨g', hv, hS'⟩ := k94qop h hS
 obtain rfl : g = g' := by simpa using hv
 exact hS'
theorem k94qfo {b : Nat} {w0 W : World} {R : Frag} {Ms : List Frag} {g : Nat} {y0 : Int} {y1 : Bool} (x : S94)  (hS : St b w0 W R ((bx g 94 [i6 y0, .bool y1]) :: Ms)) (hx : x = (⟨y0, y1⟩ : S94) := by rfl) : ∃ M, Ptr k94 94 b w0 R (pt g) x M ∧ St b w0 W R (M :: Ms) := by
 subst hx
 obtain ⟨M, hr, hM⟩ := k94qmk (b := b) (w0 := w0) (R := R) (x := (⟨y0, y1⟩ : S94)) 
 exact ⟨_, ⟨g, _, M, rfl, rfl, hr⟩, hS.assoc (by rw [hM] <;> simp only [List.flatten_cons, List.append_assoc, List.cons_append, List.nil_append, List.append_nil])⟩
/-! ### louver/window.New -/
def window_New.f (p0 : Int) (p1 : Bool) : Option (S94) := some (⟨mnI (mxI p0 (-2147483648)) 2147483647, p1⟩ : S94)
set_option maxHeartbeats 20000000 in
set_option maxRecDepth 100000 in
theorem window_New.calls {b : Nat} {w0 W : World} {R : Frag} {Fs : List Frag} {p0 : Int} {p1 : Bool}  {r0q : S94}  (H : window_New.f p0 p1 = some r0q) (hS : St b w0 W R (Fs)) :
  Calls Try.prog 27 ([i6 p0, .bool p1] : List Value).toArray W (fun e W' => ∃ (u0q : Value) (N0q : Frag), e = .returned (u0q) ∧ Ptr k94 94 b w0 R u0q r0q N0q ∧ St b w0 W' R (N0q :: Fs)) := by
 unfold window_New.f at H
 refine calls_enter Try.func27 rfl 11 rfl (by kernel_rfl) (fun a h => ?_)
 refine wp_seq ?_
 refine WL.start ?_
 refine WL.bl 1 1 h [(4, .pointer none)] (fun a10o h10p => ?_)
 refine WL.dn ?_
 refine wp_seq ?_
 refine WL.start ?_
 refine WL.bl 5 5 h10p [(9, .agg #[i6 (mnI (mxI p0 (-2147483648)) 2147483647), .bool p1]), (8, .bool p1), (7, i6 (mnI (mxI p0 (-2147483648)) 2147483647)), (6, i6 (mxI p0 (-2147483648))), (5, i6 p0)] (fun a10q h10r => ?_)
 refine WL.oq h10r rfl ?_
 refine owp_nw (fun g_ => (pt g_)) (.cells ([i6 (mnI (mxI p0 (-2147483648)) 2147483647), .bool p1] : List Value).toArray 94 (0, 0)) h10r rfl hS (fun a10s W10u g10v h10t hS10w => ?_)
 refine WL.bl 1 7 h10t [(4, pt g10v)] (fun a10x h10y => ?_)
 refine WL.dn ?_
 refine wp_ret ?_
 obtain ⟨M10z, hp110, hS111⟩ := k94qfo (⟨mnI (mxI p0 (-2147483648)) 2147483647, p1⟩ : S94) hS10w
 obtain rfl := Option.some.inj H
 repeat (first | with_reducible refine t1 ?_ | with_reducible refine t2 ?_ | with_reducible refine t3 ?_)
 refine bret (pt g10v) h10y ?_
 exact ⟨(pt g10v), M10z, rfl, hp110, hS111⟩

structure S72 where
 f0 : Int
 f1 : (List Int)
 f2 : Bool
 f3 : Bool
 f4 : S94
 deriving DecidableEq
def z72 : S72 := ⟨(0 : Int), [], false, false, z94⟩
def k72 : Kd S72 := kIso (kPair (kInt .u32) (kPair (kRow (kInt .u8) 5) (kPair kBool (kPair kBool (kPtr k94 94))))) (fun x : S72 => (x.f0, (x.f1, (x.f2, (x.f3, x.f4)))))
theorem k72qind : k72.Ind := kIso_ind (kPair_ind (kInt_ind _) (kPair_ind (kRow_ind (kInt_ind _)) (kPair_ind kBool_ind (kPair_ind kBool_ind (kPtr_ind k94qind)))))
theorem k72qrep {b : Nat} {w0 : World} {R : Frag} {x : S72} {cs : List Value} {M : Frag} (h : k72.rep b w0 R x cs M) : ∃ (vf1 : Value) (vf4 : Value), ∃ (Mvf1 : Frag) (Mvf4 : Frag), cs = [.int .u32 x.f0, vf1, .bool x.f2, .bool x.f3, vf4] ∧ M = Mvf1 ++ Mvf4 ∧ Row (kInt .u8) 5 b w0 R vf1 x.f1 Mvf1 ∧ Ptr k94 94 b w0 R vf4 x.f4 Mvf4 := by
 obtain ⟨c100, c101, M104, M105, rfl, rfl, h102, h103⟩ := h
 obtain ⟨c106, c107, M10a, M10b, rfl, rfl, h108, h109⟩ := h103
 obtain ⟨c10c, c10d, M10g, M10h, rfl, rfl, h10e, h10f⟩ := h109
 obtain ⟨c10i, c10j, M10m, M10n, rfl, rfl, h10k, h10l⟩ := h10f
 obtain ⟨rfl, rfl⟩ := h102
 obtain ⟨v10o, rfl, g10p⟩ := h108
 obtain ⟨rfl, rfl⟩ := h10e
 obtain ⟨rfl, rfl⟩ := h10k
 obtain ⟨v10q, rfl, g10r⟩ := h10l
 exact ⟨v10o, v10q, _, _, rfl, by simp, g10p, g10r⟩
theorem k72qmk {b : Nat} {w0 : World} {R : Frag} {x : S72} {vf1 : Value} {Mvf1 : Frag} (gvf1 : Row (kInt .u8) 5 b w0 R vf1 x.f1 Mvf1) {vf4 : Value} {Mvf4 : Frag} (gvf4 : Ptr k94 94 b w0 R vf4 x.f4 Mvf4) : ∃ M, k72.rep b w0 R x [.int .u32 x.f0, vf1, .bool x.f2, .bool x.f3, vf4] M ∧ M = Mvf1 ++ Mvf4 := ⟨_, ⟨_, _, _, _, rfl, rfl, ⟨rfl, rfl⟩, ⟨_, _, _, _, rfl, rfl, ⟨vf1, rfl, gvf1⟩, ⟨_, _, _, _, rfl, rfl, ⟨rfl, rfl⟩, ⟨_, _, _, _, rfl, rfl, ⟨rfl, rfl⟩, ⟨vf4, rfl, gvf4⟩⟩⟩⟩⟩, by simp⟩
structure S69 where
 f0 : (List S72)
 f1 : Int
 f2 : S94
 deriving DecidableEq
def z69 : S69 := ⟨[], (0 : Int), z94⟩
def k69 : Kd S69 := kIso (kPair (kRow (kPtr k72 72) 70) (kPair (kInt .i64) (kPtr k94 94))) (fun x : S69 => (x.f0, (x.f1, x.f2)))
theorem k69qind : k69.Ind := kIso_ind (kPair_ind (kRow_ind (kPtr_ind k72qind)) (kPair_ind (kInt_ind _) (kPtr_ind k94qind)))
theorem k69qrep {b : Nat} {w0 : World} {R : Frag} {x : S69} {cs : List Value} {M : Frag} (h : k69.rep b w0 R x cs M) : ∃ (vf0 : Value) (vf2 : Value), ∃ (Mvf0 : Frag) (Mvf2 : Frag), cs = [vf0, i6 x.f1, vf2] ∧ M = Mvf0 ++ Mvf2 ∧ Row (kPtr k72 72) 70 b w0 R vf0 x.f0 Mvf0 ∧ Ptr k94 94 b w0 R vf2 x.f2 Mvf2 := by
 obtain ⟨c10s, c10t, M10w, M10x, rfl, rfl, h10u, h10v⟩ := h
 obtain ⟨c10y, c10z, M112, M113, rfl, rfl, h110, h111⟩ := h10v
 obtain ⟨v114, rfl, g115⟩ := h10u
 obtain ⟨rfl, rfl⟩ := h110
 obtain ⟨v116, rfl, g117⟩ := h111
 exact ⟨v114, v116, _, _, rfl, by simp, g115, g117⟩
theorem k69qmk {b : Nat} {w0 : World} {R : Frag} {x : S69} {vf0 : Value} {Mvf0 : Frag} (gvf0 : Row (kPtr k72 72) 70 b w0 R vf0 x.f0 Mvf0) {vf2 : Value} {Mvf2 : Frag} (gvf2 : Ptr k94 94 b w0 R vf2 x.f2 Mvf2) : ∃ M, k69.rep b w0 R x [vf0, i6 x.f1, vf2] M ∧ M = Mvf0 ++ Mvf2 := ⟨_, ⟨_, _, _, _, rfl, rfl, ⟨vf0, rfl, gvf0⟩, ⟨_, _, _, _, rfl, rfl, ⟨rfl, rfl⟩, ⟨vf2, rfl, gvf2⟩⟩⟩, by simp⟩
theorem k69qop {b : Nat} {w0 W : World} {R : Frag} {Ms : List Frag} {v : Value} {M : Frag} {y0 : (List S72)} {y1 : Int} {y2 : S94} (h : Ptr k69 69 b w0 R v (⟨y0, y1, y2⟩ : S69) M) (hS : St b w0 W R (M :: Ms)) : ∃ (g : Nat) (A0 : Option Addr) (c0 : Nat) (g2 : Nat) (M0 : Frag) (M2 : Frag), v = (pt g) ∧ Row (kPtr k72 72) 70 b w0 R (.slice A0 y0.length c0) y0 M0 ∧ Ptr k94 94 b w0 R (pt g2) y2 M2 ∧ St b w0 W R ((bx g 69 [.slice A0 y0.length c0, i6 y1, pt g2]) :: M0 :: M2 :: Ms) := by
 obtain ⟨g, cs, Mx, rfl, rfl, hr⟩ := h
 obtain ⟨v0, v2, M0, M2, rfl, hM2q, h0, h2⟩ := k69qrep hr
 rw [hM2q] at hS
 obtain ⟨A0, c0, rfl⟩ := h0.form
 obtain ⟨g2, rfl⟩ := h2.ptr_form
 exact ⟨g, A0, c0, g2, M0, M2, rfl, h0, h2, hS.assoc (by simp only [List.flatten_cons, List.append_assoc, List.cons_append, List.nil_append, List.append_nil])⟩
theorem k69qoq {b : Nat} {w0 W : World} {R : Frag} {Ms : List Frag} {g : Nat} {M : Frag} {y0 : (List S72)} {y1 : Int} {y2 : S94} (h : Ptr k69 69 b w0 R (pt g) (⟨y0, y1, y2⟩ : S69) M) (hS : St b w0 W R (M :: Ms)) : ∃ (A0 : Option Addr) (c0 : Nat) (g2 : Nat) (M0 : Frag) (M2 : Frag), Row (kPtr k72 72) 70 b w0 R (.slice A0 y0.length c0) y0 M0 ∧ Ptr k94 94 b w0 R (pt g2) y2 M2 ∧ St b w0 W R ((bx g 69 [.slice A0 y0.length c0, i6 y1, pt g2]) :: M0 :: M2 :: Ms) := by
 obtain ⟨g', A0, c0, g2, M0, M2, hv, h0, h2, hS'⟩ := k69qop h hS
 obtain rfl : g = g' := by simpa using hv
 exact ⟨A0, c0, g2, M0, M2, h0, h2, hS'⟩
theorem k69qfo {b : Nat} {w0 W : World} {R : Frag} {Ms : List Frag} {g : Nat} {y0 : (List S72)} {y1 : Int} {y2 : S94} {A0 : Option Addr} {c0 : Nat} {g2 : Nat} {M0 : Frag} {M2 : Frag} (x : S69) (h0 : Row (kPtr k72 72) 70 b w0 R (.slice A0 y0.length c0) y0 M0) (h2 : Ptr k94 94 b w0 R (pt g2) y2 M2) (hS : St b w0 W R ((bx g 69 [.slice A0 y0.length c0, i6 y1, pt g2]) :: M0 :: M2 :: Ms)) (hx : x = (⟨y0, y1, y2⟩ : S69) := by rfl) : ∃ M, Ptr k69 69 b w0 R (pt g) x M ∧ St b w0 W R (M :: Ms) := by
 subst hx
 obtain ⟨M, hr, hM⟩ := k69qmk (b := b) (w0 := w0) (R := R) (x := (⟨y0, y1, y2⟩ : S69)) (gvf0 := h0) (gvf2 := h2)
 exact ⟨_, ⟨g, _, M, rfl, rfl, hr⟩, hS.assoc (by rw [hM] <;> simp only [List.flatten_cons, List.append_assoc, List.cons_append, List.nil_append, List.append_nil])⟩
/-! ### louver/turns.New -/
def turns_New.f (p0 : Int) : Option (S69) := bnd1 (window_New.f p0 false) fun r129 => (some (⟨([] : List S72), 0, r129⟩ : S69))
set_option maxHeartbeats 20000000 in
set_option maxRecDepth 100000 in
theorem turns_New.calls {b : Nat} {w0 W : World} {R : Frag} {Fs : List Frag} {p0 : Int}  {r0q : S69}  (H : turns_New.f p0 = some r0q) (hS : St b w0 W R (Fs)) :
  Calls Try.prog 8 ([i6 p0] : List Value).toArray W (fun e W' => ∃ (u0q : Value) (N0q : Frag), e = .returned (u0q) ∧ Ptr k69 69 b w0 R u0q r0q N0q ∧ St b w0 W' R (N0q :: Fs)) := by
 unfold turns_New.f at H
 refine calls_enter Try.func8 rfl 7 rfl (by kernel_rfl) (fun a h => ?_)
 refine wp_seq ?_
 refine WL.start ?_
 refine WL.bl 1 1 h [(2, .pointer none)] (fun a124 h125 => ?_)
 refine WL.dn ?_
 refine wp_seq ?_
 refine WL.start ?_
 refine WL.bl 1 1 h125 [(3, i6 p0)] (fun a126 h127 => ?_)
 obtain ⟨r129, A128, H⟩ := bind1 H
 refine WL.oq h127 rfl ?_
 refine owp_call [i6 p0, .bool false] h127 rfl (by kernel_rfl) rfl Try.func27 (by kernel_rfl) rfl (by kernel_rfl) (window_New.calls  A128 hS) (fun e12b W12a hp12c => ?_)
 obtain ⟨v12f, M12g, rfl, hr12h, hS12i⟩ := hp12c
 refine ⟨_, rfl, fun a12d h12e => ?_⟩
 obtain ⟨g12j, rfl⟩ := hr12h.ptr_form
 refine WL.bl 1 3 h12e [(5, .agg #[.slice none 0 0, i6 0, pt g12j])] (fun a12k h12l => ?_)
 refine WL.oq h12l rfl ?_
 refine owp_nw (fun g_ => (pt g_)) (.cells ([.slice none 0 0, i6 0, pt g12j] : List Value).toArray 69 (0, 0)) h12l rfl hS12i (fun a12m W12o g12p h12n hS12q => ?_)
 refine WL.bl 1 5 h12n [(2, pt g12p)] (fun a12r h12s => ?_)
 refine WL.dn ?_
 refine wp_ret ?_
 have hS12t := hS12q.nil_
 have hS12u := hS12t.b2
 have hS12v := hS12u.b1
 have hS12w := hS12v.b2
 obtain ⟨M12x, hp12y, hS12z⟩ := k69qfo (⟨([] : List S72), 0, r129⟩ : S69) (y0 := []) Row.nil hr12h hS12w
 obtain rfl := Option.some.inj H
 repeat (first | with_reducible refine t1 ?_ | with_reducible refine t2 ?_ | with_reducible refine t3 ?_)
 refine bret (pt g12p) h12s ?_
 exact ⟨(pt g12p), M12x, rfl, hp12y, hS12z⟩

theorem k72qop {b : Nat} {w0 W : World} {R : Frag} {Ms : List Frag} {v : Value} {M : Frag} {y0 : Int} {y1 : (List Int)} {y2 : Bool} {y3 : Bool} {y4 : S94} (h : Ptr k72 72 b w0 R v (⟨y0, y1, y2, y3, y4⟩ : S72) M) (hS : St b w0 W R (M :: Ms)) : ∃ (g : Nat) (A1 : Option Addr) (c1 : Nat) (g4 : Nat) (M1 : Frag) (M4 : Frag), v = (pt g) ∧ Row (kInt .u8) 5 b w0 R (.slice A1 y1.length c1) y1 M1 ∧ Ptr k94 94 b w0 R (pt g4) y4 M4 ∧ St b w0 W R ((bx g 72 [.int .u32 y0, .slice A1 y1.length c1, .bool y2, .bool y3, pt g4]) :: M1 :: M4 :: Ms) := by
 obtain ⟨g, cs, Mx, rfl, rfl, hr⟩ := h
 obtain ⟨v1, v4, M1, M4, rfl, hM2q, h1, h4⟩ := k72qrep hr
 rw [hM2q] at hS
 obtain ⟨A1, c1, rfl⟩ := h1.form
 obtain ⟨g4, rfl⟩ := h4.ptr_form
 exact ⟨g, A1, c1, g4, M1, M4, rfl, h1, h4, hS.assoc (by simp only [List.flatten_cons, List.append_assoc, List.cons_append, List.nil_append, List.append_nil])⟩
theorem k72qoq {b : Nat} {w0 W : World} {R : Frag} {Ms : List Frag} {g : Nat} {M : Frag} {y0 : Int} {y1 : (List Int)} {y2 : Bool} {y3 : Bool} {y4 : S94} (h : Ptr k72 72 b w0 R (pt g) (⟨y0, y1, y2, y3, y4⟩ : S72) M) (hS : St b w0 W R (M :: Ms)) : ∃ (A1 : Option Addr) (c1 : Nat) (g4 : Nat) (M1 : Frag) (M4 : Frag), Row (kInt .u8) 5 b w0 R (.slice A1 y1.length c1) y1 M1 ∧ Ptr k94 94 b w0 R (pt g4) y4 M4 ∧ St b w0 W R ((bx g 72 [.int .u32 y0, .slice A1 y1.length c1, .bool y2, .bool y3, pt g4]) :: M1 :: M4 :: Ms) := by
 obtain ⟨g', A1, c1, g4, M1, M4, hv, h1, h4, hS'⟩ := k72qop h hS
 obtain rfl : g = g' := by simpa using hv
 exact ⟨A1, c1, g4, M1, M4, h1, h4, hS'⟩
theorem k72qfo {b : Nat} {w0 W : World} {R : Frag} {Ms : List Frag} {g : Nat} {y0 : Int} {y1 : (List Int)} {y2 : Bool} {y3 : Bool} {y4 : S94} {A1 : Option Addr} {c1 : Nat} {g4 : Nat} {M1 : Frag} {M4 : Frag} (x : S72) (h1 : Row (kInt .u8) 5 b w0 R (.slice A1 y1.length c1) y1 M1) (h4 : Ptr k94 94 b w0 R (pt g4) y4 M4) (hS : St b w0 W R ((bx g 72 [.int .u32 y0, .slice A1 y1.length c1, .bool y2, .bool y3, pt g4]) :: M1 :: M4 :: Ms)) (hx : x = (⟨y0, y1, y2, y3, y4⟩ : S72) := by rfl) : ∃ M, Ptr k72 72 b w0 R (pt g) x M ∧ St b w0 W R (M :: Ms) := by
 subst hx
 obtain ⟨M, hr, hM⟩ := k72qmk (b := b) (w0 := w0) (R := R) (x := (⟨y0, y1, y2, y3, y4⟩ : S72)) (gvf1 := h1) (gvf4 := h4)
 exact ⟨_, ⟨g, _, M, rfl, rfl, hr⟩, hS.assoc (by rw [hM] <;> simp only [List.flatten_cons, List.append_assoc, List.cons_append, List.nil_append, List.append_nil])⟩
/-! ### (*louver/turns.Ring).find$1 -/
def turns_Ring_find_1.f (p0 : S72) (p1 : Int) : Option (Bool) := some (decide (p0.f0 = p1))
set_option maxHeartbeats 20000000 in
set_option maxRecDepth 100000 in
theorem turns_Ring_find_1.calls {b : Nat} {w0 W : World} {R : Frag} {Fs : List Frag} {p0 : S72} {p1 : Int}  {v0 : Value} {M0 : Frag} {gc : Nat} {r0q : Bool} (hp0 : Ptr k72 72 b w0 R v0 p0 M0) (H : turns_Ring_find_1.f p0 p1 = some r0q) (hS : St b w0 W R (M0 :: (bx gc 25 [.int .u32 p1]) :: Fs)) :
  Calls Try.prog 47 ([v0, pt gc] : List Value).toArray W (fun e W' => ∃ (O0q : Frag), e = .returned (.bool r0q) ∧ Ptr k72 72 b w0 R v0 p0 O0q ∧ St b w0 W' R (O0q :: (bx gc 25 [.int .u32 p1]) :: Fs)) := by
 unfold turns_Ring_find_1.f at H
 refine calls_enter Try.func47 rfl 10 rfl (by kernel_rfl) (fun a h => ?_)
 refine wp_seq ?_
 refine WL.start ?_
 refine WL.bl 1 1 h [(3, .bool false)] (fun a129 h12a => ?_)
 refine WL.dn ?_
 refine wp_seq ?_
 obtain ⟨g12c, A12d, c12e, g12h, M12f, M12i, rfl, hr12g, hr12j, hS12b⟩ := k72qop hp0 hS
 refine WT.start 7 (fun w_ => (w_.cell? ⟨g12c, 0, none⟩ = some (.int .u32 p0.f0)) ∧ (w_.cell? ⟨gc, 0, none⟩ = some (.int .u32 p1)) ∧ True) (by kernel_rfl) #[false, false, false, false, false, false, false] 7 rfl rfl ?_
 have hS13q := hS12b.drew
 refine WT.tk 0 h12a rfl rfl (pt g12c) (fun _ _ => by kernel_rfl) ⟨(hS13q.cell (i := 0) rfl), (hS13q.b3.cell (i := 0) rfl), trivial⟩ (fun a13r s13t h13s => ?_)
 refine WT.tk 1 h13s rfl rfl (pt g12c) (fun _ _ => by kernel_rfl) s13t (fun a13u s13w h13v => ?_)
 refine WT.tk 2 h13v rfl rfl (pt g12c) (fun _ _ => by kernel_rfl) s13w (fun a13x s13z h13y => ?_)
 refine WT.tk 3 h13y rfl rfl (.int .u32 p0.f0) (fun w_ hs_ => (run_load1 rfl rfl Try.underlying25 rfl hs_.1)) s13z (fun a140 s142 h141 => ?_)
 refine WT.tk 4 h141 rfl rfl (.int .u32 p1) (fun w_ hs_ => (run_load1 rfl rfl Try.underlying25 rfl hs_.2.1)) s142 (fun a143 s145 h144 => ?_)
 refine WT.tk 5 h144 rfl rfl (.bool (decide (p0.f0 = p1))) (fun _ _ => by kernel_rfl) s145 (fun a146 s148 h147 => ?_)
 refine WT.tk 6 h147 rfl rfl (.bool (decide (p0.f0 = p1))) (fun _ _ => by kernel_rfl) s148 (fun a149 s14b h14a => ?_)
 refine WT.dn ?_
 refine wp_ret ?_
 have hS14c := hS13q.b2
 have hS14d := hS14c.b2
 have hS14e := hS14d.b2
 obtain ⟨M14f, hp14g, hS14h⟩ := k72qfo p0 hr12g hr12j hS14e
 obtain rfl := Option.some.inj H
 repeat (first | with_reducible refine t1 ?_ | with_reducible refine t2 ?_ | with_reducible refine t3 ?_)
 refine bret (.bool (decide (p0.f0 = p1))) h14a ?_
 exact ⟨M14f, rfl, hp14g, hS14h⟩
def turns_Ring_find_1.g (p1 : Int) : S72 → Bool := fun p0 => (turns_Ring_find_1.f p0 p1).getD false
theorem turns_Ring_find_1.tot (p1 : Int) (p0 : S72) : turns_Ring_find_1.f p0 p1 = some (turns_Ring_find_1.g p1 p0) := by
 rfl
theorem turns_Ring_find_1.clos {b : Nat} {w0 : World} {R : Frag} {gc : Nat} {p1 : Int} : Clos Try.prog k72 72 b w0 R (.func (.func 47) #[] #[(pt gc)]) (turns_Ring_find_1.g p1) (fun C => C = (bx gc 25 [.int .u32 p1])) := by
 refine ⟨47, _, _, rfl, Try.func47, by kernel_rfl, rfl, ?_⟩
 rintro W x v Mx C Fs hp rfl hS
 refine Calls.mono (turns_Ring_find_1.calls hp (turns_Ring_find_1.tot p1 x) hS) ?_
 rintro e W' ⟨O, rfl, ho, hS'⟩
 exact ⟨O, _, rfl, ho, rfl, hS'⟩

/-! ### slices.IndexFunc[[]*louver/turns.sender,*louver/turns.sender] -/
def slices_IndexFunc.l0 : Nat → Int → (List S72) → (S72 → Bool) → Option (Int)
 | 0, _, _, _ => none
 | k + 1, x14h, p0, p1 => if x14h < (p0.length : Int) then (if 0 ≤ x14h then (lt1 (gt z72 p0 x14h : S72) fun y154 => (if p1 y154 = true then (some x14h) else (slices_IndexFunc.l0 k (IntKind.i64.wrap (x14h + 1)) p0 p1))) else (none)) else (some (-1))
def slices_IndexFunc.f (k : Nat) (p0 : (List S72)) (p1 : S72 → Bool) : Option (Int) := slices_IndexFunc.l0 k 0 p0 p1
set_option maxHeartbeats 20000000 in
set_option maxRecDepth 100000 in
theorem slices_IndexFunc.calls (k : Nat) {b : Nat} {w0 W : World} {R : Frag} {Fs : List Frag} {p0 : (List S72)} {p1 : S72 → Bool} {v0 : Value} {M0 : Frag} {v1 : Value} {M1 : Frag} {Q1 : Frag → Prop} {r0q : Int} (hp0 : Row (kPtr k72 72) 70 b w0 R v0 p0 M0) (hp1 : Clos Try.prog k72 72 b w0 R v1 p1 Q1) (hq1 : Q1 M1) (H : slices_IndexFunc.f k p0 p1 = some r0q) (hS : St b w0 W R (M0 :: M1 :: Fs)) :
  Calls Try.prog 46 ([v0, v1] : List Value).toArray W (fun e W' => ∃ (O0q : Frag) (O1q : Frag), e = .returned (i6 r0q) ∧ Row (kPtr k72 72) 70 b w0 R v0 p0 O0q ∧ Q1 O1q ∧ St b w0 W' R (O0q :: O1q :: Fs)) := by
 obtain ⟨A0, c0, rfl⟩ := hp0.form
 unfold slices_IndexFunc.f at H
 refine calls_enter Try.func46 rfl 19 rfl (by kernel_rfl) (fun a h => ?_)
 refine wp_seq ?_
 refine WL.start ?_
 refine WL.bl 1 1 h [(4, i6 0)] (fun a144 h145 => ?_)
 refine WL.dn ?_
 refine wp_seq ?_
 refine wp_seq ?_
 refine WL.start ?_
 refine WL.bl 3 3 h145 [(8, i6 0), (7, i6 (p0.length : Int)), (6, .slice A0 p0.length c0)] (fun a146 h147 => ?_)
 refine WL.dn ?_
 refine wp_block ?_
 clear h145 a144
 refine wp_loop_ghost (fun kq_ a_ W_ => ∃ (M14d : Frag), ∃ (M14f : Frag), ∃ (x14h : Int), Hd a_ 19 [(0, .slice A0 p0.length c0), (1, v1), (7, i6 (p0.length : Int)), (8, i6 x14h)] ∧ Asd (slices_IndexFunc.l0 kq_ x14h p0 p1 = some r0q) ∧ Asd (kq_ ≤ k) ∧ Asd (St b w0 W_ R (M14d :: M14f :: Fs)) ∧ Asd (Row (kPtr k72 72) 70 b w0 R (.slice A0 p0.length c0) p0 M14d) ∧ Asd (Q1 M14f)) k ⟨M0, M1, 0, h147.keep ⟨rfl, rfl, rfl, rfl, trivial⟩, ⟨H⟩, ⟨Nat.le_refl _⟩, ⟨hS⟩, ⟨hp0⟩, ⟨hq1⟩⟩ ?_
 clear H hS
 rintro kk14c a149 W14a ⟨M14d, M14f, x14h, h148, ⟨H⟩, ⟨hkkk14c⟩, ⟨hS14b⟩, ⟨hr14e⟩, ⟨hq14g⟩⟩
 obtain _ | kk14i := kk14c
 ·exact absurd H (by simp [slices_IndexFunc.l0])
 simp only [slices_IndexFunc.l0] at H
 refine wp_seq ?_
 refine WL.start ?_
 refine WL.bl 1 1 h148 [(9, .bool (decide (x14h < (p0.length : Int))))] (fun a14j h14k => ?_)
 refine WL.dn ?_
 refine wp_seq ?_
 clear h148 a149
 by_cases c14l : x14h < (p0.length : Int)
 ·rw [if_pos c14l] at H
  have hb_ : (decide (x14h < (p0.length : Int))) = true := decide_eq_true c14l
  try rw [hb_] at h14k
  clear hb_
  refine wp_then h14k rfl ?_
  refine wp_skip ?_
  refine wp_seq ?_
  refine wp_block ?_
  refine wp_seq ?_
  refine WL.start ?_
  refine WL.bl 2 2 h14k [(5, i6 x14h), (10, i6 x14h)] (fun a14m h14n => ?_)
  refine WL.dn ?_
  refine wp_seq ?_
  refine WL.start ?_
  refine WL.bl 3 3 h14n [(13, i6 x14h), (12, .slice A0 p0.length c0), (11, v1)] (fun a14o h14p => ?_)
  clear h14k a14j h14n a14m
  by_cases c14q : 0 ≤ x14h
  ·rw [if_pos c14q] at H
   have hi14t : 0 ≤ x14h := by first | assumption | omega
   have hi14u : x14h < (p0.length : Int) := by first | assumption | omega
   obtain ⟨ad14r, _, ha14s, -, -⟩ := Rds.elemAny hr14e.rds hi14t (gt_get (z := z72) hi14t hi14u)
   refine WL.oq h14p rfl ?_
   refine owp_rn (.pointer (some (ad14r.add (x14h.toNat * 1)))) h14p rfl (run_idx (ad := ad14r) (sz := 1) rfl (by rw [← ha14s]; rfl) rfl Try.underlying67 (by kernel_rfl) hi14t hi14u) (fun a14v h14w => ?_)
   obtain ⟨g14x, M14y, M14z, hp150, hh151, hm152, hc153⟩ := Row.openp (dk := k72) z72 hr14e ha14s hi14t hi14u
   obtain ⟨y154, hy155, H⟩ := lete H
   have hr156 : Ptr k72 72 b w0 R (pt g14x) y154 M14z := by rw [hy155]; exact hp150
   have hS158 : St b w0 W14a R (M14z :: M14y :: M14f :: Fs) := hm152 _ _ hS14b
   clear hm152 hp150 hr14e
   refine WL.oq h14w rfl ?_
   refine owp_rn (pt g14x) h14w rfl (run_load1 rfl rfl Try.underlying70 rfl (hc153 _ _ hS158.b1)) (fun a159 h15a => ?_)
   have hS15b := hS158.b2
   have hS15c := hS15b.b1
   refine WL.oq h15a rfl ?_
   refine owp_callv h15a rfl rfl rfl rfl hp1 hr156 hq14g hS15c (fun a15d W15f M15g M15h h15e hr15i hq15j hS15k => ?_)
   refine WL.dn ?_
   clear h14p a14o h14w a14v h15a a159
   by_cases c15l : p1 y154 = true
   ·rw [if_pos c15l] at H
    have hb_ : (p1 y154) = true := c15l
    try rw [hb_] at h15e
    clear hb_
    refine wp_then h15e rfl ?_
    refine wp_seq ?_
    refine WL.start ?_
    refine WL.bl 2 2 h15e [(4, i6 x14h), (17, i6 x14h)] (fun a15m h15n => ?_)
    refine WL.dn ?_
    refine wp_ret ?_
    have hS15o := hS15k.b2
    have hS15p := hS15o.b1
    obtain ⟨M15q, hr15r, hm15s⟩ := hh151.same hy155 hi14t hi14u hr15i
    have hS15u : St b w0 W15f R (M15q :: M15h :: Fs) := hm15s _ _ hS15p
    obtain rfl := Option.some.inj H
    repeat (first | with_reducible refine t1 ?_ | with_reducible refine t2 ?_ | with_reducible refine t3 ?_)
    refine bret (i6 x14h) h15n ?_
    exact ⟨M15q, M15h, rfl, hr15r, hq15j, hS15u⟩
   ·rw [if_neg c15l] at H
    have hb_ : (p1 y154) = false := (Bool.eq_false_iff.2 c15l)
    try rw [hb_] at h15e
    clear hb_
    refine wp_else h15e rfl ?_
    refine wp_skip ?_
    refine WL.start ?_
    refine WL.bl 2 2 h15e [(8, i6 (IntKind.i64.wrap (x14h + 1))), (18, i6 (IntKind.i64.wrap (x14h + 1)))] (fun a15v h15w => ?_)
    refine WL.dn ?_
    have hS15x := hS15k.b2
    have hS15y := hS15x.b1
    obtain ⟨M15z, hr160, hm161⟩ := hh151.same hy155 hi14t hi14u hr15i
    have hS163 : St b w0 W15f R (M15z :: M15h :: Fs) := hm161 _ _ hS15y
    exact ⟨kk14i, by omega, M15z, M15h, IntKind.i64.wrap (x14h + 1), h15w.keep ⟨rfl, rfl, rfl, rfl, trivial⟩, ⟨H⟩, ⟨by omega⟩, ⟨hS163⟩, ⟨hr160⟩, ⟨hq15j⟩⟩
  ·rw [if_neg c14q] at H
   cases H
 ·rw [if_neg c14l] at H
  have hb_ : (decide (x14h < (p0.length : Int))) = false := decide_eq_false c14l
  try rw [hb_] at h14k
  clear hb_
  refine wp_else h14k rfl ?_
  refine wp_exit ?_
  refine wp_seq ?_
  refine WL.start ?_
  refine WL.bl 1 1 h14k [(4, i6 (-1))] (fun a164 h165 => ?_)
  refine WL.dn ?_
  refine wp_ret ?_
  obtain rfl := Option.some.inj H
  repeat (first | with_reducible refine t1 ?_ | with_reducible refine t2 ?_ | with_reducible refine t3 ?_)
  refine bret (i6 (-1)) h165 ?_
  exact ⟨M14d, M14f, rfl, hr14e, hq14g, hS14b⟩

/-! ### (*louver/turns.Ring).find -/
def turns_Ring_find.f (k : Nat) (p0 : S69) (p1 : Int) : Option (Int) := bnd1 (slices_IndexFunc.f k p0.f0 (turns_Ring_find_1.g p1)) fun r129 => (some r129)
set_option maxHeartbeats 20000000 in
set_option maxRecDepth 100000 in
theorem turns_Ring_find.calls (k : Nat) {b : Nat} {w0 W : World} {R : Frag} {Fs : List Frag} {p0 : S69} {p1 : Int}  {v0 : Value} {M0 : Frag} {r0q : Int} (hp0 : Ptr k69 69 b w0 R v0 p0 M0) (H : turns_Ring_find.f k p0 p1 = some r0q) (hS : St b w0 W R (M0 :: Fs)) :
  Calls Try.prog 28 ([v0, .int .u32 p1] : List Value).toArray W (fun e W' => ∃ (O0q : Frag), e = .returned (i6 r0q) ∧ Ptr k69 69 b w0 R v0 p0 O0q ∧ St b w0 W' R (O0q :: Fs)) := by
 unfold turns_Ring_find.f at H
 refine calls_enter Try.func28 rfl 13 rfl (by kernel_rfl) (fun a h => ?_)
 refine wp_seq ?_
 refine WL.start ?_
 refine WL.oq h rfl ?_
 refine owp_nw (fun g_ => (pt g_)) (.cells ([.int .u32 p1] : List Value).toArray 25 (0, 0)) h rfl hS (fun a11f W11h g11i h11g hS11j => ?_)
 refine WL.bl 1 2 h11g [(4, i6 0)] (fun a11k h11l => ?_)
 refine WL.dn ?_
 refine wp_seq ?_
 refine wp_seq ?_
 refine WL.start ?_
 refine WL.bl 1 1 h11l [(5, v0)] (fun a11m h11n => ?_)
 have hS11o := hS11j.b1
 obtain ⟨g11q, A11r, c11s, g11v, M11t, M11w, rfl, hr11u, hr11x, hS11p⟩ := k69qop hp0 hS11o
 refine WL.bl 1 2 h11n [(6, .bool false)] (fun a11y h11z => ?_)
 refine WL.dn ?_
 refine wp_else h11z rfl ?_
 refine wp_skip ?_
 refine wp_seq ?_
 refine WL.start ?_
 refine WL.bl 3 3 h11z [(9, pt g11q), (8, pt g11q), (7, pt g11q)] (fun a120 h121 => ?_)
 refine WL.oq h121 rfl ?_
 refine owp_rn (.slice A11r p0.f0.length c11s) h121 rfl (run_load1 rfl rfl Try.underlying67 rfl (hS11p.cell (i := 0) rfl)) (fun a122 h123 => ?_)
 refine WL.bl 1 5 h123 [(11, .func (.func 47) #[] #[(pt g11i)])] (fun a124 h125 => ?_)
 have hS126 := hS11p.b3
 have hS127 := hS126.b2
 obtain ⟨r129, A128, H⟩ := bind1 H
 refine WL.oq h125 rfl ?_
 refine owp_call [.slice A11r p0.f0.length c11s, .func (.func 47) #[] #[(pt g11i)]] h125 rfl (by kernel_rfl) rfl Try.func46 (by kernel_rfl) rfl (by kernel_rfl) (slices_IndexFunc.calls k hr11u turns_Ring_find_1.clos rfl A128 hS127) (fun e12b W12a hp12c => ?_)
 obtain ⟨M12f, M12h, rfl, hr12g, rfl, hS12j⟩ := hp12c
 refine ⟨_, rfl, fun a12d h12e => ?_⟩
 refine WL.bl 1 7 h12e [(4, i6 r129)] (fun a12k h12l => ?_)
 refine WL.dn ?_
 refine wp_ret ?_
 have hS12m := hS12j.b3
 have hS12n := hS12m.b1
 have hS12o := hS12n.b3
 obtain ⟨M12p, hp12q, hS12r⟩ := k69qfo p0 hr12g hr11x hS12o
 have hS12s := hS12r.b1
 have hS12t := hS12s.drop_
 obtain rfl := Option.some.inj H
 repeat (first | with_reducible refine t1 ?_ | with_reducible refine t2 ?_ | with_reducible refine t3 ?_)
 refine bret (i6 r129) h12l ?_
 exact ⟨M12p, rfl, hp12q, hS12t⟩

/-! ### (*louver/turns.Ring).find -/
def turns_Ring_find_nil.f (p1 : Int) : Option (Int) := some (-1)
set_option maxHeartbeats 20000000 in
set_option maxRecDepth 100000 in
theorem turns_Ring_find_nil.calls {b : Nat} {w0 W : World} {R : Frag} {Fs : List Frag} {p1 : Int}  {r0q : Int}  (H : turns_Ring_find_nil.f p1 = some r0q) (hS : St b w0 W R (Fs)) :
  Calls Try.prog 28 ([.pointer none, .int .u32 p1] : List Value).toArray W (fun e W' => e = .returned (i6 r0q) ∧ St b w0 W' R (Fs)) := by
 unfold turns_Ring_find_nil.f at H
 refine calls_enter Try.func28 rfl 13 rfl (by kernel_rfl) (fun a h => ?_)
 refine wp_seq ?_
 refine WL.start ?_
 refine WL.oq h rfl ?_
 refine owp_nw (fun g_ => (pt g_)) (.cells ([.int .u32 p1] : List Value).toArray 25 (0, 0)) h rfl hS (fun a10c W10e g10f h10d hS10g => ?_)
 refine WL.bl 1 2 h10d [(4, i6 0)] (fun a10h h10i => ?_)
 refine WL.dn ?_
 refine wp_seq ?_
 refine wp_seq ?_
 refine WL.start ?_
 refine WL.bl 2 2 h10i [(6, .bool true), (5, .pointer none)] (fun a10j h10k => ?_)
 refine WL.dn ?_
 refine wp_then h10k rfl ?_
 refine wp_seq ?_
 refine WL.start ?_
 refine WL.bl 1 1 h10k [(4, i6 (-1))] (fun a10l h10m => ?_)
 refine WL.dn ?_
 refine wp_ret ?_
 have hS10n := hS10g.drop_
 obtain rfl := Option.some.inj H
 repeat (first | with_reducible refine t1 ?_ | with_reducible refine t2 ?_ | with_reducible refine t3 ?_)
 refine bret (i6 (-1)) h10m ?_
 exact ⟨rfl, hS10n⟩

/-! ### (*louver/turns.Ring).Open -/
def turns_Ring_Open.f (k : Nat) (p0 : S69) (p1 : Int) (p2 : Int) : Option (Bool × S69) := if p1 = 0 then (some (false, p0)) else (bnd1 (turns_Ring_find.f k p0 p1) fun r1em => (if r1em ≥ 0 then (some (false, p0)) else (bnd1 (window_New.f p2 true) fun r1kd => (if p0.f0.length + 1 ≤ 17592186044416 then (lt1 (p0.f0 ++ ([(⟨p1, ([] : List Int), false, false, r1kd⟩ : S72)] : List S72) : List S72) fun y1lk => (some (true, (⟨y1lk, p0.f1, p0.f2⟩ : S69)))) else (none)))))
set_option maxHeartbeats 20000000 in
set_option maxRecDepth 100000 in
theorem turns_Ring_Open.calls (k : Nat) {b : Nat} {w0 W : World} {R : Frag} {Fs : List Frag} {p0 : S69} {p1 : Int} {p2 : Int}  {v0 : Value} {M0 : Frag} {r0q : Bool} {r1q : S69} (hp0 : Ptr k69 69 b w0 R v0 p0 M0) (H : turns_Ring_Open.f k p0 p1 p2 = some (r0q, r1q)) (hS : St b w0 W R (M0 :: Fs)) :
  Calls Try.prog 9 ([v0, .int .u32 p1, i6 p2] : List Value).toArray W (fun e W' => ∃ (O0q : Frag), e = .returned (.bool r0q) ∧ Ptr k69 69 b w0 R v0 r1q O0q ∧ St b w0 W' R (O0q :: Fs)) := by
 unfold turns_Ring_Open.f at H
 refine calls_enter Try.func9 rfl 33 rfl (by kernel_rfl) (fun a h => ?_)
 refine wp_seq ?_
 refine WL.start ?_
 refine WL.bl 1 1 h [(6, .bool false)] (fun a1d7 h1d8 => ?_)
 refine WL.dn ?_
 refine wp_seq ?_
 refine wp_seq ?_
 refine WL.start ?_
 refine WL.bl 1 1 h1d8 [(7, v0)] (fun a1d9 h1da => ?_)
 obtain ⟨g1dc, A1dd, c1de, g1dh, M1df, M1di, rfl, hr1dg, hr1dj, hS1db⟩ := k69qop hp0 hS
 refine WL.bl 2 3 h1da [(9, .bool false), (8, .bool false)] (fun a1dk h1dl => ?_)
 refine WL.oq h1dl rfl (owp_rk (.int .u32 p1) h1dl rfl (fun a1dm h1dn => ?_))
 refine WL.oq h1dn rfl (owp_rk (.bool (decide (p1 = 0))) h1dn rfl (fun a1do h1dp => ?_))
 refine WL.bl 2 7 h1dp [(13, .bool (decide (p1 = 0))), (12, .bool (decide (p1 = 0)))] (fun a1dq h1dr => ?_)
 clear h1d8 a1d7 h1da a1d9 h1dl a1dk h1dn a1dm h1dp a1do
 by_cases c1ds : p1 = 0
 ·rw [if_pos c1ds] at H
  have hb_ : (decide (p1 = 0)) = true := decide_eq_true c1ds
  try rw [hb_] at h1dr
  clear hb_
  refine WL.sk h1dr rfl rfl (fun a1dt h1du => ?_)
  refine WL.sk h1du rfl rfl (fun a1dv h1dw => ?_)
  refine WL.sk h1dw rfl rfl (fun a1dx h1dy => ?_)
  refine WL.sk h1dy rfl rfl (fun a1dz h1e0 => ?_)
  refine WL.bl 1 12 h1e0 [(18, .bool true)] (fun a1e1 h1e2 => ?_)
  refine WL.dn ?_
  refine wp_then h1e2 rfl ?_
  refine wp_seq ?_
  refine WL.start ?_
  refine WL.bl 1 1 h1e2 [(6, .bool false)] (fun a1e3 h1e4 => ?_)
  refine WL.dn ?_
  refine wp_ret ?_
  have hS1e5 := hS1db.b2
  have hS1e6 := hS1e5.b2
  have hS1e7 := hS1e6.b2
  obtain ⟨M1e8, hp1e9, hS1ea⟩ := k69qfo p0 hr1dg hr1dj hS1e7
  obtain ⟨rfl, rfl⟩ := ret2 H
  repeat (first | with_reducible refine t1 ?_ | with_reducible refine t2 ?_ | with_reducible refine t3 ?_)
  refine bret (.bool false) h1e4 ?_
  exact ⟨M1e8, rfl, hp1e9, hS1ea⟩
 ·rw [if_neg c1ds] at H
  have hb_ : (decide (p1 = 0)) = false := decide_eq_false c1ds
  try rw [hb_] at h1dr
  clear hb_
  refine WL.oq h1dr rfl (owp_rk (pt g1dc) h1dr rfl (fun a1eb h1ec => ?_))
  refine WL.oq h1ec rfl (owp_rk (.int .u32 p1) h1ec rfl (fun a1ed h1ee => ?_))
  have hS1ef := hS1db.b2
  have hS1eg := hS1ef.b2
  have hS1eh := hS1eg.b2
  obtain ⟨M1ei, hp1ej, hS1ek⟩ := k69qfo p0 hr1dg hr1dj hS1eh
  obtain ⟨r1em, A1el, H⟩ := bind1 H
  refine WL.oq h1ee rfl ?_
  refine owp_call [(pt g1dc), .int .u32 p1] h1ee rfl (by kernel_rfl) rfl Try.func28 (by kernel_rfl) rfl (by kernel_rfl) (turns_Ring_find.calls k hp1ej A1el hS1ek) (fun e1eo W1en hp1ep => ?_)
  obtain ⟨M1es, rfl, hr1et, hS1eu⟩ := hp1ep
  refine ⟨_, rfl, fun a1eq h1er => ?_⟩
  refine WL.oq h1er rfl (owp_rk (.bool (decide (r1em ≥ 0))) h1er rfl (fun a1ev h1ew => ?_))
  refine WL.bl 1 12 h1ew [(18, .bool (decide (r1em ≥ 0)))] (fun a1ex h1ey => ?_)
  refine WL.dn ?_
  clear h1dr a1dq h1ec a1eb h1ee a1ed h1er a1eq h1ew a1ev
  by_cases c1ez : r1em ≥ 0
  ·rw [if_pos c1ez] at H
   have hb_ : (decide (r1em ≥ 0)) = true := decide_eq_true c1ez
   try rw [hb_] at h1ey
   clear hb_
   refine wp_then h1ey rfl ?_
   refine wp_seq ?_
   refine WL.start ?_
   refine WL.bl 1 1 h1ey [(6, .bool false)] (fun a1f0 h1f1 => ?_)
   refine WL.dn ?_
   refine wp_ret ?_
   obtain ⟨rfl, rfl⟩ := ret2 H
   repeat (first | with_reducible refine t1 ?_ | with_reducible refine t2 ?_ | with_reducible refine t3 ?_)
   refine bret (.bool false) h1f1 ?_
   exact ⟨M1es, rfl, hr1et, hS1eu⟩
  ·rw [if_neg c1ez] at H
   have hb_ : (decide (r1em ≥ 0)) = false := decide_eq_false c1ez
   try rw [hb_] at h1ey
   clear hb_
   refine wp_else h1ey rfl ?_
   refine wp_skip ?_
   refine wp_seq ?_
   obtain ⟨A1f3, c1f4, g1f7, M1f5, M1f8, hr1f6, hr1f9, hS1f2⟩ := k69qoq hr1et hS1eu
   refine WT.start 14 (fun w_ => (w_.cell? ⟨g1dc, 0, none⟩ = some (.slice A1f3 p0.f0.length c1f4)) ∧ True) (by kernel_rfl) #[false, false, false, false, false, false, false, false, false, false, false, false, false, false, false] 15 rfl rfl ?_
   have hS1jq := hS1f2.drew
   refine WT.tk 0 h1ey rfl rfl (pt g1dc) (fun _ _ => by kernel_rfl) ⟨(hS1jq.cell (i := 0) rfl), trivial⟩ (fun a1jr s1jt h1js => ?_)
   refine WT.tk 1 h1js rfl rfl (pt g1dc) (fun _ _ => by kernel_rfl) s1jt (fun a1ju s1jw h1jv => ?_)
   refine WT.tk 2 h1jv rfl rfl (pt g1dc) (fun _ _ => by kernel_rfl) s1jw (fun a1jx s1jz h1jy => ?_)
   refine WT.tk 3 h1jy rfl rfl (pt g1dc) (fun _ _ => by kernel_rfl) s1jz (fun a1k0 s1k2 h1k1 => ?_)
   refine WT.tk 5 h1k1 rfl rfl (.int .u32 p1) (fun _ _ => by kernel_rfl) s1k2 (fun a1k3 s1k5 h1k4 => ?_)
   refine WT.tk 6 h1k4 rfl rfl (i6 p2) (fun _ _ => by kernel_rfl) s1k5 (fun a1k6 s1k8 h1k7 => ?_)
   refine WT.tk 4 h1k7 rfl rfl (.slice A1f3 p0.f0.length c1f4) (fun w_ hs_ => (run_load1 rfl rfl Try.underlying67 rfl hs_.1)) s1k8 (fun a1k9 s1kb h1ka => ?_)
   obtain ⟨r1kd, A1kc, H⟩ := bind1 H
   refine WT.o1 7 h1ka rfl ?_
   refine owp_call [i6 p2, .bool true] h1ka rfl (by kernel_rfl) rfl Try.func27 (by kernel_rfl) rfl (by kernel_rfl) (window_New.calls  A1kc hS1jq) (fun e1kf W1ke hp1kg => ?_)
   obtain ⟨v1kj, M1kk, rfl, hr1kl, hS1km⟩ := hp1kg
   refine ⟨_, rfl, fun a1kh h1ki => ?_⟩
   obtain ⟨g1kn, rfl⟩ := hr1kl.ptr_form
   refine ⟨.inr ⟨(hS1km.b1.cell (i := 0) rfl), trivial⟩, ?_⟩
   refine WT.tk 8 h1ki rfl rfl (.agg #[.int .u32 p1, .slice none 0 0, .bool false, .bool false, pt g1kn]) (fun _ _ => by kernel_rfl) ⟨(hS1km.b1.cell (i := 0) rfl), trivial⟩ (fun a1ko s1kq h1kp => ?_)
   refine WT.o1 9 h1kp rfl ?_
   refine owp_nw (fun g_ => (pt g_)) (.cells ([.int .u32 p1, .slice none 0 0, .bool false, .bool false, pt g1kn] : List Value).toArray 72 (0, 0)) h1kp rfl hS1km (fun a1kr W1kt g1ku h1ks hS1kv => ?_)
   refine ⟨.inr ⟨(hS1kv.b2.cell (i := 0) rfl), trivial⟩, ?_⟩
   have hS1kw := hS1kv.nil_
   have hS1kx := hS1kw.b2
   have hS1ky := hS1kx.b1
   have hS1kz := hS1ky.b2
   obtain ⟨M1l0, hp1l1, hS1l2⟩ := k72qfo (⟨p1, ([] : List Int), false, false, r1kd⟩ : S72) (y1 := []) Row.nil hr1kl hS1kz
   refine WT.o1 10 h1ks rfl ?_
   refine owp_nw (fun g_ => .slice (some ⟨g_, 0, none⟩) 1 1) (.cells ([(pt g1ku)] : List Value).toArray 70 (0, 0)) h1ks rfl hS1l2 (fun a1l3 W1l5 g1l6 h1l4 hS1l7 => ?_)
   have hr1l8 : Row (kPtr k72 72) 70 b w0 R (.slice (some ⟨g1l6, 0, none⟩) 1 1) ([(⟨p1, ([] : List Int), false, false, r1kd⟩ : S72)] : List S72) ((bx g1l6 70 [(pt g1ku)]) ++ ((M1l0) ++ ([] : Frag))) := Row.lit (xs := ([(⟨p1, ([] : List Int), false, false, r1kd⟩ : S72)] : List S72)) (Mi := ((M1l0) ++ ([] : Frag))) ⟨_, _, _, _, rfl, rfl, ⟨_, rfl, hp1l1⟩, ⟨rfl, rfl⟩⟩ (by simp [maxLen])
   have hS1la : St b w0 W1l5 R (((bx g1l6 70 [(pt g1ku)]) ++ ((M1l0) ++ ([] : Frag))) :: (bx g1dc 69 [.slice A1f3 p0.f0.length c1f4, i6 p0.f1, pt g1f7]) :: M1f5 :: M1f8 :: Fs) := hS1l7.assoc (by simp only [List.flatten_cons, List.append_assoc, List.cons_append, List.nil_append, List.append_nil])
   obtain ⟨M1l9, hM_⟩ : ∃ y : Frag, y = ((bx g1l6 70 [(pt g1ku)]) ++ ((M1l0) ++ ([] : Frag))) := ⟨_, rfl⟩
   rw [← hM_] at hr1l8 hS1la
   clear hM_
   refine ⟨.inr ⟨(hS1la.b1.cell (i := 0) rfl), trivial⟩, ?_⟩
   clear h1ey a1ex h1js a1jr h1jv a1ju h1jy a1jx h1k1 a1k0 h1k4 a1k3 h1k7 a1k6 h1ka a1k9 h1ki a1kh h1kp a1ko h1ks a1kr
   by_cases c1lb : p0.f0.length + 1 ≤ 17592186044416
   ·rw [if_pos c1lb] at H
    have hS1lc := hS1la.b2
    refine WT.o1 11 h1l4 rfl ?_
    refine owp_app_take (z := .pointer none) (bytes := 8) (dk := (kPtr k72 72)) h1l4 rfl (by kernel_rfl) rfl rfl rfl hr1f6 hr1l8 hS1lc Try.underlying67 (by kernel_rfl) rfl (by decide) (by decide) (by first | omega | (simp only [List.length_cons, List.length_nil] at *; omega)) (fun a1ld W1lf v1lg M1lh h1le hr1li hS1lj => ?_)
    obtain ⟨y1lk, hy1ll, H⟩ := lete H
    have hr1lm : Row (kPtr k72 72) 70 b w0 R v1lg y1lk M1lh := by rw [hy1ll]; exact hr1li
    clear hr1li
    obtain ⟨A1ln, c1lo, rfl⟩ := hr1lm.form
    refine ⟨.inr ⟨(hS1lj.b1.cell (i := 0) rfl), trivial⟩, ?_⟩
    refine WT.o1 12 h1le rfl ?_
    refine owp_rk (pt g1dc) h1le rfl (fun a1lp h1lq => ?_)
    refine ⟨.inr ⟨(hS1lj.b1.cell (i := 0) rfl), trivial⟩, ?_⟩
    refine WT.tk 13 h1lq rfl rfl (pt g1dc) (fun _ _ => by kernel_rfl) ⟨(hS1lj.b1.cell (i := 0) rfl), trivial⟩ (fun a1lr s1lt h1ls => ?_)
    have hS1lu := hS1lj.b1
    refine WT.o1 14 h1ls rfl ?_
    refine owp_st 0 [.slice A1ln y1lk.length c1lo] h1ls rfl rfl rfl hS1lu [.slice A1ln y1lk.length c1lo, i6 p0.f1, pt g1f7] (fun a1lv W1lx h1lw hS1ly => ?_)
    refine ⟨.inl (by decide), ?_⟩
    refine WT.dn ?_
    refine wp_seq ?_
    refine WL.start ?_
    refine WL.bl 1 1 h1lw [(6, .bool true)] (fun a1lz h1m0 => ?_)
    refine WL.dn ?_
    refine wp_ret ?_
    have hS1m1 := hS1ly.b2
    have hS1m2 := hS1m1.b2
    have hS1m3 := hS1m2.b2
    obtain ⟨M1m4, hp1m5, hS1m6⟩ := k69qfo (⟨y1lk, p0.f1, p0.f2⟩ : S69) hr1lm hr1f9 hS1m3
    obtain ⟨rfl, rfl⟩ := ret2 H
    repeat (first | with_reducible refine t1 ?_ | with_reducible refine t2 ?_ | with_reducible refine t3 ?_)
    refine bret (.bool true) h1m0 ?_
    exact ⟨M1m4, rfl, hp1m5, hS1m6⟩
   ·rw [if_neg c1lb] at H
    cases H

/-! ### (*louver/turns.Ring).Open -/
def turns_Ring_Open_nil.f (p1 : Int) (p2 : Int) : Option (Bool) := some false
set_option maxHeartbeats 20000000 in
set_option maxRecDepth 100000 in
theorem turns_Ring_Open_nil.calls {b : Nat} {w0 W : World} {R : Frag} {Fs : List Frag} {p1 : Int} {p2 : Int}  {r0q : Bool}  (H : turns_Ring_Open_nil.f p1 p2 = some r0q) (hS : St b w0 W R (Fs)) :
  Calls Try.prog 9 ([.pointer none, .int .u32 p1, i6 p2] : List Value).toArray W (fun e W' => e = .returned (.bool r0q) ∧ St b w0 W' R (Fs)) := by
 unfold turns_Ring_Open_nil.f at H
 refine calls_enter Try.func9 rfl 33 rfl (by kernel_rfl) (fun a h => ?_)
 refine wp_seq ?_
 refine WL.start ?_
 refine WL.bl 1 1 h [(6, .bool false)] (fun a10m h10n => ?_)
 refine WL.dn ?_
 refine wp_seq ?_
 refine wp_seq ?_
 refine WL.start ?_
 refine WL.bl 3 3 h10n [(9, .bool true), (8, .bool true), (7, .pointer none)] (fun a10o h10p => ?_)
 refine WL.sk h10p rfl rfl (fun a10q h10r => ?_)
 refine WL.sk h10r rfl rfl (fun a10s h10t => ?_)
 refine WL.bl 2 7 h10t [(13, .bool true), (12, .bool true)] (fun a10u h10v => ?_)
 refine WL.sk h10v rfl rfl (fun a10w h10x => ?_)
 refine WL.sk h10x rfl rfl (fun a10y h10z => ?_)
 refine WL.sk h10z rfl rfl (fun a110 h111 => ?_)
 refine WL.sk h111 rfl rfl (fun a112 h113 => ?_)
 refine WL.bl 1 12 h113 [(18, .bool true)] (fun a114 h115 => ?_)
 refine WL.dn ?_
 refine wp_then h115 rfl ?_
 refine wp_seq ?_
 refine WL.start ?_
 refine WL.bl 1 1 h115 [(6, .bool false)] (fun a116 h117 => ?_)
 refine WL.dn ?_
 refine wp_ret ?_
 obtain rfl := Option.some.inj H
 repeat (first | with_reducible refine t1 ?_ | with_reducible refine t2 ?_ | with_reducible refine t3 ?_)
 refine bret (.bool false) h117 ?_
 exact ⟨rfl, hS⟩

/-! ### (*louver/turns.Ring).Put -/
def turns_Ring_Put.f (k : Nat) (p0 : S69) (p1 : Int) (p2 : (List Int)) (p3 : Bool) : Option (Bool × S69) := bnd1 (turns_Ring_find.f k p0 p1) fun r1c4 => (if r1c4 < 0 then (some (false, p0)) else (if 0 ≤ r1c4 then (if r1c4 < (p0.f0.length : Int) then (lt1 (gt z72 p0.f0 r1c4 : S72) fun y1e5 => (if y1e5.f2 = true then (some (false, p0)) else (lt1 (gt z72 p0.f0 r1c4 : S72) fun y1gb => (if y1gb.f1.length + p2.length ≤ 140737488355328 then (lt1 (y1gb.f1 ++ p2 : List Int) fun y1h9 => (some (true, (⟨(p0.f0.set r1c4.toNat (⟨y1gb.f0, y1h9, p3, y1gb.f3, y1gb.f4⟩ : S72)), p0.f1, p0.f2⟩ : S69)))) else (none))))) else (none)) else (none)))
set_option maxHeartbeats 20000000 in
set_option maxRecDepth 100000 in
theorem turns_Ring_Put.calls (k : Nat) {b : Nat} {w0 W : World} {R : Frag} {Fs : List Frag} {p0 : S69} {p1 : Int} {p2 : (List Int)} {p3 : Bool} {v2 : Value} {v0 : Value} {M0 : Frag} {r0q : Bool} {r1q : S69} (hp0 : Ptr k69 69 b w0 R v0 p0 M0) (hp2 : Rds (kInt .u8) b w0 R v2 p2) (H : turns_Ring_Put.f k p0 p1 p2 p3 = some (r0q, r1q)) (hS : St b w0 W R (M0 :: Fs)) :
  Calls Try.prog 10 ([v0, .int .u32 p1, v2, .bool p3] : List Value).toArray W (fun e W' => ∃ (O0q : Frag), e = .returned (.bool r0q) ∧ Ptr k69 69 b w0 R v0 r1q O0q ∧ St b w0 W' R (O0q :: Fs)) := by
 obtain ⟨A2, c2, rfl⟩ := hp2.form
 unfold turns_Ring_Put.f at H
 refine calls_enter Try.func10 rfl 48 rfl (by kernel_rfl) (fun a h => ?_)
 refine wp_seq ?_
 refine WL.start ?_
 refine WL.bl 1 1 h [(8, .bool false)] (fun a1bz h1c0 => ?_)
 refine WL.dn ?_
 refine wp_seq ?_
 refine WL.start ?_
 refine WL.bl 2 2 h1c0 [(12, .int .u32 p1), (11, v0)] (fun a1c1 h1c2 => ?_)
 obtain ⟨r1c4, A1c3, H⟩ := bind1 H
 refine WL.oq h1c2 rfl ?_
 refine owp_call [v0, .int .u32 p1] h1c2 rfl (by kernel_rfl) rfl Try.func28 (by kernel_rfl) rfl (by kernel_rfl) (turns_Ring_find.calls k hp0 A1c3 hS) (fun e1c6 W1c5 hp1c7 => ?_)
 obtain ⟨M1ca, rfl, hr1cb, hS1cc⟩ := hp1c7
 refine ⟨_, rfl, fun a1c8 h1c9 => ?_⟩
 refine WL.bl 1 4 h1c9 [(9, i6 r1c4)] (fun a1cd h1ce => ?_)
 refine WL.dn ?_
 refine wp_seq ?_
 refine wp_seq ?_
 refine WL.start ?_
 refine WL.bl 3 3 h1ce [(16, .bool (decide (r1c4 < 0))), (15, .bool (decide (r1c4 < 0))), (14, i6 r1c4)] (fun a1cf h1cg => ?_)
 clear h1c0 a1bz h1c2 a1c1 h1c9 a1c8 h1ce a1cd
 by_cases c1ch : r1c4 < 0
 ·rw [if_pos c1ch] at H
  have hb_ : (decide (r1c4 < 0)) = true := decide_eq_true c1ch
  try rw [hb_] at h1cg
  clear hb_
  refine WL.sk h1cg rfl rfl (fun a1ci h1cj => ?_)
  refine WL.sk h1cj rfl rfl (fun a1ck h1cl => ?_)
  refine WL.sk h1cl rfl rfl (fun a1cm h1cn => ?_)
  refine WL.sk h1cn rfl rfl (fun a1co h1cp => ?_)
  refine WL.sk h1cp rfl rfl (fun a1cq h1cr => ?_)
  refine WL.sk h1cr rfl rfl (fun a1cs h1ct => ?_)
  refine WL.sk h1ct rfl rfl (fun a1cu h1cv => ?_)
  refine WL.sk h1cv rfl rfl (fun a1cw h1cx => ?_)
  refine WL.sk h1cx rfl rfl (fun a1cy h1cz => ?_)
  refine WL.sk h1cz rfl rfl (fun a1d0 h1d1 => ?_)
  refine WL.bl 1 14 h1d1 [(27, .bool true)] (fun a1d2 h1d3 => ?_)
  refine WL.dn ?_
  refine wp_then h1d3 rfl ?_
  refine wp_seq ?_
  refine WL.start ?_
  refine WL.bl 1 1 h1d3 [(8, .bool false)] (fun a1d4 h1d5 => ?_)
  clear h1cg a1cf h1cj a1ci h1cl a1ck h1cn a1cm h1cp a1co h1cr a1cq h1ct a1cs h1cv a1cu h1cx a1cw h1cz a1cy h1d1 a1d0 h1d3 a1d2
  refine WL.dn ?_
  refine wp_ret ?_
  obtain ⟨rfl, rfl⟩ := ret2 H
  repeat (first | with_reducible refine t1 ?_ | with_reducible refine t2 ?_ | with_reducible refine t3 ?_)
  refine bret (.bool false) h1d5 ?_
  exact ⟨M1ca, rfl, hr1cb, hS1cc⟩
 ·rw [if_neg c1ch] at H
  have hb_ : (decide (r1c4 < 0)) = false := decide_eq_false c1ch
  try rw [hb_] at h1cg
  clear hb_
  refine WL.oq h1cg rfl (owp_rk v0 h1cg rfl (fun a1d6 h1d7 => ?_))
  obtain ⟨g1d9, A1da, c1db, g1de, M1dc, M1df, rfl, hr1dd, hr1dg, hS1d8⟩ := k69qop hr1cb hS1cc
  refine WL.oq h1d7 rfl (owp_rk (pt g1d9) h1d7 rfl (fun a1dh h1di => ?_))
  refine WL.oq h1di rfl (owp_rk (pt g1d9) h1di rfl (fun a1dj h1dk => ?_))
  refine WL.oq h1dk rfl ?_
  refine owp_rn (.slice A1da p0.f0.length c1db) h1dk rfl (run_load1 rfl rfl Try.underlying67 rfl (hS1d8.cell (i := 0) rfl)) (fun a1dl h1dm => ?_)
  refine WL.oq h1dm rfl (owp_rk (i6 r1c4) h1dm rfl (fun a1dn h1do => ?_))
  clear h1cg a1cf h1d7 a1d6 h1di a1dh h1dk a1dj h1dm a1dl
  by_cases c1dp : 0 ≤ r1c4
  ·rw [if_pos c1dp] at H
   by_cases c1dq : r1c4 < (p0.f0.length : Int)
   ·rw [if_pos c1dq] at H
    have hi1dt : 0 ≤ r1c4 := by first | assumption | omega
    have hi1du : r1c4 < (p0.f0.length : Int) := by first | assumption | omega
    obtain ⟨ad1dr, _, ha1ds, -, -⟩ := Rds.elemAny hr1dd.rds hi1dt (gt_get (z := z72) hi1dt hi1du)
    refine WL.oq h1do rfl ?_
    refine owp_rn (.pointer (some (ad1dr.add (r1c4.toNat * 1)))) h1do rfl (run_idx (ad := ad1dr) (sz := 1) rfl (by rw [← ha1ds]; rfl) rfl Try.underlying67 (by kernel_rfl) hi1dt hi1du) (fun a1dv h1dw => ?_)
    have hS1dx := hS1d8.b1
    obtain ⟨g1dy, M1dz, M1e0, hp1e1, hh1e2, hm1e3, hc1e4⟩ := Row.openp (dk := k72) z72 hr1dd ha1ds hi1dt hi1du
    obtain ⟨y1e5, hy1e6, H⟩ := lete H
    have hr1e7 : Ptr k72 72 b w0 R (pt g1dy) y1e5 M1e0 := by rw [hy1e6]; exact hp1e1
    have hS1e9 : St b w0 W1c5 R (M1e0 :: M1dz :: (bx g1d9 69 [.slice A1da p0.f0.length c1db, i6 p0.f1, pt g1de]) :: M1df :: Fs) := hm1e3 _ _ hS1dx
    clear hm1e3 hp1e1 hr1dd
    refine WL.oq h1dw rfl ?_
    refine owp_rn (pt g1dy) h1dw rfl (run_load1 rfl rfl Try.underlying70 rfl (hc1e4 _ _ hS1e9.b1)) (fun a1ea h1eb => ?_)
    obtain ⟨A1ed, c1ee, g1eh, M1ef, M1ei, hr1eg, hr1ej, hS1ec⟩ := k72qoq hr1e7 hS1e9
    refine WL.oq h1eb rfl (owp_rk (pt g1dy) h1eb rfl (fun a1ek h1el => ?_))
    refine WL.oq h1el rfl (owp_rk (.pointer (some ⟨g1dy, 2, none⟩)) h1el rfl (fun a1em h1en => ?_))
    refine WL.oq h1en rfl ?_
    refine owp_rn (.bool y1e5.f2) h1en rfl (run_load1 rfl rfl Try.underlying4 rfl (hS1ec.cell (i := 2) rfl)) (fun a1eo h1ep => ?_)
    refine WL.bl 1 14 h1ep [(27, .bool y1e5.f2)] (fun a1eq h1er => ?_)
    refine WL.dn ?_
    clear h1do a1dn h1dw a1dv h1eb a1ea h1el a1ek h1en a1em h1ep a1eo
    by_cases c1es : y1e5.f2 = true
    ·rw [if_pos c1es] at H
     have hb_ : y1e5.f2 = true := c1es
     try rw [hb_] at h1er
     clear hb_
     refine wp_then h1er rfl ?_
     refine wp_seq ?_
     refine WL.start ?_
     refine WL.bl 1 1 h1er [(8, .bool false)] (fun a1et h1eu => ?_)
     refine WL.dn ?_
     refine wp_ret ?_
     have hS1ev := hS1ec.b2
     have hS1ew := hS1ev.b2
     have hS1ex := hS1ew.b2
     obtain ⟨M1ey, hp1ez, hS1f0⟩ := k72qfo y1e5 hr1eg hr1ej hS1ex
     have hS1f1 := hS1f0.b1
     have hS1f2 := hS1f1.b1
     obtain ⟨M1f3, hr1f4, hm1f5⟩ := hh1e2.same hy1e6 hi1dt hi1du hp1ez
     have hS1f7 : St b w0 W1c5 R (M1f3 :: (bx g1d9 69 [.slice A1da p0.f0.length c1db, i6 p0.f1, pt g1de]) :: M1df :: Fs) := hm1f5 _ _ hS1f2
     have hS1f8 := hS1f7.b2
     have hS1f9 := hS1f8.b1
     have hS1fa := hS1f9.b2
     obtain ⟨M1fb, hp1fc, hS1fd⟩ := k69qfo p0 hr1f4 hr1dg hS1fa
     obtain ⟨rfl, rfl⟩ := ret2 H
     repeat (first | with_reducible refine t1 ?_ | with_reducible refine t2 ?_ | with_reducible refine t3 ?_)
     refine bret (.bool false) h1eu ?_
     exact ⟨M1fb, rfl, hp1fc, hS1fd⟩
    ·rw [if_neg c1es] at H
     have hb_ : y1e5.f2 = false := (Bool.eq_false_iff.2 c1es)
     try rw [hb_] at h1er
     clear hb_
     refine wp_else h1er rfl ?_
     refine wp_skip ?_
     refine wp_seq ?_
     refine WL.start ?_
     refine WL.bl 3 3 h1er [(30, pt g1d9), (29, pt g1d9), (28, pt g1d9)] (fun a1fe h1ff => ?_)
     have hS1fg := hS1ec.b4
     refine WL.oq h1ff rfl ?_
     refine owp_rn (.slice A1da p0.f0.length c1db) h1ff rfl (run_load1 rfl rfl Try.underlying67 rfl (hS1fg.cell (i := 0) rfl)) (fun a1fh h1fi => ?_)
     refine WL.bl 1 5 h1fi [(32, i6 r1c4)] (fun a1fj h1fk => ?_)
     have hS1fl := hS1fg.b3
     have hS1fm := hS1fl.b3
     have hS1fn := hS1fm.b3
     obtain ⟨M1fo, hp1fp, hS1fq⟩ := k72qfo y1e5 hr1eg hr1ej hS1fn
     have hS1fr := hS1fq.b2
     have hS1fs := hS1fr.b1
     obtain ⟨M1ft, hr1fu, hm1fv⟩ := hh1e2.same hy1e6 hi1dt hi1du hp1fp
     have hS1fx : St b w0 W1c5 R (M1ft :: (bx g1d9 69 [.slice A1da p0.f0.length c1db, i6 p0.f1, pt g1de]) :: M1df :: Fs) := hm1fv _ _ hS1fs
     have hi1g0 : 0 ≤ r1c4 := by first | assumption | omega
     have hi1g1 : r1c4 < (p0.f0.length : Int) := by first | assumption | omega
     obtain ⟨ad1fy, _, ha1fz, -, -⟩ := Rds.elemAny hr1fu.rds hi1g0 (gt_get (z := z72) hi1g0 hi1g1)
     refine WL.oq h1fk rfl ?_
     refine owp_rn (.pointer (some (ad1fy.add (r1c4.toNat * 1)))) h1fk rfl (run_idx (ad := ad1fy) (sz := 1) rfl (by rw [← ha1fz]; rfl) rfl Try.underlying67 (by kernel_rfl) hi1g0 hi1g1) (fun a1g2 h1g3 => ?_)
     obtain ⟨g1g4, M1g5, M1g6, hp1g7, hh1g8, hm1g9, hc1ga⟩ := Row.openp (dk := k72) z72 hr1fu ha1fz hi1g0 hi1g1
     obtain ⟨y1gb, hy1gc, H⟩ := lete H
     have hr1gd : Ptr k72 72 b w0 R (pt g1g4) y1gb M1g6 := by rw [hy1gc]; exact hp1g7
     have hS1gf : St b w0 W1c5 R (M1g6 :: M1g5 :: (bx g1d9 69 [.slice A1da p0.f0.length c1db, i6 p0.f1, pt g1de]) :: M1df :: Fs) := hm1g9 _ _ hS1fx
     clear hm1g9 hp1g7 hr1fu
     refine WL.oq h1g3 rfl ?_
     refine owp_rn (pt g1g4) h1g3 rfl (run_load1 rfl rfl Try.underlying70 rfl (hc1ga _ _ hS1gf.b1)) (fun a1gg h1gh => ?_)
     refine WL.bl 1 8 h1gh [(10, pt g1g4)] (fun a1gi h1gj => ?_)
     refine WL.dn ?_
     refine wp_seq ?_
     refine WL.start ?_
     refine WL.bl 2 2 h1gj [(36, pt g1g4), (35, pt g1g4)] (fun a1gk h1gl => ?_)
     obtain ⟨A1gn, c1go, g1gr, M1gp, M1gs, hr1gq, hr1gt, hS1gm⟩ := k72qoq hr1gd hS1gf
     refine WL.bl 2 4 h1gl [(38, .pointer (some ⟨g1g4, 1, none⟩)), (37, pt g1g4)] (fun a1gu h1gv => ?_)
     refine WL.oq h1gv rfl ?_
     refine owp_rn (.slice A1gn y1gb.f1.length c1go) h1gv rfl (run_load1 rfl rfl Try.underlying27 rfl (hS1gm.cell (i := 1) rfl)) (fun a1gw h1gx => ?_)
     refine WL.bl 1 6 h1gx [(40, .slice A2 p2.length c2)] (fun a1gy h1gz => ?_)
     clear h1er a1eq h1ff a1fe h1fi a1fh hm1fv hS1fs h1fk a1fj h1g3 a1g2 h1gh a1gg h1gj a1gi h1gl a1gk h1gv a1gu h1gx a1gw
     by_cases c1h0 : y1gb.f1.length + p2.length ≤ 140737488355328
     ·rw [if_pos c1h0] at H
      have hS1h1 := hS1gm.b1
      refine WL.oq h1gz rfl ?_
      refine owp_app_rds (z := .int .u8 0) (bytes := 1) (dk := (kInt .u8)) h1gz rfl (by kernel_rfl) rfl rfl rfl (kInt_flat _) hr1gq hp2 hS1h1 Try.underlying27 (by kernel_rfl) rfl (by decide) (by decide) (by first | omega | (simp only [List.length_cons, List.length_nil] at *; omega)) (fun a1h2 W1h4 v1h5 M1h6 h1h3 hr1h7 hS1h8 => ?_)
      obtain ⟨y1h9, hy1ha, H⟩ := lete H
      have hr1hb : Row (kInt .u8) 5 b w0 R v1h5 y1h9 M1h6 := by rw [hy1ha]; exact hr1h7
      clear hr1h7
      obtain ⟨A1hc, c1hd, rfl⟩ := hr1hb.form
      refine WL.bl 2 9 h1h3 [(43, .pointer (some ⟨g1g4, 1, none⟩)), (42, pt g1g4)] (fun a1he h1hf => ?_)
      have hS1hg := hS1h8.b1
      refine WL.oq h1hf rfl ?_
      refine owp_st 1 [.slice A1hc y1h9.length c1hd] h1hf rfl rfl rfl hS1hg [.int .u32 y1gb.f0, .slice A1hc y1h9.length c1hd, .bool y1gb.f2, .bool y1gb.f3, pt g1gr] (fun a1hh W1hj h1hi hS1hk => ?_)
      refine WL.dn ?_
      refine wp_seq ?_
      refine WL.start ?_
      refine WL.bl 4 4 h1hi [(47, .pointer (some ⟨g1g4, 2, none⟩)), (46, pt g1g4), (45, .bool p3), (44, pt g1g4)] (fun a1hl h1hm => ?_)
      refine WL.oq h1hm rfl ?_
      refine owp_st 2 [.bool p3] h1hm rfl rfl rfl hS1hk [.int .u32 y1gb.f0, .slice A1hc y1h9.length c1hd, .bool p3, .bool y1gb.f3, pt g1gr] (fun a1hn W1hp h1ho hS1hq => ?_)
      refine WL.dn ?_
      refine wp_seq ?_
      refine WL.start ?_
      refine WL.bl 1 1 h1ho [(8, .bool true)] (fun a1hr h1hs => ?_)
      refine WL.dn ?_
      refine wp_ret ?_
      have hS1ht := hS1hq.b2
      have hS1hu := hS1ht.b2
      have hS1hv := hS1hu.b2
      obtain ⟨M1hw, hp1hx, hS1hy⟩ := k72qfo (⟨y1gb.f0, y1h9, p3, y1gb.f3, y1gb.f4⟩ : S72) hr1hb hr1gt hS1hv
      have hS1hz := hS1hy.b1
      have hS1i0 := hS1hz.b1
      obtain ⟨M1i1, hr1i2, hm1i3⟩ := hh1g8 _ _ hp1hx
      have hS1i5 : St b w0 W1hp R (M1i1 :: (bx g1d9 69 [.slice A1da p0.f0.length c1db, i6 p0.f1, pt g1de]) :: M1df :: Fs) := hm1i3 _ _ hS1i0
      have hl1i6 : (p0.f0.set r1c4.toNat (⟨y1gb.f0, y1h9, p3, y1gb.f3, y1gb.f4⟩ : S72)).length = p0.f0.length := by simp
      have hr1i7 : Row (kPtr k72 72) 70 b w0 R (.slice A1da (p0.f0.set r1c4.toNat (⟨y1gb.f0, y1h9, p3, y1gb.f3, y1gb.f4⟩ : S72)).length c1db) (p0.f0.set r1c4.toNat (⟨y1gb.f0, y1h9, p3, y1gb.f3, y1gb.f4⟩ : S72)) M1i1 := by rw [hl1i6]; exact hr1i2
      have h1i8 : Hd a1hr 48 [(0, pt g1d9), (1, .int .u32 p1), (2, .slice A2 p2.length c2), (3, .bool p3), (8, .bool true), (9, i6 r1c4), (10, pt g1g4), (11, pt g1d9), (12, .int .u32 p1), (13, i6 r1c4), (14, i6 r1c4), (15, .bool false), (16, .bool false), (17, pt g1d9), (18, pt g1d9), (19, pt g1d9), (20, .slice A1da (p0.f0.set r1c4.toNat (⟨y1gb.f0, y1h9, p3, y1gb.f3, y1gb.f4⟩ : S72)).length c1db), (21, i6 r1c4), (22, .pointer (some (ad1dr.add (r1c4.toNat * 1)))), (23, pt g1dy), (24, pt g1dy), (25, .pointer (some ⟨g1dy, 2, none⟩)), (26, .bool false), (27, .bool false), (28, pt g1d9), (29, pt g1d9), (30, pt g1d9), (31, .slice A1da (p0.f0.set r1c4.toNat (⟨y1gb.f0, y1h9, p3, y1gb.f3, y1gb.f4⟩ : S72)).length c1db), (32, i6 r1c4), (33, .pointer (some (ad1fy.add (r1c4.toNat * 1)))), (34, pt g1g4), (35, pt g1g4), (36, pt g1g4), (37, pt g1g4), (38, .pointer (some ⟨g1g4, 1, none⟩)), (39, .slice A1gn y1gb.f1.length c1go), (40, .slice A2 p2.length c2), (41, .slice A1hc y1h9.length c1hd), (42, pt g1g4), (43, .pointer (some ⟨g1g4, 1, none⟩)), (44, pt g1g4), (45, .bool p3), (46, pt g1g4), (47, .pointer (some ⟨g1g4, 2, none⟩))] := h1hs.keep ⟨rfl, rfl, rfl, rfl, rfl, rfl, rfl, rfl, rfl, rfl, rfl, rfl, rfl, rfl, rfl, rfl, (by rw [hl1i6] <;> rfl), rfl, rfl, rfl, rfl, rfl, rfl, rfl, rfl, rfl, rfl, (by rw [hl1i6] <;> rfl), rfl, rfl, rfl, rfl, rfl, rfl, rfl, rfl, rfl, rfl, rfl, rfl, rfl, rfl, rfl, rfl, trivial⟩
      clear h1hs
      have hS1i9 : St b w0 W1hp R (M1i1 :: (bx g1d9 69 [.slice A1da (p0.f0.set r1c4.toNat (⟨y1gb.f0, y1h9, p3, y1gb.f3, y1gb.f4⟩ : S72)).length c1db, i6 p0.f1, pt g1de]) :: M1df :: Fs) := by simpa only [hl1i6] using hS1i5
      have hS1ia := hS1i9.b2
      have hS1ib := hS1ia.b1
      have hS1ic := hS1ib.b2
      obtain ⟨M1id, hp1ie, hS1if⟩ := k69qfo (⟨(p0.f0.set r1c4.toNat (⟨y1gb.f0, y1h9, p3, y1gb.f3, y1gb.f4⟩ : S72)), p0.f1, p0.f2⟩ : S69) hr1i7 hr1dg hS1ic
      obtain ⟨rfl, rfl⟩ := ret2 H
      repeat (first | with_reducible refine t1 ?_ | with_reducible refine t2 ?_ | with_reducible refine t3 ?_)
      refine bret (.bool true) h1i8 ?_
      exact ⟨M1id, rfl, hp1ie, hS1if⟩
     ·rw [if_neg c1h0] at H
      cases H
   ·rw [if_neg c1dq] at H
    cases H
  ·rw [if_neg c1dp] at H
   cases H

/-! ### (*louver/turns.Ring).Put -/
def turns_Ring_Put_nil.f (k : Nat) (p1 : Int) (p2 : (List Int)) (p3 : Bool) : Option (Bool) := bnd1 (turns_Ring_find_nil.f p1) fun r11c => (if r11c < 0 then (some false) else (none))
set_option maxHeartbeats 20000000 in
set_option maxRecDepth 100000 in
theorem turns_Ring_Put_nil.calls (k : Nat) {b : Nat} {w0 W : World} {R : Frag} {Fs : List Frag} {p1 : Int} {p2 : (List Int)} {p3 : Bool} {v2 : Value} {r0q : Bool} (hp2 : Rds (kInt .u8) b w0 R v2 p2) (H : turns_Ring_Put_nil.f k p1 p2 p3 = some r0q) (hS : St b w0 W R (Fs)) :
  Calls Try.prog 10 ([.pointer none, .int .u32 p1, v2, .bool p3] : List Value).toArray W (fun e W' => e = .returned (.bool r0q) ∧ St b w0 W' R (Fs)) := by
 obtain ⟨A2, c2, rfl⟩ := hp2.form
 unfold turns_Ring_Put_nil.f at H
 refine calls_enter Try.func10 rfl 48 rfl (by kernel_rfl) (fun a h => ?_)
 refine wp_seq ?_
 refine WL.start ?_
 refine WL.bl 1 1 h [(8, .bool false)] (fun a117 h118 => ?_)
 refine WL.dn ?_
 refine wp_seq ?_
 refine WL.start ?_
 refine WL.bl 2 2 h118 [(12, .int .u32 p1), (11, .pointer none)] (fun a119 h11a => ?_)
 obtain ⟨r11c, A11b, H⟩ := bind1 H
 refine WL.oq h11a rfl ?_
 refine owp_call [.pointer none, .int .u32 p1] h11a rfl (by kernel_rfl) rfl Try.func28 (by kernel_rfl) rfl (by kernel_rfl) (turns_Ring_find_nil.calls  A11b hS) (fun e11e W11d hp11f => ?_)
 obtain ⟨rfl, hS11i⟩ := hp11f
 refine ⟨_, rfl, fun a11g h11h => ?_⟩
 refine WL.bl 1 4 h11h [(9, i6 r11c)] (fun a11j h11k => ?_)
 refine WL.dn ?_
 refine wp_seq ?_
 refine wp_seq ?_
 refine WL.start ?_
 refine WL.bl 3 3 h11k [(16, .bool (decide (r11c < 0))), (15, .bool (decide (r11c < 0))), (14, i6 r11c)] (fun a11l h11m => ?_)
 clear h118 a117 h11a a119 h11h a11g h11k a11j
 by_cases c11n : r11c < 0
 ·rw [if_pos c11n] at H
  have hb_ : (decide (r11c < 0)) = true := decide_eq_true c11n
  try rw [hb_] at h11m
  clear hb_
  refine WL.sk h11m rfl rfl (fun a11o h11p => ?_)
  refine WL.sk h11p rfl rfl (fun a11q h11r => ?_)
  refine WL.sk h11r rfl rfl (fun a11s h11t => ?_)
  refine WL.sk h11t rfl rfl (fun a11u h11v => ?_)
  refine WL.sk h11v rfl rfl (fun a11w h11x => ?_)
  refine WL.sk h11x rfl rfl (fun a11y h11z => ?_)
  refine WL.sk h11z rfl rfl (fun a120 h121 => ?_)
  refine WL.sk h121 rfl rfl (fun a122 h123 => ?_)
  refine WL.sk h123 rfl rfl (fun a124 h125 => ?_)
  refine WL.sk h125 rfl rfl (fun a126 h127 => ?_)
  refine WL.bl 1 14 h127 [(27, .bool true)] (fun a128 h129 => ?_)
  refine WL.dn ?_
  refine wp_then h129 rfl ?_
  refine wp_seq ?_
  refine WL.start ?_
  refine WL.bl 1 1 h129 [(8, .bool false)] (fun a12a h12b => ?_)
  clear h11m a11l h11p a11o h11r a11q h11t a11s h11v a11u h11x a11w h11z a11y h121 a120 h123 a122 h125 a124 h127 a126 h129 a128
  refine WL.dn ?_
  refine wp_ret ?_
  obtain rfl := Option.some.inj H
  repeat (first | with_reducible refine t1 ?_ | with_reducible refine t2 ?_ | with_reducible refine t3 ?_)
  refine bret (.bool false) h12b ?_
  exact ⟨rfl, hS11i⟩
 ·rw [if_neg c11n] at H
  have hb_ : (decide (r11c < 0)) = false := decide_eq_false c11n
  try rw [hb_] at h11m
  clear hb_
  refine WL.oq h11m rfl (owp_rk (.pointer none) h11m rfl (fun a12c h12d => ?_))
  cases H

/-! ### (*louver/window.Window).Left -/
def window_Window_Left.f (p0 : S94) : Option (Int) := some p0.f0
set_option maxHeartbeats 20000000 in
set_option maxRecDepth 100000 in
theorem window_Window_Left.calls {b : Nat} {w0 W : World} {R : Frag} {Fs : List Frag} {p0 : S94}  {v0 : Value} {M0 : Frag} {r0q : Int} (hp0 : Ptr k94 94 b w0 R v0 p0 M0) (H : window_Window_Left.f p0 = some r0q) (hS : St b w0 W R (M0 :: Fs)) :
  Calls Try.prog 30 ([v0] : List Value).toArray W (fun e W' => ∃ (O0q : Frag), e = .returned (i6 r0q) ∧ Ptr k94 94 b w0 R v0 p0 O0q ∧ St b w0 W' R (O0q :: Fs)) := by
 unfold window_Window_Left.f at H
 refine calls_enter Try.func30 rfl 9 rfl (by kernel_rfl) (fun a h => ?_)
 refine wp_seq ?_
 refine WL.start ?_
 refine WL.bl 1 1 h [(2, i6 0)] (fun a10h h10i => ?_)
 refine WL.dn ?_
 refine wp_seq ?_
 refine wp_seq ?_
 refine WL.start ?_
 refine WL.bl 1 1 h10i [(3, v0)] (fun a10j h10k => ?_)
 obtain ⟨g10m, rfl, hS10l⟩ := k94qop hp0 hS
 refine WL.bl 1 2 h10k [(4, .bool false)] (fun a10n h10o => ?_)
 refine WL.dn ?_
 refine wp_else h10o rfl ?_
 refine wp_skip ?_
 refine wp_seq ?_
 refine WL.start ?_
 refine WL.bl 3 3 h10o [(7, pt g10m), (6, pt g10m), (5, pt g10m)] (fun a10p h10q => ?_)
 refine WL.oq h10q rfl ?_
 refine owp_rn (i6 p0.f0) h10q rfl (run_load1 rfl rfl Try.underlying2 rfl (hS10l.cell (i := 0) rfl)) (fun a10r h10s => ?_)
 refine WL.bl 1 5 h10s [(2, i6 p0.f0)] (fun a10t h10u => ?_)
 refine WL.dn ?_
 refine wp_ret ?_
 obtain ⟨M10v, hp10w, hS10x⟩ := k94qfo p0 hS10l
 obtain rfl := Option.some.inj H
 repeat (first | with_reducible refine t1 ?_ | with_reducible refine t2 ?_ | with_reducible refine t3 ?_)
 refine bret (i6 p0.f0) h10u ?_
 exact ⟨M10v, rfl, hp10w, hS10x⟩

/-! ### (*louver/turns.sender).can -/
def turns_sender_can.f (p0 : S72) (p1 : Int) : Option (Bool) := if (p0.f1.length : Int) = 0 then (if p0.f2 = true then (some (!p0.f3)) else (some false)) else (bnd1 (window_Window_Left.f p0.f4) fun r14s => (if r14s > 0 then (some (decide (p1 > 0))) else (some false)))
set_option maxHeartbeats 20000000 in
set_option maxRecDepth 100000 in
theorem turns_sender_can.calls {b : Nat} {w0 W : World} {R : Frag} {Fs : List Frag} {p0 : S72} {p1 : Int}  {v0 : Value} {M0 : Frag} {r0q : Bool} (hp0 : Ptr k72 72 b w0 R v0 p0 M0) (H : turns_sender_can.f p0 p1 = some r0q) (hS : St b w0 W R (M0 :: Fs)) :
  Calls Try.prog 29 ([v0, i6 p1] : List Value).toArray W (fun e W' => ∃ (O0q : Frag), e = .returned (.bool r0q) ∧ Ptr k72 72 b w0 R v0 p0 O0q ∧ St b w0 W' R (O0q :: Fs)) := by
 unfold turns_sender_can.f at H
 refine calls_enter Try.func29 rfl 32 rfl (by kernel_rfl) (fun a h => ?_)
 refine wp_seq ?_
 refine WL.start ?_
 refine WL.bl 1 1 h [(4, .bool false)] (fun a12v h12w => ?_)
 refine WL.dn ?_
 refine wp_seq ?_
 refine wp_seq ?_
 refine WL.start ?_
 refine WL.bl 1 1 h12w [(5, v0)] (fun a12x h12y => ?_)
 obtain ⟨g130, A131, c132, g135, M133, M136, rfl, hr134, hr137, hS12z⟩ := k72qop hp0 hS
 refine WL.bl 2 3 h12y [(7, .pointer (some ⟨g130, 1, none⟩)), (6, pt g130)] (fun a138 h139 => ?_)
 refine WL.oq h139 rfl ?_
 refine owp_rn (.slice A131 p0.f1.length c132) h139 rfl (run_load1 rfl rfl Try.underlying27 rfl (hS12z.cell (i := 1) rfl)) (fun a13a h13b => ?_)
 refine WL.bl 2 6 h13b [(10, .bool (decide ((p0.f1.length : Int) = 0))), (9, i6 (p0.f1.length : Int))] (fun a13c h13d => ?_)
 refine WL.dn ?_
 clear h12w a12v h12y a12x h139 a138 h13b a13a
 by_cases c13e : (p0.f1.length : Int) = 0
 ·rw [if_pos c13e] at H
  have hb_ : (decide ((p0.f1.length : Int) = 0)) = true := decide_eq_true c13e
  try rw [hb_] at h13d
  clear hb_
  refine wp_then h13d rfl ?_
  refine wp_seq ?_
  refine WL.start ?_
  refine WL.bl 3 3 h13d [(13, .pointer (some ⟨g130, 2, none⟩)), (12, pt g130), (11, pt g130)] (fun a13f h13g => ?_)
  refine WL.oq h13g rfl ?_
  refine owp_rn (.bool p0.f2) h13g rfl (run_load1 rfl rfl Try.underlying4 rfl (hS12z.cell (i := 2) rfl)) (fun a13h h13i => ?_)
  refine WL.bl 1 5 h13i [(15, .bool p0.f2)] (fun a13j h13k => ?_)
  clear h13d a13c h13g a13f h13i a13h
  by_cases c13l : p0.f2 = true
  ·rw [if_pos c13l] at H
   have hb_ : p0.f2 = true := c13l
   try rw [hb_] at h13k
   clear hb_
   refine WL.oq h13k rfl (owp_rk (pt g130) h13k rfl (fun a13m h13n => ?_))
   refine WL.oq h13n rfl (owp_rk (pt g130) h13n rfl (fun a13o h13p => ?_))
   refine WL.oq h13p rfl (owp_rk (.pointer (some ⟨g130, 3, none⟩)) h13p rfl (fun a13q h13r => ?_))
   refine WL.oq h13r rfl ?_
   refine owp_rn (.bool p0.f3) h13r rfl (run_load1 rfl rfl Try.underlying4 rfl (hS12z.cell (i := 3) rfl)) (fun a13s h13t => ?_)
   refine WL.oq h13t rfl (owp_rk (.bool (!p0.f3)) h13t rfl (fun a13u h13v => ?_))
   refine WL.bl 2 12 h13v [(4, .bool (!p0.f3)), (21, .bool (!p0.f3))] (fun a13w h13x => ?_)
   refine WL.dn ?_
   refine wp_ret ?_
   have hS13y := hS12z.b2
   have hS13z := hS13y.b2
   have hS140 := hS13z.b2
   obtain ⟨M141, hp142, hS143⟩ := k72qfo p0 hr134 hr137 hS140
   obtain rfl := Option.some.inj H
   repeat (first | with_reducible refine t1 ?_ | with_reducible refine t2 ?_ | with_reducible refine t3 ?_)
   refine bret (.bool (!p0.f3)) h13x ?_
   exact ⟨M141, rfl, hp142, hS143⟩
  ·rw [if_neg c13l] at H
   have hb_ : p0.f2 = false := (Bool.eq_false_iff.2 c13l)
   try rw [hb_] at h13k
   clear hb_
   refine WL.sk h13k rfl rfl (fun a144 h145 => ?_)
   refine WL.sk h145 rfl rfl (fun a146 h147 => ?_)
   refine WL.sk h147 rfl rfl (fun a148 h149 => ?_)
   refine WL.sk h149 rfl rfl (fun a14a h14b => ?_)
   refine WL.sk h14b rfl rfl (fun a14c h14d => ?_)
   refine WL.bl 2 12 h14d [(4, .bool false), (21, .bool false)] (fun a14e h14f => ?_)
   refine WL.dn ?_
   refine wp_ret ?_
   have hS14g := hS12z.b2
   have hS14h := hS14g.b2
   have hS14i := hS14h.b2
   obtain ⟨M14j, hp14k, hS14l⟩ := k72qfo p0 hr134 hr137 hS14i
   obtain rfl := Option.some.inj H
   repeat (first | with_reducible refine t1 ?_ | with_reducible refine t2 ?_ | with_reducible refine t3 ?_)
   refine bret (.bool false) h14f ?_
   exact ⟨M14j, rfl, hp14k, hS14l⟩
 ·rw [if_neg c13e] at H
  have hb_ : (decide ((p0.f1.length : Int) = 0)) = false := decide_eq_false c13e
  try rw [hb_] at h13d
  clear hb_
  refine wp_else h13d rfl ?_
  refine wp_skip ?_
  refine wp_seq ?_
  refine WL.start ?_
  refine WL.bl 3 3 h13d [(24, .pointer (some ⟨g130, 4, none⟩)), (23, pt g130), (22, pt g130)] (fun a14m h14n => ?_)
  refine WL.oq h14n rfl ?_
  refine owp_rn (pt g135) h14n rfl (run_load1 rfl rfl Try.underlying65 rfl (hS12z.cell (i := 4) rfl)) (fun a14o h14p => ?_)
  have hS14q := hS12z.b2
  obtain ⟨r14s, A14r, H⟩ := bind1 H
  refine WL.oq h14p rfl ?_
  refine owp_call [(pt g135)] h14p rfl (by kernel_rfl) rfl Try.func30 (by kernel_rfl) rfl (by kernel_rfl) (window_Window_Left.calls hr137 A14r hS14q) (fun e14u W14t hp14v => ?_)
  obtain ⟨M14y, rfl, hr14z, hS150⟩ := hp14v
  refine ⟨_, rfl, fun a14w h14x => ?_⟩
  refine WL.bl 2 7 h14x [(28, .bool (decide (r14s > 0))), (27, .bool (decide (r14s > 0)))] (fun a151 h152 => ?_)
  clear h13d a13c h14n a14m h14p a14o h14x a14w
  by_cases c153 : r14s > 0
  ·rw [if_pos c153] at H
   have hb_ : (decide (r14s > 0)) = true := decide_eq_true c153
   try rw [hb_] at h152
   clear hb_
   refine WL.oq h152 rfl (owp_rk (i6 p1) h152 rfl (fun a154 h155 => ?_))
   refine WL.oq h155 rfl (owp_rk (.bool (decide (p1 > 0))) h155 rfl (fun a156 h157 => ?_))
   refine WL.bl 2 11 h157 [(4, .bool (decide (p1 > 0))), (31, .bool (decide (p1 > 0)))] (fun a158 h159 => ?_)
   refine WL.dn ?_
   refine wp_ret ?_
   have hS15a := hS150.b2
   have hS15b := hS15a.b2
   obtain ⟨M15c, hp15d, hS15e⟩ := k72qfo p0 hr134 hr14z hS15b
   obtain rfl := Option.some.inj H
   repeat (first | with_reducible refine t1 ?_ | with_reducible refine t2 ?_ | with_reducible refine t3 ?_)
   refine bret (.bool (decide (p1 > 0))) h159 ?_
   exact ⟨M15c, rfl, hp15d, hS15e⟩
  ·rw [if_neg c153] at H
   have hb_ : (decide (r14s > 0)) = false := decide_eq_false c153
   try rw [hb_] at h152
   clear hb_
   refine WL.sk h152 rfl rfl (fun a15f h15g => ?_)
   refine WL.sk h15g rfl rfl (fun a15h h15i => ?_)
   refine WL.bl 2 11 h15i [(4, .bool false), (31, .bool false)] (fun a15j h15k => ?_)
   refine WL.dn ?_
   refine wp_ret ?_
   have hS15l := hS150.b2
   have hS15m := hS15l.b2
   obtain ⟨M15n, hp15o, hS15p⟩ := k72qfo p0 hr134 hr14z hS15m
   obtain rfl := Option.some.inj H
   repeat (first | with_reducible refine t1 ?_ | with_reducible refine t2 ?_ | with_reducible refine t3 ?_)
   refine bret (.bool false) h15k ?_
   exact ⟨M15n, rfl, hp15o, hS15p⟩

/-! ### (*louver/window.Window).Take -/
def window_Window_Take.f (p0 : S94) (p1 : Int) : Option (Bool × S94) := if p1 < 0 then (some (false, p0)) else (if p1 > (mxI p0.f0 0) then (some (false, p0)) else (some (true, (⟨IntKind.i64.wrap (p0.f0 - p1), p0.f1⟩ : S94))))
set_option maxHeartbeats 20000000 in
set_option maxRecDepth 100000 in
theorem window_Window_Take.calls {b : Nat} {w0 W : World} {R : Frag} {Fs : List Frag} {p0 : S94} {p1 : Int}  {v0 : Value} {M0 : Frag} {r0q : Bool} {r1q : S94} (hp0 : Ptr k94 94 b w0 R v0 p0 M0) (H : window_Window_Take.f p0 p1 = some (r0q, r1q)) (hS : St b w0 W R (M0 :: Fs)) :
  Calls Try.prog 31 ([v0, i6 p1] : List Value).toArray W (fun e W' => ∃ (O0q : Frag), e = .returned (.bool r0q) ∧ Ptr k94 94 b w0 R v0 r1q O0q ∧ St b w0 W' R (O0q :: Fs)) := by
 unfold window_Window_Take.f at H
 refine calls_enter Try.func31 rfl 28 rfl (by kernel_rfl) (fun a h => ?_)
 refine wp_seq ?_
 refine WL.start ?_
 refine WL.bl 1 1 h [(4, .bool false)] (fun a13t h13u => ?_)
 refine WL.dn ?_
 refine wp_seq ?_
 refine wp_seq ?_
 refine WL.start ?_
 refine WL.bl 1 1 h13u [(5, v0)] (fun a13v h13w => ?_)
 obtain ⟨g13y, rfl, hS13x⟩ := k94qop hp0 hS
 refine WL.bl 2 3 h13w [(7, .bool false), (6, .bool false)] (fun a13z h140 => ?_)
 refine WL.oq h140 rfl (owp_rk (i6 p1) h140 rfl (fun a141 h142 => ?_))
 refine WL.oq h142 rfl (owp_rk (.bool (decide (p1 < 0))) h142 rfl (fun a143 h144 => ?_))
 refine WL.bl 2 7 h144 [(11, .bool (decide (p1 < 0))), (10, .bool (decide (p1 < 0)))] (fun a145 h146 => ?_)
 clear h13u a13t h13w a13v h140 a13z h142 a141 h144 a143
 by_cases c147 : p1 < 0
 ·rw [if_pos c147] at H
  have hb_ : (decide (p1 < 0)) = true := decide_eq_true c147
  try rw [hb_] at h146
  clear hb_
  refine WL.sk h146 rfl rfl (fun a148 h149 => ?_)
  refine WL.sk h149 rfl rfl (fun a14a h14b => ?_)
  refine WL.sk h14b rfl rfl (fun a14c h14d => ?_)
  refine WL.sk h14d rfl rfl (fun a14e h14f => ?_)
  refine WL.sk h14f rfl rfl (fun a14g h14h => ?_)
  refine WL.sk h14h rfl rfl (fun a14i h14j => ?_)
  refine WL.sk h14j rfl rfl (fun a14k h14l => ?_)
  refine WL.bl 1 15 h14l [(19, .bool true)] (fun a14m h14n => ?_)
  refine WL.dn ?_
  refine wp_then h14n rfl ?_
  refine wp_seq ?_
  refine WL.start ?_
  refine WL.bl 1 1 h14n [(4, .bool false)] (fun a14o h14p => ?_)
  refine WL.dn ?_
  refine wp_ret ?_
  obtain ⟨M14q, hp14r, hS14s⟩ := k94qfo p0 hS13x
  obtain ⟨rfl, rfl⟩ := ret2 H
  repeat (first | with_reducible refine t1 ?_ | with_reducible refine t2 ?_ | with_reducible refine t3 ?_)
  refine bret (.bool false) h14p ?_
  exact ⟨M14q, rfl, hp14r, hS14s⟩
 ·rw [if_neg c147] at H
  have hb_ : (decide (p1 < 0)) = false := decide_eq_false c147
  try rw [hb_] at h146
  clear hb_
  refine WL.oq h146 rfl (owp_rk (i6 p1) h146 rfl (fun a14t h14u => ?_))
  refine WL.oq h14u rfl (owp_rk (pt g13y) h14u rfl (fun a14v h14w => ?_))
  refine WL.oq h14w rfl (owp_rk (pt g13y) h14w rfl (fun a14x h14y => ?_))
  refine WL.oq h14y rfl (owp_rk (pt g13y) h14y rfl (fun a14z h150 => ?_))
  refine WL.oq h150 rfl ?_
  refine owp_rn (i6 p0.f0) h150 rfl (run_load1 rfl rfl Try.underlying2 rfl (hS13x.cell (i := 0) rfl)) (fun a151 h152 => ?_)
  refine WL.oq h152 rfl (owp_rk (i6 (mxI p0.f0 0)) h152 rfl (fun a153 h154 => ?_))
  refine WL.oq h154 rfl (owp_rk (.bool (decide (p1 > (mxI p0.f0 0)))) h154 rfl (fun a155 h156 => ?_))
  refine WL.bl 1 15 h156 [(19, .bool (decide (p1 > (mxI p0.f0 0))))] (fun a157 h158 => ?_)
  refine WL.dn ?_
  clear h146 a145 h14u a14t h14w a14v h14y a14x h150 a14z h152 a151 h154 a153 h156 a155
  by_cases c159 : p1 > (mxI p0.f0 0)
  ·rw [if_pos c159] at H
   have hb_ : (decide (p1 > (mxI p0.f0 0))) = true := decide_eq_true c159
   try rw [hb_] at h158
   clear hb_
   refine wp_then h158 rfl ?_
   refine wp_seq ?_
   refine WL.start ?_
   refine WL.bl 1 1 h158 [(4, .bool false)] (fun a15a h15b => ?_)
   refine WL.dn ?_
   refine wp_ret ?_
   obtain ⟨M15c, hp15d, hS15e⟩ := k94qfo p0 hS13x
   obtain ⟨rfl, rfl⟩ := ret2 H
   repeat (first | with_reducible refine t1 ?_ | with_reducible refine t2 ?_ | with_reducible refine t3 ?_)
   refine bret (.bool false) h15b ?_
   exact ⟨M15c, rfl, hp15d, hS15e⟩
  ·rw [if_neg c159] at H
   have hb_ : (decide (p1 > (mxI p0.f0 0))) = false := decide_eq_false c159
   try rw [hb_] at h158
   clear hb_
   refine wp_else h158 rfl ?_
   refine wp_skip ?_
   refine wp_seq ?_
   refine WL.start ?_
   refine WL.bl 3 3 h158 [(22, pt g13y), (21, pt g13y), (20, pt g13y)] (fun a15f h15g => ?_)
   refine WL.oq h15g rfl ?_
   refine owp_rn (i6 p0.f0) h15g rfl (run_load1 rfl rfl Try.underlying2 rfl (hS13x.cell (i := 0) rfl)) (fun a15h h15i => ?_)
   refine WL.bl 4 8 h15i [(27, pt g13y), (26, pt g13y), (25, i6 (IntKind.i64.wrap (p0.f0 - p1))), (24, i6 p1)] (fun a15j h15k => ?_)
   refine WL.oq h15k rfl ?_
   refine owp_st 0 [i6 (IntKind.i64.wrap (p0.f0 - p1))] h15k rfl rfl rfl hS13x [i6 (IntKind.i64.wrap (p0.f0 - p1)), .bool p0.f1] (fun a15l W15n h15m hS15o => ?_)
   refine WL.dn ?_
   refine wp_seq ?_
   refine WL.start ?_
   refine WL.bl 1 1 h15m [(4, .bool true)] (fun a15p h15q => ?_)
   refine WL.dn ?_
   refine wp_ret ?_
   obtain ⟨M15r, hp15s, hS15t⟩ := k94qfo (⟨IntKind.i64.wrap (p0.f0 - p1), p0.f1⟩ : S94) hS15o
   obtain ⟨rfl, rfl⟩ := ret2 H
   repeat (first | with_reducible refine t1 ?_ | with_reducible refine t2 ?_ | with_reducible refine t3 ?_)
   refine bret (.bool true) h15q ?_
   exact ⟨M15r, rfl, hp15s, hS15t⟩

/-! ### bytes.Clone -/
def bytes_Clone.f (p0 : (List Int)) : Option ((List Int)) := if ([] : List Int).length + p0.length ≤ 140737488355328 then (lt1 (([] : List Int) ++ p0 : List Int) fun y11b => (some y11b)) else (none)
set_option maxHeartbeats 20000000 in
set_option maxRecDepth 100000 in
theorem bytes_Clone.calls {b : Nat} {w0 W : World} {R : Frag} {Fs : List Frag} {p0 : (List Int)} {v0 : Value} {r0q : (List Int)} (hp0 : Rds (kInt .u8) b w0 R v0 p0) (H : bytes_Clone.f p0 = some r0q) (hS : St b w0 W R (Fs)) :
  Calls Try.prog 32 ([v0] : List Value).toArray W (fun e W' => ∃ (u0q : Value) (N0q : Frag), e = .returned (u0q) ∧ Row (kInt .u8) 5 b w0 R u0q r0q N0q ∧ St b w0 W' R (N0q :: Fs)) := by
 obtain ⟨A0, c0, rfl⟩ := hp0.form
 obtain _ | A0 := A0
 ·have hn_ : p0 = [] := hp0.nil_of
  subst hn_
  obtain rfl : ([] : (List Int)) = r0q := by simpa [bytes_Clone.f, lt1] using H
  clear H
  have H : some ([] : (List Int)) = some [] := rfl
  refine calls_enter Try.func32 rfl 8 rfl (by kernel_rfl) (fun a h => ?_)
  refine wp_seq ?_
  refine WL.start ?_
  refine WL.bl 1 1 h [(2, .slice none 0 0)] (fun a11i h11j => ?_)
  refine WL.dn ?_
  refine wp_seq ?_
  refine wp_seq ?_
  refine WL.start ?_
  refine WL.bl 2 2 h11j [(4, .bool true), (3, .slice none 0 c0)] (fun a11k h11l => ?_)
  refine WL.dn ?_
  refine wp_then h11l rfl ?_
  refine wp_seq ?_
  refine WL.start ?_
  refine WL.bl 1 1 h11l [(2, .slice none 0 0)] (fun a11m h11n => ?_)
  refine WL.dn ?_
  refine wp_ret ?_
  skip
  repeat (first | with_reducible refine t1 ?_ | with_reducible refine t2 ?_ | with_reducible refine t3 ?_)
  refine bret (.slice none 0 0) h11n ?_
  exact ⟨.slice none 0 0, [], rfl, Row.nil, hS.nil_⟩
 ·unfold bytes_Clone.f at H
  refine calls_enter Try.func32 rfl 8 rfl (by kernel_rfl) (fun a h => ?_)
  refine wp_seq ?_
  refine WL.start ?_
  refine WL.bl 1 1 h [(2, .slice none 0 0)] (fun a10r h10s => ?_)
  refine WL.dn ?_
  refine wp_seq ?_
  refine wp_seq ?_
  refine WL.start ?_
  refine WL.bl 2 2 h10s [(4, .bool false), (3, .slice (some A0) p0.length c0)] (fun a10t h10u => ?_)
  refine WL.dn ?_
  refine wp_else h10u rfl ?_
  refine wp_skip ?_
  refine wp_seq ?_
  refine WL.start ?_
  refine WL.oq h10u rfl ?_
  refine owp_nw (fun g_ => .slice (some ⟨g_, 0, none⟩) 0 0) (.cells ([] : List Value).toArray 5 (0, 0)) h10u rfl hS (fun a10v W10x g10y h10w hS10z => ?_)
  have hr110 : Row (kInt .u8) 5 b w0 R (.slice (some ⟨g10y, 0, none⟩) 0 0) ([] : List Int) (bx g10y 5 []) := Row.lit (xs := ([] : List Int)) (Mi := []) ⟨rfl, rfl⟩ (by simp [maxLen])
  refine WL.bl 1 2 h10w [(6, .slice (some A0) p0.length c0)] (fun a111 h112 => ?_)
  clear h10s a10r h10u a10t h10w a10v
  by_cases c113 : ([] : List Int).length + p0.length ≤ 140737488355328
  ·rw [if_pos c113] at H
   refine WL.oq h112 rfl ?_
   refine owp_app_rds (z := .int .u8 0) (bytes := 1) (dk := (kInt .u8)) h112 rfl (by kernel_rfl) rfl rfl rfl (kInt_flat _) hr110 hp0 hS10z Try.underlying27 (by kernel_rfl) rfl (by decide) (by decide) (by first | omega | (simp only [List.length_cons, List.length_nil] at *; omega)) (fun a114 W116 v117 M118 h115 hr119 hS11a => ?_)
   obtain ⟨y11b, hy11c, H⟩ := lete H
   have hr11d : Row (kInt .u8) 5 b w0 R v117 y11b M118 := by rw [hy11c]; exact hr119
   clear hr119
   obtain ⟨A11e, c11f, rfl⟩ := hr11d.form
   refine WL.bl 1 4 h115 [(2, .slice A11e y11b.length c11f)] (fun a11g h11h => ?_)
   refine WL.dn ?_
   refine wp_ret ?_
   obtain rfl := Option.some.inj H
   repeat (first | with_reducible refine t1 ?_ | with_reducible refine t2 ?_ | with_reducible refine t3 ?_)
   refine bret (.slice A11e y11b.length c11f) h11h ?_
   exact ⟨.slice A11e y11b.length c11f, M118, rfl, hr11d, hS11a⟩
  ·rw [if_neg c113] at H
   cases H

/-! ### (*louver/turns.Ring).Next -/
def turns_Ring_Next.l0 : Nat → S69 → Int → S69 → Int → Option (Int × (List Int) × Bool × Bool × S69)
 | 0, _, _, _, _ => none
 | k + 1, x2vu, x2vx, p0, p1 => if x2vx < (p0.f0.length : Int) then (if ¬ ((x2vu.f0.length : Int) = 0) then (if 0 ≤ (Int.tmod (IntKind.i64.wrap (x2vu.f1 + x2vx)) (x2vu.f0.length : Int)) then (if (Int.tmod (IntKind.i64.wrap (x2vu.f1 + x2vx)) (x2vu.f0.length : Int)) < (x2vu.f0.length : Int) then (lt1 (gt z72 x2vu.f0 (Int.tmod (IntKind.i64.wrap (x2vu.f1 + x2vx)) (x2vu.f0.length : Int)) : S72) fun y30h => (bnd1 (window_Window_Left.f x2vu.f2) fun r30x => (bnd1 (turns_sender_can.f y30h r30x) fun r318 => (if r318 = true then (bnd1 (window_Window_Left.f y30h.f4) fun r37i => (bnd1 (window_Window_Left.f x2vu.f2) fun r37w => (bnd2 (window_Window_Take.f y30h.f4 (mnI (mnI (mnI (y30h.f1.length : Int) (mxI p1 1)) (mxI r37i 0)) (mxI r37w 0))) fun r38n r38o => (bnd2 (window_Window_Take.f x2vu.f2 (mnI (mnI (mnI (y30h.f1.length : Int) (mxI p1 1)) (mxI r37i 0)) (mxI r37w 0))) fun r396 r397 => (if 0 ≤ (mnI (mnI (mnI (y30h.f1.length : Int) (mxI p1 1)) (mxI r37i 0)) (mxI r37w 0)) then (if (mnI (mnI (mnI (y30h.f1.length : Int) (mxI p1 1)) (mxI r37i 0)) (mxI r37w 0)) ≤ (y30h.f1.length : Int) then (bnd1 (bytes_Clone.f (y30h.f1.take (mnI (mnI (mnI (y30h.f1.length : Int) (mxI p1 1)) (mxI r37i 0)) (mxI r37w 0)).toNat)) fun r39y => (bnd1 (bytes_Clone.f (y30h.f1.drop (mnI (mnI (mnI (y30h.f1.length : Int) (mxI p1 1)) (mxI r37i 0)) (mxI r37w 0)).toNat)) fun r3at => (if y30h.f2 = true then (some (y30h.f0, r39y, decide ((r3at.length : Int) = 0), true, (⟨(x2vu.f0.set (Int.tmod (IntKind.i64.wrap (x2vu.f1 + x2vx)) (x2vu.f0.length : Int)).toNat (⟨y30h.f0, r3at, y30h.f2, decide ((r3at.length : Int) = 0), r38o⟩ : S72)), Int.tmod (IntKind.i64.wrap ((Int.tmod (IntKind.i64.wrap (x2vu.f1 + x2vx)) (x2vu.f0.length : Int)) + 1)) (x2vu.f0.length : Int), r397⟩ : S69))) else (some (y30h.f0, r39y, false, true, (⟨(x2vu.f0.set (Int.tmod (IntKind.i64.wrap (x2vu.f1 + x2vx)) (x2vu.f0.length : Int)).toNat (⟨y30h.f0, r3at, y30h.f2, false, r38o⟩ : S72)), Int.tmod (IntKind.i64.wrap ((Int.tmod (IntKind.i64.wrap (x2vu.f1 + x2vx)) (x2vu.f0.length : Int)) + 1)) (x2vu.f0.length : Int), r397⟩ : S69)))))) else (none)) else (none)))))) else (turns_Ring_Next.l0 k x2vu (IntKind.i64.wrap (x2vx + 1)) p0 p1))))) else (none)) else (none)) else (none)) else (some (0, ([] : List Int), false, false, x2vu))
def turns_Ring_Next.f (k : Nat) (p0 : S69) (p1 : Int) : Option (Int × (List Int) × Bool × Bool × S69) := turns_Ring_Next.l0 k p0 0 p0 p1
set_option maxHeartbeats 20000000 in
set_option maxRecDepth 100000 in
theorem turns_Ring_Next.calls (k : Nat) {b : Nat} {w0 W : World} {R : Frag} {Fs : List Frag} {p0 : S69} {p1 : Int}  {v0 : Value} {M0 : Frag} {r0q : Int} {r1q : (List Int)} {r2q : Bool} {r3q : Bool} {r4q : S69} (hp0 : Ptr k69 69 b w0 R v0 p0 M0) (H : turns_Ring_Next.f k p0 p1 = some (r0q, r1q, r2q, r3q, r4q)) (hS : St b w0 W R (M0 :: Fs)) :
  Calls Try.prog 11 ([v0, i6 p1] : List Value).toArray W (fun e W' => ∃ (u1q : Value) (N1q : Frag) (O0q : Frag), e = .returned (.tuple #[.int .u32 r0q, u1q, .bool r2q, .bool r3q]) ∧ Row (kInt .u8) 5 b w0 R u1q r1q N1q ∧ Ptr k69 69 b w0 R v0 r4q O0q ∧ St b w0 W' R (N1q :: O0q :: Fs)) := by
 unfold turns_Ring_Next.f at H
 refine calls_enter Try.func11 rfl 135 rfl (by kernel_rfl) (fun a h => ?_)
 refine wp_seq ?_
 refine WL.start ?_
 refine WL.bl 4 4 h [(7, .bool false), (6, .bool false), (5, .slice none 0 0), (4, .int .u32 0)] (fun a2v4 h2v5 => ?_)
 refine WL.dn ?_
 refine wp_seq ?_
 refine wp_seq ?_
 refine WL.start ?_
 refine WL.bl 1 1 h2v5 [(13, v0)] (fun a2v6 h2v7 => ?_)
 obtain ⟨g2v9, A2va, c2vb, g2ve, M2vc, M2vf, rfl, hr2vd, hr2vg, hS2v8⟩ := k69qop hp0 hS
 refine WL.bl 1 2 h2v7 [(14, .bool false)] (fun a2vh h2vi => ?_)
 refine WL.dn ?_
 refine wp_else h2vi rfl ?_
 refine wp_skip ?_
 refine wp_seq ?_
 refine wp_seq ?_
 refine WL.start ?_
 refine WL.bl 3 3 h2vi [(17, pt g2v9), (16, pt g2v9), (15, pt g2v9)] (fun a2vj h2vk => ?_)
 refine WL.oq h2vk rfl ?_
 refine owp_rn (.slice A2va p0.f0.length c2vb) h2vk rfl (run_load1 rfl rfl Try.underlying67 rfl (hS2v8.cell (i := 0) rfl)) (fun a2vl h2vm => ?_)
 refine WL.bl 2 6 h2vm [(20, i6 0), (19, i6 (p0.f0.length : Int))] (fun a2vn h2vo => ?_)
 refine WL.dn ?_
 refine wp_block ?_
 have hS2vy := hS2v8.b2
 have hS2vz := hS2vy.b2
 have hS2w0 := hS2vz.b2
 obtain ⟨M2w1, hp2w2, hS2w3⟩ := k69qfo p0 hr2vd hr2vg hS2w0
 clear h2v5 a2v4 h2v7 a2v6 h2vi a2vh h2vk a2vj h2vm a2vl
 refine wp_loop_ghost (fun kq_ a_ W_ => ∃ (x2vu : S69), ∃ (M2vv : Frag), ∃ (x2vx : Int), Hd a_ 135 [(0, pt g2v9), (1, i6 p1), (19, i6 (p0.f0.length : Int)), (20, i6 x2vx)] ∧ Asd (turns_Ring_Next.l0 kq_ x2vu x2vx p0 p1 = some (r0q, r1q, r2q, r3q, r4q)) ∧ Asd (kq_ ≤ k) ∧ Asd (St b w0 W_ R (M2vv :: Fs)) ∧ Asd (Ptr k69 69 b w0 R (pt g2v9) x2vu M2vv)) k ⟨p0, M2w1, 0, h2vo.keep ⟨rfl, rfl, rfl, rfl, trivial⟩, ⟨H⟩, ⟨Nat.le_refl _⟩, ⟨hS2w3⟩, ⟨hp2w2⟩⟩ ?_
 clear H hS2w3
 rintro kk2vt a2vq W2vr ⟨x2vu, M2vv, x2vx, h2vp, ⟨H⟩, ⟨hkkk2vt⟩, ⟨hS2vs⟩, ⟨hr2vw⟩⟩
 obtain _ | kk2w4 := kk2vt
 ·exact absurd H (by simp [turns_Ring_Next.l0])
 simp only [turns_Ring_Next.l0] at H
 refine wp_seq ?_
 refine WL.start ?_
 refine WL.bl 1 1 h2vp [(21, .bool (decide (x2vx < (p0.f0.length : Int))))] (fun a2w5 h2w6 => ?_)
 refine WL.dn ?_
 refine wp_seq ?_
 clear h2vp a2vq
 by_cases c2w7 : x2vx < (p0.f0.length : Int)
 ·rw [if_pos c2w7] at H
  have hb_ : (decide (x2vx < (p0.f0.length : Int))) = true := decide_eq_true c2w7
  try rw [hb_] at h2w6
  clear hb_
  refine wp_then h2w6 rfl ?_
  refine wp_skip ?_
  refine wp_seq ?_
  refine wp_block ?_
  refine wp_seq ?_
  refine WL.start ?_
  refine WL.bl 2 2 h2w6 [(8, i6 x2vx), (22, i6 x2vx)] (fun a2w8 h2w9 => ?_)
  refine WL.dn ?_
  refine wp_seq ?_
  obtain ⟨A2wb, c2wc, g2wf, M2wd, M2wg, hr2we, hr2wh, hS2wa⟩ := k69qoq hr2vw hS2vs
  refine WT.start 13 (fun w_ => (w_.cell? ⟨g2v9, 1, none⟩ = some (i6 x2vu.f1)) ∧ (w_.cell? ⟨g2v9, 0, none⟩ = some (.slice A2wb x2vu.f0.length c2wc)) ∧ True) (by kernel_rfl) #[false, false, false, false, false, false, false, false, false, false, false, false, false] 13 rfl rfl ?_
  have hS2yq := hS2wa.drew
  refine WT.tk 0 h2w9 rfl rfl (pt g2v9) (fun _ _ => by kernel_rfl) ⟨(hS2yq.cell (i := 1) rfl), (hS2yq.cell (i := 0) rfl), trivial⟩ (fun a2yr s2yt h2ys => ?_)
  refine WT.tk 1 h2ys rfl rfl (pt g2v9) (fun _ _ => by kernel_rfl) s2yt (fun a2yu s2yw h2yv => ?_)
  refine WT.tk 2 h2yv rfl rfl (.pointer (some ⟨g2v9, 1, none⟩)) (fun _ _ => by kernel_rfl) s2yw (fun a2yx s2yz h2yy => ?_)
  refine WT.tk 4 h2yy rfl rfl (i6 x2vx) (fun _ _ => by kernel_rfl) s2yz (fun a2z0 s2z2 h2z1 => ?_)
  refine WT.tk 6 h2z1 rfl rfl (pt g2v9) (fun _ _ => by kernel_rfl) s2z2 (fun a2z3 s2z5 h2z4 => ?_)
  refine WT.tk 7 h2z4 rfl rfl (pt g2v9) (fun _ _ => by kernel_rfl) s2z5 (fun a2z6 s2z8 h2z7 => ?_)
  refine WT.tk 8 h2z7 rfl rfl (pt g2v9) (fun _ _ => by kernel_rfl) s2z8 (fun a2z9 s2zb h2za => ?_)
  refine WT.tk 3 h2za rfl rfl (i6 x2vu.f1) (fun w_ hs_ => (run_load1 rfl rfl Try.underlying3 rfl hs_.1)) s2zb (fun a2zc s2ze h2zd => ?_)
  refine WT.tk 5 h2zd rfl rfl (i6 (IntKind.i64.wrap (x2vu.f1 + x2vx))) (fun _ _ => by kernel_rfl) s2ze (fun a2zf s2zh h2zg => ?_)
  refine WT.tk 9 h2zg rfl rfl (.slice A2wb x2vu.f0.length c2wc) (fun w_ hs_ => (run_load1 rfl rfl Try.underlying67 rfl hs_.2.1)) s2zh (fun a2zi s2zk h2zj => ?_)
  refine WT.tk 10 h2zj rfl rfl (i6 (x2vu.f0.length : Int)) (fun _ _ => by kernel_rfl) s2zk (fun a2zl s2zn h2zm => ?_)
  clear h2w6 a2w5 h2w9 a2w8 h2ys a2yr h2yv a2yu h2yy a2yx h2z1 a2z0 h2z4 a2z3 h2z7 a2z6 h2za a2z9 h2zd a2zc h2zg a2zf h2zj a2zi
  by_cases c2zo : ¬ ((x2vu.f0.length : Int) = 0)
  ·rw [if_pos c2zo] at H
   refine WT.tk 11 h2zm rfl rfl (i6 (Int.tmod (IntKind.i64.wrap (x2vu.f1 + x2vx)) (x2vu.f0.length : Int))) (fun w_ hs_ => (run_rem rfl rfl rfl (by assumption))) s2zn (fun a2zp s2zr h2zq => ?_)
   refine WT.tk 12 h2zq rfl rfl (i6 (Int.tmod (IntKind.i64.wrap (x2vu.f1 + x2vx)) (x2vu.f0.length : Int))) (fun _ _ => by kernel_rfl) s2zr (fun a2zs s2zu h2zt => ?_)
   refine WT.dn ?_
   refine wp_seq ?_
   refine WL.start ?_
   refine WL.bl 3 3 h2zt [(37, pt g2v9), (36, pt g2v9), (35, pt g2v9)] (fun a2zv h2zw => ?_)
   refine WL.oq h2zw rfl ?_
   refine owp_rn (.slice A2wb x2vu.f0.length c2wc) h2zw rfl (run_load1 rfl rfl Try.underlying67 rfl (hS2yq.cell (i := 0) rfl)) (fun a2zx h2zy => ?_)
   refine WL.bl 1 5 h2zy [(39, i6 (Int.tmod (IntKind.i64.wrap (x2vu.f1 + x2vx)) (x2vu.f0.length : Int)))] (fun a2zz h300 => ?_)
   clear h2zm a2zl h2zq a2zp h2zt a2zs h2zw a2zv h2zy a2zx
   by_cases c301 : 0 ≤ (Int.tmod (IntKind.i64.wrap (x2vu.f1 + x2vx)) (x2vu.f0.length : Int))
   ·rw [if_pos c301] at H
    by_cases c302 : (Int.tmod (IntKind.i64.wrap (x2vu.f1 + x2vx)) (x2vu.f0.length : Int)) < (x2vu.f0.length : Int)
    ·rw [if_pos c302] at H
     have hi305 : 0 ≤ Int.tmod (IntKind.i64.wrap (x2vu.f1 + x2vx)) (x2vu.f0.length : Int) := by first | assumption | omega
     have hi306 : (Int.tmod (IntKind.i64.wrap (x2vu.f1 + x2vx)) (x2vu.f0.length : Int)) < (x2vu.f0.length : Int) := by first | assumption | omega
     obtain ⟨ad303, _, ha304, -, -⟩ := Rds.elemAny hr2we.rds hi305 (gt_get (z := z72) hi305 hi306)
     refine WL.oq h300 rfl ?_
     refine owp_rn (.pointer (some (ad303.add ((Int.tmod (IntKind.i64.wrap (x2vu.f1 + x2vx)) (x2vu.f0.length : Int)).toNat * 1)))) h300 rfl (run_idx (ad := ad303) (sz := 1) rfl (by rw [← ha304]; rfl) rfl Try.underlying67 (by kernel_rfl) hi305 hi306) (fun a307 h308 => ?_)
     have hS309 := hS2yq.b1
     obtain ⟨g30a, M30b, M30c, hp30d, hh30e, hm30f, hc30g⟩ := Row.openp (dk := k72) z72 hr2we ha304 hi305 hi306
     obtain ⟨y30h, hy30i, H⟩ := lete H
     have hr30j : Ptr k72 72 b w0 R (pt g30a) y30h M30c := by rw [hy30i]; exact hp30d
     have hS30l : St b w0 W2vr.drew R (M30c :: M30b :: (bx g2v9 69 [.slice A2wb x2vu.f0.length c2wc, i6 x2vu.f1, pt g2wf]) :: M2wg :: Fs) := hm30f _ _ hS309
     clear hm30f hp30d hr2we
     refine WL.oq h308 rfl ?_
     refine owp_rn (pt g30a) h308 rfl (run_load1 rfl rfl Try.underlying70 rfl (hc30g _ _ hS30l.b1)) (fun a30m h30n => ?_)
     refine WL.bl 1 8 h30n [(10, pt g30a)] (fun a30o h30p => ?_)
     refine WL.dn ?_
     refine wp_seq ?_
     refine wp_seq ?_
     refine WL.start ?_
     refine WL.bl 4 4 h30p [(45, .pointer (some ⟨g2v9, 2, none⟩)), (44, pt g2v9), (43, pt g2v9), (42, pt g30a)] (fun a30q h30r => ?_)
     have hS30s := hS30l.b2
     refine WL.oq h30r rfl ?_
     refine owp_rn (pt g2wf) h30r rfl (run_load1 rfl rfl Try.underlying65 rfl (hS30s.cell (i := 2) rfl)) (fun a30t h30u => ?_)
     have hS30v := hS30s.b3
     obtain ⟨r30x, A30w, H⟩ := bind1 H
     refine WL.oq h30u rfl ?_
     refine owp_call [(pt g2wf)] h30u rfl (by kernel_rfl) rfl Try.func30 (by kernel_rfl) rfl (by kernel_rfl) (window_Window_Left.calls hr2wh A30w hS30v) (fun e30z W30y hp310 => ?_)
     obtain ⟨M313, rfl, hr314, hS315⟩ := hp310
     refine ⟨_, rfl, fun a311 h312 => ?_⟩
     have hS316 := hS315.b2
     obtain ⟨r318, A317, H⟩ := bind1 H
     refine WL.oq h312 rfl ?_
     refine owp_call [(pt g30a), i6 r30x] h312 rfl (by kernel_rfl) rfl Try.func29 (by kernel_rfl) rfl (by kernel_rfl) (turns_sender_can.calls hr30j A317 hS316) (fun e31a W319 hp31b => ?_)
     obtain ⟨M31e, rfl, hr31f, hS31g⟩ := hp31b
     refine ⟨_, rfl, fun a31c h31d => ?_⟩
     refine WL.bl 1 8 h31d [(49, .bool (!r318))] (fun a31h h31i => ?_)
     refine WL.dn ?_
     clear h300 a2zz h308 a307 h30n a30m h30p a30o h30r a30q h30u a30t h312 a311 h31d a31c
     by_cases c31j : r318 = true
     ·rw [if_pos c31j] at H
      have hb_ : r318 = true := c31j
      try rw [hb_] at h31i
      clear hb_
      refine wp_else h31i rfl ?_
      refine wp_skip ?_
      refine wp_seq ?_
      obtain ⟨A31l, c31m, g31p, M31n, M31q, hr31o, hr31r, hS31k⟩ := k72qoq hr31f hS31g
      refine WT.start 21 (fun w_ => (w_.cell? ⟨g30a, 1, none⟩ = some (.slice A31l y30h.f1.length c31m)) ∧ (w_.cell? ⟨g30a, 4, none⟩ = some (pt g31p)) ∧ (w_.cell? ⟨g2v9, 2, none⟩ = some (pt g2wf)) ∧ True) (by kernel_rfl) #[false, false, false, false, false, false, false, false, false, false, false, false, false, false, false, false, false, false, false, false, false] 21 rfl rfl ?_
      have hS366 := hS31k.drew
      refine WT.tk 0 h31i rfl rfl (pt g30a) (fun _ _ => by kernel_rfl) ⟨(hS366.cell (i := 1) rfl), (hS366.cell (i := 4) rfl), (hS366.b4.cell (i := 2) rfl), trivial⟩ (fun a367 s369 h368 => ?_)
      refine WT.tk 1 h368 rfl rfl (pt g30a) (fun _ _ => by kernel_rfl) s369 (fun a36a s36c h36b => ?_)
      refine WT.tk 2 h36b rfl rfl (.pointer (some ⟨g30a, 1, none⟩)) (fun _ _ => by kernel_rfl) s36c (fun a36d s36f h36e => ?_)
      refine WT.tk 5 h36e rfl rfl (i6 p1) (fun _ _ => by kernel_rfl) s36f (fun a36g s36i h36h => ?_)
      refine WT.tk 6 h36h rfl rfl (i6 (mxI p1 1)) (fun _ _ => by kernel_rfl) s36i (fun a36j s36l h36k => ?_)
      refine WT.tk 7 h36k rfl rfl (pt g30a) (fun _ _ => by kernel_rfl) s36l (fun a36m s36o h36n => ?_)
      refine WT.tk 8 h36n rfl rfl (pt g30a) (fun _ _ => by kernel_rfl) s36o (fun a36p s36r h36q => ?_)
      refine WT.tk 9 h36q rfl rfl (.pointer (some ⟨g30a, 4, none⟩)) (fun _ _ => by kernel_rfl) s36r (fun a36s s36u h36t => ?_)
      refine WT.tk 13 h36t rfl rfl (pt g2v9) (fun _ _ => by kernel_rfl) s36u (fun a36v s36x h36w => ?_)
      refine WT.tk 14 h36w rfl rfl (pt g2v9) (fun _ _ => by kernel_rfl) s36x (fun a36y s370 h36z => ?_)
      refine WT.tk 15 h36z rfl rfl (.pointer (some ⟨g2v9, 2, none⟩)) (fun _ _ => by kernel_rfl) s370 (fun a371 s373 h372 => ?_)
      refine WT.tk 3 h372 rfl rfl (.slice A31l y30h.f1.length c31m) (fun w_ hs_ => (run_load1 rfl rfl Try.underlying27 rfl hs_.1)) s373 (fun a374 s376 h375 => ?_)
      clear h31i a31h h368 a367 h36b a36a h36e a36d h36h a36g h36k a36j h36n a36m h36q a36p h36t a36s h36w a36v h36z a36y h372 a371
      refine WT.tk 4 h375 rfl rfl (i6 (y30h.f1.length : Int)) (fun _ _ => by kernel_rfl) s376 (fun a377 s379 h378 => ?_)
      refine WT.tk 10 h378 rfl rfl (pt g31p) (fun w_ hs_ => (run_load1 rfl rfl Try.underlying65 rfl hs_.2.1)) s379 (fun a37a s37c h37b => ?_)
      refine WT.tk 16 h37b rfl rfl (pt g2wf) (fun w_ hs_ => (run_load1 rfl rfl Try.underlying65 rfl hs_.2.2.1)) s37c (fun a37d s37f h37e => ?_)
      have hS37g := hS366.b2
      obtain ⟨r37i, A37h, H⟩ := bind1 H
      refine WT.o1 11 h37e rfl ?_
      refine owp_call [(pt g31p)] h37e rfl (by kernel_rfl) rfl Try.func30 (by kernel_rfl) rfl (by kernel_rfl) (window_Window_Left.calls hr31r A37h hS37g) (fun e37k W37j hp37l => ?_)
      obtain ⟨M37o, rfl, hr37p, hS37q⟩ := hp37l
      refine ⟨_, rfl, fun a37m h37n => ?_⟩
      refine ⟨.inr ⟨(hS37q.b1.cell (i := 1) rfl), (hS37q.b1.cell (i := 4) rfl), (hS37q.b4.cell (i := 2) rfl), trivial⟩, ?_⟩
      refine WT.tk 12 h37n rfl rfl (i6 (mxI r37i 0)) (fun _ _ => by kernel_rfl) ⟨(hS37q.b1.cell (i := 1) rfl), (hS37q.b1.cell (i := 4) rfl), (hS37q.b4.cell (i := 2) rfl), trivial⟩ (fun a37r s37t h37s => ?_)
      have hS37u := hS37q.b3
      obtain ⟨r37w, A37v, H⟩ := bind1 H
      refine WT.o1 17 h37s rfl ?_
      refine owp_call [(pt g2wf)] h37s rfl (by kernel_rfl) rfl Try.func30 (by kernel_rfl) rfl (by kernel_rfl) (window_Window_Left.calls hr314 A37v hS37u) (fun e37y W37x hp37z => ?_)
      obtain ⟨M382, rfl, hr383, hS384⟩ := hp37z
      refine ⟨_, rfl, fun a380 h381 => ?_⟩
      refine ⟨.inr ⟨(hS384.b2.cell (i := 1) rfl), (hS384.b2.cell (i := 4) rfl), (hS384.b4.cell (i := 2) rfl), trivial⟩, ?_⟩
      refine WT.tk 18 h381 rfl rfl (i6 (mxI r37w 0)) (fun _ _ => by kernel_rfl) ⟨(hS384.b2.cell (i := 1) rfl), (hS384.b2.cell (i := 4) rfl), (hS384.b4.cell (i := 2) rfl), trivial⟩ (fun a385 s387 h386 => ?_)
      refine WT.tk 19 h386 rfl rfl (i6 (mnI (mnI (mnI (y30h.f1.length : Int) (mxI p1 1)) (mxI r37i 0)) (mxI r37w 0))) (fun _ _ => by kernel_rfl) s387 (fun a388 s38a h389 => ?_)
      refine WT.tk 20 h389 rfl rfl (i6 (mnI (mnI (mnI (y30h.f1.length : Int) (mxI p1 1)) (mxI r37i 0)) (mxI r37w 0))) (fun _ _ => by kernel_rfl) s38a (fun a38b s38d h38c => ?_)
      refine WT.dn ?_
      refine wp_seq ?_
      refine WL.start ?_
      refine WL.bl 3 3 h38c [(72, .pointer (some ⟨g30a, 4, none⟩)), (71, pt g30a), (70, pt g30a)] (fun a38e h38f => ?_)
      have hS38g := hS384.b2
      refine WL.oq h38f rfl ?_
      refine owp_rn (pt g31p) h38f rfl (run_load1 rfl rfl Try.underlying65 rfl (hS38g.cell (i := 4) rfl)) (fun a38h h38i => ?_)
      refine WL.bl 1 5 h38i [(74, i6 (mnI (mnI (mnI (y30h.f1.length : Int) (mxI p1 1)) (mxI r37i 0)) (mxI r37w 0)))] (fun a38j h38k => ?_)
      clear h375 a374 h378 a377 h37b a37a h37e a37d h37n a37m h37s a37r h381 a380 h386 a385 h389 a388 h38c a38b h38f a38e h38i a38h
      have hS38l := hS38g.b2
      obtain ⟨r38n, r38o, A38m, H⟩ := bind2 H
      refine WL.oq h38k rfl ?_
      refine owp_call [(pt g31p), i6 (mnI (mnI (mnI (y30h.f1.length : Int) (mxI p1 1)) (mxI r37i 0)) (mxI r37w 0))] h38k rfl (by kernel_rfl) rfl Try.func31 (by kernel_rfl) rfl (by kernel_rfl) (window_Window_Take.calls hr37p A38m hS38l) (fun e38q W38p hp38r => ?_)
      obtain ⟨M38u, rfl, hr38v, hS38w⟩ := hp38r
      refine ⟨_, rfl, fun a38s h38t => ?_⟩
      refine WL.dn ?_
      refine wp_seq ?_
      refine WL.start ?_
      refine WL.bl 3 3 h38t [(78, .pointer (some ⟨g2v9, 2, none⟩)), (77, pt g2v9), (76, pt g2v9)] (fun a38x h38y => ?_)
      have hS38z := hS38w.b4
      refine WL.oq h38y rfl ?_
      refine owp_rn (pt g2wf) h38y rfl (run_load1 rfl rfl Try.underlying65 rfl (hS38z.cell (i := 2) rfl)) (fun a390 h391 => ?_)
      refine WL.bl 1 5 h391 [(80, i6 (mnI (mnI (mnI (y30h.f1.length : Int) (mxI p1 1)) (mxI r37i 0)) (mxI r37w 0)))] (fun a392 h393 => ?_)
      have hS394 := hS38z.b3
      obtain ⟨r396, r397, A395, H⟩ := bind2 H
      refine WL.oq h393 rfl ?_
      refine owp_call [(pt g2wf), i6 (mnI (mnI (mnI (y30h.f1.length : Int) (mxI p1 1)) (mxI r37i 0)) (mxI r37w 0))] h393 rfl (by kernel_rfl) rfl Try.func31 (by kernel_rfl) rfl (by kernel_rfl) (window_Window_Take.calls hr383 A395 hS394) (fun e399 W398 hp39a => ?_)
      obtain ⟨M39d, rfl, hr39e, hS39f⟩ := hp39a
      refine ⟨_, rfl, fun a39b h39c => ?_⟩
      refine WL.dn ?_
      refine wp_seq ?_
      refine WL.start ?_
      refine WL.bl 3 3 h39c [(84, .pointer (some ⟨g30a, 1, none⟩)), (83, pt g30a), (82, pt g30a)] (fun a39g h39h => ?_)
      have hS39i := hS39f.b3
      refine WL.oq h39h rfl ?_
      refine owp_rn (.slice A31l y30h.f1.length c31m) h39h rfl (run_load1 rfl rfl Try.underlying27 rfl (hS39i.cell (i := 1) rfl)) (fun a39j h39k => ?_)
      refine WL.bl 1 5 h39k [(86, i6 (mnI (mnI (mnI (y30h.f1.length : Int) (mxI p1 1)) (mxI r37i 0)) (mxI r37w 0)))] (fun a39l h39m => ?_)
      clear h38k a38j h38t a38s h38y a38x h391 a390 h393 a392 h39c a39b h39h a39g h39k a39j
      by_cases c39n : 0 ≤ (mnI (mnI (mnI (y30h.f1.length : Int) (mxI p1 1)) (mxI r37i 0)) (mxI r37w 0))
      ·rw [if_pos c39n] at H
       by_cases c39o : (mnI (mnI (mnI (y30h.f1.length : Int) (mxI p1 1)) (mxI r37i 0)) (mxI r37w 0)) ≤ (y30h.f1.length : Int)
       ·rw [if_pos c39o] at H
        refine WL.oq h39m rfl ?_
        refine owp_rn (sliced A31l (0 : Int).toNat (mnI (mnI (mnI (y30h.f1.length : Int) (mxI p1 1)) (mxI r37i 0)) (mxI r37w 0)).toNat c31m 1) h39m rfl (run_cut (l := 0) (h := mnI (mnI (mnI (y30h.f1.length : Int) (mxI p1 1)) (mxI r37i 0)) (mxI r37w 0)) rfl rfl Try.underlying27 (by kernel_rfl) rfl ⟨_, rfl⟩ (by first | assumption | omega) (by first | assumption | omega) (by have q_ := Rds.cap hr31o.rds; omega) (by have q_ := Rds.cap hr31o.rds; omega)) (fun a39q h39r => ?_)
        have hx39p := Rds.cut hr31o.rds (l := (0 : Int).toNat) (h := (mnI (mnI (mnI (y30h.f1.length : Int) (mxI p1 1)) (mxI r37i 0)) (mxI r37w 0)).toNat) (by omega) (by omega)
        obtain ⟨v39s, ev39t⟩ : ∃ y_, y_ = sliced A31l (0 : Int).toNat (mnI (mnI (mnI (y30h.f1.length : Int) (mxI p1 1)) (mxI r37i 0)) (mxI r37w 0)).toNat c31m 1 := ⟨_, rfl⟩
        have hx_ : Rds (kInt .u8) b w0 (M31n ++ R) v39s (y30h.f1.take (mnI (mnI (mnI (y30h.f1.length : Int) (mxI p1 1)) (mxI r37i 0)) (mxI r37w 0)).toNat) := hx39p.as_ ev39t.symm (by simp)
        rw [← ev39t] at h39r; clear hx39p
        have hx39p := hx_; clear hx_
        obtain ⟨A39u, c39v, rfl⟩ := hx39p.form
        have hS39w := hS39i.b4
        obtain ⟨r39y, A39x, H⟩ := bind1 H
        refine WL.oq h39r rfl ?_
        refine owp_call [.slice A39u (y30h.f1.take (mnI (mnI (mnI (y30h.f1.length : Int) (mxI p1 1)) (mxI r37i 0)) (mxI r37w 0)).toNat).length c39v] h39r rfl (by kernel_rfl) rfl Try.func32 (by kernel_rfl) rfl (by kernel_rfl) (bytes_Clone.calls hx39p A39x (hS39w.pool)) (fun e3a0 W39z hp3a1 => ?_)
        obtain ⟨v3a4, M3a5, rfl, hr3a6, hS3a7⟩ := hp3a1
        have hS3a8 : St b w0 W39z R (M31n :: M3a5 :: (bx g30a 72 [.int .u32 y30h.f0, .slice A31l y30h.f1.length c31m, .bool y30h.f2, .bool y30h.f3, pt g31p]) :: M39d :: (bx g2v9 69 [.slice A2wb x2vu.f0.length c2wc, i6 x2vu.f1, pt g2wf]) :: M38u :: M30b :: Fs) := hS3a7.unpool
        replace hr3a6 : Row (kInt .u8) 5 b w0 R v3a4 r39y M3a5 := hr3a6.ind (kInt_ind _)
        refine ⟨_, rfl, fun a3a2 h3a3 => ?_⟩
        obtain ⟨A3a9, c3aa, rfl⟩ := hr3a6.form
        refine WL.bl 1 8 h3a3 [(12, .slice A3a9 r39y.length c3aa)] (fun a3ab h3ac => ?_)
        refine WL.dn ?_
        refine wp_seq ?_
        refine WL.start ?_
        refine WL.bl 4 4 h3ac [(92, .pointer (some ⟨g30a, 1, none⟩)), (91, pt g30a), (90, pt g30a), (89, pt g30a)] (fun a3ad h3ae => ?_)
        have hS3af := hS3a8.b2
        refine WL.oq h3ae rfl ?_
        refine owp_rn (.slice A31l y30h.f1.length c31m) h3ae rfl (run_load1 rfl rfl Try.underlying27 rfl (hS3af.cell (i := 1) rfl)) (fun a3ag h3ah => ?_)
        refine WL.bl 1 6 h3ah [(94, i6 (mnI (mnI (mnI (y30h.f1.length : Int) (mxI p1 1)) (mxI r37i 0)) (mxI r37w 0)))] (fun a3ai h3aj => ?_)
        refine WL.oq h3aj rfl ?_
        refine owp_rn (sliced A31l (mnI (mnI (mnI (y30h.f1.length : Int) (mxI p1 1)) (mxI r37i 0)) (mxI r37w 0)).toNat (y30h.f1.length : Int).toNat c31m 1) h3aj rfl (run_cut (l := mnI (mnI (mnI (y30h.f1.length : Int) (mxI p1 1)) (mxI r37i 0)) (mxI r37w 0)) (h := (y30h.f1.length : Int)) rfl rfl Try.underlying27 (by kernel_rfl) ⟨_, rfl⟩ rfl (by first | assumption | omega) (by first | assumption | omega) (by have q_ := Rds.cap hr31o.rds; omega) (by have q_ := Rds.cap hr31o.rds; omega)) (fun a3al h3am => ?_)
        have hx3ak := Rds.cut hr31o.rds (l := (mnI (mnI (mnI (y30h.f1.length : Int) (mxI p1 1)) (mxI r37i 0)) (mxI r37w 0)).toNat) (h := (y30h.f1.length : Int).toNat) (by omega) (by omega)
        obtain ⟨v3an, ev3ao⟩ : ∃ y_, y_ = sliced A31l (mnI (mnI (mnI (y30h.f1.length : Int) (mxI p1 1)) (mxI r37i 0)) (mxI r37w 0)).toNat (y30h.f1.length : Int).toNat c31m 1 := ⟨_, rfl⟩
        have hx_ : Rds (kInt .u8) b w0 (M31n ++ R) v3an (y30h.f1.drop (mnI (mnI (mnI (y30h.f1.length : Int) (mxI p1 1)) (mxI r37i 0)) (mxI r37w 0)).toNat) := hx3ak.as_ ev3ao.symm (by simp)
        rw [← ev3ao] at h3am; clear hx3ak
        have hx3ak := hx_; clear hx_
        obtain ⟨A3ap, c3aq, rfl⟩ := hx3ak.form
        have hS3ar := hS3af.b1
        obtain ⟨r3at, A3as, H⟩ := bind1 H
        refine WL.oq h3am rfl ?_
        refine owp_call [.slice A3ap (y30h.f1.drop (mnI (mnI (mnI (y30h.f1.length : Int) (mxI p1 1)) (mxI r37i 0)) (mxI r37w 0)).toNat).length c3aq] h3am rfl (by kernel_rfl) rfl Try.func32 (by kernel_rfl) rfl (by kernel_rfl) (bytes_Clone.calls hx3ak A3as (hS3ar.pool)) (fun e3av W3au hp3aw => ?_)
        obtain ⟨v3az, M3b0, rfl, hr3b1, hS3b2⟩ := hp3aw
        have hS3b3 : St b w0 W3au R (M31n :: M3b0 :: (bx g30a 72 [.int .u32 y30h.f0, .slice A31l y30h.f1.length c31m, .bool y30h.f2, .bool y30h.f3, pt g31p]) :: M3a5 :: M39d :: (bx g2v9 69 [.slice A2wb x2vu.f0.length c2wc, i6 x2vu.f1, pt g2wf]) :: M38u :: M30b :: Fs) := hS3b2.unpool
        replace hr3b1 : Row (kInt .u8) 5 b w0 R v3az r3at M3b0 := hr3b1.ind (kInt_ind _)
        refine ⟨_, rfl, fun a3ax h3ay => ?_⟩
        obtain ⟨A3b4, c3b5, rfl⟩ := hr3b1.form
        refine WL.bl 2 10 h3ay [(98, .pointer (some ⟨g30a, 1, none⟩)), (97, pt g30a)] (fun a3b6 h3b7 => ?_)
        have hS3b8 := hS3b3.b2
        refine WL.oq h3b7 rfl ?_
        refine owp_st 1 [.slice A3b4 r3at.length c3b5] h3b7 rfl rfl rfl hS3b8 [.int .u32 y30h.f0, .slice A3b4 r3at.length c3b5, .bool y30h.f2, .bool y30h.f3, pt g31p] (fun a3b9 W3bb h3ba hS3bc => ?_)
        refine WL.dn ?_
        refine wp_seq ?_
        refine WL.start ?_
        refine WL.bl 4 4 h3ba [(102, .pointer (some ⟨g30a, 2, none⟩)), (101, pt g30a), (100, pt g30a), (99, pt g30a)] (fun a3bd h3be => ?_)
        refine WL.oq h3be rfl ?_
        refine owp_rn (.bool y30h.f2) h3be rfl (run_load1 rfl rfl Try.underlying4 rfl (hS3bc.cell (i := 2) rfl)) (fun a3bf h3bg => ?_)
        clear h39m a39l h39r a39q h3a3 a3a2 h3ac a3ab h3ae a3ad h3ah a3ag h3aj a3ai h3am a3al h3ay a3ax h3b7 a3b6 h3ba a3b9 h3be a3bd
        refine WL.bl 1 6 h3bg [(104, .bool y30h.f2)] (fun a3bh h3bi => ?_)
        clear h3bg a3bf
        by_cases c3bj : y30h.f2 = true
        ·rw [if_pos c3bj] at H
         have hb_ : y30h.f2 = true := c3bj
         try rw [hb_] at h3bi
         clear hb_
         refine WL.oq h3bi rfl (owp_rk (pt g30a) h3bi rfl (fun a3bk h3bl => ?_))
         refine WL.oq h3bl rfl (owp_rk (pt g30a) h3bl rfl (fun a3bm h3bn => ?_))
         refine WL.oq h3bn rfl (owp_rk (.pointer (some ⟨g30a, 1, none⟩)) h3bn rfl (fun a3bo h3bp => ?_))
         refine WL.oq h3bp rfl ?_
         refine owp_rn (.slice A3b4 r3at.length c3b5) h3bp rfl (run_load1 rfl rfl Try.underlying27 rfl (hS3bc.cell (i := 1) rfl)) (fun a3bq h3br => ?_)
         refine WL.oq h3br rfl (owp_rk (i6 (r3at.length : Int)) h3br rfl (fun a3bs h3bt => ?_))
         refine WL.oq h3bt rfl (owp_rk (.bool (decide ((r3at.length : Int) = 0))) h3bt rfl (fun a3bu h3bv => ?_))
         refine WL.bl 3 15 h3bv [(113, .pointer (some ⟨g30a, 3, none⟩)), (112, pt g30a), (111, .bool (decide ((r3at.length : Int) = 0)))] (fun a3bw h3bx => ?_)
         refine WL.oq h3bx rfl ?_
         refine owp_st 3 [.bool (decide ((r3at.length : Int) = 0))] h3bx rfl rfl rfl hS3bc [.int .u32 y30h.f0, .slice A3b4 r3at.length c3b5, .bool y30h.f2, .bool (decide ((r3at.length : Int) = 0)), pt g31p] (fun a3by W3c0 h3bz hS3c1 => ?_)
         refine WL.dn ?_
         refine wp_seq ?_
         refine WL.start ?_
         refine WL.bl 6 6 h3bz [(119, pt g2v9), (118, pt g2v9), (117, pt g2v9), (116, i6 (IntKind.i64.wrap ((Int.tmod (IntKind.i64.wrap (x2vu.f1 + x2vx)) (x2vu.f0.length : Int)) + 1))), (115, i6 (Int.tmod (IntKind.i64.wrap (x2vu.f1 + x2vx)) (x2vu.f0.length : Int))), (114, pt g2v9)] (fun a3c2 h3c3 => ?_)
         have hS3c4 := hS3c1.b5
         refine WL.oq h3c3 rfl ?_
         refine owp_rn (.slice A2wb x2vu.f0.length c2wc) h3c3 rfl (run_load1 rfl rfl Try.underlying67 rfl (hS3c4.cell (i := 0) rfl)) (fun a3c5 h3c6 => ?_)
         refine WL.bl 1 8 h3c6 [(121, i6 (x2vu.f0.length : Int))] (fun a3c7 h3c8 => ?_)
         refine WL.oq h3c8 rfl ?_
         refine owp_rn (i6 (Int.tmod (IntKind.i64.wrap ((Int.tmod (IntKind.i64.wrap (x2vu.f1 + x2vx)) (x2vu.f0.length : Int)) + 1)) (x2vu.f0.length : Int))) h3c8 rfl (run_rem rfl rfl rfl (by assumption)) (fun a3c9 h3ca => ?_)
         clear h3bi a3bh h3bl a3bk h3bn a3bm h3bp a3bo h3br a3bq h3bt a3bs h3bv a3bu h3bx a3bw h3bz a3by h3c3 a3c2 h3c6 a3c5 h3c8 a3c7
         refine WL.bl 2 11 h3ca [(124, .pointer (some ⟨g2v9, 1, none⟩)), (123, pt g2v9)] (fun a3cb h3cc => ?_)
         refine WL.oq h3cc rfl ?_
         refine owp_st 1 [i6 (Int.tmod (IntKind.i64.wrap ((Int.tmod (IntKind.i64.wrap (x2vu.f1 + x2vx)) (x2vu.f0.length : Int)) + 1)) (x2vu.f0.length : Int))] h3cc rfl rfl rfl hS3c4 [.slice A2wb x2vu.f0.length c2wc, i6 (Int.tmod (IntKind.i64.wrap ((Int.tmod (IntKind.i64.wrap (x2vu.f1 + x2vx)) (x2vu.f0.length : Int)) + 1)) (x2vu.f0.length : Int)), pt g2wf] (fun a3cd W3cf h3ce hS3cg => ?_)
         refine WL.dn ?_
         refine wp_seq ?_
         refine WT.start 13 (fun w_ => (w_.cell? ⟨g30a, 0, none⟩ = some (.int .u32 y30h.f0)) ∧ (w_.cell? ⟨g30a, 3, none⟩ = some (.bool (decide ((r3at.length : Int) = 0)))) ∧ True) (by kernel_rfl) #[false, false, false, false, false, false, false, false, false, false, false, false, false] 13 rfl rfl ?_
         have hS3en := hS3cg.drew
         refine WT.tk 0 h3ce rfl rfl (pt g30a) (fun _ _ => by kernel_rfl) ⟨(hS3en.b1.cell (i := 0) rfl), (hS3en.b1.cell (i := 3) rfl), trivial⟩ (fun a3eo s3eq h3ep => ?_)
         refine WT.tk 1 h3ep rfl rfl (pt g30a) (fun _ _ => by kernel_rfl) s3eq (fun a3er s3et h3es => ?_)
         refine WT.tk 2 h3es rfl rfl (pt g30a) (fun _ _ => by kernel_rfl) s3et (fun a3eu s3ew h3ev => ?_)
         refine WT.tk 4 h3ev rfl rfl (.slice A3a9 r39y.length c3aa) (fun _ _ => by kernel_rfl) s3ew (fun a3ex s3ez h3ey => ?_)
         refine WT.tk 5 h3ey rfl rfl (pt g30a) (fun _ _ => by kernel_rfl) s3ez (fun a3f0 s3f2 h3f1 => ?_)
         refine WT.tk 6 h3f1 rfl rfl (pt g30a) (fun _ _ => by kernel_rfl) s3f2 (fun a3f3 s3f5 h3f4 => ?_)
         refine WT.tk 7 h3f4 rfl rfl (.pointer (some ⟨g30a, 3, none⟩)) (fun _ _ => by kernel_rfl) s3f5 (fun a3f6 s3f8 h3f7 => ?_)
         refine WT.tk 3 h3f7 rfl rfl (.int .u32 y30h.f0) (fun w_ hs_ => (run_load1 rfl rfl Try.underlying25 rfl hs_.1)) s3f8 (fun a3f9 s3fb h3fa => ?_)
         refine WT.tk 9 h3fa rfl rfl (.int .u32 y30h.f0) (fun _ _ => by kernel_rfl) s3fb (fun a3fc s3fe h3fd => ?_)
         refine WT.tk 10 h3fd rfl rfl (.slice A3a9 r39y.length c3aa) (fun _ _ => by kernel_rfl) s3fe (fun a3ff s3fh h3fg => ?_)
         clear h3ca a3c9 h3cc a3cb h3ce a3cd h3ep a3eo h3es a3er h3ev a3eu h3ey a3ex h3f1 a3f0 h3f4 a3f3 h3f7 a3f6 h3fa a3f9 h3fd a3fc
         refine WT.tk 8 h3fg rfl rfl (.bool (decide ((r3at.length : Int) = 0))) (fun w_ hs_ => (run_load1 rfl rfl Try.underlying4 rfl hs_.2.1)) s3fh (fun a3fi s3fk h3fj => ?_)
         refine WT.tk 11 h3fj rfl rfl (.bool (decide ((r3at.length : Int) = 0))) (fun _ _ => by kernel_rfl) s3fk (fun a3fl s3fn h3fm => ?_)
         refine WT.tk 12 h3fm rfl rfl (.bool true) (fun _ _ => by kernel_rfl) s3fn (fun a3fo s3fq h3fp => ?_)
         refine WT.dn ?_
         refine wp_ret ?_
         have hS3fr := hS3en.b6
         have hS3fs := hS3fr.b4
         have hS3ft := hS3fs.b3
         obtain ⟨M3fu, hp3fv, hS3fw⟩ := k72qfo (⟨y30h.f0, r3at, y30h.f2, decide ((r3at.length : Int) = 0), r38o⟩ : S72) hr3b1 hr38v hS3ft
         have hS3fx := hS3fw.b5
         have hS3fy := hS3fx.b1
         obtain ⟨M3fz, hr3g0, hm3g1⟩ := hh30e _ _ hp3fv
         have hS3g3 : St b w0 W3cf.drew R (M3fz :: (bx g2v9 69 [.slice A2wb x2vu.f0.length c2wc, i6 (Int.tmod (IntKind.i64.wrap ((Int.tmod (IntKind.i64.wrap (x2vu.f1 + x2vx)) (x2vu.f0.length : Int)) + 1)) (x2vu.f0.length : Int)), pt g2wf]) :: M31n :: M3a5 :: M39d :: Fs) := hm3g1 _ _ hS3fy
         have hl3g4 : (x2vu.f0.set (Int.tmod (IntKind.i64.wrap (x2vu.f1 + x2vx)) (x2vu.f0.length : Int)).toNat (⟨y30h.f0, r3at, y30h.f2, decide ((r3at.length : Int) = 0), r38o⟩ : S72)).length = x2vu.f0.length := by simp
         have hr3g5 : Row (kPtr k72 72) 70 b w0 R (.slice A2wb (x2vu.f0.set (Int.tmod (IntKind.i64.wrap (x2vu.f1 + x2vx)) (x2vu.f0.length : Int)).toNat (⟨y30h.f0, r3at, y30h.f2, decide ((r3at.length : Int) = 0), r38o⟩ : S72)).length c2wc) (x2vu.f0.set (Int.tmod (IntKind.i64.wrap (x2vu.f1 + x2vx)) (x2vu.f0.length : Int)).toNat (⟨y30h.f0, r3at, y30h.f2, decide ((r3at.length : Int) = 0), r38o⟩ : S72)) M3fz := by rw [hl3g4]; exact hr3g0
         have h3g6 : Hd a3fo 135 [(0, pt g2v9), (1, i6 p1), (4, .int .u32 y30h.f0), (5, .slice A3a9 r39y.length c3aa), (6, .bool (decide ((r3at.length : Int) = 0))), (7, .bool true), (8, i6 x2vx), (9, i6 (Int.tmod (IntKind.i64.wrap (x2vu.f1 + x2vx)) (x2vu.f0.length : Int))), (10, pt g30a), (11, i6 (mnI (mnI (mnI (y30h.f1.length : Int) (mxI p1 1)) (mxI r37i 0)) (mxI r37w 0))), (12, .slice A3a9 r39y.length c3aa), (19, i6 (p0.f0.length : Int)), (20, i6 x2vx), (21, .bool true), (22, i6 x2vx), (23, pt g2v9), (24, pt g2v9), (25, .pointer (some ⟨g2v9, 1, none⟩)), (26, i6 x2vu.f1), (27, i6 x2vx), (28, i6 (IntKind.i64.wrap (x2vu.f1 + x2vx))), (29, pt g2v9), (30, pt g2v9), (31, pt g2v9), (32, .slice A2wb (x2vu.f0.set (Int.tmod (IntKind.i64.wrap (x2vu.f1 + x2vx)) (x2vu.f0.length : Int)).toNat (⟨y30h.f0, r3at, y30h.f2, decide ((r3at.length : Int) = 0), r38o⟩ : S72)).length c2wc), (33, i6 (x2vu.f0.length : Int)), (34, i6 (Int.tmod (IntKind.i64.wrap (x2vu.f1 + x2vx)) (x2vu.f0.length : Int))), (35, pt g2v9), (36, pt g2v9), (37, pt g2v9), (38, .slice A2wb (x2vu.f0.set (Int.tmod (IntKind.i64.wrap (x2vu.f1 + x2vx)) (x2vu.f0.length : Int)).toNat (⟨y30h.f0, r3at, y30h.f2, decide ((r3at.length : Int) = 0), r38o⟩ : S72)).length c2wc), (39, i6 (Int.tmod (IntKind.i64.wrap (x2vu.f1 + x2vx)) (x2vu.f0.length : Int))), (40, .pointer (some (ad303.add ((Int.tmod (IntKind.i64.wrap (x2vu.f1 + x2vx)) (x2vu.f0.length : Int)).toNat * 1)))), (41, pt g30a), (42, pt g30a), (43, pt g2v9), (44, pt g2v9), (45, .pointer (some ⟨g2v9, 2, none⟩)), (46, pt g2wf), (47, i6 r30x), (48, .bool true), (49, .bool false), (50, pt g30a), (51, pt g30a), (52, .pointer (some ⟨g30a, 1, none⟩)), (53, .slice A31l y30h.f1.length c31m), (54, i6 (y30h.f1.length : Int)), (55, i6 p1), (56, i6 (mxI p1 1)), (57, pt g30a), (58, pt g30a), (59, .pointer (some ⟨g30a, 4, none⟩)), (60, pt g31p), (61, i6 r37i), (62, i6 (mxI r37i 0)), (63, pt g2v9), (64, pt g2v9), (65, .pointer (some ⟨g2v9, 2, none⟩)), (66, pt g2wf), (67, i6 r37w), (68, i6 (mxI r37w 0)), (69, i6 (mnI (mnI (mnI (y30h.f1.length : Int) (mxI p1 1)) (mxI r37i 0)) (mxI r37w 0))), (70, pt g30a), (71, pt g30a), (72, .pointer (some ⟨g30a, 4, none⟩)), (73, pt g31p), (74, i6 (mnI (mnI (mnI (y30h.f1.length : Int) (mxI p1 1)) (mxI r37i 0)) (mxI r37w 0))), (75, .bool r38n), (76, pt g2v9), (77, pt g2v9), (78, .pointer (some ⟨g2v9, 2, none⟩)), (79, pt g2wf), (80, i6 (mnI (mnI (mnI (y30h.f1.length : Int) (mxI p1 1)) (mxI r37i 0)) (mxI r37w 0))), (81, .bool r396), (82, pt g30a), (83, pt g30a), (84, .pointer (some ⟨g30a, 1, none⟩)), (85, .slice A31l y30h.f1.length c31m), (86, i6 (mnI (mnI (mnI (y30h.f1.length : Int) (mxI p1 1)) (mxI r37i 0)) (mxI r37w 0))), (87, .slice A39u (y30h.f1.take (mnI (mnI (mnI (y30h.f1.length : Int) (mxI p1 1)) (mxI r37i 0)) (mxI r37w 0)).toNat).length c39v), (88, .slice A3a9 r39y.length c3aa), (89, pt g30a), (90, pt g30a), (91, pt g30a), (92, .pointer (some ⟨g30a, 1, none⟩)), (93, .slice A31l y30h.f1.length c31m), (94, i6 (mnI (mnI (mnI (y30h.f1.length : Int) (mxI p1 1)) (mxI r37i 0)) (mxI r37w 0))), (95, .slice A3ap (y30h.f1.drop (mnI (mnI (mnI (y30h.f1.length : Int) (mxI p1 1)) (mxI r37i 0)) (mxI r37w 0)).toNat).length c3aq), (96, .slice A3b4 r3at.length c3b5), (97, pt g30a), (98, .pointer (some ⟨g30a, 1, none⟩)), (99, pt g30a), (100, pt g30a), (101, pt g30a), (102, .pointer (some ⟨g30a, 2, none⟩)), (103, .bool true), (104, .bool true), (105, pt g30a), (106, pt g30a), (107, .pointer (some ⟨g30a, 1, none⟩)), (108, .slice A3b4 r3at.length c3b5), (109, i6 (r3at.length : Int)), (110, .bool (decide ((r3at.length : Int) = 0))), (111, .bool (decide ((r3at.length : Int) = 0))), (112, pt g30a), (113, .pointer (some ⟨g30a, 3, none⟩)), (114, pt g2v9), (115, i6 (Int.tmod (IntKind.i64.wrap (x2vu.f1 + x2vx)) (x2vu.f0.length : Int))), (116, i6 (IntKind.i64.wrap ((Int.tmod (IntKind.i64.wrap (x2vu.f1 + x2vx)) (x2vu.f0.length : Int)) + 1))), (117, pt g2v9), (118, pt g2v9), (119, pt g2v9), (120, .slice A2wb (x2vu.f0.set (Int.tmod (IntKind.i64.wrap (x2vu.f1 + x2vx)) (x2vu.f0.length : Int)).toNat (⟨y30h.f0, r3at, y30h.f2, decide ((r3at.length : Int) = 0), r38o⟩ : S72)).length c2wc), (121, i6 (x2vu.f0.length : Int)), (122, i6 (Int.tmod (IntKind.i64.wrap ((Int.tmod (IntKind.i64.wrap (x2vu.f1 + x2vx)) (x2vu.f0.length : Int)) + 1)) (x2vu.f0.length : Int))), (123, pt g2v9), (124, .pointer (some ⟨g2v9, 1, none⟩)), (125, pt g30a), (126, pt g30a), (127, pt g30a), (128, .int .u32 y30h.f0), (129, .slice A3a9 r39y.length c3aa), (130, pt g30a), (131, pt g30a), (132, .pointer (some ⟨g30a, 3, none⟩)), (133, .bool (decide ((r3at.length : Int) = 0)))] := h3fp.keep ⟨rfl, rfl, rfl, rfl, rfl, rfl, rfl, rfl, rfl, rfl, rfl, rfl, rfl, rfl, rfl, rfl, rfl, rfl, rfl, rfl, rfl, rfl, rfl, rfl, (by rw [hl3g4] <;> rfl), rfl, rfl, rfl, rfl, rfl, (by rw [hl3g4] <;> rfl), rfl, rfl, rfl, rfl, rfl, rfl, rfl, rfl, rfl, rfl, rfl, rfl, rfl, rfl, rfl, rfl, rfl, rfl, rfl, rfl, rfl, rfl, rfl, rfl, rfl, rfl, rfl, rfl, rfl, rfl, rfl, rfl, rfl, rfl, rfl, rfl, rfl, rfl, rfl, rfl, rfl, rfl, rfl, rfl, rfl, rfl, rfl, rfl, rfl, rfl, rfl, rfl, rfl, rfl, rfl, rfl, rfl, rfl, rfl, rfl, rfl, rfl, rfl, rfl, rfl, rfl, rfl, rfl, rfl, rfl, rfl, rfl, rfl, rfl, rfl, rfl, rfl, rfl, rfl, rfl, rfl, (by rw [hl3g4] <;> rfl), rfl, rfl, rfl, rfl, rfl, rfl, rfl, rfl, rfl, rfl, rfl, rfl, rfl, trivial⟩
         clear h3fp
         have hS3g7 : St b w0 W3cf.drew R (M3fz :: (bx g2v9 69 [.slice A2wb (x2vu.f0.set (Int.tmod (IntKind.i64.wrap (x2vu.f1 + x2vx)) (x2vu.f0.length : Int)).toNat (⟨y30h.f0, r3at, y30h.f2, decide ((r3at.length : Int) = 0), r38o⟩ : S72)).length c2wc, i6 (Int.tmod (IntKind.i64.wrap ((Int.tmod (IntKind.i64.wrap (x2vu.f1 + x2vx)) (x2vu.f0.length : Int)) + 1)) (x2vu.f0.length : Int)), pt g2wf]) :: M31n :: M3a5 :: M39d :: Fs) := by simpa only [hl3g4] using hS3g3
         have hS3g8 := hS3g7.b4
         have hS3g9 := hS3g8.b1
         have hS3ga := hS3g9.b2
         obtain ⟨M3gb, hp3gc, hS3gd⟩ := k69qfo (⟨(x2vu.f0.set (Int.tmod (IntKind.i64.wrap (x2vu.f1 + x2vx)) (x2vu.f0.length : Int)).toNat (⟨y30h.f0, r3at, y30h.f2, decide ((r3at.length : Int) = 0), r38o⟩ : S72)), Int.tmod (IntKind.i64.wrap ((Int.tmod (IntKind.i64.wrap (x2vu.f1 + x2vx)) (x2vu.f0.length : Int)) + 1)) (x2vu.f0.length : Int), r397⟩ : S69) hr3g5 hr39e hS3ga
         have hS3ge := hS3gd.b1
         have hS3gf := hS3ge.drop_
         have hS3gg := hS3gf.b1
         obtain ⟨rfl, rfl, rfl, rfl, rfl⟩ := ret5 H
         repeat (first | with_reducible refine t1 ?_ | with_reducible refine t2 ?_ | with_reducible refine t3 ?_)
         refine bret (.tuple #[.int .u32 y30h.f0, .slice A3a9 r39y.length c3aa, .bool (decide ((r3at.length : Int) = 0)), .bool true]) h3g6 ?_
         exact ⟨.slice A3a9 r39y.length c3aa, M3a5, M3gb, rfl, hr3a6, hp3gc, hS3gg⟩
        ·rw [if_neg c3bj] at H
         have hb_ : y30h.f2 = false := (Bool.eq_false_iff.2 c3bj)
         try rw [hb_] at h3bi
         clear hb_
         refine WL.sk h3bi rfl rfl (fun a3gh h3gi => ?_)
         refine WL.sk h3gi rfl rfl (fun a3gj h3gk => ?_)
         refine WL.sk h3gk rfl rfl (fun a3gl h3gm => ?_)
         refine WL.sk h3gm rfl rfl (fun a3gn h3go => ?_)
         refine WL.sk h3go rfl rfl (fun a3gp h3gq => ?_)
         refine WL.sk h3gq rfl rfl (fun a3gr h3gs => ?_)
         refine WL.bl 3 15 h3gs [(113, .pointer (some ⟨g30a, 3, none⟩)), (112, pt g30a), (111, .bool false)] (fun a3gt h3gu => ?_)
         refine WL.oq h3gu rfl ?_
         refine owp_st 3 [.bool false] h3gu rfl rfl rfl hS3bc [.int .u32 y30h.f0, .slice A3b4 r3at.length c3b5, .bool y30h.f2, .bool false, pt g31p] (fun a3gv W3gx h3gw hS3gy => ?_)
         refine WL.dn ?_
         refine wp_seq ?_
         refine WL.start ?_
         refine WL.bl 6 6 h3gw [(119, pt g2v9), (118, pt g2v9), (117, pt g2v9), (116, i6 (IntKind.i64.wrap ((Int.tmod (IntKind.i64.wrap (x2vu.f1 + x2vx)) (x2vu.f0.length : Int)) + 1))), (115, i6 (Int.tmod (IntKind.i64.wrap (x2vu.f1 + x2vx)) (x2vu.f0.length : Int))), (114, pt g2v9)] (fun a3gz h3h0 => ?_)
         have hS3h1 := hS3gy.b5
         refine WL.oq h3h0 rfl ?_
         refine owp_rn (.slice A2wb x2vu.f0.length c2wc) h3h0 rfl (run_load1 rfl rfl Try.underlying67 rfl (hS3h1.cell (i := 0) rfl)) (fun a3h2 h3h3 => ?_)
         refine WL.bl 1 8 h3h3 [(121, i6 (x2vu.f0.length : Int))] (fun a3h4 h3h5 => ?_)
         refine WL.oq h3h5 rfl ?_
         refine owp_rn (i6 (Int.tmod (IntKind.i64.wrap ((Int.tmod (IntKind.i64.wrap (x2vu.f1 + x2vx)) (x2vu.f0.length : Int)) + 1)) (x2vu.f0.length : Int))) h3h5 rfl (run_rem rfl rfl rfl (by assumption)) (fun a3h6 h3h7 => ?_)
         clear h3bi a3bh h3gi a3gh h3gk a3gj h3gm a3gl h3go a3gn h3gq a3gp h3gs a3gr h3gu a3gt h3gw a3gv h3h0 a3gz h3h3 a3h2 h3h5 a3h4
         refine WL.bl 2 11 h3h7 [(124, .pointer (some ⟨g2v9, 1, none⟩)), (123, pt g2v9)] (fun a3h8 h3h9 => ?_)
         refine WL.oq h3h9 rfl ?_
         refine owp_st 1 [i6 (Int.tmod (IntKind.i64.wrap ((Int.tmod (IntKind.i64.wrap (x2vu.f1 + x2vx)) (x2vu.f0.length : Int)) + 1)) (x2vu.f0.length : Int))] h3h9 rfl rfl rfl hS3h1 [.slice A2wb x2vu.f0.length c2wc, i6 (Int.tmod (IntKind.i64.wrap ((Int.tmod (IntKind.i64.wrap (x2vu.f1 + x2vx)) (x2vu.f0.length : Int)) + 1)) (x2vu.f0.length : Int)), pt g2wf] (fun a3ha W3hc h3hb hS3hd => ?_)
         refine WL.dn ?_
         refine wp_seq ?_
         refine WT.start 13 (fun w_ => (w_.cell? ⟨g30a, 0, none⟩ = some (.int .u32 y30h.f0)) ∧ (w_.cell? ⟨g30a, 3, none⟩ = some (.bool false)) ∧ True) (by kernel_rfl) #[false, false, false, false, false, false, false, false, false, false, false, false, false] 13 rfl rfl ?_
         have hS3jk := hS3hd.drew
         refine WT.tk 0 h3hb rfl rfl (pt g30a) (fun _ _ => by kernel_rfl) ⟨(hS3jk.b1.cell (i := 0) rfl), (hS3jk.b1.cell (i := 3) rfl), trivial⟩ (fun a3jl s3jn h3jm => ?_)
         refine WT.tk 1 h3jm rfl rfl (pt g30a) (fun _ _ => by kernel_rfl) s3jn (fun a3jo s3jq h3jp => ?_)
         refine WT.tk 2 h3jp rfl rfl (pt g30a) (fun _ _ => by kernel_rfl) s3jq (fun a3jr s3jt h3js => ?_)
         refine WT.tk 4 h3js rfl rfl (.slice A3a9 r39y.length c3aa) (fun _ _ => by kernel_rfl) s3jt (fun a3ju s3jw h3jv => ?_)
         refine WT.tk 5 h3jv rfl rfl (pt g30a) (fun _ _ => by kernel_rfl) s3jw (fun a3jx s3jz h3jy => ?_)
         refine WT.tk 6 h3jy rfl rfl (pt g30a) (fun _ _ => by kernel_rfl) s3jz (fun a3k0 s3k2 h3k1 => ?_)
         refine WT.tk 7 h3k1 rfl rfl (.pointer (some ⟨g30a, 3, none⟩)) (fun _ _ => by kernel_rfl) s3k2 (fun a3k3 s3k5 h3k4 => ?_)
         refine WT.tk 3 h3k4 rfl rfl (.int .u32 y30h.f0) (fun w_ hs_ => (run_load1 rfl rfl Try.underlying25 rfl hs_.1)) s3k5 (fun a3k6 s3k8 h3k7 => ?_)
         refine WT.tk 9 h3k7 rfl rfl (.int .u32 y30h.f0) (fun _ _ => by kernel_rfl) s3k8 (fun a3k9 s3kb h3ka => ?_)
         refine WT.tk 10 h3ka rfl rfl (.slice A3a9 r39y.length c3aa) (fun _ _ => by kernel_rfl) s3kb (fun a3kc s3ke h3kd => ?_)
         clear h3h7 a3h6 h3h9 a3h8 h3hb a3ha h3jm a3jl h3jp a3jo h3js a3jr h3jv a3ju h3jy a3jx h3k1 a3k0 h3k4 a3k3 h3k7 a3k6 h3ka a3k9
         refine WT.tk 8 h3kd rfl rfl (.bool false) (fun w_ hs_ => (run_load1 rfl rfl Try.underlying4 rfl hs_.2.1)) s3ke (fun a3kf s3kh h3kg => ?_)
         refine WT.tk 11 h3kg rfl rfl (.bool false) (fun _ _ => by kernel_rfl) s3kh (fun a3ki s3kk h3kj => ?_)
         refine WT.tk 12 h3kj rfl rfl (.bool true) (fun _ _ => by kernel_rfl) s3kk (fun a3kl s3kn h3km => ?_)
         refine WT.dn ?_
         refine wp_ret ?_
         have hS3ko := hS3jk.b6
         have hS3kp := hS3ko.b4
         have hS3kq := hS3kp.b3
         obtain ⟨M3kr, hp3ks, hS3kt⟩ := k72qfo (⟨y30h.f0, r3at, y30h.f2, false, r38o⟩ : S72) hr3b1 hr38v hS3kq
         have hS3ku := hS3kt.b5
         have hS3kv := hS3ku.b1
         obtain ⟨M3kw, hr3kx, hm3ky⟩ := hh30e _ _ hp3ks
         have hS3l0 : St b w0 W3hc.drew R (M3kw :: (bx g2v9 69 [.slice A2wb x2vu.f0.length c2wc, i6 (Int.tmod (IntKind.i64.wrap ((Int.tmod (IntKind.i64.wrap (x2vu.f1 + x2vx)) (x2vu.f0.length : Int)) + 1)) (x2vu.f0.length : Int)), pt g2wf]) :: M31n :: M3a5 :: M39d :: Fs) := hm3ky _ _ hS3kv
         have hl3l1 : (x2vu.f0.set (Int.tmod (IntKind.i64.wrap (x2vu.f1 + x2vx)) (x2vu.f0.length : Int)).toNat (⟨y30h.f0, r3at, y30h.f2, false, r38o⟩ : S72)).length = x2vu.f0.length := by simp
         have hr3l2 : Row (kPtr k72 72) 70 b w0 R (.slice A2wb (x2vu.f0.set (Int.tmod (IntKind.i64.wrap (x2vu.f1 + x2vx)) (x2vu.f0.length : Int)).toNat (⟨y30h.f0, r3at, y30h.f2, false, r38o⟩ : S72)).length c2wc) (x2vu.f0.set (Int.tmod (IntKind.i64.wrap (x2vu.f1 + x2vx)) (x2vu.f0.length : Int)).toNat (⟨y30h.f0, r3at, y30h.f2, false, r38o⟩ : S72)) M3kw := by rw [hl3l1]; exact hr3kx
         have h3l3 : Hd a3kl 135 [(0, pt g2v9), (1, i6 p1), (4, .int .u32 y30h.f0), (5, .slice A3a9 r39y.length c3aa), (6, .bool false), (7, .bool true), (8, i6 x2vx), (9, i6 (Int.tmod (IntKind.i64.wrap (x2vu.f1 + x2vx)) (x2vu.f0.length : Int))), (10, pt g30a), (11, i6 (mnI (mnI (mnI (y30h.f1.length : Int) (mxI p1 1)) (mxI r37i 0)) (mxI r37w 0))), (12, .slice A3a9 r39y.length c3aa), (19, i6 (p0.f0.length : Int)), (20, i6 x2vx), (21, .bool true), (22, i6 x2vx), (23, pt g2v9), (24, pt g2v9), (25, .pointer (some ⟨g2v9, 1, none⟩)), (26, i6 x2vu.f1), (27, i6 x2vx), (28, i6 (IntKind.i64.wrap (x2vu.f1 + x2vx))), (29, pt g2v9), (30, pt g2v9), (31, pt g2v9), (32, .slice A2wb (x2vu.f0.set (Int.tmod (IntKind.i64.wrap (x2vu.f1 + x2vx)) (x2vu.f0.length : Int)).toNat (⟨y30h.f0, r3at, y30h.f2, false, r38o⟩ : S72)).length c2wc), (33, i6 (x2vu.f0.length : Int)), (34, i6 (Int.tmod (IntKind.i64.wrap (x2vu.f1 + x2vx)) (x2vu.f0.length : Int))), (35, pt g2v9), (36, pt g2v9), (37, pt g2v9), (38, .slice A2wb (x2vu.f0.set (Int.tmod (IntKind.i64.wrap (x2vu.f1 + x2vx)) (x2vu.f0.length : Int)).toNat (⟨y30h.f0, r3at, y30h.f2, false, r38o⟩ : S72)).length c2wc), (39, i6 (Int.tmod (IntKind.i64.wrap (x2vu.f1 + x2vx)) (x2vu.f0.length : Int))), (40, .pointer (some (ad303.add ((Int.tmod (IntKind.i64.wrap (x2vu.f1 + x2vx)) (x2vu.f0.length : Int)).toNat * 1)))), (41, pt g30a), (42, pt g30a), (43, pt g2v9), (44, pt g2v9), (45, .pointer (some ⟨g2v9, 2, none⟩)), (46, pt g2wf), (47, i6 r30x), (48, .bool true), (49, .bool false), (50, pt g30a), (51, pt g30a), (52, .pointer (some ⟨g30a, 1, none⟩)), (53, .slice A31l y30h.f1.length c31m), (54, i6 (y30h.f1.length : Int)), (55, i6 p1), (56, i6 (mxI p1 1)), (57, pt g30a), (58, pt g30a), (59, .pointer (some ⟨g30a, 4, none⟩)), (60, pt g31p), (61, i6 r37i), (62, i6 (mxI r37i 0)), (63, pt g2v9), (64, pt g2v9), (65, .pointer (some ⟨g2v9, 2, none⟩)), (66, pt g2wf), (67, i6 r37w), (68, i6 (mxI r37w 0)), (69, i6 (mnI (mnI (mnI (y30h.f1.length : Int) (mxI p1 1)) (mxI r37i 0)) (mxI r37w 0))), (70, pt g30a), (71, pt g30a), (72, .pointer (some ⟨g30a, 4, none⟩)), (73, pt g31p), (74, i6 (mnI (mnI (mnI (y30h.f1.length : Int) (mxI p1 1)) (mxI r37i 0)) (mxI r37w 0))), (75, .bool r38n), (76, pt g2v9), (77, pt g2v9), (78, .pointer (some ⟨g2v9, 2, none⟩)), (79, pt g2wf), (80, i6 (mnI (mnI (mnI (y30h.f1.length : Int) (mxI p1 1)) (mxI r37i 0)) (mxI r37w 0))), (81, .bool r396), (82, pt g30a), (83, pt g30a), (84, .pointer (some ⟨g30a, 1, none⟩)), (85, .slice A31l y30h.f1.length c31m), (86, i6 (mnI (mnI (mnI (y30h.f1.length : Int) (mxI p1 1)) (mxI r37i 0)) (mxI r37w 0))), (87, .slice A39u (y30h.f1.take (mnI (mnI (mnI (y30h.f1.length : Int) (mxI p1 1)) (mxI r37i 0)) (mxI r37w 0)).toNat).length c39v), (88, .slice A3a9 r39y.length c3aa), (89, pt g30a), (90, pt g30a), (91, pt g30a), (92, .pointer (some ⟨g30a, 1, none⟩)), (93, .slice A31l y30h.f1.length c31m), (94, i6 (mnI (mnI (mnI (y30h.f1.length : Int) (mxI p1 1)) (mxI r37i 0)) (mxI r37w 0))), (95, .slice A3ap (y30h.f1.drop (mnI (mnI (mnI (y30h.f1.length : Int) (mxI p1 1)) (mxI r37i 0)) (mxI r37w 0)).toNat).length c3aq), (96, .slice A3b4 r3at.length c3b5), (97, pt g30a), (98, .pointer (some ⟨g30a, 1, none⟩)), (99, pt g30a), (100, pt g30a), (101, pt g30a), (102, .pointer (some ⟨g30a, 2, none⟩)), (103, .bool false), (104, .bool false), (111, .bool false), (112, pt g30a), (113, .pointer (some ⟨g30a, 3, none⟩)), (114, pt g2v9), (115, i6 (Int.tmod (IntKind.i64.wrap (x2vu.f1 + x2vx)) (x2vu.f0.length : Int))), (116, i6 (IntKind.i64.wrap ((Int.tmod (IntKind.i64.wrap (x2vu.f1 + x2vx)) (x2vu.f0.length : Int)) + 1))), (117, pt g2v9), (118, pt g2v9), (119, pt g2v9), (120, .slice A2wb (x2vu.f0.set (Int.tmod (IntKind.i64.wrap (x2vu.f1 + x2vx)) (x2vu.f0.length : Int)).toNat (⟨y30h.f0, r3at, y30h.f2, false, r38o⟩ : S72)).length c2wc), (121, i6 (x2vu.f0.length : Int)), (122, i6 (Int.tmod (IntKind.i64.wrap ((Int.tmod (IntKind.i64.wrap (x2vu.f1 + x2vx)) (x2vu.f0.length : Int)) + 1)) (x2vu.f0.length : Int))), (123, pt g2v9), (124, .pointer (some ⟨g2v9, 1, none⟩)), (125, pt g30a), (126, pt g30a), (127, pt g30a), (128, .int .u32 y30h.f0), (129, .slice A3a9 r39y.length c3aa), (130, pt g30a), (131, pt g30a), (132, .pointer (some ⟨g30a, 3, none⟩)), (133, .bool false)] := h3km.keep ⟨rfl, rfl, rfl, rfl, rfl, rfl, rfl, rfl, rfl, rfl, rfl, rfl, rfl, rfl, rfl, rfl, rfl, rfl, rfl, rfl, rfl, rfl, rfl, rfl, (by rw [hl3l1] <;> rfl), rfl, rfl, rfl, rfl, rfl, (by rw [hl3l1] <;> rfl), rfl, rfl, rfl, rfl, rfl, rfl, rfl, rfl, rfl, rfl, rfl, rfl, rfl, rfl, rfl, rfl, rfl, rfl, rfl, rfl, rfl, rfl, rfl, rfl, rfl, rfl, rfl, rfl, rfl, rfl, rfl, rfl, rfl, rfl, rfl, rfl, rfl, rfl, rfl, rfl, rfl, rfl, rfl, rfl, rfl, rfl, rfl, rfl, rfl, rfl, rfl, rfl, rfl, rfl, rfl, rfl, rfl, rfl, rfl, rfl, rfl, rfl, rfl, rfl, rfl, rfl, rfl, rfl, rfl, rfl, rfl, rfl, rfl, rfl, rfl, (by rw [hl3l1] <;> rfl), rfl, rfl, rfl, rfl, rfl, rfl, rfl, rfl, rfl, rfl, rfl, rfl, rfl, trivial⟩
         clear h3km
         have hS3l4 : St b w0 W3hc.drew R (M3kw :: (bx g2v9 69 [.slice A2wb (x2vu.f0.set (Int.tmod (IntKind.i64.wrap (x2vu.f1 + x2vx)) (x2vu.f0.length : Int)).toNat (⟨y30h.f0, r3at, y30h.f2, false, r38o⟩ : S72)).length c2wc, i6 (Int.tmod (IntKind.i64.wrap ((Int.tmod (IntKind.i64.wrap (x2vu.f1 + x2vx)) (x2vu.f0.length : Int)) + 1)) (x2vu.f0.length : Int)), pt g2wf]) :: M31n :: M3a5 :: M39d :: Fs) := by simpa only [hl3l1] using hS3l0
         have hS3l5 := hS3l4.b4
         have hS3l6 := hS3l5.b1
         have hS3l7 := hS3l6.b2
         obtain ⟨M3l8, hp3l9, hS3la⟩ := k69qfo (⟨(x2vu.f0.set (Int.tmod (IntKind.i64.wrap (x2vu.f1 + x2vx)) (x2vu.f0.length : Int)).toNat (⟨y30h.f0, r3at, y30h.f2, false, r38o⟩ : S72)), Int.tmod (IntKind.i64.wrap ((Int.tmod (IntKind.i64.wrap (x2vu.f1 + x2vx)) (x2vu.f0.length : Int)) + 1)) (x2vu.f0.length : Int), r397⟩ : S69) hr3l2 hr39e hS3l7
         have hS3lb := hS3la.b1
         have hS3lc := hS3lb.drop_
         have hS3ld := hS3lc.b1
         obtain ⟨rfl, rfl, rfl, rfl, rfl⟩ := ret5 H
         repeat (first | with_reducible refine t1 ?_ | with_reducible refine t2 ?_ | with_reducible refine t3 ?_)
         refine bret (.tuple #[.int .u32 y30h.f0, .slice A3a9 r39y.length c3aa, .bool false, .bool true]) h3l3 ?_
         exact ⟨.slice A3a9 r39y.length c3aa, M3a5, M3l8, rfl, hr3a6, hp3l9, hS3ld⟩
       ·rw [if_neg c39o] at H
        cases H
      ·rw [if_neg c39n] at H
       cases H
     ·rw [if_neg c31j] at H
      have hb_ : r318 = false := (Bool.eq_false_iff.2 c31j)
      try rw [hb_] at h31i
      clear hb_
      refine wp_then h31i rfl ?_
      refine wp_exit ?_
      refine WL.start ?_
      refine WL.bl 2 2 h31i [(20, i6 (IntKind.i64.wrap (x2vx + 1))), (134, i6 (IntKind.i64.wrap (x2vx + 1)))] (fun a3le h3lf => ?_)
      refine WL.dn ?_
      have hS3lg := hS31g.b3
      have hS3lh := hS3lg.b1
      obtain ⟨M3li, hr3lj, hm3lk⟩ := hh30e.same hy30i hi305 hi306 hr31f
      have hS3lm : St b w0 W319 R (M3li :: M313 :: (bx g2v9 69 [.slice A2wb x2vu.f0.length c2wc, i6 x2vu.f1, pt g2wf]) :: Fs) := hm3lk _ _ hS3lh
      have hS3ln := hS3lm.b1
      have hS3lo := hS3ln.b1
      have hS3lp := hS3lo.b2
      obtain ⟨M3lq, hp3lr, hS3ls⟩ := k69qfo x2vu hr3lj hr314 hS3lp
      exact ⟨kk2w4, by omega, x2vu, M3lq, IntKind.i64.wrap (x2vx + 1), h3lf.keep ⟨rfl, rfl, rfl, rfl, trivial⟩, ⟨H⟩, ⟨by omega⟩, ⟨hS3ls⟩, ⟨hp3lr⟩⟩
    ·rw [if_neg c302] at H
     cases H
   ·rw [if_neg c301] at H
    cases H
  ·rw [if_neg c2zo] at H
   cases H
 ·rw [if_neg c2w7] at H
  have hb_ : (decide (x2vx < (p0.f0.length : Int))) = false := decide_eq_false c2w7
  try rw [hb_] at h2w6
  clear hb_
  refine wp_else h2w6 rfl ?_
  refine wp_exit ?_
  refine wp_seq ?_
  refine WL.start ?_
  refine WL.bl 4 4 h2w6 [(7, .bool false), (6, .bool false), (5, .slice none 0 0), (4, .int .u32 0)] (fun a3lt h3lu => ?_)
  refine WL.dn ?_
  refine wp_ret ?_
  obtain ⟨rfl, rfl, rfl, rfl, rfl⟩ := ret5 H
  repeat (first | with_reducible refine t1 ?_ | with_reducible refine t2 ?_ | with_reducible refine t3 ?_)
  refine bret (.tuple #[.int .u32 0, .slice none 0 0, .bool false, .bool false]) h3lu ?_
  exact ⟨.slice none 0 0, [], M2vv, rfl, Row.nil, hr2vw, hS2vs.nil_⟩

/-! ### (*louver/turns.Ring).Next -/
def turns_Ring_Next_nil.f (p1 : Int) : Option (Int × (List Int) × Bool × Bool) := some (0, ([] : List Int), false, false)
set_option maxHeartbeats 20000000 in
set_option maxRecDepth 100000 in
theorem turns_Ring_Next_nil.calls {b : Nat} {w0 W : World} {R : Frag} {Fs : List Frag} {p1 : Int}  {r0q : Int} {r1q : (List Int)} {r2q : Bool} {r3q : Bool}  (H : turns_Ring_Next_nil.f p1 = some (r0q, r1q, r2q, r3q)) (hS : St b w0 W R (Fs)) :
  Calls Try.prog 11 ([.pointer none, i6 p1] : List Value).toArray W (fun e W' => ∃ (u1q : Value) (N1q : Frag), e = .returned (.tuple #[.int .u32 r0q, u1q, .bool r2q, .bool r3q]) ∧ Row (kInt .u8) 5 b w0 R u1q r1q N1q ∧ St b w0 W' R (N1q :: Fs)) := by
 unfold turns_Ring_Next_nil.f at H
 refine calls_enter Try.func11 rfl 135 rfl (by kernel_rfl) (fun a h => ?_)
 refine wp_seq ?_
 refine WL.start ?_
 refine WL.bl 4 4 h [(7, .bool false), (6, .bool false), (5, .slice none 0 0), (4, .int .u32 0)] (fun a106 h107 => ?_)
 refine WL.dn ?_
 refine wp_seq ?_
 refine wp_seq ?_
 refine WL.start ?_
 refine WL.bl 2 2 h107 [(14, .bool true), (13, .pointer none)] (fun a108 h109 => ?_)
 refine WL.dn ?_
 refine wp_then h109 rfl ?_
 refine wp_seq ?_
 refine WL.start ?_
 refine WL.bl 4 4 h109 [(7, .bool false), (6, .bool false), (5, .slice none 0 0), (4, .int .u32 0)] (fun a10a h10b => ?_)
 refine WL.dn ?_
 refine wp_ret ?_
 obtain ⟨rfl, rfl, rfl, rfl⟩ := ret4 H
 repeat (first | with_reducible refine t1 ?_ | with_reducible refine t2 ?_ | with_reducible refine t3 ?_)
 refine bret (.tuple #[.int .u32 0, .slice none 0 0, .bool false, .bool false]) h10b ?_
 exact ⟨.slice none 0 0, [], rfl, Row.nil, hS.nil_⟩

/-! ### (*louver/turns.Ring).All -/
def turns_Ring_All.l0 : Nat → Int → Int → S69 → Option (Int)
 | 0, _, _, _ => none
 | k + 1, x16i, x16l, p0 => if x16l < (p0.f0.length : Int) then (if 0 ≤ x16l then (lt1 (gt z72 p0.f0 x16l : S72) fun y179 => (turns_Ring_All.l0 k (IntKind.i64.wrap (x16i + (y179.f1.length : Int))) (IntKind.i64.wrap (x16l + 1)) p0)) else (none)) else (some x16i)
def turns_Ring_All.f (k : Nat) (p0 : S69) : Option (Int) := turns_Ring_All.l0 k 0 0 p0
set_option maxHeartbeats 20000000 in
set_option maxRecDepth 100000 in
theorem turns_Ring_All.calls (k : Nat) {b : Nat} {w0 W : World} {R : Frag} {Fs : List Frag} {p0 : S69}  {v0 : Value} {M0 : Frag} {r0q : Int} (hp0 : Ptr k69 69 b w0 R v0 p0 M0) (H : turns_Ring_All.f k p0 = some r0q) (hS : St b w0 W R (M0 :: Fs)) :
  Calls Try.prog 15 ([v0] : List Value).toArray W (fun e W' => ∃ (O0q : Frag), e = .returned (i6 r0q) ∧ Ptr k69 69 b w0 R v0 p0 O0q ∧ St b w0 W' R (O0q :: Fs)) := by
 unfold turns_Ring_All.f at H
 refine calls_enter Try.func15 rfl 27 rfl (by kernel_rfl) (fun a h => ?_)
 refine wp_seq ?_
 refine WL.start ?_
 refine WL.bl 1 1 h [(2, i6 0)] (fun a15q h15r => ?_)
 refine WL.dn ?_
 refine wp_seq ?_
 refine WL.start ?_
 refine WL.bl 1 1 h15r [(3, i6 0)] (fun a15s h15t => ?_)
 refine WL.dn ?_
 refine wp_seq ?_
 refine wp_seq ?_
 refine WL.start ?_
 refine WL.bl 1 1 h15t [(6, v0)] (fun a15u h15v => ?_)
 obtain ⟨g15x, A15y, c15z, g162, M160, M163, rfl, hr161, hr164, hS15w⟩ := k69qop hp0 hS
 refine WL.bl 1 2 h15v [(7, .bool false)] (fun a165 h166 => ?_)
 refine WL.dn ?_
 refine wp_else h166 rfl ?_
 refine wp_skip ?_
 refine wp_seq ?_
 refine wp_seq ?_
 refine WL.start ?_
 refine WL.bl 3 3 h166 [(11, pt g15x), (10, pt g15x), (9, pt g15x)] (fun a167 h168 => ?_)
 refine WL.oq h168 rfl ?_
 refine owp_rn (.slice A15y p0.f0.length c15z) h168 rfl (run_load1 rfl rfl Try.underlying67 rfl (hS15w.cell (i := 0) rfl)) (fun a169 h16a => ?_)
 refine WL.bl 2 6 h16a [(14, i6 0), (13, i6 (p0.f0.length : Int))] (fun a16b h16c => ?_)
 refine WL.dn ?_
 refine wp_block ?_
 have hS16o := hS15w.b2
 have hS16p := hS16o.b1
 have hS16q := hS16p.b2
 clear h15r a15q h15t a15s h15v a15u h166 a165 h168 a167 h16a a169
 refine wp_loop_ghost (fun kq_ a_ W_ => ∃ (x16i : Int), ∃ (M16j : Frag), ∃ (x16l : Int), ∃ (M16m : Frag), Hd a_ 27 [(3, i6 x16i), (12, .slice A15y p0.f0.length c15z), (13, i6 (p0.f0.length : Int)), (14, i6 x16l)] ∧ Asd (turns_Ring_All.l0 kq_ x16i x16l p0 = some r0q) ∧ Asd (kq_ ≤ k) ∧ Asd (St b w0 W_ R (M16j :: (bx g15x 69 [.slice A15y p0.f0.length c15z, i6 p0.f1, pt g162]) :: M16m :: Fs)) ∧ Asd (Row (kPtr k72 72) 70 b w0 R (.slice A15y p0.f0.length c15z) p0.f0 M16j) ∧ Asd (Ptr k94 94 b w0 R (pt g162) p0.f2 M16m)) k ⟨0, M160, 0, M163, h16c.keep ⟨rfl, rfl, rfl, rfl, trivial⟩, ⟨H⟩, ⟨Nat.le_refl _⟩, ⟨hS16q⟩, ⟨hr161⟩, ⟨hr164⟩⟩ ?_
 clear H hS16q
 rintro kk16h a16e W16f ⟨x16i, M16j, x16l, M16m, h16d, ⟨H⟩, ⟨hkkk16h⟩, ⟨hS16g⟩, ⟨hr16k⟩, ⟨hr16n⟩⟩
 obtain _ | kk16r := kk16h
 ·exact absurd H (by simp [turns_Ring_All.l0])
 simp only [turns_Ring_All.l0] at H
 refine wp_seq ?_
 refine WL.start ?_
 refine WL.bl 1 1 h16d [(15, .bool (decide (x16l < (p0.f0.length : Int))))] (fun a16s h16t => ?_)
 refine WL.dn ?_
 refine wp_seq ?_
 clear h16d a16e
 by_cases c16u : x16l < (p0.f0.length : Int)
 ·rw [if_pos c16u] at H
  have hb_ : (decide (x16l < (p0.f0.length : Int))) = true := decide_eq_true c16u
  try rw [hb_] at h16t
  clear hb_
  refine wp_then h16t rfl ?_
  refine wp_skip ?_
  refine wp_seq ?_
  refine wp_block ?_
  refine wp_seq ?_
  refine WL.start ?_
  by_cases c16v : 0 ≤ x16l
  ·rw [if_pos c16v] at H
   have hi16y : 0 ≤ x16l := by first | assumption | omega
   have hi16z : x16l < (p0.f0.length : Int) := by first | assumption | omega
   obtain ⟨ad16w, _, ha16x, -, -⟩ := Rds.elemAny hr16k.rds hi16y (gt_get (z := z72) hi16y hi16z)
   refine WL.oq h16t rfl ?_
   refine owp_rn (.pointer (some (ad16w.add (x16l.toNat * 1)))) h16t rfl (run_idx (ad := ad16w) (sz := 1) rfl (by rw [← ha16x]; rfl) rfl Try.underlying67 (by kernel_rfl) hi16y hi16z) (fun a170 h171 => ?_)
   obtain ⟨g172, M173, M174, hp175, hh176, hm177, hc178⟩ := Row.openp (dk := k72) z72 hr16k ha16x hi16y hi16z
   obtain ⟨y179, hy17a, H⟩ := lete H
   have hr17b : Ptr k72 72 b w0 R (pt g172) y179 M174 := by rw [hy17a]; exact hp175
   have hS17d : St b w0 W16f R (M174 :: M173 :: (bx g15x 69 [.slice A15y p0.f0.length c15z, i6 p0.f1, pt g162]) :: M16m :: Fs) := hm177 _ _ hS16g
   clear hm177 hp175 hr16k
   refine WL.oq h171 rfl ?_
   refine owp_rn (pt g172) h171 rfl (run_load1 rfl rfl Try.underlying70 rfl (hc178 _ _ hS17d.b1)) (fun a17e h17f => ?_)
   refine WL.bl 1 3 h17f [(5, pt g172)] (fun a17g h17h => ?_)
   refine WL.dn ?_
   refine WL.start ?_
   refine WL.bl 2 2 h17h [(19, pt g172), (18, i6 x16i)] (fun a17i h17j => ?_)
   obtain ⟨A17l, c17m, g17p, M17n, M17q, hr17o, hr17r, hS17k⟩ := k72qoq hr17b hS17d
   refine WL.bl 2 4 h17j [(21, .pointer (some ⟨g172, 1, none⟩)), (20, pt g172)] (fun a17s h17t => ?_)
   refine WL.oq h17t rfl ?_
   refine owp_rn (.slice A17l y179.f1.length c17m) h17t rfl (run_load1 rfl rfl Try.underlying27 rfl (hS17k.cell (i := 1) rfl)) (fun a17u h17v => ?_)
   refine WL.bl 3 8 h17v [(3, i6 (IntKind.i64.wrap (x16i + (y179.f1.length : Int)))), (24, i6 (IntKind.i64.wrap (x16i + (y179.f1.length : Int)))), (23, i6 (y179.f1.length : Int))] (fun a17w h17x => ?_)
   refine WL.dn ?_
   refine WL.start ?_
   refine WL.bl 2 2 h17x [(14, i6 (IntKind.i64.wrap (x16l + 1))), (25, i6 (IntKind.i64.wrap (x16l + 1)))] (fun a17y h17z => ?_)
   refine WL.dn ?_
   have hS180 := hS17k.b2
   have hS181 := hS180.b2
   have hS182 := hS181.b2
   obtain ⟨M183, hp184, hS185⟩ := k72qfo y179 hr17o hr17r hS182
   have hS186 := hS185.b1
   have hS187 := hS186.b1
   obtain ⟨M188, hr189, hm18a⟩ := hh176.same hy17a hi16y hi16z hp184
   have hS18c : St b w0 W16f R (M188 :: (bx g15x 69 [.slice A15y p0.f0.length c15z, i6 p0.f1, pt g162]) :: M16m :: Fs) := hm18a _ _ hS187
   exact ⟨kk16r, by omega, IntKind.i64.wrap (x16i + (y179.f1.length : Int)), M188, IntKind.i64.wrap (x16l + 1), M16m, h17z.keep ⟨rfl, rfl, rfl, rfl, trivial⟩, ⟨H⟩, ⟨by omega⟩, ⟨hS18c⟩, ⟨hr189⟩, ⟨hr16n⟩⟩
  ·rw [if_neg c16v] at H
   cases H
 ·rw [if_neg c16u] at H
  have hb_ : (decide (x16l < (p0.f0.length : Int))) = false := decide_eq_false c16u
  try rw [hb_] at h16t
  clear hb_
  refine wp_else h16t rfl ?_
  refine wp_exit ?_
  refine wp_seq ?_
  refine WL.start ?_
  refine WL.bl 2 2 h16t [(2, i6 x16i), (26, i6 x16i)] (fun a18d h18e => ?_)
  refine WL.dn ?_
  refine wp_ret ?_
  have hS18f := hS16g.b2
  have hS18g := hS18f.b1
  have hS18h := hS18g.b2
  obtain ⟨M18i, hp18j, hS18k⟩ := k69qfo p0 hr16k hr16n hS18h
  obtain rfl := Option.some.inj H
  repeat (first | with_reducible refine t1 ?_ | with_reducible refine t2 ?_ | with_reducible refine t3 ?_)
  refine bret (i6 x16i) h18e ?_
  exact ⟨M18i, rfl, hp18j, hS18k⟩

/-! ### (*louver/turns.Ring).All -/
def turns_Ring_All_nil.f  : Option (Int) := some 0
set_option maxHeartbeats 20000000 in
set_option maxRecDepth 100000 in
theorem turns_Ring_All_nil.calls {b : Nat} {w0 W : World} {R : Frag} {Fs : List Frag}   {r0q : Int}  (H : turns_Ring_All_nil.f = some r0q) (hS : St b w0 W R (Fs)) :
  Calls Try.prog 15 ([.pointer none] : List Value).toArray W (fun e W' => e = .returned (i6 r0q) ∧ St b w0 W' R (Fs)) := by
 unfold turns_Ring_All_nil.f at H
 refine calls_enter Try.func15 rfl 27 rfl (by kernel_rfl) (fun a h => ?_)
 refine wp_seq ?_
 refine WL.start ?_
 refine WL.bl 1 1 h [(2, i6 0)] (fun a108 h109 => ?_)
 refine WL.dn ?_
 refine wp_seq ?_
 refine WL.start ?_
 refine WL.bl 1 1 h109 [(3, i6 0)] (fun a10a h10b => ?_)
 refine WL.dn ?_
 refine wp_seq ?_
 refine wp_seq ?_
 refine WL.start ?_
 refine WL.bl 2 2 h10b [(7, .bool true), (6, .pointer none)] (fun a10c h10d => ?_)
 refine WL.dn ?_
 refine wp_then h10d rfl ?_
 refine wp_seq ?_
 refine WL.start ?_
 refine WL.bl 2 2 h10d [(2, i6 0), (8, i6 0)] (fun a10e h10f => ?_)
 refine WL.dn ?_
 refine wp_ret ?_
 obtain rfl := Option.some.inj H
 repeat (first | with_reducible refine t1 ?_ | with_reducible refine t2 ?_ | with_reducible refine t3 ?_)
 refine bret (i6 0) h10f ?_
 exact ⟨rfl, hS⟩

/-! ### louver/louverlaw13.fixed -/
mutual
def louverlaw13qfixed.l0 : Nat → S69 → Int → Option (Bool)
 | 0, _, _ => none
 | k + 1, x1l8, x1lb => if x1lb < 2 then (if 0 ≤ x1lb then (if x1lb < (([1, 3] : List Int).length : Int) then (bnd2 (turns_Ring_Open.f k x1l8 (gt (0 : Int) ([1, 3] : List Int) x1lb) 100) fun r1m3 r1m4 => (if r1m3 = true then (lt1 (List.replicate (10 : Int).toNat (0 : Int) : List Int) fun y1mr => (bnd2 (turns_Ring_Put.f k r1m4 (gt (0 : Int) ([1, 3] : List Int) x1lb) y1mr false) fun r1mz r1n0 => (if r1mz = true then (louverlaw13qfixed.l0 k r1n0 (IntKind.i64.wrap (x1lb + 1))) else (some false)))) else (some false))) else (none)) else (none)) else (louverlaw13qfixed.l1 k x1l8 0)
def louverlaw13qfixed.l1 : Nat → S69 → Int → Option (Bool)
 | 0, _, _ => none
 | k + 1, x1oa, x1od => if x1od < 6 then (bnd5 (turns_Ring_Next.f k x1oa 4) fun r1op r1oq r1or r1os r1ot => (if r1os = true then (if r1or = true then (some false) else (if r1op = (IntKind.u32.wrap (IntKind.i64.wrap (1 + (IntKind.i64.wrap (2 * (Int.tmod x1od 2)))))) then (if 0 ≤ x1od then (if x1od < (([4, 4, 4, 4, 2, 2] : List Int).length : Int) then (if (r1oq.length : Int) = (gt (0 : Int) ([4, 4, 4, 4, 2, 2] : List Int) x1od) then (louverlaw13qfixed.l1 k r1ot (IntKind.i64.wrap (x1od + 1))) else (some false)) else (none)) else (none)) else (some false))) else (some false))) else (bnd1 (turns_Ring_All.f k x1oa) fun r1tu => (some (decide (r1tu = 0))))
end
def louverlaw13qfixed.f (k : Nat)  : Option (Bool) := bnd1 (turns_New.f 100) fun r1ki => (louverlaw13qfixed.l0 k r1ki 0)
set_option maxHeartbeats 20000000 in
set_option maxRecDepth 100000 in
theorem louverlaw13qfixed.calls (k : Nat) {b : Nat} {w0 W : World} {R : Frag} {Fs : List Frag}   {r0q : Bool}  (H : louverlaw13qfixed.f k = some r0q) (hS : St b w0 W R (Fs)) :
  Calls Try.prog 12 ([] : List Value).toArray W (fun e W' => e = .returned (.bool r0q) ∧ St b w0 W' R (Fs)) := by
 unfold louverlaw13qfixed.f at H
 refine calls_enter Try.func12 rfl 65 rfl (by kernel_rfl) (fun a h => ?_)
 refine wp_seq ?_
 refine WL.start ?_
 refine WL.bl 1 1 h [(0, .bool false)] (fun a1kf h1kg => ?_)
 refine WL.dn ?_
 refine wp_seq ?_
 refine WL.start ?_
 obtain ⟨r1ki, A1kh, H⟩ := bind1 H
 refine WL.oq h1kg rfl ?_
 refine owp_call [i6 100] h1kg rfl (by kernel_rfl) rfl Try.func8 (by kernel_rfl) rfl (by kernel_rfl) (turns_New.calls  A1kh hS) (fun e1kk W1kj hp1kl => ?_)
 obtain ⟨v1ko, M1kp, rfl, hr1kq, hS1kr⟩ := hp1kl
 refine ⟨_, rfl, fun a1km h1kn => ?_⟩
 obtain ⟨g1ks, rfl⟩ := hr1kq.ptr_form
 refine WL.bl 1 2 h1kn [(1, pt g1ks)] (fun a1kt h1ku => ?_)
 refine WL.dn ?_
 refine wp_seq ?_
 refine wp_seq ?_
 refine WL.start ?_
 refine WL.oq h1ku rfl ?_
 refine owp_nw (fun g_ => .slice (some ⟨g_, 0, none⟩) 2 2) (.cells ([.int .u32 1, .int .u32 3] : List Value).toArray 25 (0, 0)) h1ku rfl hS1kr (fun a1kv W1kx g1ky h1kw hS1kz => ?_)
 have hr1l0 : Row (kInt .u32) 25 b w0 R (.slice (some ⟨g1ky, 0, none⟩) 2 2) ([1, 3] : List Int) (bx g1ky 25 [.int .u32 1, .int .u32 3]) := Row.lit (xs := ([1, 3] : List Int)) (Mi := []) ⟨_, _, [], _, rfl, rfl, ⟨rfl, rfl⟩, ⟨_, _, [], _, rfl, rfl, ⟨rfl, rfl⟩, ⟨rfl, rfl⟩⟩⟩ (by simp [maxLen])
 refine WL.bl 2 3 h1kw [(12, i6 0), (11, i6 2)] (fun a1l1 h1l2 => ?_)
 refine WL.dn ?_
 refine wp_block ?_
 have hS1lc := hS1kz.b1
 clear h1kg a1kf h1kn a1km h1ku a1kt h1kw a1kv
 refine wp_loop_ghost (fun kq_ a_ W_ => ∃ (x1l8 : S69), ∃ (M1l9 : Frag), ∃ (x1lb : Int), Hd a_ 65 [(1, pt g1ks), (10, .slice (some ⟨g1ky, 0, none⟩) 2 2), (11, i6 2), (12, i6 x1lb)] ∧ Asd (louverlaw13qfixed.l0 kq_ x1l8 x1lb = some r0q) ∧ Asd (kq_ ≤ k) ∧ Asd (St b w0 W_ R (M1l9 :: (bx g1ky 25 [.int .u32 1, .int .u32 3]) :: Fs)) ∧ Asd (Ptr k69 69 b w0 R (pt g1ks) x1l8 M1l9)) k ⟨r1ki, M1kp, 0, h1l2.keep ⟨rfl, rfl, rfl, rfl, trivial⟩, ⟨H⟩, ⟨Nat.le_refl _⟩, ⟨hS1lc⟩, ⟨hr1kq⟩⟩ ?_
 clear H hS1lc
 rintro kk1l7 a1l4 W1l5 ⟨x1l8, M1l9, x1lb, h1l3, ⟨H⟩, ⟨hkkk1l7⟩, ⟨hS1l6⟩, ⟨hr1la⟩⟩
 obtain _ | kk1ld := kk1l7
 ·exact absurd H (by simp [louverlaw13qfixed.l0])
 simp only [louverlaw13qfixed.l0] at H
 refine wp_seq ?_
 refine WL.start ?_
 refine WL.bl 1 1 h1l3 [(13, .bool (decide (x1lb < 2)))] (fun a1le h1lf => ?_)
 refine WL.dn ?_
 refine wp_seq ?_
 clear h1l3 a1l4
 by_cases c1lg : x1lb < 2
 ·rw [if_pos c1lg] at H
  have hb_ : (decide (x1lb < 2)) = true := decide_eq_true c1lg
  try rw [hb_] at h1lf
  clear hb_
  refine wp_then h1lf rfl ?_
  refine wp_skip ?_
  refine wp_seq ?_
  refine wp_block ?_
  refine wp_seq ?_
  refine WL.start ?_
  by_cases c1lh : 0 ≤ x1lb
  ·rw [if_pos c1lh] at H
   by_cases c1li : x1lb < (([1, 3] : List Int).length : Int)
   ·rw [if_pos c1li] at H
    have hi1ll : 0 ≤ x1lb := by first | assumption | omega
    have hi1lm : x1lb < (([1, 3] : List Int).length : Int) := by first | assumption | omega
    obtain ⟨ad1lj, _, ha1lk, -, -⟩ := Rds.elemAny hr1l0.rds hi1ll (gt_get (z := (0 : Int)) hi1ll hi1lm)
    refine WL.oq h1lf rfl ?_
    refine owp_rn (.pointer (some (ad1lj.add (x1lb.toNat * 1)))) h1lf rfl (run_idx (ad := ad1lj) (sz := 1) rfl (by rw [← ha1lk]; rfl) rfl Try.underlying77 (by kernel_rfl) hi1ll hi1lm) (fun a1ln h1lo => ?_)
    have hS1lp := hS1l6.b1
    obtain ⟨ad1lq, cs1lr, ha1ls, hr1lu, hc1lt⟩ := Rds.elemAny hr1l0.rds hi1ll (gt_get (z := (0 : Int)) hi1ll hi1lm)
    rw [ha1lk] at ha1ls; obtain rfl := Option.some.inj ha1ls
    obtain rfl : cs1lr = [.int .u32 (gt (0 : Int) ([1, 3] : List Int) x1lb)] := hr1lu
    refine WL.oq h1lo rfl ?_
    refine owp_rn (.int .u32 (gt (0 : Int) ([1, 3] : List Int) x1lb)) h1lo rfl (run_load1 rfl rfl Try.underlying25 rfl (cell0 (hc1lt _ (fun _ _ hk_ => (hS1lp).pool.kn hk_)))) (fun a1lv h1lw => ?_)
    refine WL.bl 1 3 h1lw [(3, .int .u32 (gt (0 : Int) ([1, 3] : List Int) x1lb))] (fun a1lx h1ly => ?_)
    refine WL.dn ?_
    refine wp_seq ?_
    refine WL.start ?_
    refine WL.bl 2 2 h1ly [(17, .int .u32 (gt (0 : Int) ([1, 3] : List Int) x1lb)), (16, pt g1ks)] (fun a1lz h1m0 => ?_)
    have hS1m1 := hS1lp.b1
    obtain ⟨r1m3, r1m4, A1m2, H⟩ := bind2 H
    refine WL.oq h1m0 rfl ?_
    refine owp_call [(pt g1ks), .int .u32 (gt (0 : Int) ([1, 3] : List Int) x1lb), i6 100] h1m0 rfl (by kernel_rfl) rfl Try.func9 (by kernel_rfl) rfl (by kernel_rfl) (turns_Ring_Open.calls kk1ld hr1la A1m2 hS1m1) (fun e1m6 W1m5 hp1m7 => ?_)
    obtain ⟨M1ma, rfl, hr1mb, hS1mc⟩ := hp1m7
    refine ⟨_, rfl, fun a1m8 h1m9 => ?_⟩
    refine WL.bl 2 5 h1m9 [(20, .bool (!r1m3)), (19, .bool (!r1m3))] (fun a1md h1me => ?_)
    clear h1lf a1le h1lo a1ln h1lw a1lv h1ly a1lx h1m0 a1lz h1m9 a1m8
    by_cases c1mf : r1m3 = true
    ·rw [if_pos c1mf] at H
     have hb_ : r1m3 = true := c1mf
     try rw [hb_] at h1me
     clear hb_
     refine WL.oq h1me rfl (owp_rk (pt g1ks) h1me rfl (fun a1mg h1mh => ?_))
     refine WL.oq h1mh rfl (owp_rk (.int .u32 (gt (0 : Int) ([1, 3] : List Int) x1lb)) h1mh rfl (fun a1mi h1mj => ?_))
     refine WL.oq h1mj rfl ?_
     refine owp_make' (z := .int .u8 0) (z0 := (0 : Int)) (bytes := 1) (dk := (kInt .u8)) h1mj rfl (by kernel_rfl) rfl rfl rfl Try.underlying27 (by kernel_rfl) rfl (by decide) ⟨rfl, rfl⟩ hS1mc (by first | assumption | omega) (by first | assumption | omega) (by omega) (fun a1mk W1mm v1mn M1mo h1ml hr1mp hS1mq => ?_)
     obtain ⟨y1mr, hy1ms, H⟩ := lete H
     have hr1mt : Row (kInt .u8) 5 b w0 R v1mn y1mr M1mo := by rw [hy1ms]; exact hr1mp
     clear hr1mp
     obtain ⟨A1mu, c1mv, rfl⟩ := hr1mt.form
     have hS1mw := hS1mq.b1
     have hS1mx := hS1mw.b1
     obtain ⟨r1mz, r1n0, A1my, H⟩ := bind2 H
     refine WL.oq h1ml rfl ?_
     refine owp_call [(pt g1ks), .int .u32 (gt (0 : Int) ([1, 3] : List Int) x1lb), .slice A1mu y1mr.length c1mv, .bool false] h1ml rfl (by kernel_rfl) rfl Try.func10 (by kernel_rfl) rfl (by kernel_rfl) (turns_Ring_Put.calls kk1ld (hr1mb.mono (fun _ hp_ => List.mem_append_right _ hp_)) hr1mt.rds A1my (hS1mx.pool)) (fun e1n2 W1n1 hp1n3 => ?_)
     obtain ⟨M1n6, rfl, hr1n7, hS1n8⟩ := hp1n3
     have hS1n9 : St b w0 W1n1 R (M1mo :: M1n6 :: (bx g1ky 25 [.int .u32 1, .int .u32 3]) :: Fs) := hS1n8.unpool
     replace hr1n7 : Ptr k69 69 b w0 R (pt g1ks) r1n0 M1n6 := hr1n7.ind k69qind
     refine ⟨_, rfl, fun a1n4 h1n5 => ?_⟩
     refine WL.oq h1n5 rfl (owp_rk (.bool (!r1mz)) h1n5 rfl (fun a1na h1nb => ?_))
     refine WL.bl 1 11 h1nb [(26, .bool (!r1mz))] (fun a1nc h1nd => ?_)
     refine WL.dn ?_
     clear h1me a1md h1mh a1mg h1mj a1mi h1ml a1mk h1n5 a1n4 h1nb a1na
     by_cases c1ne : r1mz = true
     ·rw [if_pos c1ne] at H
      have hb_ : r1mz = true := c1ne
      try rw [hb_] at h1nd
      clear hb_
      refine wp_else h1nd rfl ?_
      refine wp_skip ?_
      refine WL.start ?_
      refine WL.bl 2 2 h1nd [(12, i6 (IntKind.i64.wrap (x1lb + 1))), (27, i6 (IntKind.i64.wrap (x1lb + 1)))] (fun a1nf h1ng => ?_)
      refine WL.dn ?_
      have hS1nh := hS1n9.drop_
      exact ⟨kk1ld, by omega, r1n0, M1n6, IntKind.i64.wrap (x1lb + 1), h1ng.keep ⟨rfl, rfl, rfl, rfl, trivial⟩, ⟨H⟩, ⟨by omega⟩, ⟨hS1nh⟩, ⟨hr1n7⟩⟩
     ·rw [if_neg c1ne] at H
      have hb_ : r1mz = false := (Bool.eq_false_iff.2 c1ne)
      try rw [hb_] at h1nd
      clear hb_
      refine wp_then h1nd rfl ?_
      refine wp_seq ?_
      refine WL.start ?_
      refine WL.bl 1 1 h1nd [(0, .bool false)] (fun a1ni h1nj => ?_)
      refine WL.dn ?_
      refine wp_ret ?_
      have hS1nk := hS1n9.drop_
      have hS1nl := hS1nk.drop_
      have hS1nm := hS1nl.drop_
      obtain rfl := Option.some.inj H
      repeat (first | with_reducible refine t1 ?_ | with_reducible refine t2 ?_ | with_reducible refine t3 ?_)
      refine bret (.bool false) h1nj ?_
      exact ⟨rfl, hS1nm⟩
    ·rw [if_neg c1mf] at H
     have hb_ : r1m3 = false := (Bool.eq_false_iff.2 c1mf)
     try rw [hb_] at h1me
     clear hb_
     refine WL.sk h1me rfl rfl (fun a1nn h1no => ?_)
     refine WL.sk h1no rfl rfl (fun a1np h1nq => ?_)
     refine WL.sk h1nq rfl rfl (fun a1nr h1ns => ?_)
     refine WL.sk h1ns rfl rfl (fun a1nt h1nu => ?_)
     refine WL.sk h1nu rfl rfl (fun a1nv h1nw => ?_)
     refine WL.bl 1 11 h1nw [(26, .bool true)] (fun a1nx h1ny => ?_)
     refine WL.dn ?_
     refine wp_then h1ny rfl ?_
     refine wp_seq ?_
     refine WL.start ?_
     refine WL.bl 1 1 h1ny [(0, .bool false)] (fun a1nz h1o0 => ?_)
     refine WL.dn ?_
     refine wp_ret ?_
     have hS1o1 := hS1mc.drop_
     have hS1o2 := hS1o1.drop_
     obtain rfl := Option.some.inj H
     repeat (first | with_reducible refine t1 ?_ | with_reducible refine t2 ?_ | with_reducible refine t3 ?_)
     refine bret (.bool false) h1o0 ?_
     exact ⟨rfl, hS1o2⟩
   ·rw [if_neg c1li] at H
    cases H
  ·rw [if_neg c1lh] at H
   cases H
 ·rw [if_neg c1lg] at H
  have hb_ : (decide (x1lb < 2)) = false := decide_eq_false c1lg
  try rw [hb_] at h1lf
  clear hb_
  refine wp_else h1lf rfl ?_
  refine wp_exit ?_
  refine wp_seq ?_
  refine wp_seq ?_
  refine WL.start ?_
  refine WL.bl 1 1 h1lf [(28, i6 0)] (fun a1o3 h1o4 => ?_)
  refine WL.dn ?_
  refine wp_block ?_
  have hS1oe := hS1l6.b1
  have hS1of := hS1oe.drop_
  clear h1lf a1le
  refine wp_loop_ghost (fun kq_ a_ W_ => ∃ (x1oa : S69), ∃ (M1ob : Frag), ∃ (x1od : Int), Hd a_ 65 [(1, pt g1ks), (28, i6 x1od)] ∧ Asd (louverlaw13qfixed.l1 kq_ x1oa x1od = some r0q) ∧ Asd (kq_ ≤ kk1ld) ∧ Asd (St b w0 W_ R (M1ob :: Fs)) ∧ Asd (Ptr k69 69 b w0 R (pt g1ks) x1oa M1ob)) kk1ld ⟨x1l8, M1l9, 0, h1o4.keep ⟨rfl, rfl, trivial⟩, ⟨H⟩, ⟨Nat.le_refl _⟩, ⟨hS1of⟩, ⟨hr1la⟩⟩ ?_
  clear H hS1of
  rintro kk1o9 a1o6 W1o7 ⟨x1oa, M1ob, x1od, h1o5, ⟨H⟩, ⟨hkkk1o9⟩, ⟨hS1o8⟩, ⟨hr1oc⟩⟩
  obtain _ | kk1og := kk1o9
  ·exact absurd H (by simp [louverlaw13qfixed.l1])
  simp only [louverlaw13qfixed.l1] at H
  refine wp_seq ?_
  refine WL.start ?_
  refine WL.bl 1 1 h1o5 [(29, .bool (decide (x1od < 6)))] (fun a1oh h1oi => ?_)
  refine WL.dn ?_
  refine wp_seq ?_
  clear h1o5 a1o6
  by_cases c1oj : x1od < 6
  ·rw [if_pos c1oj] at H
   have hb_ : (decide (x1od < 6)) = true := decide_eq_true c1oj
   try rw [hb_] at h1oi
   clear hb_
   refine wp_then h1oi rfl ?_
   refine wp_skip ?_
   refine wp_seq ?_
   refine wp_block ?_
   refine wp_seq ?_
   refine WL.start ?_
   refine WL.bl 2 2 h1oi [(4, i6 x1od), (30, i6 x1od)] (fun a1ok h1ol => ?_)
   refine WL.dn ?_
   refine wp_seq ?_
   refine WL.start ?_
   refine WL.bl 1 1 h1ol [(32, pt g1ks)] (fun a1om h1on => ?_)
   obtain ⟨r1op, r1oq, r1or, r1os, r1ot, A1oo, H⟩ := bind5 H
   refine WL.oq h1on rfl ?_
   refine owp_call [(pt g1ks), i6 4] h1on rfl (by kernel_rfl) rfl Try.func11 (by kernel_rfl) rfl (by kernel_rfl) (turns_Ring_Next.calls kk1og hr1oc A1oo hS1o8) (fun e1ov W1ou hp1ow => ?_)
   obtain ⟨v1oz, M1p0, M1p2, rfl, hr1p1, hr1p3, hS1p4⟩ := hp1ow
   refine ⟨_, rfl, fun a1ox h1oy => ?_⟩
   obtain ⟨A1p5, c1p6, rfl⟩ := hr1p1.form
   refine WL.bl 9 11 h1oy [(8, .bool r1os), (7, .bool r1or), (6, .slice A1p5 r1oq.length c1p6), (5, .int .u32 r1op), (37, .bool r1os), (36, .bool r1or), (35, .slice A1p5 r1oq.length c1p6), (34, .int .u32 r1op), (31, .tuple #[.int .u32 r1op, .slice A1p5 r1oq.length c1p6, .bool r1or, .bool r1os])] (fun a1p7 h1p8 => ?_)
   refine WL.dn ?_
   refine wp_seq ?_
   refine WL.start ?_
   refine WL.bl 3 3 h1p8 [(40, .bool (!r1os)), (39, .bool (!r1os)), (38, .bool r1os)] (fun a1p9 h1pa => ?_)
   clear h1oi a1oh h1ol a1ok h1on a1om h1oy a1ox h1p8 a1p7
   by_cases c1pb : r1os = true
   ·rw [if_pos c1pb] at H
    have hb_ : r1os = true := c1pb
    try rw [hb_] at h1pa
    clear hb_
    refine WL.oq h1pa rfl (owp_rk (.bool r1or) h1pa rfl (fun a1pc h1pd => ?_))
    refine WL.bl 2 6 h1pd [(43, .bool r1or), (42, .bool r1or)] (fun a1pe h1pf => ?_)
    clear h1pa a1p9 h1pd a1pc
    by_cases c1pg : r1or = true
    ·rw [if_pos c1pg] at H
     have hb_ : r1or = true := c1pg
     try rw [hb_] at h1pf
     clear hb_
     refine WL.sk h1pf rfl rfl (fun a1ph h1pi => ?_)
     refine WL.sk h1pi rfl rfl (fun a1pj h1pk => ?_)
     refine WL.sk h1pk rfl rfl (fun a1pl h1pm => ?_)
     refine WL.sk h1pm rfl rfl (fun a1pn h1po => ?_)
     refine WL.sk h1po rfl rfl (fun a1pp h1pq => ?_)
     refine WL.sk h1pq rfl rfl (fun a1pr h1ps => ?_)
     refine WL.sk h1ps rfl rfl (fun a1pt h1pu => ?_)
     refine WL.bl 2 15 h1pu [(52, .bool true), (51, .bool true)] (fun a1pv h1pw => ?_)
     refine WL.sk h1pw rfl rfl (fun a1px h1py => ?_)
     refine WL.sk h1py rfl rfl (fun a1pz h1q0 => ?_)
     refine WL.sk h1q0 rfl rfl (fun a1q1 h1q2 => ?_)
     refine WL.sk h1q2 rfl rfl (fun a1q3 h1q4 => ?_)
     clear h1pf a1pe h1pi a1ph h1pk a1pj h1pm a1pl h1po a1pn h1pq a1pp h1ps a1pr h1pu a1pt h1pw a1pv h1py a1px h1q0 a1pz h1q2 a1q1
     refine WL.sk h1q4 rfl rfl (fun a1q5 h1q6 => ?_)
     refine WL.sk h1q6 rfl rfl (fun a1q7 h1q8 => ?_)
     refine WL.sk h1q8 rfl rfl (fun a1q9 h1qa => ?_)
     refine WL.bl 1 23 h1qa [(60, .bool true)] (fun a1qb h1qc => ?_)
     refine WL.dn ?_
     refine wp_then h1qc rfl ?_
     refine wp_seq ?_
     refine WL.start ?_
     refine WL.bl 1 1 h1qc [(0, .bool false)] (fun a1qd h1qe => ?_)
     refine WL.dn ?_
     refine wp_ret ?_
     have hS1qf := hS1p4.drop_
     have hS1qg := hS1qf.drop_
     obtain rfl := Option.some.inj H
     repeat (first | with_reducible refine t1 ?_ | with_reducible refine t2 ?_ | with_reducible refine t3 ?_)
     refine bret (.bool false) h1qe ?_
     exact ⟨rfl, hS1qg⟩
    ·rw [if_neg c1pg] at H
     have hb_ : r1or = false := (Bool.eq_false_iff.2 c1pg)
     try rw [hb_] at h1pf
     clear hb_
     refine WL.oq h1pf rfl (owp_rk (.int .u32 r1op) h1pf rfl (fun a1qh h1qi => ?_))
     refine WL.oq h1qi rfl (owp_rk (i6 x1od) h1qi rfl (fun a1qj h1qk => ?_))
     refine WL.oq h1qk rfl (owp_rk (i6 (Int.tmod x1od 2)) h1qk rfl (fun a1ql h1qm => ?_))
     refine WL.oq h1qm rfl (owp_rk (i6 (IntKind.i64.wrap (2 * (Int.tmod x1od 2)))) h1qm rfl (fun a1qn h1qo => ?_))
     refine WL.oq h1qo rfl (owp_rk (i6 (IntKind.i64.wrap (1 + (IntKind.i64.wrap (2 * (Int.tmod x1od 2)))))) h1qo rfl (fun a1qp h1qq => ?_))
     refine WL.oq h1qq rfl (owp_rk (.int .u32 (IntKind.u32.wrap (IntKind.i64.wrap (1 + (IntKind.i64.wrap (2 * (Int.tmod x1od 2))))))) h1qq rfl (fun a1qr h1qs => ?_))
     refine WL.oq h1qs rfl (owp_rk (.bool (!decide (r1op = (IntKind.u32.wrap (IntKind.i64.wrap (1 + (IntKind.i64.wrap (2 * (Int.tmod x1od 2))))))))) h1qs rfl (fun a1qt h1qu => ?_))
     refine WL.bl 2 15 h1qu [(52, .bool (!decide (r1op = (IntKind.u32.wrap (IntKind.i64.wrap (1 + (IntKind.i64.wrap (2 * (Int.tmod x1od 2))))))))), (51, .bool (!decide (r1op = (IntKind.u32.wrap (IntKind.i64.wrap (1 + (IntKind.i64.wrap (2 * (Int.tmod x1od 2)))))))))] (fun a1qv h1qw => ?_)
     clear h1pf a1pe h1qi a1qh h1qk a1qj h1qm a1ql h1qo a1qn h1qq a1qp h1qs a1qr h1qu a1qt
     by_cases c1qx : r1op = (IntKind.u32.wrap (IntKind.i64.wrap (1 + (IntKind.i64.wrap (2 * (Int.tmod x1od 2))))))
     ·rw [if_pos c1qx] at H
      have hb_ : (decide (r1op = (IntKind.u32.wrap (IntKind.i64.wrap (1 + (IntKind.i64.wrap (2 * (Int.tmod x1od 2)))))))) = true := decide_eq_true c1qx
      try rw [hb_] at h1qw
      clear hb_
      refine WL.oq h1qw rfl (owp_rk (.slice A1p5 r1oq.length c1p6) h1qw rfl (fun a1qy h1qz => ?_))
      refine WL.oq h1qz rfl (owp_rk (i6 (r1oq.length : Int)) h1qz rfl (fun a1r0 h1r1 => ?_))
      refine WL.oq h1r1 rfl ?_
      refine owp_nw (fun g_ => .slice (some ⟨g_, 0, none⟩) 6 6) (.cells ([i6 4, i6 4, i6 4, i6 4, i6 2, i6 2] : List Value).toArray 3 (0, 0)) h1r1 rfl hS1p4 (fun a1r2 W1r4 g1r5 h1r3 hS1r6 => ?_)
      have hr1r7 : Row (kInt .i64) 3 b w0 R (.slice (some ⟨g1r5, 0, none⟩) 6 6) ([4, 4, 4, 4, 2, 2] : List Int) (bx g1r5 3 [i6 4, i6 4, i6 4, i6 4, i6 2, i6 2]) := Row.lit (xs := ([4, 4, 4, 4, 2, 2] : List Int)) (Mi := []) ⟨_, _, [], _, rfl, rfl, ⟨rfl, rfl⟩, ⟨_, _, [], _, rfl, rfl, ⟨rfl, rfl⟩, ⟨_, _, [], _, rfl, rfl, ⟨rfl, rfl⟩, ⟨_, _, [], _, rfl, rfl, ⟨rfl, rfl⟩, ⟨_, _, [], _, rfl, rfl, ⟨rfl, rfl⟩, ⟨_, _, [], _, rfl, rfl, ⟨rfl, rfl⟩, ⟨rfl, rfl⟩⟩⟩⟩⟩⟩⟩ (by simp [maxLen])
      refine WL.oq h1r3 rfl (owp_rk (i6 x1od) h1r3 rfl (fun a1r8 h1r9 => ?_))
      clear h1qw a1qv h1qz a1qy h1r1 a1r0 h1r3 a1r2
      by_cases c1ra : 0 ≤ x1od
      ·rw [if_pos c1ra] at H
       by_cases c1rb : x1od < (([4, 4, 4, 4, 2, 2] : List Int).length : Int)
       ·rw [if_pos c1rb] at H
        have hi1re : 0 ≤ x1od := by first | assumption | omega
        have hi1rf : x1od < (([4, 4, 4, 4, 2, 2] : List Int).length : Int) := by first | assumption | omega
        obtain ⟨ad1rc, _, ha1rd, -, -⟩ := Rds.elemAny hr1r7.rds hi1re (gt_get (z := (0 : Int)) hi1re hi1rf)
        refine WL.oq h1r9 rfl ?_
        refine owp_rn (.pointer (some (ad1rc.add (x1od.toNat * 1)))) h1r9 rfl (run_idx (ad := ad1rc) (sz := 1) rfl (by rw [← ha1rd]; rfl) rfl Try.underlying78 (by kernel_rfl) hi1re hi1rf) (fun a1rg h1rh => ?_)
        obtain ⟨ad1ri, cs1rj, ha1rk, hr1rm, hc1rl⟩ := Rds.elemAny hr1r7.rds hi1re (gt_get (z := (0 : Int)) hi1re hi1rf)
        rw [ha1rd] at ha1rk; obtain rfl := Option.some.inj ha1rk
        obtain rfl : cs1rj = [i6 (gt (0 : Int) ([4, 4, 4, 4, 2, 2] : List Int) x1od)] := hr1rm
        refine WL.oq h1rh rfl ?_
        refine owp_rn (i6 (gt (0 : Int) ([4, 4, 4, 4, 2, 2] : List Int) x1od)) h1rh rfl (run_load1 rfl rfl Try.underlying3 rfl (cell0 (hc1rl _ (fun _ _ hk_ => (hS1r6).pool.kn hk_)))) (fun a1rn h1ro => ?_)
        refine WL.oq h1ro rfl (owp_rk (.bool (!decide ((r1oq.length : Int) = (gt (0 : Int) ([4, 4, 4, 4, 2, 2] : List Int) x1od)))) h1ro rfl (fun a1rp h1rq => ?_))
        refine WL.bl 1 23 h1rq [(60, .bool (!decide ((r1oq.length : Int) = (gt (0 : Int) ([4, 4, 4, 4, 2, 2] : List Int) x1od))))] (fun a1rr h1rs => ?_)
        refine WL.dn ?_
        clear h1r9 a1r8 h1rh a1rg h1ro a1rn h1rq a1rp
        by_cases c1rt : (r1oq.length : Int) = (gt (0 : Int) ([4, 4, 4, 4, 2, 2] : List Int) x1od)
        ·rw [if_pos c1rt] at H
         have hb_ : (decide ((r1oq.length : Int) = (gt (0 : Int) ([4, 4, 4, 4, 2, 2] : List Int) x1od))) = true := decide_eq_true c1rt
         try rw [hb_] at h1rs
         clear hb_
         refine wp_else h1rs rfl ?_
         refine wp_skip ?_
         refine WL.start ?_
         refine WL.bl 2 2 h1rs [(28, i6 (IntKind.i64.wrap (x1od + 1))), (61, i6 (IntKind.i64.wrap (x1od + 1)))] (fun a1ru h1rv => ?_)
         refine WL.dn ?_
         have hS1rw := hS1r6.drop_
         have hS1rx := hS1rw.drop_
         exact ⟨kk1og, by omega, r1ot, M1p2, IntKind.i64.wrap (x1od + 1), h1rv.keep ⟨rfl, rfl, trivial⟩, ⟨H⟩, ⟨by omega⟩, ⟨hS1rx⟩, ⟨hr1p3⟩⟩
        ·rw [if_neg c1rt] at H
         have hb_ : (decide ((r1oq.length : Int) = (gt (0 : Int) ([4, 4, 4, 4, 2, 2] : List Int) x1od))) = false := decide_eq_false c1rt
         try rw [hb_] at h1rs
         clear hb_
         refine wp_then h1rs rfl ?_
         refine wp_seq ?_
         refine WL.start ?_
         refine WL.bl 1 1 h1rs [(0, .bool false)] (fun a1ry h1rz => ?_)
         refine WL.dn ?_
         refine wp_ret ?_
         have hS1s0 := hS1r6.drop_
         have hS1s1 := hS1s0.drop_
         have hS1s2 := hS1s1.drop_
         obtain rfl := Option.some.inj H
         repeat (first | with_reducible refine t1 ?_ | with_reducible refine t2 ?_ | with_reducible refine t3 ?_)
         refine bret (.bool false) h1rz ?_
         exact ⟨rfl, hS1s2⟩
       ·rw [if_neg c1rb] at H
        cases H
      ·rw [if_neg c1ra] at H
       cases H
     ·rw [if_neg c1qx] at H
      have hb_ : (decide (r1op = (IntKind.u32.wrap (IntKind.i64.wrap (1 + (IntKind.i64.wrap (2 * (Int.tmod x1od 2)))))))) = false := decide_eq_false c1qx
      try rw [hb_] at h1qw
      clear hb_
      refine WL.sk h1qw rfl rfl (fun a1s3 h1s4 => ?_)
      refine WL.sk h1s4 rfl rfl (fun a1s5 h1s6 => ?_)
      refine WL.sk h1s6 rfl rfl (fun a1s7 h1s8 => ?_)
      refine WL.sk h1s8 rfl rfl (fun a1s9 h1sa => ?_)
      refine WL.sk h1sa rfl rfl (fun a1sb h1sc => ?_)
      refine WL.sk h1sc rfl rfl (fun a1sd h1se => ?_)
      refine WL.sk h1se rfl rfl (fun a1sf h1sg => ?_)
      refine WL.bl 1 23 h1sg [(60, .bool true)] (fun a1sh h1si => ?_)
      refine WL.dn ?_
      refine wp_then h1si rfl ?_
      refine wp_seq ?_
      refine WL.start ?_
      refine WL.bl 1 1 h1si [(0, .bool false)] (fun a1sj h1sk => ?_)
      refine WL.dn ?_
      refine wp_ret ?_
      have hS1sl := hS1p4.drop_
      have hS1sm := hS1sl.drop_
      obtain rfl := Option.some.inj H
      repeat (first | with_reducible refine t1 ?_ | with_reducible refine t2 ?_ | with_reducible refine t3 ?_)
      refine bret (.bool false) h1sk ?_
      exact ⟨rfl, hS1sm⟩
   ·rw [if_neg c1pb] at H
    have hb_ : r1os = false := (Bool.eq_false_iff.2 c1pb)
    try rw [hb_] at h1pa
    clear hb_
    refine WL.sk h1pa rfl rfl (fun a1sn h1so => ?_)
    refine WL.bl 2 6 h1so [(43, .bool true), (42, .bool true)] (fun a1sp h1sq => ?_)
    refine WL.sk h1sq rfl rfl (fun a1sr h1ss => ?_)
    refine WL.sk h1ss rfl rfl (fun a1st h1su => ?_)
    refine WL.sk h1su rfl rfl (fun a1sv h1sw => ?_)
    refine WL.sk h1sw rfl rfl (fun a1sx h1sy => ?_)
    refine WL.sk h1sy rfl rfl (fun a1sz h1t0 => ?_)
    refine WL.sk h1t0 rfl rfl (fun a1t1 h1t2 => ?_)
    refine WL.sk h1t2 rfl rfl (fun a1t3 h1t4 => ?_)
    refine WL.bl 2 15 h1t4 [(52, .bool true), (51, .bool true)] (fun a1t5 h1t6 => ?_)
    refine WL.sk h1t6 rfl rfl (fun a1t7 h1t8 => ?_)
    refine WL.sk h1t8 rfl rfl (fun a1t9 h1ta => ?_)
    clear h1pa a1p9 h1so a1sn h1sq a1sp h1ss a1sr h1su a1st h1sw a1sv h1sy a1sx h1t0 a1sz h1t2 a1t1 h1t4 a1t3 h1t6 a1t5 h1t8 a1t7
    refine WL.sk h1ta rfl rfl (fun a1tb h1tc => ?_)
    refine WL.sk h1tc rfl rfl (fun a1td h1te => ?_)
    refine WL.sk h1te rfl rfl (fun a1tf h1tg => ?_)
    refine WL.sk h1tg rfl rfl (fun a1th h1ti => ?_)
    refine WL.sk h1ti rfl rfl (fun a1tj h1tk => ?_)
    refine WL.bl 1 23 h1tk [(60, .bool true)] (fun a1tl h1tm => ?_)
    refine WL.dn ?_
    refine wp_then h1tm rfl ?_
    refine wp_seq ?_
    refine WL.start ?_
    refine WL.bl 1 1 h1tm [(0, .bool false)] (fun a1tn h1to => ?_)
    refine WL.dn ?_
    refine wp_ret ?_
    have hS1tp := hS1p4.drop_
    have hS1tq := hS1tp.drop_
    obtain rfl := Option.some.inj H
    repeat (first | with_reducible refine t1 ?_ | with_reducible refine t2 ?_ | with_reducible refine t3 ?_)
    refine bret (.bool false) h1to ?_
    exact ⟨rfl, hS1tq⟩
  ·rw [if_neg c1oj] at H
   have hb_ : (decide (x1od < 6)) = false := decide_eq_false c1oj
   try rw [hb_] at h1oi
   clear hb_
   refine wp_else h1oi rfl ?_
   refine wp_exit ?_
   refine wp_seq ?_
   refine WL.start ?_
   refine WL.bl 1 1 h1oi [(62, pt g1ks)] (fun a1tr h1ts => ?_)
   obtain ⟨r1tu, A1tt, H⟩ := bind1 H
   refine WL.oq h1ts rfl ?_
   refine owp_call [(pt g1ks)] h1ts rfl (by kernel_rfl) rfl Try.func15 (by kernel_rfl) rfl (by kernel_rfl) (turns_Ring_All.calls kk1og hr1oc A1tt hS1o8) (fun e1tw W1tv hp1tx => ?_)
   obtain ⟨M1u0, rfl, hr1u1, hS1u2⟩ := hp1tx
   refine ⟨_, rfl, fun a1ty h1tz => ?_⟩
   refine WL.bl 2 4 h1tz [(0, .bool (decide (r1tu = 0))), (64, .bool (decide (r1tu = 0)))] (fun a1u3 h1u4 => ?_)
   refine WL.dn ?_
   refine wp_ret ?_
   have hS1u5 := hS1u2.drop_
   obtain rfl := Option.some.inj H
   repeat (first | with_reducible refine t1 ?_ | with_reducible refine t2 ?_ | with_reducible refine t3 ?_)
   refine bret (.bool (decide (r1tu = 0))) h1u4 ?_
   exact ⟨rfl, hS1u5⟩

/-! ### louver/louverref10.between -/
def louverref10qbetween.f (p0 : Int) : Option (Int) := if p0 > 2147483647 then (some 2147483647) else (if p0 < (-2147483648) then (some (-2147483648)) else (some p0))
set_option maxHeartbeats 20000000 in
set_option maxRecDepth 100000 in
theorem louverref10qbetween.calls {b : Nat} {w0 W : World} {R : Frag} {Fs : List Frag} {p0 : Int}  {r0q : Int}  (H : louverref10qbetween.f p0 = some r0q) (hS : St b w0 W R (Fs)) :
  Calls Try.prog 35 ([i6 p0] : List Value).toArray W (fun e W' => e = .returned (i6 r0q) ∧ St b w0 W' R (Fs)) := by
 unfold louverref10qbetween.f at H
 refine calls_enter Try.func35 rfl 8 rfl (by kernel_rfl) (fun a h => ?_)
 refine wp_seq ?_
 refine WL.start ?_
 refine WL.bl 1 1 h [(2, i6 0)] (fun a10e h10f => ?_)
 refine WL.dn ?_
 refine wp_seq ?_
 refine wp_seq ?_
 refine WL.start ?_
 refine WL.bl 2 2 h10f [(4, .bool (decide (p0 > 2147483647))), (3, i6 p0)] (fun a10g h10h => ?_)
 refine WL.dn ?_
 clear h10f a10e
 by_cases c10i : p0 > 2147483647
 ·rw [if_pos c10i] at H
  have hb_ : (decide (p0 > 2147483647)) = true := decide_eq_true c10i
  try rw [hb_] at h10h
  clear hb_
  refine wp_then h10h rfl ?_
  refine wp_seq ?_
  refine WL.start ?_
  refine WL.bl 1 1 h10h [(2, i6 2147483647)] (fun a10j h10k => ?_)
  refine WL.dn ?_
  refine wp_ret ?_
  obtain rfl := Option.some.inj H
  repeat (first | with_reducible refine t1 ?_ | with_reducible refine t2 ?_ | with_reducible refine t3 ?_)
  refine bret (i6 2147483647) h10k ?_
  exact ⟨rfl, hS⟩
 ·rw [if_neg c10i] at H
  have hb_ : (decide (p0 > 2147483647)) = false := decide_eq_false c10i
  try rw [hb_] at h10h
  clear hb_
  refine wp_else h10h rfl ?_
  refine wp_skip ?_
  refine wp_seq ?_
  refine wp_seq ?_
  refine WL.start ?_
  refine WL.bl 2 2 h10h [(6, .bool (decide (p0 < (-2147483648)))), (5, i6 p0)] (fun a10l h10m => ?_)
  refine WL.dn ?_
  clear h10h a10g
  by_cases c10n : p0 < (-2147483648)
  ·rw [if_pos c10n] at H
   have hb_ : (decide (p0 < (-2147483648))) = true := decide_eq_true c10n
   try rw [hb_] at h10m
   clear hb_
   refine wp_then h10m rfl ?_
   refine wp_seq ?_
   refine WL.start ?_
   refine WL.bl 1 1 h10m [(2, i6 (-2147483648))] (fun a10o h10p => ?_)
   refine WL.dn ?_
   refine wp_ret ?_
   obtain rfl := Option.some.inj H
   repeat (first | with_reducible refine t1 ?_ | with_reducible refine t2 ?_ | with_reducible refine t3 ?_)
   refine bret (i6 (-2147483648)) h10p ?_
   exact ⟨rfl, hS⟩
  ·rw [if_neg c10n] at H
   have hb_ : (decide (p0 < (-2147483648))) = false := decide_eq_false c10n
   try rw [hb_] at h10m
   clear hb_
   refine wp_else h10m rfl ?_
   refine wp_skip ?_
   refine wp_seq ?_
   refine WL.start ?_
   refine WL.bl 2 2 h10m [(2, i6 p0), (7, i6 p0)] (fun a10q h10r => ?_)
   refine WL.dn ?_
   refine wp_ret ?_
   obtain rfl := Option.some.inj H
   repeat (first | with_reducible refine t1 ?_ | with_reducible refine t2 ?_ | with_reducible refine t3 ?_)
   refine bret (i6 p0) h10r ?_
   exact ⟨rfl, hS⟩

structure S41 where
 f0 : Int
 f1 : Bool
 deriving DecidableEq
def z41 : S41 := ⟨(0 : Int), false⟩
def k41 : Kd S41 := kIso (kPair (kInt .i64) kBool) (fun x : S41 => (x.f0, x.f1))
theorem k41qflat : k41.Flat := kIso_flat (kPair_flat (kInt_flat _) kBool_flat)
theorem k41qind : k41.Ind := kIso_ind (kPair_ind (kInt_ind _) kBool_ind)
theorem k41qrd {b : Nat} {w0 : World} {R : Frag} {x : S41} {cs : List Value} (h : k41.rd b w0 R x cs) : cs = [i6 x.f0, .bool x.f1] := by
 obtain ⟨c100, c101, rfl, h102, h103⟩ := h
 obtain rfl := h102
 obtain rfl := h103
 exact rfl
theorem k41qrep {b : Nat} {w0 : World} {R : Frag} {x : S41} {cs : List Value} {M : Frag} (h : k41.rep b w0 R x cs M) : cs = [i6 x.f0, .bool x.f1] ∧ M = [] := by
 obtain ⟨c104, c105, M108, M109, rfl, rfl, h106, h107⟩ := h
 obtain ⟨rfl, rfl⟩ := h106
 obtain ⟨rfl, rfl⟩ := h107
 exact ⟨rfl, by simp⟩
theorem k41qno {b : Nat} {w0 : World} {R : Frag} {x : S41} {cs : List Value} {M : Frag} (h : k41.rep b w0 R x cs M) : M = [] := by
 obtain ⟨_, hM_⟩ := k41qrep h
 exact hM_
theorem k41qmk {b : Nat} {w0 : World} {R : Frag} {x : S41}  : ∃ M, k41.rep b w0 R x [i6 x.f0, .bool x.f1] M ∧ M = [] := ⟨_, ⟨_, _, _, _, rfl, rfl, ⟨rfl, rfl⟩, ⟨rfl, rfl⟩⟩, by simp⟩
/-! ### louver/louverref10.New -/
def louverref10qNew.f (p0 : Int) (p1 : Bool) : Option (S41) := bnd1 (louverref10qbetween.f p0) fun r114 => (some (⟨r114, p1⟩ : S41))
set_option maxHeartbeats 20000000 in
set_option maxRecDepth 100000 in
theorem louverref10qNew.calls {b : Nat} {w0 W : World} {R : Frag} {Fs : List Frag} {p0 : Int} {p1 : Bool}  {r0q : S41}  (H : louverref10qNew.f p0 p1 = some r0q) (hS : St b w0 W R (Fs)) :
  Calls Try.prog 17 ([i6 p0, .bool p1] : List Value).toArray W (fun e W' => e = .returned (.agg #[i6 r0q.f0, .bool r0q.f1]) ∧ St b w0 W' R (Fs)) := by
 unfold louverref10qNew.f at H
 refine calls_enter Try.func17 rfl 9 rfl (by kernel_rfl) (fun a h => ?_)
 refine wp_seq ?_
 refine WL.start ?_
 refine WL.oq h rfl ?_
 refine owp_nw (fun g_ => (pt g_)) (.cells ([i6 0, .bool false] : List Value).toArray 41 (0, 0)) h rfl hS (fun a10w W10y g10z h10x hS110 => ?_)
 refine WL.dn ?_
 refine wp_seq ?_
 refine WL.start ?_
 refine WL.bl 1 1 h10x [(5, i6 p0)] (fun a111 h112 => ?_)
 obtain ⟨r114, A113, H⟩ := bind1 H
 refine WL.oq h112 rfl ?_
 refine owp_call [i6 p0] h112 rfl (by kernel_rfl) rfl Try.func35 (by kernel_rfl) rfl (by kernel_rfl) (louverref10qbetween.calls  A113 hS110) (fun e116 W115 hp117 => ?_)
 obtain ⟨rfl, hS11a⟩ := hp117
 refine ⟨_, rfl, fun a118 h119 => ?_⟩
 refine WL.bl 2 4 h119 [(8, .agg #[i6 r114, .bool p1]), (7, .bool p1)] (fun a11b h11c => ?_)
 refine WL.oq h11c rfl ?_
 refine owp_st 0 [i6 r114, .bool p1] h11c rfl rfl rfl hS11a [i6 r114, .bool p1] (fun a11d W11f h11e hS11g => ?_)
 refine WL.dn ?_
 refine wp_ret ?_
 have hS11h := hS11g.drop_
 obtain rfl := Option.some.inj H
 repeat (first | with_reducible refine t1 ?_ | with_reducible refine t2 ?_ | with_reducible refine t3 ?_)
 refine body_ret (v := .agg #[i6 r114, .bool p1]) h11e (by kernel_rfl) (res_one rfl ⟨_, rfl, loadVarN Try.underlying41 rfl (cs := [i6 r114, .bool p1]) (by kernel_rfl) (hS11g.cells (vs := [i6 r114, .bool p1]) rfl)⟩) ?_
 exact ⟨rfl, hS11h⟩

structure S61 where
 f0 : Int
 f1 : (List UInt8)
 f2 : Bool
 f3 : Bool
 f4 : S41
 deriving DecidableEq
def z61 : S61 := ⟨(0 : Int), [], false, false, z41⟩
def k61 : Kd S61 := kIso (kPair (kInt .u32) (kPair kStr (kPair kBool (kPair kBool k41)))) (fun x : S61 => (x.f0, (x.f1, (x.f2, (x.f3, x.f4)))))
theorem k61qflat : k61.Flat := kIso_flat (kPair_flat (kInt_flat _) (kPair_flat kStr_flat (kPair_flat kBool_flat (kPair_flat kBool_flat k41qflat))))
theorem k61qind : k61.Ind := kIso_ind (kPair_ind (kInt_ind _) (kPair_ind kStr_ind (kPair_ind kBool_ind (kPair_ind kBool_ind k41qind))))
theorem k61qrd {b : Nat} {w0 : World} {R : Frag} {x : S61} {cs : List Value} (h : k61.rd b w0 R x cs) : cs = [.int .u32 x.f0, .string (mkS x.f1), .bool x.f2, .bool x.f3, i6 x.f4.f0, .bool x.f4.f1] := by
 obtain ⟨c100, c101, rfl, h102, h103⟩ := h
 obtain ⟨c104, c105, rfl, h106, h107⟩ := h103
 obtain ⟨c108, c109, rfl, h10a, h10b⟩ := h107
 obtain ⟨c10c, c10d, rfl, h10e, h10f⟩ := h10b
 obtain rfl := h102
 obtain rfl := h106
 obtain rfl := h10a
 obtain rfl := h10e
 obtain ⟨c10g, c10h, rfl, h10i, h10j⟩ := h10f
 obtain rfl := h10i
 obtain rfl := h10j
 exact rfl
theorem k61qrep {b : Nat} {w0 : World} {R : Frag} {x : S61} {cs : List Value} {M : Frag} (h : k61.rep b w0 R x cs M) : cs = [.int .u32 x.f0, .string (mkS x.f1), .bool x.f2, .bool x.f3, i6 x.f4.f0, .bool x.f4.f1] ∧ M = [] := by
 obtain ⟨c10k, c10l, M10o, M10p, rfl, rfl, h10m, h10n⟩ := h
 obtain ⟨c10q, c10r, M10u, M10v, rfl, rfl, h10s, h10t⟩ := h10n
 obtain ⟨c10w, c10x, M110, M111, rfl, rfl, h10y, h10z⟩ := h10t
 obtain ⟨c112, c113, M116, M117, rfl, rfl, h114, h115⟩ := h10z
 obtain ⟨rfl, rfl⟩ := h10m
 obtain ⟨rfl, rfl⟩ := h10s
 obtain ⟨rfl, rfl⟩ := h10y
 obtain ⟨rfl, rfl⟩ := h114
 obtain ⟨c118, c119, M11c, M11d, rfl, rfl, h11a, h11b⟩ := h115
 obtain ⟨rfl, rfl⟩ := h11a
 obtain ⟨rfl, rfl⟩ := h11b
 exact ⟨rfl, by simp⟩
theorem k61qno {b : Nat} {w0 : World} {R : Frag} {x : S61} {cs : List Value} {M : Frag} (h : k61.rep b w0 R x cs M) : M = [] := by
 obtain ⟨_, hM_⟩ := k61qrep h
 exact hM_
theorem k61qmk {b : Nat} {w0 : World} {R : Frag} {x : S61}  : ∃ M, k61.rep b w0 R x [.int .u32 x.f0, .string (mkS x.f1), .bool x.f2, .bool x.f3, i6 x.f4.f0, .bool x.f4.f1] M ∧ M = [] := ⟨_, ⟨_, _, _, _, rfl, rfl, ⟨rfl, rfl⟩, ⟨_, _, _, _, rfl, rfl, ⟨rfl, rfl⟩, ⟨_, _, _, _, rfl, rfl, ⟨rfl, rfl⟩, ⟨_, _, _, _, rfl, rfl, ⟨rfl, rfl⟩, ⟨_, _, _, _, rfl, rfl, ⟨rfl, rfl⟩, ⟨rfl, rfl⟩⟩⟩⟩⟩⟩, by simp⟩
structure S56 where
 f0 : (List S61)
 f1 : Int
 f2 : S41
 deriving DecidableEq
def z56 : S56 := ⟨[], (0 : Int), z41⟩
def k56 : Kd S56 := kIso (kPair (kRow k61 61) (kPair (kInt .i64) k41)) (fun x : S56 => (x.f0, (x.f1, x.f2)))
theorem k56qind : k56.Ind := kIso_ind (kPair_ind (kRow_ind k61qind) (kPair_ind (kInt_ind _) k41qind))
theorem k56qrd {b : Nat} {w0 : World} {R : Frag} {x : S56} {cs : List Value} (h : k56.rd b w0 R x cs) : ∃ (vf0 : Value), cs = [vf0, i6 x.f1, i6 x.f2.f0, .bool x.f2.f1] ∧ Rds k61 b w0 R vf0 x.f0 := by
 obtain ⟨c11e, c11f, rfl, h11g, h11h⟩ := h
 obtain ⟨c11i, c11j, rfl, h11k, h11l⟩ := h11h
 obtain ⟨v11m, rfl, g11n⟩ := h11g
 obtain rfl := h11k
 obtain ⟨c11o, c11p, rfl, h11q, h11r⟩ := h11l
 obtain rfl := h11q
 obtain rfl := h11r
 exact ⟨v11m, rfl, g11n⟩
theorem k56qrep {b : Nat} {w0 : World} {R : Frag} {x : S56} {cs : List Value} {M : Frag} (h : k56.rep b w0 R x cs M) : ∃ (vf0 : Value), ∃ (Mvf0 : Frag), cs = [vf0, i6 x.f1, i6 x.f2.f0, .bool x.f2.f1] ∧ M = Mvf0 ∧ Row k61 61 b w0 R vf0 x.f0 Mvf0 := by
 obtain ⟨c11s, c11t, M11w, M11x, rfl, rfl, h11u, h11v⟩ := h
 obtain ⟨c11y, c11z, M122, M123, rfl, rfl, h120, h121⟩ := h11v
 obtain ⟨v124, rfl, g125⟩ := h11u
 obtain ⟨rfl, rfl⟩ := h120
 obtain ⟨c126, c127, M12a, M12b, rfl, rfl, h128, h129⟩ := h121
 obtain ⟨rfl, rfl⟩ := h128
 obtain ⟨rfl, rfl⟩ := h129
 exact ⟨v124, _, rfl, by simp, g125⟩
theorem k56qmk {b : Nat} {w0 : World} {R : Frag} {x : S56} {vf0 : Value} {Mvf0 : Frag} (gvf0 : Row k61 61 b w0 R vf0 x.f0 Mvf0) : ∃ M, k56.rep b w0 R x [vf0, i6 x.f1, i6 x.f2.f0, .bool x.f2.f1] M ∧ M = Mvf0 := ⟨_, ⟨_, _, _, _, rfl, rfl, ⟨vf0, rfl, gvf0⟩, ⟨_, _, _, _, rfl, rfl, ⟨rfl, rfl⟩, ⟨_, _, _, _, rfl, rfl, ⟨rfl, rfl⟩, ⟨rfl, rfl⟩⟩⟩⟩, by simp⟩
/-! ### louver/louverref13.New -/
def louverref13qNew.f (p0 : Int) : Option (S56) := bnd1 (louverref10qNew.f p0 false) fun r136 => (some (⟨([] : List S61), 0, (⟨r136.f0, r136.f1⟩ : S41)⟩ : S56))
set_option maxHeartbeats 20000000 in
set_option maxRecDepth 100000 in
theorem louverref13qNew.calls {b : Nat} {w0 W : World} {R : Frag} {Fs : List Frag} {p0 : Int}  {r0q : S56}  (H : louverref13qNew.f p0 = some r0q) (hS : St b w0 W R (Fs)) :
  Calls Try.prog 21 ([i6 p0] : List Value).toArray W (fun e W' => ∃ (u0qv0qf0 : Value) (Nu0qv0qf0 : Frag), e = .returned (.agg #[u0qv0qf0, i6 r0q.f1, i6 r0q.f2.f0, .bool r0q.f2.f1]) ∧ Row k61 61 b w0 R u0qv0qf0 r0q.f0 Nu0qv0qf0 ∧ St b w0 W' R (Nu0qv0qf0 :: Fs)) := by
 unfold louverref13qNew.f at H
 refine calls_enter Try.func21 rfl 6 rfl (by kernel_rfl) (fun a h => ?_)
 refine wp_seq ?_
 refine WL.start ?_
 refine WL.oq h rfl ?_
 refine owp_nw (fun g_ => (pt g_)) (.cells ([.slice none 0 0, i6 0, i6 0, .bool false] : List Value).toArray 56 (0, 0)) h rfl hS (fun a12y W130 g131 h12z hS132 => ?_)
 refine WL.dn ?_
 refine wp_seq ?_
 refine WL.start ?_
 refine WL.bl 1 1 h12z [(3, i6 p0)] (fun a133 h134 => ?_)
 obtain ⟨r136, A135, H⟩ := bind1 H
 refine WL.oq h134 rfl ?_
 refine owp_call [i6 p0, .bool false] h134 rfl (by kernel_rfl) rfl Try.func17 (by kernel_rfl) rfl (by kernel_rfl) (louverref10qNew.calls  A135 hS132) (fun e138 W137 hp139 => ?_)
 obtain ⟨rfl, hS13c⟩ := hp139
 refine ⟨_, rfl, fun a13a h13b => ?_⟩
 refine WL.bl 1 3 h13b [(5, .agg #[.slice none 0 0, i6 0, i6 r136.f0, .bool r136.f1])] (fun a13d h13e => ?_)
 refine WL.oq h13e rfl ?_
 refine owp_st 0 [.slice none 0 0, i6 0, i6 r136.f0, .bool r136.f1] h13e rfl rfl rfl hS13c [.slice none 0 0, i6 0, i6 r136.f0, .bool r136.f1] (fun a13f W13h h13g hS13i => ?_)
 refine WL.dn ?_
 refine wp_ret ?_
 have hS13j := hS13i.drop_
 obtain rfl := Option.some.inj H
 repeat (first | with_reducible refine t1 ?_ | with_reducible refine t2 ?_ | with_reducible refine t3 ?_)
 refine body_ret (v := .agg #[.slice none 0 0, i6 0, i6 r136.f0, .bool r136.f1]) h13g (by kernel_rfl) (res_one rfl ⟨_, rfl, loadVarN Try.underlying56 rfl (cs := [.slice none 0 0, i6 0, i6 r136.f0, .bool r136.f1]) (by kernel_rfl) (hS13i.cells (vs := [.slice none 0 0, i6 0, i6 r136.f0, .bool r136.f1]) rfl)⟩) ?_
 exact ⟨.slice none 0 0, [], rfl, Row.nil, hS13j.nil_⟩

/-! ### (louver/louverref13.R).Find -/
def louverref13qR_Find.l0 : Nat → Int → S56 → Int → Option (Int)
 | 0, _, _, _ => none
 | k + 1, x13s, p0, p1 => if x13s < (p0.f0.length : Int) then (if 0 ≤ x13s then (if ((gt z61 p0.f0 x13s).f0) = p1 then (some x13s) else (louverref13qR_Find.l0 k (IntKind.i64.wrap (x13s + 1)) p0 p1)) else (none)) else (some (-1))
def louverref13qR_Find.f (k : Nat) (p0 : S56) (p1 : Int) : Option (Int) := louverref13qR_Find.l0 k 0 p0 p1
set_option maxHeartbeats 20000000 in
set_option maxRecDepth 100000 in
theorem louverref13qR_Find.calls (k : Nat) {b : Nat} {w0 W : World} {R : Frag} {Fs : List Frag} {p0 : S56} {p1 : Int} {v0q0 : Value} {r0q : Int} (hp0q0 : Rds k61 b w0 R v0q0 p0.f0) (H : louverref13qR_Find.f k p0 p1 = some r0q) (hS : St b w0 W R (Fs)) :
  Calls Try.prog 25 ([.agg #[v0q0, i6 p0.f1, i6 p0.f2.f0, .bool p0.f2.f1], .int .u32 p1] : List Value).toArray W (fun e W' => e = .returned (i6 r0q) ∧ St b w0 W' R (Fs)) := by
 obtain ⟨A0q0, c0q0, rfl⟩ := hp0q0.form
 unfold louverref13qR_Find.f at H
 refine calls_enter Try.func25 rfl 22 rfl (by kernel_rfl) (fun a h => ?_)
 refine wp_seq ?_
 refine WL.start ?_
 refine WL.oq h rfl ?_
 refine owp_nw (fun g_ => (pt g_)) (.cells ([.slice A0q0 p0.f0.length c0q0, i6 p0.f1, i6 p0.f2.f0, .bool p0.f2.f1] : List Value).toArray 56 (0, 0)) h rfl hS (fun a13a W13c g13d h13b hS13e => ?_)
 refine WL.bl 1 2 h13b [(4, i6 0)] (fun a13f h13g => ?_)
 refine WL.dn ?_
 refine wp_seq ?_
 refine wp_seq ?_
 refine WL.start ?_
 refine WL.bl 1 1 h13g [(6, pt g13d)] (fun a13h h13i => ?_)
 refine WL.oq h13i rfl ?_
 refine owp_rn (.slice A0q0 p0.f0.length c0q0) h13i rfl (run_load1 rfl rfl Try.underlying54 rfl (hS13e.cell (i := 0) rfl)) (fun a13j h13k => ?_)
 refine WL.bl 2 4 h13k [(9, i6 0), (8, i6 (p0.f0.length : Int))] (fun a13l h13m => ?_)
 refine WL.dn ?_
 refine wp_block ?_
 clear h13b a13a h13g a13f h13i a13h h13k a13j
 refine wp_loop_ghost (fun kq_ a_ W_ => ∃ (x13s : Int), Hd a_ 22 [(1, .int .u32 p1), (2, pt g13d), (8, i6 (p0.f0.length : Int)), (9, i6 x13s)] ∧ Asd (louverref13qR_Find.l0 kq_ x13s p0 p1 = some r0q) ∧ Asd (kq_ ≤ k) ∧ Asd (St b w0 W_ R ((bx g13d 56 [.slice A0q0 p0.f0.length c0q0, i6 p0.f1, i6 p0.f2.f0, .bool p0.f2.f1]) :: Fs))) k ⟨0, h13m.keep ⟨rfl, rfl, rfl, rfl, trivial⟩, ⟨H⟩, ⟨Nat.le_refl _⟩, ⟨hS13e⟩⟩ ?_
 clear H hS13e
 rintro kk13r a13o W13p ⟨x13s, h13n, ⟨H⟩, ⟨hkkk13r⟩, ⟨hS13q⟩⟩
 obtain _ | kk13t := kk13r
 ·exact absurd H (by simp [louverref13qR_Find.l0])
 simp only [louverref13qR_Find.l0] at H
 refine wp_seq ?_
 refine WL.start ?_
 refine WL.bl 1 1 h13n [(10, .bool (decide (x13s < (p0.f0.length : Int))))] (fun a13u h13v => ?_)
 refine WL.dn ?_
 refine wp_seq ?_
 clear h13n a13o
 by_cases c13w : x13s < (p0.f0.length : Int)
 ·rw [if_pos c13w] at H
  have hb_ : (decide (x13s < (p0.f0.length : Int))) = true := decide_eq_true c13w
  try rw [hb_] at h13v
  clear hb_
  refine wp_then h13v rfl ?_
  refine wp_skip ?_
  refine wp_seq ?_
  refine wp_block ?_
  refine wp_seq ?_
  refine WL.start ?_
  refine WL.bl 2 2 h13v [(5, i6 x13s), (11, i6 x13s)] (fun a13x h13y => ?_)
  refine WL.dn ?_
  refine wp_seq ?_
  refine WL.start ?_
  refine WL.bl 1 1 h13y [(12, pt g13d)] (fun a13z h140 => ?_)
  refine WL.oq h140 rfl ?_
  refine owp_rn (.slice A0q0 p0.f0.length c0q0) h140 rfl (run_load1 rfl rfl Try.underlying54 rfl (hS13q.cell (i := 0) rfl)) (fun a141 h142 => ?_)
  refine WL.bl 1 3 h142 [(14, i6 x13s)] (fun a143 h144 => ?_)
  clear h13v a13u h13y a13x h140 a13z h142 a141
  by_cases c145 : 0 ≤ x13s
  ·rw [if_pos c145] at H
   have hi148 : 0 ≤ x13s := by first | assumption | omega
   have hi149 : x13s < (p0.f0.length : Int) := by first | assumption | omega
   obtain ⟨ad146, _, ha147, -, -⟩ := Rds.elemAny hp0q0 hi148 (gt_get (z := z61) hi148 hi149)
   refine WL.oq h144 rfl ?_
   refine owp_rn (.pointer (some (ad146.add (x13s.toNat * 6)))) h144 rfl (run_idx (ad := ad146) (sz := 6) rfl (by rw [← ha147]; rfl) rfl Try.underlying54 (by kernel_rfl) hi148 hi149) (fun a14a h14b => ?_)
   refine WL.bl 1 5 h14b [(16, .pointer (some ((ad146.add (x13s.toNat * 6)).add 0)))] (fun a14c h14d => ?_)
   obtain ⟨ad14e, cs14f, ha14g, hr14i, hc14h⟩ := Rds.elemAny hp0q0 hi148 (gt_get (z := z61) hi148 hi149)
   rw [ha147] at ha14g; obtain rfl := Option.some.inj ha14g
   obtain rfl := k61qrd hr14i
   refine WL.oq h14d rfl ?_
   refine owp_rn (.int .u32 ((gt z61 p0.f0 x13s).f0)) h14d rfl (run_load1 rfl rfl Try.underlying25 rfl (hc14h _ (fun _ _ hk_ => hS13q.kn hk_) 0 _ rfl)) (fun a14j h14k => ?_)
   refine WL.bl 2 8 h14k [(19, .bool (decide (((gt z61 p0.f0 x13s).f0) = p1))), (18, .int .u32 p1)] (fun a14l h14m => ?_)
   refine WL.dn ?_
   clear h144 a143 h14b a14a h14d a14c h14k a14j
   by_cases c14n : ((gt z61 p0.f0 x13s).f0) = p1
   ·rw [if_pos c14n] at H
    have hb_ : (decide (((gt z61 p0.f0 x13s).f0) = p1)) = true := decide_eq_true c14n
    try rw [hb_] at h14m
    clear hb_
    refine wp_then h14m rfl ?_
    refine wp_seq ?_
    refine WL.start ?_
    refine WL.bl 2 2 h14m [(4, i6 x13s), (20, i6 x13s)] (fun a14o h14p => ?_)
    refine WL.dn ?_
    refine wp_ret ?_
    have hS14q := hS13q.drop_
    obtain rfl := Option.some.inj H
    repeat (first | with_reducible refine t1 ?_ | with_reducible refine t2 ?_ | with_reducible refine t3 ?_)
    refine bret (i6 x13s) h14p ?_
    exact ⟨rfl, hS14q⟩
   ·rw [if_neg c14n] at H
    have hb_ : (decide (((gt z61 p0.f0 x13s).f0) = p1)) = false := decide_eq_false c14n
    try rw [hb_] at h14m
    clear hb_
    refine wp_else h14m rfl ?_
    refine wp_skip ?_
    refine WL.start ?_
    refine WL.bl 2 2 h14m [(9, i6 (IntKind.i64.wrap (x13s + 1))), (21, i6 (IntKind.i64.wrap (x13s + 1)))] (fun a14r h14s => ?_)
    refine WL.dn ?_
    exact ⟨kk13t, by omega, IntKind.i64.wrap (x13s + 1), h14s.keep ⟨rfl, rfl, rfl, rfl, trivial⟩, ⟨H⟩, ⟨by omega⟩, ⟨hS13q⟩⟩
  ·rw [if_neg c145] at H
   cases H
 ·rw [if_neg c13w] at H
  have hb_ : (decide (x13s < (p0.f0.length : Int))) = false := decide_eq_false c13w
  try rw [hb_] at h13v
  clear hb_
  refine wp_else h13v rfl ?_
  refine wp_exit ?_
  refine wp_seq ?_
  refine WL.start ?_
  refine WL.bl 1 1 h13v [(4, i6 (-1))] (fun a14t h14u => ?_)
  refine WL.dn ?_
  refine wp_ret ?_
  have hS14v := hS13q.drop_
  obtain rfl := Option.some.inj H
  repeat (first | with_reducible refine t1 ?_ | with_reducible refine t2 ?_ | with_reducible refine t3 ?_)
  refine bret (i6 (-1)) h14u ?_
  exact ⟨rfl, hS14v⟩

/-! ### (louver/louverref13.R).Last -/
def louverref13qR_Last.f (p0 : S56) : Option (Int) := some (IntKind.i64.wrap ((p0.f0.length : Int) - p0.f1))
set_option maxHeartbeats 20000000 in
set_option maxRecDepth 100000 in
theorem louverref13qR_Last.calls {b : Nat} {w0 W : World} {R : Frag} {Fs : List Frag} {p0 : S56} {v0q0 : Value} {r0q : Int} (hp0q0 : Rds k61 b w0 R v0q0 p0.f0) (H : louverref13qR_Last.f p0 = some r0q) (hS : St b w0 W R (Fs)) :
  Calls Try.prog 51 ([.agg #[v0q0, i6 p0.f1, i6 p0.f2.f0, .bool p0.f2.f1]] : List Value).toArray W (fun e W' => e = .returned (i6 r0q) ∧ St b w0 W' R (Fs)) := by
 obtain ⟨A0q0, c0q0, rfl⟩ := hp0q0.form
 unfold louverref13qR_Last.f at H
 refine calls_enter Try.func51 rfl 9 rfl (by kernel_rfl) (fun a h => ?_)
 refine wp_seq ?_
 refine WL.start ?_
 refine WL.oq h rfl ?_
 refine owp_nw (fun g_ => (pt g_)) (.cells ([.slice A0q0 p0.f0.length c0q0, i6 p0.f1, i6 p0.f2.f0, .bool p0.f2.f1] : List Value).toArray 56 (0, 0)) h rfl hS (fun a10i W10k g10l h10j hS10m => ?_)
 refine WL.bl 1 2 h10j [(2, i6 0)] (fun a10n h10o => ?_)
 refine WL.dn ?_
 refine wp_seq ?_
 refine WL.start ?_
 refine WL.bl 1 1 h10o [(3, pt g10l)] (fun a10p h10q => ?_)
 refine WL.oq h10q rfl ?_
 refine owp_rn (.slice A0q0 p0.f0.length c0q0) h10q rfl (run_load1 rfl rfl Try.underlying54 rfl (hS10m.cell (i := 0) rfl)) (fun a10r h10s => ?_)
 refine WL.bl 2 4 h10s [(6, .pointer (some ⟨g10l, 1, none⟩)), (5, i6 (p0.f0.length : Int))] (fun a10t h10u => ?_)
 refine WL.oq h10u rfl ?_
 refine owp_rn (i6 p0.f1) h10u rfl (run_load1 rfl rfl Try.underlying3 rfl (hS10m.cell (i := 1) rfl)) (fun a10v h10w => ?_)
 refine WL.bl 2 7 h10w [(2, i6 (IntKind.i64.wrap ((p0.f0.length : Int) - p0.f1))), (8, i6 (IntKind.i64.wrap ((p0.f0.length : Int) - p0.f1)))] (fun a10x h10y => ?_)
 refine WL.dn ?_
 refine wp_ret ?_
 have hS10z := hS10m.drop_
 obtain rfl := Option.some.inj H
 repeat (first | with_reducible refine t1 ?_ | with_reducible refine t2 ?_ | with_reducible refine t3 ?_)
 refine bret (i6 (IntKind.i64.wrap ((p0.f0.length : Int) - p0.f1))) h10y ?_
 exact ⟨rfl, hS10z⟩

/-! ### (louver/louverref13.R).Open -/
def louverref13qR_Open.f (k : Nat) (p0 : S56) (p1 : Int) (p2 : Int) : Option (S56 × Bool) := if p1 = 0 then (some ((⟨p0.f0, p0.f1, (⟨p0.f2.f0, p0.f2.f1⟩ : S41)⟩ : S56), false)) else (bnd1 (louverref13qR_Find.f k (⟨p0.f0, p0.f1, (⟨p0.f2.f0, p0.f2.f1⟩ : S41)⟩ : S56) p1) fun r171 => (if r171 ≥ 0 then (some ((⟨p0.f0, p0.f1, (⟨p0.f2.f0, p0.f2.f1⟩ : S41)⟩ : S56), false)) else (bnd1 (louverref13qR_Last.f (⟨p0.f0, p0.f1, (⟨p0.f2.f0, p0.f2.f1⟩ : S41)⟩ : S56)) fun r17v => (if 0 ≤ r17v then (if r17v ≤ (p0.f0.length : Int) then (if ([] : List S61).length + (p0.f0.take r17v.toNat).length ≤ 2932031007402 then (lt1 (([] : List S61) ++ (p0.f0.take r17v.toNat) : List S61) fun y193 => (bnd1 (louverref10qNew.f p2 true) fun r19d => (if y193.length + 1 ≤ 2932031007402 then (lt1 (y193 ++ ([(⟨p1, ([] : List UInt8), false, false, (⟨r19d.f0, r19d.f1⟩ : S41)⟩ : S61)] : List S61) : List S61) fun y1a2 => (if y1a2.length + (p0.f0.drop r17v.toNat).length ≤ 2932031007402 then (lt1 (y1a2 ++ (p0.f0.drop r17v.toNat) : List S61) fun y1ax => (some ((⟨y1ax, p0.f1, (⟨p0.f2.f0, p0.f2.f1⟩ : S41)⟩ : S56), true))) else (none))) else (none)))) else (none)) else (none)) else (none)))))
set_option maxHeartbeats 20000000 in
set_option maxRecDepth 100000 in
theorem louverref13qR_Open.calls (k : Nat) {b : Nat} {w0 W : World} {R : Frag} {Fs : List Frag} {p0 : S56} {p1 : Int} {p2 : Int} {v0q0 : Value} {M0q0 : Frag} {r0q : S56} {r1q : Bool} (hp0q0 : Row k61 61 b w0 R v0q0 p0.f0 M0q0) (H : louverref13qR_Open.f k p0 p1 p2 = some (r0q, r1q)) (hS : St b w0 W R (M0q0 :: Fs)) :
  Calls Try.prog 38 ([.agg #[v0q0, i6 p0.f1, i6 p0.f2.f0, .bool p0.f2.f1], .int .u32 p1, i6 p2] : List Value).toArray W (fun e W' => ∃ (u0qv0qf0 : Value) (Nu0qv0qf0 : Frag), e = .returned (.tuple #[.agg #[u0qv0qf0, i6 r0q.f1, i6 r0q.f2.f0, .bool r0q.f2.f1], .bool r1q]) ∧ Row k61 61 b w0 R u0qv0qf0 r0q.f0 Nu0qv0qf0 ∧ St b w0 W' R (Nu0qv0qf0 :: Fs)) := by
 obtain ⟨A0q0, c0q0, rfl⟩ := hp0q0.form
 unfold louverref13qR_Open.f at H
 refine calls_enter Try.func38 rfl 43 rfl (by kernel_rfl) (fun a h => ?_)
 refine wp_seq ?_
 refine WL.start ?_
 refine WL.oq h rfl ?_
 refine owp_nw (fun g_ => (pt g_)) (.cells ([.slice A0q0 p0.f0.length c0q0, i6 p0.f1, i6 p0.f2.f0, .bool p0.f2.f1] : List Value).toArray 56 (0, 0)) h rfl hS (fun a15t W15v g15w h15u hS15x => ?_)
 refine WL.oq h15u rfl ?_
 refine owp_nw (fun g_ => (pt g_)) (.cells ([.slice none 0 0, i6 0, i6 0, .bool false] : List Value).toArray 56 (0, 0)) h15u rfl hS15x (fun a15y W160 g161 h15z hS162 => ?_)
 refine WL.bl 1 3 h15z [(7, .bool false)] (fun a163 h164 => ?_)
 refine WL.dn ?_
 refine wp_seq ?_
 refine wp_seq ?_
 refine WL.start ?_
 refine WL.bl 3 3 h164 [(12, .bool (decide (p1 = 0))), (11, .bool (decide (p1 = 0))), (10, .int .u32 p1)] (fun a165 h166 => ?_)
 clear h15u a15t h15z a15y h164 a163
 by_cases c167 : p1 = 0
 ·rw [if_pos c167] at H
  have hb_ : (decide (p1 = 0)) = true := decide_eq_true c167
  try rw [hb_] at h166
  clear hb_
  refine WL.sk h166 rfl rfl (fun a168 h169 => ?_)
  refine WL.sk h169 rfl rfl (fun a16a h16b => ?_)
  refine WL.sk h16b rfl rfl (fun a16c h16d => ?_)
  refine WL.sk h16d rfl rfl (fun a16e h16f => ?_)
  refine WL.bl 1 8 h16f [(17, .bool true)] (fun a16g h16h => ?_)
  refine WL.dn ?_
  refine wp_then h16h rfl ?_
  refine wp_seq ?_
  refine WL.start ?_
  have hS16i := hS162.b1
  refine WL.oq h16h rfl ?_
  refine owp_rn (.agg #[.slice A0q0 p0.f0.length c0q0, i6 p0.f1, i6 p0.f2.f0, .bool p0.f2.f1]) h16h rfl (run_loadN rfl rfl Try.underlying56 rfl (cs := [.slice A0q0 p0.f0.length c0q0, i6 p0.f1, i6 p0.f2.f0, .bool p0.f2.f1]) (by kernel_rfl) (hS16i.cells (vs := [.slice A0q0 p0.f0.length c0q0, i6 p0.f1, i6 p0.f2.f0, .bool p0.f2.f1]) rfl)) (fun a16j h16k => ?_)
  have hS16l := hS16i.b1
  refine WL.oq h16k rfl ?_
  refine owp_st 0 [.slice A0q0 p0.f0.length c0q0, i6 p0.f1, i6 p0.f2.f0, .bool p0.f2.f1] h16k rfl rfl rfl hS16l [.slice A0q0 p0.f0.length c0q0, i6 p0.f1, i6 p0.f2.f0, .bool p0.f2.f1] (fun a16m W16o h16n hS16p => ?_)
  refine WL.bl 1 3 h16n [(7, .bool false)] (fun a16q h16r => ?_)
  refine WL.dn ?_
  refine wp_ret ?_
  have hS16s := hS16p.drop_
  have hS16t := hS16s.drop_
  obtain ⟨rfl, rfl⟩ := ret2 H
  repeat (first | with_reducible refine t1 ?_ | with_reducible refine t2 ?_ | with_reducible refine t3 ?_)
  refine body_ret (v := .tuple #[.agg #[.slice A0q0 p0.f0.length c0q0, i6 p0.f1, i6 p0.f2.f0, .bool p0.f2.f1], .bool false]) h16r (by kernel_rfl) (res_many (xs := [ResultVar.cell 6 56, ResultVar.tmp 7]) rfl ⟨⟨_, rfl, loadVarN Try.underlying56 rfl (cs := [.slice A0q0 p0.f0.length c0q0, i6 p0.f1, i6 p0.f2.f0, .bool p0.f2.f1]) (by kernel_rfl) (hS16p.cells (vs := [.slice A0q0 p0.f0.length c0q0, i6 p0.f1, i6 p0.f2.f0, .bool p0.f2.f1]) rfl)⟩, rfl, trivial⟩ rfl) ?_
  exact ⟨.slice A0q0 p0.f0.length c0q0, M0q0, rfl, hp0q0, hS16t⟩
 ·rw [if_neg c167] at H
  have hb_ : (decide (p1 = 0)) = false := decide_eq_false c167
  try rw [hb_] at h166
  clear hb_
  have hS16u := hS162.b1
  refine WL.oq h166 rfl ?_
  refine owp_rn (.agg #[.slice A0q0 p0.f0.length c0q0, i6 p0.f1, i6 p0.f2.f0, .bool p0.f2.f1]) h166 rfl (run_loadN rfl rfl Try.underlying56 rfl (cs := [.slice A0q0 p0.f0.length c0q0, i6 p0.f1, i6 p0.f2.f0, .bool p0.f2.f1]) (by kernel_rfl) (hS16u.cells (vs := [.slice A0q0 p0.f0.length c0q0, i6 p0.f1, i6 p0.f2.f0, .bool p0.f2.f1]) rfl)) (fun a16v h16w => ?_)
  refine WL.oq h16w rfl (owp_rk (.int .u32 p1) h16w rfl (fun a16x h16y => ?_))
  have hS16z := hS16u.b2
  obtain ⟨r171, A170, H⟩ := bind1 H
  refine WL.oq h16y rfl ?_
  refine owp_call [.agg #[.slice A0q0 p0.f0.length c0q0, i6 p0.f1, i6 p0.f2.f0, .bool p0.f2.f1], .int .u32 p1] h16y rfl (by kernel_rfl) rfl Try.func25 (by kernel_rfl) rfl (by kernel_rfl) (louverref13qR_Find.calls (p0 := (⟨p0.f0, p0.f1, (⟨p0.f2.f0, p0.f2.f1⟩ : S41)⟩ : S56)) k hp0q0.rds A170 (hS16z.pool)) (fun e173 W172 hp174 => ?_)
  obtain ⟨rfl, hS177⟩ := hp174
  have hS178 : St b w0 W172 R (M0q0 :: (bx g15w 56 [.slice A0q0 p0.f0.length c0q0, i6 p0.f1, i6 p0.f2.f0, .bool p0.f2.f1]) :: (bx g161 56 [.slice none 0 0, i6 0, i6 0, .bool false]) :: Fs) := hS177.unpool
  refine ⟨_, rfl, fun a175 h176 => ?_⟩
  refine WL.oq h176 rfl (owp_rk (.bool (decide (r171 ≥ 0))) h176 rfl (fun a179 h17a => ?_))
  refine WL.bl 1 8 h17a [(17, .bool (decide (r171 ≥ 0)))] (fun a17b h17c => ?_)
  refine WL.dn ?_
  clear h166 a165 h16w a16v h16y a16x h176 a175 h17a a179
  by_cases c17d : r171 ≥ 0
  ·rw [if_pos c17d] at H
   have hb_ : (decide (r171 ≥ 0)) = true := decide_eq_true c17d
   try rw [hb_] at h17c
   clear hb_
   refine wp_then h17c rfl ?_
   refine wp_seq ?_
   refine WL.start ?_
   have hS17e := hS178.b1
   refine WL.oq h17c rfl ?_
   refine owp_rn (.agg #[.slice A0q0 p0.f0.length c0q0, i6 p0.f1, i6 p0.f2.f0, .bool p0.f2.f1]) h17c rfl (run_loadN rfl rfl Try.underlying56 rfl (cs := [.slice A0q0 p0.f0.length c0q0, i6 p0.f1, i6 p0.f2.f0, .bool p0.f2.f1]) (by kernel_rfl) (hS17e.cells (vs := [.slice A0q0 p0.f0.length c0q0, i6 p0.f1, i6 p0.f2.f0, .bool p0.f2.f1]) rfl)) (fun a17f h17g => ?_)
   have hS17h := hS17e.b2
   refine WL.oq h17g rfl ?_
   refine owp_st 0 [.slice A0q0 p0.f0.length c0q0, i6 p0.f1, i6 p0.f2.f0, .bool p0.f2.f1] h17g rfl rfl rfl hS17h [.slice A0q0 p0.f0.length c0q0, i6 p0.f1, i6 p0.f2.f0, .bool p0.f2.f1] (fun a17i W17k h17j hS17l => ?_)
   refine WL.bl 1 3 h17j [(7, .bool false)] (fun a17m h17n => ?_)
   refine WL.dn ?_
   refine wp_ret ?_
   have hS17o := hS17l.drop_
   have hS17p := hS17o.drop_
   obtain ⟨rfl, rfl⟩ := ret2 H
   repeat (first | with_reducible refine t1 ?_ | with_reducible refine t2 ?_ | with_reducible refine t3 ?_)
   refine body_ret (v := .tuple #[.agg #[.slice A0q0 p0.f0.length c0q0, i6 p0.f1, i6 p0.f2.f0, .bool p0.f2.f1], .bool false]) h17n (by kernel_rfl) (res_many (xs := [ResultVar.cell 6 56, ResultVar.tmp 7]) rfl ⟨⟨_, rfl, loadVarN Try.underlying56 rfl (cs := [.slice A0q0 p0.f0.length c0q0, i6 p0.f1, i6 p0.f2.f0, .bool p0.f2.f1]) (by kernel_rfl) (hS17l.cells (vs := [.slice A0q0 p0.f0.length c0q0, i6 p0.f1, i6 p0.f2.f0, .bool p0.f2.f1]) rfl)⟩, rfl, trivial⟩ rfl) ?_
   exact ⟨.slice A0q0 p0.f0.length c0q0, M0q0, rfl, hp0q0, hS17p⟩
  ·rw [if_neg c17d] at H
   have hb_ : (decide (r171 ≥ 0)) = false := decide_eq_false c17d
   try rw [hb_] at h17c
   clear hb_
   refine wp_else h17c rfl ?_
   refine wp_skip ?_
   refine wp_seq ?_
   refine WL.start ?_
   have hS17q := hS178.b1
   refine WL.oq h17c rfl ?_
   refine owp_rn (.agg #[.slice A0q0 p0.f0.length c0q0, i6 p0.f1, i6 p0.f2.f0, .bool p0.f2.f1]) h17c rfl (run_loadN rfl rfl Try.underlying56 rfl (cs := [.slice A0q0 p0.f0.length c0q0, i6 p0.f1, i6 p0.f2.f0, .bool p0.f2.f1]) (by kernel_rfl) (hS17q.cells (vs := [.slice A0q0 p0.f0.length c0q0, i6 p0.f1, i6 p0.f2.f0, .bool p0.f2.f1]) rfl)) (fun a17r h17s => ?_)
   have hS17t := hS17q.b1
   obtain ⟨r17v, A17u, H⟩ := bind1 H
   refine WL.oq h17s rfl ?_
   refine owp_call [.agg #[.slice A0q0 p0.f0.length c0q0, i6 p0.f1, i6 p0.f2.f0, .bool p0.f2.f1]] h17s rfl (by kernel_rfl) rfl Try.func51 (by kernel_rfl) rfl (by kernel_rfl) (louverref13qR_Last.calls (p0 := (⟨p0.f0, p0.f1, (⟨p0.f2.f0, p0.f2.f1⟩ : S41)⟩ : S56)) hp0q0.rds A17u (hS17t.pool)) (fun e17x W17w hp17y => ?_)
   obtain ⟨rfl, hS181⟩ := hp17y
   have hS182 : St b w0 W17w R (M0q0 :: (bx g15w 56 [.slice A0q0 p0.f0.length c0q0, i6 p0.f1, i6 p0.f2.f0, .bool p0.f2.f1]) :: (bx g161 56 [.slice none 0 0, i6 0, i6 0, .bool false]) :: Fs) := hS181.unpool
   refine ⟨_, rfl, fun a17z h180 => ?_⟩
   refine WL.bl 1 3 h180 [(8, i6 r17v)] (fun a183 h184 => ?_)
   refine WL.dn ?_
   refine wp_seq ?_
   refine WL.start ?_
   refine WL.oq h184 rfl ?_
   refine owp_nw (fun g_ => .slice (some ⟨g_, 0, none⟩) 0 0) (.cells ([] : List Value).toArray 61 (0, 0)) h184 rfl hS182 (fun a185 W187 g188 h186 hS189 => ?_)
   have hr18a : Row k61 61 b w0 R (.slice (some ⟨g188, 0, none⟩) 0 0) ([] : List S61) (bx g188 61 []) := Row.lit (xs := ([] : List S61)) (Mi := []) ⟨rfl, rfl⟩ (by simp [maxLen])
   refine WL.bl 1 2 h186 [(9, .slice (some ⟨g188, 0, none⟩) 0 0)] (fun a18b h18c => ?_)
   refine WL.dn ?_
   refine wp_seq ?_
   refine WL.start ?_
   refine WL.bl 2 2 h18c [(23, pt g15w), (22, .slice (some ⟨g188, 0, none⟩) 0 0)] (fun a18d h18e => ?_)
   have hS18f := hS189.b2
   refine WL.oq h18e rfl ?_
   refine owp_rn (.slice A0q0 p0.f0.length c0q0) h18e rfl (run_load1 rfl rfl Try.underlying54 rfl (hS18f.cell (i := 0) rfl)) (fun a18g h18h => ?_)
   refine WL.bl 1 4 h18h [(25, i6 r17v)] (fun a18i h18j => ?_)
   clear h17c a17b h17s a17r h180 a17z h184 a183 h186 a185 h18c a18b h18e a18d h18h a18g
   by_cases c18k : 0 ≤ r17v
   ·rw [if_pos c18k] at H
    by_cases c18l : r17v ≤ (p0.f0.length : Int)
    ·rw [if_pos c18l] at H
     refine WL.oq h18j rfl ?_
     refine owp_rn (sliced A0q0 (0 : Int).toNat r17v.toNat c0q0 6) h18j rfl (run_cut (l := 0) (h := r17v) rfl rfl Try.underlying54 (by kernel_rfl) rfl ⟨_, rfl⟩ (by first | assumption | omega) (by first | assumption | omega) (by have q_ := Rds.cap hp0q0.rds; omega) (by have q_ := Rds.cap hp0q0.rds; omega)) (fun a18n h18o => ?_)
     have hx18m := Rds.cut hp0q0.rds (l := (0 : Int).toNat) (h := r17v.toNat) (by omega) (by omega)
     obtain ⟨v18p, ev18q⟩ : ∃ y_, y_ = sliced A0q0 (0 : Int).toNat r17v.toNat c0q0 6 := ⟨_, rfl⟩
     have hx_ : Rds k61 b w0 (M0q0 ++ R) v18p (p0.f0.take r17v.toNat) := hx18m.as_ ev18q.symm (by simp)
     rw [← ev18q] at h18o; clear hx18m
     have hx18m := hx_; clear hx_
     obtain ⟨A18r, c18s, rfl⟩ := hx18m.form
     clear h18j a18i
     by_cases c18t : ([] : List S61).length + (p0.f0.take r17v.toNat).length ≤ 2932031007402
     ·rw [if_pos c18t] at H
      have hS18u := hS18f.b2
      have hS18v := hS18u.b2
      refine WL.oq h18o rfl ?_
      refine owp_app_rds (z := .agg #[.int .u32 0, .string (mkS []), .bool false, .bool false, i6 0, .bool false]) (bytes := 48) (dk := k61) h18o rfl (by kernel_rfl) rfl rfl rfl k61qflat (Row.mono (up (M := M0q0)) hr18a) hx18m (hS18v.bring 1 rfl rfl).pool Try.underlying54 (by kernel_rfl) rfl (by decide) (by decide) (by first | omega | (simp only [List.length_cons, List.length_nil] at *; omega)) (fun a18w W18y v18z M190 h18x hr191 hS192 => ?_)
      replace hr191 := Row.ind (R' := R) k61qind hr191
      replace hS192 := hS192.unpool.bring 1 rfl rfl
      obtain ⟨y193, hy194, H⟩ := lete H
      have hr195 : Row k61 61 b w0 R v18z y193 M190 := by rw [hy194]; exact hr191
      clear hr191
      obtain ⟨A196, c197, rfl⟩ := hr195.form
      refine WL.bl 1 7 h18x [(9, .slice A196 y193.length c197)] (fun a198 h199 => ?_)
      refine WL.dn ?_
      refine wp_seq ?_
      refine WL.start ?_
      refine WL.bl 3 3 h199 [(30, i6 p2), (29, .int .u32 p1), (28, .slice A196 y193.length c197)] (fun a19a h19b => ?_)
      obtain ⟨r19d, A19c, H⟩ := bind1 H
      refine WL.oq h19b rfl ?_
      refine owp_call [i6 p2, .bool true] h19b rfl (by kernel_rfl) rfl Try.func17 (by kernel_rfl) rfl (by kernel_rfl) (louverref10qNew.calls  A19c hS192) (fun e19f W19e hp19g => ?_)
      obtain ⟨rfl, hS19j⟩ := hp19g
      refine ⟨_, rfl, fun a19h h19i => ?_⟩
      refine WL.bl 1 5 h19i [(32, .agg #[.int .u32 p1, .string (mkS []), .bool false, .bool false, i6 r19d.f0, .bool r19d.f1])] (fun a19k h19l => ?_)
      obtain ⟨_, hrep_, hMe_⟩ := k61qmk (b := b) (w0 := w0) (R := R) (x := (⟨p1, ([] : List UInt8), false, false, (⟨r19d.f0, r19d.f1⟩ : S41)⟩ : S61)) 
      subst hMe_
      have hq19m := hrep_; clear hrep_
      refine WL.oq h19l rfl ?_
      refine owp_nw (fun g_ => .slice (some ⟨g_, 0, none⟩) 1 1) (.cells ([.int .u32 p1, .string (mkS []), .bool false, .bool false, i6 r19d.f0, .bool r19d.f1] : List Value).toArray 61 (0, 0)) h19l rfl hS19j (fun a19n W19p g19q h19o hS19r => ?_)
      have hr19s : Row k61 61 b w0 R (.slice (some ⟨g19q, 0, none⟩) 1 1) ([(⟨p1, ([] : List UInt8), false, false, (⟨r19d.f0, r19d.f1⟩ : S41)⟩ : S61)] : List S61) (bx g19q 61 [.int .u32 p1, .string (mkS []), .bool false, .bool false, i6 r19d.f0, .bool r19d.f1]) := Row.lit (xs := ([(⟨p1, ([] : List UInt8), false, false, (⟨r19d.f0, r19d.f1⟩ : S41)⟩ : S61)] : List S61)) (Mi := []) ⟨_, _, [], _, rfl, rfl, hq19m, ⟨rfl, rfl⟩⟩ (by simp [maxLen])
      clear h18o a18n h18x a18w h199 a198 h19b a19a h19i a19h h19l a19k
      by_cases c19t : y193.length + 1 ≤ 2932031007402
      ·rw [if_pos c19t] at H
       have hS19u := hS19r.b1
       refine WL.oq h19o rfl ?_
       refine owp_app_take (z := .agg #[.int .u32 0, .string (mkS []), .bool false, .bool false, i6 0, .bool false]) (bytes := 48) (dk := k61) h19o rfl (by kernel_rfl) rfl rfl rfl hr195 hr19s hS19u Try.underlying54 (by kernel_rfl) rfl (by decide) (by decide) (by first | omega | (simp only [List.length_cons, List.length_nil] at *; omega)) (fun a19v W19x v19y M19z h19w hr1a0 hS1a1 => ?_)
       obtain ⟨y1a2, hy1a3, H⟩ := lete H
       have hr1a4 : Row k61 61 b w0 R v19y y1a2 M19z := by rw [hy1a3]; exact hr1a0
       clear hr1a0
       obtain ⟨A1a5, c1a6, rfl⟩ := hr1a4.form
       refine WL.bl 1 8 h19w [(9, .slice A1a5 y1a2.length c1a6)] (fun a1a7 h1a8 => ?_)
       refine WL.dn ?_
       refine wp_seq ?_
       refine WL.start ?_
       refine WL.bl 2 2 h1a8 [(36, pt g15w), (35, .slice A1a5 y1a2.length c1a6)] (fun a1a9 h1aa => ?_)
       have hS1ab := hS1a1.b2
       refine WL.oq h1aa rfl ?_
       refine owp_rn (.slice A0q0 p0.f0.length c0q0) h1aa rfl (run_load1 rfl rfl Try.underlying54 rfl (hS1ab.cell (i := 0) rfl)) (fun a1ac h1ad => ?_)
       refine WL.bl 1 4 h1ad [(38, i6 r17v)] (fun a1ae h1af => ?_)
       refine WL.oq h1af rfl ?_
       refine owp_rn (sliced A0q0 r17v.toNat (p0.f0.length : Int).toNat c0q0 6) h1af rfl (run_cut (l := r17v) (h := (p0.f0.length : Int)) rfl rfl Try.underlying54 (by kernel_rfl) ⟨_, rfl⟩ rfl (by first | assumption | omega) (by first | assumption | omega) (by have q_ := Rds.cap hp0q0.rds; omega) (by have q_ := Rds.cap hp0q0.rds; omega)) (fun a1ah h1ai => ?_)
       have hx1ag := Rds.cut hp0q0.rds (l := r17v.toNat) (h := (p0.f0.length : Int).toNat) (by omega) (by omega)
       obtain ⟨v1aj, ev1ak⟩ : ∃ y_, y_ = sliced A0q0 r17v.toNat (p0.f0.length : Int).toNat c0q0 6 := ⟨_, rfl⟩
       have hx_ : Rds k61 b w0 (M0q0 ++ R) v1aj (p0.f0.drop r17v.toNat) := hx1ag.as_ ev1ak.symm (by simp)
       rw [← ev1ak] at h1ai; clear hx1ag
       have hx1ag := hx_; clear hx_
       obtain ⟨A1al, c1am, rfl⟩ := hx1ag.form
       clear h19o a19n h19w a19v h1a8 a1a7 h1aa a1a9 h1ad a1ac h1af a1ae
       by_cases c1an : y1a2.length + (p0.f0.drop r17v.toNat).length ≤ 2932031007402
       ·rw [if_pos c1an] at H
        have hS1ao := hS1ab.b2
        have hS1ap := hS1ao.b2
        refine WL.oq h1ai rfl ?_
        refine owp_app_rds (z := .agg #[.int .u32 0, .string (mkS []), .bool false, .bool false, i6 0, .bool false]) (bytes := 48) (dk := k61) h1ai rfl (by kernel_rfl) rfl rfl rfl k61qflat (Row.mono (up (M := M0q0)) hr1a4) hx1ag (hS1ap.bring 1 rfl rfl).pool Try.underlying54 (by kernel_rfl) rfl (by decide) (by decide) (by first | omega | (simp only [List.length_cons, List.length_nil] at *; omega)) (fun a1aq W1as v1at M1au h1ar hr1av hS1aw => ?_)
        replace hr1av := Row.ind (R' := R) k61qind hr1av
        replace hS1aw := hS1aw.unpool.bring 1 rfl rfl
        obtain ⟨y1ax, hy1ay, H⟩ := lete H
        have hr1az : Row k61 61 b w0 R v1at y1ax M1au := by rw [hy1ay]; exact hr1av
        clear hr1av
        obtain ⟨A1b0, c1b1, rfl⟩ := hr1az.form
        refine WL.bl 1 7 h1ar [(41, pt g15w)] (fun a1b2 h1b3 => ?_)
        have hS1b4 := hS1aw.b2
        refine WL.oq h1b3 rfl ?_
        refine owp_st 0 [.slice A1b0 y1ax.length c1b1] h1b3 rfl rfl rfl hS1b4 [.slice A1b0 y1ax.length c1b1, i6 p0.f1, i6 p0.f2.f0, .bool p0.f2.f1] (fun a1b5 W1b7 h1b6 hS1b8 => ?_)
        refine WL.dn ?_
        refine wp_seq ?_
        refine WL.start ?_
        refine WL.oq h1b6 rfl ?_
        refine owp_rn (.agg #[.slice A1b0 y1ax.length c1b1, i6 p0.f1, i6 p0.f2.f0, .bool p0.f2.f1]) h1b6 rfl (run_loadN rfl rfl Try.underlying56 rfl (cs := [.slice A1b0 y1ax.length c1b1, i6 p0.f1, i6 p0.f2.f0, .bool p0.f2.f1]) (by kernel_rfl) (hS1b8.cells (vs := [.slice A1b0 y1ax.length c1b1, i6 p0.f1, i6 p0.f2.f0, .bool p0.f2.f1]) rfl)) (fun a1b9 h1ba => ?_)
        have hS1bb := hS1b8.b3
        refine WL.oq h1ba rfl ?_
        refine owp_st 0 [.slice A1b0 y1ax.length c1b1, i6 p0.f1, i6 p0.f2.f0, .bool p0.f2.f1] h1ba rfl rfl rfl hS1bb [.slice A1b0 y1ax.length c1b1, i6 p0.f1, i6 p0.f2.f0, .bool p0.f2.f1] (fun a1bc W1be h1bd hS1bf => ?_)
        refine WL.bl 1 3 h1bd [(7, .bool true)] (fun a1bg h1bh => ?_)
        refine WL.dn ?_
        refine wp_ret ?_
        have hS1bi := hS1bf.drop_
        have hS1bj := hS1bi.drop_
        have hS1bk := hS1bj.b1
        have hS1bl := hS1bk.drop_
        obtain ⟨rfl, rfl⟩ := ret2 H
        repeat (first | with_reducible refine t1 ?_ | with_reducible refine t2 ?_ | with_reducible refine t3 ?_)
        refine body_ret (v := .tuple #[.agg #[.slice A1b0 y1ax.length c1b1, i6 p0.f1, i6 p0.f2.f0, .bool p0.f2.f1], .bool true]) h1bh (by kernel_rfl) (res_many (xs := [ResultVar.cell 6 56, ResultVar.tmp 7]) rfl ⟨⟨_, rfl, loadVarN Try.underlying56 rfl (cs := [.slice A1b0 y1ax.length c1b1, i6 p0.f1, i6 p0.f2.f0, .bool p0.f2.f1]) (by kernel_rfl) (hS1bf.cells (vs := [.slice A1b0 y1ax.length c1b1, i6 p0.f1, i6 p0.f2.f0, .bool p0.f2.f1]) rfl)⟩, rfl, trivial⟩ rfl) ?_
        exact ⟨.slice A1b0 y1ax.length c1b1, M1au, rfl, hr1az, hS1bl⟩
       ·rw [if_neg c1an] at H
        cases H
      ·rw [if_neg c19t] at H
       cases H
     ·rw [if_neg c18t] at H
      cases H
    ·rw [if_neg c18l] at H
     cases H
   ·rw [if_neg c18k] at H
    cases H

/-! ### (louver/louverref13.R).with -/
def louverref13qR_with.f (p0 : S56) (p1 : Int) (p2 : S61) : Option (S56) := if ([] : List S61).length + p0.f0.length ≤ 2932031007402 then (lt1 (([] : List S61) ++ p0.f0 : List S61) fun y13k => (if 0 ≤ p1 then (if p1 < (y13k.length : Int) then (lt1 (y13k.set p1.toNat (⟨p2.f0, p2.f1, p2.f2, p2.f3, (⟨p2.f4.f0, p2.f4.f1⟩ : S41)⟩ : S61) : List S61) fun y14b => (some (⟨y14b, p0.f1, (⟨p0.f2.f0, p0.f2.f1⟩ : S41)⟩ : S56))) else (none)) else (none))) else (none)
set_option maxHeartbeats 20000000 in
set_option maxRecDepth 100000 in
theorem louverref13qR_with.calls {b : Nat} {w0 W : World} {R : Frag} {Fs : List Frag} {p0 : S56} {p1 : Int} {p2 : S61} {v0q0 : Value} {M0q0 : Frag} {r0q : S56} (hp0q0 : Row k61 61 b w0 R v0q0 p0.f0 M0q0) (H : louverref13qR_with.f p0 p1 p2 = some r0q) (hS : St b w0 W R (M0q0 :: Fs)) :
  Calls Try.prog 52 ([.agg #[v0q0, i6 p0.f1, i6 p0.f2.f0, .bool p0.f2.f1], i6 p1, .agg #[.int .u32 p2.f0, .string (mkS p2.f1), .bool p2.f2, .bool p2.f3, i6 p2.f4.f0, .bool p2.f4.f1]] : List Value).toArray W (fun e W' => ∃ (u0qv0qf0 : Value) (Nu0qv0qf0 : Frag), e = .returned (.agg #[u0qv0qf0, i6 r0q.f1, i6 r0q.f2.f0, .bool r0q.f2.f1]) ∧ Row k61 61 b w0 R u0qv0qf0 r0q.f0 Nu0qv0qf0 ∧ St b w0 W' R (Nu0qv0qf0 :: Fs)) := by
 obtain ⟨A0q0, c0q0, rfl⟩ := hp0q0.form
 unfold louverref13qR_with.f at H
 refine calls_enter Try.func52 rfl 20 rfl (by kernel_rfl) (fun a h => ?_)
 refine wp_seq ?_
 refine WL.start ?_
 refine WL.oq h rfl ?_
 refine owp_nw (fun g_ => (pt g_)) (.cells ([.slice A0q0 p0.f0.length c0q0, i6 p0.f1, i6 p0.f2.f0, .bool p0.f2.f1] : List Value).toArray 56 (0, 0)) h rfl hS (fun a12i W12k g12l h12j hS12m => ?_)
 refine WL.oq h12j rfl ?_
 refine owp_nw (fun g_ => (pt g_)) (.cells ([.int .u32 p2.f0, .string (mkS p2.f1), .bool p2.f2, .bool p2.f3, i6 p2.f4.f0, .bool p2.f4.f1] : List Value).toArray 61 (0, 0)) h12j rfl hS12m (fun a12n W12p g12q h12o hS12r => ?_)
 refine WL.oq h12o rfl ?_
 refine owp_nw (fun g_ => (pt g_)) (.cells ([.slice none 0 0, i6 0, i6 0, .bool false] : List Value).toArray 56 (0, 0)) h12o rfl hS12r (fun a12s W12u g12v h12t hS12w => ?_)
 refine WL.dn ?_
 refine wp_seq ?_
 refine WL.start ?_
 refine WL.oq h12t rfl ?_
 refine owp_nw (fun g_ => .slice (some ⟨g_, 0, none⟩) 0 0) (.cells ([] : List Value).toArray 61 (0, 0)) h12t rfl hS12w (fun a12x W12z g130 h12y hS131 => ?_)
 have hr132 : Row k61 61 b w0 R (.slice (some ⟨g130, 0, none⟩) 0 0) ([] : List S61) (bx g130 61 []) := Row.lit (xs := ([] : List S61)) (Mi := []) ⟨rfl, rfl⟩ (by simp [maxLen])
 refine WL.bl 1 2 h12y [(7, .slice (some ⟨g130, 0, none⟩) 0 0)] (fun a133 h134 => ?_)
 refine WL.dn ?_
 refine wp_seq ?_
 refine WL.start ?_
 refine WL.bl 2 2 h134 [(10, pt g12l), (9, .slice (some ⟨g130, 0, none⟩) 0 0)] (fun a135 h136 => ?_)
 have hS137 := hS131.b3
 refine WL.oq h136 rfl ?_
 refine owp_rn (.slice A0q0 p0.f0.length c0q0) h136 rfl (run_load1 rfl rfl Try.underlying54 rfl (hS137.cell (i := 0) rfl)) (fun a138 h139 => ?_)
 clear h12j a12i h12o a12n h12t a12s h12y a12x h134 a133 h136 a135
 by_cases c13a : ([] : List S61).length + p0.f0.length ≤ 2932031007402
 ·rw [if_pos c13a] at H
  have hS13b := hS137.b4
  have hS13c := hS13b.b2
  refine WL.oq h139 rfl ?_
  refine owp_app_keep (z := .agg #[.int .u32 0, .string (mkS []), .bool false, .bool false, i6 0, .bool false]) (bytes := 48) (dk := k61) h139 rfl (by kernel_rfl) rfl rfl rfl k61qno hr132 hp0q0 hS13c Try.underlying54 (by kernel_rfl) rfl (by decide) (by decide) (by first | omega | (simp only [List.length_cons, List.length_nil] at *; omega)) (fun a13d W13f v13g M13h h13e hr13i hS13j => ?_)
  obtain ⟨y13k, hy13l, H⟩ := lete H
  have hr13m : Row k61 61 b w0 R v13g y13k M13h := by rw [hy13l]; exact hr13i
  clear hr13i
  obtain ⟨A13n, c13o, rfl⟩ := hr13m.form
  refine WL.bl 1 5 h13e [(7, .slice A13n y13k.length c13o)] (fun a13p h13q => ?_)
  refine WL.dn ?_
  refine wp_seq ?_
  refine WL.start ?_
  refine WL.bl 2 2 h13q [(14, i6 p1), (13, .slice A13n y13k.length c13o)] (fun a13r h13s => ?_)
  have hS13t := hS13j.b4
  refine WL.oq h13s rfl ?_
  refine owp_rn (.agg #[.int .u32 p2.f0, .string (mkS p2.f1), .bool p2.f2, .bool p2.f3, i6 p2.f4.f0, .bool p2.f4.f1]) h13s rfl (run_loadN rfl rfl Try.underlying61 rfl (cs := [.int .u32 p2.f0, .string (mkS p2.f1), .bool p2.f2, .bool p2.f3, i6 p2.f4.f0, .bool p2.f4.f1]) (by kernel_rfl) (hS13t.cells (vs := [.int .u32 p2.f0, .string (mkS p2.f1), .bool p2.f2, .bool p2.f3, i6 p2.f4.f0, .bool p2.f4.f1]) rfl)) (fun a13u h13v => ?_)
  clear h139 a138 h13e a13d h13q a13p h13s a13r
  by_cases c13w : 0 ≤ p1
  ·rw [if_pos c13w] at H
   by_cases c13x : p1 < (y13k.length : Int)
   ·rw [if_pos c13x] at H
    have hi140 : 0 ≤ p1 := by first | assumption | omega
    have hi141 : p1 < (y13k.length : Int) := by first | assumption | omega
    obtain ⟨ad13y, _, ha13z, -, -⟩ := Rds.elemAny hr13m.rds hi140 (gt_get (z := z61) hi140 hi141)
    refine WL.oq h13v rfl ?_
    refine owp_rn (.pointer (some (ad13y.add (p1.toNat * 6)))) h13v rfl (run_idx (ad := ad13y) (sz := 6) rfl (by rw [← ha13z]; rfl) rfl Try.underlying54 (by kernel_rfl) hi140 hi141) (fun a142 h143 => ?_)
    have hS144 := hS13t.b1
    refine WL.oq h143 rfl ?_
    refine owp_setelem (j := 0) (vs := [.int .u32 p2.f0, .string (mkS p2.f1), .bool p2.f2, .bool p2.f3, i6 p2.f4.f0, .bool p2.f4.f1]) (x' := (⟨p2.f0, p2.f1, p2.f2, p2.f3, (⟨p2.f4.f0, p2.f4.f1⟩ : S41)⟩ : S61)) h143 rfl (by kernel_rfl) rfl rfl rfl rfl (by simp [Value.oneCell']) (by kernel_rfl) ha13z hr13m hS144 hi140 (gt_get (z := z61) hi140 hi141) (Nat.le_refl _) (by intro cs_ Mx_ hr_; obtain ⟨rfl, rfl⟩ := k61qrep hr_; obtain ⟨_, hk_, rfl⟩ := k61qmk (b := b) (w0 := w0) (R := R) (x := (⟨p2.f0, p2.f1, p2.f2, p2.f3, (⟨p2.f4.f0, p2.f4.f1⟩ : S41)⟩ : S61)); exact hk_) (fun a145 W147 M148 h146 hr149 hS14a => ?_)
    obtain ⟨y14b, hy14c, H⟩ := lete H
    have hl14d : y14b.length = y13k.length := by simp [hy14c]
    have hr14e : Row k61 61 b w0 R (.slice A13n y14b.length c13o) y14b M148 := by rw [hl14d]; rw [hy14c]; exact hr149
    have h14f : Hd a145 20 [(0, .agg #[.slice A0q0 p0.f0.length c0q0, i6 p0.f1, i6 p0.f2.f0, .bool p0.f2.f1]), (1, i6 p1), (2, .agg #[.int .u32 p2.f0, .string (mkS p2.f1), .bool p2.f2, .bool p2.f3, i6 p2.f4.f0, .bool p2.f4.f1]), (3, pt g12l), (5, pt g12q), (6, pt g12v), (7, .slice A13n y14b.length c13o), (8, .slice (some ⟨g130, 0, none⟩) 0 0), (9, .slice (some ⟨g130, 0, none⟩) 0 0), (10, pt g12l), (11, .slice A0q0 p0.f0.length c0q0), (12, .slice A13n y14b.length c13o), (13, .slice A13n y14b.length c13o), (14, i6 p1), (15, .agg #[.int .u32 p2.f0, .string (mkS p2.f1), .bool p2.f2, .bool p2.f3, i6 p2.f4.f0, .bool p2.f4.f1]), (16, .pointer (some (ad13y.add (p1.toNat * 6))))] := h146.keep ⟨rfl, rfl, rfl, rfl, rfl, rfl, (by rw [hl14d] <;> rfl), rfl, rfl, rfl, rfl, (by rw [hl14d] <;> rfl), (by rw [hl14d] <;> rfl), rfl, rfl, rfl, trivial⟩
    clear h146
    refine WL.dn ?_
    refine wp_seq ?_
    refine WL.start ?_
    refine WL.bl 2 2 h14f [(18, pt g12l), (17, .slice A13n y14b.length c13o)] (fun a14g h14h => ?_)
    have hS14i := hS14a.b3
    refine WL.oq h14h rfl ?_
    refine owp_st 0 [.slice A13n y14b.length c13o] h14h rfl rfl rfl hS14i [.slice A13n y14b.length c13o, i6 p0.f1, i6 p0.f2.f0, .bool p0.f2.f1] (fun a14j W14l h14k hS14m => ?_)
    refine WL.dn ?_
    refine wp_seq ?_
    refine WL.start ?_
    refine WL.oq h14k rfl ?_
    refine owp_rn (.agg #[.slice A13n y14b.length c13o, i6 p0.f1, i6 p0.f2.f0, .bool p0.f2.f1]) h14k rfl (run_loadN rfl rfl Try.underlying56 rfl (cs := [.slice A13n y14b.length c13o, i6 p0.f1, i6 p0.f2.f0, .bool p0.f2.f1]) (by kernel_rfl) (hS14m.cells (vs := [.slice A13n y14b.length c13o, i6 p0.f1, i6 p0.f2.f0, .bool p0.f2.f1]) rfl)) (fun a14n h14o => ?_)
    have hS14p := hS14m.b4
    refine WL.oq h14o rfl ?_
    refine owp_st 0 [.slice A13n y14b.length c13o, i6 p0.f1, i6 p0.f2.f0, .bool p0.f2.f1] h14o rfl rfl rfl hS14p [.slice A13n y14b.length c13o, i6 p0.f1, i6 p0.f2.f0, .bool p0.f2.f1] (fun a14q W14s h14r hS14t => ?_)
    refine WL.dn ?_
    refine wp_ret ?_
    have hS14u := hS14t.drop_
    have hS14v := hS14u.drop_
    have hS14w := hS14v.b1
    have hS14x := hS14w.drop_
    have hS14y := hS14x.b1
    have hS14z := hS14y.drop_
    obtain rfl := Option.some.inj H
    repeat (first | with_reducible refine t1 ?_ | with_reducible refine t2 ?_ | with_reducible refine t3 ?_)
    refine body_ret (v := .agg #[.slice A13n y14b.length c13o, i6 p0.f1, i6 p0.f2.f0, .bool p0.f2.f1]) h14r (by kernel_rfl) (res_one rfl ⟨_, rfl, loadVarN Try.underlying56 rfl (cs := [.slice A13n y14b.length c13o, i6 p0.f1, i6 p0.f2.f0, .bool p0.f2.f1]) (by kernel_rfl) (hS14t.cells (vs := [.slice A13n y14b.length c13o, i6 p0.f1, i6 p0.f2.f0, .bool p0.f2.f1]) rfl)⟩) ?_
    exact ⟨.slice A13n y14b.length c13o, M148, rfl, hr14e, hS14z⟩
   ·rw [if_neg c13x] at H
    cases H
  ·rw [if_neg c13w] at H
   cases H
 ·rw [if_neg c13a] at H
  cases H
end Go.Proofs.Ytikfpmieadfllaa.Sl
