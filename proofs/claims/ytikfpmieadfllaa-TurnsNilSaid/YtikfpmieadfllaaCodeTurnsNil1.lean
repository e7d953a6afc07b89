/- What the functions of this program compute, told as plain functions, and that the calls come to just that. Printed by this session's program; part 1. -/
import Derived.Test.YtikfpmieadfllaaProg
import Derived.Test.YtikfpmieadfllaaSlY
set_option linter.unusedVariables false
set_option linter.unusedSimpArgs false
set_option linter.unnecessarySimpa false
namespace Go.Proofs.Ytikfpmieadfllaa.Sl
open Go Go.RowKit Go.Proofs.Sl
structure S94 where
 f0 : Int
 f1 : Bool
 deriving DecidableEq
def z94 : S94 := ⟨(0 : Int), false⟩
def k94 : Kd S94 := kIso (kPair (kInt .i64) kBool) (fun x : S94 => (x.f0, x.f1))
theorem k94qflat : k94.Flat := kIso_flat (kPair_flat (kInt_flat _) kBool_flat)
theorem k94qind : k94.Ind := kIso_ind (kPair_ind (kInt_ind _) kBool_ind)
theorem k94qrd {b : Nat} {w0 : World} {R : Frag} {x : S94} {cs : List Value} (h : k94.rd b w0 R x cs) : cs = [i6 x.f0, .bool x.f1] := by
 obtain ⟨c100, c101, rfl, h102, h103⟩ := h
 obtain rfl := h102
 obtain rfl := h103
 exact rfl
theorem k94qrep {b : Nat} {w0 : World} {R : Frag} {x : S94} {cs : List Value} {M : Frag} (h : k94.rep b w0 R x cs M) : cs = [i6 x.f0, .bool x.f1] ∧ M = [] := by
 obtain ⟨c104, c105, M108, M109, rfl, rfl, h106, h107⟩ := h
 obtain ⟨rfl, rfl⟩ := h106
 obtain ⟨rfl, rfl⟩ := h107
 exact ⟨rfl, by simp⟩
theorem k94qno {b : Nat} {w0 : World} {R : Frag} {x : S94} {cs : List Value} {M : Frag} (h : k94.rep b w0 R x cs M) : M = [] := by
 obtain ⟨_, hM_⟩ := k94qrep h
 exact hM_
theorem k94qmk {b : Nat} {w0 : World} {R : Frag} {x : S94}  : ∃ M, k94.rep b w0 R x [i6 x.f0, .bool x.f1] M ∧ M = [] := ⟨_, ⟨_, _, _, _, rfl, rfl, ⟨rfl, rfl⟩, ⟨rfl, rfl⟩⟩, by simp⟩
theorem k94qop {b : Nat} {w0 W : World} {R : Frag} {Ms : List Frag} {v : Value} {M : Frag} {y0 : Int} {y1 : Bool} (h : Ptr k94 94 b w0 R v (⟨y0, y1⟩ : S94) M) (hS : St b w0 W R (M :: Ms)) : ∃ (g : Nat), v = (pt g) ∧ St b w0 W R ((bx g 94 [i6 y0, .bool y1]) :: Ms) := by
 obtain ⟨g, cs, Mx, rfl, rfl, hr⟩ := h
 obtain ⟨rfl, hM2q⟩ := k94qrep hr
 rw [hM2q] at hS
 exact ⟨g, rfl, hS.assoc (by simp only [List.flatten_cons, List.append_assoc, List.cons_append, List.nil_append, List.append_nil])⟩
theorem k94qoq {b : Nat} {w0 W : World} {R : Frag} {Ms : List Frag} {g : Nat} {M : Frag} {y0 : Int} {y1 : Bool} (h : Ptr k94 94 b w0 R (pt g) (⟨y0, y1⟩ : S94) M) (hS : St b w0 W R (M :: Ms)) : St b w0 W R ((bx g 94 [i6 y0, .bool y1]) :: Ms) := by
 obtain ⟨g', hv, hS'⟩ := k94qop h hS
 obtain rfl : g = g' := by simpa using hv
 exact hS'
theorem k94qfo {b : Nat} {w0 W : World} {R : Frag} {Ms : List Frag} {g : Nat} {y0 : Int} {y1 : Bool} (x : S94)  (hS : St b w0 W R ((bx g 94 [i6 y0, .bool y1]) :: Ms)) (hx : x = (⟨y0, y1⟩ : S94) := by rfl) : ∃ M, Ptr k94 94 b w0 R (pt g) x M ∧ St b w0 W R (M :: Ms) := by
 subst hx
 obtain ⟨M, hr, hM⟩ := k94qmk (b := b) (w0 := w0) (R := R) (x := (⟨y0, y1⟩ : S94)) 
 exact ⟨_, ⟨g, _, M, rfl, rfl, hr⟩, hS.assoc (by rw [hM] <;> simp only [List.flatten_cons, List.append_assoc, List.cons_append, List.nil_append, List.append_nil])⟩
/-! ### (*louver/window.Window).Left -/
def window_Window_Left.f (p0 : S94) : Option (Int) := some p0.f0
set_option maxHeartbeats 20000000 in
set_option maxRecDepth 100000 in
theorem window_Window_Left.calls {b : Nat} {w0 W : World} {R : Frag} {Fs : List Frag} {p0 : S94}  {v0 : Value} {M0 : Frag} {r0q : Int} (hp0 : Ptr k94 94 b w0 R v0 p0 M0) (H : window_Window_Left.f p0 = some r0q) (hS : St b w0 W R (M0 :: Fs)) :
  Calls Try.prog 30 ([v0] : List Value).toArray W (fun e W' => ∃ (O0q : Frag), e = .returned (i6 r0q) ∧ Ptr k94 94 b w0 R v0 p0 O0q ∧ St b w0 W' R (O0q :: Fs)) := by
 unfold window_Window_Left.f at H
 refine calls_enter Try.func30 rfl 9 rfl (by kernel_rfl) (fun a h => ?_)
 refine wp_seq ?_
 refine WL.start ?_
 refine WL.bl 1 1 h [(2, i6 0)] (fun a10r h10s => ?_)
 refine WL.dn ?_
 refine wp_seq ?_
 refine wp_seq ?_
 refine WL.start ?_
 refine WL.bl 1 1 h10s [(3, v0)] (fun a10t h10u => ?_)
 obtain ⟨g10w, rfl, hS10v⟩ := k94qop hp0 hS
 refine WL.bl 1 2 h10u [(4, .bool false)] (fun a10x h10y => ?_)
 refine WL.dn ?_
 refine wp_else h10y rfl ?_
 refine wp_skip ?_
 refine wp_seq ?_
 refine WL.start ?_
 refine WL.bl 3 3 h10y [(7, pt g10w), (6, pt g10w), (5, pt g10w)] (fun a10z h110 => ?_)
 refine WL.oq h110 rfl ?_
 refine owp_rn (i6 p0.f0) h110 rfl (run_load1 rfl rfl Try.underlying2 rfl (hS10v.cell (i := 0) rfl)) (fun a111 h112 => ?_)
 refine WL.bl 1 5 h112 [(2, i6 p0.f0)] (fun a113 h114 => ?_)
 refine WL.dn ?_
 refine wp_ret ?_
 obtain ⟨M115, hp116, hS117⟩ := k94qfo p0 hS10v
 obtain rfl := Option.some.inj H
 repeat (first | with_reducible refine t1 ?_ | with_reducible refine t2 ?_ | with_reducible refine t3 ?_)
 refine bret (i6 p0.f0) h114 ?_
 exact ⟨M115, rfl, hp116, hS117⟩

structure S72 where
 f0 : Int
 f1 : (List Int)
 f2 : Bool
 f3 : Bool
 f4 : S94
 deriving DecidableEq
def z72 : S72 := ⟨(0 : Int), [], false, false, z94⟩
def k72 : Kd S72 := kIso (kPair (kInt .u32) (kPair (kRow (kInt .u8) 5) (kPair kBool (kPair kBool (kPtr k94 94))))) (fun x : S72 => (x.f0, (x.f1, (x.f2, (x.f3, x.f4)))))
theorem k72qind : k72.Ind := kIso_ind (kPair_ind (kInt_ind _) (kPair_ind (kRow_ind (kInt_ind _)) (kPair_ind kBool_ind (kPair_ind kBool_ind (kPtr_ind k94qind)))))
theorem k72qrep {b : Nat} {w0 : World} {R : Frag} {x : S72} {cs : List Value} {M : Frag} (h : k72.rep b w0 R x cs M) : ∃ (vf1 : Value) (vf4 : Value), ∃ (Mvf1 : Frag) (Mvf4 : Frag), cs = [.int .u32 x.f0, vf1, .bool x.f2, .bool x.f3, vf4] ∧ M = Mvf1 ++ Mvf4 ∧ Row (kInt .u8) 5 b w0 R vf1 x.f1 Mvf1 ∧ Ptr k94 94 b w0 R vf4 x.f4 Mvf4 := by
 obtain ⟨c100, c101, M104, M105, rfl, rfl, h102, h103⟩ := h
 obtain ⟨c106, c107, M10a, M10b, rfl, rfl, h108, h109⟩ := h103
 obtain ⟨c10c, c10d, M10g, M10h, rfl, rfl, h10e, h10f⟩ := h109
 obtain ⟨c10i, c10j, M10m, M10n, rfl, rfl, h10k, h10l⟩ := h10f
 obtain ⟨rfl, rfl⟩ := h102
 obtain ⟨v10o, rfl, g10p⟩ := h108
 obtain ⟨rfl, rfl⟩ := h10e
 obtain ⟨rfl, rfl⟩ := h10k
 obtain ⟨v10q, rfl, g10r⟩ := h10l
 exact ⟨v10o, v10q, _, _, rfl, by simp, g10p, g10r⟩
theorem k72qmk {b : Nat} {w0 : World} {R : Frag} {x : S72} {vf1 : Value} {Mvf1 : Frag} (gvf1 : Row (kInt .u8) 5 b w0 R vf1 x.f1 Mvf1) {vf4 : Value} {Mvf4 : Frag} (gvf4 : Ptr k94 94 b w0 R vf4 x.f4 Mvf4) : ∃ M, k72.rep b w0 R x [.int .u32 x.f0, vf1, .bool x.f2, .bool x.f3, vf4] M ∧ M = Mvf1 ++ Mvf4 := ⟨_, ⟨_, _, _, _, rfl, rfl, ⟨rfl, rfl⟩, ⟨_, _, _, _, rfl, rfl, ⟨vf1, rfl, gvf1⟩, ⟨_, _, _, _, rfl, rfl, ⟨rfl, rfl⟩, ⟨_, _, _, _, rfl, rfl, ⟨rfl, rfl⟩, ⟨vf4, rfl, gvf4⟩⟩⟩⟩⟩, by simp⟩
theorem k72qop {b : Nat} {w0 W : World} {R : Frag} {Ms : List Frag} {v : Value} {M : Frag} {y0 : Int} {y1 : (List Int)} {y2 : Bool} {y3 : Bool} {y4 : S94} (h : Ptr k72 72 b w0 R v (⟨y0, y1, y2, y3, y4⟩ : S72) M) (hS : St b w0 W R (M :: Ms)) : ∃ (g : Nat) (A1 : Option Addr) (c1 : Nat) (g4 : Nat) (M1 : Frag) (M4 : Frag), v = (pt g) ∧ Row (kInt .u8) 5 b w0 R (.slice A1 y1.length c1) y1 M1 ∧ Ptr k94 94 b w0 R (pt g4) y4 M4 ∧ St b w0 W R ((bx g 72 [.int .u32 y0, .slice A1 y1.length c1, .bool y2, .bool y3, pt g4]) :: M1 :: M4 :: Ms) := by
 obtain ⟨g, cs, Mx, rfl, rfl, hr⟩ := h
 obtain ⟨v1, v4, M1, M4, rfl, hM2q, h1, h4⟩ := k72qrep hr
 rw [hM2q] at hS
 obtain ⟨A1, c1, rfl⟩ := h1.form
 obtain ⟨g4, rfl⟩ := h4.ptr_form
 exact ⟨g, A1, c1, g4, M1, M4, rfl, h1, h4, hS.assoc (by simp only [List.flatten_cons, List.append_assoc, List.cons_append, List.nil_append, List.append_nil])⟩
theorem k72qoq {b : Nat} {w0 W : World} {R : Frag} {Ms : List Frag} {g : Nat} {M : Frag} {y0 : Int} {y1 : (List Int)} {y2 : Bool} {y3 : Bool} {y4 : S94} (h : Ptr k72 72 b w0 R (pt g) (⟨y0, y1, y2, y3, y4⟩ : S72) M) (hS : St b w0 W R (M :: Ms)) : ∃ (A1 : Option Addr) (c1 : Nat) (g4 : Nat) (M1 : Frag) (M4 : Frag), Row (kInt .u8) 5 b w0 R (.slice A1 y1.length c1) y1 M1 ∧ Ptr k94 94 b w0 R (pt g4) y4 M4 ∧ St b w0 W R ((bx g 72 [.int .u32 y0, .slice A1 y1.length c1, .bool y2, .bool y3, pt g4]) :: M1 :: M4 :: Ms) := by
 obtain ⟨g', A1, c1, g4, M1, M4, hv, h1, h4, hS'⟩ := k72qop h hS
 obtain rfl : g = g' := by simpa using hv
 exact ⟨A1, c1, g4, M1, M4, h1, h4, hS'⟩
theorem k72qfo {b : Nat} {w0 W : World} {R : Frag} {Ms : List Frag} {g : Nat} {y0 : Int} {y1 : (List Int)} {y2 : Bool} {y3 : Bool} {y4 : S94} {A1 : Option Addr} {c1 : Nat} {g4 : Nat} {M1 : Frag} {M4 : Frag} (x : S72) (h1 : Row (kInt .u8) 5 b w0 R (.slice A1 y1.length c1) y1 M1) (h4 : Ptr k94 94 b w0 R (pt g4) y4 M4) (hS : St b w0 W R ((bx g 72 [.int .u32 y0, .slice A1 y1.length c1, .bool y2, .bool y3, pt g4]) :: M1 :: M4 :: Ms)) (hx : x = (⟨y0, y1, y2, y3, y4⟩ : S72) := by rfl) : ∃ M, Ptr k72 72 b w0 R (pt g) x M ∧ St b w0 W R (M :: Ms) := by
 subst hx
 obtain ⟨M, hr, hM⟩ := k72qmk (b := b) (w0 := w0) (R := R) (x := (⟨y0, y1, y2, y3, y4⟩ : S72)) (gvf1 := h1) (gvf4 := h4)
 exact ⟨_, ⟨g, _, M, rfl, rfl, hr⟩, hS.assoc (by rw [hM] <;> simp only [List.flatten_cons, List.append_assoc, List.cons_append, List.nil_append, List.append_nil])⟩
/-! ### (*louver/turns.sender).can -/
def turns_sender_can.f (p0 : S72) (p1 : Int) : Option (Bool) := if (p0.f1.length : Int) = 0 then (if p0.f2 = true then (some (!p0.f3)) else (some false)) else (bnd1 (window_Window_Left.f p0.f4) fun r15k => (if r15k > 0 then (some (decide (p1 > 0))) else (some false)))
set_option maxHeartbeats 20000000 in
set_option maxRecDepth 100000 in
theorem turns_sender_can.calls {b : Nat} {w0 W : World} {R : Frag} {Fs : List Frag} {p0 : S72} {p1 : Int}  {v0 : Value} {M0 : Frag} {r0q : Bool} (hp0 : Ptr k72 72 b w0 R v0 p0 M0) (H : turns_sender_can.f p0 p1 = some r0q) (hS : St b w0 W R (M0 :: Fs)) :
  Calls Try.prog 29 ([v0, i6 p1] : List Value).toArray W (fun e W' => ∃ (O0q : Frag), e = .returned (.bool r0q) ∧ Ptr k72 72 b w0 R v0 p0 O0q ∧ St b w0 W' R (O0q :: Fs)) := by
 unfold turns_sender_can.f at H
 refine calls_enter Try.func29 rfl 32 rfl (by kernel_rfl) (fun a h => ?_)
 refine wp_seq ?_
 refine WL.start ?_
 refine WL.bl 1 1 h [(4, .bool false)] (fun a13n h13o => ?_)
 refine WL.dn ?_
 refine wp_seq ?_
 refine wp_seq ?_
 refine WL.start ?_
 refine WL.bl 1 1 h13o [(5, v0)] (fun a13p h13q => ?_)
 obtain ⟨g13s, A13t, c13u, g13x, M13v, M13y, rfl, hr13w, hr13z, hS13r⟩ := k72qop hp0 hS
 refine WL.bl 2 3 h13q [(7, .pointer (some ⟨g13s, 1, none⟩)), (6, pt g13s)] (fun a140 h141 => ?_)
 refine WL.oq h141 rfl ?_
 refine owp_rn (.slice A13t p0.f1.length c13u) h141 rfl (run_load1 rfl rfl Try.underlying27 rfl (hS13r.cell (i := 1) rfl)) (fun a142 h143 => ?_)
 refine WL.bl 2 6 h143 [(10, .bool (decide ((p0.f1.length : Int) = 0))), (9, i6 (p0.f1.length : Int))] (fun a144 h145 => ?_)
 refine WL.dn ?_
 clear h13o a13n h13q a13p h141 a140 h143 a142
 by_cases c146 : (p0.f1.length : Int) = 0
 ·rw [if_pos c146] at H
  have hb_ : (decide ((p0.f1.length : Int) = 0)) = true := decide_eq_true c146
  try rw [hb_] at h145
  clear hb_
  refine wp_then h145 rfl ?_
  refine wp_seq ?_
  refine WL.start ?_
  refine WL.bl 3 3 h145 [(13, .pointer (some ⟨g13s, 2, none⟩)), (12, pt g13s), (11, pt g13s)] (fun a147 h148 => ?_)
  refine WL.oq h148 rfl ?_
  refine owp_rn (.bool p0.f2) h148 rfl (run_load1 rfl rfl Try.underlying4 rfl (hS13r.cell (i := 2) rfl)) (fun a149 h14a => ?_)
  refine WL.bl 1 5 h14a [(15, .bool p0.f2)] (fun a14b h14c => ?_)
  clear h145 a144 h148 a147 h14a a149
  by_cases c14d : p0.f2 = true
  ·rw [if_pos c14d] at H
   have hb_ : p0.f2 = true := c14d
   try rw [hb_] at h14c
   clear hb_
   refine WL.oq h14c rfl (owp_rk (pt g13s) h14c rfl (fun a14e h14f => ?_))
   refine WL.oq h14f rfl (owp_rk (pt g13s) h14f rfl (fun a14g h14h => ?_))
   refine WL.oq h14h rfl (owp_rk (.pointer (some ⟨g13s, 3, none⟩)) h14h rfl (fun a14i h14j => ?_))
   refine WL.oq h14j rfl ?_
   refine owp_rn (.bool p0.f3) h14j rfl (run_load1 rfl rfl Try.underlying4 rfl (hS13r.cell (i := 3) rfl)) (fun a14k h14l => ?_)
   refine WL.oq h14l rfl (owp_rk (.bool (!p0.f3)) h14l rfl (fun a14m h14n => ?_))
   refine WL.bl 2 12 h14n [(4, .bool (!p0.f3)), (21, .bool (!p0.f3))] (fun a14o h14p => ?_)
   refine WL.dn ?_
   refine wp_ret ?_
   have hS14q := hS13r.b2
   have hS14r := hS14q.b2
   have hS14s := hS14r.b2
   obtain ⟨M14t, hp14u, hS14v⟩ := k72qfo p0 hr13w hr13z hS14s
   obtain rfl := Option.some.inj H
   repeat (first | with_reducible refine t1 ?_ | with_reducible refine t2 ?_ | with_reducible refine t3 ?_)
   refine bret (.bool (!p0.f3)) h14p ?_
   exact ⟨M14t, rfl, hp14u, hS14v⟩
  ·rw [if_neg c14d] at H
   have hb_ : p0.f2 = false := (Bool.eq_false_iff.2 c14d)
   try rw [hb_] at h14c
   clear hb_
   refine WL.sk h14c rfl rfl (fun a14w h14x => ?_)
   refine WL.sk h14x rfl rfl (fun a14y h14z => ?_)
   refine WL.sk h14z rfl rfl (fun a150 h151 => ?_)
   refine WL.sk h151 rfl rfl (fun a152 h153 => ?_)
   refine WL.sk h153 rfl rfl (fun a154 h155 => ?_)
   refine WL.bl 2 12 h155 [(4, .bool false), (21, .bool false)] (fun a156 h157 => ?_)
   refine WL.dn ?_
   refine wp_ret ?_
   have hS158 := hS13r.b2
   have hS159 := hS158.b2
   have hS15a := hS159.b2
   obtain ⟨M15b, hp15c, hS15d⟩ := k72qfo p0 hr13w hr13z hS15a
   obtain rfl := Option.some.inj H
   repeat (first | with_reducible refine t1 ?_ | with_reducible refine t2 ?_ | with_reducible refine t3 ?_)
   refine bret (.bool false) h157 ?_
   exact ⟨M15b, rfl, hp15c, hS15d⟩
 ·rw [if_neg c146] at H
  have hb_ : (decide ((p0.f1.length : Int) = 0)) = false := decide_eq_false c146
  try rw [hb_] at h145
  clear hb_
  refine wp_else h145 rfl ?_
  refine wp_skip ?_
  refine wp_seq ?_
  refine WL.start ?_
  refine WL.bl 3 3 h145 [(24, .pointer (some ⟨g13s, 4, none⟩)), (23, pt g13s), (22, pt g13s)] (fun a15e h15f => ?_)
  refine WL.oq h15f rfl ?_
  refine owp_rn (pt g13x) h15f rfl (run_load1 rfl rfl Try.underlying65 rfl (hS13r.cell (i := 4) rfl)) (fun a15g h15h => ?_)
  have hS15i := hS13r.b2
  obtain ⟨r15k, A15j, H⟩ := bind1 H
  refine WL.oq h15h rfl ?_
  refine owp_call [(pt g13x)] h15h rfl (by kernel_rfl) rfl Try.func30 (by kernel_rfl) rfl (by kernel_rfl) (window_Window_Left.calls hr13z A15j hS15i) (fun e15m W15l hp15n => ?_)
  obtain ⟨M15q, rfl, hr15r, hS15s⟩ := hp15n
  refine ⟨_, rfl, fun a15o h15p => ?_⟩
  refine WL.bl 2 7 h15p [(28, .bool (decide (r15k > 0))), (27, .bool (decide (r15k > 0)))] (fun a15t h15u => ?_)
  clear h145 a144 h15f a15e h15h a15g h15p a15o
  by_cases c15v : r15k > 0
  ·rw [if_pos c15v] at H
   have hb_ : (decide (r15k > 0)) = true := decide_eq_true c15v
   try rw [hb_] at h15u
   clear hb_
   refine WL.oq h15u rfl (owp_rk (i6 p1) h15u rfl (fun a15w h15x => ?_))
   refine WL.oq h15x rfl (owp_rk (.bool (decide (p1 > 0))) h15x rfl (fun a15y h15z => ?_))
   refine WL.bl 2 11 h15z [(4, .bool (decide (p1 > 0))), (31, .bool (decide (p1 > 0)))] (fun a160 h161 => ?_)
   refine WL.dn ?_
   refine wp_ret ?_
   have hS162 := hS15s.b2
   have hS163 := hS162.b2
   obtain ⟨M164, hp165, hS166⟩ := k72qfo p0 hr13w hr15r hS163
   obtain rfl := Option.some.inj H
   repeat (first | with_reducible refine t1 ?_ | with_reducible refine t2 ?_ | with_reducible refine t3 ?_)
   refine bret (.bool (decide (p1 > 0))) h161 ?_
   exact ⟨M164, rfl, hp165, hS166⟩
  ·rw [if_neg c15v] at H
   have hb_ : (decide (r15k > 0)) = false := decide_eq_false c15v
   try rw [hb_] at h15u
   clear hb_
   refine WL.sk h15u rfl rfl (fun a167 h168 => ?_)
   refine WL.sk h168 rfl rfl (fun a169 h16a => ?_)
   refine WL.bl 2 11 h16a [(4, .bool false), (31, .bool false)] (fun a16b h16c => ?_)
   refine WL.dn ?_
   refine wp_ret ?_
   have hS16d := hS15s.b2
   have hS16e := hS16d.b2
   obtain ⟨M16f, hp16g, hS16h⟩ := k72qfo p0 hr13w hr15r hS16e
   obtain rfl := Option.some.inj H
   repeat (first | with_reducible refine t1 ?_ | with_reducible refine t2 ?_ | with_reducible refine t3 ?_)
   refine bret (.bool false) h16c ?_
   exact ⟨M16f, rfl, hp16g, hS16h⟩

/-! ### (*louver/window.Window).Take -/
def window_Window_Take.f (p0 : S94) (p1 : Int) : Option (Bool × S94) := if p1 < 0 then (some (false, p0)) else (if p1 > (mxI p0.f0 0) then (some (false, p0)) else (some (true, (⟨IntKind.i64.wrap (p0.f0 - p1), p0.f1⟩ : S94))))
set_option maxHeartbeats 20000000 in
set_option maxRecDepth 100000 in
theorem window_Window_Take.calls {b : Nat} {w0 W : World} {R : Frag} {Fs : List Frag} {p0 : S94} {p1 : Int}  {v0 : Value} {M0 : Frag} {r0q : Bool} {r1q : S94} (hp0 : Ptr k94 94 b w0 R v0 p0 M0) (H : window_Window_Take.f p0 p1 = some (r0q, r1q)) (hS : St b w0 W R (M0 :: Fs)) :
  Calls Try.prog 31 ([v0, i6 p1] : List Value).toArray W (fun e W' => ∃ (O0q : Frag), e = .returned (.bool r0q) ∧ Ptr k94 94 b w0 R v0 r1q O0q ∧ St b w0 W' R (O0q :: Fs)) := by
 unfold window_Window_Take.f at H
 refine calls_enter Try.func31 rfl 28 rfl (by kernel_rfl) (fun a h => ?_)
 refine wp_seq ?_
 refine WL.start ?_
 refine WL.bl 1 1 h [(4, .bool false)] (fun a13t h13u => ?_)
 refine WL.dn ?_
 refine wp_seq ?_
 refine wp_seq ?_
 refine WL.start ?_
 refine WL.bl 1 1 h13u [(5, v0)] (fun a13v h13w => ?_)
 obtain ⟨g13y, rfl, hS13x⟩ := k94qop hp0 hS
 refine WL.bl 2 3 h13w [(7, .bool false), (6, .bool false)] (fun a13z h140 => ?_)
 refine WL.oq h140 rfl (owp_rk (i6 p1) h140 rfl (fun a141 h142 => ?_))
 refine WL.oq h142 rfl (owp_rk (.bool (decide (p1 < 0))) h142 rfl (fun a143 h144 => ?_))
 refine WL.bl 2 7 h144 [(11, .bool (decide (p1 < 0))), (10, .bool (decide (p1 < 0)))] (fun a145 h146 => ?_)
 clear h13u a13t h13w a13v h140 a13z h142 a141 h144 a143
 by_cases c147 : p1 < 0
 ·rw [if_pos c147] at H
  have hb_ : (decide (p1 < 0)) = true := decide_eq_true c147
  try rw [hb_] at h146
  clear hb_
  refine WL.sk h146 rfl rfl (fun a148 h149 => ?_)
  refine WL.sk h149 rfl rfl (fun a14a h14b => ?_)
  refine WL.sk h14b rfl rfl (fun a14c h14d => ?_)
  refine WL.sk h14d rfl rfl (fun a14e h14f => ?_)
  refine WL.sk h14f rfl rfl (fun a14g h14h => ?_)
  refine WL.sk h14h rfl rfl (fun a14i h14j => ?_)
  refine WL.sk h14j rfl rfl (fun a14k h14l => ?_)
  refine WL.bl 1 15 h14l [(19, .bool true)] (fun a14m h14n => ?_)
  refine WL.dn ?_
  refine wp_then h14n rfl ?_
  refine wp_seq ?_
  refine WL.start ?_
  refine WL.bl 1 1 h14n [(4, .bool false)] (fun a14o h14p => ?_)
  refine WL.dn ?_
  refine wp_ret ?_
  obtain ⟨M14q, hp14r, hS14s⟩ := k94qfo p0 hS13x
  obtain ⟨rfl, rfl⟩ := ret2 H
  repeat (first | with_reducible refine t1 ?_ | with_reducible refine t2 ?_ | with_reducible refine t3 ?_)
  refine bret (.bool false) h14p ?_
  exact ⟨M14q, rfl, hp14r, hS14s⟩
 ·rw [if_neg c147] at H
  have hb_ : (decide (p1 < 0)) = false := decide_eq_false c147
  try rw [hb_] at h146
  clear hb_
  refine WL.oq h146 rfl (owp_rk (i6 p1) h146 rfl (fun a14t h14u => ?_))
  refine WL.oq h14u rfl (owp_rk (pt g13y) h14u rfl (fun a14v h14w => ?_))
  refine WL.oq h14w rfl (owp_rk (pt g13y) h14w rfl (fun a14x h14y => ?_))
  refine WL.oq h14y rfl (owp_rk (pt g13y) h14y rfl (fun a14z h150 => ?_))
  refine WL.oq h150 rfl ?_
  refine owp_rn (i6 p0.f0) h150 rfl (run_load1 rfl rfl Try.underlying2 rfl (hS13x.cell (i := 0) rfl)) (fun a151 h152 => ?_)
  refine WL.oq h152 rfl (owp_rk (i6 (mxI p0.f0 0)) h152 rfl (fun a153 h154 => ?_))
  refine WL.oq h154 rfl (owp_rk (.bool (decide (p1 > (mxI p0.f0 0)))) h154 rfl (fun a155 h156 => ?_))
  refine WL.bl 1 15 h156 [(19, .bool (decide (p1 > (mxI p0.f0 0))))] (fun a157 h158 => ?_)
  refine WL.dn ?_
  clear h146 a145 h14u a14t h14w a14v h14y a14x h150 a14z h152 a151 h154 a153 h156 a155
  by_cases c159 : p1 > (mxI p0.f0 0)
  ·rw [if_pos c159] at H
   have hb_ : (decide (p1 > (mxI p0.f0 0))) = true := decide_eq_true c159
   try rw [hb_] at h158
   clear hb_
   refine wp_then h158 rfl ?_
   refine wp_seq ?_
   refine WL.start ?_
   refine WL.bl 1 1 h158 [(4, .bool false)] (fun a15a h15b => ?_)
   refine WL.dn ?_
   refine wp_ret ?_
   obtain ⟨M15c, hp15d, hS15e⟩ := k94qfo p0 hS13x
   obtain ⟨rfl, rfl⟩ := ret2 H
   repeat (first | with_reducible refine t1 ?_ | with_reducible refine t2 ?_ | with_reducible refine t3 ?_)
   refine bret (.bool false) h15b ?_
   exact ⟨M15c, rfl, hp15d, hS15e⟩
  ·rw [if_neg c159] at H
   have hb_ : (decide (p1 > (mxI p0.f0 0))) = false := decide_eq_false c159
   try rw [hb_] at h158
   clear hb_
   refine wp_else h158 rfl ?_
   refine wp_skip ?_
   refine wp_seq ?_
   refine WL.start ?_
   refine WL.bl 3 3 h158 [(22, pt g13y), (21, pt g13y), (20, pt g13y)] (fun a15f h15g => ?_)
   refine WL.oq h15g rfl ?_
   refine owp_rn (i6 p0.f0) h15g rfl (run_load1 rfl rfl Try.underlying2 rfl (hS13x.cell (i := 0) rfl)) (fun a15h h15i => ?_)
   refine WL.bl 4 8 h15i [(27, pt g13y), (26, pt g13y), (25, i6 (IntKind.i64.wrap (p0.f0 - p1))), (24, i6 p1)] (fun a15j h15k => ?_)
   refine WL.oq h15k rfl ?_
   refine owp_st 0 [i6 (IntKind.i64.wrap (p0.f0 - p1))] h15k rfl rfl rfl hS13x [i6 (IntKind.i64.wrap (p0.f0 - p1)), .bool p0.f1] (fun a15l W15n h15m hS15o => ?_)
   refine WL.dn ?_
   refine wp_seq ?_
   refine WL.start ?_
   refine WL.bl 1 1 h15m [(4, .bool true)] (fun a15p h15q => ?_)
   refine WL.dn ?_
   refine wp_ret ?_
   obtain ⟨M15r, hp15s, hS15t⟩ := k94qfo (⟨IntKind.i64.wrap (p0.f0 - p1), p0.f1⟩ : S94) hS15o
   obtain ⟨rfl, rfl⟩ := ret2 H
   repeat (first | with_reducible refine t1 ?_ | with_reducible refine t2 ?_ | with_reducible refine t3 ?_)
   refine bret (.bool true) h15q ?_
   exact ⟨M15r, rfl, hp15s, hS15t⟩

/-! ### bytes.Clone -/
def bytes_Clone.f (p0 : (List Int)) : Option ((List Int)) := if ([] : List Int).length + p0.length ≤ 140737488355328 then (lt1 (([] : List Int) ++ p0 : List Int) fun y11b => (some y11b)) else (none)
set_option maxHeartbeats 20000000 in
set_option maxRecDepth 100000 in
theorem bytes_Clone.calls {b : Nat} {w0 W : World} {R : Frag} {Fs : List Frag} {p0 : (List Int)} {v0 : Value} {r0q : (List Int)} (hp0 : Rds (kInt .u8) b w0 R v0 p0) (H : bytes_Clone.f p0 = some r0q) (hS : St b w0 W R (Fs)) :
  Calls Try.prog 32 ([v0] : List Value).toArray W (fun e W' => ∃ (u0q : Value) (N0q : Frag), e = .returned (u0q) ∧ Row (kInt .u8) 5 b w0 R u0q r0q N0q ∧ St b w0 W' R (N0q :: Fs)) := by
 obtain ⟨A0, c0, rfl⟩ := hp0.form
 obtain _ | A0 := A0
 ·have hn_ : p0 = [] := hp0.nil_of
  subst hn_
  obtain rfl : ([] : (List Int)) = r0q := by simpa [bytes_Clone.f, lt1] using H
  clear H
  have H : some ([] : (List Int)) = some [] := rfl
  refine calls_enter Try.func32 rfl 8 rfl (by kernel_rfl) (fun a h => ?_)
  refine wp_seq ?_
  refine WL.start ?_
  refine WL.bl 1 1 h [(2, .slice none 0 0)] (fun a11i h11j => ?_)
  refine WL.dn ?_
  refine wp_seq ?_
  refine wp_seq ?_
  refine WL.start ?_
  refine WL.bl 2 2 h11j [(4, .bool true), (3, .slice none 0 c0)] (fun a11k h11l => ?_)
  refine WL.dn ?_
  refine wp_then h11l rfl ?_
  refine wp_seq ?_
  refine WL.start ?_
  refine WL.bl 1 1 h11l [(2, .slice none 0 0)] (fun a11m h11n => ?_)
  refine WL.dn ?_
  refine wp_ret ?_
  skip
  repeat (first | with_reducible refine t1 ?_ | with_reducible refine t2 ?_ | with_reducible refine t3 ?_)
  refine bret (.slice none 0 0) h11n ?_
  exact ⟨.slice none 0 0, [], rfl, Row.nil, hS.nil_⟩
 ·unfold bytes_Clone.f at H
  refine calls_enter Try.func32 rfl 8 rfl (by kernel_rfl) (fun a h => ?_)
  refine wp_seq ?_
  refine WL.start ?_
  refine WL.bl 1 1 h [(2, .slice none 0 0)] (fun a10r h10s => ?_)
  refine WL.dn ?_
  refine wp_seq ?_
  refine wp_seq ?_
  refine WL.start ?_
  refine WL.bl 2 2 h10s [(4, .bool false), (3, .slice (some A0) p0.length c0)] (fun a10t h10u => ?_)
  refine WL.dn ?_
  refine wp_else h10u rfl ?_
  refine wp_skip ?_
  refine wp_seq ?_
  refine WL.start ?_
  refine WL.oq h10u rfl ?_
  refine owp_nw (fun g_ => .slice (some ⟨g_, 0, none⟩) 0 0) (.cells ([] : List Value).toArray 5 (0, 0)) h10u rfl hS (fun a10v W10x g10y h10w hS10z => ?_)
  have hr110 : Row (kInt .u8) 5 b w0 R (.slice (some ⟨g10y, 0, none⟩) 0 0) ([] : List Int) (bx g10y 5 []) := Row.lit (xs := ([] : List Int)) (Mi := []) ⟨rfl, rfl⟩ (by simp [maxLen])
  refine WL.bl 1 2 h10w [(6, .slice (some A0) p0.length c0)] (fun a111 h112 => ?_)
  clear h10s a10r h10u a10t h10w a10v
  by_cases c113 : ([] : List Int).length + p0.length ≤ 140737488355328
  ·rw [if_pos c113] at H
   refine WL.oq h112 rfl ?_
   refine owp_app_rds (z := .int .u8 0) (bytes := 1) (dk := (kInt .u8)) h112 rfl (by kernel_rfl) rfl rfl rfl (kInt_flat _) hr110 hp0 hS10z Try.underlying27 (by kernel_rfl) rfl (by decide) (by decide) (by first | omega | (simp only [List.length_cons, List.length_nil] at *; omega)) (fun a114 W116 v117 M118 h115 hr119 hS11a => ?_)
   obtain ⟨y11b, hy11c, H⟩ := lete H
   have hr11d : Row (kInt .u8) 5 b w0 R v117 y11b M118 := by rw [hy11c]; exact hr119
   clear hr119
   obtain ⟨A11e, c11f, rfl⟩ := hr11d.form
   refine WL.bl 1 4 h115 [(2, .slice A11e y11b.length c11f)] (fun a11g h11h => ?_)
   refine WL.dn ?_
   refine wp_ret ?_
   obtain rfl := Option.some.inj H
   repeat (first | with_reducible refine t1 ?_ | with_reducible refine t2 ?_ | with_reducible refine t3 ?_)
   refine bret (.slice A11e y11b.length c11f) h11h ?_
   exact ⟨.slice A11e y11b.length c11f, M118, rfl, hr11d, hS11a⟩
  ·rw [if_neg c113] at H
   cases H

structure S69 where
 f0 : (List S72)
 f1 : Int
 f2 : S94
 deriving DecidableEq
def z69 : S69 := ⟨[], (0 : Int), z94⟩
def k69 : Kd S69 := kIso (kPair (kRow (kPtr k72 72) 70) (kPair (kInt .i64) (kPtr k94 94))) (fun x : S69 => (x.f0, (x.f1, x.f2)))
theorem k69qind : k69.Ind := kIso_ind (kPair_ind (kRow_ind (kPtr_ind k72qind)) (kPair_ind (kInt_ind _) (kPtr_ind k94qind)))
theorem k69qrep {b : Nat} {w0 : World} {R : Frag} {x : S69} {cs : List Value} {M : Frag} (h : k69.rep b w0 R x cs M) : ∃ (vf0 : Value) (vf2 : Value), ∃ (Mvf0 : Frag) (Mvf2 : Frag), cs = [vf0, i6 x.f1, vf2] ∧ M = Mvf0 ++ Mvf2 ∧ Row (kPtr k72 72) 70 b w0 R vf0 x.f0 Mvf0 ∧ Ptr k94 94 b w0 R vf2 x.f2 Mvf2 := by
 obtain ⟨c100, c101, M104, M105, rfl, rfl, h102, h103⟩ := h
 obtain ⟨c106, c107, M10a, M10b, rfl, rfl, h108, h109⟩ := h103
 obtain ⟨v10c, rfl, g10d⟩ := h102
 obtain ⟨rfl, rfl⟩ := h108
 obtain ⟨v10e, rfl, g10f⟩ := h109
 exact ⟨v10c, v10e, _, _, rfl, by simp, g10d, g10f⟩
theorem k69qmk {b : Nat} {w0 : World} {R : Frag} {x : S69} {vf0 : Value} {Mvf0 : Frag} (gvf0 : Row (kPtr k72 72) 70 b w0 R vf0 x.f0 Mvf0) {vf2 : Value} {Mvf2 : Frag} (gvf2 : Ptr k94 94 b w0 R vf2 x.f2 Mvf2) : ∃ M, k69.rep b w0 R x [vf0, i6 x.f1, vf2] M ∧ M = Mvf0 ++ Mvf2 := ⟨_, ⟨_, _, _, _, rfl, rfl, ⟨vf0, rfl, gvf0⟩, ⟨_, _, _, _, rfl, rfl, ⟨rfl, rfl⟩, ⟨vf2, rfl, gvf2⟩⟩⟩, by simp⟩
theorem k69qop {b : Nat} {w0 W : World} {R : Frag} {Ms : List Frag} {v : Value} {M : Frag} {y0 : (List S72)} {y1 : Int} {y2 : S94} (h : Ptr k69 69 b w0 R v (⟨y0, y1, y2⟩ : S69) M) (hS : St b w0 W R (M :: Ms)) : ∃ (g : Nat) (A0 : Option Addr) (c0 : Nat) (g2 : Nat) (M0 : Frag) (M2 : Frag), v = (pt g) ∧ Row (kPtr k72 72) 70 b w0 R (.slice A0 y0.length c0) y0 M0 ∧ Ptr k94 94 b w0 R (pt g2) y2 M2 ∧ St b w0 W R ((bx g 69 [.slice A0 y0.length c0, i6 y1, pt g2]) :: M0 :: M2 :: Ms) := by
 obtain ⟨g, cs, Mx, rfl, rfl, hr⟩ := h
 obtain ⟨v0, v2, M0, M2, rfl, hM2q, h0, h2⟩ := k69qrep hr
 rw [hM2q] at hS
 obtain ⟨A0, c0, rfl⟩ := h0.form
 obtain ⟨g2, rfl⟩ := h2.ptr_form
 exact ⟨g, A0, c0, g2, M0, M2, rfl, h0, h2, hS.assoc (by simp only [List.flatten_cons, List.append_assoc, List.cons_append, List.nil_append, List.append_nil])⟩
theorem k69qoq {b : Nat} {w0 W : World} {R : Frag} {Ms : List Frag} {g : Nat} {M : Frag} {y0 : (List S72)} {y1 : Int} {y2 : S94} (h : Ptr k69 69 b w0 R (pt g) (⟨y0, y1, y2⟩ : S69) M) (hS : St b w0 W R (M :: Ms)) : ∃ (A0 : Option Addr) (c0 : Nat) (g2 : Nat) (M0 : Frag) (M2 : Frag), Row (kPtr k72 72) 70 b w0 R (.slice A0 y0.length c0) y0 M0 ∧ Ptr k94 94 b w0 R (pt g2) y2 M2 ∧ St b w0 W R ((bx g 69 [.slice A0 y0.length c0, i6 y1, pt g2]) :: M0 :: M2 :: Ms) := by
 obtain ⟨g', A0, c0, g2, M0, M2, hv, h0, h2, hS'⟩ := k69qop h hS
 obtain rfl : g = g' := by simpa using hv
 exact ⟨A0, c0, g2, M0, M2, h0, h2, hS'⟩
theorem k69qfo {b : Nat} {w0 W : World} {R : Frag} {Ms : List Frag} {g : Nat} {y0 : (List S72)} {y1 : Int} {y2 : S94} {A0 : Option Addr} {c0 : Nat} {g2 : Nat} {M0 : Frag} {M2 : Frag} (x : S69) (h0 : Row (kPtr k72 72) 70 b w0 R (.slice A0 y0.length c0) y0 M0) (h2 : Ptr k94 94 b w0 R (pt g2) y2 M2) (hS : St b w0 W R ((bx g 69 [.slice A0 y0.length c0, i6 y1, pt g2]) :: M0 :: M2 :: Ms)) (hx : x = (⟨y0, y1, y2⟩ : S69) := by rfl) : ∃ M, Ptr k69 69 b w0 R (pt g) x M ∧ St b w0 W R (M :: Ms) := by
 subst hx
 obtain ⟨M, hr, hM⟩ := k69qmk (b := b) (w0 := w0) (R := R) (x := (⟨y0, y1, y2⟩ : S69)) (gvf0 := h0) (gvf2 := h2)
 exact ⟨_, ⟨g, _, M, rfl, rfl, hr⟩, hS.assoc (by rw [hM] <;> simp only [List.flatten_cons, List.append_assoc, List.cons_append, List.nil_append, List.append_nil])⟩
/-! ### (*louver/turns.Ring).Next -/
def turns_Ring_Next.l0 : Nat → S69 → Int → S69 → Int → Option (Int × (List Int) × Bool × Bool × S69)
 | 0, _, _, _, _ => none
 | k + 1, x2wa, x2wd, p0, p1 => if x2wd < (p0.f0.length : Int) then (if ¬ ((x2wa.f0.length : Int) = 0) then (if 0 ≤ (Int.tmod (IntKind.i64.wrap (x2wa.f1 + x2wd)) (x2wa.f0.length : Int)) then (if (Int.tmod (IntKind.i64.wrap (x2wa.f1 + x2wd)) (x2wa.f0.length : Int)) < (x2wa.f0.length : Int) then (lt1 (gt z72 x2wa.f0 (Int.tmod (IntKind.i64.wrap (x2wa.f1 + x2wd)) (x2wa.f0.length : Int)) : S72) fun y30x => (bnd1 (window_Window_Left.f x2wa.f2) fun r31d => (bnd1 (turns_sender_can.f y30x r31d) fun r31o => (if r31o = true then (bnd1 (window_Window_Left.f y30x.f4) fun r37y => (bnd1 (window_Window_Left.f x2wa.f2) fun r38c => (bnd2 (window_Window_Take.f y30x.f4 (mnI (mnI (mnI (y30x.f1.length : Int) (mxI p1 1)) (mxI r37y 0)) (mxI r38c 0))) fun r393 r394 => (bnd2 (window_Window_Take.f x2wa.f2 (mnI (mnI (mnI (y30x.f1.length : Int) (mxI p1 1)) (mxI r37y 0)) (mxI r38c 0))) fun r39m r39n => (if 0 ≤ (mnI (mnI (mnI (y30x.f1.length : Int) (mxI p1 1)) (mxI r37y 0)) (mxI r38c 0)) then (if (mnI (mnI (mnI (y30x.f1.length : Int) (mxI p1 1)) (mxI r37y 0)) (mxI r38c 0)) ≤ (y30x.f1.length : Int) then (bnd1 (bytes_Clone.f (y30x.f1.take (mnI (mnI (mnI (y30x.f1.length : Int) (mxI p1 1)) (mxI r37y 0)) (mxI r38c 0)).toNat)) fun r3ae => (bnd1 (bytes_Clone.f (y30x.f1.drop (mnI (mnI (mnI (y30x.f1.length : Int) (mxI p1 1)) (mxI r37y 0)) (mxI r38c 0)).toNat)) fun r3b9 => (if y30x.f2 = true then (some (y30x.f0, r3ae, decide ((r3b9.length : Int) = 0), true, (⟨(x2wa.f0.set (Int.tmod (IntKind.i64.wrap (x2wa.f1 + x2wd)) (x2wa.f0.length : Int)).toNat (⟨y30x.f0, r3b9, y30x.f2, decide ((r3b9.length : Int) = 0), r394⟩ : S72)), Int.tmod (IntKind.i64.wrap ((Int.tmod (IntKind.i64.wrap (x2wa.f1 + x2wd)) (x2wa.f0.length : Int)) + 1)) (x2wa.f0.length : Int), r39n⟩ : S69))) else (some (y30x.f0, r3ae, false, true, (⟨(x2wa.f0.set (Int.tmod (IntKind.i64.wrap (x2wa.f1 + x2wd)) (x2wa.f0.length : Int)).toNat (⟨y30x.f0, r3b9, y30x.f2, false, r394⟩ : S72)), Int.tmod (IntKind.i64.wrap ((Int.tmod (IntKind.i64.wrap (x2wa.f1 + x2wd)) (x2wa.f0.length : Int)) + 1)) (x2wa.f0.length : Int), r39n⟩ : S69)))))) else (none)) else (none)))))) else (turns_Ring_Next.l0 k x2wa (IntKind.i64.wrap (x2wd + 1)) p0 p1))))) else (none)) else (none)) else (none)) else (some (0, ([] : List Int), false, false, x2wa))
def turns_Ring_Next.f (k : Nat) (p0 : S69) (p1 : Int) : Option (Int × (List Int) × Bool × Bool × S69) := turns_Ring_Next.l0 k p0 0 p0 p1
set_option maxHeartbeats 20000000 in
set_option maxRecDepth 100000 in
theorem turns_Ring_Next.calls (k : Nat) {b : Nat} {w0 W : World} {R : Frag} {Fs : List Frag} {p0 : S69} {p1 : Int}  {v0 : Value} {M0 : Frag} {r0q : Int} {r1q : (List Int)} {r2q : Bool} {r3q : Bool} {r4q : S69} (hp0 : Ptr k69 69 b w0 R v0 p0 M0) (H : turns_Ring_Next.f k p0 p1 = some (r0q, r1q, r2q, r3q, r4q)) (hS : St b w0 W R (M0 :: Fs)) :
  Calls Try.prog 11 ([v0, i6 p1] : List Value).toArray W (fun e W' => ∃ (u1q : Value) (N1q : Frag) (O0q : Frag), e = .returned (.tuple #[.int .u32 r0q, u1q, .bool r2q, .bool r3q]) ∧ Row (kInt .u8) 5 b w0 R u1q r1q N1q ∧ Ptr k69 69 b w0 R v0 r4q O0q ∧ St b w0 W' R (N1q :: O0q :: Fs)) := by
 unfold turns_Ring_Next.f at H
 refine calls_enter Try.func11 rfl 135 rfl (by kernel_rfl) (fun a h => ?_)
 refine wp_seq ?_
 refine WL.start ?_
 refine WL.bl 4 4 h [(7, .bool false), (6, .bool false), (5, .slice none 0 0), (4, .int .u32 0)] (fun a2vk h2vl => ?_)
 refine WL.dn ?_
 refine wp_seq ?_
 refine wp_seq ?_
 refine WL.start ?_
 refine WL.bl 1 1 h2vl [(13, v0)] (fun a2vm h2vn => ?_)
 obtain ⟨g2vp, A2vq, c2vr, g2vu, M2vs, M2vv, rfl, hr2vt, hr2vw, hS2vo⟩ := k69qop hp0 hS
 refine WL.bl 1 2 h2vn [(14, .bool false)] (fun a2vx h2vy => ?_)
 refine WL.dn ?_
 refine wp_else h2vy rfl ?_
 refine wp_skip ?_
 refine wp_seq ?_
 refine wp_seq ?_
 refine WL.start ?_
 refine WL.bl 3 3 h2vy [(17, pt g2vp), (16, pt g2vp), (15, pt g2vp)] (fun a2vz h2w0 => ?_)
 refine WL.oq h2w0 rfl ?_
 refine owp_rn (.slice A2vq p0.f0.length c2vr) h2w0 rfl (run_load1 rfl rfl Try.underlying67 rfl (hS2vo.cell (i := 0) rfl)) (fun a2w1 h2w2 => ?_)
 refine WL.bl 2 6 h2w2 [(20, i6 0), (19, i6 (p0.f0.length : Int))] (fun a2w3 h2w4 => ?_)
 refine WL.dn ?_
 refine wp_block ?_
 have hS2we := hS2vo.b2
 have hS2wf := hS2we.b2
 have hS2wg := hS2wf.b2
 obtain ⟨M2wh, hp2wi, hS2wj⟩ := k69qfo p0 hr2vt hr2vw hS2wg
 clear h2vl a2vk h2vn a2vm h2vy a2vx h2w0 a2vz h2w2 a2w1
 refine wp_loop_ghost (fun kq_ a_ W_ => ∃ (x2wa : S69), ∃ (M2wb : Frag), ∃ (x2wd : Int), Hd a_ 135 [(0, pt g2vp), (1, i6 p1), (19, i6 (p0.f0.length : Int)), (20, i6 x2wd)] ∧ Asd (turns_Ring_Next.l0 kq_ x2wa x2wd p0 p1 = some (r0q, r1q, r2q, r3q, r4q)) ∧ Asd (kq_ ≤ k) ∧ Asd (St b w0 W_ R (M2wb :: Fs)) ∧ Asd (Ptr k69 69 b w0 R (pt g2vp) x2wa M2wb)) k ⟨p0, M2wh, 0, h2w4.keep ⟨rfl, rfl, rfl, rfl, trivial⟩, ⟨H⟩, ⟨Nat.le_refl _⟩, ⟨hS2wj⟩, ⟨hp2wi⟩⟩ ?_
 clear H hS2wj
 rintro kk2w9 a2w6 W2w7 ⟨x2wa, M2wb, x2wd, h2w5, ⟨H⟩, ⟨hkkk2w9⟩, ⟨hS2w8⟩, ⟨hr2wc⟩⟩
 obtain _ | kk2wk := kk2w9
 ·exact absurd H (by simp [turns_Ring_Next.l0])
 simp only [turns_Ring_Next.l0] at H
 refine wp_seq ?_
 refine WL.start ?_
 refine WL.bl 1 1 h2w5 [(21, .bool (decide (x2wd < (p0.f0.length : Int))))] (fun a2wl h2wm => ?_)
 refine WL.dn ?_
 refine wp_seq ?_
 clear h2w5 a2w6
 by_cases c2wn : x2wd < (p0.f0.length : Int)
 ·rw [if_pos c2wn] at H
  have hb_ : (decide (x2wd < (p0.f0.length : Int))) = true := decide_eq_true c2wn
  try rw [hb_] at h2wm
  clear hb_
  refine wp_then h2wm rfl ?_
  refine wp_skip ?_
  refine wp_seq ?_
  refine wp_block ?_
  refine wp_seq ?_
  refine WL.start ?_
  refine WL.bl 2 2 h2wm [(8, i6 x2wd), (22, i6 x2wd)] (fun a2wo h2wp => ?_)
  refine WL.dn ?_
  refine wp_seq ?_
  obtain ⟨A2wr, c2ws, g2wv, M2wt, M2ww, hr2wu, hr2wx, hS2wq⟩ := k69qoq hr2wc hS2w8
  refine WT.start 13 (fun w_ => (w_.cell? ⟨g2vp, 1, none⟩ = some (i6 x2wa.f1)) ∧ (w_.cell? ⟨g2vp, 0, none⟩ = some (.slice A2wr x2wa.f0.length c2ws)) ∧ True) (by kernel_rfl) #[false, false, false, false, false, false, false, false, false, false, false, false, false] 13 rfl rfl ?_
  have hS2z6 := hS2wq.drew
  refine WT.tk 0 h2wp rfl rfl (pt g2vp) (fun _ _ => by kernel_rfl) ⟨(hS2z6.cell (i := 1) rfl), (hS2z6.cell (i := 0) rfl), trivial⟩ (fun a2z7 s2z9 h2z8 => ?_)
  refine WT.tk 1 h2z8 rfl rfl (pt g2vp) (fun _ _ => by kernel_rfl) s2z9 (fun a2za s2zc h2zb => ?_)
  refine WT.tk 2 h2zb rfl rfl (.pointer (some ⟨g2vp, 1, none⟩)) (fun _ _ => by kernel_rfl) s2zc (fun a2zd s2zf h2ze => ?_)
  refine WT.tk 4 h2ze rfl rfl (i6 x2wd) (fun _ _ => by kernel_rfl) s2zf (fun a2zg s2zi h2zh => ?_)
  refine WT.tk 6 h2zh rfl rfl (pt g2vp) (fun _ _ => by kernel_rfl) s2zi (fun a2zj s2zl h2zk => ?_)
  refine WT.tk 7 h2zk rfl rfl (pt g2vp) (fun _ _ => by kernel_rfl) s2zl (fun a2zm s2zo h2zn => ?_)
  refine WT.tk 8 h2zn rfl rfl (pt g2vp) (fun _ _ => by kernel_rfl) s2zo (fun a2zp s2zr h2zq => ?_)
  refine WT.tk 3 h2zq rfl rfl (i6 x2wa.f1) (fun w_ hs_ => (run_load1 rfl rfl Try.underlying3 rfl hs_.1)) s2zr (fun a2zs s2zu h2zt => ?_)
  refine WT.tk 5 h2zt rfl rfl (i6 (IntKind.i64.wrap (x2wa.f1 + x2wd))) (fun _ _ => by kernel_rfl) s2zu (fun a2zv s2zx h2zw => ?_)
  refine WT.tk 9 h2zw rfl rfl (.slice A2wr x2wa.f0.length c2ws) (fun w_ hs_ => (run_load1 rfl rfl Try.underlying67 rfl hs_.2.1)) s2zx (fun a2zy s300 h2zz => ?_)
  refine WT.tk 10 h2zz rfl rfl (i6 (x2wa.f0.length : Int)) (fun _ _ => by kernel_rfl) s300 (fun a301 s303 h302 => ?_)
  clear h2wm a2wl h2wp a2wo h2z8 a2z7 h2zb a2za h2ze a2zd h2zh a2zg h2zk a2zj h2zn a2zm h2zq a2zp h2zt a2zs h2zw a2zv h2zz a2zy
  by_cases c304 : ¬ ((x2wa.f0.length : Int) = 0)
  ·rw [if_pos c304] at H
   refine WT.tk 11 h302 rfl rfl (i6 (Int.tmod (IntKind.i64.wrap (x2wa.f1 + x2wd)) (x2wa.f0.length : Int))) (fun w_ hs_ => (run_rem rfl rfl rfl (by assumption))) s303 (fun a305 s307 h306 => ?_)
   refine WT.tk 12 h306 rfl rfl (i6 (Int.tmod (IntKind.i64.wrap (x2wa.f1 + x2wd)) (x2wa.f0.length : Int))) (fun _ _ => by kernel_rfl) s307 (fun a308 s30a h309 => ?_)
   refine WT.dn ?_
   refine wp_seq ?_
   refine WL.start ?_
   refine WL.bl 3 3 h309 [(37, pt g2vp), (36, pt g2vp), (35, pt g2vp)] (fun a30b h30c => ?_)
   refine WL.oq h30c rfl ?_
   refine owp_rn (.slice A2wr x2wa.f0.length c2ws) h30c rfl (run_load1 rfl rfl Try.underlying67 rfl (hS2z6.cell (i := 0) rfl)) (fun a30d h30e => ?_)
   refine WL.bl 1 5 h30e [(39, i6 (Int.tmod (IntKind.i64.wrap (x2wa.f1 + x2wd)) (x2wa.f0.length : Int)))] (fun a30f h30g => ?_)
   clear h302 a301 h306 a305 h309 a308 h30c a30b h30e a30d
   by_cases c30h : 0 ≤ (Int.tmod (IntKind.i64.wrap (x2wa.f1 + x2wd)) (x2wa.f0.length : Int))
   ·rw [if_pos c30h] at H
    by_cases c30i : (Int.tmod (IntKind.i64.wrap (x2wa.f1 + x2wd)) (x2wa.f0.length : Int)) < (x2wa.f0.length : Int)
    ·rw [if_pos c30i] at H
     have hi30l : 0 ≤ Int.tmod (IntKind.i64.wrap (x2wa.f1 + x2wd)) (x2wa.f0.length : Int) := by first | assumption | omega
     have hi30m : (Int.tmod (IntKind.i64.wrap (x2wa.f1 + x2wd)) (x2wa.f0.length : Int)) < (x2wa.f0.length : Int) := by first | assumption | omega
     obtain ⟨ad30j, _, ha30k, -, -⟩ := Rds.elemAny hr2wu.rds hi30l (gt_get (z := z72) hi30l hi30m)
     refine WL.oq h30g rfl ?_
     refine owp_rn (.pointer (some (ad30j.add ((Int.tmod (IntKind.i64.wrap (x2wa.f1 + x2wd)) (x2wa.f0.length : Int)).toNat * 1)))) h30g rfl (run_idx (ad := ad30j) (sz := 1) rfl (by rw [← ha30k]; rfl) rfl Try.underlying67 (by kernel_rfl) hi30l hi30m) (fun a30n h30o => ?_)
     have hS30p := hS2z6.b1
     obtain ⟨g30q, M30r, M30s, hp30t, hh30u, hm30v, hc30w⟩ := Row.openp (dk := k72) z72 hr2wu ha30k hi30l hi30m
     obtain ⟨y30x, hy30y, H⟩ := lete H
     have hr30z : Ptr k72 72 b w0 R (pt g30q) y30x M30s := by rw [hy30y]; exact hp30t
     have hS311 : St b w0 W2w7.drew R (M30s :: M30r :: (bx g2vp 69 [.slice A2wr x2wa.f0.length c2ws, i6 x2wa.f1, pt g2wv]) :: M2ww :: Fs) := hm30v _ _ hS30p
     clear hm30v hp30t hr2wu
     refine WL.oq h30o rfl ?_
     refine owp_rn (pt g30q) h30o rfl (run_load1 rfl rfl Try.underlying70 rfl (hc30w _ _ hS311.b1)) (fun a312 h313 => ?_)
     refine WL.bl 1 8 h313 [(10, pt g30q)] (fun a314 h315 => ?_)
     refine WL.dn ?_
     refine wp_seq ?_
     refine wp_seq ?_
     refine WL.start ?_
     refine WL.bl 4 4 h315 [(45, .pointer (some ⟨g2vp, 2, none⟩)), (44, pt g2vp), (43, pt g2vp), (42, pt g30q)] (fun a316 h317 => ?_)
     have hS318 := hS311.b2
     refine WL.oq h317 rfl ?_
     refine owp_rn (pt g2wv) h317 rfl (run_load1 rfl rfl Try.underlying65 rfl (hS318.cell (i := 2) rfl)) (fun a319 h31a => ?_)
     have hS31b := hS318.b3
     obtain ⟨r31d, A31c, H⟩ := bind1 H
     refine WL.oq h31a rfl ?_
     refine owp_call [(pt g2wv)] h31a rfl (by kernel_rfl) rfl Try.func30 (by kernel_rfl) rfl (by kernel_rfl) (window_Window_Left.calls hr2wx A31c hS31b) (fun e31f W31e hp31g => ?_)
     obtain ⟨M31j, rfl, hr31k, hS31l⟩ := hp31g
     refine ⟨_, rfl, fun a31h h31i => ?_⟩
     have hS31m := hS31l.b2
     obtain ⟨r31o, A31n, H⟩ := bind1 H
     refine WL.oq h31i rfl ?_
     refine owp_call [(pt g30q), i6 r31d] h31i rfl (by kernel_rfl) rfl Try.func29 (by kernel_rfl) rfl (by kernel_rfl) (turns_sender_can.calls hr30z A31n hS31m) (fun e31q W31p hp31r => ?_)
     obtain ⟨M31u, rfl, hr31v, hS31w⟩ := hp31r
     refine ⟨_, rfl, fun a31s h31t => ?_⟩
     refine WL.bl 1 8 h31t [(49, .bool (!r31o))] (fun a31x h31y => ?_)
     refine WL.dn ?_
     clear h30g a30f h30o a30n h313 a312 h315 a314 h317 a316 h31a a319 h31i a31h h31t a31s
     by_cases c31z : r31o = true
     ·rw [if_pos c31z] at H
      have hb_ : r31o = true := c31z
      try rw [hb_] at h31y
      clear hb_
      refine wp_else h31y rfl ?_
      refine wp_skip ?_
      refine wp_seq ?_
      obtain ⟨A321, c322, g325, M323, M326, hr324, hr327, hS320⟩ := k72qoq hr31v hS31w
      refine WT.start 21 (fun w_ => (w_.cell? ⟨g30q, 1, none⟩ = some (.slice A321 y30x.f1.length c322)) ∧ (w_.cell? ⟨g30q, 4, none⟩ = some (pt g325)) ∧ (w_.cell? ⟨g2vp, 2, none⟩ = some (pt g2wv)) ∧ True) (by kernel_rfl) #[false, false, false, false, false, false, false, false, false, false, false, false, false, false, false, false, false, false, false, false, false] 21 rfl rfl ?_
      have hS36m := hS320.drew
      refine WT.tk 0 h31y rfl rfl (pt g30q) (fun _ _ => by kernel_rfl) ⟨(hS36m.cell (i := 1) rfl), (hS36m.cell (i := 4) rfl), (hS36m.b4.cell (i := 2) rfl), trivial⟩ (fun a36n s36p h36o => ?_)
      refine WT.tk 1 h36o rfl rfl (pt g30q) (fun _ _ => by kernel_rfl) s36p (fun a36q s36s h36r => ?_)
      refine WT.tk 2 h36r rfl rfl (.pointer (some ⟨g30q, 1, none⟩)) (fun _ _ => by kernel_rfl) s36s (fun a36t s36v h36u => ?_)
      refine WT.tk 5 h36u rfl rfl (i6 p1) (fun _ _ => by kernel_rfl) s36v (fun a36w s36y h36x => ?_)
      refine WT.tk 6 h36x rfl rfl (i6 (mxI p1 1)) (fun _ _ => by kernel_rfl) s36y (fun a36z s371 h370 => ?_)
      refine WT.tk 7 h370 rfl rfl (pt g30q) (fun _ _ => by kernel_rfl) s371 (fun a372 s374 h373 => ?_)
      refine WT.tk 8 h373 rfl rfl (pt g30q) (fun _ _ => by kernel_rfl) s374 (fun a375 s377 h376 => ?_)
      refine WT.tk 9 h376 rfl rfl (.pointer (some ⟨g30q, 4, none⟩)) (fun _ _ => by kernel_rfl) s377 (fun a378 s37a h379 => ?_)
      refine WT.tk 13 h379 rfl rfl (pt g2vp) (fun _ _ => by kernel_rfl) s37a (fun a37b s37d h37c => ?_)
      refine WT.tk 14 h37c rfl rfl (pt g2vp) (fun _ _ => by kernel_rfl) s37d (fun a37e s37g h37f => ?_)
      refine WT.tk 15 h37f rfl rfl (.pointer (some ⟨g2vp, 2, none⟩)) (fun _ _ => by kernel_rfl) s37g (fun a37h s37j h37i => ?_)
      refine WT.tk 3 h37i rfl rfl (.slice A321 y30x.f1.length c322) (fun w_ hs_ => (run_load1 rfl rfl Try.underlying27 rfl hs_.1)) s37j (fun a37k s37m h37l => ?_)
      clear h31y a31x h36o a36n h36r a36q h36u a36t h36x a36w h370 a36z h373 a372 h376 a375 h379 a378 h37c a37b h37f a37e h37i a37h
      refine WT.tk 4 h37l rfl rfl (i6 (y30x.f1.length : Int)) (fun _ _ => by kernel_rfl) s37m (fun a37n s37p h37o => ?_)
      refine WT.tk 10 h37o rfl rfl (pt g325) (fun w_ hs_ => (run_load1 rfl rfl Try.underlying65 rfl hs_.2.1)) s37p (fun a37q s37s h37r => ?_)
      refine WT.tk 16 h37r rfl rfl (pt g2wv) (fun w_ hs_ => (run_load1 rfl rfl Try.underlying65 rfl hs_.2.2.1)) s37s (fun a37t s37v h37u => ?_)
      have hS37w := hS36m.b2
      obtain ⟨r37y, A37x, H⟩ := bind1 H
      refine WT.o1 11 h37u rfl ?_
      refine owp_call [(pt g325)] h37u rfl (by kernel_rfl) rfl Try.func30 (by kernel_rfl) rfl (by kernel_rfl) (window_Window_Left.calls hr327 A37x hS37w) (fun e380 W37z hp381 => ?_)
      obtain ⟨M384, rfl, hr385, hS386⟩ := hp381
      refine ⟨_, rfl, fun a382 h383 => ?_⟩
      refine ⟨.inr ⟨(hS386.b1.cell (i := 1) rfl), (hS386.b1.cell (i := 4) rfl), (hS386.b4.cell (i := 2) rfl), trivial⟩, ?_⟩
      refine WT.tk 12 h383 rfl rfl (i6 (mxI r37y 0)) (fun _ _ => by kernel_rfl) ⟨(hS386.b1.cell (i := 1) rfl), (hS386.b1.cell (i := 4) rfl), (hS386.b4.cell (i := 2) rfl), trivial⟩ (fun a387 s389 h388 => ?_)
      have hS38a := hS386.b3
      obtain ⟨r38c, A38b, H⟩ := bind1 H
      refine WT.o1 17 h388 rfl ?_
      refine owp_call [(pt g2wv)] h388 rfl (by kernel_rfl) rfl Try.func30 (by kernel_rfl) rfl (by kernel_rfl) (window_Window_Left.calls hr31k A38b hS38a) (fun e38e W38d hp38f => ?_)
      obtain ⟨M38i, rfl, hr38j, hS38k⟩ := hp38f
      refine ⟨_, rfl, fun a38g h38h => ?_⟩
      refine ⟨.inr ⟨(hS38k.b2.cell (i := 1) rfl), (hS38k.b2.cell (i := 4) rfl), (hS38k.b4.cell (i := 2) rfl), trivial⟩, ?_⟩
      refine WT.tk 18 h38h rfl rfl (i6 (mxI r38c 0)) (fun _ _ => by kernel_rfl) ⟨(hS38k.b2.cell (i := 1) rfl), (hS38k.b2.cell (i := 4) rfl), (hS38k.b4.cell (i := 2) rfl), trivial⟩ (fun a38l s38n h38m => ?_)
      refine WT.tk 19 h38m rfl rfl (i6 (mnI (mnI (mnI (y30x.f1.length : Int) (mxI p1 1)) (mxI r37y 0)) (mxI r38c 0))) (fun _ _ => by kernel_rfl) s38n (fun a38o s38q h38p => ?_)
      refine WT.tk 20 h38p rfl rfl (i6 (mnI (mnI (mnI (y30x.f1.length : Int) (mxI p1 1)) (mxI r37y 0)) (mxI r38c 0))) (fun _ _ => by kernel_rfl) s38q (fun a38r s38t h38s => ?_)
      refine WT.dn ?_
      refine wp_seq ?_
      refine WL.start ?_
      refine WL.bl 3 3 h38s [(72, .pointer (some ⟨g30q, 4, none⟩)), (71, pt g30q), (70, pt g30q)] (fun a38u h38v => ?_)
      have hS38w := hS38k.b2
      refine WL.oq h38v rfl ?_
      refine owp_rn (pt g325) h38v rfl (run_load1 rfl rfl Try.underlying65 rfl (hS38w.cell (i := 4) rfl)) (fun a38x h38y => ?_)
      refine WL.bl 1 5 h38y [(74, i6 (mnI (mnI (mnI (y30x.f1.length : Int) (mxI p1 1)) (mxI r37y 0)) (mxI r38c 0)))] (fun a38z h390 => ?_)
      clear h37l a37k h37o a37n h37r a37q h37u a37t h383 a382 h388 a387 h38h a38g h38m a38l h38p a38o h38s a38r h38v a38u h38y a38x
      have hS391 := hS38w.b2
      obtain ⟨r393, r394, A392, H⟩ := bind2 H
      refine WL.oq h390 rfl ?_
      refine owp_call [(pt g325), i6 (mnI (mnI (mnI (y30x.f1.length : Int) (mxI p1 1)) (mxI r37y 0)) (mxI r38c 0))] h390 rfl (by kernel_rfl) rfl Try.func31 (by kernel_rfl) rfl (by kernel_rfl) (window_Window_Take.calls hr385 A392 hS391) (fun e396 W395 hp397 => ?_)
      obtain ⟨M39a, rfl, hr39b, hS39c⟩ := hp397
      refine ⟨_, rfl, fun a398 h399 => ?_⟩
      refine WL.dn ?_
      refine wp_seq ?_
      refine WL.start ?_
      refine WL.bl 3 3 h399 [(78, .pointer (some ⟨g2vp, 2, none⟩)), (77, pt g2vp), (76, pt g2vp)] (fun a39d h39e => ?_)
      have hS39f := hS39c.b4
      refine WL.oq h39e rfl ?_
      refine owp_rn (pt g2wv) h39e rfl (run_load1 rfl rfl Try.underlying65 rfl (hS39f.cell (i := 2) rfl)) (fun a39g h39h => ?_)
      refine WL.bl 1 5 h39h [(80, i6 (mnI (mnI (mnI (y30x.f1.length : Int) (mxI p1 1)) (mxI r37y 0)) (mxI r38c 0)))] (fun a39i h39j => ?_)
      have hS39k := hS39f.b3
      obtain ⟨r39m, r39n, A39l, H⟩ := bind2 H
      refine WL.oq h39j rfl ?_
      refine owp_call [(pt g2wv), i6 (mnI (mnI (mnI (y30x.f1.length : Int) (mxI p1 1)) (mxI r37y 0)) (mxI r38c 0))] h39j rfl (by kernel_rfl) rfl Try.func31 (by kernel_rfl) rfl (by kernel_rfl) (window_Window_Take.calls hr38j A39l hS39k) (fun e39p W39o hp39q => ?_)
      obtain ⟨M39t, rfl, hr39u, hS39v⟩ := hp39q
      refine ⟨_, rfl, fun a39r h39s => ?_⟩
      refine WL.dn ?_
      refine wp_seq ?_
      refine WL.start ?_
      refine WL.bl 3 3 h39s [(84, .pointer (some ⟨g30q, 1, none⟩)), (83, pt g30q), (82, pt g30q)] (fun a39w h39x => ?_)
      have hS39y := hS39v.b3
      refine WL.oq h39x rfl ?_
      refine owp_rn (.slice A321 y30x.f1.length c322) h39x rfl (run_load1 rfl rfl Try.underlying27 rfl (hS39y.cell (i := 1) rfl)) (fun a39z h3a0 => ?_)
      refine WL.bl 1 5 h3a0 [(86, i6 (mnI (mnI (mnI (y30x.f1.length : Int) (mxI p1 1)) (mxI r37y 0)) (mxI r38c 0)))] (fun a3a1 h3a2 => ?_)
      clear h390 a38z h399 a398 h39e a39d h39h a39g h39j a39i h39s a39r h39x a39w h3a0 a39z
      by_cases c3a3 : 0 ≤ (mnI (mnI (mnI (y30x.f1.length : Int) (mxI p1 1)) (mxI r37y 0)) (mxI r38c 0))
      ·rw [if_pos c3a3] at H
       by_cases c3a4 : (mnI (mnI (mnI (y30x.f1.length : Int) (mxI p1 1)) (mxI r37y 0)) (mxI r38c 0)) ≤ (y30x.f1.length : Int)
       ·rw [if_pos c3a4] at H
        refine WL.oq h3a2 rfl ?_
        refine owp_rn (sliced A321 (0 : Int).toNat (mnI (mnI (mnI (y30x.f1.length : Int) (mxI p1 1)) (mxI r37y 0)) (mxI r38c 0)).toNat c322 1) h3a2 rfl (run_cut (l := 0) (h := mnI (mnI (mnI (y30x.f1.length : Int) (mxI p1 1)) (mxI r37y 0)) (mxI r38c 0)) rfl rfl Try.underlying27 (by kernel_rfl) rfl ⟨_, rfl⟩ (by first | assumption | omega) (by first | assumption | omega) (by have q_ := Rds.cap hr324.rds; omega) (by have q_ := Rds.cap hr324.rds; omega)) (fun a3a6 h3a7 => ?_)
        have hx3a5 := Rds.cut hr324.rds (l := (0 : Int).toNat) (h := (mnI (mnI (mnI (y30x.f1.length : Int) (mxI p1 1)) (mxI r37y 0)) (mxI r38c 0)).toNat) (by omega) (by omega)
        obtain ⟨v3a8, ev3a9⟩ : ∃ y_, y_ = sliced A321 (0 : Int).toNat (mnI (mnI (mnI (y30x.f1.length : Int) (mxI p1 1)) (mxI r37y 0)) (mxI r38c 0)).toNat c322 1 := ⟨_, rfl⟩
        have hx_ : Rds (kInt .u8) b w0 (M323 ++ R) v3a8 (y30x.f1.take (mnI (mnI (mnI (y30x.f1.length : Int) (mxI p1 1)) (mxI r37y 0)) (mxI r38c 0)).toNat) := hx3a5.as_ ev3a9.symm (by simp)
        rw [← ev3a9] at h3a7; clear hx3a5
        have hx3a5 := hx_; clear hx_
        obtain ⟨A3aa, c3ab, rfl⟩ := hx3a5.form
        have hS3ac := hS39y.b4
        obtain ⟨r3ae, A3ad, H⟩ := bind1 H
        refine WL.oq h3a7 rfl ?_
        refine owp_call [.slice A3aa (y30x.f1.take (mnI (mnI (mnI (y30x.f1.length : Int) (mxI p1 1)) (mxI r37y 0)) (mxI r38c 0)).toNat).length c3ab] h3a7 rfl (by kernel_rfl) rfl Try.func32 (by kernel_rfl) rfl (by kernel_rfl) (bytes_Clone.calls hx3a5 A3ad (hS3ac.pool)) (fun e3ag W3af hp3ah => ?_)
        obtain ⟨v3ak, M3al, rfl, hr3am, hS3an⟩ := hp3ah
        have hS3ao : St b w0 W3af R (M323 :: M3al :: (bx g30q 72 [.int .u32 y30x.f0, .slice A321 y30x.f1.length c322, .bool y30x.f2, .bool y30x.f3, pt g325]) :: M39t :: (bx g2vp 69 [.slice A2wr x2wa.f0.length c2ws, i6 x2wa.f1, pt g2wv]) :: M39a :: M30r :: Fs) := hS3an.unpool
        replace hr3am : Row (kInt .u8) 5 b w0 R v3ak r3ae M3al := hr3am.ind (kInt_ind _)
        refine ⟨_, rfl, fun a3ai h3aj => ?_⟩
        obtain ⟨A3ap, c3aq, rfl⟩ := hr3am.form
        refine WL.bl 1 8 h3aj [(12, .slice A3ap r3ae.length c3aq)] (fun a3ar h3as => ?_)
        refine WL.dn ?_
        refine wp_seq ?_
        refine WL.start ?_
        refine WL.bl 4 4 h3as [(92, .pointer (some ⟨g30q, 1, none⟩)), (91, pt g30q), (90, pt g30q), (89, pt g30q)] (fun a3at h3au => ?_)
        have hS3av := hS3ao.b2
        refine WL.oq h3au rfl ?_
        refine owp_rn (.slice A321 y30x.f1.length c322) h3au rfl (run_load1 rfl rfl Try.underlying27 rfl (hS3av.cell (i := 1) rfl)) (fun a3aw h3ax => ?_)
        refine WL.bl 1 6 h3ax [(94, i6 (mnI (mnI (mnI (y30x.f1.length : Int) (mxI p1 1)) (mxI r37y 0)) (mxI r38c 0)))] (fun a3ay h3az => ?_)
        refine WL.oq h3az rfl ?_
        refine owp_rn (sliced A321 (mnI (mnI (mnI (y30x.f1.length : Int) (mxI p1 1)) (mxI r37y 0)) (mxI r38c 0)).toNat (y30x.f1.length : Int).toNat c322 1) h3az rfl (run_cut (l := mnI (mnI (mnI (y30x.f1.length : Int) (mxI p1 1)) (mxI r37y 0)) (mxI r38c 0)) (h := (y30x.f1.length : Int)) rfl rfl Try.underlying27 (by kernel_rfl) ⟨_, rfl⟩ rfl (by first | assumption | omega) (by first | assumption | omega) (by have q_ := Rds.cap hr324.rds; omega) (by have q_ := Rds.cap hr324.rds; omega)) (fun a3b1 h3b2 => ?_)
        have hx3b0 := Rds.cut hr324.rds (l := (mnI (mnI (mnI (y30x.f1.length : Int) (mxI p1 1)) (mxI r37y 0)) (mxI r38c 0)).toNat) (h := (y30x.f1.length : Int).toNat) (by omega) (by omega)
        obtain ⟨v3b3, ev3b4⟩ : ∃ y_, y_ = sliced A321 (mnI (mnI (mnI (y30x.f1.length : Int) (mxI p1 1)) (mxI r37y 0)) (mxI r38c 0)).toNat (y30x.f1.length : Int).toNat c322 1 := ⟨_, rfl⟩
        have hx_ : Rds (kInt .u8) b w0 (M323 ++ R) v3b3 (y30x.f1.drop (mnI (mnI (mnI (y30x.f1.length : Int) (mxI p1 1)) (mxI r37y 0)) (mxI r38c 0)).toNat) := hx3b0.as_ ev3b4.symm (by simp)
        rw [← ev3b4] at h3b2; clear hx3b0
        have hx3b0 := hx_; clear hx_
        obtain ⟨A3b5, c3b6, rfl⟩ := hx3b0.form
        have hS3b7 := hS3av.b1
        obtain ⟨r3b9, A3b8, H⟩ := bind1 H
        refine WL.oq h3b2 rfl ?_
        refine owp_call [.slice A3b5 (y30x.f1.drop (mnI (mnI (mnI (y30x.f1.length : Int) (mxI p1 1)) (mxI r37y 0)) (mxI r38c 0)).toNat).length c3b6] h3b2 rfl (by kernel_rfl) rfl Try.func32 (by kernel_rfl) rfl (by kernel_rfl) (bytes_Clone.calls hx3b0 A3b8 (hS3b7.pool)) (fun e3bb W3ba hp3bc => ?_)
        obtain ⟨v3bf, M3bg, rfl, hr3bh, hS3bi⟩ := hp3bc
        have hS3bj : St b w0 W3ba R (M323 :: M3bg :: (bx g30q 72 [.int .u32 y30x.f0, .slice A321 y30x.f1.length c322, .bool y30x.f2, .bool y30x.f3, pt g325]) :: M3al :: M39t :: (bx g2vp 69 [.slice A2wr x2wa.f0.length c2ws, i6 x2wa.f1, pt g2wv]) :: M39a :: M30r :: Fs) := hS3bi.unpool
        replace hr3bh : Row (kInt .u8) 5 b w0 R v3bf r3b9 M3bg := hr3bh.ind (kInt_ind _)
        refine ⟨_, rfl, fun a3bd h3be => ?_⟩
        obtain ⟨A3bk, c3bl, rfl⟩ := hr3bh.form
        refine WL.bl 2 10 h3be [(98, .pointer (some ⟨g30q, 1, none⟩)), (97, pt g30q)] (fun a3bm h3bn => ?_)
        have hS3bo := hS3bj.b2
        refine WL.oq h3bn rfl ?_
        refine owp_st 1 [.slice A3bk r3b9.length c3bl] h3bn rfl rfl rfl hS3bo [.int .u32 y30x.f0, .slice A3bk r3b9.length c3bl, .bool y30x.f2, .bool y30x.f3, pt g325] (fun a3bp W3br h3bq hS3bs => ?_)
        refine WL.dn ?_
        refine wp_seq ?_
        refine WL.start ?_
        refine WL.bl 4 4 h3bq [(102, .pointer (some ⟨g30q, 2, none⟩)), (101, pt g30q), (100, pt g30q), (99, pt g30q)] (fun a3bt h3bu => ?_)
        refine WL.oq h3bu rfl ?_
        refine owp_rn (.bool y30x.f2) h3bu rfl (run_load1 rfl rfl Try.underlying4 rfl (hS3bs.cell (i := 2) rfl)) (fun a3bv h3bw => ?_)
        clear h3a2 a3a1 h3a7 a3a6 h3aj a3ai h3as a3ar h3au a3at h3ax a3aw h3az a3ay h3b2 a3b1 h3be a3bd h3bn a3bm h3bq a3bp h3bu a3bt
        refine WL.bl 1 6 h3bw [(104, .bool y30x.f2)] (fun a3bx h3by => ?_)
        clear h3bw a3bv
        by_cases c3bz : y30x.f2 = true
        ·rw [if_pos c3bz] at H
         have hb_ : y30x.f2 = true := c3bz
         try rw [hb_] at h3by
         clear hb_
         refine WL.oq h3by rfl (owp_rk (pt g30q) h3by rfl (fun a3c0 h3c1 => ?_))
         refine WL.oq h3c1 rfl (owp_rk (pt g30q) h3c1 rfl (fun a3c2 h3c3 => ?_))
         refine WL.oq h3c3 rfl (owp_rk (.pointer (some ⟨g30q, 1, none⟩)) h3c3 rfl (fun a3c4 h3c5 => ?_))
         refine WL.oq h3c5 rfl ?_
         refine owp_rn (.slice A3bk r3b9.length c3bl) h3c5 rfl (run_load1 rfl rfl Try.underlying27 rfl (hS3bs.cell (i := 1) rfl)) (fun a3c6 h3c7 => ?_)
         refine WL.oq h3c7 rfl (owp_rk (i6 (r3b9.length : Int)) h3c7 rfl (fun a3c8 h3c9 => ?_))
         refine WL.oq h3c9 rfl (owp_rk (.bool (decide ((r3b9.length : Int) = 0))) h3c9 rfl (fun a3ca h3cb => ?_))
         refine WL.bl 3 15 h3cb [(113, .pointer (some ⟨g30q, 3, none⟩)), (112, pt g30q), (111, .bool (decide ((r3b9.length : Int) = 0)))] (fun a3cc h3cd => ?_)
         refine WL.oq h3cd rfl ?_
         refine owp_st 3 [.bool (decide ((r3b9.length : Int) = 0))] h3cd rfl rfl rfl hS3bs [.int .u32 y30x.f0, .slice A3bk r3b9.length c3bl, .bool y30x.f2, .bool (decide ((r3b9.length : Int) = 0)), pt g325] (fun a3ce W3cg h3cf hS3ch => ?_)
         refine WL.dn ?_
         refine wp_seq ?_
         refine WL.start ?_
         refine WL.bl 6 6 h3cf [(119, pt g2vp), (118, pt g2vp), (117, pt g2vp), (116, i6 (IntKind.i64.wrap ((Int.tmod (IntKind.i64.wrap (x2wa.f1 + x2wd)) (x2wa.f0.length : Int)) + 1))), (115, i6 (Int.tmod (IntKind.i64.wrap (x2wa.f1 + x2wd)) (x2wa.f0.length : Int))), (114, pt g2vp)] (fun a3ci h3cj => ?_)
         have hS3ck := hS3ch.b5
         refine WL.oq h3cj rfl ?_
         refine owp_rn (.slice A2wr x2wa.f0.length c2ws) h3cj rfl (run_load1 rfl rfl Try.underlying67 rfl (hS3ck.cell (i := 0) rfl)) (fun a3cl h3cm => ?_)
         refine WL.bl 1 8 h3cm [(121, i6 (x2wa.f0.length : Int))] (fun a3cn h3co => ?_)
         refine WL.oq h3co rfl ?_
         refine owp_rn (i6 (Int.tmod (IntKind.i64.wrap ((Int.tmod (IntKind.i64.wrap (x2wa.f1 + x2wd)) (x2wa.f0.length : Int)) + 1)) (x2wa.f0.length : Int))) h3co rfl (run_rem rfl rfl rfl (by assumption)) (fun a3cp h3cq => ?_)
         clear h3by a3bx h3c1 a3c0 h3c3 a3c2 h3c5 a3c4 h3c7 a3c6 h3c9 a3c8 h3cb a3ca h3cd a3cc h3cf a3ce h3cj a3ci h3cm a3cl h3co a3cn
         refine WL.bl 2 11 h3cq [(124, .pointer (some ⟨g2vp, 1, none⟩)), (123, pt g2vp)] (fun a3cr h3cs => ?_)
         refine WL.oq h3cs rfl ?_
         refine owp_st 1 [i6 (Int.tmod (IntKind.i64.wrap ((Int.tmod (IntKind.i64.wrap (x2wa.f1 + x2wd)) (x2wa.f0.length : Int)) + 1)) (x2wa.f0.length : Int))] h3cs rfl rfl rfl hS3ck [.slice A2wr x2wa.f0.length c2ws, i6 (Int.tmod (IntKind.i64.wrap ((Int.tmod (IntKind.i64.wrap (x2wa.f1 + x2wd)) (x2wa.f0.length : Int)) + 1)) (x2wa.f0.length : Int)), pt g2wv] (fun a3ct W3cv h3cu hS3cw => ?_)
         refine WL.dn ?_
         refine wp_seq ?_
         refine WT.start 13 (fun w_ => (w_.cell? ⟨g30q, 0, none⟩ = some (.int .u32 y30x.f0)) ∧ (w_.cell? ⟨g30q, 3, none⟩ = some (.bool (decide ((r3b9.length : Int) = 0)))) ∧ True) (by kernel_rfl) #[false, false, false, false, false, false, false, false, false, false, false, false, false] 13 rfl rfl ?_
         have hS3f3 := hS3cw.drew
         refine WT.tk 0 h3cu rfl rfl (pt g30q) (fun _ _ => by kernel_rfl) ⟨(hS3f3.b1.cell (i := 0) rfl), (hS3f3.b1.cell (i := 3) rfl), trivial⟩ (fun a3f4 s3f6 h3f5 => ?_)
         refine WT.tk 1 h3f5 rfl rfl (pt g30q) (fun _ _ => by kernel_rfl) s3f6 (fun a3f7 s3f9 h3f8 => ?_)
         refine WT.tk 2 h3f8 rfl rfl (pt g30q) (fun _ _ => by kernel_rfl) s3f9 (fun a3fa s3fc h3fb => ?_)
         refine WT.tk 4 h3fb rfl rfl (.slice A3ap r3ae.length c3aq) (fun _ _ => by kernel_rfl) s3fc (fun a3fd s3ff h3fe => ?_)
         refine WT.tk 5 h3fe rfl rfl (pt g30q) (fun _ _ => by kernel_rfl) s3ff (fun a3fg s3fi h3fh => ?_)
         refine WT.tk 6 h3fh rfl rfl (pt g30q) (fun _ _ => by kernel_rfl) s3fi (fun a3fj s3fl h3fk => ?_)
         refine WT.tk 7 h3fk rfl rfl (.pointer (some ⟨g30q, 3, none⟩)) (fun _ _ => by kernel_rfl) s3fl (fun a3fm s3fo h3fn => ?_)
         refine WT.tk 3 h3fn rfl rfl (.int .u32 y30x.f0) (fun w_ hs_ => (run_load1 rfl rfl Try.underlying25 rfl hs_.1)) s3fo (fun a3fp s3fr h3fq => ?_)
         refine WT.tk 9 h3fq rfl rfl (.int .u32 y30x.f0) (fun _ _ => by kernel_rfl) s3fr (fun a3fs s3fu h3ft => ?_)
         refine WT.tk 10 h3ft rfl rfl (.slice A3ap r3ae.length c3aq) (fun _ _ => by kernel_rfl) s3fu (fun a3fv s3fx h3fw => ?_)
         clear h3cq a3cp h3cs a3cr h3cu a3ct h3f5 a3f4 h3f8 a3f7 h3fb a3fa h3fe a3fd h3fh a3fg h3fk a3fj h3fn a3fm h3fq a3fp h3ft a3fs
         refine WT.tk 8 h3fw rfl rfl (.bool (decide ((r3b9.length : Int) = 0))) (fun w_ hs_ => (run_load1 rfl rfl Try.underlying4 rfl hs_.2.1)) s3fx (fun a3fy s3g0 h3fz => ?_)
         refine WT.tk 11 h3fz rfl rfl (.bool (decide ((r3b9.length : Int) = 0))) (fun _ _ => by kernel_rfl) s3g0 (fun a3g1 s3g3 h3g2 => ?_)
         refine WT.tk 12 h3g2 rfl rfl (.bool true) (fun _ _ => by kernel_rfl) s3g3 (fun a3g4 s3g6 h3g5 => ?_)
         refine WT.dn ?_
         refine wp_ret ?_
         have hS3g7 := hS3f3.b6
         have hS3g8 := hS3g7.b4
         have hS3g9 := hS3g8.b3
         obtain ⟨M3ga, hp3gb, hS3gc⟩ := k72qfo (⟨y30x.f0, r3b9, y30x.f2, decide ((r3b9.length : Int) = 0), r394⟩ : S72) hr3bh hr39b hS3g9
         have hS3gd := hS3gc.b5
         have hS3ge := hS3gd.b1
         obtain ⟨M3gf, hr3gg, hm3gh⟩ := hh30u _ _ hp3gb
         have hS3gj : St b w0 W3cv.drew R (M3gf :: (bx g2vp 69 [.slice A2wr x2wa.f0.length c2ws, i6 (Int.tmod (IntKind.i64.wrap ((Int.tmod (IntKind.i64.wrap (x2wa.f1 + x2wd)) (x2wa.f0.length : Int)) + 1)) (x2wa.f0.length : Int)), pt g2wv]) :: M323 :: M3al :: M39t :: Fs) := hm3gh _ _ hS3ge
         have hl3gk : (x2wa.f0.set (Int.tmod (IntKind.i64.wrap (x2wa.f1 + x2wd)) (x2wa.f0.length : Int)).toNat (⟨y30x.f0, r3b9, y30x.f2, decide ((r3b9.length : Int) = 0), r394⟩ : S72)).length = x2wa.f0.length := by simp
         have hr3gl : Row (kPtr k72 72) 70 b w0 R (.slice A2wr (x2wa.f0.set (Int.tmod (IntKind.i64.wrap (x2wa.f1 + x2wd)) (x2wa.f0.length : Int)).toNat (⟨y30x.f0, r3b9, y30x.f2, decide ((r3b9.length : Int) = 0), r394⟩ : S72)).length c2ws) (x2wa.f0.set (Int.tmod (IntKind.i64.wrap (x2wa.f1 + x2wd)) (x2wa.f0.length : Int)).toNat (⟨y30x.f0, r3b9, y30x.f2, decide ((r3b9.length : Int) = 0), r394⟩ : S72)) M3gf := by rw [hl3gk]; exact hr3gg
         have h3gm : Hd a3g4 135 [(0, pt g2vp), (1, i6 p1), (4, .int .u32 y30x.f0), (5, .slice A3ap r3ae.length c3aq), (6, .bool (decide ((r3b9.length : Int) = 0))), (7, .bool true), (8, i6 x2wd), (9, i6 (Int.tmod (IntKind.i64.wrap (x2wa.f1 + x2wd)) (x2wa.f0.length : Int))), (10, pt g30q), (11, i6 (mnI (mnI (mnI (y30x.f1.length : Int) (mxI p1 1)) (mxI r37y 0)) (mxI r38c 0))), (12, .slice A3ap r3ae.length c3aq), (19, i6 (p0.f0.length : Int)), (20, i6 x2wd), (21, .bool true), (22, i6 x2wd), (23, pt g2vp), (24, pt g2vp), (25, .pointer (some ⟨g2vp, 1, none⟩)), (26, i6 x2wa.f1), (27, i6 x2wd), (28, i6 (IntKind.i64.wrap (x2wa.f1 + x2wd))), (29, pt g2vp), (30, pt g2vp), (31, pt g2vp), (32, .slice A2wr (x2wa.f0.set (Int.tmod (IntKind.i64.wrap (x2wa.f1 + x2wd)) (x2wa.f0.length : Int)).toNat (⟨y30x.f0, r3b9, y30x.f2, decide ((r3b9.length : Int) = 0), r394⟩ : S72)).length c2ws), (33, i6 (x2wa.f0.length : Int)), (34, i6 (Int.tmod (IntKind.i64.wrap (x2wa.f1 + x2wd)) (x2wa.f0.length : Int))), (35, pt g2vp), (36, pt g2vp), (37, pt g2vp), (38, .slice A2wr (x2wa.f0.set (Int.tmod (IntKind.i64.wrap (x2wa.f1 + x2wd)) (x2wa.f0.length : Int)).toNat (⟨y30x.f0, r3b9, y30x.f2, decide ((r3b9.length : Int) = 0), r394⟩ : S72)).length c2ws), (39, i6 (Int.tmod (IntKind.i64.wrap (x2wa.f1 + x2wd)) (x2wa.f0.length : Int))), (40, .pointer (some (ad30j.add ((Int.tmod (IntKind.i64.wrap (x2wa.f1 + x2wd)) (x2wa.f0.length : Int)).toNat * 1)))), (41, pt g30q), (42, pt g30q), (43, pt g2vp), (44, pt g2vp), (45, .pointer (some ⟨g2vp, 2, none⟩)), (46, pt g2wv), (47, i6 r31d), (48, .bool true), (49, .bool false), (50, pt g30q), (51, pt g30q), (52, .pointer (some ⟨g30q, 1, none⟩)), (53, .slice A321 y30x.f1.length c322), (54, i6 (y30x.f1.length : Int)), (55, i6 p1), (56, i6 (mxI p1 1)), (57, pt g30q), (58, pt g30q), (59, .pointer (some ⟨g30q, 4, none⟩)), (60, pt g325), (61, i6 r37y), (62, i6 (mxI r37y 0)), (63, pt g2vp), (64, pt g2vp), (65, .pointer (some ⟨g2vp, 2, none⟩)), (66, pt g2wv), (67, i6 r38c), (68, i6 (mxI r38c 0)), (69, i6 (mnI (mnI (mnI (y30x.f1.length : Int) (mxI p1 1)) (mxI r37y 0)) (mxI r38c 0))), (70, pt g30q), (71, pt g30q), (72, .pointer (some ⟨g30q, 4, none⟩)), (73, pt g325), (74, i6 (mnI (mnI (mnI (y30x.f1.length : Int) (mxI p1 1)) (mxI r37y 0)) (mxI r38c 0))), (75, .bool r393), (76, pt g2vp), (77, pt g2vp), (78, .pointer (some ⟨g2vp, 2, none⟩)), (79, pt g2wv), (80, i6 (mnI (mnI (mnI (y30x.f1.length : Int) (mxI p1 1)) (mxI r37y 0)) (mxI r38c 0))), (81, .bool r39m), (82, pt g30q), (83, pt g30q), (84, .pointer (some ⟨g30q, 1, none⟩)), (85, .slice A321 y30x.f1.length c322), (86, i6 (mnI (mnI (mnI (y30x.f1.length : Int) (mxI p1 1)) (mxI r37y 0)) (mxI r38c 0))), (87, .slice A3aa (y30x.f1.take (mnI (mnI (mnI (y30x.f1.length : Int) (mxI p1 1)) (mxI r37y 0)) (mxI r38c 0)).toNat).length c3ab), (88, .slice A3ap r3ae.length c3aq), (89, pt g30q), (90, pt g30q), (91, pt g30q), (92, .pointer (some ⟨g30q, 1, none⟩)), (93, .slice A321 y30x.f1.length c322), (94, i6 (mnI (mnI (mnI (y30x.f1.length : Int) (mxI p1 1)) (mxI r37y 0)) (mxI r38c 0))), (95, .slice A3b5 (y30x.f1.drop (mnI (mnI (mnI (y30x.f1.length : Int) (mxI p1 1)) (mxI r37y 0)) (mxI r38c 0)).toNat).length c3b6), (96, .slice A3bk r3b9.length c3bl), (97, pt g30q), (98, .pointer (some ⟨g30q, 1, none⟩)), (99, pt g30q), (100, pt g30q), (101, pt g30q), (102, .pointer (some ⟨g30q, 2, none⟩)), (103, .bool true), (104, .bool true), (105, pt g30q), (106, pt g30q), (107, .pointer (some ⟨g30q, 1, none⟩)), (108, .slice A3bk r3b9.length c3bl), (109, i6 (r3b9.length : Int)), (110, .bool (decide ((r3b9.length : Int) = 0))), (111, .bool (decide ((r3b9.length : Int) = 0))), (112, pt g30q), (113, .pointer (some ⟨g30q, 3, none⟩)), (114, pt g2vp), (115, i6 (Int.tmod (IntKind.i64.wrap (x2wa.f1 + x2wd)) (x2wa.f0.length : Int))), (116, i6 (IntKind.i64.wrap ((Int.tmod (IntKind.i64.wrap (x2wa.f1 + x2wd)) (x2wa.f0.length : Int)) + 1))), (117, pt g2vp), (118, pt g2vp), (119, pt g2vp), (120, .slice A2wr (x2wa.f0.set (Int.tmod (IntKind.i64.wrap (x2wa.f1 + x2wd)) (x2wa.f0.length : Int)).toNat (⟨y30x.f0, r3b9, y30x.f2, decide ((r3b9.length : Int) = 0), r394⟩ : S72)).length c2ws), (121, i6 (x2wa.f0.length : Int)), (122, i6 (Int.tmod (IntKind.i64.wrap ((Int.tmod (IntKind.i64.wrap (x2wa.f1 + x2wd)) (x2wa.f0.length : Int)) + 1)) (x2wa.f0.length : Int))), (123, pt g2vp), (124, .pointer (some ⟨g2vp, 1, none⟩)), (125, pt g30q), (126, pt g30q), (127, pt g30q), (128, .int .u32 y30x.f0), (129, .slice A3ap r3ae.length c3aq), (130, pt g30q), (131, pt g30q), (132, .pointer (some ⟨g30q, 3, none⟩)), (133, .bool (decide ((r3b9.length : Int) = 0)))] := h3g5.keep ⟨rfl, rfl, rfl, rfl, rfl, rfl, rfl, rfl, rfl, rfl, rfl, rfl, rfl, rfl, rfl, rfl, rfl, rfl, rfl, rfl, rfl, rfl, rfl, rfl, (by rw [hl3gk] <;> rfl), rfl, rfl, rfl, rfl, rfl, (by rw [hl3gk] <;> rfl), rfl, rfl, rfl, rfl, rfl, rfl, rfl, rfl, rfl, rfl, rfl, rfl, rfl, rfl, rfl, rfl, rfl, rfl, rfl, rfl, rfl, rfl, rfl, rfl, rfl, rfl, rfl, rfl, rfl, rfl, rfl, rfl, rfl, rfl, rfl, rfl, rfl, rfl, rfl, rfl, rfl, rfl, rfl, rfl, rfl, rfl, rfl, rfl, rfl, rfl, rfl, rfl, rfl, rfl, rfl, rfl, rfl, rfl, rfl, rfl, rfl, rfl, rfl, rfl, rfl, rfl, rfl, rfl, rfl, rfl, rfl, rfl, rfl, rfl, rfl, rfl, rfl, rfl, rfl, rfl, rfl, (by rw [hl3gk] <;> rfl), rfl, rfl, rfl, rfl, rfl, rfl, rfl, rfl, rfl, rfl, rfl, rfl, rfl, trivial⟩
         clear h3g5
         have hS3gn : St b w0 W3cv.drew R (M3gf :: (bx g2vp 69 [.slice A2wr (x2wa.f0.set (Int.tmod (IntKind.i64.wrap (x2wa.f1 + x2wd)) (x2wa.f0.length : Int)).toNat (⟨y30x.f0, r3b9, y30x.f2, decide ((r3b9.length : Int) = 0), r394⟩ : S72)).length c2ws, i6 (Int.tmod (IntKind.i64.wrap ((Int.tmod (IntKind.i64.wrap (x2wa.f1 + x2wd)) (x2wa.f0.length : Int)) + 1)) (x2wa.f0.length : Int)), pt g2wv]) :: M323 :: M3al :: M39t :: Fs) := by simpa only [hl3gk] using hS3gj
         have hS3go := hS3gn.b4
         have hS3gp := hS3go.b1
         have hS3gq := hS3gp.b2
         obtain ⟨M3gr, hp3gs, hS3gt⟩ := k69qfo (⟨(x2wa.f0.set (Int.tmod (IntKind.i64.wrap (x2wa.f1 + x2wd)) (x2wa.f0.length : Int)).toNat (⟨y30x.f0, r3b9, y30x.f2, decide ((r3b9.length : Int) = 0), r394⟩ : S72)), Int.tmod (IntKind.i64.wrap ((Int.tmod (IntKind.i64.wrap (x2wa.f1 + x2wd)) (x2wa.f0.length : Int)) + 1)) (x2wa.f0.length : Int), r39n⟩ : S69) hr3gl hr39u hS3gq
         have hS3gu := hS3gt.b1
         have hS3gv := hS3gu.drop_
         have hS3gw := hS3gv.b1
         obtain ⟨rfl, rfl, rfl, rfl, rfl⟩ := ret5 H
         repeat (first | with_reducible refine t1 ?_ | with_reducible refine t2 ?_ | with_reducible refine t3 ?_)
         refine bret (.tuple #[.int .u32 y30x.f0, .slice A3ap r3ae.length c3aq, .bool (decide ((r3b9.length : Int) = 0)), .bool true]) h3gm ?_
         exact ⟨.slice A3ap r3ae.length c3aq, M3al, M3gr, rfl, hr3am, hp3gs, hS3gw⟩
        ·rw [if_neg c3bz] at H
         have hb_ : y30x.f2 = false := (Bool.eq_false_iff.2 c3bz)
         try rw [hb_] at h3by
         clear hb_
         refine WL.sk h3by rfl rfl (fun a3gx h3gy => ?_)
         refine WL.sk h3gy rfl rfl (fun a3gz h3h0 => ?_)
         refine WL.sk h3h0 rfl rfl (fun a3h1 h3h2 => ?_)
         refine WL.sk h3h2 rfl rfl (fun a3h3 h3h4 => ?_)
         refine WL.sk h3h4 rfl rfl (fun a3h5 h3h6 => ?_)
         refine WL.sk h3h6 rfl rfl (fun a3h7 h3h8 => ?_)
         refine WL.bl 3 15 h3h8 [(113, .pointer (some ⟨g30q, 3, none⟩)), (112, pt g30q), (111, .bool false)] (fun a3h9 h3ha => ?_)
         refine WL.oq h3ha rfl ?_
         refine owp_st 3 [.bool false] h3ha rfl rfl rfl hS3bs [.int .u32 y30x.f0, .slice A3bk r3b9.length c3bl, .bool y30x.f2, .bool false, pt g325] (fun a3hb W3hd h3hc hS3he => ?_)
         refine WL.dn ?_
         refine wp_seq ?_
         refine WL.start ?_
         refine WL.bl 6 6 h3hc [(119, pt g2vp), (118, pt g2vp), (117, pt g2vp), (116, i6 (IntKind.i64.wrap ((Int.tmod (IntKind.i64.wrap (x2wa.f1 + x2wd)) (x2wa.f0.length : Int)) + 1))), (115, i6 (Int.tmod (IntKind.i64.wrap (x2wa.f1 + x2wd)) (x2wa.f0.length : Int))), (114, pt g2vp)] (fun a3hf h3hg => ?_)
         have hS3hh := hS3he.b5
         refine WL.oq h3hg rfl ?_
         refine owp_rn (.slice A2wr x2wa.f0.length c2ws) h3hg rfl (run_load1 rfl rfl Try.underlying67 rfl (hS3hh.cell (i := 0) rfl)) (fun a3hi h3hj => ?_)
         refine WL.bl 1 8 h3hj [(121, i6 (x2wa.f0.length : Int))] (fun a3hk h3hl => ?_)
         refine WL.oq h3hl rfl ?_
         refine owp_rn (i6 (Int.tmod (IntKind.i64.wrap ((Int.tmod (IntKind.i64.wrap (x2wa.f1 + x2wd)) (x2wa.f0.length : Int)) + 1)) (x2wa.f0.length : Int))) h3hl rfl (run_rem rfl rfl rfl (by assumption)) (fun a3hm h3hn => ?_)
         clear h3by a3bx h3gy a3gx h3h0 a3gz h3h2 a3h1 h3h4 a3h3 h3h6 a3h5 h3h8 a3h7 h3ha a3h9 h3hc a3hb h3hg a3hf h3hj a3hi h3hl a3hk
         refine WL.bl 2 11 h3hn [(124, .pointer (some ⟨g2vp, 1, none⟩)), (123, pt g2vp)] (fun a3ho h3hp => ?_)
         refine WL.oq h3hp rfl ?_
         refine owp_st 1 [i6 (Int.tmod (IntKind.i64.wrap ((Int.tmod (IntKind.i64.wrap (x2wa.f1 + x2wd)) (x2wa.f0.length : Int)) + 1)) (x2wa.f0.length : Int))] h3hp rfl rfl rfl hS3hh [.slice A2wr x2wa.f0.length c2ws, i6 (Int.tmod (IntKind.i64.wrap ((Int.tmod (IntKind.i64.wrap (x2wa.f1 + x2wd)) (x2wa.f0.length : Int)) + 1)) (x2wa.f0.length : Int)), pt g2wv] (fun a3hq W3hs h3hr hS3ht => ?_)
         refine WL.dn ?_
         refine wp_seq ?_
         refine WT.start 13 (fun w_ => (w_.cell? ⟨g30q, 0, none⟩ = some (.int .u32 y30x.f0)) ∧ (w_.cell? ⟨g30q, 3, none⟩ = some (.bool false)) ∧ True) (by kernel_rfl) #[false, false, false, false, false, false, false, false, false, false, false, false, false] 13 rfl rfl ?_
         have hS3k0 := hS3ht.drew
         refine WT.tk 0 h3hr rfl rfl (pt g30q) (fun _ _ => by kernel_rfl) ⟨(hS3k0.b1.cell (i := 0) rfl), (hS3k0.b1.cell (i := 3) rfl), trivial⟩ (fun a3k1 s3k3 h3k2 => ?_)
         refine WT.tk 1 h3k2 rfl rfl (pt g30q) (fun _ _ => by kernel_rfl) s3k3 (fun a3k4 s3k6 h3k5 => ?_)
         refine WT.tk 2 h3k5 rfl rfl (pt g30q) (fun _ _ => by kernel_rfl) s3k6 (fun a3k7 s3k9 h3k8 => ?_)
         refine WT.tk 4 h3k8 rfl rfl (.slice A3ap r3ae.length c3aq) (fun _ _ => by kernel_rfl) s3k9 (fun a3ka s3kc h3kb => ?_)
         refine WT.tk 5 h3kb rfl rfl (pt g30q) (fun _ _ => by kernel_rfl) s3kc (fun a3kd s3kf h3ke => ?_)
         refine WT.tk 6 h3ke rfl rfl (pt g30q) (fun _ _ => by kernel_rfl) s3kf (fun a3kg s3ki h3kh => ?_)
         refine WT.tk 7 h3kh rfl rfl (.pointer (some ⟨g30q, 3, none⟩)) (fun _ _ => by kernel_rfl) s3ki (fun a3kj s3kl h3kk => ?_)
         refine WT.tk 3 h3kk rfl rfl (.int .u32 y30x.f0) (fun w_ hs_ => (run_load1 rfl rfl Try.underlying25 rfl hs_.1)) s3kl (fun a3km s3ko h3kn => ?_)
         refine WT.tk 9 h3kn rfl rfl (.int .u32 y30x.f0) (fun _ _ => by kernel_rfl) s3ko (fun a3kp s3kr h3kq => ?_)
         refine WT.tk 10 h3kq rfl rfl (.slice A3ap r3ae.length c3aq) (fun _ _ => by kernel_rfl) s3kr (fun a3ks s3ku h3kt => ?_)
         clear h3hn a3hm h3hp a3ho h3hr a3hq h3k2 a3k1 h3k5 a3k4 h3k8 a3k7 h3kb a3ka h3ke a3kd h3kh a3kg h3kk a3kj h3kn a3km h3kq a3kp
         refine WT.tk 8 h3kt rfl rfl (.bool false) (fun w_ hs_ => (run_load1 rfl rfl Try.underlying4 rfl hs_.2.1)) s3ku (fun a3kv s3kx h3kw => ?_)
         refine WT.tk 11 h3kw rfl rfl (.bool false) (fun _ _ => by kernel_rfl) s3kx (fun a3ky s3l0 h3kz => ?_)
         refine WT.tk 12 h3kz rfl rfl (.bool true) (fun _ _ => by kernel_rfl) s3l0 (fun a3l1 s3l3 h3l2 => ?_)
         refine WT.dn ?_
         refine wp_ret ?_
         have hS3l4 := hS3k0.b6
         have hS3l5 := hS3l4.b4
         have hS3l6 := hS3l5.b3
         obtain ⟨M3l7, hp3l8, hS3l9⟩ := k72qfo (⟨y30x.f0, r3b9, y30x.f2, false, r394⟩ : S72) hr3bh hr39b hS3l6
         have hS3la := hS3l9.b5
         have hS3lb := hS3la.b1
         obtain ⟨M3lc, hr3ld, hm3le⟩ := hh30u _ _ hp3l8
         have hS3lg : St b w0 W3hs.drew R (M3lc :: (bx g2vp 69 [.slice A2wr x2wa.f0.length c2ws, i6 (Int.tmod (IntKind.i64.wrap ((Int.tmod (IntKind.i64.wrap (x2wa.f1 + x2wd)) (x2wa.f0.length : Int)) + 1)) (x2wa.f0.length : Int)), pt g2wv]) :: M323 :: M3al :: M39t :: Fs) := hm3le _ _ hS3lb
         have hl3lh : (x2wa.f0.set (Int.tmod (IntKind.i64.wrap (x2wa.f1 + x2wd)) (x2wa.f0.length : Int)).toNat (⟨y30x.f0, r3b9, y30x.f2, false, r394⟩ : S72)).length = x2wa.f0.length := by simp
         have hr3li : Row (kPtr k72 72) 70 b w0 R (.slice A2wr (x2wa.f0.set (Int.tmod (IntKind.i64.wrap (x2wa.f1 + x2wd)) (x2wa.f0.length : Int)).toNat (⟨y30x.f0, r3b9, y30x.f2, false, r394⟩ : S72)).length c2ws) (x2wa.f0.set (Int.tmod (IntKind.i64.wrap (x2wa.f1 + x2wd)) (x2wa.f0.length : Int)).toNat (⟨y30x.f0, r3b9, y30x.f2, false, r394⟩ : S72)) M3lc := by rw [hl3lh]; exact hr3ld
         have h3lj : Hd a3l1 135 [(0, pt g2vp), (1, i6 p1), (4, .int .u32 y30x.f0), (5, .slice A3ap r3ae.length c3aq), (6, .bool false), (7, .bool true), (8, i6 x2wd), (9, i6 (Int.tmod (IntKind.i64.wrap (x2wa.f1 + x2wd)) (x2wa.f0.length : Int))), (10, pt g30q), (11, i6 (mnI (mnI (mnI (y30x.f1.length : Int) (mxI p1 1)) (mxI r37y 0)) (mxI r38c 0))), (12, .slice A3ap r3ae.length c3aq), (19, i6 (p0.f0.length : Int)), (20, i6 x2wd), (21, .bool true), (22, i6 x2wd), (23, pt g2vp), (24, pt g2vp), (25, .pointer (some ⟨g2vp, 1, none⟩)), (26, i6 x2wa.f1), (27, i6 x2wd), (28, i6 (IntKind.i64.wrap (x2wa.f1 + x2wd))), (29, pt g2vp), (30, pt g2vp), (31, pt g2vp), (32, .slice A2wr (x2wa.f0.set (Int.tmod (IntKind.i64.wrap (x2wa.f1 + x2wd)) (x2wa.f0.length : Int)).toNat (⟨y30x.f0, r3b9, y30x.f2, false, r394⟩ : S72)).length c2ws), (33, i6 (x2wa.f0.length : Int)), (34, i6 (Int.tmod (IntKind.i64.wrap (x2wa.f1 + x2wd)) (x2wa.f0.length : Int))), (35, pt g2vp), (36, pt g2vp), (37, pt g2vp), (38, .slice A2wr (x2wa.f0.set (Int.tmod (IntKind.i64.wrap (x2wa.f1 + x2wd)) (x2wa.f0.length : Int)).toNat (⟨y30x.f0, r3b9, y30x.f2, false, r394⟩ : S72)).length c2ws), (39, i6 (Int.tmod (IntKind.i64.wrap (x2wa.f1 + x2wd)) (x2wa.f0.length : Int))), (40, .pointer (some (ad30j.add ((Int.tmod (IntKind.i64.wrap (x2wa.f1 + x2wd)) (x2wa.f0.length : Int)).toNat * 1)))), (41, pt g30q), (42, pt g30q), (43, pt g2vp), (44, pt g2vp), (45, .pointer (some ⟨g2vp, 2, none⟩)), (46, pt g2wv), (47, i6 r31d), (48, .bool true), (49, .bool false), (50, pt g30q), (51, pt g30q), (52, .pointer (some ⟨g30q, 1, none⟩)), (53, .slice A321 y30x.f1.length c322), (54, i6 (y30x.f1.length : Int)), (55, i6 p1), (56, i6 (mxI p1 1)), (57, pt g30q), (58, pt g30q), (59, .pointer (some ⟨g30q, 4, none⟩)), (60, pt g325), (61, i6 r37y), (62, i6 (mxI r37y 0)), (63, pt g2vp), (64, pt g2vp), (65, .pointer (some ⟨g2vp, 2, none⟩)), (66, pt g2wv), (67, i6 r38c), (68, i6 (mxI r38c 0)), (69, i6 (mnI (mnI (mnI (y30x.f1.length : Int) (mxI p1 1)) (mxI r37y 0)) (mxI r38c 0))), (70, pt g30q), (71, pt g30q), (72, .pointer (some ⟨g30q, 4, none⟩)), (73, pt g325), (74, i6 (mnI (mnI (mnI (y30x.f1.length : Int) (mxI p1 1)) (mxI r37y 0)) (mxI r38c 0))), (75, .bool r393), (76, pt g2vp), (77, pt g2vp), (78, .pointer (some ⟨g2vp, 2, none⟩)), (79, pt g2wv), (80, i6 (mnI (mnI (mnI (y30x.f1.length : Int) (mxI p1 1)) (mxI r37y 0)) (mxI r38c 0))), (81, .bool r39m), (82, pt g30q), (83, pt g30q), (84, .pointer (some ⟨g30q, 1, none⟩)), (85, .slice A321 y30x.f1.length c322), (86, i6 (mnI (mnI (mnI (y30x.f1.length : Int) (mxI p1 1)) (mxI r37y 0)) (mxI r38c 0))), (87, .slice A3aa (y30x.f1.take (mnI (mnI (mnI (y30x.f1.length : Int) (mxI p1 1)) (mxI r37y 0)) (mxI r38c 0)).toNat).length c3ab), (88, .slice A3ap r3ae.length c3aq), (89, pt g30q), (90, pt g30q), (91, pt g30q), (92, .pointer (some ⟨g30q, 1, none⟩)), (93, .slice A321 y30x.f1.length c322), (94, i6 (mnI (mnI (mnI (y30x.f1.length : Int) (mxI p1 1)) (mxI r37y 0)) (mxI r38c 0))), (95, .slice A3b5 (y30x.f1.drop (mnI (mnI (mnI (y30x.f1.length : Int) (mxI p1 1)) (mxI r37y 0)) (mxI r38c 0)).toNat).length c3b6), (96, .slice A3bk r3b9.length c3bl), (97, pt g30q), (98, .pointer (some ⟨g30q, 1, none⟩)), (99, pt g30q), (100, pt g30q), (101, pt g30q), (102, .pointer (some ⟨g30q, 2, none⟩)), (103, .bool false), (104, .bool false), (111, .bool false), (112, pt g30q), (113, .pointer (some ⟨g30q, 3, none⟩)), (114, pt g2vp), (115, i6 (Int.tmod (IntKind.i64.wrap (x2wa.f1 + x2wd)) (x2wa.f0.length : Int))), (116, i6 (IntKind.i64.wrap ((Int.tmod (IntKind.i64.wrap (x2wa.f1 + x2wd)) (x2wa.f0.length : Int)) + 1))), (117, pt g2vp), (118, pt g2vp), (119, pt g2vp), (120, .slice A2wr (x2wa.f0.set (Int.tmod (IntKind.i64.wrap (x2wa.f1 + x2wd)) (x2wa.f0.length : Int)).toNat (⟨y30x.f0, r3b9, y30x.f2, false, r394⟩ : S72)).length c2ws), (121, i6 (x2wa.f0.length : Int)), (122, i6 (Int.tmod (IntKind.i64.wrap ((Int.tmod (IntKind.i64.wrap (x2wa.f1 + x2wd)) (x2wa.f0.length : Int)) + 1)) (x2wa.f0.length : Int))), (123, pt g2vp), (124, .pointer (some ⟨g2vp, 1, none⟩)), (125, pt g30q), (126, pt g30q), (127, pt g30q), (128, .int .u32 y30x.f0), (129, .slice A3ap r3ae.length c3aq), (130, pt g30q), (131, pt g30q), (132, .pointer (some ⟨g30q, 3, none⟩)), (133, .bool false)] := h3l2.keep ⟨rfl, rfl, rfl, rfl, rfl, rfl, rfl, rfl, rfl, rfl, rfl, rfl, rfl, rfl, rfl, rfl, rfl, rfl, rfl, rfl, rfl, rfl, rfl, rfl, (by rw [hl3lh] <;> rfl), rfl, rfl, rfl, rfl, rfl, (by rw [hl3lh] <;> rfl), rfl, rfl, rfl, rfl, rfl, rfl, rfl, rfl, rfl, rfl, rfl, rfl, rfl, rfl, rfl, rfl, rfl, rfl, rfl, rfl, rfl, rfl, rfl, rfl, rfl, rfl, rfl, rfl, rfl, rfl, rfl, rfl, rfl, rfl, rfl, rfl, rfl, rfl, rfl, rfl, rfl, rfl, rfl, rfl, rfl, rfl, rfl, rfl, rfl, rfl, rfl, rfl, rfl, rfl, rfl, rfl, rfl, rfl, rfl, rfl, rfl, rfl, rfl, rfl, rfl, rfl, rfl, rfl, rfl, rfl, rfl, rfl, rfl, rfl, rfl, (by rw [hl3lh] <;> rfl), rfl, rfl, rfl, rfl, rfl, rfl, rfl, rfl, rfl, rfl, rfl, rfl, rfl, trivial⟩
         clear h3l2
         have hS3lk : St b w0 W3hs.drew R (M3lc :: (bx g2vp 69 [.slice A2wr (x2wa.f0.set (Int.tmod (IntKind.i64.wrap (x2wa.f1 + x2wd)) (x2wa.f0.length : Int)).toNat (⟨y30x.f0, r3b9, y30x.f2, false, r394⟩ : S72)).length c2ws, i6 (Int.tmod (IntKind.i64.wrap ((Int.tmod (IntKind.i64.wrap (x2wa.f1 + x2wd)) (x2wa.f0.length : Int)) + 1)) (x2wa.f0.length : Int)), pt g2wv]) :: M323 :: M3al :: M39t :: Fs) := by simpa only [hl3lh] using hS3lg
         have hS3ll := hS3lk.b4
         have hS3lm := hS3ll.b1
         have hS3ln := hS3lm.b2
         obtain ⟨M3lo, hp3lp, hS3lq⟩ := k69qfo (⟨(x2wa.f0.set (Int.tmod (IntKind.i64.wrap (x2wa.f1 + x2wd)) (x2wa.f0.length : Int)).toNat (⟨y30x.f0, r3b9, y30x.f2, false, r394⟩ : S72)), Int.tmod (IntKind.i64.wrap ((Int.tmod (IntKind.i64.wrap (x2wa.f1 + x2wd)) (x2wa.f0.length : Int)) + 1)) (x2wa.f0.length : Int), r39n⟩ : S69) hr3li hr39u hS3ln
         have hS3lr := hS3lq.b1
         have hS3ls := hS3lr.drop_
         have hS3lt := hS3ls.b1
         obtain ⟨rfl, rfl, rfl, rfl, rfl⟩ := ret5 H
         repeat (first | with_reducible refine t1 ?_ | with_reducible refine t2 ?_ | with_reducible refine t3 ?_)
         refine bret (.tuple #[.int .u32 y30x.f0, .slice A3ap r3ae.length c3aq, .bool false, .bool true]) h3lj ?_
         exact ⟨.slice A3ap r3ae.length c3aq, M3al, M3lo, rfl, hr3am, hp3lp, hS3lt⟩
       ·rw [if_neg c3a4] at H
        cases H
      ·rw [if_neg c3a3] at H
       cases H
     ·rw [if_neg c31z] at H
      have hb_ : r31o = false := (Bool.eq_false_iff.2 c31z)
      try rw [hb_] at h31y
      clear hb_
      refine wp_then h31y rfl ?_
      refine wp_exit ?_
      refine WL.start ?_
      refine WL.bl 2 2 h31y [(20, i6 (IntKind.i64.wrap (x2wd + 1))), (134, i6 (IntKind.i64.wrap (x2wd + 1)))] (fun a3lu h3lv => ?_)
      refine WL.dn ?_
      have hS3lw := hS31w.b3
      have hS3lx := hS3lw.b1
      obtain ⟨M3ly, hr3lz, hm3m0⟩ := hh30u.same hy30y hi30l hi30m hr31v
      have hS3m2 : St b w0 W31p R (M3ly :: M31j :: (bx g2vp 69 [.slice A2wr x2wa.f0.length c2ws, i6 x2wa.f1, pt g2wv]) :: Fs) := hm3m0 _ _ hS3lx
      have hS3m3 := hS3m2.b1
      have hS3m4 := hS3m3.b1
      have hS3m5 := hS3m4.b2
      obtain ⟨M3m6, hp3m7, hS3m8⟩ := k69qfo x2wa hr3lz hr31k hS3m5
      exact ⟨kk2wk, by omega, x2wa, M3m6, IntKind.i64.wrap (x2wd + 1), h3lv.keep ⟨rfl, rfl, rfl, rfl, trivial⟩, ⟨H⟩, ⟨by omega⟩, ⟨hS3m8⟩, ⟨hp3m7⟩⟩
    ·rw [if_neg c30i] at H
     cases H
   ·rw [if_neg c30h] at H
    cases H
  ·rw [if_neg c304] at H
   cases H
 ·rw [if_neg c2wn] at H
  have hb_ : (decide (x2wd < (p0.f0.length : Int))) = false := decide_eq_false c2wn
  try rw [hb_] at h2wm
  clear hb_
  refine wp_else h2wm rfl ?_
  refine wp_exit ?_
  refine wp_seq ?_
  refine WL.start ?_
  refine WL.bl 4 4 h2wm [(7, .bool false), (6, .bool false), (5, .slice none 0 0), (4, .int .u32 0)] (fun a3m9 h3ma => ?_)
  refine WL.dn ?_
  refine wp_ret ?_
  obtain ⟨rfl, rfl, rfl, rfl, rfl⟩ := ret5 H
  repeat (first | with_reducible refine t1 ?_ | with_reducible refine t2 ?_ | with_reducible refine t3 ?_)
  refine bret (.tuple #[.int .u32 0, .slice none 0 0, .bool false, .bool false]) h3ma ?_
  exact ⟨.slice none 0 0, [], M2wb, rfl, Row.nil, hr2wc, hS2w8.nil_⟩

/-! ### (*louver/turns.Ring).Next -/
def turns_Ring_Next_nil.f (p1 : Int) : Option (Int × (List Int) × Bool × Bool) := some (0, ([] : List Int), false, false)
set_option maxHeartbeats 20000000 in
set_option maxRecDepth 100000 in
theorem turns_Ring_Next_nil.calls {b : Nat} {w0 W : World} {R : Frag} {Fs : List Frag} {p1 : Int}  {r0q : Int} {r1q : (List Int)} {r2q : Bool} {r3q : Bool}  (H : turns_Ring_Next_nil.f p1 = some (r0q, r1q, r2q, r3q)) (hS : St b w0 W R (Fs)) :
  Calls Try.prog 11 ([.pointer none, i6 p1] : List Value).toArray W (fun e W' => ∃ (u1q : Value) (N1q : Frag), e = .returned (.tuple #[.int .u32 r0q, u1q, .bool r2q, .bool r3q]) ∧ Row (kInt .u8) 5 b w0 R u1q r1q N1q ∧ St b w0 W' R (N1q :: Fs)) := by
 unfold turns_Ring_Next_nil.f at H
 refine calls_enter Try.func11 rfl 135 rfl (by kernel_rfl) (fun a h => ?_)
 refine wp_seq ?_
 refine WL.start ?_
 refine WL.bl 4 4 h [(7, .bool false), (6, .bool false), (5, .slice none 0 0), (4, .int .u32 0)] (fun a106 h107 => ?_)
 refine WL.dn ?_
 refine wp_seq ?_
 refine wp_seq ?_
 refine WL.start ?_
 refine WL.bl 2 2 h107 [(14, .bool true), (13, .pointer none)] (fun a108 h109 => ?_)
 refine WL.dn ?_
 refine wp_then h109 rfl ?_
 refine wp_seq ?_
 refine WL.start ?_
 refine WL.bl 4 4 h109 [(7, .bool false), (6, .bool false), (5, .slice none 0 0), (4, .int .u32 0)] (fun a10a h10b => ?_)
 refine WL.dn ?_
 refine wp_ret ?_
 obtain ⟨rfl, rfl, rfl, rfl⟩ := ret4 H
 repeat (first | with_reducible refine t1 ?_ | with_reducible refine t2 ?_ | with_reducible refine t3 ?_)
 refine bret (.tuple #[.int .u32 0, .slice none 0 0, .bool false, .bool false]) h10b ?_
 exact ⟨.slice none 0 0, [], rfl, Row.nil, hS.nil_⟩

/-! ### (*louver/turns.Ring).find$1 -/
def turns_Ring_find_1.f (p0 : S72) (p1 : Int) : Option (Bool) := some (decide (p0.f0 = p1))
set_option maxHeartbeats 20000000 in
set_option maxRecDepth 100000 in
theorem turns_Ring_find_1.calls {b : Nat} {w0 W : World} {R : Frag} {Fs : List Frag} {p0 : S72} {p1 : Int}  {v0 : Value} {M0 : Frag} {gc : Nat} {r0q : Bool} (hp0 : Ptr k72 72 b w0 R v0 p0 M0) (H : turns_Ring_find_1.f p0 p1 = some r0q) (hS : St b w0 W R (M0 :: (bx gc 25 [.int .u32 p1]) :: Fs)) :
  Calls Try.prog 47 ([v0, pt gc] : List Value).toArray W (fun e W' => ∃ (O0q : Frag), e = .returned (.bool r0q) ∧ Ptr k72 72 b w0 R v0 p0 O0q ∧ St b w0 W' R (O0q :: (bx gc 25 [.int .u32 p1]) :: Fs)) := by
 unfold turns_Ring_find_1.f at H
 refine calls_enter Try.func47 rfl 10 rfl (by kernel_rfl) (fun a h => ?_)
 refine wp_seq ?_
 refine WL.start ?_
 refine WL.bl 1 1 h [(3, .bool false)] (fun a129 h12a => ?_)
 refine WL.dn ?_
 refine wp_seq ?_
 obtain ⟨g12c, A12d, c12e, g12h, M12f, M12i, rfl, hr12g, hr12j, hS12b⟩ := k72qop hp0 hS
 refine WT.start 7 (fun w_ => (w_.cell? ⟨g12c, 0, none⟩ = some (.int .u32 p0.f0)) ∧ (w_.cell? ⟨gc, 0, none⟩ = some (.int .u32 p1)) ∧ True) (by kernel_rfl) #[false, false, false, false, false, false, false] 7 rfl rfl ?_
 have hS13q := hS12b.drew
 refine WT.tk 0 h12a rfl rfl (pt g12c) (fun _ _ => by kernel_rfl) ⟨(hS13q.cell (i := 0) rfl), (hS13q.b3.cell (i := 0) rfl), trivial⟩ (fun a13r s13t h13s => ?_)
 refine WT.tk 1 h13s rfl rfl (pt g12c) (fun _ _ => by kernel_rfl) s13t (fun a13u s13w h13v => ?_)
 refine WT.tk 2 h13v rfl rfl (pt g12c) (fun _ _ => by kernel_rfl) s13w (fun a13x s13z h13y => ?_)
 refine WT.tk 3 h13y rfl rfl (.int .u32 p0.f0) (fun w_ hs_ => (run_load1 rfl rfl Try.underlying25 rfl hs_.1)) s13z (fun a140 s142 h141 => ?_)
 refine WT.tk 4 h141 rfl rfl (.int .u32 p1) (fun w_ hs_ => (run_load1 rfl rfl Try.underlying25 rfl hs_.2.1)) s142 (fun a143 s145 h144 => ?_)
 refine WT.tk 5 h144 rfl rfl (.bool (decide (p0.f0 = p1))) (fun _ _ => by kernel_rfl) s145 (fun a146 s148 h147 => ?_)
 refine WT.tk 6 h147 rfl rfl (.bool (decide (p0.f0 = p1))) (fun _ _ => by kernel_rfl) s148 (fun a149 s14b h14a => ?_)
 refine WT.dn ?_
 refine wp_ret ?_
 have hS14c := hS13q.b2
 have hS14d := hS14c.b2
 have hS14e := hS14d.b2
 obtain ⟨M14f, hp14g, hS14h⟩ := k72qfo p0 hr12g hr12j hS14e
 obtain rfl := Option.some.inj H
 repeat (first | with_reducible refine t1 ?_ | with_reducible refine t2 ?_ | with_reducible refine t3 ?_)
 refine bret (.bool (decide (p0.f0 = p1))) h14a ?_
 exact ⟨M14f, rfl, hp14g, hS14h⟩
def turns_Ring_find_1.g (p1 : Int) : S72 → Bool := fun p0 => (turns_Ring_find_1.f p0 p1).getD false
theorem turns_Ring_find_1.tot (p1 : Int) (p0 : S72) : turns_Ring_find_1.f p0 p1 = some (turns_Ring_find_1.g p1 p0) := by
 rfl
theorem turns_Ring_find_1.clos {b : Nat} {w0 : World} {R : Frag} {gc : Nat} {p1 : Int} : Clos Try.prog k72 72 b w0 R (.func (.func 47) #[] #[(pt gc)]) (turns_Ring_find_1.g p1) (fun C => C = (bx gc 25 [.int .u32 p1])) := by
 refine ⟨47, _, _, rfl, Try.func47, by kernel_rfl, rfl, ?_⟩
 rintro W x v Mx C Fs hp rfl hS
 refine Calls.mono (turns_Ring_find_1.calls hp (turns_Ring_find_1.tot p1 x) hS) ?_
 rintro e W' ⟨O, rfl, ho, hS'⟩
 exact ⟨O, _, rfl, ho, rfl, hS'⟩

/-! ### slices.IndexFunc[[]*louver/turns.sender,*louver/turns.sender] -/
def slices_IndexFunc.l0 : Nat → Int → (List S72) → (S72 → Bool) → Option (Int)
 | 0, _, _, _ => none
 | k + 1, x14h, p0, p1 => if x14h < (p0.length : Int) then (if 0 ≤ x14h then (lt1 (gt z72 p0 x14h : S72) fun y154 => (if p1 y154 = true then (some x14h) else (slices_IndexFunc.l0 k (IntKind.i64.wrap (x14h + 1)) p0 p1))) else (none)) else (some (-1))
def slices_IndexFunc.f (k : Nat) (p0 : (List S72)) (p1 : S72 → Bool) : Option (Int) := slices_IndexFunc.l0 k 0 p0 p1
set_option maxHeartbeats 20000000 in
set_option maxRecDepth 100000 in
theorem slices_IndexFunc.calls (k : Nat) {b : Nat} {w0 W : World} {R : Frag} {Fs : List Frag} {p0 : (List S72)} {p1 : S72 → Bool} {v0 : Value} {M0 : Frag} {v1 : Value} {M1 : Frag} {Q1 : Frag → Prop} {r0q : Int} (hp0 : Row (kPtr k72 72) 70 b w0 R v0 p0 M0) (hp1 : Clos Try.prog k72 72 b w0 R v1 p1 Q1) (hq1 : Q1 M1) (H : slices_IndexFunc.f k p0 p1 = some r0q) (hS : St b w0 W R (M0 :: M1 :: Fs)) :
  Calls Try.prog 46 ([v0, v1] : List Value).toArray W (fun e W' => ∃ (O0q : Frag) (O1q : Frag), e = .returned (i6 r0q) ∧ Row (kPtr k72 72) 70 b w0 R v0 p0 O0q ∧ Q1 O1q ∧ St b w0 W' R (O0q :: O1q :: Fs)) := by
 obtain ⟨A0, c0, rfl⟩ := hp0.form
 unfold slices_IndexFunc.f at H
 refine calls_enter Try.func46 rfl 19 rfl (by kernel_rfl) (fun a h => ?_)
 refine wp_seq ?_
 refine WL.start ?_
 refine WL.bl 1 1 h [(4, i6 0)] (fun a144 h145 => ?_)
 refine WL.dn ?_
 refine wp_seq ?_
 refine wp_seq ?_
 refine WL.start ?_
 refine WL.bl 3 3 h145 [(8, i6 0), (7, i6 (p0.length : Int)), (6, .slice A0 p0.length c0)] (fun a146 h147 => ?_)
 refine WL.dn ?_
 refine wp_block ?_
 clear h145 a144
 refine wp_loop_ghost (fun kq_ a_ W_ => ∃ (M14d : Frag), ∃ (M14f : Frag), ∃ (x14h : Int), Hd a_ 19 [(0, .slice A0 p0.length c0), (1, v1), (7, i6 (p0.length : Int)), (8, i6 x14h)] ∧ Asd (slices_IndexFunc.l0 kq_ x14h p0 p1 = some r0q) ∧ Asd (kq_ ≤ k) ∧ Asd (St b w0 W_ R (M14d :: M14f :: Fs)) ∧ Asd (Row (kPtr k72 72) 70 b w0 R (.slice A0 p0.length c0) p0 M14d) ∧ Asd (Q1 M14f)) k ⟨M0, M1, 0, h147.keep ⟨rfl, rfl, rfl, rfl, trivial⟩, ⟨H⟩, ⟨Nat.le_refl _⟩, ⟨hS⟩, ⟨hp0⟩, ⟨hq1⟩⟩ ?_
 clear H hS
 rintro kk14c a149 W14a ⟨M14d, M14f, x14h, h148, ⟨H⟩, ⟨hkkk14c⟩, ⟨hS14b⟩, ⟨hr14e⟩, ⟨hq14g⟩⟩
 obtain _ | kk14i := kk14c
 ·exact absurd H (by simp [slices_IndexFunc.l0])
 simp only [slices_IndexFunc.l0] at H
 refine wp_seq ?_
 refine WL.start ?_
 refine WL.bl 1 1 h148 [(9, .bool (decide (x14h < (p0.length : Int))))] (fun a14j h14k => ?_)
 refine WL.dn ?_
 refine wp_seq ?_
 clear h148 a149
 by_cases c14l : x14h < (p0.length : Int)
 ·rw [if_pos c14l] at H
  have hb_ : (decide (x14h < (p0.length : Int))) = true := decide_eq_true c14l
  try rw [hb_] at h14k
  clear hb_
  refine wp_then h14k rfl ?_
  refine wp_skip ?_
  refine wp_seq ?_
  refine wp_block ?_
  refine wp_seq ?_
  refine WL.start ?_
  refine WL.bl 2 2 h14k [(5, i6 x14h), (10, i6 x14h)] (fun a14m h14n => ?_)
  refine WL.dn ?_
  refine wp_seq ?_
  refine WL.start ?_
  refine WL.bl 3 3 h14n [(13, i6 x14h), (12, .slice A0 p0.length c0), (11, v1)] (fun a14o h14p => ?_)
  clear h14k a14j h14n a14m
  by_cases c14q : 0 ≤ x14h
  ·rw [if_pos c14q] at H
   have hi14t : 0 ≤ x14h := by first | assumption | omega
   have hi14u : x14h < (p0.length : Int) := by first | assumption | omega
   obtain ⟨ad14r, _, ha14s, -, -⟩ := Rds.elemAny hr14e.rds hi14t (gt_get (z := z72) hi14t hi14u)
   refine WL.oq h14p rfl ?_
   refine owp_rn (.pointer (some (ad14r.add (x14h.toNat * 1)))) h14p rfl (run_idx (ad := ad14r) (sz := 1) rfl (by rw [← ha14s]; rfl) rfl Try.underlying67 (by kernel_rfl) hi14t hi14u) (fun a14v h14w => ?_)
   obtain ⟨g14x, M14y, M14z, hp150, hh151, hm152, hc153⟩ := Row.openp (dk := k72) z72 hr14e ha14s hi14t hi14u
   obtain ⟨y154, hy155, H⟩ := lete H
   have hr156 : Ptr k72 72 b w0 R (pt g14x) y154 M14z := by rw [hy155]; exact hp150
   have hS158 : St b w0 W14a R (M14z :: M14y :: M14f :: Fs) := hm152 _ _ hS14b
   clear hm152 hp150 hr14e
   refine WL.oq h14w rfl ?_
   refine owp_rn (pt g14x) h14w rfl (run_load1 rfl rfl Try.underlying70 rfl (hc153 _ _ hS158.b1)) (fun a159 h15a => ?_)
   have hS15b := hS158.b2
   have hS15c := hS15b.b1
   refine WL.oq h15a rfl ?_
   refine owp_callv h15a rfl rfl rfl rfl hp1 hr156 hq14g hS15c (fun a15d W15f M15g M15h h15e hr15i hq15j hS15k => ?_)
   refine WL.dn ?_
   clear h14p a14o h14w a14v h15a a159
   by_cases c15l : p1 y154 = true
   ·rw [if_pos c15l] at H
    have hb_ : (p1 y154) = true := c15l
    try rw [hb_] at h15e
    clear hb_
    refine wp_then h15e rfl ?_
    refine wp_seq ?_
    refine WL.start ?_
    refine WL.bl 2 2 h15e [(4, i6 x14h), (17, i6 x14h)] (fun a15m h15n => ?_)
    refine WL.dn ?_
    refine wp_ret ?_
    have hS15o := hS15k.b2
    have hS15p := hS15o.b1
    obtain ⟨M15q, hr15r, hm15s⟩ := hh151.same hy155 hi14t hi14u hr15i
    have hS15u : St b w0 W15f R (M15q :: M15h :: Fs) := hm15s _ _ hS15p
    obtain rfl := Option.some.inj H
    repeat (first | with_reducible refine t1 ?_ | with_reducible refine t2 ?_ | with_reducible refine t3 ?_)
    refine bret (i6 x14h) h15n ?_
    exact ⟨M15q, M15h, rfl, hr15r, hq15j, hS15u⟩
   ·rw [if_neg c15l] at H
    have hb_ : (p1 y154) = false := (Bool.eq_false_iff.2 c15l)
    try rw [hb_] at h15e
    clear hb_
    refine wp_else h15e rfl ?_
    refine wp_skip ?_
    refine WL.start ?_
    refine WL.bl 2 2 h15e [(8, i6 (IntKind.i64.wrap (x14h + 1))), (18, i6 (IntKind.i64.wrap (x14h + 1)))] (fun a15v h15w => ?_)
    refine WL.dn ?_
    have hS15x := hS15k.b2
    have hS15y := hS15x.b1
    obtain ⟨M15z, hr160, hm161⟩ := hh151.same hy155 hi14t hi14u hr15i
    have hS163 : St b w0 W15f R (M15z :: M15h :: Fs) := hm161 _ _ hS15y
    exact ⟨kk14i, by omega, M15z, M15h, IntKind.i64.wrap (x14h + 1), h15w.keep ⟨rfl, rfl, rfl, rfl, trivial⟩, ⟨H⟩, ⟨by omega⟩, ⟨hS163⟩, ⟨hr160⟩, ⟨hq15j⟩⟩
  ·rw [if_neg c14q] at H
   cases H
 ·rw [if_neg c14l] at H
  have hb_ : (decide (x14h < (p0.length : Int))) = false := decide_eq_false c14l
  try rw [hb_] at h14k
  clear hb_
  refine wp_else h14k rfl ?_
  refine wp_exit ?_
  refine wp_seq ?_
  refine WL.start ?_
  refine WL.bl 1 1 h14k [(4, i6 (-1))] (fun a164 h165 => ?_)
  refine WL.dn ?_
  refine wp_ret ?_
  obtain rfl := Option.some.inj H
  repeat (first | with_reducible refine t1 ?_ | with_reducible refine t2 ?_ | with_reducible refine t3 ?_)
  refine bret (i6 (-1)) h165 ?_
  exact ⟨M14d, M14f, rfl, hr14e, hq14g, hS14b⟩

/-! ### (*louver/turns.Ring).find -/
def turns_Ring_find.f (k : Nat) (p0 : S69) (p1 : Int) : Option (Int) := bnd1 (slices_IndexFunc.f k p0.f0 (turns_Ring_find_1.g p1)) fun r129 => (some r129)
set_option maxHeartbeats 20000000 in
set_option maxRecDepth 100000 in
theorem turns_Ring_find.calls (k : Nat) {b : Nat} {w0 W : World} {R : Frag} {Fs : List Frag} {p0 : S69} {p1 : Int}  {v0 : Value} {M0 : Frag} {r0q : Int} (hp0 : Ptr k69 69 b w0 R v0 p0 M0) (H : turns_Ring_find.f k p0 p1 = some r0q) (hS : St b w0 W R (M0 :: Fs)) :
  Calls Try.prog 28 ([v0, .int .u32 p1] : List Value).toArray W (fun e W' => ∃ (O0q : Frag), e = .returned (i6 r0q) ∧ Ptr k69 69 b w0 R v0 p0 O0q ∧ St b w0 W' R (O0q :: Fs)) := by
 unfold turns_Ring_find.f at H
 refine calls_enter Try.func28 rfl 13 rfl (by kernel_rfl) (fun a h => ?_)
 refine wp_seq ?_
 refine WL.start ?_
 refine WL.oq h rfl ?_
 refine owp_nw (fun g_ => (pt g_)) (.cells ([.int .u32 p1] : List Value).toArray 25 (0, 0)) h rfl hS (fun a11f W11h g11i h11g hS11j => ?_)
 refine WL.bl 1 2 h11g [(4, i6 0)] (fun a11k h11l => ?_)
 refine WL.dn ?_
 refine wp_seq ?_
 refine wp_seq ?_
 refine WL.start ?_
 refine WL.bl 1 1 h11l [(5, v0)] (fun a11m h11n => ?_)
 have hS11o := hS11j.b1
 obtain ⟨g11q, A11r, c11s, g11v, M11t, M11w, rfl, hr11u, hr11x, hS11p⟩ := k69qop hp0 hS11o
 refine WL.bl 1 2 h11n [(6, .bool false)] (fun a11y h11z => ?_)
 refine WL.dn ?_
 refine wp_else h11z rfl ?_
 refine wp_skip ?_
 refine wp_seq ?_
 refine WL.start ?_
 refine WL.bl 3 3 h11z [(9, pt g11q), (8, pt g11q), (7, pt g11q)] (fun a120 h121 => ?_)
 refine WL.oq h121 rfl ?_
 refine owp_rn (.slice A11r p0.f0.length c11s) h121 rfl (run_load1 rfl rfl Try.underlying67 rfl (hS11p.cell (i := 0) rfl)) (fun a122 h123 => ?_)
 refine WL.bl 1 5 h123 [(11, .func (.func 47) #[] #[(pt g11i)])] (fun a124 h125 => ?_)
 have hS126 := hS11p.b3
 have hS127 := hS126.b2
 obtain ⟨r129, A128, H⟩ := bind1 H
 refine WL.oq h125 rfl ?_
 refine owp_call [.slice A11r p0.f0.length c11s, .func (.func 47) #[] #[(pt g11i)]] h125 rfl (by kernel_rfl) rfl Try.func46 (by kernel_rfl) rfl (by kernel_rfl) (slices_IndexFunc.calls k hr11u turns_Ring_find_1.clos rfl A128 hS127) (fun e12b W12a hp12c => ?_)
 obtain ⟨M12f, M12h, rfl, hr12g, rfl, hS12j⟩ := hp12c
 refine ⟨_, rfl, fun a12d h12e => ?_⟩
 refine WL.bl 1 7 h12e [(4, i6 r129)] (fun a12k h12l => ?_)
 refine WL.dn ?_
 refine wp_ret ?_
 have hS12m := hS12j.b3
 have hS12n := hS12m.b1
 have hS12o := hS12n.b3
 obtain ⟨M12p, hp12q, hS12r⟩ := k69qfo p0 hr12g hr11x hS12o
 have hS12s := hS12r.b1
 have hS12t := hS12s.drop_
 obtain rfl := Option.some.inj H
 repeat (first | with_reducible refine t1 ?_ | with_reducible refine t2 ?_ | with_reducible refine t3 ?_)
 refine bret (i6 r129) h12l ?_
 exact ⟨M12p, rfl, hp12q, hS12t⟩

/-! ### (*louver/turns.Ring).find -/
def turns_Ring_find_nil.f (p1 : Int) : Option (Int) := some (-1)
set_option maxHeartbeats 20000000 in
set_option maxRecDepth 100000 in
theorem turns_Ring_find_nil.calls {b : Nat} {w0 W : World} {R : Frag} {Fs : List Frag} {p1 : Int}  {r0q : Int}  (H : turns_Ring_find_nil.f p1 = some r0q) (hS : St b w0 W R (Fs)) :
  Calls Try.prog 28 ([.pointer none, .int .u32 p1] : List Value).toArray W (fun e W' => e = .returned (i6 r0q) ∧ St b w0 W' R (Fs)) := by
 unfold turns_Ring_find_nil.f at H
 refine calls_enter Try.func28 rfl 13 rfl (by kernel_rfl) (fun a h => ?_)
 refine wp_seq ?_
 refine WL.start ?_
 refine WL.oq h rfl ?_
 refine owp_nw (fun g_ => (pt g_)) (.cells ([.int .u32 p1] : List Value).toArray 25 (0, 0)) h rfl hS (fun a10c W10e g10f h10d hS10g => ?_)
 refine WL.bl 1 2 h10d [(4, i6 0)] (fun a10h h10i => ?_)
 refine WL.dn ?_
 refine wp_seq ?_
 refine wp_seq ?_
 refine WL.start ?_
 refine WL.bl 2 2 h10i [(6, .bool true), (5, .pointer none)] (fun a10j h10k => ?_)
 refine WL.dn ?_
 refine wp_then h10k rfl ?_
 refine wp_seq ?_
 refine WL.start ?_
 refine WL.bl 1 1 h10k [(4, i6 (-1))] (fun a10l h10m => ?_)
 refine WL.dn ?_
 refine wp_ret ?_
 have hS10n := hS10g.drop_
 obtain rfl := Option.some.inj H
 repeat (first | with_reducible refine t1 ?_ | with_reducible refine t2 ?_ | with_reducible refine t3 ?_)
 refine bret (i6 (-1)) h10m ?_
 exact ⟨rfl, hS10n⟩

/-! ### slices.Delete[[]*louver/turns.sender,*louver/turns.sender] -/
def slices_Delete.f (p0 : (List S72)) (p1 : Int) (p2 : Int) : Option ((List S72)) := if 0 ≤ p1 then (if p1 ≤ p2 then (if p2 ≤ (p0.length : Int) then (if p1 = p2 then (some p0) else (some (p0.take p1.toNat ++ p0.drop p2.toNat))) else (none)) else (none)) else (none)
set_option maxHeartbeats 20000000 in
set_option maxRecDepth 100000 in
theorem slices_Delete.calls {b : Nat} {w0 W : World} {R : Frag} {Fs : List Frag} {p0 : (List S72)} {p1 : Int} {p2 : Int} {v0 : Value} {M0 : Frag} {r0q : (List S72)} (hp0 : Row (kPtr k72 72) 70 b w0 R v0 p0 M0) (H : slices_Delete.f p0 p1 p2 = some r0q) (hS : St b w0 W R (M0 :: Fs)) :
  Calls Try.prog 37 ([v0, i6 p1, i6 p2] : List Value).toArray W (fun e W' => ∃ (u0q : Value) (N0q : Frag), e = .returned (u0q) ∧ Row (kPtr k72 72) 70 b w0 R u0q r0q N0q ∧ St b w0 W' R (N0q :: Fs)) := by
 obtain ⟨A0, c0, rfl⟩ := hp0.form
 unfold slices_Delete.f at H
 refine calls_enter Try.func37 rfl 33 rfl (by kernel_rfl) (fun a h => ?_)
 refine wp_seq ?_
 refine WL.start ?_
 refine WL.bl 1 1 h [(6, .slice none 0 0)] (fun a12b h12c => ?_)
 refine WL.dn ?_
 refine wp_seq ?_
 refine WL.start ?_
 refine WL.bl 5 5 h12c [(12, i6 (p0.length : Int)), (11, .slice A0 p0.length c0), (10, i6 p2), (9, i6 p1), (8, .slice A0 p0.length c0)] (fun a12d h12e => ?_)
 clear h12c a12b
 by_cases c12f : 0 ≤ p1
 ·rw [if_pos c12f] at H
  by_cases c12g : p1 ≤ p2
  ·rw [if_pos c12g] at H
   by_cases c12h : p2 ≤ (p0.length : Int)
   ·rw [if_pos c12h] at H
    have s_cap := Rds.cap hp0.rds
    refine WL.oq h12e rfl ?_
    refine owp_rn (sliced A0 p1.toNat p2.toNat (p0.length : Int).toNat 1) h12e rfl (run_cut3 (l := p1) (h := p2) (m := (p0.length : Int)) rfl rfl Try.underlying67 (by kernel_rfl) rfl rfl rfl (by first | assumption | omega) (by first | assumption | omega) (by first | assumption | omega) (by have q_ := s_cap; omega) (by have q_ := s_cap; omega)) (fun a12i h12j => ?_)
    refine WL.dn ?_
    refine wp_seq ?_
    refine wp_seq ?_
    refine WL.start ?_
    refine WL.bl 3 3 h12j [(16, .bool (decide (p1 = p2))), (15, i6 p2), (14, i6 p1)] (fun a12k h12l => ?_)
    refine WL.dn ?_
    clear h12e a12d h12j a12i
    by_cases c12m : p1 = p2
    ·rw [if_pos c12m] at H
     have hb_ : (decide (p1 = p2)) = true := decide_eq_true c12m
     try rw [hb_] at h12l
     clear hb_
     refine wp_then h12l rfl ?_
     refine wp_seq ?_
     refine WL.start ?_
     refine WL.bl 2 2 h12l [(6, .slice A0 p0.length c0), (17, .slice A0 p0.length c0)] (fun a12n h12o => ?_)
     refine WL.dn ?_
     refine wp_ret ?_
     obtain rfl := Option.some.inj H
     repeat (first | with_reducible refine t1 ?_ | with_reducible refine t2 ?_ | with_reducible refine t3 ?_)
     refine bret (.slice A0 p0.length c0) h12o ?_
     exact ⟨.slice A0 p0.length c0, M0, rfl, hp0, hS⟩
    ·rw [if_neg c12m] at H
     have hb_ : (decide (p1 = p2)) = false := decide_eq_false c12m
     try rw [hb_] at h12l
     clear hb_
     refine wp_else h12l rfl ?_
     refine wp_skip ?_
     refine wp_seq ?_
     refine WL.start ?_
     refine WL.bl 3 3 h12l [(7, i6 (p0.length : Int)), (19, i6 (p0.length : Int)), (18, .slice A0 p0.length c0)] (fun a12p h12q => ?_)
     refine WL.dn ?_
     refine wp_seq ?_
     refine WT.start 8 (fun w_ => True) (by kernel_rfl) #[false, false, false, false, false, false, false, false] 8 rfl rfl ?_
     have hS13i := hS.drew
     refine WT.tk 0 h12q rfl rfl (.slice A0 p0.length c0) (fun _ _ => by kernel_rfl) trivial (fun a13j s13l h13k => ?_)
     refine WT.tk 1 h13k rfl rfl (i6 p1) (fun _ _ => by kernel_rfl) s13l (fun a13m s13o h13n => ?_)
     refine WT.tk 3 h13n rfl rfl (.slice A0 p0.length c0) (fun _ _ => by kernel_rfl) s13o (fun a13p s13r h13q => ?_)
     refine WT.tk 4 h13q rfl rfl (i6 p2) (fun _ _ => by kernel_rfl) s13r (fun a13s s13u h13t => ?_)
     refine WT.tk 2 h13t rfl rfl (sliced A0 0 p1.toNat c0 1) (fun w_ hs_ => (run_cut (l := 0) (h := p1) rfl rfl Try.underlying67 (by kernel_rfl) rfl ⟨_, rfl⟩ (by omega) (by omega) (by have q_ := s_cap; omega) (by have q_ := s_cap; omega))) s13u (fun a13v s13x h13w => ?_)
     refine WT.tk 5 h13w rfl rfl (sliced A0 p2.toNat p0.length c0 1) (fun w_ hs_ => (run_cut (l := p2) (h := ((p0.length : Nat) : Int)) rfl rfl Try.underlying67 (by kernel_rfl) ⟨_, rfl⟩ rfl (by omega) (by omega) (by have q_ := s_cap; omega) (by have q_ := s_cap; omega))) s13x (fun a13y s140 h13z => ?_)
     refine WT.o1 6 h13z rfl ?_
     refine owp_del (i := p1.toNat) (j := p2.toNat) (len := p0.length) h13z rfl (by kernel_rfl) rfl rfl rfl hp0 hS13i Try.underlying67 (by kernel_rfl) rfl (by omega) (by omega) (fun a141 W143 M144 h142 hr145 hS146 => ?_)
     have s_len : (p0.take p1.toNat ++ p0.drop p2.toNat).length = p1.toNat + (p0.length - p2.toNat) := by simp; omega
     refine ⟨.inr trivial, ?_⟩
     refine WT.tk 7 h142 rfl rfl (.slice A0 (p1.toNat + (p0.length - p2.toNat)) c0) (fun _ _ => by kernel_rfl) trivial (fun a147 s149 h148 => ?_)
     refine WT.dn ?_
     refine wp_seq ?_
     refine WL.start ?_
     refine WL.bl 4 4 h148 [(30, i6 (p0.length : Int)), (29, i6 (((p1.toNat + (p0.length - p2.toNat)) : Nat) : Int)), (28, .slice A0 (p1.toNat + (p0.length - p2.toNat)) c0), (27, .slice A0 (p1.toNat + (p0.length - p2.toNat)) c0)] (fun a14a h14b => ?_)
     refine WL.oq h14b rfl ?_
     refine owp_rn (sliced A0 (p1.toNat + (p0.length - p2.toNat)) p0.length c0 1) h14b rfl (run_cut (l := (((p1.toNat + (p0.length - p2.toNat)) : Nat) : Int)) (h := (p0.length : Int)) rfl rfl Try.underlying67 (by kernel_rfl) ⟨_, rfl⟩ ⟨_, rfl⟩ (by omega) (by omega) (by have q_ := s_cap; omega) (by have q_ := s_cap; omega)) (fun a14c h14d => ?_)
     refine WL.oq h14d rfl ?_
     refine owp_deltail (z := .pointer none) h14d rfl (by kernel_rfl) rfl rfl hr145 hS146 s_len Try.underlying67 (by kernel_rfl) rfl (by simp [Value.cells, Value.oneCell']) (fun a14e W14g M14h h14f hr14i hS14j => ?_)
     clear h12l a12k h12q a12p h13k a13j h13n a13m h13q a13p h13t a13s h13w a13v h13z a13y h142 a141 h148 a147 h14b a14a h14d a14c
     refine WL.dn ?_
     refine wp_seq ?_
     refine WL.start ?_
     refine WL.bl 2 2 h14f [(6, .slice A0 (p1.toNat + (p0.length - p2.toNat)) c0), (32, .slice A0 (p1.toNat + (p0.length - p2.toNat)) c0)] (fun a14k h14l => ?_)
     refine WL.dn ?_
     refine wp_ret ?_
     obtain rfl := Option.some.inj H
     repeat (first | with_reducible refine t1 ?_ | with_reducible refine t2 ?_ | with_reducible refine t3 ?_)
     refine bret (.slice A0 (p1.toNat + (p0.length - p2.toNat)) c0) h14l ?_
     exact ⟨.slice A0 (p1.toNat + (p0.length - p2.toNat)) c0, M14h, rfl, hr14i, hS14j⟩
   ·rw [if_neg c12h] at H
    cases H
  ·rw [if_neg c12g] at H
   cases H
 ·rw [if_neg c12f] at H
  cases H

/-! ### (*louver/turns.Ring).Drop -/
def turns_Ring_Drop.f (k : Nat) (p0 : S69) (p1 : Int) : Option (S69) := bnd1 (turns_Ring_find.f k p0 p1) fun r19m => (if r19m < 0 then (some p0) else (bnd1 (slices_Delete.f p0.f0 r19m (IntKind.i64.wrap (r19m + 1))) fun r1aj => (if r19m < p0.f1 then (if (IntKind.i64.wrap (p0.f1 - 1)) ≥ (r1aj.length : Int) then (some (⟨r1aj, 0, p0.f2⟩ : S69)) else (some (⟨r1aj, IntKind.i64.wrap (p0.f1 - 1), p0.f2⟩ : S69))) else (if p0.f1 ≥ (r1aj.length : Int) then (some (⟨r1aj, 0, p0.f2⟩ : S69)) else (some (⟨r1aj, p0.f1, p0.f2⟩ : S69))))))
set_option maxHeartbeats 20000000 in
set_option maxRecDepth 100000 in
theorem turns_Ring_Drop.calls (k : Nat) {b : Nat} {w0 W : World} {R : Frag} {Fs : List Frag} {p0 : S69} {p1 : Int}  {v0 : Value} {M0 : Frag} {r0q : S69} (hp0 : Ptr k69 69 b w0 R v0 p0 M0) (H : turns_Ring_Drop.f k p0 p1 = some r0q) (hS : St b w0 W R (M0 :: Fs)) :
  Calls Try.prog 20 ([v0, .int .u32 p1] : List Value).toArray W (fun e W' => ∃ (O0q : Frag), e = .returned (.tuple #[]) ∧ Ptr k69 69 b w0 R v0 r0q O0q ∧ St b w0 W' R (O0q :: Fs)) := by
 unfold turns_Ring_Drop.f at H
 refine calls_enter Try.func20 rfl 47 rfl (by kernel_rfl) (fun a h => ?_)
 refine wp_seq ?_
 refine WL.start ?_
 refine WL.bl 2 2 h [(6, .int .u32 p1), (5, v0)] (fun a19j h19k => ?_)
 obtain ⟨r19m, A19l, H⟩ := bind1 H
 refine WL.oq h19k rfl ?_
 refine owp_call [v0, .int .u32 p1] h19k rfl (by kernel_rfl) rfl Try.func28 (by kernel_rfl) rfl (by kernel_rfl) (turns_Ring_find.calls k hp0 A19l hS) (fun e19o W19n hp19p => ?_)
 obtain ⟨M19s, rfl, hr19t, hS19u⟩ := hp19p
 refine ⟨_, rfl, fun a19q h19r => ?_⟩
 refine WL.bl 1 4 h19r [(4, i6 r19m)] (fun a19v h19w => ?_)
 refine WL.dn ?_
 refine wp_seq ?_
 refine wp_seq ?_
 refine WL.start ?_
 refine WL.bl 2 2 h19w [(9, .bool (decide (r19m < 0))), (8, i6 r19m)] (fun a19x h19y => ?_)
 refine WL.dn ?_
 clear h19k a19j h19r a19q h19w a19v
 by_cases c19z : r19m < 0
 ·rw [if_pos c19z] at H
  have hb_ : (decide (r19m < 0)) = true := decide_eq_true c19z
  try rw [hb_] at h19y
  clear hb_
  refine wp_then h19y rfl ?_
  refine wp_ret ?_
  obtain rfl := Option.some.inj H
  repeat (first | with_reducible refine t1 ?_ | with_reducible refine t2 ?_ | with_reducible refine t3 ?_)
  refine bret (.tuple #[]) h19y ?_
  exact ⟨M19s, rfl, hr19t, hS19u⟩
 ·rw [if_neg c19z] at H
  have hb_ : (decide (r19m < 0)) = false := decide_eq_false c19z
  try rw [hb_] at h19y
  clear hb_
  refine wp_else h19y rfl ?_
  refine wp_skip ?_
  refine wp_seq ?_
  refine WL.start ?_
  refine WL.bl 2 2 h19y [(11, v0), (10, v0)] (fun a1a0 h1a1 => ?_)
  obtain ⟨g1a3, A1a4, c1a5, g1a8, M1a6, M1a9, rfl, hr1a7, hr1aa, hS1a2⟩ := k69qop hr19t hS19u
  refine WL.bl 2 4 h1a1 [(13, pt g1a3), (12, pt g1a3)] (fun a1ab h1ac => ?_)
  refine WL.oq h1ac rfl ?_
  refine owp_rn (.slice A1a4 p0.f0.length c1a5) h1ac rfl (run_load1 rfl rfl Try.underlying67 rfl (hS1a2.cell (i := 0) rfl)) (fun a1ad h1ae => ?_)
  refine WL.bl 3 8 h1ae [(17, i6 (IntKind.i64.wrap (r19m + 1))), (16, i6 r19m), (15, i6 r19m)] (fun a1af h1ag => ?_)
  have hS1ah := hS1a2.b1
  obtain ⟨r1aj, A1ai, H⟩ := bind1 H
  refine WL.oq h1ag rfl ?_
  refine owp_call [.slice A1a4 p0.f0.length c1a5, i6 r19m, i6 (IntKind.i64.wrap (r19m + 1))] h1ag rfl (by kernel_rfl) rfl Try.func37 (by kernel_rfl) rfl (by kernel_rfl) (slices_Delete.calls hr1a7 A1ai hS1ah) (fun e1al W1ak hp1am => ?_)
  obtain ⟨v1ap, M1aq, rfl, hr1ar, hS1as⟩ := hp1am
  refine ⟨_, rfl, fun a1an h1ao => ?_⟩
  obtain ⟨A1at, c1au, rfl⟩ := hr1ar.form
  refine WL.bl 2 11 h1ao [(20, pt g1a3), (19, pt g1a3)] (fun a1av h1aw => ?_)
  have hS1ax := hS1as.b1
  refine WL.oq h1aw rfl ?_
  refine owp_st 0 [.slice A1at r1aj.length c1au] h1aw rfl rfl rfl hS1ax [.slice A1at r1aj.length c1au, i6 p0.f1, pt g1a8] (fun a1ay W1b0 h1az hS1b1 => ?_)
  refine WL.dn ?_
  refine wp_seq ?_
  refine wp_seq ?_
  refine WL.start ?_
  refine WL.bl 4 4 h1az [(24, .pointer (some ⟨g1a3, 1, none⟩)), (23, pt g1a3), (22, pt g1a3), (21, i6 r19m)] (fun a1b2 h1b3 => ?_)
  refine WL.oq h1b3 rfl ?_
  refine owp_rn (i6 p0.f1) h1b3 rfl (run_load1 rfl rfl Try.underlying3 rfl (hS1b1.cell (i := 1) rfl)) (fun a1b4 h1b5 => ?_)
  refine WL.bl 1 6 h1b5 [(26, .bool (decide (r19m < p0.f1)))] (fun a1b6 h1b7 => ?_)
  refine WL.dn ?_
  clear h19y a19x h1a1 a1a0 h1ac a1ab h1ae a1ad h1ag a1af h1ao a1an h1aw a1av h1az a1ay h1b3 a1b2 h1b5 a1b4
  by_cases c1b8 : r19m < p0.f1
  ·rw [if_pos c1b8] at H
   have hb_ : (decide (r19m < p0.f1)) = true := decide_eq_true c1b8
   try rw [hb_] at h1b7
   clear hb_
   refine wp_then h1b7 rfl ?_
   refine WL.start ?_
   refine WL.bl 3 3 h1b7 [(29, .pointer (some ⟨g1a3, 1, none⟩)), (28, pt g1a3), (27, pt g1a3)] (fun a1b9 h1ba => ?_)
   refine WL.oq h1ba rfl ?_
   refine owp_rn (i6 p0.f1) h1ba rfl (run_load1 rfl rfl Try.underlying3 rfl (hS1b1.cell (i := 1) rfl)) (fun a1bb h1bc => ?_)
   refine WL.bl 3 7 h1bc [(33, .pointer (some ⟨g1a3, 1, none⟩)), (32, pt g1a3), (31, i6 (IntKind.i64.wrap (p0.f1 - 1)))] (fun a1bd h1be => ?_)
   refine WL.oq h1be rfl ?_
   refine owp_st 1 [i6 (IntKind.i64.wrap (p0.f1 - 1))] h1be rfl rfl rfl hS1b1 [.slice A1at r1aj.length c1au, i6 (IntKind.i64.wrap (p0.f1 - 1)), pt g1a8] (fun a1bf W1bh h1bg hS1bi => ?_)
   refine WL.dn ?_
   refine wp_seq ?_
   refine WT.start 10 (fun w_ => (w_.cell? ⟨g1a3, 1, none⟩ = some (i6 (IntKind.i64.wrap (p0.f1 - 1)))) ∧ (w_.cell? ⟨g1a3, 0, none⟩ = some (.slice A1at r1aj.length c1au)) ∧ True) (by kernel_rfl) #[false, false, false, false, false, false, false, false, false, false] 10 rfl rfl ?_
   have hS1d7 := hS1bi.drew
   refine WT.tk 0 h1bg rfl rfl (pt g1a3) (fun _ _ => by kernel_rfl) ⟨(hS1d7.cell (i := 1) rfl), (hS1d7.cell (i := 0) rfl), trivial⟩ (fun a1d8 s1da h1d9 => ?_)
   refine WT.tk 1 h1d9 rfl rfl (pt g1a3) (fun _ _ => by kernel_rfl) s1da (fun a1db s1dd h1dc => ?_)
   refine WT.tk 2 h1dc rfl rfl (.pointer (some ⟨g1a3, 1, none⟩)) (fun _ _ => by kernel_rfl) s1dd (fun a1de s1dg h1df => ?_)
   refine WT.tk 4 h1df rfl rfl (pt g1a3) (fun _ _ => by kernel_rfl) s1dg (fun a1dh s1dj h1di => ?_)
   refine WT.tk 5 h1di rfl rfl (pt g1a3) (fun _ _ => by kernel_rfl) s1dj (fun a1dk s1dm h1dl => ?_)
   refine WT.tk 6 h1dl rfl rfl (pt g1a3) (fun _ _ => by kernel_rfl) s1dm (fun a1dn s1dp h1do => ?_)
   refine WT.tk 3 h1do rfl rfl (i6 (IntKind.i64.wrap (p0.f1 - 1))) (fun w_ hs_ => (run_load1 rfl rfl Try.underlying3 rfl hs_.1)) s1dp (fun a1dq s1ds h1dr => ?_)
   refine WT.tk 7 h1dr rfl rfl (.slice A1at r1aj.length c1au) (fun w_ hs_ => (run_load1 rfl rfl Try.underlying67 rfl hs_.2.1)) s1ds (fun a1dt s1dv h1du => ?_)
   clear h1b7 a1b6 h1ba a1b9 h1bc a1bb h1be a1bd h1bg a1bf h1d9 a1d8 h1dc a1db h1df a1de h1di a1dh h1dl a1dk h1do a1dn h1dr a1dq
   refine WT.tk 8 h1du rfl rfl (i6 (r1aj.length : Int)) (fun _ _ => by kernel_rfl) s1dv (fun a1dw s1dy h1dx => ?_)
   refine WT.tk 9 h1dx rfl rfl (.bool (decide ((IntKind.i64.wrap (p0.f1 - 1)) ≥ (r1aj.length : Int)))) (fun _ _ => by kernel_rfl) s1dy (fun a1dz s1e1 h1e0 => ?_)
   refine WT.dn ?_
   clear h1du a1dt h1dx a1dw
   by_cases c1e2 : (IntKind.i64.wrap (p0.f1 - 1)) ≥ (r1aj.length : Int)
   ·rw [if_pos c1e2] at H
    have hb_ : (decide ((IntKind.i64.wrap (p0.f1 - 1)) ≥ (r1aj.length : Int))) = true := decide_eq_true c1e2
    try rw [hb_] at h1e0
    clear hb_
    refine wp_then h1e0 rfl ?_
    refine WL.start ?_
    refine WL.bl 3 3 h1e0 [(46, .pointer (some ⟨g1a3, 1, none⟩)), (45, pt g1a3), (44, pt g1a3)] (fun a1e3 h1e4 => ?_)
    refine WL.oq h1e4 rfl ?_
    refine owp_st 1 [i6 0] h1e4 rfl rfl rfl hS1d7 [.slice A1at r1aj.length c1au, i6 0, pt g1a8] (fun a1e5 W1e7 h1e6 hS1e8 => ?_)
    refine WL.dn ?_
    have hS1e9 := hS1e8.b2
    have hS1ea := hS1e9.b2
    have hS1eb := hS1ea.b2
    obtain ⟨M1ec, hp1ed, hS1ee⟩ := k69qfo (⟨r1aj, 0, p0.f2⟩ : S69) hr1ar hr1aa hS1eb
    obtain rfl := Option.some.inj H
    repeat (first | with_reducible refine t4 ?_ | with_reducible refine t3 ?_)
    refine bend (.tuple #[]) h1e6 ?_
    exact ⟨M1ec, rfl, hp1ed, hS1ee⟩
   ·rw [if_neg c1e2] at H
    have hb_ : (decide ((IntKind.i64.wrap (p0.f1 - 1)) ≥ (r1aj.length : Int))) = false := decide_eq_false c1e2
    try rw [hb_] at h1e0
    clear hb_
    refine wp_else h1e0 rfl ?_
    refine wp_skip ?_
    have hS1ef := hS1d7.b2
    have hS1eg := hS1ef.b2
    have hS1eh := hS1eg.b2
    obtain ⟨M1ei, hp1ej, hS1ek⟩ := k69qfo (⟨r1aj, IntKind.i64.wrap (p0.f1 - 1), p0.f2⟩ : S69) hr1ar hr1aa hS1eh
    obtain rfl := Option.some.inj H
    repeat (first | with_reducible refine t4 ?_ | with_reducible refine t3 ?_)
    refine bend (.tuple #[]) h1e0 ?_
    exact ⟨M1ei, rfl, hp1ej, hS1ek⟩
  ·rw [if_neg c1b8] at H
   have hb_ : (decide (r19m < p0.f1)) = false := decide_eq_false c1b8
   try rw [hb_] at h1b7
   clear hb_
   refine wp_else h1b7 rfl ?_
   refine wp_skip ?_
   refine wp_seq ?_
   refine WT.start 10 (fun w_ => (w_.cell? ⟨g1a3, 1, none⟩ = some (i6 p0.f1)) ∧ (w_.cell? ⟨g1a3, 0, none⟩ = some (.slice A1at r1aj.length c1au)) ∧ True) (by kernel_rfl) #[false, false, false, false, false, false, false, false, false, false] 10 rfl rfl ?_
   have hS1g9 := hS1b1.drew
   refine WT.tk 0 h1b7 rfl rfl (pt g1a3) (fun _ _ => by kernel_rfl) ⟨(hS1g9.cell (i := 1) rfl), (hS1g9.cell (i := 0) rfl), trivial⟩ (fun a1ga s1gc h1gb => ?_)
   refine WT.tk 1 h1gb rfl rfl (pt g1a3) (fun _ _ => by kernel_rfl) s1gc (fun a1gd s1gf h1ge => ?_)
   refine WT.tk 2 h1ge rfl rfl (.pointer (some ⟨g1a3, 1, none⟩)) (fun _ _ => by kernel_rfl) s1gf (fun a1gg s1gi h1gh => ?_)
   refine WT.tk 4 h1gh rfl rfl (pt g1a3) (fun _ _ => by kernel_rfl) s1gi (fun a1gj s1gl h1gk => ?_)
   refine WT.tk 5 h1gk rfl rfl (pt g1a3) (fun _ _ => by kernel_rfl) s1gl (fun a1gm s1go h1gn => ?_)
   refine WT.tk 6 h1gn rfl rfl (pt g1a3) (fun _ _ => by kernel_rfl) s1go (fun a1gp s1gr h1gq => ?_)
   refine WT.tk 3 h1gq rfl rfl (i6 p0.f1) (fun w_ hs_ => (run_load1 rfl rfl Try.underlying3 rfl hs_.1)) s1gr (fun a1gs s1gu h1gt => ?_)
   refine WT.tk 7 h1gt rfl rfl (.slice A1at r1aj.length c1au) (fun w_ hs_ => (run_load1 rfl rfl Try.underlying67 rfl hs_.2.1)) s1gu (fun a1gv s1gx h1gw => ?_)
   refine WT.tk 8 h1gw rfl rfl (i6 (r1aj.length : Int)) (fun _ _ => by kernel_rfl) s1gx (fun a1gy s1h0 h1gz => ?_)
   refine WT.tk 9 h1gz rfl rfl (.bool (decide (p0.f1 ≥ (r1aj.length : Int)))) (fun _ _ => by kernel_rfl) s1h0 (fun a1h1 s1h3 h1h2 => ?_)
   refine WT.dn ?_
   clear h1b7 a1b6 h1gb a1ga h1ge a1gd h1gh a1gg h1gk a1gj h1gn a1gm h1gq a1gp h1gt a1gs h1gw a1gv h1gz a1gy
   by_cases c1h4 : p0.f1 ≥ (r1aj.length : Int)
   ·rw [if_pos c1h4] at H
    have hb_ : (decide (p0.f1 ≥ (r1aj.length : Int))) = true := decide_eq_true c1h4
    try rw [hb_] at h1h2
    clear hb_
    refine wp_then h1h2 rfl ?_
    refine WL.start ?_
    refine WL.bl 3 3 h1h2 [(46, .pointer (some ⟨g1a3, 1, none⟩)), (45, pt g1a3), (44, pt g1a3)] (fun a1h5 h1h6 => ?_)
    refine WL.oq h1h6 rfl ?_
    refine owp_st 1 [i6 0] h1h6 rfl rfl rfl hS1g9 [.slice A1at r1aj.length c1au, i6 0, pt g1a8] (fun a1h7 W1h9 h1h8 hS1ha => ?_)
    refine WL.dn ?_
    have hS1hb := hS1ha.b2
    have hS1hc := hS1hb.b2
    have hS1hd := hS1hc.b2
    obtain ⟨M1he, hp1hf, hS1hg⟩ := k69qfo (⟨r1aj, 0, p0.f2⟩ : S69) hr1ar hr1aa hS1hd
    obtain rfl := Option.some.inj H
    repeat (first | with_reducible refine t4 ?_ | with_reducible refine t3 ?_)
    refine bend (.tuple #[]) h1h8 ?_
    exact ⟨M1he, rfl, hp1hf, hS1hg⟩
   ·rw [if_neg c1h4] at H
    have hb_ : (decide (p0.f1 ≥ (r1aj.length : Int))) = false := decide_eq_false c1h4
    try rw [hb_] at h1h2
    clear hb_
    refine wp_else h1h2 rfl ?_
    refine wp_skip ?_
    have hS1hh := hS1g9.b2
    have hS1hi := hS1hh.b2
    have hS1hj := hS1hi.b2
    obtain ⟨M1hk, hp1hl, hS1hm⟩ := k69qfo (⟨r1aj, p0.f1, p0.f2⟩ : S69) hr1ar hr1aa hS1hj
    obtain rfl := Option.some.inj H
    repeat (first | with_reducible refine t4 ?_ | with_reducible refine t3 ?_)
    refine bend (.tuple #[]) h1h2 ?_
    exact ⟨M1hk, rfl, hp1hl, hS1hm⟩

/-! ### (*louver/turns.Ring).Drop -/
def turns_Ring_Drop_nil.f (k : Nat) (p1 : Int) : Option (Unit) := bnd1 (turns_Ring_find_nil.f p1) fun r10k => (if r10k < 0 then (some ()) else (none))
set_option maxHeartbeats 20000000 in
set_option maxRecDepth 100000 in
theorem turns_Ring_Drop_nil.calls (k : Nat) {b : Nat} {w0 W : World} {R : Frag} {Fs : List Frag} {p1 : Int}    (H : turns_Ring_Drop_nil.f k p1 = some ()) (hS : St b w0 W R (Fs)) :
  Calls Try.prog 20 ([.pointer none, .int .u32 p1] : List Value).toArray W (fun e W' => e = .returned (.tuple #[]) ∧ St b w0 W' R (Fs)) := by
 unfold turns_Ring_Drop_nil.f at H
 refine calls_enter Try.func20 rfl 47 rfl (by kernel_rfl) (fun a h => ?_)
 refine wp_seq ?_
 refine WL.start ?_
 refine WL.bl 2 2 h [(6, .int .u32 p1), (5, .pointer none)] (fun a10h h10i => ?_)
 obtain ⟨r10k, A10j, H⟩ := bind1 H
 refine WL.oq h10i rfl ?_
 refine owp_call [.pointer none, .int .u32 p1] h10i rfl (by kernel_rfl) rfl Try.func28 (by kernel_rfl) rfl (by kernel_rfl) (turns_Ring_find_nil.calls  A10j hS) (fun e10m W10l hp10n => ?_)
 obtain ⟨rfl, hS10q⟩ := hp10n
 refine ⟨_, rfl, fun a10o h10p => ?_⟩
 refine WL.bl 1 4 h10p [(4, i6 r10k)] (fun a10r h10s => ?_)
 refine WL.dn ?_
 refine wp_seq ?_
 refine wp_seq ?_
 refine WL.start ?_
 refine WL.bl 2 2 h10s [(9, .bool (decide (r10k < 0))), (8, i6 r10k)] (fun a10t h10u => ?_)
 refine WL.dn ?_
 clear h10i a10h h10p a10o h10s a10r
 by_cases c10v : r10k < 0
 ·rw [if_pos c10v] at H
  have hb_ : (decide (r10k < 0)) = true := decide_eq_true c10v
  try rw [hb_] at h10u
  clear hb_
  refine wp_then h10u rfl ?_
  refine wp_ret ?_
  repeat (first | with_reducible refine t1 ?_ | with_reducible refine t2 ?_ | with_reducible refine t3 ?_)
  refine bret (.tuple #[]) h10u ?_
  exact ⟨rfl, hS10q⟩
 ·rw [if_neg c10v] at H
  have hb_ : (decide (r10k < 0)) = false := decide_eq_false c10v
  try rw [hb_] at h10u
  clear hb_
  refine wp_else h10u rfl ?_
  refine wp_skip ?_
  refine wp_seq ?_
  refine WL.start ?_
  refine WL.bl 2 2 h10u [(11, .pointer none), (10, .pointer none)] (fun a10w h10x => ?_)
  cases H

/-! ### louver/window.New -/
def window_New.f (p0 : Int) (p1 : Bool) : Option (S94) := some (⟨mnI (mxI p0 (-2147483648)) 2147483647, p1⟩ : S94)
set_option maxHeartbeats 20000000 in
set_option maxRecDepth 100000 in
theorem window_New.calls {b : Nat} {w0 W : World} {R : Frag} {Fs : List Frag} {p0 : Int} {p1 : Bool}  {r0q : S94}  (H : window_New.f p0 p1 = some r0q) (hS : St b w0 W R (Fs)) :
  Calls Try.prog 27 ([i6 p0, .bool p1] : List Value).toArray W (fun e W' => ∃ (u0q : Value) (N0q : Frag), e = .returned (u0q) ∧ Ptr k94 94 b w0 R u0q r0q N0q ∧ St b w0 W' R (N0q :: Fs)) := by
 unfold window_New.f at H
 refine calls_enter Try.func27 rfl 11 rfl (by kernel_rfl) (fun a h => ?_)
 refine wp_seq ?_
 refine WL.start ?_
 refine WL.bl 1 1 h [(4, .pointer none)] (fun a10e h10f => ?_)
 refine WL.dn ?_
 refine wp_seq ?_
 refine WL.start ?_
 refine WL.bl 5 5 h10f [(9, .agg #[i6 (mnI (mxI p0 (-2147483648)) 2147483647), .bool p1]), (8, .bool p1), (7, i6 (mnI (mxI p0 (-2147483648)) 2147483647)), (6, i6 (mxI p0 (-2147483648))), (5, i6 p0)] (fun a10g h10h => ?_)
 refine WL.oq h10h rfl ?_
 refine owp_nw (fun g_ => (pt g_)) (.cells ([i6 (mnI (mxI p0 (-2147483648)) 2147483647), .bool p1] : List Value).toArray 94 (0, 0)) h10h rfl hS (fun a10i W10k g10l h10j hS10m => ?_)
 refine WL.bl 1 7 h10j [(4, pt g10l)] (fun a10n h10o => ?_)
 refine WL.dn ?_
 refine wp_ret ?_
 obtain ⟨M10p, hp10q, hS10r⟩ := k94qfo (⟨mnI (mxI p0 (-2147483648)) 2147483647, p1⟩ : S94) hS10m
 obtain rfl := Option.some.inj H
 repeat (first | with_reducible refine t1 ?_ | with_reducible refine t2 ?_ | with_reducible refine t3 ?_)
 refine bret (pt g10l) h10o ?_
 exact ⟨(pt g10l), M10p, rfl, hp10q, hS10r⟩

/-! ### louver/turns.New -/
def turns_New.f (p0 : Int) : Option (S69) := bnd1 (window_New.f p0 false) fun r111 => (some (⟨([] : List S72), 0, r111⟩ : S69))
set_option maxHeartbeats 20000000 in
set_option maxRecDepth 100000 in
theorem turns_New.calls {b : Nat} {w0 W : World} {R : Frag} {Fs : List Frag} {p0 : Int}  {r0q : S69}  (H : turns_New.f p0 = some r0q) (hS : St b w0 W R (Fs)) :
  Calls Try.prog 8 ([i6 p0] : List Value).toArray W (fun e W' => ∃ (u0q : Value) (N0q : Frag), e = .returned (u0q) ∧ Ptr k69 69 b w0 R u0q r0q N0q ∧ St b w0 W' R (N0q :: Fs)) := by
 unfold turns_New.f at H
 refine calls_enter Try.func8 rfl 7 rfl (by kernel_rfl) (fun a h => ?_)
 refine wp_seq ?_
 refine WL.start ?_
 refine WL.bl 1 1 h [(2, .pointer none)] (fun a10w h10x => ?_)
 refine WL.dn ?_
 refine wp_seq ?_
 refine WL.start ?_
 refine WL.bl 1 1 h10x [(3, i6 p0)] (fun a10y h10z => ?_)
 obtain ⟨r111, A110, H⟩ := bind1 H
 refine WL.oq h10z rfl ?_
 refine owp_call [i6 p0, .bool false] h10z rfl (by kernel_rfl) rfl Try.func27 (by kernel_rfl) rfl (by kernel_rfl) (window_New.calls  A110 hS) (fun e113 W112 hp114 => ?_)
 obtain ⟨v117, M118, rfl, hr119, hS11a⟩ := hp114
 refine ⟨_, rfl, fun a115 h116 => ?_⟩
 obtain ⟨g11b, rfl⟩ := hr119.ptr_form
 refine WL.bl 1 3 h116 [(5, .agg #[.slice none 0 0, i6 0, pt g11b])] (fun a11c h11d => ?_)
 refine WL.oq h11d rfl ?_
 refine owp_nw (fun g_ => (pt g_)) (.cells ([.slice none 0 0, i6 0, pt g11b] : List Value).toArray 69 (0, 0)) h11d rfl hS11a (fun a11e W11g g11h h11f hS11i => ?_)
 refine WL.bl 1 5 h11f [(2, pt g11h)] (fun a11j h11k => ?_)
 refine WL.dn ?_
 refine wp_ret ?_
 have hS11l := hS11i.nil_
 have hS11m := hS11l.b2
 have hS11n := hS11m.b1
 have hS11o := hS11n.b2
 obtain ⟨M11p, hp11q, hS11r⟩ := k69qfo (⟨([] : List S72), 0, r111⟩ : S69) (y0 := []) Row.nil hr119 hS11o
 obtain rfl := Option.some.inj H
 repeat (first | with_reducible refine t1 ?_ | with_reducible refine t2 ?_ | with_reducible refine t3 ?_)
 refine bret (pt g11h) h11k ?_
 exact ⟨(pt g11h), M11p, rfl, hp11q, hS11r⟩

/-! ### (*louver/turns.Ring).Open -/
def turns_Ring_Open.f (k : Nat) (p0 : S69) (p1 : Int) (p2 : Int) : Option (Bool × S69) := if p1 = 0 then (some (false, p0)) else (bnd1 (turns_Ring_find.f k p0 p1) fun r1em => (if r1em ≥ 0 then (some (false, p0)) else (bnd1 (window_New.f p2 true) fun r1kd => (if p0.f0.length + 1 ≤ 17592186044416 then (lt1 (p0.f0 ++ ([(⟨p1, ([] : List Int), false, false, r1kd⟩ : S72)] : List S72) : List S72) fun y1lk => (some (true, (⟨y1lk, p0.f1, p0.f2⟩ : S69)))) else (none)))))
set_option maxHeartbeats 20000000 in
set_option maxRecDepth 100000 in
theorem turns_Ring_Open.calls (k : Nat) {b : Nat} {w0 W : World} {R : Frag} {Fs : List Frag} {p0 : S69} {p1 : Int} {p2 : Int}  {v0 : Value} {M0 : Frag} {r0q : Bool} {r1q : S69} (hp0 : Ptr k69 69 b w0 R v0 p0 M0) (H : turns_Ring_Open.f k p0 p1 p2 = some (r0q, r1q)) (hS : St b w0 W R (M0 :: Fs)) :
  Calls Try.prog 9 ([v0, .int .u32 p1, i6 p2] : List Value).toArray W (fun e W' => ∃ (O0q : Frag), e = .returned (.bool r0q) ∧ Ptr k69 69 b w0 R v0 r1q O0q ∧ St b w0 W' R (O0q :: Fs)) := by
 unfold turns_Ring_Open.f at H
 refine calls_enter Try.func9 rfl 33 rfl (by kernel_rfl) (fun a h => ?_)
 refine wp_seq ?_
 refine WL.start ?_
 refine WL.bl 1 1 h [(6, .bool false)] (fun a1d7 h1d8 => ?_)
 refine WL.dn ?_
 refine wp_seq ?_
 refine wp_seq ?_
 refine WL.start ?_
 refine WL.bl 1 1 h1d8 [(7, v0)] (fun a1d9 h1da => ?_)
 obtain ⟨g1dc, A1dd, c1de, g1dh, M1df, M1di, rfl, hr1dg, hr1dj, hS1db⟩ := k69qop hp0 hS
 refine WL.bl 2 3 h1da [(9, .bool false), (8, .bool false)] (fun a1dk h1dl => ?_)
 refine WL.oq h1dl rfl (owp_rk (.int .u32 p1) h1dl rfl (fun a1dm h1dn => ?_))
 refine WL.oq h1dn rfl (owp_rk (.bool (decide (p1 = 0))) h1dn rfl (fun a1do h1dp => ?_))
 refine WL.bl 2 7 h1dp [(13, .bool (decide (p1 = 0))), (12, .bool (decide (p1 = 0)))] (fun a1dq h1dr => ?_)
 clear h1d8 a1d7 h1da a1d9 h1dl a1dk h1dn a1dm h1dp a1do
 by_cases c1ds : p1 = 0
 ·rw [if_pos c1ds] at H
  have hb_ : (decide (p1 = 0)) = true := decide_eq_true c1ds
  try rw [hb_] at h1dr
  clear hb_
  refine WL.sk h1dr rfl rfl (fun a1dt h1du => ?_)
  refine WL.sk h1du rfl rfl (fun a1dv h1dw => ?_)
  refine WL.sk h1dw rfl rfl (fun a1dx h1dy => ?_)
  refine WL.sk h1dy rfl rfl (fun a1dz h1e0 => ?_)
  refine WL.bl 1 12 h1e0 [(18, .bool true)] (fun a1e1 h1e2 => ?_)
  refine WL.dn ?_
  refine wp_then h1e2 rfl ?_
  refine wp_seq ?_
  refine WL.start ?_
  refine WL.bl 1 1 h1e2 [(6, .bool false)] (fun a1e3 h1e4 => ?_)
  refine WL.dn ?_
  refine wp_ret ?_
  have hS1e5 := hS1db.b2
  have hS1e6 := hS1e5.b2
  have hS1e7 := hS1e6.b2
  obtain ⟨M1e8, hp1e9, hS1ea⟩ := k69qfo p0 hr1dg hr1dj hS1e7
  obtain ⟨rfl, rfl⟩ := ret2 H
  repeat (first | with_reducible refine t1 ?_ | with_reducible refine t2 ?_ | with_reducible refine t3 ?_)
  refine bret (.bool false) h1e4 ?_
  exact ⟨M1e8, rfl, hp1e9, hS1ea⟩
 ·rw [if_neg c1ds] at H
  have hb_ : (decide (p1 = 0)) = false := decide_eq_false c1ds
  try rw [hb_] at h1dr
  clear hb_
  refine WL.oq h1dr rfl (owp_rk (pt g1dc) h1dr rfl (fun a1eb h1ec => ?_))
  refine WL.oq h1ec rfl (owp_rk (.int .u32 p1) h1ec rfl (fun a1ed h1ee => ?_))
  have hS1ef := hS1db.b2
  have hS1eg := hS1ef.b2
  have hS1eh := hS1eg.b2
  obtain ⟨M1ei, hp1ej, hS1ek⟩ := k69qfo p0 hr1dg hr1dj hS1eh
  obtain ⟨r1em, A1el, H⟩ := bind1 H
  refine WL.oq h1ee rfl ?_
  refine owp_call [(pt g1dc), .int .u32 p1] h1ee rfl (by kernel_rfl) rfl Try.func28 (by kernel_rfl) rfl (by kernel_rfl) (turns_Ring_find.calls k hp1ej A1el hS1ek) (fun e1eo W1en hp1ep => ?_)
  obtain ⟨M1es, rfl, hr1et, hS1eu⟩ := hp1ep
  refine ⟨_, rfl, fun a1eq h1er => ?_⟩
  refine WL.oq h1er rfl (owp_rk (.bool (decide (r1em ≥ 0))) h1er rfl (fun a1ev h1ew => ?_))
  refine WL.bl 1 12 h1ew [(18, .bool (decide (r1em ≥ 0)))] (fun a1ex h1ey => ?_)
  refine WL.dn ?_
  clear h1dr a1dq h1ec a1eb h1ee a1ed h1er a1eq h1ew a1ev
  by_cases c1ez : r1em ≥ 0
  ·rw [if_pos c1ez] at H
   have hb_ : (decide (r1em ≥ 0)) = true := decide_eq_true c1ez
   try rw [hb_] at h1ey
   clear hb_
   refine wp_then h1ey rfl ?_
   refine wp_seq ?_
   refine WL.start ?_
   refine WL.bl 1 1 h1ey [(6, .bool false)] (fun a1f0 h1f1 => ?_)
   refine WL.dn ?_
   refine wp_ret ?_
   obtain ⟨rfl, rfl⟩ := ret2 H
   repeat (first | with_reducible refine t1 ?_ | with_reducible refine t2 ?_ | with_reducible refine t3 ?_)
   refine bret (.bool false) h1f1 ?_
   exact ⟨M1es, rfl, hr1et, hS1eu⟩
  ·rw [if_neg c1ez] at H
   have hb_ : (decide (r1em ≥ 0)) = false := decide_eq_false c1ez
   try rw [hb_] at h1ey
   clear hb_
   refine wp_else h1ey rfl ?_
   refine wp_skip ?_
   refine wp_seq ?_
   obtain ⟨A1f3, c1f4, g1f7, M1f5, M1f8, hr1f6, hr1f9, hS1f2⟩ := k69qoq hr1et hS1eu
   refine WT.start 14 (fun w_ => (w_.cell? ⟨g1dc, 0, none⟩ = some (.slice A1f3 p0.f0.length c1f4)) ∧ True) (by kernel_rfl) #[false, false, false, false, false, false, false, false, false, false, false, false, false, false, false] 15 rfl rfl ?_
   have hS1jq := hS1f2.drew
   refine WT.tk 0 h1ey rfl rfl (pt g1dc) (fun _ _ => by kernel_rfl) ⟨(hS1jq.cell (i := 0) rfl), trivial⟩ (fun a1jr s1jt h1js => ?_)
   refine WT.tk 1 h1js rfl rfl (pt g1dc) (fun _ _ => by kernel_rfl) s1jt (fun a1ju s1jw h1jv => ?_)
   refine WT.tk 2 h1jv rfl rfl (pt g1dc) (fun _ _ => by kernel_rfl) s1jw (fun a1jx s1jz h1jy => ?_)
   refine WT.tk 3 h1jy rfl rfl (pt g1dc) (fun _ _ => by kernel_rfl) s1jz (fun a1k0 s1k2 h1k1 => ?_)
   refine WT.tk 5 h1k1 rfl rfl (.int .u32 p1) (fun _ _ => by kernel_rfl) s1k2 (fun a1k3 s1k5 h1k4 => ?_)
   refine WT.tk 6 h1k4 rfl rfl (i6 p2) (fun _ _ => by kernel_rfl) s1k5 (fun a1k6 s1k8 h1k7 => ?_)
   refine WT.tk 4 h1k7 rfl rfl (.slice A1f3 p0.f0.length c1f4) (fun w_ hs_ => (run_load1 rfl rfl Try.underlying67 rfl hs_.1)) s1k8 (fun a1k9 s1kb h1ka => ?_)
   obtain ⟨r1kd, A1kc, H⟩ := bind1 H
   refine WT.o1 7 h1ka rfl ?_
   refine owp_call [i6 p2, .bool true] h1ka rfl (by kernel_rfl) rfl Try.func27 (by kernel_rfl) rfl (by kernel_rfl) (window_New.calls  A1kc hS1jq) (fun e1kf W1ke hp1kg => ?_)
   obtain ⟨v1kj, M1kk, rfl, hr1kl, hS1km⟩ := hp1kg
   refine ⟨_, rfl, fun a1kh h1ki => ?_⟩
   obtain ⟨g1kn, rfl⟩ := hr1kl.ptr_form
   refine ⟨.inr ⟨(hS1km.b1.cell (i := 0) rfl), trivial⟩, ?_⟩
   refine WT.tk 8 h1ki rfl rfl (.agg #[.int .u32 p1, .slice none 0 0, .bool false, .bool false, pt g1kn]) (fun _ _ => by kernel_rfl) ⟨(hS1km.b1.cell (i := 0) rfl), trivial⟩ (fun a1ko s1kq h1kp => ?_)
   refine WT.o1 9 h1kp rfl ?_
   refine owp_nw (fun g_ => (pt g_)) (.cells ([.int .u32 p1, .slice none 0 0, .bool false, .bool false, pt g1kn] : List Value).toArray 72 (0, 0)) h1kp rfl hS1km (fun a1kr W1kt g1ku h1ks hS1kv => ?_)
   refine ⟨.inr ⟨(hS1kv.b2.cell (i := 0) rfl), trivial⟩, ?_⟩
   have hS1kw := hS1kv.nil_
   have hS1kx := hS1kw.b2
   have hS1ky := hS1kx.b1
   have hS1kz := hS1ky.b2
   obtain ⟨M1l0, hp1l1, hS1l2⟩ := k72qfo (⟨p1, ([] : List Int), false, false, r1kd⟩ : S72) (y1 := []) Row.nil hr1kl hS1kz
   refine WT.o1 10 h1ks rfl ?_
   refine owp_nw (fun g_ => .slice (some ⟨g_, 0, none⟩) 1 1) (.cells ([(pt g1ku)] : List Value).toArray 70 (0, 0)) h1ks rfl hS1l2 (fun a1l3 W1l5 g1l6 h1l4 hS1l7 => ?_)
   have hr1l8 : Row (kPtr k72 72) 70 b w0 R (.slice (some ⟨g1l6, 0, none⟩) 1 1) ([(⟨p1, ([] : List Int), false, false, r1kd⟩ : S72)] : List S72) ((bx g1l6 70 [(pt g1ku)]) ++ ((M1l0) ++ ([] : Frag))) := Row.lit (xs := ([(⟨p1, ([] : List Int), false, false, r1kd⟩ : S72)] : List S72)) (Mi := ((M1l0) ++ ([] : Frag))) ⟨_, _, _, _, rfl, rfl, ⟨_, rfl, hp1l1⟩, ⟨rfl, rfl⟩⟩ (by simp [maxLen])
   have hS1la : St b w0 W1l5 R (((bx g1l6 70 [(pt g1ku)]) ++ ((M1l0) ++ ([] : Frag))) :: (bx g1dc 69 [.slice A1f3 p0.f0.length c1f4, i6 p0.f1, pt g1f7]) :: M1f5 :: M1f8 :: Fs) := hS1l7.assoc (by simp only [List.flatten_cons, List.append_assoc, List.cons_append, List.nil_append, List.append_nil])
   obtain ⟨M1l9, hM_⟩ : ∃ y : Frag, y = ((bx g1l6 70 [(pt g1ku)]) ++ ((M1l0) ++ ([] : Frag))) := ⟨_, rfl⟩
   rw [← hM_] at hr1l8 hS1la
   clear hM_
   refine ⟨.inr ⟨(hS1la.b1.cell (i := 0) rfl), trivial⟩, ?_⟩
   clear h1ey a1ex h1js a1jr h1jv a1ju h1jy a1jx h1k1 a1k0 h1k4 a1k3 h1k7 a1k6 h1ka a1k9 h1ki a1kh h1kp a1ko h1ks a1kr
   by_cases c1lb : p0.f0.length + 1 ≤ 17592186044416
   ·rw [if_pos c1lb] at H
    have hS1lc := hS1la.b2
    refine WT.o1 11 h1l4 rfl ?_
    refine owp_app_take (z := .pointer none) (bytes := 8) (dk := (kPtr k72 72)) h1l4 rfl (by kernel_rfl) rfl rfl rfl hr1f6 hr1l8 hS1lc Try.underlying67 (by kernel_rfl) rfl (by decide) (by decide) (by first | omega | (simp only [List.length_cons, List.length_nil] at *; omega)) (fun a1ld W1lf v1lg M1lh h1le hr1li hS1lj => ?_)
    obtain ⟨y1lk, hy1ll, H⟩ := lete H
    have hr1lm : Row (kPtr k72 72) 70 b w0 R v1lg y1lk M1lh := by rw [hy1ll]; exact hr1li
    clear hr1li
    obtain ⟨A1ln, c1lo, rfl⟩ := hr1lm.form
    refine ⟨.inr ⟨(hS1lj.b1.cell (i := 0) rfl), trivial⟩, ?_⟩
    refine WT.o1 12 h1le rfl ?_
    refine owp_rk (pt g1dc) h1le rfl (fun a1lp h1lq => ?_)
    refine ⟨.inr ⟨(hS1lj.b1.cell (i := 0) rfl), trivial⟩, ?_⟩
    refine WT.tk 13 h1lq rfl rfl (pt g1dc) (fun _ _ => by kernel_rfl) ⟨(hS1lj.b1.cell (i := 0) rfl), trivial⟩ (fun a1lr s1lt h1ls => ?_)
    have hS1lu := hS1lj.b1
    refine WT.o1 14 h1ls rfl ?_
    refine owp_st 0 [.slice A1ln y1lk.length c1lo] h1ls rfl rfl rfl hS1lu [.slice A1ln y1lk.length c1lo, i6 p0.f1, pt g1f7] (fun a1lv W1lx h1lw hS1ly => ?_)
    refine ⟨.inl (by decide), ?_⟩
    refine WT.dn ?_
    refine wp_seq ?_
    refine WL.start ?_
    refine WL.bl 1 1 h1lw [(6, .bool true)] (fun a1lz h1m0 => ?_)
    refine WL.dn ?_
    refine wp_ret ?_
    have hS1m1 := hS1ly.b2
    have hS1m2 := hS1m1.b2
    have hS1m3 := hS1m2.b2
    obtain ⟨M1m4, hp1m5, hS1m6⟩ := k69qfo (⟨y1lk, p0.f1, p0.f2⟩ : S69) hr1lm hr1f9 hS1m3
    obtain ⟨rfl, rfl⟩ := ret2 H
    repeat (first | with_reducible refine t1 ?_ | with_reducible refine t2 ?_ | with_reducible refine t3 ?_)
    refine bret (.bool true) h1m0 ?_
    exact ⟨M1m4, rfl, hp1m5, hS1m6⟩
   ·rw [if_neg c1lb] at H
    cases H

/-! ### (*louver/turns.Ring).Open -/
def turns_Ring_Open_nil.f (p1 : Int) (p2 : Int) : Option (Bool) := some false
set_option maxHeartbeats 20000000 in
set_option maxRecDepth 100000 in
theorem turns_Ring_Open_nil.calls {b : Nat} {w0 W : World} {R : Frag} {Fs : List Frag} {p1 : Int} {p2 : Int}  {r0q : Bool}  (H : turns_Ring_Open_nil.f p1 p2 = some r0q) (hS : St b w0 W R (Fs)) :
  Calls Try.prog 9 ([.pointer none, .int .u32 p1, i6 p2] : List Value).toArray W (fun e W' => e = .returned (.bool r0q) ∧ St b w0 W' R (Fs)) := by
 unfold turns_Ring_Open_nil.f at H
 refine calls_enter Try.func9 rfl 33 rfl (by kernel_rfl) (fun a h => ?_)
 refine wp_seq ?_
 refine WL.start ?_
 refine WL.bl 1 1 h [(6, .bool false)] (fun a10m h10n => ?_)
 refine WL.dn ?_
 refine wp_seq ?_
 refine wp_seq ?_
 refine WL.start ?_
 refine WL.bl 3 3 h10n [(9, .bool true), (8, .bool true), (7, .pointer none)] (fun a10o h10p => ?_)
 refine WL.sk h10p rfl rfl (fun a10q h10r => ?_)
 refine WL.sk h10r rfl rfl (fun a10s h10t => ?_)
 refine WL.bl 2 7 h10t [(13, .bool true), (12, .bool true)] (fun a10u h10v => ?_)
 refine WL.sk h10v rfl rfl (fun a10w h10x => ?_)
 refine WL.sk h10x rfl rfl (fun a10y h10z => ?_)
 refine WL.sk h10z rfl rfl (fun a110 h111 => ?_)
 refine WL.sk h111 rfl rfl (fun a112 h113 => ?_)
 refine WL.bl 1 12 h113 [(18, .bool true)] (fun a114 h115 => ?_)
 refine WL.dn ?_
 refine wp_then h115 rfl ?_
 refine wp_seq ?_
 refine WL.start ?_
 refine WL.bl 1 1 h115 [(6, .bool false)] (fun a116 h117 => ?_)
 refine WL.dn ?_
 refine wp_ret ?_
 obtain rfl := Option.some.inj H
 repeat (first | with_reducible refine t1 ?_ | with_reducible refine t2 ?_ | with_reducible refine t3 ?_)
 refine bret (.bool false) h117 ?_
 exact ⟨rfl, hS⟩

/-! ### (*louver/turns.Ring).Put -/
def turns_Ring_Put.f (k : Nat) (p0 : S69) (p1 : Int) (p2 : (List Int)) (p3 : Bool) : Option (Bool × S69) := bnd1 (turns_Ring_find.f k p0 p1) fun r1c4 => (if r1c4 < 0 then (some (false, p0)) else (if 0 ≤ r1c4 then (if r1c4 < (p0.f0.length : Int) then (lt1 (gt z72 p0.f0 r1c4 : S72) fun y1e5 => (if y1e5.f2 = true then (some (false, p0)) else (lt1 (gt z72 p0.f0 r1c4 : S72) fun y1gb => (if y1gb.f1.length + p2.length ≤ 140737488355328 then (lt1 (y1gb.f1 ++ p2 : List Int) fun y1h9 => (some (true, (⟨(p0.f0.set r1c4.toNat (⟨y1gb.f0, y1h9, p3, y1gb.f3, y1gb.f4⟩ : S72)), p0.f1, p0.f2⟩ : S69)))) else (none))))) else (none)) else (none)))
set_option maxHeartbeats 20000000 in
set_option maxRecDepth 100000 in
theorem turns_Ring_Put.calls (k : Nat) {b : Nat} {w0 W : World} {R : Frag} {Fs : List Frag} {p0 : S69} {p1 : Int} {p2 : (List Int)} {p3 : Bool} {v2 : Value} {v0 : Value} {M0 : Frag} {r0q : Bool} {r1q : S69} (hp0 : Ptr k69 69 b w0 R v0 p0 M0) (hp2 : Rds (kInt .u8) b w0 R v2 p2) (H : turns_Ring_Put.f k p0 p1 p2 p3 = some (r0q, r1q)) (hS : St b w0 W R (M0 :: Fs)) :
  Calls Try.prog 10 ([v0, .int .u32 p1, v2, .bool p3] : List Value).toArray W (fun e W' => ∃ (O0q : Frag), e = .returned (.bool r0q) ∧ Ptr k69 69 b w0 R v0 r1q O0q ∧ St b w0 W' R (O0q :: Fs)) := by
 obtain ⟨A2, c2, rfl⟩ := hp2.form
 unfold turns_Ring_Put.f at H
 refine calls_enter Try.func10 rfl 48 rfl (by kernel_rfl) (fun a h => ?_)
 refine wp_seq ?_
 refine WL.start ?_
 refine WL.bl 1 1 h [(8, .bool false)] (fun a1bz h1c0 => ?_)
 refine WL.dn ?_
 refine wp_seq ?_
 refine WL.start ?_
 refine WL.bl 2 2 h1c0 [(12, .int .u32 p1), (11, v0)] (fun a1c1 h1c2 => ?_)
 obtain ⟨r1c4, A1c3, H⟩ := bind1 H
 refine WL.oq h1c2 rfl ?_
 refine owp_call [v0, .int .u32 p1] h1c2 rfl (by kernel_rfl) rfl Try.func28 (by kernel_rfl) rfl (by kernel_rfl) (turns_Ring_find.calls k hp0 A1c3 hS) (fun e1c6 W1c5 hp1c7 => ?_)
 obtain ⟨M1ca, rfl, hr1cb, hS1cc⟩ := hp1c7
 refine ⟨_, rfl, fun a1c8 h1c9 => ?_⟩
 refine WL.bl 1 4 h1c9 [(9, i6 r1c4)] (fun a1cd h1ce => ?_)
 refine WL.dn ?_
 refine wp_seq ?_
 refine wp_seq ?_
 refine WL.start ?_
 refine WL.bl 3 3 h1ce [(16, .bool (decide (r1c4 < 0))), (15, .bool (decide (r1c4 < 0))), (14, i6 r1c4)] (fun a1cf h1cg => ?_)
 clear h1c0 a1bz h1c2 a1c1 h1c9 a1c8 h1ce a1cd
 by_cases c1ch : r1c4 < 0
 ·rw [if_pos c1ch] at H
  have hb_ : (decide (r1c4 < 0)) = true := decide_eq_true c1ch
  try rw [hb_] at h1cg
  clear hb_
  refine WL.sk h1cg rfl rfl (fun a1ci h1cj => ?_)
  refine WL.sk h1cj rfl rfl (fun a1ck h1cl => ?_)
  refine WL.sk h1cl rfl rfl (fun a1cm h1cn => ?_)
  refine WL.sk h1cn rfl rfl (fun a1co h1cp => ?_)
  refine WL.sk h1cp rfl rfl (fun a1cq h1cr => ?_)
  refine WL.sk h1cr rfl rfl (fun a1cs h1ct => ?_)
  refine WL.sk h1ct rfl rfl (fun a1cu h1cv => ?_)
  refine WL.sk h1cv rfl rfl (fun a1cw h1cx => ?_)
  refine WL.sk h1cx rfl rfl (fun a1cy h1cz => ?_)
  refine WL.sk h1cz rfl rfl (fun a1d0 h1d1 => ?_)
  refine WL.bl 1 14 h1d1 [(27, .bool true)] (fun a1d2 h1d3 => ?_)
  refine WL.dn ?_
  refine wp_then h1d3 rfl ?_
  refine wp_seq ?_
  refine WL.start ?_
  refine WL.bl 1 1 h1d3 [(8, .bool false)] (fun a1d4 h1d5 => ?_)
  clear h1cg a1cf h1cj a1ci h1cl a1ck h1cn a1cm h1cp a1co h1cr a1cq h1ct a1cs h1cv a1cu h1cx a1cw h1cz a1cy h1d1 a1d0 h1d3 a1d2
  refine WL.dn ?_
  refine wp_ret ?_
  obtain ⟨rfl, rfl⟩ := ret2 H
  repeat (first | with_reducible refine t1 ?_ | with_reducible refine t2 ?_ | with_reducible refine t3 ?_)
  refine bret (.bool false) h1d5 ?_
  exact ⟨M1ca, rfl, hr1cb, hS1cc⟩
 ·rw [if_neg c1ch] at H
  have hb_ : (decide (r1c4 < 0)) = false := decide_eq_false c1ch
  try rw [hb_] at h1cg
  clear hb_
  refine WL.oq h1cg rfl (owp_rk v0 h1cg rfl (fun a1d6 h1d7 => ?_))
  obtain ⟨g1d9, A1da, c1db, g1de, M1dc, M1df, rfl, hr1dd, hr1dg, hS1d8⟩ := k69qop hr1cb hS1cc
  refine WL.oq h1d7 rfl (owp_rk (pt g1d9) h1d7 rfl (fun a1dh h1di => ?_))
  refine WL.oq h1di rfl (owp_rk (pt g1d9) h1di rfl (fun a1dj h1dk => ?_))
  refine WL.oq h1dk rfl ?_
  refine owp_rn (.slice A1da p0.f0.length c1db) h1dk rfl (run_load1 rfl rfl Try.underlying67 rfl (hS1d8.cell (i := 0) rfl)) (fun a1dl h1dm => ?_)
  refine WL.oq h1dm rfl (owp_rk (i6 r1c4) h1dm rfl (fun a1dn h1do => ?_))
  clear h1cg a1cf h1d7 a1d6 h1di a1dh h1dk a1dj h1dm a1dl
  by_cases c1dp : 0 ≤ r1c4
  ·rw [if_pos c1dp] at H
   by_cases c1dq : r1c4 < (p0.f0.length : Int)
   ·rw [if_pos c1dq] at H
    have hi1dt : 0 ≤ r1c4 := by first | assumption | omega
    have hi1du : r1c4 < (p0.f0.length : Int) := by first | assumption | omega
    obtain ⟨ad1dr, _, ha1ds, -, -⟩ := Rds.elemAny hr1dd.rds hi1dt (gt_get (z := z72) hi1dt hi1du)
    refine WL.oq h1do rfl ?_
    refine owp_rn (.pointer (some (ad1dr.add (r1c4.toNat * 1)))) h1do rfl (run_idx (ad := ad1dr) (sz := 1) rfl (by rw [← ha1ds]; rfl) rfl Try.underlying67 (by kernel_rfl) hi1dt hi1du) (fun a1dv h1dw => ?_)
    have hS1dx := hS1d8.b1
    obtain ⟨g1dy, M1dz, M1e0, hp1e1, hh1e2, hm1e3, hc1e4⟩ := Row.openp (dk := k72) z72 hr1dd ha1ds hi1dt hi1du
    obtain ⟨y1e5, hy1e6, H⟩ := lete H
    have hr1e7 : Ptr k72 72 b w0 R (pt g1dy) y1e5 M1e0 := by rw [hy1e6]; exact hp1e1
    have hS1e9 : St b w0 W1c5 R (M1e0 :: M1dz :: (bx g1d9 69 [.slice A1da p0.f0.length c1db, i6 p0.f1, pt g1de]) :: M1df :: Fs) := hm1e3 _ _ hS1dx
    clear hm1e3 hp1e1 hr1dd
    refine WL.oq h1dw rfl ?_
    refine owp_rn (pt g1dy) h1dw rfl (run_load1 rfl rfl Try.underlying70 rfl (hc1e4 _ _ hS1e9.b1)) (fun a1ea h1eb => ?_)
    obtain ⟨A1ed, c1ee, g1eh, M1ef, M1ei, hr1eg, hr1ej, hS1ec⟩ := k72qoq hr1e7 hS1e9
    refine WL.oq h1eb rfl (owp_rk (pt g1dy) h1eb rfl (fun a1ek h1el => ?_))
    refine WL.oq h1el rfl (owp_rk (.pointer (some ⟨g1dy, 2, none⟩)) h1el rfl (fun a1em h1en => ?_))
    refine WL.oq h1en rfl ?_
    refine owp_rn (.bool y1e5.f2) h1en rfl (run_load1 rfl rfl Try.underlying4 rfl (hS1ec.cell (i := 2) rfl)) (fun a1eo h1ep => ?_)
    refine WL.bl 1 14 h1ep [(27, .bool y1e5.f2)] (fun a1eq h1er => ?_)
    refine WL.dn ?_
    clear h1do a1dn h1dw a1dv h1eb a1ea h1el a1ek h1en a1em h1ep a1eo
    by_cases c1es : y1e5.f2 = true
    ·rw [if_pos c1es] at H
     have hb_ : y1e5.f2 = true := c1es
     try rw [hb_] at h1er
     clear hb_
     refine wp_then h1er rfl ?_
     refine wp_seq ?_
     refine WL.start ?_
     refine WL.bl 1 1 h1er [(8, .bool false)] (fun a1et h1eu => ?_)
     refine WL.dn ?_
     refine wp_ret ?_
     have hS1ev := hS1ec.b2
     have hS1ew := hS1ev.b2
     have hS1ex := hS1ew.b2
     obtain ⟨M1ey, hp1ez, hS1f0⟩ := k72qfo y1e5 hr1eg hr1ej hS1ex
     have hS1f1 := hS1f0.b1
     have hS1f2 := hS1f1.b1
     obtain ⟨M1f3, hr1f4, hm1f5⟩ := hh1e2.same hy1e6 hi1dt hi1du hp1ez
     have hS1f7 : St b w0 W1c5 R (M1f3 :: (bx g1d9 69 [.slice A1da p0.f0.length c1db, i6 p0.f1, pt g1de]) :: M1df :: Fs) := hm1f5 _ _ hS1f2
     have hS1f8 := hS1f7.b2
     have hS1f9 := hS1f8.b1
     have hS1fa := hS1f9.b2
     obtain ⟨M1fb, hp1fc, hS1fd⟩ := k69qfo p0 hr1f4 hr1dg hS1fa
     obtain ⟨rfl, rfl⟩ := ret2 H
     repeat (first | with_reducible refine t1 ?_ | with_reducible refine t2 ?_ | with_reducible refine t3 ?_)
     refine bret (.bool false) h1eu ?_
     exact ⟨M1fb, rfl, hp1fc, hS1fd⟩
    ·rw [if_neg c1es] at H
     have hb_ : y1e5.f2 = false := (Bool.eq_false_iff.2 c1es)
     try rw [hb_] at h1er
     clear hb_
     refine wp_else h1er rfl ?_
     refine wp_skip ?_
     refine wp_seq ?_
     refine WL.start ?_
     refine WL.bl 3 3 h1er [(30, pt g1d9), (29, pt g1d9), (28, pt g1d9)] (fun a1fe h1ff => ?_)
     have hS1fg := hS1ec.b4
     refine WL.oq h1ff rfl ?_
     refine owp_rn (.slice A1da p0.f0.length c1db) h1ff rfl (run_load1 rfl rfl Try.underlying67 rfl (hS1fg.cell (i := 0) rfl)) (fun a1fh h1fi => ?_)
     refine WL.bl 1 5 h1fi [(32, i6 r1c4)] (fun a1fj h1fk => ?_)
     have hS1fl := hS1fg.b3
     have hS1fm := hS1fl.b3
     have hS1fn := hS1fm.b3
     obtain ⟨M1fo, hp1fp, hS1fq⟩ := k72qfo y1e5 hr1eg hr1ej hS1fn
     have hS1fr := hS1fq.b2
     have hS1fs := hS1fr.b1
     obtain ⟨M1ft, hr1fu, hm1fv⟩ := hh1e2.same hy1e6 hi1dt hi1du hp1fp
     have hS1fx : St b w0 W1c5 R (M1ft :: (bx g1d9 69 [.slice A1da p0.f0.length c1db, i6 p0.f1, pt g1de]) :: M1df :: Fs) := hm1fv _ _ hS1fs
     have hi1g0 : 0 ≤ r1c4 := by first | assumption | omega
     have hi1g1 : r1c4 < (p0.f0.length : Int) := by first | assumption | omega
     obtain ⟨ad1fy, _, ha1fz, -, -⟩ := Rds.elemAny hr1fu.rds hi1g0 (gt_get (z := z72) hi1g0 hi1g1)
     refine WL.oq h1fk rfl ?_
     refine owp_rn (.pointer (some (ad1fy.add (r1c4.toNat * 1)))) h1fk rfl (run_idx (ad := ad1fy) (sz := 1) rfl (by rw [← ha1fz]; rfl) rfl Try.underlying67 (by kernel_rfl) hi1g0 hi1g1) (fun a1g2 h1g3 => ?_)
     obtain ⟨g1g4, M1g5, M1g6, hp1g7, hh1g8, hm1g9, hc1ga⟩ := Row.openp (dk := k72) z72 hr1fu ha1fz hi1g0 hi1g1
     obtain ⟨y1gb, hy1gc, H⟩ := lete H
     have hr1gd : Ptr k72 72 b w0 R (pt g1g4) y1gb M1g6 := by rw [hy1gc]; exact hp1g7
     have hS1gf : St b w0 W1c5 R (M1g6 :: M1g5 :: (bx g1d9 69 [.slice A1da p0.f0.length c1db, i6 p0.f1, pt g1de]) :: M1df :: Fs) := hm1g9 _ _ hS1fx
     clear hm1g9 hp1g7 hr1fu
     refine WL.oq h1g3 rfl ?_
     refine owp_rn (pt g1g4) h1g3 rfl (run_load1 rfl rfl Try.underlying70 rfl (hc1ga _ _ hS1gf.b1)) (fun a1gg h1gh => ?_)
     refine WL.bl 1 8 h1gh [(10, pt g1g4)] (fun a1gi h1gj => ?_)
     refine WL.dn ?_
     refine wp_seq ?_
     refine WL.start ?_
     refine WL.bl 2 2 h1gj [(36, pt g1g4), (35, pt g1g4)] (fun a1gk h1gl => ?_)
     obtain ⟨A1gn, c1go, g1gr, M1gp, M1gs, hr1gq, hr1gt, hS1gm⟩ := k72qoq hr1gd hS1gf
     refine WL.bl 2 4 h1gl [(38, .pointer (some ⟨g1g4, 1, none⟩)), (37, pt g1g4)] (fun a1gu h1gv => ?_)
     refine WL.oq h1gv rfl ?_
     refine owp_rn (.slice A1gn y1gb.f1.length c1go) h1gv rfl (run_load1 rfl rfl Try.underlying27 rfl (hS1gm.cell (i := 1) rfl)) (fun a1gw h1gx => ?_)
     refine WL.bl 1 6 h1gx [(40, .slice A2 p2.length c2)] (fun a1gy h1gz => ?_)
     clear h1er a1eq h1ff a1fe h1fi a1fh hm1fv hS1fs h1fk a1fj h1g3 a1g2 h1gh a1gg h1gj a1gi h1gl a1gk h1gv a1gu h1gx a1gw
     by_cases c1h0 : y1gb.f1.length + p2.length ≤ 140737488355328
     ·rw [if_pos c1h0] at H
      have hS1h1 := hS1gm.b1
      refine WL.oq h1gz rfl ?_
      refine owp_app_rds (z := .int .u8 0) (bytes := 1) (dk := (kInt .u8)) h1gz rfl (by kernel_rfl) rfl rfl rfl (kInt_flat _) hr1gq hp2 hS1h1 Try.underlying27 (by kernel_rfl) rfl (by decide) (by decide) (by first | omega | (simp only [List.length_cons, List.length_nil] at *; omega)) (fun a1h2 W1h4 v1h5 M1h6 h1h3 hr1h7 hS1h8 => ?_)
      obtain ⟨y1h9, hy1ha, H⟩ := lete H
      have hr1hb : Row (kInt .u8) 5 b w0 R v1h5 y1h9 M1h6 := by rw [hy1ha]; exact hr1h7
      clear hr1h7
      obtain ⟨A1hc, c1hd, rfl⟩ := hr1hb.form
      refine WL.bl 2 9 h1h3 [(43, .pointer (some ⟨g1g4, 1, none⟩)), (42, pt g1g4)] (fun a1he h1hf => ?_)
      have hS1hg := hS1h8.b1
      refine WL.oq h1hf rfl ?_
      refine owp_st 1 [.slice A1hc y1h9.length c1hd] h1hf rfl rfl rfl hS1hg [.int .u32 y1gb.f0, .slice A1hc y1h9.length c1hd, .bool y1gb.f2, .bool y1gb.f3, pt g1gr] (fun a1hh W1hj h1hi hS1hk => ?_)
      refine WL.dn ?_
      refine wp_seq ?_
      refine WL.start ?_
      refine WL.bl 4 4 h1hi [(47, .pointer (some ⟨g1g4, 2, none⟩)), (46, pt g1g4), (45, .bool p3), (44, pt g1g4)] (fun a1hl h1hm => ?_)
      refine WL.oq h1hm rfl ?_
      refine owp_st 2 [.bool p3] h1hm rfl rfl rfl hS1hk [.int .u32 y1gb.f0, .slice A1hc y1h9.length c1hd, .bool p3, .bool y1gb.f3, pt g1gr] (fun a1hn W1hp h1ho hS1hq => ?_)
      refine WL.dn ?_
      refine wp_seq ?_
      refine WL.start ?_
      refine WL.bl 1 1 h1ho [(8, .bool true)] (fun a1hr h1hs => ?_)
      refine WL.dn ?_
      refine wp_ret ?_
      have hS1ht := hS1hq.b2
      have hS1hu := hS1ht.b2
      have hS1hv := hS1hu.b2
      obtain ⟨M1hw, hp1hx, hS1hy⟩ := k72qfo (⟨y1gb.f0, y1h9, p3, y1gb.f3, y1gb.f4⟩ : S72) hr1hb hr1gt hS1hv
      have hS1hz := hS1hy.b1
      have hS1i0 := hS1hz.b1
      obtain ⟨M1i1, hr1i2, hm1i3⟩ := hh1g8 _ _ hp1hx
      have hS1i5 : St b w0 W1hp R (M1i1 :: (bx g1d9 69 [.slice A1da p0.f0.length c1db, i6 p0.f1, pt g1de]) :: M1df :: Fs) := hm1i3 _ _ hS1i0
      have hl1i6 : (p0.f0.set r1c4.toNat (⟨y1gb.f0, y1h9, p3, y1gb.f3, y1gb.f4⟩ : S72)).length = p0.f0.length := by simp
      have hr1i7 : Row (kPtr k72 72) 70 b w0 R (.slice A1da (p0.f0.set r1c4.toNat (⟨y1gb.f0, y1h9, p3, y1gb.f3, y1gb.f4⟩ : S72)).length c1db) (p0.f0.set r1c4.toNat (⟨y1gb.f0, y1h9, p3, y1gb.f3, y1gb.f4⟩ : S72)) M1i1 := by rw [hl1i6]; exact hr1i2
      have h1i8 : Hd a1hr 48 [(0, pt g1d9), (1, .int .u32 p1), (2, .slice A2 p2.length c2), (3, .bool p3), (8, .bool true), (9, i6 r1c4), (10, pt g1g4), (11, pt g1d9), (12, .int .u32 p1), (13, i6 r1c4), (14, i6 r1c4), (15, .bool false), (16, .bool false), (17, pt g1d9), (18, pt g1d9), (19, pt g1d9), (20, .slice A1da (p0.f0.set r1c4.toNat (⟨y1gb.f0, y1h9, p3, y1gb.f3, y1gb.f4⟩ : S72)).length c1db), (21, i6 r1c4), (22, .pointer (some (ad1dr.add (r1c4.toNat * 1)))), (23, pt g1dy), (24, pt g1dy), (25, .pointer (some ⟨g1dy, 2, none⟩)), (26, .bool false), (27, .bool false), (28, pt g1d9), (29, pt g1d9), (30, pt g1d9), (31, .slice A1da (p0.f0.set r1c4.toNat (⟨y1gb.f0, y1h9, p3, y1gb.f3, y1gb.f4⟩ : S72)).length c1db), (32, i6 r1c4), (33, .pointer (some (ad1fy.add (r1c4.toNat * 1)))), (34, pt g1g4), (35, pt g1g4), (36, pt g1g4), (37, pt g1g4), (38, .pointer (some ⟨g1g4, 1, none⟩)), (39, .slice A1gn y1gb.f1.length c1go), (40, .slice A2 p2.length c2), (41, .slice A1hc y1h9.length c1hd), (42, pt g1g4), (43, .pointer (some ⟨g1g4, 1, none⟩)), (44, pt g1g4), (45, .bool p3), (46, pt g1g4), (47, .pointer (some ⟨g1g4, 2, none⟩))] := h1hs.keep ⟨rfl, rfl, rfl, rfl, rfl, rfl, rfl, rfl, rfl, rfl, rfl, rfl, rfl, rfl, rfl, rfl, (by rw [hl1i6] <;> rfl), rfl, rfl, rfl, rfl, rfl, rfl, rfl, rfl, rfl, rfl, (by rw [hl1i6] <;> rfl), rfl, rfl, rfl, rfl, rfl, rfl, rfl, rfl, rfl, rfl, rfl, rfl, rfl, rfl, rfl, rfl, trivial⟩
      clear h1hs
      have hS1i9 : St b w0 W1hp R (M1i1 :: (bx g1d9 69 [.slice A1da (p0.f0.set r1c4.toNat (⟨y1gb.f0, y1h9, p3, y1gb.f3, y1gb.f4⟩ : S72)).length c1db, i6 p0.f1, pt g1de]) :: M1df :: Fs) := by simpa only [hl1i6] using hS1i5
      have hS1ia := hS1i9.b2
      have hS1ib := hS1ia.b1
      have hS1ic := hS1ib.b2
      obtain ⟨M1id, hp1ie, hS1if⟩ := k69qfo (⟨(p0.f0.set r1c4.toNat (⟨y1gb.f0, y1h9, p3, y1gb.f3, y1gb.f4⟩ : S72)), p0.f1, p0.f2⟩ : S69) hr1i7 hr1dg hS1ic
      obtain ⟨rfl, rfl⟩ := ret2 H
      repeat (first | with_reducible refine t1 ?_ | with_reducible refine t2 ?_ | with_reducible refine t3 ?_)
      refine bret (.bool true) h1i8 ?_
      exact ⟨M1id, rfl, hp1ie, hS1if⟩
     ·rw [if_neg c1h0] at H
      cases H
   ·rw [if_neg c1dq] at H
    cases H
  ·rw [if_neg c1dp] at H
   cases H

/-! ### (*louver/turns.Ring).Put -/
def turns_Ring_Put_nil.f (k : Nat) (p1 : Int) (p2 : (List Int)) (p3 : Bool) : Option (Bool) := bnd1 (turns_Ring_find_nil.f p1) fun r11c => (if r11c < 0 then (some false) else (none))
set_option maxHeartbeats 20000000 in
set_option maxRecDepth 100000 in
theorem turns_Ring_Put_nil.calls (k : Nat) {b : Nat} {w0 W : World} {R : Frag} {Fs : List Frag} {p1 : Int} {p2 : (List Int)} {p3 : Bool} {v2 : Value} {r0q : Bool} (hp2 : Rds (kInt .u8) b w0 R v2 p2) (H : turns_Ring_Put_nil.f k p1 p2 p3 = some r0q) (hS : St b w0 W R (Fs)) :
  Calls Try.prog 10 ([.pointer none, .int .u32 p1, v2, .bool p3] : List Value).toArray W (fun e W' => e = .returned (.bool r0q) ∧ St b w0 W' R (Fs)) := by
 obtain ⟨A2, c2, rfl⟩ := hp2.form
 unfold turns_Ring_Put_nil.f at H
 refine calls_enter Try.func10 rfl 48 rfl (by kernel_rfl) (fun a h => ?_)
 refine wp_seq ?_
 refine WL.start ?_
 refine WL.bl 1 1 h [(8, .bool false)] (fun a117 h118 => ?_)
 refine WL.dn ?_
 refine wp_seq ?_
 refine WL.start ?_
 refine WL.bl 2 2 h118 [(12, .int .u32 p1), (11, .pointer none)] (fun a119 h11a => ?_)
 obtain ⟨r11c, A11b, H⟩ := bind1 H
 refine WL.oq h11a rfl ?_
 refine owp_call [.pointer none, .int .u32 p1] h11a rfl (by kernel_rfl) rfl Try.func28 (by kernel_rfl) rfl (by kernel_rfl) (turns_Ring_find_nil.calls  A11b hS) (fun e11e W11d hp11f => ?_)
 obtain ⟨rfl, hS11i⟩ := hp11f
 refine ⟨_, rfl, fun a11g h11h => ?_⟩
 refine WL.bl 1 4 h11h [(9, i6 r11c)] (fun a11j h11k => ?_)
 refine WL.dn ?_
 refine wp_seq ?_
 refine wp_seq ?_
 refine WL.start ?_
 refine WL.bl 3 3 h11k [(16, .bool (decide (r11c < 0))), (15, .bool (decide (r11c < 0))), (14, i6 r11c)] (fun a11l h11m => ?_)
 clear h118 a117 h11a a119 h11h a11g h11k a11j
 by_cases c11n : r11c < 0
 ·rw [if_pos c11n] at H
  have hb_ : (decide (r11c < 0)) = true := decide_eq_true c11n
  try rw [hb_] at h11m
  clear hb_
  refine WL.sk h11m rfl rfl (fun a11o h11p => ?_)
  refine WL.sk h11p rfl rfl (fun a11q h11r => ?_)
  refine WL.sk h11r rfl rfl (fun a11s h11t => ?_)
  refine WL.sk h11t rfl rfl (fun a11u h11v => ?_)
  refine WL.sk h11v rfl rfl (fun a11w h11x => ?_)
  refine WL.sk h11x rfl rfl (fun a11y h11z => ?_)
  refine WL.sk h11z rfl rfl (fun a120 h121 => ?_)
  refine WL.sk h121 rfl rfl (fun a122 h123 => ?_)
  refine WL.sk h123 rfl rfl (fun a124 h125 => ?_)
  refine WL.sk h125 rfl rfl (fun a126 h127 => ?_)
  refine WL.bl 1 14 h127 [(27, .bool true)] (fun a128 h129 => ?_)
  refine WL.dn ?_
  refine wp_then h129 rfl ?_
  refine wp_seq ?_
  refine WL.start ?_
  refine WL.bl 1 1 h129 [(8, .bool false)] (fun a12a h12b => ?_)
  clear h11m a11l h11p a11o h11r a11q h11t a11s h11v a11u h11x a11w h11z a11y h121 a120 h123 a122 h125 a124 h127 a126 h129 a128
  refine WL.dn ?_
  refine wp_ret ?_
  obtain rfl := Option.some.inj H
  repeat (first | with_reducible refine t1 ?_ | with_reducible refine t2 ?_ | with_reducible refine t3 ?_)
  refine bret (.bool false) h12b ?_
  exact ⟨rfl, hS11i⟩
 ·rw [if_neg c11n] at H
  have hb_ : (decide (r11c < 0)) = false := decide_eq_false c11n
  try rw [hb_] at h11m
  clear hb_
  refine WL.oq h11m rfl (owp_rk (.pointer none) h11m rfl (fun a12c h12d => ?_))
  cases H

/-! ### (*louver/turns.Ring).All -/
def turns_Ring_All.l0 : Nat → Int → Int → S69 → Option (Int)
 | 0, _, _, _ => none
 | k + 1, x16i, x16l, p0 => if x16l < (p0.f0.length : Int) then (if 0 ≤ x16l then (lt1 (gt z72 p0.f0 x16l : S72) fun y179 => (turns_Ring_All.l0 k (IntKind.i64.wrap (x16i + (y179.f1.length : Int))) (IntKind.i64.wrap (x16l + 1)) p0)) else (none)) else (some x16i)
def turns_Ring_All.f (k : Nat) (p0 : S69) : Option (Int) := turns_Ring_All.l0 k 0 0 p0
set_option maxHeartbeats 20000000 in
set_option maxRecDepth 100000 in
theorem turns_Ring_All.calls (k : Nat) {b : Nat} {w0 W : World} {R : Frag} {Fs : List Frag} {p0 : S69}  {v0 : Value} {M0 : Frag} {r0q : Int} (hp0 : Ptr k69 69 b w0 R v0 p0 M0) (H : turns_Ring_All.f k p0 = some r0q) (hS : St b w0 W R (M0 :: Fs)) :
  Calls Try.prog 15 ([v0] : List Value).toArray W (fun e W' => ∃ (O0q : Frag), e = .returned (i6 r0q) ∧ Ptr k69 69 b w0 R v0 p0 O0q ∧ St b w0 W' R (O0q :: Fs)) := by
 unfold turns_Ring_All.f at H
 refine calls_enter Try.func15 rfl 27 rfl (by kernel_rfl) (fun a h => ?_)
 refine wp_seq ?_
 refine WL.start ?_
 refine WL.bl 1 1 h [(2, i6 0)] (fun a15q h15r => ?_)
 refine WL.dn ?_
 refine wp_seq ?_
 refine WL.start ?_
 refine WL.bl 1 1 h15r [(3, i6 0)] (fun a15s h15t => ?_)
 refine WL.dn ?_
 refine wp_seq ?_
 refine wp_seq ?_
 refine WL.start ?_
 refine WL.bl 1 1 h15t [(6, v0)] (fun a15u h15v => ?_)
 obtain ⟨g15x, A15y, c15z, g162, M160, M163, rfl, hr161, hr164, hS15w⟩ := k69qop hp0 hS
 refine WL.bl 1 2 h15v [(7, .bool false)] (fun a165 h166 => ?_)
 refine WL.dn ?_
 refine wp_else h166 rfl ?_
 refine wp_skip ?_
 refine wp_seq ?_
 refine wp_seq ?_
 refine WL.start ?_
 refine WL.bl 3 3 h166 [(11, pt g15x), (10, pt g15x), (9, pt g15x)] (fun a167 h168 => ?_)
 refine WL.oq h168 rfl ?_
 refine owp_rn (.slice A15y p0.f0.length c15z) h168 rfl (run_load1 rfl rfl Try.underlying67 rfl (hS15w.cell (i := 0) rfl)) (fun a169 h16a => ?_)
 refine WL.bl 2 6 h16a [(14, i6 0), (13, i6 (p0.f0.length : Int))] (fun a16b h16c => ?_)
 refine WL.dn ?_
 refine wp_block ?_
 have hS16o := hS15w.b2
 have hS16p := hS16o.b1
 have hS16q := hS16p.b2
 clear h15r a15q h15t a15s h15v a15u h166 a165 h168 a167 h16a a169
 refine wp_loop_ghost (fun kq_ a_ W_ => ∃ (x16i : Int), ∃ (M16j : Frag), ∃ (x16l : Int), ∃ (M16m : Frag), Hd a_ 27 [(3, i6 x16i), (12, .slice A15y p0.f0.length c15z), (13, i6 (p0.f0.length : Int)), (14, i6 x16l)] ∧ Asd (turns_Ring_All.l0 kq_ x16i x16l p0 = some r0q) ∧ Asd (kq_ ≤ k) ∧ Asd (St b w0 W_ R (M16j :: (bx g15x 69 [.slice A15y p0.f0.length c15z, i6 p0.f1, pt g162]) :: M16m :: Fs)) ∧ Asd (Row (kPtr k72 72) 70 b w0 R (.slice A15y p0.f0.length c15z) p0.f0 M16j) ∧ Asd (Ptr k94 94 b w0 R (pt g162) p0.f2 M16m)) k ⟨0, M160, 0, M163, h16c.keep ⟨rfl, rfl, rfl, rfl, trivial⟩, ⟨H⟩, ⟨Nat.le_refl _⟩, ⟨hS16q⟩, ⟨hr161⟩, ⟨hr164⟩⟩ ?_
 clear H hS16q
 rintro kk16h a16e W16f ⟨x16i, M16j, x16l, M16m, h16d, ⟨H⟩, ⟨hkkk16h⟩, ⟨hS16g⟩, ⟨hr16k⟩, ⟨hr16n⟩⟩
 obtain _ | kk16r := kk16h
 ·exact absurd H (by simp [turns_Ring_All.l0])
 simp only [turns_Ring_All.l0] at H
 refine wp_seq ?_
 refine WL.start ?_
 refine WL.bl 1 1 h16d [(15, .bool (decide (x16l < (p0.f0.length : Int))))] (fun a16s h16t => ?_)
 refine WL.dn ?_
 refine wp_seq ?_
 clear h16d a16e
 by_cases c16u : x16l < (p0.f0.length : Int)
 ·rw [if_pos c16u] at H
  have hb_ : (decide (x16l < (p0.f0.length : Int))) = true := decide_eq_true c16u
  try rw [hb_] at h16t
  clear hb_
  refine wp_then h16t rfl ?_
  refine wp_skip ?_
  refine wp_seq ?_
  refine wp_block ?_
  refine wp_seq ?_
  refine WL.start ?_
  by_cases c16v : 0 ≤ x16l
  ·rw [if_pos c16v] at H
   have hi16y : 0 ≤ x16l := by first | assumption | omega
   have hi16z : x16l < (p0.f0.length : Int) := by first | assumption | omega
   obtain ⟨ad16w, _, ha16x, -, -⟩ := Rds.elemAny hr16k.rds hi16y (gt_get (z := z72) hi16y hi16z)
   refine WL.oq h16t rfl ?_
   refine owp_rn (.pointer (some (ad16w.add (x16l.toNat * 1)))) h16t rfl (run_idx (ad := ad16w) (sz := 1) rfl (by rw [← ha16x]; rfl) rfl Try.underlying67 (by kernel_rfl) hi16y hi16z) (fun a170 h171 => ?_)
   obtain ⟨g172, M173, M174, hp175, hh176, hm177, hc178⟩ := Row.openp (dk := k72) z72 hr16k ha16x hi16y hi16z
   obtain ⟨y179, hy17a, H⟩ := lete H
   have hr17b : Ptr k72 72 b w0 R (pt g172) y179 M174 := by rw [hy17a]; exact hp175
   have hS17d : St b w0 W16f R (M174 :: M173 :: (bx g15x 69 [.slice A15y p0.f0.length c15z, i6 p0.f1, pt g162]) :: M16m :: Fs) := hm177 _ _ hS16g
   clear hm177 hp175 hr16k
   refine WL.oq h171 rfl ?_
   refine owp_rn (pt g172) h171 rfl (run_load1 rfl rfl Try.underlying70 rfl (hc178 _ _ hS17d.b1)) (fun a17e h17f => ?_)
   refine WL.bl 1 3 h17f [(5, pt g172)] (fun a17g h17h => ?_)
   refine WL.dn ?_
   refine WL.start ?_
   refine WL.bl 2 2 h17h [(19, pt g172), (18, i6 x16i)] (fun a17i h17j => ?_)
   obtain ⟨A17l, c17m, g17p, M17n, M17q, hr17o, hr17r, hS17k⟩ := k72qoq hr17b hS17d
   refine WL.bl 2 4 h17j [(21, .pointer (some ⟨g172, 1, none⟩)), (20, pt g172)] (fun a17s h17t => ?_)
   refine WL.oq h17t rfl ?_
   refine owp_rn (.slice A17l y179.f1.length c17m) h17t rfl (run_load1 rfl rfl Try.underlying27 rfl (hS17k.cell (i := 1) rfl)) (fun a17u h17v => ?_)
   refine WL.bl 3 8 h17v [(3, i6 (IntKind.i64.wrap (x16i + (y179.f1.length : Int)))), (24, i6 (IntKind.i64.wrap (x16i + (y179.f1.length : Int)))), (23, i6 (y179.f1.length : Int))] (fun a17w h17x => ?_)
   refine WL.dn ?_
   refine WL.start ?_
   refine WL.bl 2 2 h17x [(14, i6 (IntKind.i64.wrap (x16l + 1))), (25, i6 (IntKind.i64.wrap (x16l + 1)))] (fun a17y h17z => ?_)
   refine WL.dn ?_
   have hS180 := hS17k.b2
   have hS181 := hS180.b2
   have hS182 := hS181.b2
   obtain ⟨M183, hp184, hS185⟩ := k72qfo y179 hr17o hr17r hS182
   have hS186 := hS185.b1
   have hS187 := hS186.b1
   obtain ⟨M188, hr189, hm18a⟩ := hh176.same hy17a hi16y hi16z hp184
   have hS18c : St b w0 W16f R (M188 :: (bx g15x 69 [.slice A15y p0.f0.length c15z, i6 p0.f1, pt g162]) :: M16m :: Fs) := hm18a _ _ hS187
   exact ⟨kk16r, by omega, IntKind.i64.wrap (x16i + (y179.f1.length : Int)), M188, IntKind.i64.wrap (x16l + 1), M16m, h17z.keep ⟨rfl, rfl, rfl, rfl, trivial⟩, ⟨H⟩, ⟨by omega⟩, ⟨hS18c⟩, ⟨hr189⟩, ⟨hr16n⟩⟩
  ·rw [if_neg c16v] at H
   cases H
 ·rw [if_neg c16u] at H
  have hb_ : (decide (x16l < (p0.f0.length : Int))) = false := decide_eq_false c16u
  try rw [hb_] at h16t
  clear hb_
  refine wp_else h16t rfl ?_
  refine wp_exit ?_
  refine wp_seq ?_
  refine WL.start ?_
  refine WL.bl 2 2 h16t [(2, i6 x16i), (26, i6 x16i)] (fun a18d h18e => ?_)
  refine WL.dn ?_
  refine wp_ret ?_
  have hS18f := hS16g.b2
  have hS18g := hS18f.b1
  have hS18h := hS18g.b2
  obtain ⟨M18i, hp18j, hS18k⟩ := k69qfo p0 hr16k hr16n hS18h
  obtain rfl := Option.some.inj H
  repeat (first | with_reducible refine t1 ?_ | with_reducible refine t2 ?_ | with_reducible refine t3 ?_)
  refine bret (i6 x16i) h18e ?_
  exact ⟨M18i, rfl, hp18j, hS18k⟩

/-! ### (*louver/turns.Ring).All -/
def turns_Ring_All_nil.f  : Option (Int) := some 0
set_option maxHeartbeats 20000000 in
set_option maxRecDepth 100000 in
theorem turns_Ring_All_nil.calls {b : Nat} {w0 W : World} {R : Frag} {Fs : List Frag}   {r0q : Int}  (H : turns_Ring_All_nil.f = some r0q) (hS : St b w0 W R (Fs)) :
  Calls Try.prog 15 ([.pointer none] : List Value).toArray W (fun e W' => e = .returned (i6 r0q) ∧ St b w0 W' R (Fs)) := by
 unfold turns_Ring_All_nil.f at H
 refine calls_enter Try.func15 rfl 27 rfl (by kernel_rfl) (fun a h => ?_)
 refine wp_seq ?_
 refine WL.start ?_
 refine WL.bl 1 1 h [(2, i6 0)] (fun a108 h109 => ?_)
 refine WL.dn ?_
 refine wp_seq ?_
 refine WL.start ?_
 refine WL.bl 1 1 h109 [(3, i6 0)] (fun a10a h10b => ?_)
 refine WL.dn ?_
 refine wp_seq ?_
 refine wp_seq ?_
 refine WL.start ?_
 refine WL.bl 2 2 h10b [(7, .bool true), (6, .pointer none)] (fun a10c h10d => ?_)
 refine WL.dn ?_
 refine wp_then h10d rfl ?_
 refine wp_seq ?_
 refine WL.start ?_
 refine WL.bl 2 2 h10d [(2, i6 0), (8, i6 0)] (fun a10e h10f => ?_)
 refine WL.dn ?_
 refine wp_ret ?_
 obtain rfl := Option.some.inj H
 repeat (first | with_reducible refine t1 ?_ | with_reducible refine t2 ?_ | with_reducible refine t3 ?_)
 refine bret (i6 0) h10f ?_
 exact ⟨rfl, hS⟩

/-! ### louver/louverlaw13.fixed -/
mutual
def louverlaw13qfixed.l0 : Nat → S69 → Int → Option (Bool)
 | 0, _, _ => none
 | k + 1, x1l8, x1lb => if x1lb < 2 then (if 0 ≤ x1lb then (if x1lb < (([1, 3] : List Int).length : Int) then (bnd2 (turns_Ring_Open.f k x1l8 (gt (0 : Int) ([1, 3] : List Int) x1lb) 100) fun r1m3 r1m4 => (if r1m3 = true then (lt1 (List.replicate (10 : Int).toNat (0 : Int) : List Int) fun y1mr => (bnd2 (turns_Ring_Put.f k r1m4 (gt (0 : Int) ([1, 3] : List Int) x1lb) y1mr false) fun r1mz r1n0 => (if r1mz = true then (louverlaw13qfixed.l0 k r1n0 (IntKind.i64.wrap (x1lb + 1))) else (some false)))) else (some false))) else (none)) else (none)) else (louverlaw13qfixed.l1 k x1l8 0)
def louverlaw13qfixed.l1 : Nat → S69 → Int → Option (Bool)
 | 0, _, _ => none
 | k + 1, x1oa, x1od => if x1od < 6 then (bnd5 (turns_Ring_Next.f k x1oa 4) fun r1op r1oq r1or r1os r1ot => (if r1os = true then (if r1or = true then (some false) else (if r1op = (IntKind.u32.wrap (IntKind.i64.wrap (1 + (IntKind.i64.wrap (2 * (Int.tmod x1od 2)))))) then (if 0 ≤ x1od then (if x1od < (([4, 4, 4, 4, 2, 2] : List Int).length : Int) then (if (r1oq.length : Int) = (gt (0 : Int) ([4, 4, 4, 4, 2, 2] : List Int) x1od) then (louverlaw13qfixed.l1 k r1ot (IntKind.i64.wrap (x1od + 1))) else (some false)) else (none)) else (none)) else (some false))) else (some false))) else (bnd1 (turns_Ring_All.f k x1oa) fun r1tu => (some (decide (r1tu = 0))))
end
def louverlaw13qfixed.f (k : Nat)  : Option (Bool) := bnd1 (turns_New.f 100) fun r1ki => (louverlaw13qfixed.l0 k r1ki 0)
set_option maxHeartbeats 20000000 in
set_option maxRecDepth 100000 in
theorem louverlaw13qfixed.calls (k : Nat) {b : Nat} {w0 W : World} {R : Frag} {Fs : List Frag}   {r0q : Bool}  (H : louverlaw13qfixed.f k = some r0q) (hS : St b w0 W R (Fs)) :
  Calls Try.prog 12 ([] : List Value).toArray W (fun e W' => e = .returned (.bool r0q) ∧ St b w0 W' R (Fs)) := by
 unfold louverlaw13qfixed.f at H
 refine calls_enter Try.func12 rfl 65 rfl (by kernel_rfl) (fun a h => ?_)
 refine wp_seq ?_
 refine WL.start ?_
 refine WL.bl 1 1 h [(0, .bool false)] (fun a1kf h1kg => ?_)
 refine WL.dn ?_
 refine wp_seq ?_
 refine WL.start ?_
 obtain ⟨r1ki, A1kh, H⟩ := bind1 H
 refine WL.oq h1kg rfl ?_
 refine owp_call [i6 100] h1kg rfl (by kernel_rfl) rfl Try.func8 (by kernel_rfl) rfl (by kernel_rfl) (turns_New.calls  A1kh hS) (fun e1kk W1kj hp1kl => ?_)
 obtain ⟨v1ko, M1kp, rfl, hr1kq, hS1kr⟩ := hp1kl
 refine ⟨_, rfl, fun a1km h1kn => ?_⟩
 obtain ⟨g1ks, rfl⟩ := hr1kq.ptr_form
 refine WL.bl 1 2 h1kn [(1, pt g1ks)] (fun a1kt h1ku => ?_)
 refine WL.dn ?_
 refine wp_seq ?_
 refine wp_seq ?_
 refine WL.start ?_
 refine WL.oq h1ku rfl ?_
 refine owp_nw (fun g_ => .slice (some ⟨g_, 0, none⟩) 2 2) (.cells ([.int .u32 1, .int .u32 3] : List Value).toArray 25 (0, 0)) h1ku rfl hS1kr (fun a1kv W1kx g1ky h1kw hS1kz => ?_)
 have hr1l0 : Row (kInt .u32) 25 b w0 R (.slice (some ⟨g1ky, 0, none⟩) 2 2) ([1, 3] : List Int) (bx g1ky 25 [.int .u32 1, .int .u32 3]) := Row.lit (xs := ([1, 3] : List Int)) (Mi := []) ⟨_, _, [], _, rfl, rfl, ⟨rfl, rfl⟩, ⟨_, _, [], _, rfl, rfl, ⟨rfl, rfl⟩, ⟨rfl, rfl⟩⟩⟩ (by simp [maxLen])
 refine WL.bl 2 3 h1kw [(12, i6 0), (11, i6 2)] (fun a1l1 h1l2 => ?_)
 refine WL.dn ?_
 refine wp_block ?_
 have hS1lc := hS1kz.b1
 clear h1kg a1kf h1kn a1km h1ku a1kt h1kw a1kv
 refine wp_loop_ghost (fun kq_ a_ W_ => ∃ (x1l8 : S69), ∃ (M1l9 : Frag), ∃ (x1lb : Int), Hd a_ 65 [(1, pt g1ks), (10, .slice (some ⟨g1ky, 0, none⟩) 2 2), (11, i6 2), (12, i6 x1lb)] ∧ Asd (louverlaw13qfixed.l0 kq_ x1l8 x1lb = some r0q) ∧ Asd (kq_ ≤ k) ∧ Asd (St b w0 W_ R (M1l9 :: (bx g1ky 25 [.int .u32 1, .int .u32 3]) :: Fs)) ∧ Asd (Ptr k69 69 b w0 R (pt g1ks) x1l8 M1l9)) k ⟨r1ki, M1kp, 0, h1l2.keep ⟨rfl, rfl, rfl, rfl, trivial⟩, ⟨H⟩, ⟨Nat.le_refl _⟩, ⟨hS1lc⟩, ⟨hr1kq⟩⟩ ?_
 clear H hS1lc
 rintro kk1l7 a1l4 W1l5 ⟨x1l8, M1l9, x1lb, h1l3, ⟨H⟩, ⟨hkkk1l7⟩, ⟨hS1l6⟩, ⟨hr1la⟩⟩
 obtain _ | kk1ld := kk1l7
 ·exact absurd H (by simp [louverlaw13qfixed.l0])
 simp only [louverlaw13qfixed.l0] at H
 refine wp_seq ?_
 refine WL.start ?_
 refine WL.bl 1 1 h1l3 [(13, .bool (decide (x1lb < 2)))] (fun a1le h1lf => ?_)
 refine WL.dn ?_
 refine wp_seq ?_
 clear h1l3 a1l4
 by_cases c1lg : x1lb < 2
 ·rw [if_pos c1lg] at H
  have hb_ : (decide (x1lb < 2)) = true := decide_eq_true c1lg
  try rw [hb_] at h1lf
  clear hb_
  refine wp_then h1lf rfl ?_
  refine wp_skip ?_
  refine wp_seq ?_
  refine wp_block ?_
  refine wp_seq ?_
  refine WL.start ?_
  by_cases c1lh : 0 ≤ x1lb
  ·rw [if_pos c1lh] at H
   by_cases c1li : x1lb < (([1, 3] : List Int).length : Int)
   ·rw [if_pos c1li] at H
    have hi1ll : 0 ≤ x1lb := by first | assumption | omega
    have hi1lm : x1lb < (([1, 3] : List Int).length : Int) := by first | assumption | omega
    obtain ⟨ad1lj, _, ha1lk, -, -⟩ := Rds.elemAny hr1l0.rds hi1ll (gt_get (z := (0 : Int)) hi1ll hi1lm)
    refine WL.oq h1lf rfl ?_
    refine owp_rn (.pointer (some (ad1lj.add (x1lb.toNat * 1)))) h1lf rfl (run_idx (ad := ad1lj) (sz := 1) rfl (by rw [← ha1lk]; rfl) rfl Try.underlying77 (by kernel_rfl) hi1ll hi1lm) (fun a1ln h1lo => ?_)
    have hS1lp := hS1l6.b1
    obtain ⟨ad1lq, cs1lr, ha1ls, hr1lu, hc1lt⟩ := Rds.elemAny hr1l0.rds hi1ll (gt_get (z := (0 : Int)) hi1ll hi1lm)
    rw [ha1lk] at ha1ls; obtain rfl := Option.some.inj ha1ls
    obtain rfl : cs1lr = [.int .u32 (gt (0 : Int) ([1, 3] : List Int) x1lb)] := hr1lu
    refine WL.oq h1lo rfl ?_
    refine owp_rn (.int .u32 (gt (0 : Int) ([1, 3] : List Int) x1lb)) h1lo rfl (run_load1 rfl rfl Try.underlying25 rfl (cell0 (hc1lt _ (fun _ _ hk_ => (hS1lp).pool.kn hk_)))) (fun a1lv h1lw => ?_)
    refine WL.bl 1 3 h1lw [(3, .int .u32 (gt (0 : Int) ([1, 3] : List Int) x1lb))] (fun a1lx h1ly => ?_)
    refine WL.dn ?_
    refine wp_seq ?_
    refine WL.start ?_
    refine WL.bl 2 2 h1ly [(17, .int .u32 (gt (0 : Int) ([1, 3] : List Int) x1lb)), (16, pt g1ks)] (fun a1lz h1m0 => ?_)
    have hS1m1 := hS1lp.b1
    obtain ⟨r1m3, r1m4, A1m2, H⟩ := bind2 H
    refine WL.oq h1m0 rfl ?_
    refine owp_call [(pt g1ks), .int .u32 (gt (0 : Int) ([1, 3] : List Int) x1lb), i6 100] h1m0 rfl (by kernel_rfl) rfl Try.func9 (by kernel_rfl) rfl (by kernel_rfl) (turns_Ring_Open.calls kk1ld hr1la A1m2 hS1m1) (fun e1m6 W1m5 hp1m7 => ?_)
    obtain ⟨M1ma, rfl, hr1mb, hS1mc⟩ := hp1m7
    refine ⟨_, rfl, fun a1m8 h1m9 => ?_⟩
    refine WL.bl 2 5 h1m9 [(20, .bool (!r1m3)), (19, .bool (!r1m3))] (fun a1md h1me => ?_)
    clear h1lf a1le h1lo a1ln h1lw a1lv h1ly a1lx h1m0 a1lz h1m9 a1m8
    by_cases c1mf : r1m3 = true
    ·rw [if_pos c1mf] at H
     have hb_ : r1m3 = true := c1mf
     try rw [hb_] at h1me
     clear hb_
     refine WL.oq h1me rfl (owp_rk (pt g1ks) h1me rfl (fun a1mg h1mh => ?_))
     refine WL.oq h1mh rfl (owp_rk (.int .u32 (gt (0 : Int) ([1, 3] : List Int) x1lb)) h1mh rfl (fun a1mi h1mj => ?_))
     refine WL.oq h1mj rfl ?_
     refine owp_make' (z := .int .u8 0) (z0 := (0 : Int)) (bytes := 1) (dk := (kInt .u8)) h1mj rfl (by kernel_rfl) rfl rfl rfl Try.underlying27 (by kernel_rfl) rfl (by decide) ⟨rfl, rfl⟩ hS1mc (by first | assumption | omega) (by first | assumption | omega) (by omega) (fun a1mk W1mm v1mn M1mo h1ml hr1mp hS1mq => ?_)
     obtain ⟨y1mr, hy1ms, H⟩ := lete H
     have hr1mt : Row (kInt .u8) 5 b w0 R v1mn y1mr M1mo := by rw [hy1ms]; exact hr1mp
     clear hr1mp
     obtain ⟨A1mu, c1mv, rfl⟩ := hr1mt.form
     have hS1mw := hS1mq.b1
     have hS1mx := hS1mw.b1
     obtain ⟨r1mz, r1n0, A1my, H⟩ := bind2 H
     refine WL.oq h1ml rfl ?_
     refine owp_call [(pt g1ks), .int .u32 (gt (0 : Int) ([1, 3] : List Int) x1lb), .slice A1mu y1mr.length c1mv, .bool false] h1ml rfl (by kernel_rfl) rfl Try.func10 (by kernel_rfl) rfl (by kernel_rfl) (turns_Ring_Put.calls kk1ld (hr1mb.mono (fun _ hp_ => List.mem_append_right _ hp_)) hr1mt.rds A1my (hS1mx.pool)) (fun e1n2 W1n1 hp1n3 => ?_)
     obtain ⟨M1n6, rfl, hr1n7, hS1n8⟩ := hp1n3
     have hS1n9 : St b w0 W1n1 R (M1mo :: M1n6 :: (bx g1ky 25 [.int .u32 1, .int .u32 3]) :: Fs) := hS1n8.unpool
     replace hr1n7 : Ptr k69 69 b w0 R (pt g1ks) r1n0 M1n6 := hr1n7.ind k69qind
     refine ⟨_, rfl, fun a1n4 h1n5 => ?_⟩
     refine WL.oq h1n5 rfl (owp_rk (.bool (!r1mz)) h1n5 rfl (fun a1na h1nb => ?_))
     refine WL.bl 1 11 h1nb [(26, .bool (!r1mz))] (fun a1nc h1nd => ?_)
     refine WL.dn ?_
     clear h1me a1md h1mh a1mg h1mj a1mi h1ml a1mk h1n5 a1n4 h1nb a1na
     by_cases c1ne : r1mz = true
     ·rw [if_pos c1ne] at H
      have hb_ : r1mz = true := c1ne
      try rw [hb_] at h1nd
      clear hb_
      refine wp_else h1nd rfl ?_
      refine wp_skip ?_
      refine WL.start ?_
      refine WL.bl 2 2 h1nd [(12, i6 (IntKind.i64.wrap (x1lb + 1))), (27, i6 (IntKind.i64.wrap (x1lb + 1)))] (fun a1nf h1ng => ?_)
      refine WL.dn ?_
      have hS1nh := hS1n9.drop_
      exact ⟨kk1ld, by omega, r1n0, M1n6, IntKind.i64.wrap (x1lb + 1), h1ng.keep ⟨rfl, rfl, rfl, rfl, trivial⟩, ⟨H⟩, ⟨by omega⟩, ⟨hS1nh⟩, ⟨hr1n7⟩⟩
     ·rw [if_neg c1ne] at H
      have hb_ : r1mz = false := (Bool.eq_false_iff.2 c1ne)
      try rw [hb_] at h1nd
      clear hb_
      refine wp_then h1nd rfl ?_
      refine wp_seq ?_
      refine WL.start ?_
      refine WL.bl 1 1 h1nd [(0, .bool false)] (fun a1ni h1nj => ?_)
      refine WL.dn ?_
      refine wp_ret ?_
      have hS1nk := hS1n9.drop_
      have hS1nl := hS1nk.drop_
      have hS1nm := hS1nl.drop_
      obtain rfl := Option.some.inj H
      repeat (first | with_reducible refine t1 ?_ | with_reducible refine t2 ?_ | with_reducible refine t3 ?_)
      refine bret (.bool false) h1nj ?_
      exact ⟨rfl, hS1nm⟩
    ·rw [if_neg c1mf] at H
     have hb_ : r1m3 = false := (Bool.eq_false_iff.2 c1mf)
     try rw [hb_] at h1me
     clear hb_
     refine WL.sk h1me rfl rfl (fun a1nn h1no => ?_)
     refine WL.sk h1no rfl rfl (fun a1np h1nq => ?_)
     refine WL.sk h1nq rfl rfl (fun a1nr h1ns => ?_)
     refine WL.sk h1ns rfl rfl (fun a1nt h1nu => ?_)
     refine WL.sk h1nu rfl rfl (fun a1nv h1nw => ?_)
     refine WL.bl 1 11 h1nw [(26, .bool true)] (fun a1nx h1ny => ?_)
     refine WL.dn ?_
     refine wp_then h1ny rfl ?_
     refine wp_seq ?_
     refine WL.start ?_
     refine WL.bl 1 1 h1ny [(0, .bool false)] (fun a1nz h1o0 => ?_)
     refine WL.dn ?_
     refine wp_ret ?_
     have hS1o1 := hS1mc.drop_
     have hS1o2 := hS1o1.drop_
     obtain rfl := Option.some.inj H
     repeat (first | with_reducible refine t1 ?_ | with_reducible refine t2 ?_ | with_reducible refine t3 ?_)
     refine bret (.bool false) h1o0 ?_
     exact ⟨rfl, hS1o2⟩
   ·rw [if_neg c1li] at H
    cases H
  ·rw [if_neg c1lh] at H
   cases H
 ·rw [if_neg c1lg] at H
  have hb_ : (decide (x1lb < 2)) = false := decide_eq_false c1lg
  try rw [hb_] at h1lf
  clear hb_
  refine wp_else h1lf rfl ?_
  refine wp_exit ?_
  refine wp_seq ?_
  refine wp_seq ?_
  refine WL.start ?_
  refine WL.bl 1 1 h1lf [(28, i6 0)] (fun a1o3 h1o4 => ?_)
  refine WL.dn ?_
  refine wp_block ?_
  have hS1oe := hS1l6.b1
  have hS1of := hS1oe.drop_
  clear h1lf a1le
  refine wp_loop_ghost (fun kq_ a_ W_ => ∃ (x1oa : S69), ∃ (M1ob : Frag), ∃ (x1od : Int), Hd a_ 65 [(1, pt g1ks), (28, i6 x1od)] ∧ Asd (louverlaw13qfixed.l1 kq_ x1oa x1od = some r0q) ∧ Asd (kq_ ≤ kk1ld) ∧ Asd (St b w0 W_ R (M1ob :: Fs)) ∧ Asd (Ptr k69 69 b w0 R (pt g1ks) x1oa M1ob)) kk1ld ⟨x1l8, M1l9, 0, h1o4.keep ⟨rfl, rfl, trivial⟩, ⟨H⟩, ⟨Nat.le_refl _⟩, ⟨hS1of⟩, ⟨hr1la⟩⟩ ?_
  clear H hS1of
  rintro kk1o9 a1o6 W1o7 ⟨x1oa, M1ob, x1od, h1o5, ⟨H⟩, ⟨hkkk1o9⟩, ⟨hS1o8⟩, ⟨hr1oc⟩⟩
  obtain _ | kk1og := kk1o9
  ·exact absurd H (by simp [louverlaw13qfixed.l1])
  simp only [louverlaw13qfixed.l1] at H
  refine wp_seq ?_
  refine WL.start ?_
  refine WL.bl 1 1 h1o5 [(29, .bool (decide (x1od < 6)))] (fun a1oh h1oi => ?_)
  refine WL.dn ?_
  refine wp_seq ?_
  clear h1o5 a1o6
  by_cases c1oj : x1od < 6
  ·rw [if_pos c1oj] at H
   have hb_ : (decide (x1od < 6)) = true := decide_eq_true c1oj
   try rw [hb_] at h1oi
   clear hb_
   refine wp_then h1oi rfl ?_
   refine wp_skip ?_
   refine wp_seq ?_
   refine wp_block ?_
   refine wp_seq ?_
   refine WL.start ?_
   refine WL.bl 2 2 h1oi [(4, i6 x1od), (30, i6 x1od)] (fun a1ok h1ol => ?_)
   refine WL.dn ?_
   refine wp_seq ?_
   refine WL.start ?_
   refine WL.bl 1 1 h1ol [(32, pt g1ks)] (fun a1om h1on => ?_)
   obtain ⟨r1op, r1oq, r1or, r1os, r1ot, A1oo, H⟩ := bind5 H
   refine WL.oq h1on rfl ?_
   refine owp_call [(pt g1ks), i6 4] h1on rfl (by kernel_rfl) rfl Try.func11 (by kernel_rfl) rfl (by kernel_rfl) (turns_Ring_Next.calls kk1og hr1oc A1oo hS1o8) (fun e1ov W1ou hp1ow => ?_)
   obtain ⟨v1oz, M1p0, M1p2, rfl, hr1p1, hr1p3, hS1p4⟩ := hp1ow
   refine ⟨_, rfl, fun a1ox h1oy => ?_⟩
   obtain ⟨A1p5, c1p6, rfl⟩ := hr1p1.form
   refine WL.bl 9 11 h1oy [(8, .bool r1os), (7, .bool r1or), (6, .slice A1p5 r1oq.length c1p6), (5, .int .u32 r1op), (37, .bool r1os), (36, .bool r1or), (35, .slice A1p5 r1oq.length c1p6), (34, .int .u32 r1op), (31, .tuple #[.int .u32 r1op, .slice A1p5 r1oq.length c1p6, .bool r1or, .bool r1os])] (fun a1p7 h1p8 => ?_)
   refine WL.dn ?_
   refine wp_seq ?_
   refine WL.start ?_
   refine WL.bl 3 3 h1p8 [(40, .bool (!r1os)), (39, .bool (!r1os)), (38, .bool r1os)] (fun a1p9 h1pa => ?_)
   clear h1oi a1oh h1ol a1ok h1on a1om h1oy a1ox h1p8 a1p7
   by_cases c1pb : r1os = true
   ·rw [if_pos c1pb] at H
    have hb_ : r1os = true := c1pb
    try rw [hb_] at h1pa
    clear hb_
    refine WL.oq h1pa rfl (owp_rk (.bool r1or) h1pa rfl (fun a1pc h1pd => ?_))
    refine WL.bl 2 6 h1pd [(43, .bool r1or), (42, .bool r1or)] (fun a1pe h1pf => ?_)
    clear h1pa a1p9 h1pd a1pc
    by_cases c1pg : r1or = true
    ·rw [if_pos c1pg] at H
     have hb_ : r1or = true := c1pg
     try rw [hb_] at h1pf
     clear hb_
     refine WL.sk h1pf rfl rfl (fun a1ph h1pi => ?_)
     refine WL.sk h1pi rfl rfl (fun a1pj h1pk => ?_)
     refine WL.sk h1pk rfl rfl (fun a1pl h1pm => ?_)
     refine WL.sk h1pm rfl rfl (fun a1pn h1po => ?_)
     refine WL.sk h1po rfl rfl (fun a1pp h1pq => ?_)
     refine WL.sk h1pq rfl rfl (fun a1pr h1ps => ?_)
     refine WL.sk h1ps rfl rfl (fun a1pt h1pu => ?_)
     refine WL.bl 2 15 h1pu [(52, .bool true), (51, .bool true)] (fun a1pv h1pw => ?_)
     refine WL.sk h1pw rfl rfl (fun a1px h1py => ?_)
     refine WL.sk h1py rfl rfl (fun a1pz h1q0 => ?_)
     refine WL.sk h1q0 rfl rfl (fun a1q1 h1q2 => ?_)
     refine WL.sk h1q2 rfl rfl (fun a1q3 h1q4 => ?_)
     clear h1pf a1pe h1pi a1ph h1pk a1pj h1pm a1pl h1po a1pn h1pq a1pp h1ps a1pr h1pu a1pt h1pw a1pv h1py a1px h1q0 a1pz h1q2 a1q1
     refine WL.sk h1q4 rfl rfl (fun a1q5 h1q6 => ?_)
     refine WL.sk h1q6 rfl rfl (fun a1q7 h1q8 => ?_)
     refine WL.sk h1q8 rfl rfl (fun a1q9 h1qa => ?_)
     refine WL.bl 1 23 h1qa [(60, .bool true)] (fun a1qb h1qc => ?_)
     refine WL.dn ?_
     refine wp_then h1qc rfl ?_
     refine wp_seq ?_
     refine WL.start ?_
     refine WL.bl 1 1 h1qc [(0, .bool false)] (fun a1qd h1qe => ?_)
     refine WL.dn ?_
     refine wp_ret ?_
     have hS1qf := hS1p4.drop_
     have hS1qg := hS1qf.drop_
     obtain rfl := Option.some.inj H
     repeat (first | with_reducible refine t1 ?_ | with_reducible refine t2 ?_ | with_reducible refine t3 ?_)
     refine bret (.bool false) h1qe ?_
     exact ⟨rfl, hS1qg⟩
    ·rw [if_neg c1pg] at H
     have hb_ : r1or = false := (Bool.eq_false_iff.2 c1pg)
     try rw [hb_] at h1pf
     clear hb_
     refine WL.oq h1pf rfl (owp_rk (.int .u32 r1op) h1pf rfl (fun a1qh h1qi => ?_))
     refine WL.oq h1qi rfl (owp_rk (i6 x1od) h1qi rfl (fun a1qj h1qk => ?_))
     refine WL.oq h1qk rfl (owp_rk (i6 (Int.tmod x1od 2)) h1qk rfl (fun a1ql h1qm => ?_))
     refine WL.oq h1qm rfl (owp_rk (i6 (IntKind.i64.wrap (2 * (Int.tmod x1od 2)))) h1qm rfl (fun a1qn h1qo => ?_))
     refine WL.oq h1qo rfl (owp_rk (i6 (IntKind.i64.wrap (1 + (IntKind.i64.wrap (2 * (Int.tmod x1od 2)))))) h1qo rfl (fun a1qp h1qq => ?_))
     refine WL.oq h1qq rfl (owp_rk (.int .u32 (IntKind.u32.wrap (IntKind.i64.wrap (1 + (IntKind.i64.wrap (2 * (Int.tmod x1od 2))))))) h1qq rfl (fun a1qr h1qs => ?_))
     refine WL.oq h1qs rfl (owp_rk (.bool (!decide (r1op = (IntKind.u32.wrap (IntKind.i64.wrap (1 + (IntKind.i64.wrap (2 * (Int.tmod x1od 2))))))))) h1qs rfl (fun a1qt h1qu => ?_))
     refine WL.bl 2 15 h1qu [(52, .bool (!decide (r1op = (IntKind.u32.wrap (IntKind.i64.wrap (1 + (IntKind.i64.wrap (2 * (Int.tmod x1od 2))))))))), (51, .bool (!decide (r1op = (IntKind.u32.wrap (IntKind.i64.wrap (1 + (IntKind.i64.wrap (2 * (Int.tmod x1od 2)))))))))] (fun a1qv h1qw => ?_)
     clear h1pf a1pe h1qi a1qh h1qk a1qj h1qm a1ql h1qo a1qn h1qq a1qp h1qs a1qr h1qu a1qt
     by_cases c1qx : r1op = (IntKind.u32.wrap (IntKind.i64.wrap (1 + (IntKind.i64.wrap (2 * (Int.tmod x1od 2))))))
     ·rw [if_pos c1qx] at H
      have hb_ : (decide (r1op = (IntKind.u32.wrap (IntKind.i64.wrap (1 + (IntKind.i64.wrap (2 * (Int.tmod x1od 2)))))))) = true := decide_eq_true c1qx
      try rw [hb_] at h1qw
      clear hb_
      refine WL.oq h1qw rfl (owp_rk (.slice A1p5 r1oq.length c1p6) h1qw rfl (fun a1qy h1qz => ?_))
      refine WL.oq h1qz rfl (owp_rk (i6 (r1oq.length : Int)) h1qz rfl (fun a1r0 h1r1 => ?_))
      refine WL.oq h1r1 rfl ?_
      refine owp_nw (fun g_ => .slice (some ⟨g_, 0, none⟩) 6 6) (.cells ([i6 4, i6 4, i6 4, i6 4, i6 2, i6 2] : List Value).toArray 3 (0, 0)) h1r1 rfl hS1p4 (fun a1r2 W1r4 g1r5 h1r3 hS1r6 => ?_)
      have hr1r7 : Row (kInt .i64) 3 b w0 R (.slice (some ⟨g1r5, 0, none⟩) 6 6) ([4, 4, 4, 4, 2, 2] : List Int) (bx g1r5 3 [i6 4, i6 4, i6 4, i6 4, i6 2, i6 2]) := Row.lit (xs := ([4, 4, 4, 4, 2, 2] : List Int)) (Mi := []) ⟨_, _, [], _, rfl, rfl, ⟨rfl, rfl⟩, ⟨_, _, [], _, rfl, rfl, ⟨rfl, rfl⟩, ⟨_, _, [], _, rfl, rfl, ⟨rfl, rfl⟩, ⟨_, _, [], _, rfl, rfl, ⟨rfl, rfl⟩, ⟨_, _, [], _, rfl, rfl, ⟨rfl, rfl⟩, ⟨_, _, [], _, rfl, rfl, ⟨rfl, rfl⟩, ⟨rfl, rfl⟩⟩⟩⟩⟩⟩⟩ (by simp [maxLen])
      refine WL.oq h1r3 rfl (owp_rk (i6 x1od) h1r3 rfl (fun a1r8 h1r9 => ?_))
      clear h1qw a1qv h1qz a1qy h1r1 a1r0 h1r3 a1r2
      by_cases c1ra : 0 ≤ x1od
      ·rw [if_pos c1ra] at H
       by_cases c1rb : x1od < (([4, 4, 4, 4, 2, 2] : List Int).length : Int)
       ·rw [if_pos c1rb] at H
        have hi1re : 0 ≤ x1od := by first | assumption | omega
        have hi1rf : x1od < (([4, 4, 4, 4, 2, 2] : List Int).length : Int) := by first | assumption | omega
        obtain ⟨ad1rc, _, ha1rd, -, -⟩ := Rds.elemAny hr1r7.rds hi1re (gt_get (z := (0 : Int)) hi1re hi1rf)
        refine WL.oq h1r9 rfl ?_
        refine owp_rn (.pointer (some (ad1rc.add (x1od.toNat * 1)))) h1r9 rfl (run_idx (ad := ad1rc) (sz := 1) rfl (by rw [← ha1rd]; rfl) rfl Try.underlying78 (by kernel_rfl) hi1re hi1rf) (fun a1rg h1rh => ?_)
        obtain ⟨ad1ri, cs1rj, ha1rk, hr1rm, hc1rl⟩ := Rds.elemAny hr1r7.rds hi1re (gt_get (z := (0 : Int)) hi1re hi1rf)
        rw [ha1rd] at ha1rk; obtain rfl := Option.some.inj ha1rk
        obtain rfl : cs1rj = [i6 (gt (0 : Int) ([4, 4, 4, 4, 2, 2] : List Int) x1od)] := hr1rm
        refine WL.oq h1rh rfl ?_
        refine owp_rn (i6 (gt (0 : Int) ([4, 4, 4, 4, 2, 2] : List Int) x1od)) h1rh rfl (run_load1 rfl rfl Try.underlying3 rfl (cell0 (hc1rl _ (fun _ _ hk_ => (hS1r6).pool.kn hk_)))) (fun a1rn h1ro => ?_)
        refine WL.oq h1ro rfl (owp_rk (.bool (!decide ((r1oq.length : Int) = (gt (0 : Int) ([4, 4, 4, 4, 2, 2] : List Int) x1od)))) h1ro rfl (fun a1rp h1rq => ?_))
        refine WL.bl 1 23 h1rq [(60, .bool (!decide ((r1oq.length : Int) = (gt (0 : Int) ([4, 4, 4, 4, 2, 2] : List Int) x1od))))] (fun a1rr h1rs => ?_)
        refine WL.dn ?_
        clear h1r9 a1r8 h1rh a1rg h1ro a1rn h1rq a1rp
        by_cases c1rt : (r1oq.length : Int) = (gt (0 : Int) ([4, 4, 4, 4, 2, 2] : List Int) x1od)
        ·rw [if_pos c1rt] at H
         have hb_ : (decide ((r1oq.length : Int) = (gt (0 : Int) ([4, 4, 4, 4, 2, 2] : List Int) x1od))) = true := decide_eq_true c1rt
         try rw [hb_] at h1rs
         clear hb_
         refine wp_else h1rs rfl ?_
         refine wp_skip ?_
         refine WL.start ?_
         refine WL.bl 2 2 h1rs [(28, i6 (IntKind.i64.wrap (x1od + 1))), (61, i6 (IntKind.i64.wrap (x1od + 1)))] (fun a1ru h1rv => ?_)
         refine WL.dn ?_
         have hS1rw := hS1r6.drop_
         have hS1rx := hS1rw.drop_
         exact ⟨kk1og, by omega, r1ot, M1p2, IntKind.i64.wrap (x1od + 1), h1rv.keep ⟨rfl, rfl, trivial⟩, ⟨H⟩, ⟨by omega⟩, ⟨hS1rx⟩, ⟨hr1p3⟩⟩
        ·rw [if_neg c1rt] at H
         have hb_ : (decide ((r1oq.length : Int) = (gt (0 : Int) ([4, 4, 4, 4, 2, 2] : List Int) x1od))) = false := decide_eq_false c1rt
         try rw [hb_] at h1rs
         clear hb_
         refine wp_then h1rs rfl ?_
         refine wp_seq ?_
         refine WL.start ?_
         refine WL.bl 1 1 h1rs [(0, .bool false)] (fun a1ry h1rz => ?_)
         refine WL.dn ?_
         refine wp_ret ?_
         have hS1s0 := hS1r6.drop_
         have hS1s1 := hS1s0.drop_
         have hS1s2 := hS1s1.drop_
         obtain rfl := Option.some.inj H
         repeat (first | with_reducible refine t1 ?_ | with_reducible refine t2 ?_ | with_reducible refine t3 ?_)
         refine bret (.bool false) h1rz ?_
         exact ⟨rfl, hS1s2⟩
       ·rw [if_neg c1rb] at H
        cases H
      ·rw [if_neg c1ra] at H
       cases H
     ·rw [if_neg c1qx] at H
      have hb_ : (decide (r1op = (IntKind.u32.wrap (IntKind.i64.wrap (1 + (IntKind.i64.wrap (2 * (Int.tmod x1od 2)))))))) = false := decide_eq_false c1qx
      try rw [hb_] at h1qw
      clear hb_
      refine WL.sk h1qw rfl rfl (fun a1s3 h1s4 => ?_)
      refine WL.sk h1s4 rfl rfl (fun a1s5 h1s6 => ?_)
      refine WL.sk h1s6 rfl rfl (fun a1s7 h1s8 => ?_)
      refine WL.sk h1s8 rfl rfl (fun a1s9 h1sa => ?_)
      refine WL.sk h1sa rfl rfl (fun a1sb h1sc => ?_)
      refine WL.sk h1sc rfl rfl (fun a1sd h1se => ?_)
      refine WL.sk h1se rfl rfl (fun a1sf h1sg => ?_)
      refine WL.bl 1 23 h1sg [(60, .bool true)] (fun a1sh h1si => ?_)
      refine WL.dn ?_
      refine wp_then h1si rfl ?_
      refine wp_seq ?_
      refine WL.start ?_
      refine WL.bl 1 1 h1si [(0, .bool false)] (fun a1sj h1sk => ?_)
      refine WL.dn ?_
      refine wp_ret ?_
      have hS1sl := hS1p4.drop_
      have hS1sm := hS1sl.drop_
      obtain rfl := Option.some.inj H
      repeat (first | with_reducible refine t1 ?_ | with_reducible refine t2 ?_ | with_reducible refine t3 ?_)
      refine bret (.bool false) h1sk ?_
      exact ⟨rfl, hS1sm⟩
   ·rw [if_neg c1pb] at H
    have hb_ : r1os = false := (Bool.eq_false_iff.2 c1pb)
    try rw [hb_] at h1pa
    clear hb_
    refine WL.sk h1pa rfl rfl (fun a1sn h1so => ?_)
    refine WL.bl 2 6 h1so [(43, .bool true), (42, .bool true)] (fun a1sp h1sq => ?_)
    refine WL.sk h1sq rfl rfl (fun a1sr h1ss => ?_)
    refine WL.sk h1ss rfl rfl (fun a1st h1su => ?_)
    refine WL.sk h1su rfl rfl (fun a1sv h1sw => ?_)
    refine WL.sk h1sw rfl rfl (fun a1sx h1sy => ?_)
    refine WL.sk h1sy rfl rfl (fun a1sz h1t0 => ?_)
    refine WL.sk h1t0 rfl rfl (fun a1t1 h1t2 => ?_)
    refine WL.sk h1t2 rfl rfl (fun a1t3 h1t4 => ?_)
    refine WL.bl 2 15 h1t4 [(52, .bool true), (51, .bool true)] (fun a1t5 h1t6 => ?_)
    refine WL.sk h1t6 rfl rfl (fun a1t7 h1t8 => ?_)
    refine WL.sk h1t8 rfl rfl (fun a1t9 h1ta => ?_)
    clear h1pa a1p9 h1so a1sn h1sq a1sp h1ss a1sr h1su a1st h1sw a1sv h1sy a1sx h1t0 a1sz h1t2 a1t1 h1t4 a1t3 h1t6 a1t5 h1t8 a1t7
    refine WL.sk h1ta rfl rfl (fun a1tb h1tc => ?_)
    refine WL.sk h1tc rfl rfl (fun a1td h1te => ?_)
    refine WL.sk h1te rfl rfl (fun a1tf h1tg => ?_)
    refine WL.sk h1tg rfl rfl (fun a1th h1ti => ?_)
    refine WL.sk h1ti rfl rfl (fun a1tj h1tk => ?_)
    refine WL.bl 1 23 h1tk [(60, .bool true)] (fun a1tl h1tm => ?_)
    refine WL.dn ?_
    refine wp_then h1tm rfl ?_
    refine wp_seq ?_
    refine WL.start ?_
    refine WL.bl 1 1 h1tm [(0, .bool false)] (fun a1tn h1to => ?_)
    refine WL.dn ?_
    refine wp_ret ?_
    have hS1tp := hS1p4.drop_
    have hS1tq := hS1tp.drop_
    obtain rfl := Option.some.inj H
    repeat (first | with_reducible refine t1 ?_ | with_reducible refine t2 ?_ | with_reducible refine t3 ?_)
    refine bret (.bool false) h1to ?_
    exact ⟨rfl, hS1tq⟩
  ·rw [if_neg c1oj] at H
   have hb_ : (decide (x1od < 6)) = false := decide_eq_false c1oj
   try rw [hb_] at h1oi
   clear hb_
   refine wp_else h1oi rfl ?_
   refine wp_exit ?_
   refine wp_seq ?_
   refine WL.start ?_
   refine WL.bl 1 1 h1oi [(62, pt g1ks)] (fun a1tr h1ts => ?_)
   obtain ⟨r1tu, A1tt, H⟩ := bind1 H
   refine WL.oq h1ts rfl ?_
   refine owp_call [(pt g1ks)] h1ts rfl (by kernel_rfl) rfl Try.func15 (by kernel_rfl) rfl (by kernel_rfl) (turns_Ring_All.calls kk1og hr1oc A1tt hS1o8) (fun e1tw W1tv hp1tx => ?_)
   obtain ⟨M1u0, rfl, hr1u1, hS1u2⟩ := hp1tx
   refine ⟨_, rfl, fun a1ty h1tz => ?_⟩
   refine WL.bl 2 4 h1tz [(0, .bool (decide (r1tu = 0))), (64, .bool (decide (r1tu = 0)))] (fun a1u3 h1u4 => ?_)
   refine WL.dn ?_
   refine wp_ret ?_
   have hS1u5 := hS1u2.drop_
   obtain rfl := Option.some.inj H
   repeat (first | with_reducible refine t1 ?_ | with_reducible refine t2 ?_ | with_reducible refine t3 ?_)
   refine bret (.bool (decide (r1tu = 0))) h1u4 ?_
   exact ⟨rfl, hS1u5⟩

structure S50 where
 f0 : Int
 f1 : Int
 deriving DecidableEq
def z50 : S50 := ⟨(0 : Int), (0 : Int)⟩
def k50 : Kd S50 := kIso (kPair (kInt .u8) (kInt .u32)) (fun x : S50 => (x.f0, x.f1))
theorem k50qflat : k50.Flat := kIso_flat (kPair_flat (kInt_flat _) (kInt_flat _))
theorem k50qind : k50.Ind := kIso_ind (kPair_ind (kInt_ind _) (kInt_ind _))
theorem k50qrd {b : Nat} {w0 : World} {R : Frag} {x : S50} {cs : List Value} (h : k50.rd b w0 R x cs) : cs = [.int .u8 x.f0, .int .u32 x.f1] := by
 obtain ⟨c100, c101, rfl, h102, h103⟩ := h
 obtain rfl := h102
 obtain rfl := h103
 exact rfl
theorem k50qrep {b : Nat} {w0 : World} {R : Frag} {x : S50} {cs : List Value} {M : Frag} (h : k50.rep b w0 R x cs M) : cs = [.int .u8 x.f0, .int .u32 x.f1] ∧ M = [] := by
 obtain ⟨c104, c105, M108, M109, rfl, rfl, h106, h107⟩ := h
 obtain ⟨rfl, rfl⟩ := h106
 obtain ⟨rfl, rfl⟩ := h107
 exact ⟨rfl, by simp⟩
theorem k50qno {b : Nat} {w0 : World} {R : Frag} {x : S50} {cs : List Value} {M : Frag} (h : k50.rep b w0 R x cs M) : M = [] := by
 obtain ⟨_, hM_⟩ := k50qrep h
 exact hM_
theorem k50qmk {b : Nat} {w0 : World} {R : Frag} {x : S50}  : ∃ M, k50.rep b w0 R x [.int .u8 x.f0, .int .u32 x.f1] M ∧ M = [] := ⟨_, ⟨_, _, _, _, rfl, rfl, ⟨rfl, rfl⟩, ⟨rfl, rfl⟩⟩, by simp⟩
/-! ### louver/window.internal -/
def window_internal.f  : Option (S50) := some (⟨1, 2⟩ : S50)
set_option maxHeartbeats 20000000 in
set_option maxRecDepth 100000 in
theorem window_internal.calls {b : Nat} {w0 W : World} {R : Frag} {Fs : List Frag}   {r0q : S50}  (H : window_internal.f = some r0q) (hS : St b w0 W R (Fs)) :
  Calls Try.prog 48 ([] : List Value).toArray W (fun e W' => e = .returned (.agg #[.int .u8 r0q.f0, .int .u32 r0q.f1]) ∧ St b w0 W' R (Fs)) := by
 unfold window_internal.f at H
 refine calls_enter Try.func48 rfl 2 rfl (by kernel_rfl) (fun a h => ?_)
 refine wp_seq ?_
 refine WL.start ?_
 refine WL.oq h rfl ?_
 refine owp_nw (fun g_ => (pt g_)) (.cells ([.int .u8 0, .int .u32 0] : List Value).toArray 50 (0, 0)) h rfl hS (fun a10m W10o g10p h10n hS10q => ?_)
 refine WL.dn ?_
 refine wp_seq ?_
 refine WL.start ?_
 refine WL.bl 1 1 h10n [(1, .agg #[.int .u8 1, .int .u32 2])] (fun a10r h10s => ?_)
 refine WL.oq h10s rfl ?_
 refine owp_st 0 [.int .u8 1, .int .u32 2] h10s rfl rfl rfl hS10q [.int .u8 1, .int .u32 2] (fun a10t W10v h10u hS10w => ?_)
 refine WL.dn ?_
 refine wp_ret ?_
 have hS10x := hS10w.drop_
 obtain rfl := Option.some.inj H
 repeat (first | with_reducible refine t1 ?_ | with_reducible refine t2 ?_ | with_reducible refine t3 ?_)
 refine body_ret (v := .agg #[.int .u8 1, .int .u32 2]) h10u (by kernel_rfl) (res_one rfl ⟨_, rfl, loadVarN Try.underlying50 rfl (cs := [.int .u8 1, .int .u32 2]) (by kernel_rfl) (hS10w.cells (vs := [.int .u8 1, .int .u32 2]) rfl)⟩) ?_
 exact ⟨rfl, hS10x⟩

/-! ### (*louver/window.Window).to -/
def window_Window_to.f (p0 : S94) (p1 : Int) : Option (Bool × S94) := if p1 > 2147483647 then (some (false, p0)) else (some (true, (⟨mxI p1 (-2147483648), p0.f1⟩ : S94)))
set_option maxHeartbeats 20000000 in
set_option maxRecDepth 100000 in
theorem window_Window_to.calls {b : Nat} {w0 W : World} {R : Frag} {Fs : List Frag} {p0 : S94} {p1 : Int}  {v0 : Value} {M0 : Frag} {r0q : Bool} {r1q : S94} (hp0 : Ptr k94 94 b w0 R v0 p0 M0) (H : window_Window_to.f p0 p1 = some (r0q, r1q)) (hS : St b w0 W R (M0 :: Fs)) :
  Calls Try.prog 49 ([v0, i6 p1] : List Value).toArray W (fun e W' => ∃ (O0q : Frag), e = .returned (.bool r0q) ∧ Ptr k94 94 b w0 R v0 r1q O0q ∧ St b w0 W' R (O0q :: Fs)) := by
 unfold window_Window_to.f at H
 refine calls_enter Try.func49 rfl 12 rfl (by kernel_rfl) (fun a h => ?_)
 refine wp_seq ?_
 refine WL.start ?_
 refine WL.bl 1 1 h [(4, .bool false)] (fun a10z h110 => ?_)
 refine WL.dn ?_
 refine wp_seq ?_
 refine wp_seq ?_
 refine WL.start ?_
 refine WL.bl 2 2 h110 [(6, .bool (decide (p1 > 2147483647))), (5, i6 p1)] (fun a111 h112 => ?_)
 refine WL.dn ?_
 clear h110 a10z
 by_cases c113 : p1 > 2147483647
 ·rw [if_pos c113] at H
  have hb_ : (decide (p1 > 2147483647)) = true := decide_eq_true c113
  try rw [hb_] at h112
  clear hb_
  refine wp_then h112 rfl ?_
  refine wp_seq ?_
  refine WL.start ?_
  refine WL.bl 1 1 h112 [(4, .bool false)] (fun a114 h115 => ?_)
  refine WL.dn ?_
  refine wp_ret ?_
  obtain ⟨rfl, rfl⟩ := ret2 H
  repeat (first | with_reducible refine t1 ?_ | with_reducible refine t2 ?_ | with_reducible refine t3 ?_)
  refine bret (.bool false) h115 ?_
  exact ⟨M0, rfl, hp0, hS⟩
 ·rw [if_neg c113] at H
  have hb_ : (decide (p1 > 2147483647)) = false := decide_eq_false c113
  try rw [hb_] at h112
  clear hb_
  refine wp_else h112 rfl ?_
  refine wp_skip ?_
  refine wp_seq ?_
  refine WL.start ?_
  refine WL.bl 3 3 h112 [(9, i6 (mxI p1 (-2147483648))), (8, i6 p1), (7, v0)] (fun a116 h117 => ?_)
  obtain ⟨g119, rfl, hS118⟩ := k94qop hp0 hS
  refine WL.bl 2 5 h117 [(11, pt g119), (10, pt g119)] (fun a11a h11b => ?_)
  refine WL.oq h11b rfl ?_
  refine owp_st 0 [i6 (mxI p1 (-2147483648))] h11b rfl rfl rfl hS118 [i6 (mxI p1 (-2147483648)), .bool p0.f1] (fun a11c W11e h11d hS11f => ?_)
  refine WL.dn ?_
  refine wp_seq ?_
  refine WL.start ?_
  refine WL.bl 1 1 h11d [(4, .bool true)] (fun a11g h11h => ?_)
  refine WL.dn ?_
  refine wp_ret ?_
  obtain ⟨M11i, hp11j, hS11k⟩ := k94qfo (⟨mxI p1 (-2147483648), p0.f1⟩ : S94) hS11f
  obtain ⟨rfl, rfl⟩ := ret2 H
  repeat (first | with_reducible refine t1 ?_ | with_reducible refine t2 ?_ | with_reducible refine t3 ?_)
  refine bret (.bool true) h11h ?_
  exact ⟨M11i, rfl, hp11j, hS11k⟩

/-! ### louver/window.scope -/
def window_scope.f (p0 : Bool) : Option (Int) := if p0 = true then (some 2) else (some 1)
set_option maxHeartbeats 20000000 in
set_option maxRecDepth 100000 in
theorem window_scope.calls {b : Nat} {w0 W : World} {R : Frag} {Fs : List Frag} {p0 : Bool}  {r0q : Int}  (H : window_scope.f p0 = some r0q) (hS : St b w0 W R (Fs)) :
  Calls Try.prog 50 ([.bool p0] : List Value).toArray W (fun e W' => e = .returned (.int .u8 r0q) ∧ St b w0 W' R (Fs)) := by
 unfold window_scope.f at H
 refine calls_enter Try.func50 rfl 4 rfl (by kernel_rfl) (fun a h => ?_)
 refine wp_seq ?_
 refine WL.start ?_
 refine WL.bl 1 1 h [(2, .int .u8 0)] (fun a109 h10a => ?_)
 refine WL.dn ?_
 refine wp_seq ?_
 refine wp_seq ?_
 refine WL.start ?_
 refine WL.bl 1 1 h10a [(3, .bool p0)] (fun a10b h10c => ?_)
 refine WL.dn ?_
 clear h10a a109
 by_cases c10d : p0 = true
 ·rw [if_pos c10d] at H
  have hb_ : p0 = true := c10d
  try rw [hb_] at h10c
  clear hb_
  refine wp_then h10c rfl ?_
  refine wp_seq ?_
  refine WL.start ?_
  refine WL.bl 1 1 h10c [(2, .int .u8 2)] (fun a10e h10f => ?_)
  refine WL.dn ?_
  refine wp_ret ?_
  obtain rfl := Option.some.inj H
  repeat (first | with_reducible refine t1 ?_ | with_reducible refine t2 ?_ | with_reducible refine t3 ?_)
  refine bret (.int .u8 2) h10f ?_
  exact ⟨rfl, hS⟩
 ·rw [if_neg c10d] at H
  have hb_ : p0 = false := (Bool.eq_false_iff.2 c10d)
  try rw [hb_] at h10c
  clear hb_
  refine wp_else h10c rfl ?_
  refine wp_skip ?_
  refine wp_seq ?_
  refine WL.start ?_
  refine WL.bl 1 1 h10c [(2, .int .u8 1)] (fun a10g h10h => ?_)
  refine WL.dn ?_
  refine wp_ret ?_
  obtain rfl := Option.some.inj H
  repeat (first | with_reducible refine t1 ?_ | with_reducible refine t2 ?_ | with_reducible refine t3 ?_)
  refine bret (.int .u8 1) h10h ?_
  exact ⟨rfl, hS⟩

/-! ### (*louver/window.Window).Grow -/
def window_Window_Grow.f (p0 : S94) (p1 : Int) : Option (S50 × S94) := bnd2 (window_Window_to.f p0 (IntKind.i64.wrap (p0.f0 + (IntKind.i64.wrap p1)))) fun r13g r13h => (if r13g = true then (some ((⟨0, 0⟩ : S50), r13h)) else (bnd1 (window_scope.f r13h.f1) fun r149 => (some ((⟨r149, 3⟩ : S50), r13h))))
set_option maxHeartbeats 20000000 in
set_option maxRecDepth 100000 in
theorem window_Window_Grow.calls {b : Nat} {w0 W : World} {R : Frag} {Fs : List Frag} {p0 : S94} {p1 : Int}  {v0 : Value} {M0 : Frag} {r0q : S50} {r1q : S94} (hp0 : Ptr k94 94 b w0 R v0 p0 M0) (H : window_Window_Grow.f p0 p1 = some (r0q, r1q)) (hS : St b w0 W R (M0 :: Fs)) :
  Calls Try.prog 36 ([v0, .int .u32 p1] : List Value).toArray W (fun e W' => ∃ (O0q : Frag), e = .returned (.agg #[.int .u8 r0q.f0, .int .u32 r0q.f1]) ∧ Ptr k94 94 b w0 R v0 r1q O0q ∧ St b w0 W' R (O0q :: Fs)) := by
 unfold window_Window_Grow.f at H
 refine calls_enter Try.func36 rfl 27 rfl (by kernel_rfl) (fun a h => ?_)
 refine wp_seq ?_
 refine WL.start ?_
 refine WL.oq h rfl ?_
 refine owp_nw (fun g_ => (pt g_)) (.cells ([.int .u8 0, .int .u32 0] : List Value).toArray 50 (0, 0)) h rfl hS (fun a12u W12w g12x h12v hS12y => ?_)
 refine WL.dn ?_
 refine wp_seq ?_
 refine wp_block ?_
 refine wp_seq ?_
 refine WL.start ?_
 refine WL.bl 1 1 h12v [(6, v0)] (fun a12z h130 => ?_)
 have hS131 := hS12y.b1
 obtain ⟨g133, rfl, hS132⟩ := k94qop hp0 hS131
 refine WL.bl 2 3 h130 [(5, .bool false), (7, .bool false)] (fun a134 h135 => ?_)
 refine WL.dn ?_
 refine wp_else h135 rfl ?_
 refine wp_seq ?_
 refine WL.start ?_
 refine WL.bl 4 4 h135 [(13, pt g133), (12, pt g133), (11, pt g133), (10, pt g133)] (fun a136 h137 => ?_)
 refine WL.oq h137 rfl ?_
 refine owp_rn (i6 p0.f0) h137 rfl (run_load1 rfl rfl Try.underlying2 rfl (hS132.cell (i := 0) rfl)) (fun a138 h139 => ?_)
 refine WL.bl 3 8 h139 [(17, i6 (IntKind.i64.wrap (p0.f0 + (IntKind.i64.wrap p1)))), (16, i6 (IntKind.i64.wrap p1)), (15, .int .u32 p1)] (fun a13a h13b => ?_)
 obtain ⟨M13c, hp13d, hS13e⟩ := k94qfo p0 hS132
 obtain ⟨r13g, r13h, A13f, H⟩ := bind2 H
 refine WL.oq h13b rfl ?_
 refine owp_call [(pt g133), i6 (IntKind.i64.wrap (p0.f0 + (IntKind.i64.wrap p1)))] h13b rfl (by kernel_rfl) rfl Try.func49 (by kernel_rfl) rfl (by kernel_rfl) (window_Window_to.calls hp13d A13f hS13e) (fun e13j W13i hp13k => ?_)
 obtain ⟨M13n, rfl, hr13o, hS13p⟩ := hp13k
 refine ⟨_, rfl, fun a13l h13m => ?_⟩
 refine WL.bl 2 11 h13m [(9, .bool (!r13g)), (19, .bool (!r13g))] (fun a13q h13r => ?_)
 refine WL.dn ?_
 clear h12v a12u h130 a12z h135 a134 h137 a136 h139 a138 h13b a13a h13m a13l
 by_cases c13s : r13g = true
 ·rw [if_pos c13s] at H
  have hb_ : r13g = true := c13s
  try rw [hb_] at h13r
  clear hb_
  refine wp_else h13r rfl ?_
  refine wp_skip ?_
  refine wp_seq ?_
  refine WL.start ?_
  refine WL.bl 1 1 h13r [(26, .agg #[.int .u8 0, .int .u32 0])] (fun a13t h13u => ?_)
  have hS13v := hS13p.b1
  refine WL.oq h13u rfl ?_
  refine owp_st 0 [.int .u8 0, .int .u32 0] h13u rfl rfl rfl hS13v [.int .u8 0, .int .u32 0] (fun a13w W13y h13x hS13z => ?_)
  refine WL.dn ?_
  refine wp_ret ?_
  have hS140 := hS13z.drop_
  obtain ⟨rfl, rfl⟩ := ret2 H
  repeat (first | with_reducible refine t1 ?_ | with_reducible refine t2 ?_ | with_reducible refine t3 ?_)
  refine body_ret (v := .agg #[.int .u8 0, .int .u32 0]) h13x (by kernel_rfl) (res_one rfl ⟨_, rfl, loadVarN Try.underlying50 rfl (cs := [.int .u8 0, .int .u32 0]) (by kernel_rfl) (hS13z.cells (vs := [.int .u8 0, .int .u32 0]) rfl)⟩) ?_
  exact ⟨M13n, rfl, hr13o, hS140⟩
 ·rw [if_neg c13s] at H
  have hb_ : r13g = false := (Bool.eq_false_iff.2 c13s)
  try rw [hb_] at h13r
  clear hb_
  refine wp_then h13r rfl ?_
  refine wp_seq ?_
  refine WL.start ?_
  refine WL.bl 1 1 h13r [(20, pt g133)] (fun a141 h142 => ?_)
  have hS143 := k94qoq hr13o hS13p
  refine WL.bl 2 3 h142 [(22, .pointer (some ⟨g133, 1, none⟩)), (21, pt g133)] (fun a144 h145 => ?_)
  refine WL.oq h145 rfl ?_
  refine owp_rn (.bool r13h.f1) h145 rfl (run_load1 rfl rfl Try.underlying4 rfl (hS143.cell (i := 1) rfl)) (fun a146 h147 => ?_)
  obtain ⟨r149, A148, H⟩ := bind1 H
  refine WL.oq h147 rfl ?_
  refine owp_call [.bool r13h.f1] h147 rfl (by kernel_rfl) rfl Try.func50 (by kernel_rfl) rfl (by kernel_rfl) (window_scope.calls  A148 hS143) (fun e14b W14a hp14c => ?_)
  obtain ⟨rfl, hS14f⟩ := hp14c
  refine ⟨_, rfl, fun a14d h14e => ?_⟩
  refine WL.bl 1 6 h14e [(25, .agg #[.int .u8 r149, .int .u32 3])] (fun a14g h14h => ?_)
  have hS14i := hS14f.b1
  refine WL.oq h14h rfl ?_
  refine owp_st 0 [.int .u8 r149, .int .u32 3] h14h rfl rfl rfl hS14i [.int .u8 r149, .int .u32 3] (fun a14j W14l h14k hS14m => ?_)
  refine WL.dn ?_
  refine wp_ret ?_
  have hS14n := hS14m.b1
  obtain ⟨M14o, hp14p, hS14q⟩ := k94qfo r13h hS14n
  have hS14r := hS14q.b1
  have hS14s := hS14r.drop_
  obtain ⟨rfl, rfl⟩ := ret2 H
  repeat (first | with_reducible refine t1 ?_ | with_reducible refine t2 ?_ | with_reducible refine t3 ?_)
  refine body_ret (v := .agg #[.int .u8 r149, .int .u32 3]) h14k (by kernel_rfl) (res_one rfl ⟨_, rfl, loadVarN Try.underlying50 rfl (cs := [.int .u8 r149, .int .u32 3]) (by kernel_rfl) (hS14m.cells (vs := [.int .u8 r149, .int .u32 3]) rfl)⟩) ?_
  exact ⟨M14o, rfl, hp14p, hS14s⟩

/-! ### (*louver/turns.Ring).Grow -/
def turns_Ring_Grow.f (k : Nat) (p0 : S69) (p1 : Int) (p2 : Int) : Option (S50 × S69) := bnd1 (turns_Ring_find.f k p0 p1) fun r16g => (if p1 = 0 then (bnd2 (window_Window_Grow.f p0.f2 p2) fun r17f r17g => (some ((⟨r17f.f0, r17f.f1⟩ : S50), (⟨p0.f0, p0.f1, r17g⟩ : S69)))) else (if r16g < 0 then (some ((⟨0, 0⟩ : S50), p0)) else (if 0 ≤ r16g then (if r16g < (p0.f0.length : Int) then (lt1 (gt z72 p0.f0 r16g : S72) fun y196 => (bnd2 (window_Window_Grow.f y196.f4 p2) fun r19t r19u => (some ((⟨r19t.f0, r19t.f1⟩ : S50), (⟨(p0.f0.set r16g.toNat (⟨y196.f0, y196.f1, y196.f2, y196.f3, r19u⟩ : S72)), p0.f1, p0.f2⟩ : S69))))) else (none)) else (none))))
set_option maxHeartbeats 20000000 in
set_option maxRecDepth 100000 in
theorem turns_Ring_Grow.calls (k : Nat) {b : Nat} {w0 W : World} {R : Frag} {Fs : List Frag} {p0 : S69} {p1 : Int} {p2 : Int}  {v0 : Value} {M0 : Frag} {r0q : S50} {r1q : S69} (hp0 : Ptr k69 69 b w0 R v0 p0 M0) (H : turns_Ring_Grow.f k p0 p1 p2 = some (r0q, r1q)) (hS : St b w0 W R (M0 :: Fs)) :
  Calls Try.prog 19 ([v0, .int .u32 p1, .int .u32 p2] : List Value).toArray W (fun e W' => ∃ (O0q : Frag), e = .returned (.agg #[.int .u8 r0q.f0, .int .u32 r0q.f1]) ∧ Ptr k69 69 b w0 R v0 r1q O0q ∧ St b w0 W' R (O0q :: Fs)) := by
 unfold turns_Ring_Grow.f at H
 refine calls_enter Try.func19 rfl 40 rfl (by kernel_rfl) (fun a h => ?_)
 refine wp_seq ?_
 refine WL.start ?_
 refine WL.oq h rfl ?_
 refine owp_nw (fun g_ => (pt g_)) (.cells ([.int .u8 0, .int .u32 0] : List Value).toArray 50 (0, 0)) h rfl hS (fun a167 W169 g16a h168 hS16b => ?_)
 refine WL.dn ?_
 refine wp_seq ?_
 refine WL.start ?_
 refine WL.bl 2 2 h168 [(9, .int .u32 p1), (8, v0)] (fun a16c h16d => ?_)
 have hS16e := hS16b.b1
 obtain ⟨r16g, A16f, H⟩ := bind1 H
 refine WL.oq h16d rfl ?_
 refine owp_call [v0, .int .u32 p1] h16d rfl (by kernel_rfl) rfl Try.func28 (by kernel_rfl) rfl (by kernel_rfl) (turns_Ring_find.calls k hp0 A16f hS16e) (fun e16i W16h hp16j => ?_)
 obtain ⟨M16m, rfl, hr16n, hS16o⟩ := hp16j
 refine ⟨_, rfl, fun a16k h16l => ?_⟩
 refine WL.bl 1 4 h16l [(7, i6 r16g)] (fun a16p h16q => ?_)
 refine WL.dn ?_
 refine wp_seq ?_
 refine wp_block ?_
 refine wp_seq ?_
 refine WL.start ?_
 refine WL.bl 1 1 h16q [(12, v0)] (fun a16r h16s => ?_)
 obtain ⟨g16u, A16v, c16w, g16z, M16x, M170, rfl, hr16y, hr171, hS16t⟩ := k69qop hr16n hS16o
 refine WL.bl 2 3 h16s [(11, .bool false), (13, .bool false)] (fun a172 h173 => ?_)
 refine WL.dn ?_
 refine wp_else h173 rfl ?_
 refine wp_seq ?_
 refine WL.start ?_
 refine WL.bl 3 3 h173 [(15, .bool (decide (p1 = 0))), (17, .bool (decide (p1 = 0))), (16, .int .u32 p1)] (fun a174 h175 => ?_)
 refine WL.dn ?_
 clear h168 a167 h16d a16c h16l a16k h16q a16p h16s a16r h173 a172
 by_cases c176 : p1 = 0
 ·rw [if_pos c176] at H
  have hb_ : (decide (p1 = 0)) = true := decide_eq_true c176
  try rw [hb_] at h175
  clear hb_
  refine wp_then h175 rfl ?_
  refine wp_seq ?_
  refine WL.start ?_
  refine WL.bl 3 3 h175 [(20, .pointer (some ⟨g16u, 2, none⟩)), (19, pt g16u), (18, pt g16u)] (fun a177 h178 => ?_)
  refine WL.oq h178 rfl ?_
  refine owp_rn (pt g16z) h178 rfl (run_load1 rfl rfl Try.underlying65 rfl (hS16t.cell (i := 2) rfl)) (fun a179 h17a => ?_)
  refine WL.bl 1 5 h17a [(22, .int .u32 p2)] (fun a17b h17c => ?_)
  have hS17d := hS16t.b2
  obtain ⟨r17f, r17g, A17e, H⟩ := bind2 H
  refine WL.oq h17c rfl ?_
  refine owp_call [(pt g16z), .int .u32 p2] h17c rfl (by kernel_rfl) rfl Try.func36 (by kernel_rfl) rfl (by kernel_rfl) (window_Window_Grow.calls hr171 A17e hS17d) (fun e17i W17h hp17j => ?_)
  obtain ⟨M17m, rfl, hr17n, hS17o⟩ := hp17j
  refine ⟨_, rfl, fun a17k h17l => ?_⟩
  have hS17p := hS17o.b3
  refine WL.oq h17l rfl ?_
  refine owp_st 0 [.int .u8 r17f.f0, .int .u32 r17f.f1] h17l rfl rfl rfl hS17p [.int .u8 r17f.f0, .int .u32 r17f.f1] (fun a17q W17s h17r hS17t => ?_)
  refine WL.dn ?_
  refine wp_ret ?_
  have hS17u := hS17t.b1
  have hS17v := hS17u.b3
  have hS17w := hS17v.b3
  obtain ⟨M17x, hp17y, hS17z⟩ := k69qfo (⟨p0.f0, p0.f1, r17g⟩ : S69) hr16y hr17n hS17w
  have hS180 := hS17z.b1
  have hS181 := hS180.drop_
  obtain ⟨rfl, rfl⟩ := ret2 H
  repeat (first | with_reducible refine t1 ?_ | with_reducible refine t2 ?_ | with_reducible refine t3 ?_)
  refine body_ret (v := .agg #[.int .u8 r17f.f0, .int .u32 r17f.f1]) h17r (by kernel_rfl) (res_one rfl ⟨_, rfl, loadVarN Try.underlying50 rfl (cs := [.int .u8 r17f.f0, .int .u32 r17f.f1]) (by kernel_rfl) (hS17t.cells (vs := [.int .u8 r17f.f0, .int .u32 r17f.f1]) rfl)⟩) ?_
  exact ⟨M17x, rfl, hp17y, hS181⟩
 ·rw [if_neg c176] at H
  have hb_ : (decide (p1 = 0)) = false := decide_eq_false c176
  try rw [hb_] at h175
  clear hb_
  refine wp_else h175 rfl ?_
  refine wp_seq ?_
  refine WL.start ?_
  refine WL.bl 3 3 h175 [(24, .bool (decide (r16g < 0))), (26, .bool (decide (r16g < 0))), (25, i6 r16g)] (fun a182 h183 => ?_)
  refine WL.dn ?_
  clear h175 a174
  by_cases c184 : r16g < 0
  ·rw [if_pos c184] at H
   have hb_ : (decide (r16g < 0)) = true := decide_eq_true c184
   try rw [hb_] at h183
   clear hb_
   refine wp_then h183 rfl ?_
   refine wp_seq ?_
   refine WL.start ?_
   refine WL.bl 1 1 h183 [(27, .agg #[.int .u8 0, .int .u32 0])] (fun a185 h186 => ?_)
   have hS187 := hS16t.b3
   refine WL.oq h186 rfl ?_
   refine owp_st 0 [.int .u8 0, .int .u32 0] h186 rfl rfl rfl hS187 [.int .u8 0, .int .u32 0] (fun a188 W18a h189 hS18b => ?_)
   refine WL.dn ?_
   refine wp_ret ?_
   have hS18c := hS18b.b3
   have hS18d := hS18c.b3
   have hS18e := hS18d.b3
   obtain ⟨M18f, hp18g, hS18h⟩ := k69qfo p0 hr16y hr171 hS18e
   have hS18i := hS18h.b1
   have hS18j := hS18i.drop_
   obtain ⟨rfl, rfl⟩ := ret2 H
   repeat (first | with_reducible refine t1 ?_ | with_reducible refine t2 ?_ | with_reducible refine t3 ?_)
   refine body_ret (v := .agg #[.int .u8 0, .int .u32 0]) h189 (by kernel_rfl) (res_one rfl ⟨_, rfl, loadVarN Try.underlying50 rfl (cs := [.int .u8 0, .int .u32 0]) (by kernel_rfl) (hS18b.cells (vs := [.int .u8 0, .int .u32 0]) rfl)⟩) ?_
   exact ⟨M18f, rfl, hp18g, hS18j⟩
  ·rw [if_neg c184] at H
   have hb_ : (decide (r16g < 0)) = false := decide_eq_false c184
   try rw [hb_] at h183
   clear hb_
   refine wp_else h183 rfl ?_
   refine wp_skip ?_
   refine wp_seq ?_
   refine WL.start ?_
   refine WL.bl 3 3 h183 [(30, pt g16u), (29, pt g16u), (28, pt g16u)] (fun a18k h18l => ?_)
   refine WL.oq h18l rfl ?_
   refine owp_rn (.slice A16v p0.f0.length c16w) h18l rfl (run_load1 rfl rfl Try.underlying67 rfl (hS16t.cell (i := 0) rfl)) (fun a18m h18n => ?_)
   refine WL.bl 1 5 h18n [(32, i6 r16g)] (fun a18o h18p => ?_)
   clear h183 a182 h18l a18k h18n a18m
   by_cases c18q : 0 ≤ r16g
   ·rw [if_pos c18q] at H
    by_cases c18r : r16g < (p0.f0.length : Int)
    ·rw [if_pos c18r] at H
     have hi18u : 0 ≤ r16g := by first | assumption | omega
     have hi18v : r16g < (p0.f0.length : Int) := by first | assumption | omega
     obtain ⟨ad18s, _, ha18t, -, -⟩ := Rds.elemAny hr16y.rds hi18u (gt_get (z := z72) hi18u hi18v)
     refine WL.oq h18p rfl ?_
     refine owp_rn (.pointer (some (ad18s.add (r16g.toNat * 1)))) h18p rfl (run_idx (ad := ad18s) (sz := 1) rfl (by rw [← ha18t]; rfl) rfl Try.underlying67 (by kernel_rfl) hi18u hi18v) (fun a18w h18x => ?_)
     have hS18y := hS16t.b1
     obtain ⟨g18z, M190, M191, hp192, hh193, hm194, hc195⟩ := Row.openp (dk := k72) z72 hr16y ha18t hi18u hi18v
     obtain ⟨y196, hy197, H⟩ := lete H
     have hr198 : Ptr k72 72 b w0 R (pt g18z) y196 M191 := by rw [hy197]; exact hp192
     have hS19a : St b w0 W16h R (M191 :: M190 :: (bx g16u 69 [.slice A16v p0.f0.length c16w, i6 p0.f1, pt g16z]) :: M170 :: (bx g16a 50 [.int .u8 0, .int .u32 0]) :: Fs) := hm194 _ _ hS18y
     clear hm194 hp192 hr16y
     refine WL.oq h18x rfl ?_
     refine owp_rn (pt g18z) h18x rfl (run_load1 rfl rfl Try.underlying70 rfl (hc195 _ _ hS19a.b1)) (fun a19b h19c => ?_)
     obtain ⟨A19e, c19f, g19i, M19g, M19j, hr19h, hr19k, hS19d⟩ := k72qoq hr198 hS19a
     refine WL.bl 2 9 h19c [(36, .pointer (some ⟨g18z, 4, none⟩)), (35, pt g18z)] (fun a19l h19m => ?_)
     refine WL.oq h19m rfl ?_
     refine owp_rn (pt g19i) h19m rfl (run_load1 rfl rfl Try.underlying65 rfl (hS19d.cell (i := 4) rfl)) (fun a19n h19o => ?_)
     refine WL.bl 1 11 h19o [(38, .int .u32 p2)] (fun a19p h19q => ?_)
     have hS19r := hS19d.b2
     obtain ⟨r19t, r19u, A19s, H⟩ := bind2 H
     refine WL.oq h19q rfl ?_
     refine owp_call [(pt g19i), .int .u32 p2] h19q rfl (by kernel_rfl) rfl Try.func36 (by kernel_rfl) rfl (by kernel_rfl) (window_Window_Grow.calls hr19k A19s hS19r) (fun e19w W19v hp19x => ?_)
     obtain ⟨M1a0, rfl, hr1a1, hS1a2⟩ := hp19x
     refine ⟨_, rfl, fun a19y h19z => ?_⟩
     have hS1a3 := hS1a2.b6
     refine WL.oq h19z rfl ?_
     refine owp_st 0 [.int .u8 r19t.f0, .int .u32 r19t.f1] h19z rfl rfl rfl hS1a3 [.int .u8 r19t.f0, .int .u32 r19t.f1] (fun a1a4 W1a6 h1a5 hS1a7 => ?_)
     refine WL.dn ?_
     refine wp_ret ?_
     have hS1a8 := hS1a7.b1
     have hS1a9 := hS1a8.b3
     have hS1aa := hS1a9.b3
     obtain ⟨M1ab, hp1ac, hS1ad⟩ := k72qfo (⟨y196.f0, y196.f1, y196.f2, y196.f3, r19u⟩ : S72) hr19h hr1a1 hS1aa
     have hS1ae := hS1ad.b2
     have hS1af := hS1ae.b1
     obtain ⟨M1ag, hr1ah, hm1ai⟩ := hh193 _ _ hp1ac
     have hS1ak : St b w0 W1a6 R (M1ag :: (bx g16a 50 [.int .u8 r19t.f0, .int .u32 r19t.f1]) :: (bx g16u 69 [.slice A16v p0.f0.length c16w, i6 p0.f1, pt g16z]) :: M170 :: Fs) := hm1ai _ _ hS1af
     have hl1al : (p0.f0.set r16g.toNat (⟨y196.f0, y196.f1, y196.f2, y196.f3, r19u⟩ : S72)).length = p0.f0.length := by simp
     have hr1am : Row (kPtr k72 72) 70 b w0 R (.slice A16v (p0.f0.set r16g.toNat (⟨y196.f0, y196.f1, y196.f2, y196.f3, r19u⟩ : S72)).length c16w) (p0.f0.set r16g.toNat (⟨y196.f0, y196.f1, y196.f2, y196.f3, r19u⟩ : S72)) M1ag := by rw [hl1al]; exact hr1ah
     have h1an : Hd a1a4 40 [(0, pt g16u), (1, .int .u32 p1), (2, .int .u32 p2), (6, pt g16a), (7, i6 r16g), (8, pt g16u), (9, .int .u32 p1), (10, i6 r16g), (11, .bool false), (12, pt g16u), (13, .bool false), (15, .bool false), (16, .int .u32 p1), (17, .bool false), (24, .bool false), (25, i6 r16g), (26, .bool false), (28, pt g16u), (29, pt g16u), (30, pt g16u), (31, .slice A16v (p0.f0.set r16g.toNat (⟨y196.f0, y196.f1, y196.f2, y196.f3, r19u⟩ : S72)).length c16w), (32, i6 r16g), (33, .pointer (some (ad18s.add (r16g.toNat * 1)))), (34, pt g18z), (35, pt g18z), (36, .pointer (some ⟨g18z, 4, none⟩)), (37, pt g19i), (38, .int .u32 p2), (39, .agg #[.int .u8 r19t.f0, .int .u32 r19t.f1])] := h1a5.keep ⟨rfl, rfl, rfl, rfl, rfl, rfl, rfl, rfl, rfl, rfl, rfl, rfl, rfl, rfl, rfl, rfl, rfl, rfl, rfl, rfl, (by rw [hl1al] <;> rfl), rfl, rfl, rfl, rfl, rfl, rfl, rfl, rfl, trivial⟩
     clear h1a5
     have hS1ao : St b w0 W1a6 R (M1ag :: (bx g16a 50 [.int .u8 r19t.f0, .int .u32 r19t.f1]) :: (bx g16u 69 [.slice A16v (p0.f0.set r16g.toNat (⟨y196.f0, y196.f1, y196.f2, y196.f3, r19u⟩ : S72)).length c16w, i6 p0.f1, pt g16z]) :: M170 :: Fs) := by simpa only [hl1al] using hS1ak
     have hS1ap := hS1ao.b3
     have hS1aq := hS1ap.b1
     have hS1ar := hS1aq.b3
     obtain ⟨M1as, hp1at, hS1au⟩ := k69qfo (⟨(p0.f0.set r16g.toNat (⟨y196.f0, y196.f1, y196.f2, y196.f3, r19u⟩ : S72)), p0.f1, p0.f2⟩ : S69) hr1am hr171 hS1ar
     have hS1av := hS1au.b1
     have hS1aw := hS1av.drop_
     obtain ⟨rfl, rfl⟩ := ret2 H
     repeat (first | with_reducible refine t1 ?_ | with_reducible refine t2 ?_ | with_reducible refine t3 ?_)
     refine body_ret (v := .agg #[.int .u8 r19t.f0, .int .u32 r19t.f1]) h1an (by kernel_rfl) (res_one rfl ⟨_, rfl, loadVarN Try.underlying50 rfl (cs := [.int .u8 r19t.f0, .int .u32 r19t.f1]) (by kernel_rfl) (hS1a7.cells (vs := [.int .u8 r19t.f0, .int .u32 r19t.f1]) rfl)⟩) ?_
     exact ⟨M1as, rfl, hp1at, hS1aw⟩
    ·rw [if_neg c18r] at H
     cases H
   ·rw [if_neg c18q] at H
    cases H

/-! ### (*louver/turns.Ring).Grow -/
def turns_Ring_Grow_nil.f (k : Nat) (p1 : Int) (p2 : Int) : Option (S50) := bnd1 (turns_Ring_find_nil.f p1) fun r10y => (some (⟨1, 2⟩ : S50))
set_option maxHeartbeats 20000000 in
set_option maxRecDepth 100000 in
theorem turns_Ring_Grow_nil.calls (k : Nat) {b : Nat} {w0 W : World} {R : Frag} {Fs : List Frag} {p1 : Int} {p2 : Int}  {r0q : S50}  (H : turns_Ring_Grow_nil.f k p1 p2 = some r0q) (hS : St b w0 W R (Fs)) :
  Calls Try.prog 19 ([.pointer none, .int .u32 p1, .int .u32 p2] : List Value).toArray W (fun e W' => e = .returned (.agg #[.int .u8 r0q.f0, .int .u32 r0q.f1]) ∧ St b w0 W' R (Fs)) := by
 unfold turns_Ring_Grow_nil.f at H
 refine calls_enter Try.func19 rfl 40 rfl (by kernel_rfl) (fun a h => ?_)
 refine wp_seq ?_
 refine WL.start ?_
 refine WL.oq h rfl ?_
 refine owp_nw (fun g_ => (pt g_)) (.cells ([.int .u8 0, .int .u32 0] : List Value).toArray 50 (0, 0)) h rfl hS (fun a10q W10s g10t h10r hS10u => ?_)
 refine WL.dn ?_
 refine wp_seq ?_
 refine WL.start ?_
 refine WL.bl 2 2 h10r [(9, .int .u32 p1), (8, .pointer none)] (fun a10v h10w => ?_)
 obtain ⟨r10y, A10x, H⟩ := bind1 H
 refine WL.oq h10w rfl ?_
 refine owp_call [.pointer none, .int .u32 p1] h10w rfl (by kernel_rfl) rfl Try.func28 (by kernel_rfl) rfl (by kernel_rfl) (turns_Ring_find_nil.calls  A10x hS10u) (fun e110 W10z hp111 => ?_)
 obtain ⟨rfl, hS114⟩ := hp111
 refine ⟨_, rfl, fun a112 h113 => ?_⟩
 refine WL.bl 1 4 h113 [(7, i6 r10y)] (fun a115 h116 => ?_)
 refine WL.dn ?_
 refine wp_seq ?_
 refine wp_block ?_
 refine wp_seq ?_
 refine WL.start ?_
 refine WL.bl 3 3 h116 [(11, .bool true), (13, .bool true), (12, .pointer none)] (fun a117 h118 => ?_)
 refine WL.dn ?_
 refine wp_then h118 rfl ?_
 refine wp_seq ?_
 refine WL.start ?_
 refine WL.bl 1 1 h118 [(14, .agg #[.int .u8 1, .int .u32 2])] (fun a119 h11a => ?_)
 refine WL.oq h11a rfl ?_
 refine owp_st 0 [.int .u8 1, .int .u32 2] h11a rfl rfl rfl hS114 [.int .u8 1, .int .u32 2] (fun a11b W11d h11c hS11e => ?_)
 refine WL.dn ?_
 refine wp_ret ?_
 have hS11f := hS11e.drop_
 obtain rfl := Option.some.inj H
 repeat (first | with_reducible refine t1 ?_ | with_reducible refine t2 ?_ | with_reducible refine t3 ?_)
 refine body_ret (v := .agg #[.int .u8 1, .int .u32 2]) h11c (by kernel_rfl) (res_one rfl ⟨_, rfl, loadVarN Try.underlying50 rfl (cs := [.int .u8 1, .int .u32 2]) (by kernel_rfl) (hS11e.cells (vs := [.int .u8 1, .int .u32 2]) rfl)⟩) ?_
 exact ⟨rfl, hS11f⟩

/-! ### (*louver/window.Window).Shift -/
def window_Window_Shift.f (p0 : S94) (p1 : Int) (p2 : Int) : Option (S50 × S94) := bnd2 (window_Window_to.f p0 (IntKind.i64.wrap ((IntKind.i64.wrap (p0.f0 + (IntKind.i64.wrap p2))) - (IntKind.i64.wrap p1)))) fun r12w r12x => (if r12w = true then (some ((⟨0, 0⟩ : S50), r12x)) else (some ((⟨1, 3⟩ : S50), r12x)))
set_option maxHeartbeats 20000000 in
set_option maxRecDepth 100000 in
theorem window_Window_Shift.calls {b : Nat} {w0 W : World} {R : Frag} {Fs : List Frag} {p0 : S94} {p1 : Int} {p2 : Int}  {v0 : Value} {M0 : Frag} {r0q : S50} {r1q : S94} (hp0 : Ptr k94 94 b w0 R v0 p0 M0) (H : window_Window_Shift.f p0 p1 p2 = some (r0q, r1q)) (hS : St b w0 W R (M0 :: Fs)) :
  Calls Try.prog 45 ([v0, .int .u32 p1, .int .u32 p2] : List Value).toArray W (fun e W' => ∃ (O0q : Frag), e = .returned (.agg #[.int .u8 r0q.f0, .int .u32 r0q.f1]) ∧ Ptr k94 94 b w0 R v0 r1q O0q ∧ St b w0 W' R (O0q :: Fs)) := by
 unfold window_Window_Shift.f at H
 refine calls_enter Try.func45 rfl 27 rfl (by kernel_rfl) (fun a h => ?_)
 refine wp_seq ?_
 refine WL.start ?_
 refine WL.oq h rfl ?_
 refine owp_nw (fun g_ => (pt g_)) (.cells ([.int .u8 0, .int .u32 0] : List Value).toArray 50 (0, 0)) h rfl hS (fun a12a W12c g12d h12b hS12e => ?_)
 refine WL.dn ?_
 refine wp_seq ?_
 refine wp_block ?_
 refine wp_seq ?_
 refine WL.start ?_
 refine WL.bl 1 1 h12b [(8, v0)] (fun a12f h12g => ?_)
 have hS12h := hS12e.b1
 obtain ⟨g12j, rfl, hS12i⟩ := k94qop hp0 hS12h
 refine WL.bl 2 3 h12g [(7, .bool false), (9, .bool false)] (fun a12k h12l => ?_)
 refine WL.dn ?_
 refine wp_else h12l rfl ?_
 refine wp_seq ?_
 refine WL.start ?_
 refine WL.bl 4 4 h12l [(15, pt g12j), (14, pt g12j), (13, pt g12j), (12, pt g12j)] (fun a12m h12n => ?_)
 refine WL.oq h12n rfl ?_
 refine owp_rn (i6 p0.f0) h12n rfl (run_load1 rfl rfl Try.underlying2 rfl (hS12i.cell (i := 0) rfl)) (fun a12o h12p => ?_)
 refine WL.bl 6 11 h12p [(22, i6 (IntKind.i64.wrap ((IntKind.i64.wrap (p0.f0 + (IntKind.i64.wrap p2))) - (IntKind.i64.wrap p1)))), (21, i6 (IntKind.i64.wrap p1)), (20, .int .u32 p1), (19, i6 (IntKind.i64.wrap (p0.f0 + (IntKind.i64.wrap p2)))), (18, i6 (IntKind.i64.wrap p2)), (17, .int .u32 p2)] (fun a12q h12r => ?_)
 obtain ⟨M12s, hp12t, hS12u⟩ := k94qfo p0 hS12i
 obtain ⟨r12w, r12x, A12v, H⟩ := bind2 H
 refine WL.oq h12r rfl ?_
 refine owp_call [(pt g12j), i6 (IntKind.i64.wrap ((IntKind.i64.wrap (p0.f0 + (IntKind.i64.wrap p2))) - (IntKind.i64.wrap p1)))] h12r rfl (by kernel_rfl) rfl Try.func49 (by kernel_rfl) rfl (by kernel_rfl) (window_Window_to.calls hp12t A12v hS12u) (fun e12z W12y hp130 => ?_)
 obtain ⟨M133, rfl, hr134, hS135⟩ := hp130
 refine ⟨_, rfl, fun a131 h132 => ?_⟩
 refine WL.bl 2 14 h132 [(11, .bool (!r12w)), (24, .bool (!r12w))] (fun a136 h137 => ?_)
 refine WL.dn ?_
 clear h12b a12a h12g a12f h12l a12k h12n a12m h12p a12o h12r a12q h132 a131
 by_cases c138 : r12w = true
 ·rw [if_pos c138] at H
  have hb_ : r12w = true := c138
  try rw [hb_] at h137
  clear hb_
  refine wp_else h137 rfl ?_
  refine wp_skip ?_
  refine wp_seq ?_
  refine WL.start ?_
  refine WL.bl 1 1 h137 [(26, .agg #[.int .u8 0, .int .u32 0])] (fun a139 h13a => ?_)
  have hS13b := hS135.b1
  refine WL.oq h13a rfl ?_
  refine owp_st 0 [.int .u8 0, .int .u32 0] h13a rfl rfl rfl hS13b [.int .u8 0, .int .u32 0] (fun a13c W13e h13d hS13f => ?_)
  refine WL.dn ?_
  refine wp_ret ?_
  have hS13g := hS13f.drop_
  obtain ⟨rfl, rfl⟩ := ret2 H
  repeat (first | with_reducible refine t1 ?_ | with_reducible refine t2 ?_ | with_reducible refine t3 ?_)
  refine body_ret (v := .agg #[.int .u8 0, .int .u32 0]) h13d (by kernel_rfl) (res_one rfl ⟨_, rfl, loadVarN Try.underlying50 rfl (cs := [.int .u8 0, .int .u32 0]) (by kernel_rfl) (hS13f.cells (vs := [.int .u8 0, .int .u32 0]) rfl)⟩) ?_
  exact ⟨M133, rfl, hr134, hS13g⟩
 ·rw [if_neg c138] at H
  have hb_ : r12w = false := (Bool.eq_false_iff.2 c138)
  try rw [hb_] at h137
  clear hb_
  refine wp_then h137 rfl ?_
  refine wp_seq ?_
  refine WL.start ?_
  refine WL.bl 1 1 h137 [(25, .agg #[.int .u8 1, .int .u32 3])] (fun a13h h13i => ?_)
  have hS13j := hS135.b1
  refine WL.oq h13i rfl ?_
  refine owp_st 0 [.int .u8 1, .int .u32 3] h13i rfl rfl rfl hS13j [.int .u8 1, .int .u32 3] (fun a13k W13m h13l hS13n => ?_)
  refine WL.dn ?_
  refine wp_ret ?_
  have hS13o := hS13n.drop_
  obtain ⟨rfl, rfl⟩ := ret2 H
  repeat (first | with_reducible refine t1 ?_ | with_reducible refine t2 ?_ | with_reducible refine t3 ?_)
  refine body_ret (v := .agg #[.int .u8 1, .int .u32 3]) h13l (by kernel_rfl) (res_one rfl ⟨_, rfl, loadVarN Try.underlying50 rfl (cs := [.int .u8 1, .int .u32 3]) (by kernel_rfl) (hS13n.cells (vs := [.int .u8 1, .int .u32 3]) rfl)⟩) ?_
  exact ⟨M133, rfl, hr134, hS13o⟩

/-! ### (*louver/turns.Ring).Shift -/
def turns_Ring_Shift.l0 : Nat → Int → Int → (List S72) → Int → S69 → Int → Int → Option (S50 × S69)
 | 0, _, _, _, _, _, _, _ => none
 | k + 1, x1dg, x1dh, x1di, x1dn, p0, p1, p2 => if x1dn < (p0.f0.length : Int) then (if 0 ≤ x1dn then (if x1dn < (x1di.length : Int) then (lt1 (gt z72 x1di x1dn : S72) fun y1ee => (bnd2 (window_Window_Shift.f y1ee.f4 p1 p2) fun r1f5 r1f6 => (if (decide (r1f5.f0 = 0) && decide (r1f5.f1 = 0)) = true then (turns_Ring_Shift.l0 k x1dg x1dh (x1di.set x1dn.toNat (⟨y1ee.f0, y1ee.f1, y1ee.f2, y1ee.f3, r1f6⟩ : S72)) (IntKind.i64.wrap (x1dn + 1)) p0 p1 p2) else (some ((⟨r1f5.f0, r1f5.f1⟩ : S50), (⟨(x1di.set x1dn.toNat (⟨y1ee.f0, y1ee.f1, y1ee.f2, y1ee.f3, r1f6⟩ : S72)), p0.f1, p0.f2⟩ : S69)))))) else (none)) else (none)) else (some ((⟨0, 0⟩ : S50), (⟨x1di, p0.f1, p0.f2⟩ : S69)))
def turns_Ring_Shift.f (k : Nat) (p0 : S69) (p1 : Int) (p2 : Int) : Option (S50 × S69) := turns_Ring_Shift.l0 k 0 0 p0.f0 0 p0 p1 p2
set_option maxHeartbeats 20000000 in
set_option maxRecDepth 100000 in
theorem turns_Ring_Shift.calls (k : Nat) {b : Nat} {w0 W : World} {R : Frag} {Fs : List Frag} {p0 : S69} {p1 : Int} {p2 : Int}  {v0 : Value} {M0 : Frag} {r0q : S50} {r1q : S69} (hp0 : Ptr k69 69 b w0 R v0 p0 M0) (H : turns_Ring_Shift.f k p0 p1 p2 = some (r0q, r1q)) (hS : St b w0 W R (M0 :: Fs)) :
  Calls Try.prog 26 ([v0, .int .u32 p1, .int .u32 p2] : List Value).toArray W (fun e W' => ∃ (O0q : Frag), e = .returned (.agg #[.int .u8 r0q.f0, .int .u32 r0q.f1]) ∧ Ptr k69 69 b w0 R v0 r1q O0q ∧ St b w0 W' R (O0q :: Fs)) := by
 unfold turns_Ring_Shift.f at H
 refine calls_enter Try.func26 rfl 35 rfl (by kernel_rfl) (fun a h => ?_)
 refine wp_seq ?_
 refine WL.start ?_
 refine WL.oq h rfl ?_
 refine owp_nw (fun g_ => (pt g_)) (.cells ([.int .u8 0, .int .u32 0] : List Value).toArray 50 (0, 0)) h rfl hS (fun a1cm W1co g1cp h1cn hS1cq => ?_)
 refine WL.dn ?_
 refine wp_seq ?_
 refine wp_seq ?_
 refine WL.start ?_
 refine WL.bl 1 1 h1cn [(10, v0)] (fun a1cr h1cs => ?_)
 have hS1ct := hS1cq.b1
 obtain ⟨g1cv, A1cw, c1cx, g1d0, M1cy, M1d1, rfl, hr1cz, hr1d2, hS1cu⟩ := k69qop hp0 hS1ct
 refine WL.bl 1 2 h1cs [(11, .bool false)] (fun a1d3 h1d4 => ?_)
 refine WL.dn ?_
 refine wp_else h1d4 rfl ?_
 refine wp_skip ?_
 refine wp_seq ?_
 refine wp_seq ?_
 refine WL.start ?_
 refine WL.bl 3 3 h1d4 [(15, pt g1cv), (14, pt g1cv), (13, pt g1cv)] (fun a1d5 h1d6 => ?_)
 refine WL.oq h1d6 rfl ?_
 refine owp_rn (.slice A1cw p0.f0.length c1cx) h1d6 rfl (run_load1 rfl rfl Try.underlying67 rfl (hS1cu.cell (i := 0) rfl)) (fun a1d7 h1d8 => ?_)
 refine WL.bl 2 6 h1d8 [(18, i6 0), (17, i6 (p0.f0.length : Int))] (fun a1d9 h1da => ?_)
 refine WL.dn ?_
 refine wp_block ?_
 have hS1dq := hS1cu.b2
 have hS1dr := hS1dq.b1
 have hS1ds := hS1dr.b2
 have hS1dt := hS1ds.b3
 clear h1cn a1cm h1cs a1cr h1d4 a1d3 h1d6 a1d5 h1d8 a1d7
 refine wp_loop_ghost (fun kq_ a_ W_ => ∃ (x1dg : Int), ∃ (x1dh : Int), ∃ (x1di : (List S72)), ∃ (A1dj : Option Addr), ∃ (c1dk : Nat), ∃ (M1dl : Frag), ∃ (x1dn : Int), ∃ (M1do : Frag), Hd a_ 35 [(1, .int .u32 p1), (2, .int .u32 p2), (6, pt g1cp), (16, .slice A1dj x1di.length c1dk), (17, i6 (p0.f0.length : Int)), (18, i6 x1dn)] ∧ Asd (turns_Ring_Shift.l0 kq_ x1dg x1dh x1di x1dn p0 p1 p2 = some (r0q, r1q)) ∧ Asd (kq_ ≤ k) ∧ Asd (St b w0 W_ R ((bx g1cp 50 [.int .u8 x1dg, .int .u32 x1dh]) :: M1dl :: (bx g1cv 69 [.slice A1dj x1di.length c1dk, i6 p0.f1, pt g1d0]) :: M1do :: Fs)) ∧ Asd (Row (kPtr k72 72) 70 b w0 R (.slice A1dj x1di.length c1dk) x1di M1dl) ∧ Asd (Ptr k94 94 b w0 R (pt g1d0) p0.f2 M1do)) k ⟨0, 0, p0.f0, A1cw, c1cx, M1cy, 0, M1d1, h1da.keep ⟨rfl, rfl, rfl, rfl, rfl, rfl, trivial⟩, ⟨H⟩, ⟨Nat.le_refl _⟩, ⟨hS1dt⟩, ⟨hr1cz⟩, ⟨hr1d2⟩⟩ ?_
 clear H hS1dt
 rintro kk1df a1dc W1dd ⟨x1dg, x1dh, x1di, A1dj, c1dk, M1dl, x1dn, M1do, h1db, ⟨H⟩, ⟨hkkk1df⟩, ⟨hS1de⟩, ⟨hr1dm⟩, ⟨hr1dp⟩⟩
 obtain _ | kk1du := kk1df
 ·exact absurd H (by simp [turns_Ring_Shift.l0])
 simp only [turns_Ring_Shift.l0] at H
 refine wp_seq ?_
 refine WL.start ?_
 refine WL.bl 1 1 h1db [(19, .bool (decide (x1dn < (p0.f0.length : Int))))] (fun a1dv h1dw => ?_)
 refine WL.dn ?_
 refine wp_seq ?_
 clear h1db a1dc
 by_cases c1dx : x1dn < (p0.f0.length : Int)
 ·rw [if_pos c1dx] at H
  have hb_ : (decide (x1dn < (p0.f0.length : Int))) = true := decide_eq_true c1dx
  try rw [hb_] at h1dw
  clear hb_
  refine wp_then h1dw rfl ?_
  refine wp_skip ?_
  refine wp_seq ?_
  refine wp_block ?_
  refine wp_seq ?_
  refine WL.start ?_
  by_cases c1dy : 0 ≤ x1dn
  ·rw [if_pos c1dy] at H
   by_cases c1dz : x1dn < (x1di.length : Int)
   ·rw [if_pos c1dz] at H
    have hi1e2 : 0 ≤ x1dn := by first | assumption | omega
    have hi1e3 : x1dn < (x1di.length : Int) := by first | assumption | omega
    obtain ⟨ad1e0, _, ha1e1, -, -⟩ := Rds.elemAny hr1dm.rds hi1e2 (gt_get (z := z72) hi1e2 hi1e3)
    refine WL.oq h1dw rfl ?_
    refine owp_rn (.pointer (some (ad1e0.add (x1dn.toNat * 1)))) h1dw rfl (run_idx (ad := ad1e0) (sz := 1) rfl (by rw [← ha1e1]; rfl) rfl Try.underlying67 (by kernel_rfl) hi1e2 hi1e3) (fun a1e4 h1e5 => ?_)
    have hS1e6 := hS1de.b1
    obtain ⟨g1e7, M1e8, M1e9, hp1ea, hh1eb, hm1ec, hc1ed⟩ := Row.openp (dk := k72) z72 hr1dm ha1e1 hi1e2 hi1e3
    obtain ⟨y1ee, hy1ef, H⟩ := lete H
    have hr1eg : Ptr k72 72 b w0 R (pt g1e7) y1ee M1e9 := by rw [hy1ef]; exact hp1ea
    have hS1ei : St b w0 W1dd R (M1e9 :: M1e8 :: (bx g1cp 50 [.int .u8 x1dg, .int .u32 x1dh]) :: (bx g1cv 69 [.slice A1dj x1di.length c1dk, i6 p0.f1, pt g1d0]) :: M1do :: Fs) := hm1ec _ _ hS1e6
    clear hm1ec hp1ea hr1dm
    refine WL.oq h1e5 rfl ?_
    refine owp_rn (pt g1e7) h1e5 rfl (run_load1 rfl rfl Try.underlying70 rfl (hc1ed _ _ hS1ei.b1)) (fun a1ej h1ek => ?_)
    refine WL.bl 1 3 h1ek [(8, pt g1e7)] (fun a1el h1em => ?_)
    refine WL.dn ?_
    refine wp_seq ?_
    refine WL.start ?_
    refine WL.bl 1 1 h1em [(22, pt g1e7)] (fun a1en h1eo => ?_)
    obtain ⟨A1eq, c1er, g1eu, M1es, M1ev, hr1et, hr1ew, hS1ep⟩ := k72qoq hr1eg hS1ei
    refine WL.bl 2 3 h1eo [(24, .pointer (some ⟨g1e7, 4, none⟩)), (23, pt g1e7)] (fun a1ex h1ey => ?_)
    refine WL.oq h1ey rfl ?_
    refine owp_rn (pt g1eu) h1ey rfl (run_load1 rfl rfl Try.underlying65 rfl (hS1ep.cell (i := 4) rfl)) (fun a1ez h1f0 => ?_)
    refine WL.bl 2 6 h1f0 [(27, .int .u32 p2), (26, .int .u32 p1)] (fun a1f1 h1f2 => ?_)
    have hS1f3 := hS1ep.b2
    obtain ⟨r1f5, r1f6, A1f4, H⟩ := bind2 H
    refine WL.oq h1f2 rfl ?_
    refine owp_call [(pt g1eu), .int .u32 p1, .int .u32 p2] h1f2 rfl (by kernel_rfl) rfl Try.func45 (by kernel_rfl) rfl (by kernel_rfl) (window_Window_Shift.calls hr1ew A1f4 hS1f3) (fun e1f8 W1f7 hp1f9 => ?_)
    obtain ⟨M1fc, rfl, hr1fd, hS1fe⟩ := hp1f9
    refine ⟨_, rfl, fun a1fa h1fb => ?_⟩
    refine WL.oq h1fb rfl ?_
    refine owp_nw (fun g_ => (pt g_)) (.cells ([.int .u8 0, .int .u32 0] : List Value).toArray 50 (0, 0)) h1fb rfl hS1fe (fun a1ff W1fh g1fi h1fg hS1fj => ?_)
    refine WL.oq h1fg rfl ?_
    refine owp_st 0 [.int .u8 r1f5.f0, .int .u32 r1f5.f1] h1fg rfl rfl rfl hS1fj [.int .u8 r1f5.f0, .int .u32 r1f5.f1] (fun a1fk W1fm h1fl hS1fn => ?_)
    refine WL.dn ?_
    refine wp_seq ?_
    refine WL.start ?_
    refine WL.oq h1fl rfl ?_
    refine owp_rn (.agg #[.int .u8 r1f5.f0, .int .u32 r1f5.f1]) h1fl rfl (run_loadN rfl rfl Try.underlying50 rfl (cs := [.int .u8 r1f5.f0, .int .u32 r1f5.f1]) (by kernel_rfl) (hS1fn.cells (vs := [.int .u8 r1f5.f0, .int .u32 r1f5.f1]) rfl)) (fun a1fo h1fp => ?_)
    refine WL.bl 1 2 h1fp [(30, .agg #[.int .u8 0, .int .u32 0])] (fun a1fq h1fr => ?_)
    clear h1dw a1dv h1e5 a1e4 h1ek a1ej h1em a1el h1eo a1en h1ey a1ex h1f0 a1ez h1f2 a1f1 h1fb a1fa h1fg a1ff h1fl a1fk h1fp a1fo
    refine WL.oq h1fr rfl ?_
    refine owp_rn (.bool (!(decide (r1f5.f0 = 0) && decide (r1f5.f1 = 0)))) h1fr rfl (run_stne (xs := [.int .u8 r1f5.f0, .int .u32 r1f5.f1]) (ys := [.int .u8 0, .int .u32 0]) rfl rfl rfl (by kernel_rfl) (eqs_of Try.underlying50 (by kernel_rfl) (eqf_cons rfl (by kernel_rfl) rfl rfl (eqi_int Try.underlying5) (eqf_last rfl (by kernel_rfl) rfl rfl (eqi_int Try.underlying25))))) (fun a1fs h1ft => ?_)
    refine WL.dn ?_
    clear h1fr a1fq
    by_cases c1fu : (decide (r1f5.f0 = 0) && decide (r1f5.f1 = 0)) = true
    ·rw [if_pos c1fu] at H
     have hb_ : (decide (r1f5.f0 = 0) && decide (r1f5.f1 = 0)) = true := c1fu
     try rw [hb_] at h1ft
     clear hb_
     refine wp_else h1ft rfl ?_
     refine wp_skip ?_
     refine WL.start ?_
     refine WL.bl 2 2 h1ft [(18, i6 (IntKind.i64.wrap (x1dn + 1))), (33, i6 (IntKind.i64.wrap (x1dn + 1)))] (fun a1fv h1fw => ?_)
     refine WL.dn ?_
     have hS1fx := hS1fn.b1
     have hS1fy := hS1fx.b3
     have hS1fz := hS1fy.b3
     obtain ⟨M1g0, hp1g1, hS1g2⟩ := k72qfo (⟨y1ee.f0, y1ee.f1, y1ee.f2, y1ee.f3, r1f6⟩ : S72) hr1et hr1fd hS1fz
     have hS1g3 := hS1g2.b2
     have hS1g4 := hS1g3.b1
     obtain ⟨M1g5, hr1g6, hm1g7⟩ := hh1eb _ _ hp1g1
     have hS1g9 : St b w0 W1fm R (M1g5 :: (bx g1fi 50 [.int .u8 r1f5.f0, .int .u32 r1f5.f1]) :: (bx g1cp 50 [.int .u8 x1dg, .int .u32 x1dh]) :: (bx g1cv 69 [.slice A1dj x1di.length c1dk, i6 p0.f1, pt g1d0]) :: M1do :: Fs) := hm1g7 _ _ hS1g4
     have hl1ga : (x1di.set x1dn.toNat (⟨y1ee.f0, y1ee.f1, y1ee.f2, y1ee.f3, r1f6⟩ : S72)).length = x1di.length := by simp
     have hr1gb : Row (kPtr k72 72) 70 b w0 R (.slice A1dj (x1di.set x1dn.toNat (⟨y1ee.f0, y1ee.f1, y1ee.f2, y1ee.f3, r1f6⟩ : S72)).length c1dk) (x1di.set x1dn.toNat (⟨y1ee.f0, y1ee.f1, y1ee.f2, y1ee.f3, r1f6⟩ : S72)) M1g5 := by rw [hl1ga]; exact hr1g6
     have h1gc : Hd a1fv 35 [(1, .int .u32 p1), (2, .int .u32 p2), (6, pt g1cp), (8, pt g1e7), (9, pt g1fi), (16, .slice A1dj (x1di.set x1dn.toNat (⟨y1ee.f0, y1ee.f1, y1ee.f2, y1ee.f3, r1f6⟩ : S72)).length c1dk), (17, i6 (p0.f0.length : Int)), (18, i6 (IntKind.i64.wrap (x1dn + 1))), (19, .bool true), (20, .pointer (some (ad1e0.add (x1dn.toNat * 1)))), (21, pt g1e7), (22, pt g1e7), (23, pt g1e7), (24, .pointer (some ⟨g1e7, 4, none⟩)), (25, pt g1eu), (26, .int .u32 p1), (27, .int .u32 p2), (28, .agg #[.int .u8 r1f5.f0, .int .u32 r1f5.f1]), (29, .agg #[.int .u8 r1f5.f0, .int .u32 r1f5.f1]), (30, .agg #[.int .u8 0, .int .u32 0]), (31, .bool false), (33, i6 (IntKind.i64.wrap (x1dn + 1)))] := h1fw.keep ⟨rfl, rfl, rfl, rfl, rfl, (by rw [hl1ga] <;> rfl), rfl, rfl, rfl, rfl, rfl, rfl, rfl, rfl, rfl, rfl, rfl, rfl, rfl, rfl, rfl, rfl, trivial⟩
     clear h1fw
     have hS1gd : St b w0 W1fm R (M1g5 :: (bx g1fi 50 [.int .u8 r1f5.f0, .int .u32 r1f5.f1]) :: (bx g1cp 50 [.int .u8 x1dg, .int .u32 x1dh]) :: (bx g1cv 69 [.slice A1dj (x1di.set x1dn.toNat (⟨y1ee.f0, y1ee.f1, y1ee.f2, y1ee.f3, r1f6⟩ : S72)).length c1dk, i6 p0.f1, pt g1d0]) :: M1do :: Fs) := by simpa only [hl1ga] using hS1g9
     have hS1ge := hS1gd.b1
     have hS1gf := hS1ge.drop_
     have hS1gg := hS1gf.b3
     have hS1gh := hS1gg.b3
     have hS1gi := hS1gh.b2
     have hS1gj := hS1gi.b3
     exact ⟨kk1du, by omega, x1dg, x1dh, (x1di.set x1dn.toNat (⟨y1ee.f0, y1ee.f1, y1ee.f2, y1ee.f3, r1f6⟩ : S72)), A1dj, c1dk, M1g5, IntKind.i64.wrap (x1dn + 1), M1do, h1gc.keep ⟨rfl, rfl, rfl, rfl, rfl, rfl, trivial⟩, ⟨H⟩, ⟨by omega⟩, ⟨hS1gj⟩, ⟨hr1gb⟩, ⟨hr1dp⟩⟩
    ·rw [if_neg c1fu] at H
     have hb_ : (decide (r1f5.f0 = 0) && decide (r1f5.f1 = 0)) = false := (Bool.eq_false_iff.2 c1fu)
     try rw [hb_] at h1ft
     clear hb_
     refine wp_then h1ft rfl ?_
     refine wp_seq ?_
     refine WL.start ?_
     refine WL.oq h1ft rfl ?_
     refine owp_rn (.agg #[.int .u8 r1f5.f0, .int .u32 r1f5.f1]) h1ft rfl (run_loadN rfl rfl Try.underlying50 rfl (cs := [.int .u8 r1f5.f0, .int .u32 r1f5.f1]) (by kernel_rfl) (hS1fn.cells (vs := [.int .u8 r1f5.f0, .int .u32 r1f5.f1]) rfl)) (fun a1gk h1gl => ?_)
     have hS1gm := hS1fn.b5
     refine WL.oq h1gl rfl ?_
     refine owp_st 0 [.int .u8 r1f5.f0, .int .u32 r1f5.f1] h1gl rfl rfl rfl hS1gm [.int .u8 r1f5.f0, .int .u32 r1f5.f1] (fun a1gn W1gp h1go hS1gq => ?_)
     refine WL.dn ?_
     refine wp_ret ?_
     have hS1gr := hS1gq.b2
     have hS1gs := hS1gr.b4
     have hS1gt := hS1gs.b4
     obtain ⟨M1gu, hp1gv, hS1gw⟩ := k72qfo (⟨y1ee.f0, y1ee.f1, y1ee.f2, y1ee.f3, r1f6⟩ : S72) hr1et hr1fd hS1gt
     have hS1gx := hS1gw.b3
     have hS1gy := hS1gx.b1
     obtain ⟨M1gz, hr1h0, hm1h1⟩ := hh1eb _ _ hp1gv
     have hS1h3 : St b w0 W1gp R (M1gz :: (bx g1cp 50 [.int .u8 r1f5.f0, .int .u32 r1f5.f1]) :: (bx g1fi 50 [.int .u8 r1f5.f0, .int .u32 r1f5.f1]) :: (bx g1cv 69 [.slice A1dj x1di.length c1dk, i6 p0.f1, pt g1d0]) :: M1do :: Fs) := hm1h1 _ _ hS1gy
     have hl1h4 : (x1di.set x1dn.toNat (⟨y1ee.f0, y1ee.f1, y1ee.f2, y1ee.f3, r1f6⟩ : S72)).length = x1di.length := by simp
     have hr1h5 : Row (kPtr k72 72) 70 b w0 R (.slice A1dj (x1di.set x1dn.toNat (⟨y1ee.f0, y1ee.f1, y1ee.f2, y1ee.f3, r1f6⟩ : S72)).length c1dk) (x1di.set x1dn.toNat (⟨y1ee.f0, y1ee.f1, y1ee.f2, y1ee.f3, r1f6⟩ : S72)) M1gz := by rw [hl1h4]; exact hr1h0
     have h1h6 : Hd a1gn 35 [(1, .int .u32 p1), (2, .int .u32 p2), (6, pt g1cp), (8, pt g1e7), (9, pt g1fi), (16, .slice A1dj (x1di.set x1dn.toNat (⟨y1ee.f0, y1ee.f1, y1ee.f2, y1ee.f3, r1f6⟩ : S72)).length c1dk), (17, i6 (p0.f0.length : Int)), (18, i6 x1dn), (19, .bool true), (20, .pointer (some (ad1e0.add (x1dn.toNat * 1)))), (21, pt g1e7), (22, pt g1e7), (23, pt g1e7), (24, .pointer (some ⟨g1e7, 4, none⟩)), (25, pt g1eu), (26, .int .u32 p1), (27, .int .u32 p2), (28, .agg #[.int .u8 r1f5.f0, .int .u32 r1f5.f1]), (29, .agg #[.int .u8 r1f5.f0, .int .u32 r1f5.f1]), (30, .agg #[.int .u8 0, .int .u32 0]), (31, .bool true), (32, .agg #[.int .u8 r1f5.f0, .int .u32 r1f5.f1])] := h1go.keep ⟨rfl, rfl, rfl, rfl, rfl, (by rw [hl1h4] <;> rfl), rfl, rfl, rfl, rfl, rfl, rfl, rfl, rfl, rfl, rfl, rfl, rfl, rfl, rfl, rfl, rfl, trivial⟩
     clear h1go
     have hS1h7 : St b w0 W1gp R (M1gz :: (bx g1cp 50 [.int .u8 r1f5.f0, .int .u32 r1f5.f1]) :: (bx g1fi 50 [.int .u8 r1f5.f0, .int .u32 r1f5.f1]) :: (bx g1cv 69 [.slice A1dj (x1di.set x1dn.toNat (⟨y1ee.f0, y1ee.f1, y1ee.f2, y1ee.f3, r1f6⟩ : S72)).length c1dk, i6 p0.f1, pt g1d0]) :: M1do :: Fs) := by simpa only [hl1h4] using hS1h3
     have hS1h8 := hS1h7.b4
     have hS1h9 := hS1h8.b1
     have hS1ha := hS1h9.b4
     obtain ⟨M1hb, hp1hc, hS1hd⟩ := k69qfo (⟨(x1di.set x1dn.toNat (⟨y1ee.f0, y1ee.f1, y1ee.f2, y1ee.f3, r1f6⟩ : S72)), p0.f1, p0.f2⟩ : S69) hr1h5 hr1dp hS1ha
     have hS1he := hS1hd.b1
     have hS1hf := hS1he.drop_
     have hS1hg := hS1hf.b1
     have hS1hh := hS1hg.drop_
     obtain ⟨rfl, rfl⟩ := ret2 H
     repeat (first | with_reducible refine t1 ?_ | with_reducible refine t2 ?_ | with_reducible refine t3 ?_)
     refine body_ret (v := .agg #[.int .u8 r1f5.f0, .int .u32 r1f5.f1]) h1h6 (by kernel_rfl) (res_one rfl ⟨_, rfl, loadVarN Try.underlying50 rfl (cs := [.int .u8 r1f5.f0, .int .u32 r1f5.f1]) (by kernel_rfl) (hS1gq.cells (vs := [.int .u8 r1f5.f0, .int .u32 r1f5.f1]) rfl)⟩) ?_
     exact ⟨M1hb, rfl, hp1hc, hS1hh⟩
   ·rw [if_neg c1dz] at H
    cases H
  ·rw [if_neg c1dy] at H
   cases H
 ·rw [if_neg c1dx] at H
  have hb_ : (decide (x1dn < (p0.f0.length : Int))) = false := decide_eq_false c1dx
  try rw [hb_] at h1dw
  clear hb_
  refine wp_else h1dw rfl ?_
  refine wp_exit ?_
  refine wp_seq ?_
  refine WL.start ?_
  refine WL.bl 1 1 h1dw [(34, .agg #[.int .u8 0, .int .u32 0])] (fun a1hi h1hj => ?_)
  refine WL.oq h1hj rfl ?_
  refine owp_st 0 [.int .u8 0, .int .u32 0] h1hj rfl rfl rfl hS1de [.int .u8 0, .int .u32 0] (fun a1hk W1hm h1hl hS1hn => ?_)
  refine WL.dn ?_
  refine wp_ret ?_
  have hS1ho := hS1hn.b3
  have hS1hp := hS1ho.b2
  have hS1hq := hS1hp.b3
  obtain ⟨M1hr, hp1hs, hS1ht⟩ := k69qfo (⟨x1di, p0.f1, p0.f2⟩ : S69) hr1dm hr1dp hS1hq
  have hS1hu := hS1ht.b1
  have hS1hv := hS1hu.drop_
  obtain ⟨rfl, rfl⟩ := ret2 H
  repeat (first | with_reducible refine t1 ?_ | with_reducible refine t2 ?_ | with_reducible refine t3 ?_)
  refine body_ret (v := .agg #[.int .u8 0, .int .u32 0]) h1hl (by kernel_rfl) (res_one rfl ⟨_, rfl, loadVarN Try.underlying50 rfl (cs := [.int .u8 0, .int .u32 0]) (by kernel_rfl) (hS1hn.cells (vs := [.int .u8 0, .int .u32 0]) rfl)⟩) ?_
  exact ⟨M1hr, rfl, hp1hs, hS1hv⟩

/-! ### (*louver/turns.Ring).Shift -/
def turns_Ring_Shift_nil.f (p1 : Int) (p2 : Int) : Option (S50) := some (⟨1, 2⟩ : S50)
set_option maxHeartbeats 20000000 in
set_option maxRecDepth 100000 in
theorem turns_Ring_Shift_nil.calls {b : Nat} {w0 W : World} {R : Frag} {Fs : List Frag} {p1 : Int} {p2 : Int}  {r0q : S50}  (H : turns_Ring_Shift_nil.f p1 p2 = some r0q) (hS : St b w0 W R (Fs)) :
  Calls Try.prog 26 ([.pointer none, .int .u32 p1, .int .u32 p2] : List Value).toArray W (fun e W' => e = .returned (.agg #[.int .u8 r0q.f0, .int .u32 r0q.f1]) ∧ St b w0 W' R (Fs)) := by
 unfold turns_Ring_Shift_nil.f at H
 refine calls_enter Try.func26 rfl 35 rfl (by kernel_rfl) (fun a h => ?_)
 refine wp_seq ?_
 refine WL.start ?_
 refine WL.oq h rfl ?_
 refine owp_nw (fun g_ => (pt g_)) (.cells ([.int .u8 0, .int .u32 0] : List Value).toArray 50 (0, 0)) h rfl hS (fun a10e W10g g10h h10f hS10i => ?_)
 refine WL.dn ?_
 refine wp_seq ?_
 refine wp_seq ?_
 refine WL.start ?_
 refine WL.bl 2 2 h10f [(11, .bool true), (10, .pointer none)] (fun a10j h10k => ?_)
 refine WL.dn ?_
 refine wp_then h10k rfl ?_
 refine wp_seq ?_
 refine WL.start ?_
 refine WL.bl 1 1 h10k [(12, .agg #[.int .u8 1, .int .u32 2])] (fun a10l h10m => ?_)
 refine WL.oq h10m rfl ?_
 refine owp_st 0 [.int .u8 1, .int .u32 2] h10m rfl rfl rfl hS10i [.int .u8 1, .int .u32 2] (fun a10n W10p h10o hS10q => ?_)
 refine WL.dn ?_
 refine wp_ret ?_
 have hS10r := hS10q.drop_
 obtain rfl := Option.some.inj H
 repeat (first | with_reducible refine t1 ?_ | with_reducible refine t2 ?_ | with_reducible refine t3 ?_)
 refine body_ret (v := .agg #[.int .u8 1, .int .u32 2]) h10o (by kernel_rfl) (res_one rfl ⟨_, rfl, loadVarN Try.underlying50 rfl (cs := [.int .u8 1, .int .u32 2]) (by kernel_rfl) (hS10q.cells (vs := [.int .u8 1, .int .u32 2]) rfl)⟩) ?_
 exact ⟨rfl, hS10r⟩
end Go.Proofs.Ytikfpmieadfllaa.Sl
