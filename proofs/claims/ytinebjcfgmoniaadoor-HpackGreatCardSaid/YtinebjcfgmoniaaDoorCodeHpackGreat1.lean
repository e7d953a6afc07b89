/- What the functions of this program compute, told as plain functions, and that the calls come to just that. Printed by this session's program; part 1. -/
import Derived.Test.YtinebjcfgmoniaaDoorProg
import Derived.Test.YtinebjcfgmoniaaDoorSlX
set_option linter.unusedVariables false
set_option linter.unusedSimpArgs false
set_option linter.unnecessarySimpa false
namespace Go.Proofs.YtinebjcfgmoniaaDoor.Sl
open Go Go.RowKit Go.Proofs.Sl
structure S52 where
 f0 : (List UInt8)
 f1 : (List UInt8)
 f2 : Bool
 deriving DecidableEq
def z52 : S52 := ⟨[], [], false⟩
def k52 : Kd S52 := kIso (kPair kStr (kPair kStr kBool)) (fun x : S52 => (x.f0, (x.f1, x.f2)))
theorem k52qflat : k52.Flat := kIso_flat (kPair_flat kStr_flat (kPair_flat kStr_flat kBool_flat))
theorem k52qind : k52.Ind := kIso_ind (kPair_ind kStr_ind (kPair_ind kStr_ind kBool_ind))
theorem k52qrd {b : Nat} {w0 : World} {R : Frag} {x : S52} {cs : List Value} (h : k52.rd b w0 R x cs) : cs = [.string (mkS x.f0), .string (mkS x.f1), .bool x.f2] := by
 obtain ⟨c100, c101, rfl, h102, h103⟩ := h
 obtain ⟨c104, c105, rfl, h106, h107⟩ := h103
 obtain rfl := h102
 obtain rfl := h106
 obtain rfl := h107
 exact rfl
theorem k52qrep {b : Nat} {w0 : World} {R : Frag} {x : S52} {cs : List Value} {M : Frag} (h : k52.rep b w0 R x cs M) : cs = [.string (mkS x.f0), .string (mkS x.f1), .bool x.f2] ∧ M = [] := by
 obtain ⟨c108, c109, M10c, M10d, rfl, rfl, h10a, h10b⟩ := h
 obtain ⟨c10e, c10f, M10i, M10j, rfl, rfl, h10g, h10h⟩ := h10b
 obtain ⟨rfl, rfl⟩ := h10a
 obtain ⟨rfl, rfl⟩ := h10g
 obtain ⟨rfl, rfl⟩ := h10h
 exact ⟨rfl, by simp⟩
theorem k52qno {b : Nat} {w0 : World} {R : Frag} {x : S52} {cs : List Value} {M : Frag} (h : k52.rep b w0 R x cs M) : M = [] := by
 obtain ⟨_, hM_⟩ := k52qrep h
 exact hM_
theorem k52qmk {b : Nat} {w0 : World} {R : Frag} {x : S52}  : ∃ M, k52.rep b w0 R x [.string (mkS x.f0), .string (mkS x.f1), .bool x.f2] M ∧ M = [] := ⟨_, ⟨_, _, _, _, rfl, rfl, ⟨rfl, rfl⟩, ⟨_, _, _, _, rfl, rfl, ⟨rfl, rfl⟩, ⟨rfl, rfl⟩⟩⟩, by simp⟩
structure S79 where
 f0 : (List S52)
 f1 : Int
 f2 : Int
 deriving DecidableEq
def z79 : S79 := ⟨[], (0 : Int), (0 : Int)⟩
def k79 : Kd S79 := kIso (kPair (kRow k52 52) (kPair (kInt .i64) (kInt .i64))) (fun x : S79 => (x.f0, (x.f1, x.f2)))
theorem k79qind : k79.Ind := kIso_ind (kPair_ind (kRow_ind k52qind) (kPair_ind (kInt_ind _) (kInt_ind _)))
theorem k79qrd {b : Nat} {w0 : World} {R : Frag} {x : S79} {cs : List Value} (h : k79.rd b w0 R x cs) : ∃ (vf0 : Value), cs = [vf0, i6 x.f1, i6 x.f2] ∧ Rds k52 b w0 R vf0 x.f0 := by
 obtain ⟨c10k, c10l, rfl, h10m, h10n⟩ := h
 obtain ⟨c10o, c10p, rfl, h10q, h10r⟩ := h10n
 obtain ⟨v10s, rfl, g10t⟩ := h10m
 obtain rfl := h10q
 obtain rfl := h10r
 exact ⟨v10s, rfl, g10t⟩
theorem k79qrep {b : Nat} {w0 : World} {R : Frag} {x : S79} {cs : List Value} {M : Frag} (h : k79.rep b w0 R x cs M) : ∃ (vf0 : Value), ∃ (Mvf0 : Frag), cs = [vf0, i6 x.f1, i6 x.f2] ∧ M = Mvf0 ∧ Row k52 52 b w0 R vf0 x.f0 Mvf0 := by
 obtain ⟨c10u, c10v, M10y, M10z, rfl, rfl, h10w, h10x⟩ := h
 obtain ⟨c110, c111, M114, M115, rfl, rfl, h112, h113⟩ := h10x
 obtain ⟨v116, rfl, g117⟩ := h10w
 obtain ⟨rfl, rfl⟩ := h112
 obtain ⟨rfl, rfl⟩ := h113
 exact ⟨v116, _, rfl, by simp, g117⟩
theorem k79qmk {b : Nat} {w0 : World} {R : Frag} {x : S79} {vf0 : Value} {Mvf0 : Frag} (gvf0 : Row k52 52 b w0 R vf0 x.f0 Mvf0) : ∃ M, k79.rep b w0 R x [vf0, i6 x.f1, i6 x.f2] M ∧ M = Mvf0 := ⟨_, ⟨_, _, _, _, rfl, rfl, ⟨vf0, rfl, gvf0⟩, ⟨_, _, _, _, rfl, rfl, ⟨rfl, rfl⟩, ⟨rfl, rfl⟩⟩⟩, by simp⟩
theorem k79qop {b : Nat} {w0 W : World} {R : Frag} {Ms : List Frag} {v : Value} {M : Frag} {y0 : (List S52)} {y1 : Int} {y2 : Int} (h : Ptr k79 79 b w0 R v (⟨y0, y1, y2⟩ : S79) M) (hS : St b w0 W R (M :: Ms)) : ∃ (g : Nat) (A0 : Option Addr) (c0 : Nat) (M0 : Frag), v = (pt g) ∧ Row k52 52 b w0 R (.slice A0 y0.length c0) y0 M0 ∧ St b w0 W R ((bx g 79 [.slice A0 y0.length c0, i6 y1, i6 y2]) :: M0 :: Ms) := by
 obtain ⟨g, cs, Mx, rfl, rfl, hr⟩ := h
 obtain ⟨v0, M0, rfl, hM2q, h0⟩ := k79qrep hr
 rw [hM2q] at hS
 obtain ⟨A0, c0, rfl⟩ := h0.form
 exact ⟨g, A0, c0, M0, rfl, h0, hS.assoc (by simp only [List.flatten_cons, List.append_assoc, List.cons_append, List.nil_append, List.append_nil])⟩
theorem k79qoq {b : Nat} {w0 W : World} {R : Frag} {Ms : List Frag} {g : Nat} {M : Frag} {y0 : (List S52)} {y1 : Int} {y2 : Int} (h : Ptr k79 79 b w0 R (pt g) (⟨y0, y1, y2⟩ : S79) M) (hS : St b w0 W R (M :: Ms)) : ∃ (A0 : Option Addr) (c0 : Nat) (M0 : Frag), Row k52 52 b w0 R (.slice A0 y0.length c0) y0 M0 ∧ St b w0 W R ((bx g 79 [.slice A0 y0.length c0, i6 y1, i6 y2]) :: M0 :: Ms) := by
 obtain ⟨g', A0, c0, M0, hv, h0, hS'⟩ := k79qop h hS
 obtain rfl : g = g' := by simpa using hv
 exact ⟨A0, c0, M0, h0, hS'⟩
theorem k79qfo {b : Nat} {w0 W : World} {R : Frag} {Ms : List Frag} {g : Nat} {y0 : (List S52)} {y1 : Int} {y2 : Int} {A0 : Option Addr} {c0 : Nat} {M0 : Frag} (x : S79) (h0 : Row k52 52 b w0 R (.slice A0 y0.length c0) y0 M0) (hS : St b w0 W R ((bx g 79 [.slice A0 y0.length c0, i6 y1, i6 y2]) :: M0 :: Ms)) (hx : x = (⟨y0, y1, y2⟩ : S79) := by rfl) : ∃ M, Ptr k79 79 b w0 R (pt g) x M ∧ St b w0 W R (M :: Ms) := by
 subst hx
 obtain ⟨M, hr, hM⟩ := k79qmk (b := b) (w0 := w0) (R := R) (x := (⟨y0, y1, y2⟩ : S79)) (gvf0 := h0)
 exact ⟨_, ⟨g, _, M, rfl, rfl, hr⟩, hS.assoc (by rw [hM]; simp only [List.flatten_cons, List.append_assoc, List.cons_append, List.nil_append, List.append_nil])⟩
/-! ### louver/dyntable.New -/
def dyntable_New.f (p0 : Int) : Option (S79) := some (⟨([] : List S52), 0, IntKind.i64.wrap p0⟩ : S79)
set_option maxHeartbeats 20000000 in
set_option maxRecDepth 100000 in
theorem dyntable_New.calls {b : Nat} {w0 W : World} {R : Frag} {Fs : List Frag} {p0 : Int}  {r0q : S79}  (H : dyntable_New.f p0 = some r0q) (hS : St b w0 W R (Fs)) :
  Calls Tryd.prog 30 ([.int .u32 p0] : List Value).toArray W (fun e W' => ∃ (u0q : Value) (N0q : Frag), e = .returned (u0q) ∧ Ptr k79 79 b w0 R u0q r0q N0q ∧ St b w0 W' R (N0q :: Fs)) := by
 unfold dyntable_New.f at H
 refine calls_enter Tryd.func30 rfl 7 rfl (by kernel_rfl) (fun a h => ?_)
 refine wp_seq ?_
 refine WL.start ?_
 refine WL.bl 1 1 h [(2, .pointer none)] (fun a11o h11p => ?_)
 refine WL.dn ?_
 refine wp_seq ?_
 refine WL.start ?_
 refine WL.bl 3 3 h11p [(5, .agg #[.slice none 0 0, i6 0, i6 (IntKind.i64.wrap p0)]), (4, i6 (IntKind.i64.wrap p0)), (3, .int .u32 p0)] (fun a11q h11r => ?_)
 refine WL.oq h11r rfl ?_
 refine owp_nw (fun g_ => (pt g_)) (.cells ([.slice none 0 0, i6 0, i6 (IntKind.i64.wrap p0)] : List Value).toArray 79 (0, 0)) h11r rfl hS (fun a11s W11u g11v h11t hS11w => ?_)
 refine WL.bl 1 5 h11t [(2, pt g11v)] (fun a11x h11y => ?_)
 refine WL.dn ?_
 refine wp_ret ?_
 have hS11z := hS11w.nil_
 have hS120 := hS11z.b1
 obtain ⟨M121, hp122, hS123⟩ := k79qfo (⟨([] : List S52), 0, IntKind.i64.wrap p0⟩ : S79) (y0 := []) Row.nil hS120
 obtain rfl := Option.some.inj H
 repeat (first | with_reducible refine t1 ?_ | with_reducible refine t2 ?_ | with_reducible refine t3 ?_)
 refine bret (pt g11v) h11y ?_
 exact ⟨(pt g11v), M121, rfl, hp122, hS123⟩

structure S61 where
 f0 : S79
 f1 : Bool
 f2 : Int
 f3 : Int
 deriving DecidableEq
def z61 : S61 := ⟨z79, false, (0 : Int), (0 : Int)⟩
def k61 : Kd S61 := kIso (kPair (kPtr k79 79) (kPair kBool (kPair (kInt .u32) (kInt .u32)))) (fun x : S61 => (x.f0, (x.f1, (x.f2, x.f3))))
theorem k61qind : k61.Ind := kIso_ind (kPair_ind (kPtr_ind k79qind) (kPair_ind kBool_ind (kPair_ind (kInt_ind _) (kInt_ind _))))
theorem k61qrep {b : Nat} {w0 : World} {R : Frag} {x : S61} {cs : List Value} {M : Frag} (h : k61.rep b w0 R x cs M) : ∃ (vf0 : Value), ∃ (Mvf0 : Frag), cs = [vf0, .bool x.f1, .int .u32 x.f2, .int .u32 x.f3] ∧ M = Mvf0 ∧ Ptr k79 79 b w0 R vf0 x.f0 Mvf0 := by
 obtain ⟨c100, c101, M104, M105, rfl, rfl, h102, h103⟩ := h
 obtain ⟨c106, c107, M10a, M10b, rfl, rfl, h108, h109⟩ := h103
 obtain ⟨c10c, c10d, M10g, M10h, rfl, rfl, h10e, h10f⟩ := h109
 obtain ⟨v10i, rfl, g10j⟩ := h102
 obtain ⟨rfl, rfl⟩ := h108
 obtain ⟨rfl, rfl⟩ := h10e
 obtain ⟨rfl, rfl⟩ := h10f
 exact ⟨v10i, _, rfl, by simp, g10j⟩
theorem k61qmk {b : Nat} {w0 : World} {R : Frag} {x : S61} {vf0 : Value} {Mvf0 : Frag} (gvf0 : Ptr k79 79 b w0 R vf0 x.f0 Mvf0) : ∃ M, k61.rep b w0 R x [vf0, .bool x.f1, .int .u32 x.f2, .int .u32 x.f3] M ∧ M = Mvf0 := ⟨_, ⟨_, _, _, _, rfl, rfl, ⟨vf0, rfl, gvf0⟩, ⟨_, _, _, _, rfl, rfl, ⟨rfl, rfl⟩, ⟨_, _, _, _, rfl, rfl, ⟨rfl, rfl⟩, ⟨rfl, rfl⟩⟩⟩⟩, by simp⟩
theorem k61qop {b : Nat} {w0 W : World} {R : Frag} {Ms : List Frag} {v : Value} {M : Frag} {y0 : S79} {y1 : Bool} {y2 : Int} {y3 : Int} (h : Ptr k61 61 b w0 R v (⟨y0, y1, y2, y3⟩ : S61) M) (hS : St b w0 W R (M :: Ms)) : ∃ (g : Nat) (g0 : Nat) (M0 : Frag), v = (pt g) ∧ Ptr k79 79 b w0 R (pt g0) y0 M0 ∧ St b w0 W R ((bx g 61 [(pt g0), .bool y1, .int .u32 y2, .int .u32 y3]) :: M0 :: Ms) := by
 obtain ⟨g, cs, Mx, rfl, rfl, hr⟩ := h
 obtain ⟨v0, M0, rfl, hM2q, h0⟩ := k61qrep hr
 rw [hM2q] at hS
 obtain ⟨g0, rfl⟩ := h0.ptr_form
 exact ⟨g, g0, M0, rfl, h0, hS.assoc (by simp only [List.flatten_cons, List.append_assoc, List.cons_append, List.nil_append, List.append_nil])⟩
theorem k61qoq {b : Nat} {w0 W : World} {R : Frag} {Ms : List Frag} {g : Nat} {M : Frag} {y0 : S79} {y1 : Bool} {y2 : Int} {y3 : Int} (h : Ptr k61 61 b w0 R (pt g) (⟨y0, y1, y2, y3⟩ : S61) M) (hS : St b w0 W R (M :: Ms)) : ∃ (g0 : Nat) (M0 : Frag), Ptr k79 79 b w0 R (pt g0) y0 M0 ∧ St b w0 W R ((bx g 61 [(pt g0), .bool y1, .int .u32 y2, .int .u32 y3]) :: M0 :: Ms) := by
 obtain ⟨g', g0, M0, hv, h0, hS'⟩ := k61qop h hS
 obtain rfl : g = g' := by simpa using hv
 exact ⟨g0, M0, h0, hS'⟩
theorem k61qfo {b : Nat} {w0 W : World} {R : Frag} {Ms : List Frag} {g : Nat} {y0 : S79} {y1 : Bool} {y2 : Int} {y3 : Int} {g0 : Nat} {M0 : Frag} (x : S61) (h0 : Ptr k79 79 b w0 R (pt g0) y0 M0) (hS : St b w0 W R ((bx g 61 [(pt g0), .bool y1, .int .u32 y2, .int .u32 y3]) :: M0 :: Ms)) (hx : x = (⟨y0, y1, y2, y3⟩ : S61) := by rfl) : ∃ M, Ptr k61 61 b w0 R (pt g) x M ∧ St b w0 W R (M :: Ms) := by
 subst hx
 obtain ⟨M, hr, hM⟩ := k61qmk (b := b) (w0 := w0) (R := R) (x := (⟨y0, y1, y2, y3⟩ : S61)) (gvf0 := h0)
 exact ⟨_, ⟨g, _, M, rfl, rfl, hr⟩, hS.assoc (by rw [hM]; simp only [List.flatten_cons, List.append_assoc, List.cons_append, List.nil_append, List.append_nil])⟩
/-! ### louver/hpack.NewEncoder -/
def hpack_NewEncoder.f (p0 : Int) : Option (S61) := bnd1 (dyntable_New.f (mnI p0 4096)) fun r11n => (some (⟨r11n, true, 0, mnI p0 4096⟩ : S61))
set_option maxHeartbeats 20000000 in
set_option maxRecDepth 100000 in
theorem hpack_NewEncoder.calls {b : Nat} {w0 W : World} {R : Frag} {Fs : List Frag} {p0 : Int}  {r0q : S61}  (H : hpack_NewEncoder.f p0 = some r0q) (hS : St b w0 W R (Fs)) :
  Calls Tryd.prog 17 ([.int .u32 p0] : List Value).toArray W (fun e W' => ∃ (u0q : Value) (N0q : Frag), e = .returned (u0q) ∧ Ptr k61 61 b w0 R u0q r0q N0q ∧ St b w0 W' R (N0q :: Fs)) := by
 unfold hpack_NewEncoder.f at H
 refine calls_enter Tryd.func17 rfl 10 rfl (by kernel_rfl) (fun a h => ?_)
 refine wp_seq ?_
 refine WL.start ?_
 refine WL.bl 1 1 h [(2, .pointer none)] (fun a11g h11h => ?_)
 refine WL.dn ?_
 refine wp_seq ?_
 refine WL.start ?_
 refine WL.bl 3 3 h11h [(0, .int .u32 (mnI p0 4096)), (4, .int .u32 (mnI p0 4096)), (3, .int .u32 p0)] (fun a11i h11j => ?_)
 refine WL.dn ?_
 refine wp_seq ?_
 refine WL.start ?_
 refine WL.bl 1 1 h11j [(5, .int .u32 (mnI p0 4096))] (fun a11k h11l => ?_)
 obtain ⟨r11n, A11m, H⟩ := bind1 H
 refine WL.oq h11l rfl ?_
 refine owp_call [.int .u32 (mnI p0 4096)] h11l rfl (by kernel_rfl) rfl Tryd.func30 (by kernel_rfl) rfl (by kernel_rfl) (dyntable_New.calls  A11m hS) (fun e11p W11o hp11q => ?_)
 obtain ⟨v11t, M11u, rfl, hr11v, hS11w⟩ := hp11q
 refine ⟨_, rfl, fun a11r h11s => ?_⟩
 obtain ⟨g11x, rfl⟩ := hr11v.ptr_form
 refine WL.bl 2 4 h11s [(8, .agg #[(pt g11x), .bool true, .int .u32 0, .int .u32 (mnI p0 4096)]), (7, .int .u32 (mnI p0 4096))] (fun a11y h11z => ?_)
 refine WL.oq h11z rfl ?_
 refine owp_nw (fun g_ => (pt g_)) (.cells ([(pt g11x), .bool true, .int .u32 0, .int .u32 (mnI p0 4096)] : List Value).toArray 61 (0, 0)) h11z rfl hS11w (fun a120 W122 g123 h121 hS124 => ?_)
 refine WL.bl 1 6 h121 [(2, pt g123)] (fun a125 h126 => ?_)
 refine WL.dn ?_
 refine wp_ret ?_
 have hS127 := hS124.b1
 have hS128 := hS127.b1
 obtain ⟨M129, hp12a, hS12b⟩ := k61qfo (⟨r11n, true, 0, mnI p0 4096⟩ : S61) hr11v hS128
 obtain rfl := Option.some.inj H
 repeat (first | with_reducible refine t1 ?_ | with_reducible refine t2 ?_ | with_reducible refine t3 ?_)
 refine bret (pt g123) h126 ?_
 exact ⟨(pt g123), M129, rfl, hp12a, hS12b⟩

/-! ### slices.Clone[[]byte,byte] -/
def slices_Clone_byte_byte.f (p0 : (List Int)) : Option ((List Int)) := if ([] : List Int).length + p0.length ≤ 140737488355328 then (lt1 (([] : List Int) ++ p0 : List Int) fun y11b => (some y11b)) else (none)
set_option maxHeartbeats 20000000 in
set_option maxRecDepth 100000 in
theorem slices_Clone_byte_byte.calls {b : Nat} {w0 W : World} {R : Frag} {Fs : List Frag} {p0 : (List Int)} {v0 : Value} {r0q : (List Int)} (hp0 : Rds (kInt .u8) b w0 R v0 p0) (H : slices_Clone_byte_byte.f p0 = some r0q) (hS : St b w0 W R (Fs)) :
  Calls Tryd.prog 40 ([v0] : List Value).toArray W (fun e W' => ∃ (u0q : Value) (N0q : Frag), e = .returned (u0q) ∧ Row (kInt .u8) 5 b w0 R u0q r0q N0q ∧ St b w0 W' R (N0q :: Fs)) := by
 obtain ⟨A0, c0, rfl⟩ := hp0.form
 obtain _ | A0 := A0
 ·have hn_ : p0 = [] := hp0.nil_of
  subst hn_
  obtain rfl : ([] : (List Int)) = r0q := by simpa [slices_Clone_byte_byte.f, lt1] using H
  clear H
  have H : some ([] : (List Int)) = some [] := rfl
  refine calls_enter Tryd.func40 rfl 8 rfl (by kernel_rfl) (fun a h => ?_)
  refine wp_seq ?_
  refine WL.start ?_
  refine WL.bl 1 1 h [(2, .slice none 0 0)] (fun a11i h11j => ?_)
  refine WL.dn ?_
  refine wp_seq ?_
  refine wp_seq ?_
  refine WL.start ?_
  refine WL.bl 2 2 h11j [(4, .bool true), (3, .slice none 0 c0)] (fun a11k h11l => ?_)
  refine WL.dn ?_
  refine wp_then h11l rfl ?_
  refine wp_seq ?_
  refine WL.start ?_
  refine WL.bl 1 1 h11l [(2, .slice none 0 0)] (fun a11m h11n => ?_)
  refine WL.dn ?_
  refine wp_ret ?_
  skip
  repeat (first | with_reducible refine t1 ?_ | with_reducible refine t2 ?_ | with_reducible refine t3 ?_)
  refine bret (.slice none 0 0) h11n ?_
  exact ⟨.slice none 0 0, [], rfl, Row.nil, hS.nil_⟩
 ·unfold slices_Clone_byte_byte.f at H
  refine calls_enter Tryd.func40 rfl 8 rfl (by kernel_rfl) (fun a h => ?_)
  refine wp_seq ?_
  refine WL.start ?_
  refine WL.bl 1 1 h [(2, .slice none 0 0)] (fun a10r h10s => ?_)
  refine WL.dn ?_
  refine wp_seq ?_
  refine wp_seq ?_
  refine WL.start ?_
  refine WL.bl 2 2 h10s [(4, .bool false), (3, .slice (some A0) p0.length c0)] (fun a10t h10u => ?_)
  refine WL.dn ?_
  refine wp_else h10u rfl ?_
  refine wp_skip ?_
  refine wp_seq ?_
  refine WL.start ?_
  refine WL.oq h10u rfl ?_
  refine owp_nw (fun g_ => .slice (some ⟨g_, 0, none⟩) 0 0) (.cells ([] : List Value).toArray 5 (0, 0)) h10u rfl hS (fun a10v W10x g10y h10w hS10z => ?_)
  have hr110 : Row (kInt .u8) 5 b w0 R (.slice (some ⟨g10y, 0, none⟩) 0 0) ([] : List Int) (bx g10y 5 []) := Row.lit (xs := ([] : List Int)) (Mi := []) ⟨rfl, rfl⟩ (by simp [maxLen])
  refine WL.bl 1 2 h10w [(6, .slice (some A0) p0.length c0)] (fun a111 h112 => ?_)
  clear h10s a10r h10u a10t h10w a10v
  by_cases c113 : ([] : List Int).length + p0.length ≤ 140737488355328
  ·rw [if_pos c113] at H
   refine WL.oq h112 rfl ?_
   refine owp_app_rds (z := .int .u8 0) (bytes := 1) (dk := (kInt .u8)) h112 rfl (by kernel_rfl) rfl rfl rfl (kInt_flat _) hr110 hp0 hS10z Tryd.underlying22 (by kernel_rfl) rfl (by decide) (by decide) (by first | omega | (simp only [List.length_cons, List.length_nil] at *; omega)) (fun a114 W116 v117 M118 h115 hr119 hS11a => ?_)
   obtain ⟨y11b, hy11c, H⟩ := lete H
   have hr11d : Row (kInt .u8) 5 b w0 R v117 y11b M118 := by rw [hy11c]; exact hr119
   clear hr119
   obtain ⟨A11e, c11f, rfl⟩ := hr11d.form
   refine WL.bl 1 4 h115 [(2, .slice A11e y11b.length c11f)] (fun a11g h11h => ?_)
   refine WL.dn ?_
   refine wp_ret ?_
   obtain rfl := Option.some.inj H
   repeat (first | with_reducible refine t1 ?_ | with_reducible refine t2 ?_ | with_reducible refine t3 ?_)
   refine bret (.slice A11e y11b.length c11f) h11h ?_
   exact ⟨.slice A11e y11b.length c11f, M118, rfl, hr11d, hS11a⟩
  ·rw [if_neg c113] at H
   cases H

/-! ### louver/prefix.right -/
def prefix_right.f (p0 : Int) : Option (Bool) := if p0 ≥ 1 then (some (decide (p0 ≤ 8))) else (some false)
set_option maxHeartbeats 20000000 in
set_option maxRecDepth 100000 in
theorem prefix_right.calls {b : Nat} {w0 W : World} {R : Frag} {Fs : List Frag} {p0 : Int}  {r0q : Bool}  (H : prefix_right.f p0 = some r0q) (hS : St b w0 W R (Fs)) :
  Calls Tryd.prog 41 ([i6 p0] : List Value).toArray W (fun e W' => e = .returned (.bool r0q) ∧ St b w0 W' R (Fs)) := by
 unfold prefix_right.f at H
 refine calls_enter Tryd.func41 rfl 9 rfl (by kernel_rfl) (fun a h => ?_)
 refine wp_seq ?_
 refine WL.start ?_
 refine WL.bl 1 1 h [(2, .bool false)] (fun a10h h10i => ?_)
 refine WL.dn ?_
 refine wp_seq ?_
 refine WL.start ?_
 refine WL.bl 3 3 h10i [(5, .bool (decide (p0 ≥ 1))), (4, .bool (decide (p0 ≥ 1))), (3, i6 p0)] (fun a10j h10k => ?_)
 clear h10i a10h
 by_cases c10l : p0 ≥ 1
 ·rw [if_pos c10l] at H
  have hb_ : (decide (p0 ≥ 1)) = true := decide_eq_true c10l
  try rw [hb_] at h10k
  clear hb_
  refine WL.oq h10k rfl (owp_rk (i6 p0) h10k rfl (fun a10m h10n => ?_))
  refine WL.oq h10n rfl (owp_rk (.bool (decide (p0 ≤ 8))) h10n rfl (fun a10o h10p => ?_))
  refine WL.bl 2 7 h10p [(2, .bool (decide (p0 ≤ 8))), (8, .bool (decide (p0 ≤ 8)))] (fun a10q h10r => ?_)
  refine WL.dn ?_
  refine wp_ret ?_
  obtain rfl := Option.some.inj H
  repeat (first | with_reducible refine t1 ?_ | with_reducible refine t2 ?_ | with_reducible refine t3 ?_)
  refine bret (.bool (decide (p0 ≤ 8))) h10r ?_
  exact ⟨rfl, hS⟩
 ·rw [if_neg c10l] at H
  have hb_ : (decide (p0 ≥ 1)) = false := decide_eq_false c10l
  try rw [hb_] at h10k
  clear hb_
  refine WL.sk h10k rfl rfl (fun a10s h10t => ?_)
  refine WL.sk h10t rfl rfl (fun a10u h10v => ?_)
  refine WL.bl 2 7 h10v [(2, .bool false), (8, .bool false)] (fun a10w h10x => ?_)
  refine WL.dn ?_
  refine wp_ret ?_
  obtain rfl := Option.some.inj H
  repeat (first | with_reducible refine t1 ?_ | with_reducible refine t2 ?_ | with_reducible refine t3 ?_)
  refine bret (.bool false) h10x ?_
  exact ⟨rfl, hS⟩

/-! ### louver/prefix.Put -/
def prefix_Put.l0 : Nat → Int → (List Int) → Option ((List Int))
 | 0, _, _ => none
 | k + 1, x1fw, x1fx => if x1fw > 127 then (if x1fx.length + 1 ≤ 140737488355328 then (lt1 (x1fx ++ ([bOr .u8 (IntKind.u8.wrap (bAnd .u32 x1fw 127)) 128] : List Int) : List Int) fun y1gn => (prefix_Put.l0 k (shrI .u32 x1fw 7) y1gn)) else (none)) else (if x1fx.length + 1 ≤ 140737488355328 then (lt1 (x1fx ++ ([IntKind.u8.wrap x1fw] : List Int) : List Int) fun y1hd => (some y1hd)) else (none))
def prefix_Put.f (k : Nat) (p0 : (List Int)) (p1 : Int) (p2 : Int) (p3 : Int) : Option ((List Int)) := bnd1 (slices_Clone_byte_byte.f p0) fun r1d1 => (bnd1 (prefix_right.f p1) fun r1di => (if r1di = true then (if p3 > 268435456 then (some r1d1) else (if 0 ≤ p1 then (if p3 < (IntKind.u32.wrap ((shlI .u32 1 p1) - 1)) then (if r1d1.length + 1 ≤ 140737488355328 then (lt1 (r1d1 ++ ([bOr .u8 (bAndNot .u8 p2 (IntKind.u8.wrap (IntKind.u32.wrap ((shlI .u32 1 p1) - 1)))) (IntKind.u8.wrap p3)] : List Int) : List Int) fun y1eu => (some y1eu)) else (none)) else (if r1d1.length + 1 ≤ 140737488355328 then (lt1 (r1d1 ++ ([bOr .u8 (bAndNot .u8 p2 (IntKind.u8.wrap (IntKind.u32.wrap ((shlI .u32 1 p1) - 1)))) (IntKind.u8.wrap (IntKind.u32.wrap ((shlI .u32 1 p1) - 1)))] : List Int) : List Int) fun y1fi => (prefix_Put.l0 k (IntKind.u32.wrap (p3 - (IntKind.u32.wrap ((shlI .u32 1 p1) - 1)))) y1fi)) else (none))) else (none))) else (some r1d1)))
set_option maxHeartbeats 20000000 in
set_option maxRecDepth 100000 in
theorem prefix_Put.calls (k : Nat) {b : Nat} {w0 W : World} {R : Frag} {Fs : List Frag} {p0 : (List Int)} {p1 : Int} {p2 : Int} {p3 : Int} {v0 : Value} {r0q : (List Int)} (hp0 : Rds (kInt .u8) b w0 R v0 p0) (H : prefix_Put.f k p0 p1 p2 p3 = some r0q) (hS : St b w0 W R (Fs)) :
  Calls Tryd.prog 27 ([v0, i6 p1, .int .u8 p2, .int .u32 p3] : List Value).toArray W (fun e W' => ∃ (u0q : Value) (N0q : Frag), e = .returned (u0q) ∧ Row (kInt .u8) 5 b w0 R u0q r0q N0q ∧ St b w0 W' R (N0q :: Fs)) := by
 obtain ⟨A0, c0, rfl⟩ := hp0.form
 unfold prefix_Put.f at H
 refine calls_enter Tryd.func27 rfl 65 rfl (by kernel_rfl) (fun a h => ?_)
 refine wp_seq ?_
 refine WL.start ?_
 refine WL.bl 1 1 h [(8, .slice none 0 0)] (fun a1cw h1cx => ?_)
 refine WL.dn ?_
 refine wp_seq ?_
 refine WL.start ?_
 refine WL.bl 1 1 h1cx [(12, .slice A0 p0.length c0)] (fun a1cy h1cz => ?_)
 obtain ⟨r1d1, A1d0, H⟩ := bind1 H
 refine WL.oq h1cz rfl ?_
 refine owp_call [.slice A0 p0.length c0] h1cz rfl (by kernel_rfl) rfl Tryd.func40 (by kernel_rfl) rfl (by kernel_rfl) (slices_Clone_byte_byte.calls hp0 A1d0 hS) (fun e1d3 W1d2 hp1d4 => ?_)
 obtain ⟨v1d7, M1d8, rfl, hr1d9, hS1da⟩ := hp1d4
 refine ⟨_, rfl, fun a1d5 h1d6 => ?_⟩
 obtain ⟨A1db, c1dc, rfl⟩ := hr1d9.form
 refine WL.bl 1 3 h1d6 [(9, .slice A1db r1d1.length c1dc)] (fun a1dd h1de => ?_)
 refine WL.dn ?_
 refine wp_seq ?_
 refine wp_seq ?_
 refine WL.start ?_
 refine WL.bl 1 1 h1de [(14, i6 p1)] (fun a1df h1dg => ?_)
 obtain ⟨r1di, A1dh, H⟩ := bind1 H
 refine WL.oq h1dg rfl ?_
 refine owp_call [i6 p1] h1dg rfl (by kernel_rfl) rfl Tryd.func41 (by kernel_rfl) rfl (by kernel_rfl) (prefix_right.calls  A1dh hS1da) (fun e1dk W1dj hp1dl => ?_)
 obtain ⟨rfl, hS1do⟩ := hp1dl
 refine ⟨_, rfl, fun a1dm h1dn => ?_⟩
 refine WL.bl 2 4 h1dn [(17, .bool (!r1di)), (16, .bool (!r1di))] (fun a1dp h1dq => ?_)
 clear h1cx a1cw h1cz a1cy h1d6 a1d5 h1de a1dd h1dg a1df h1dn a1dm
 by_cases c1dr : r1di = true
 ·rw [if_pos c1dr] at H
  have hb_ : r1di = true := c1dr
  try rw [hb_] at h1dq
  clear hb_
  refine WL.oq h1dq rfl (owp_rk (.int .u32 p3) h1dq rfl (fun a1ds h1dt => ?_))
  refine WL.oq h1dt rfl (owp_rk (.bool (decide (p3 > 268435456))) h1dt rfl (fun a1du h1dv => ?_))
  refine WL.bl 1 7 h1dv [(20, .bool (decide (p3 > 268435456)))] (fun a1dw h1dx => ?_)
  refine WL.dn ?_
  clear h1dq a1dp h1dt a1ds h1dv a1du
  by_cases c1dy : p3 > 268435456
  ·rw [if_pos c1dy] at H
   have hb_ : (decide (p3 > 268435456)) = true := decide_eq_true c1dy
   try rw [hb_] at h1dx
   clear hb_
   refine wp_then h1dx rfl ?_
   refine wp_seq ?_
   refine WL.start ?_
   refine WL.bl 2 2 h1dx [(8, .slice A1db r1d1.length c1dc), (21, .slice A1db r1d1.length c1dc)] (fun a1dz h1e0 => ?_)
   refine WL.dn ?_
   refine wp_ret ?_
   obtain rfl := Option.some.inj H
   repeat (first | with_reducible refine t1 ?_ | with_reducible refine t2 ?_ | with_reducible refine t3 ?_)
   refine bret (.slice A1db r1d1.length c1dc) h1e0 ?_
   exact ⟨.slice A1db r1d1.length c1dc, M1d8, rfl, hr1d9, hS1do⟩
  ·rw [if_neg c1dy] at H
   have hb_ : (decide (p3 > 268435456)) = false := decide_eq_false c1dy
   try rw [hb_] at h1dx
   clear hb_
   refine wp_else h1dx rfl ?_
   refine wp_skip ?_
   refine wp_seq ?_
   refine WL.start ?_
   refine WL.bl 1 1 h1dx [(22, i6 p1)] (fun a1e1 h1e2 => ?_)
   clear h1dx a1dw
   by_cases c1e3 : 0 ≤ p1
   ·rw [if_pos c1e3] at H
    refine WL.oq h1e2 rfl ?_
    refine owp_rn (.int .u32 (shlI .u32 1 p1)) h1e2 rfl (run_shl rfl rfl rfl (by assumption)) (fun a1e4 h1e5 => ?_)
    refine WL.bl 2 4 h1e5 [(10, .int .u32 (IntKind.u32.wrap ((shlI .u32 1 p1) - 1))), (24, .int .u32 (IntKind.u32.wrap ((shlI .u32 1 p1) - 1)))] (fun a1e6 h1e7 => ?_)
    refine WL.dn ?_
    refine wp_seq ?_
    refine WL.start ?_
    refine WL.bl 5 5 h1e7 [(11, .int .u8 (bAndNot .u8 p2 (IntKind.u8.wrap (IntKind.u32.wrap ((shlI .u32 1 p1) - 1))))), (28, .int .u8 (bAndNot .u8 p2 (IntKind.u8.wrap (IntKind.u32.wrap ((shlI .u32 1 p1) - 1))))), (27, .int .u8 (IntKind.u8.wrap (IntKind.u32.wrap ((shlI .u32 1 p1) - 1)))), (26, .int .u32 (IntKind.u32.wrap ((shlI .u32 1 p1) - 1))), (25, .int .u8 p2)] (fun a1e8 h1e9 => ?_)
    refine WL.dn ?_
    refine wp_seq ?_
    refine wp_seq ?_
    refine WL.start ?_
    refine WL.bl 3 3 h1e9 [(31, .bool (decide (p3 < (IntKind.u32.wrap ((shlI .u32 1 p1) - 1))))), (30, .int .u32 (IntKind.u32.wrap ((shlI .u32 1 p1) - 1))), (29, .int .u32 p3)] (fun a1ea h1eb => ?_)
    refine WL.dn ?_
    clear h1e2 a1e1 h1e5 a1e4 h1e7 a1e6 h1e9 a1e8
    by_cases c1ec : p3 < (IntKind.u32.wrap ((shlI .u32 1 p1) - 1))
    ·rw [if_pos c1ec] at H
     have hb_ : (decide (p3 < (IntKind.u32.wrap ((shlI .u32 1 p1) - 1)))) = true := decide_eq_true c1ec
     try rw [hb_] at h1eb
     clear hb_
     refine wp_then h1eb rfl ?_
     refine wp_seq ?_
     refine WL.start ?_
     refine WL.bl 5 5 h1eb [(36, .int .u8 (bOr .u8 (bAndNot .u8 p2 (IntKind.u8.wrap (IntKind.u32.wrap ((shlI .u32 1 p1) - 1)))) (IntKind.u8.wrap p3))), (35, .int .u8 (IntKind.u8.wrap p3)), (34, .int .u32 p3), (33, .int .u8 (bAndNot .u8 p2 (IntKind.u8.wrap (IntKind.u32.wrap ((shlI .u32 1 p1) - 1))))), (32, .slice A1db r1d1.length c1dc)] (fun a1ed h1ee => ?_)
     refine WL.oq h1ee rfl ?_
     refine owp_nw (fun g_ => .slice (some ⟨g_, 0, none⟩) 1 1) (.cells ([.int .u8 (bOr .u8 (bAndNot .u8 p2 (IntKind.u8.wrap (IntKind.u32.wrap ((shlI .u32 1 p1) - 1)))) (IntKind.u8.wrap p3))] : List Value).toArray 5 (0, 0)) h1ee rfl hS1do (fun a1ef W1eh g1ei h1eg hS1ej => ?_)
     have hr1ek : Row (kInt .u8) 5 b w0 R (.slice (some ⟨g1ei, 0, none⟩) 1 1) ([bOr .u8 (bAndNot .u8 p2 (IntKind.u8.wrap (IntKind.u32.wrap ((shlI .u32 1 p1) - 1)))) (IntKind.u8.wrap p3)] : List Int) (bx g1ei 5 [.int .u8 (bOr .u8 (bAndNot .u8 p2 (IntKind.u8.wrap (IntKind.u32.wrap ((shlI .u32 1 p1) - 1)))) (IntKind.u8.wrap p3))]) := Row.lit (xs := ([bOr .u8 (bAndNot .u8 p2 (IntKind.u8.wrap (IntKind.u32.wrap ((shlI .u32 1 p1) - 1)))) (IntKind.u8.wrap p3)] : List Int)) (Mi := []) ⟨_, _, [], _, rfl, rfl, ⟨rfl, rfl⟩, ⟨rfl, rfl⟩⟩ (by simp [maxLen])
     clear h1eb a1ea h1ee a1ed
     by_cases c1el : r1d1.length + 1 ≤ 140737488355328
     ·rw [if_pos c1el] at H
      have hS1em := hS1ej.b1
      refine WL.oq h1eg rfl ?_
      refine owp_app_take (z := .int .u8 0) (bytes := 1) (dk := (kInt .u8)) h1eg rfl (by kernel_rfl) rfl rfl rfl hr1d9 hr1ek hS1em Tryd.underlying22 (by kernel_rfl) rfl (by decide) (by decide) (by first | omega | (simp only [List.length_cons, List.length_nil] at *; omega)) (fun a1en W1ep v1eq M1er h1eo hr1es hS1et => ?_)
      obtain ⟨y1eu, hy1ev, H⟩ := lete H
      have hr1ew : Row (kInt .u8) 5 b w0 R v1eq y1eu M1er := by rw [hy1ev]; exact hr1es
      clear hr1es
      obtain ⟨A1ex, c1ey, rfl⟩ := hr1ew.form
      refine WL.bl 1 8 h1eo [(8, .slice A1ex y1eu.length c1ey)] (fun a1ez h1f0 => ?_)
      refine WL.dn ?_
      refine wp_ret ?_
      obtain rfl := Option.some.inj H
      repeat (first | with_reducible refine t1 ?_ | with_reducible refine t2 ?_ | with_reducible refine t3 ?_)
      refine bret (.slice A1ex y1eu.length c1ey) h1f0 ?_
      exact ⟨.slice A1ex y1eu.length c1ey, M1er, rfl, hr1ew, hS1et⟩
     ·rw [if_neg c1el] at H
      cases H
    ·rw [if_neg c1ec] at H
     have hb_ : (decide (p3 < (IntKind.u32.wrap ((shlI .u32 1 p1) - 1)))) = false := decide_eq_false c1ec
     try rw [hb_] at h1eb
     clear hb_
     refine wp_else h1eb rfl ?_
     refine wp_skip ?_
     refine wp_seq ?_
     refine WL.start ?_
     refine WL.bl 5 5 h1eb [(43, .int .u8 (bOr .u8 (bAndNot .u8 p2 (IntKind.u8.wrap (IntKind.u32.wrap ((shlI .u32 1 p1) - 1)))) (IntKind.u8.wrap (IntKind.u32.wrap ((shlI .u32 1 p1) - 1))))), (42, .int .u8 (IntKind.u8.wrap (IntKind.u32.wrap ((shlI .u32 1 p1) - 1)))), (41, .int .u32 (IntKind.u32.wrap ((shlI .u32 1 p1) - 1))), (40, .int .u8 (bAndNot .u8 p2 (IntKind.u8.wrap (IntKind.u32.wrap ((shlI .u32 1 p1) - 1))))), (39, .slice A1db r1d1.length c1dc)] (fun a1f1 h1f2 => ?_)
     refine WL.oq h1f2 rfl ?_
     refine owp_nw (fun g_ => .slice (some ⟨g_, 0, none⟩) 1 1) (.cells ([.int .u8 (bOr .u8 (bAndNot .u8 p2 (IntKind.u8.wrap (IntKind.u32.wrap ((shlI .u32 1 p1) - 1)))) (IntKind.u8.wrap (IntKind.u32.wrap ((shlI .u32 1 p1) - 1))))] : List Value).toArray 5 (0, 0)) h1f2 rfl hS1do (fun a1f3 W1f5 g1f6 h1f4 hS1f7 => ?_)
     have hr1f8 : Row (kInt .u8) 5 b w0 R (.slice (some ⟨g1f6, 0, none⟩) 1 1) ([bOr .u8 (bAndNot .u8 p2 (IntKind.u8.wrap (IntKind.u32.wrap ((shlI .u32 1 p1) - 1)))) (IntKind.u8.wrap (IntKind.u32.wrap ((shlI .u32 1 p1) - 1)))] : List Int) (bx g1f6 5 [.int .u8 (bOr .u8 (bAndNot .u8 p2 (IntKind.u8.wrap (IntKind.u32.wrap ((shlI .u32 1 p1) - 1)))) (IntKind.u8.wrap (IntKind.u32.wrap ((shlI .u32 1 p1) - 1))))]) := Row.lit (xs := ([bOr .u8 (bAndNot .u8 p2 (IntKind.u8.wrap (IntKind.u32.wrap ((shlI .u32 1 p1) - 1)))) (IntKind.u8.wrap (IntKind.u32.wrap ((shlI .u32 1 p1) - 1)))] : List Int)) (Mi := []) ⟨_, _, [], _, rfl, rfl, ⟨rfl, rfl⟩, ⟨rfl, rfl⟩⟩ (by simp [maxLen])
     clear h1eb a1ea h1f2 a1f1
     by_cases c1f9 : r1d1.length + 1 ≤ 140737488355328
     ·rw [if_pos c1f9] at H
      have hS1fa := hS1f7.b1
      refine WL.oq h1f4 rfl ?_
      refine owp_app_take (z := .int .u8 0) (bytes := 1) (dk := (kInt .u8)) h1f4 rfl (by kernel_rfl) rfl rfl rfl hr1d9 hr1f8 hS1fa Tryd.underlying22 (by kernel_rfl) rfl (by decide) (by decide) (by first | omega | (simp only [List.length_cons, List.length_nil] at *; omega)) (fun a1fb W1fd v1fe M1ff h1fc hr1fg hS1fh => ?_)
      obtain ⟨y1fi, hy1fj, H⟩ := lete H
      have hr1fk : Row (kInt .u8) 5 b w0 R v1fe y1fi M1ff := by rw [hy1fj]; exact hr1fg
      clear hr1fg
      obtain ⟨A1fl, c1fm, rfl⟩ := hr1fk.form
      refine WL.bl 1 8 h1fc [(9, .slice A1fl y1fi.length c1fm)] (fun a1fn h1fo => ?_)
      refine WL.dn ?_
      refine wp_seq ?_
      refine WL.start ?_
      refine WL.bl 4 4 h1fo [(3, .int .u32 (IntKind.u32.wrap (p3 - (IntKind.u32.wrap ((shlI .u32 1 p1) - 1))))), (48, .int .u32 (IntKind.u32.wrap (p3 - (IntKind.u32.wrap ((shlI .u32 1 p1) - 1))))), (47, .int .u32 (IntKind.u32.wrap ((shlI .u32 1 p1) - 1))), (46, .int .u32 p3)] (fun a1fp h1fq => ?_)
      refine WL.dn ?_
      refine wp_seq ?_
      refine wp_block ?_
      clear h1f4 a1f3 h1fc a1fb h1fo a1fn
      refine wp_loop_ghost (fun kq_ a_ W_ => ∃ (x1fw : Int), ∃ (x1fx : (List Int)), ∃ (A1fy : Option Addr), ∃ (c1fz : Nat), ∃ (M1g0 : Frag), Hd a_ 65 [(3, .int .u32 x1fw), (9, .slice A1fy x1fx.length c1fz)] ∧ Asd (prefix_Put.l0 kq_ x1fw x1fx = some r0q) ∧ Asd (kq_ ≤ k) ∧ Asd (St b w0 W_ R (M1g0 :: Fs)) ∧ Asd (Row (kInt .u8) 5 b w0 R (.slice A1fy x1fx.length c1fz) x1fx M1g0)) k ⟨IntKind.u32.wrap (p3 - (IntKind.u32.wrap ((shlI .u32 1 p1) - 1))), y1fi, A1fl, c1fm, M1ff, h1fq.keep ⟨rfl, rfl, trivial⟩, ⟨H⟩, ⟨Nat.le_refl _⟩, ⟨hS1fh⟩, ⟨hr1fk⟩⟩ ?_
      clear H hS1fh
      rintro kk1fv a1fs W1ft ⟨x1fw, x1fx, A1fy, c1fz, M1g0, h1fr, ⟨H⟩, ⟨hkkk1fv⟩, ⟨hS1fu⟩, ⟨hr1g1⟩⟩
      obtain _ | kk1g2 := kk1fv
      ·exact absurd H (by simp [prefix_Put.l0])
      simp only [prefix_Put.l0] at H
      refine wp_seq ?_
      refine wp_seq ?_
      refine WL.start ?_
      refine WL.bl 2 2 h1fr [(50, .bool (decide (x1fw > 127))), (49, .int .u32 x1fw)] (fun a1g3 h1g4 => ?_)
      refine WL.dn ?_
      clear h1fr a1fs
      by_cases c1g5 : x1fw > 127
      ·rw [if_pos c1g5] at H
       have hb_ : (decide (x1fw > 127)) = true := decide_eq_true c1g5
       try rw [hb_] at h1g4
       clear hb_
       refine wp_then h1g4 rfl ?_
       refine wp_skip ?_
       refine wp_block ?_
       refine wp_seq ?_
       refine WL.start ?_
       refine WL.bl 5 5 h1g4 [(55, .int .u8 (bOr .u8 (IntKind.u8.wrap (bAnd .u32 x1fw 127)) 128)), (54, .int .u8 (IntKind.u8.wrap (bAnd .u32 x1fw 127))), (53, .int .u32 (bAnd .u32 x1fw 127)), (52, .int .u32 x1fw), (51, .slice A1fy x1fx.length c1fz)] (fun a1g6 h1g7 => ?_)
       refine WL.oq h1g7 rfl ?_
       refine owp_nw (fun g_ => .slice (some ⟨g_, 0, none⟩) 1 1) (.cells ([.int .u8 (bOr .u8 (IntKind.u8.wrap (bAnd .u32 x1fw 127)) 128)] : List Value).toArray 5 (0, 0)) h1g7 rfl hS1fu (fun a1g8 W1ga g1gb h1g9 hS1gc => ?_)
       have hr1gd : Row (kInt .u8) 5 b w0 R (.slice (some ⟨g1gb, 0, none⟩) 1 1) ([bOr .u8 (IntKind.u8.wrap (bAnd .u32 x1fw 127)) 128] : List Int) (bx g1gb 5 [.int .u8 (bOr .u8 (IntKind.u8.wrap (bAnd .u32 x1fw 127)) 128)]) := Row.lit (xs := ([bOr .u8 (IntKind.u8.wrap (bAnd .u32 x1fw 127)) 128] : List Int)) (Mi := []) ⟨_, _, [], _, rfl, rfl, ⟨rfl, rfl⟩, ⟨rfl, rfl⟩⟩ (by simp [maxLen])
       clear h1g4 a1g3 h1g7 a1g6
       by_cases c1ge : x1fx.length + 1 ≤ 140737488355328
       ·rw [if_pos c1ge] at H
        have hS1gf := hS1gc.b1
        refine WL.oq h1g9 rfl ?_
        refine owp_app_take (z := .int .u8 0) (bytes := 1) (dk := (kInt .u8)) h1g9 rfl (by kernel_rfl) rfl rfl rfl hr1g1 hr1gd hS1gf Tryd.underlying22 (by kernel_rfl) rfl (by decide) (by decide) (by first | omega | (simp only [List.length_cons, List.length_nil] at *; omega)) (fun a1gg W1gi v1gj M1gk h1gh hr1gl hS1gm => ?_)
        obtain ⟨y1gn, hy1go, H⟩ := lete H
        have hr1gp : Row (kInt .u8) 5 b w0 R v1gj y1gn M1gk := by rw [hy1go]; exact hr1gl
        clear hr1gl
        obtain ⟨A1gq, c1gr, rfl⟩ := hr1gp.form
        refine WL.bl 1 8 h1gh [(9, .slice A1gq y1gn.length c1gr)] (fun a1gs h1gt => ?_)
        refine WL.dn ?_
        refine WL.start ?_
        refine WL.bl 3 3 h1gt [(3, .int .u32 (shrI .u32 x1fw 7)), (59, .int .u32 (shrI .u32 x1fw 7)), (58, .int .u32 x1fw)] (fun a1gu h1gv => ?_)
        refine WL.dn ?_
        exact ⟨kk1g2, by omega, shrI .u32 x1fw 7, y1gn, A1gq, c1gr, M1gk, h1gv.keep ⟨rfl, rfl, trivial⟩, ⟨H⟩, ⟨by omega⟩, ⟨hS1gm⟩, ⟨hr1gp⟩⟩
       ·rw [if_neg c1ge] at H
        cases H
      ·rw [if_neg c1g5] at H
       have hb_ : (decide (x1fw > 127)) = false := decide_eq_false c1g5
       try rw [hb_] at h1g4
       clear hb_
       refine wp_else h1g4 rfl ?_
       refine wp_exit ?_
       refine wp_seq ?_
       refine WL.start ?_
       refine WL.bl 3 3 h1g4 [(62, .int .u8 (IntKind.u8.wrap x1fw)), (61, .int .u32 x1fw), (60, .slice A1fy x1fx.length c1fz)] (fun a1gw h1gx => ?_)
       refine WL.oq h1gx rfl ?_
       refine owp_nw (fun g_ => .slice (some ⟨g_, 0, none⟩) 1 1) (.cells ([.int .u8 (IntKind.u8.wrap x1fw)] : List Value).toArray 5 (0, 0)) h1gx rfl hS1fu (fun a1gy W1h0 g1h1 h1gz hS1h2 => ?_)
       have hr1h3 : Row (kInt .u8) 5 b w0 R (.slice (some ⟨g1h1, 0, none⟩) 1 1) ([IntKind.u8.wrap x1fw] : List Int) (bx g1h1 5 [.int .u8 (IntKind.u8.wrap x1fw)]) := Row.lit (xs := ([IntKind.u8.wrap x1fw] : List Int)) (Mi := []) ⟨_, _, [], _, rfl, rfl, ⟨rfl, rfl⟩, ⟨rfl, rfl⟩⟩ (by simp [maxLen])
       clear h1g4 a1g3 h1gx a1gw
       by_cases c1h4 : x1fx.length + 1 ≤ 140737488355328
       ·rw [if_pos c1h4] at H
        have hS1h5 := hS1h2.b1
        refine WL.oq h1gz rfl ?_
        refine owp_app_take (z := .int .u8 0) (bytes := 1) (dk := (kInt .u8)) h1gz rfl (by kernel_rfl) rfl rfl rfl hr1g1 hr1h3 hS1h5 Tryd.underlying22 (by kernel_rfl) rfl (by decide) (by decide) (by first | omega | (simp only [List.length_cons, List.length_nil] at *; omega)) (fun a1h6 W1h8 v1h9 M1ha h1h7 hr1hb hS1hc => ?_)
        obtain ⟨y1hd, hy1he, H⟩ := lete H
        have hr1hf : Row (kInt .u8) 5 b w0 R v1h9 y1hd M1ha := by rw [hy1he]; exact hr1hb
        clear hr1hb
        obtain ⟨A1hg, c1hh, rfl⟩ := hr1hf.form
        refine WL.bl 1 6 h1h7 [(8, .slice A1hg y1hd.length c1hh)] (fun a1hi h1hj => ?_)
        refine WL.dn ?_
        refine wp_ret ?_
        obtain rfl := Option.some.inj H
        repeat (first | with_reducible refine t1 ?_ | with_reducible refine t2 ?_ | with_reducible refine t3 ?_)
        refine bret (.slice A1hg y1hd.length c1hh) h1hj ?_
        exact ⟨.slice A1hg y1hd.length c1hh, M1ha, rfl, hr1hf, hS1hc⟩
       ·rw [if_neg c1h4] at H
        cases H
     ·rw [if_neg c1f9] at H
      cases H
   ·rw [if_neg c1e3] at H
    cases H
 ·rw [if_neg c1dr] at H
  have hb_ : r1di = false := (Bool.eq_false_iff.2 c1dr)
  try rw [hb_] at h1dq
  clear hb_
  refine WL.sk h1dq rfl rfl (fun a1hk h1hl => ?_)
  refine WL.sk h1hl rfl rfl (fun a1hm h1hn => ?_)
  refine WL.bl 1 7 h1hn [(20, .bool true)] (fun a1ho h1hp => ?_)
  refine WL.dn ?_
  refine wp_then h1hp rfl ?_
  refine wp_seq ?_
  refine WL.start ?_
  refine WL.bl 2 2 h1hp [(8, .slice A1db r1d1.length c1dc), (21, .slice A1db r1d1.length c1dc)] (fun a1hq h1hr => ?_)
  refine WL.dn ?_
  refine wp_ret ?_
  obtain rfl := Option.some.inj H
  repeat (first | with_reducible refine t1 ?_ | with_reducible refine t2 ?_ | with_reducible refine t3 ?_)
  refine bret (.slice A1db r1d1.length c1dc) h1hr ?_
  exact ⟨.slice A1db r1d1.length c1dc, M1d8, rfl, hr1d9, hS1do⟩

def G0 : List S52 := [⟨[58, 97, 117, 116, 104, 111, 114, 105, 116, 121], [], false⟩, ⟨[58, 109, 101, 116, 104, 111, 100], [71, 69, 84], false⟩, ⟨[58, 109, 101, 116, 104, 111, 100], [80, 79, 83, 84], false⟩, ⟨[58, 112, 97, 116, 104], [47], false⟩, ⟨[58, 112, 97, 116, 104], [47, 105, 110, 100, 101, 120, 46, 104, 116, 109, 108], false⟩, ⟨[58, 115, 99, 104, 101, 109, 101], [104, 116, 116, 112], false⟩, ⟨[58, 115, 99, 104, 101, 109, 101], [104, 116, 116, 112, 115], false⟩, ⟨[58, 115, 116, 97, 116, 117, 115], [50, 48, 48], false⟩, ⟨[58, 115, 116, 97, 116, 117, 115], [50, 48, 52], false⟩, ⟨[58, 115, 116, 97, 116, 117, 115], [50, 48, 54], false⟩, ⟨[58, 115, 116, 97, 116, 117, 115], [51, 48, 52], false⟩, ⟨[58, 115, 116, 97, 116, 117, 115], [52, 48, 48], false⟩, ⟨[58, 115, 116, 97, 116, 117, 115], [52, 48, 52], false⟩, ⟨[58, 115, 116, 97, 116, 117, 115], [53, 48, 48], false⟩, ⟨[97, 99, 99, 101, 112, 116, 45, 99, 104, 97, 114, 115, 101, 116], [], false⟩, ⟨[97, 99, 99, 101, 112, 116, 45, 101, 110, 99, 111, 100, 105, 110, 103], [103, 122, 105, 112, 44, 32, 100, 101, 102, 108, 97, 116, 101], false⟩, ⟨[97, 99, 99, 101, 112, 116, 45, 108, 97, 110, 103, 117, 97, 103, 101], [], false⟩, ⟨[97, 99, 99, 101, 112, 116, 45, 114, 97, 110, 103, 101, 115], [], false⟩, ⟨[97, 99, 99, 101, 112, 116], [], false⟩, ⟨[97, 99, 99, 101, 115, 115, 45, 99, 111, 110, 116, 114, 111, 108, 45, 97, 108, 108, 111, 119, 45, 111, 114, 105, 103, 105, 110], [], false⟩, ⟨[97, 103, 101], [], false⟩, ⟨[97, 108, 108, 111, 119], [], false⟩, ⟨[97, 117, 116, 104, 111, 114, 105, 122, 97, 116, 105, 111, 110], [], false⟩, ⟨[99, 97, 99, 104, 101, 45, 99, 111, 110, 116, 114, 111, 108], [], false⟩, ⟨[99, 111, 110, 116, 101, 110, 116, 45, 100, 105, 115, 112, 111, 115, 105, 116, 105, 111, 110], [], false⟩, ⟨[99, 111, 110, 116, 101, 110, 116, 45, 101, 110, 99, 111, 100, 105, 110, 103], [], false⟩, ⟨[99, 111, 110, 116, 101, 110, 116, 45, 108, 97, 110, 103, 117, 97, 103, 101], [], false⟩, ⟨[99, 111, 110, 116, 101, 110, 116, 45, 108, 101, 110, 103, 116, 104], [], false⟩, ⟨[99, 111, 110, 116, 101, 110, 116, 45, 108, 111, 99, 97, 116, 105, 111, 110], [], false⟩, ⟨[99, 111, 110, 116, 101, 110, 116, 45, 114, 97, 110, 103, 101], [], false⟩, ⟨[99, 111, 110, 116, 101, 110, 116, 45, 116, 121, 112, 101], [], false⟩, ⟨[99, 111, 111, 107, 105, 101], [], false⟩, ⟨[100, 97, 116, 101], [], false⟩, ⟨[101, 116, 97, 103], [], false⟩, ⟨[101, 120, 112, 101, 99, 116], [], false⟩, ⟨[101, 120, 112, 105, 114, 101, 115], [], false⟩, ⟨[102, 114, 111, 109], [], false⟩, ⟨[104, 111, 115, 116], [], false⟩, ⟨[105, 102, 45, 109, 97, 116, 99, 104], [], false⟩, ⟨[105, 102, 45, 109, 111, 100, 105, 102, 105, 101, 100, 45, 115, 105, 110, 99, 101], [], false⟩, ⟨[105, 102, 45, 110, 111, 110, 101, 45, 109, 97, 116, 99, 104], [], false⟩, ⟨[105, 102, 45, 114, 97, 110, 103, 101], [], false⟩, ⟨[105, 102, 45, 117, 110, 109, 111, 100, 105, 102, 105, 101, 100, 45, 115, 105, 110, 99, 101], [], false⟩, ⟨[108, 97, 115, 116, 45, 109, 111, 100, 105, 102, 105, 101, 100], [], false⟩, ⟨[108, 105, 110, 107], [], false⟩, ⟨[108, 111, 99, 97, 116, 105, 111, 110], [], false⟩, ⟨[109, 97, 120, 45, 102, 111, 114, 119, 97, 114, 100, 115], [], false⟩, ⟨[112, 114, 111, 120, 121, 45, 97, 117, 116, 104, 101, 110, 116, 105, 99, 97, 116, 101], [], false⟩, ⟨[112, 114, 111, 120, 121, 45, 97, 117, 116, 104, 111, 114, 105, 122, 97, 116, 105, 111, 110], [], false⟩, ⟨[114, 97, 110, 103, 101], [], false⟩, ⟨[114, 101, 102, 101, 114, 101, 114], [], false⟩, ⟨[114, 101, 102, 114, 101, 115, 104], [], false⟩, ⟨[114, 101, 116, 114, 121, 45, 97, 102, 116, 101, 114], [], false⟩, ⟨[115, 101, 114, 118, 101, 114], [], false⟩, ⟨[115, 101, 116, 45, 99, 111, 111, 107, 105, 101], [], false⟩, ⟨[115, 116, 114, 105, 99, 116, 45, 116, 114, 97, 110, 115, 112, 111, 114, 116, 45, 115, 101, 99, 117, 114, 105, 116, 121], [], false⟩, ⟨[116, 114, 97, 110, 115, 102, 101, 114, 45, 101, 110, 99, 111, 100, 105, 110, 103], [], false⟩, ⟨[117, 115, 101, 114, 45, 97, 103, 101, 110, 116], [], false⟩, ⟨[118, 97, 114, 121], [], false⟩, ⟨[118, 105, 97], [], false⟩, ⟨[119, 119, 119, 45, 97, 117, 116, 104, 101, 110, 116, 105, 99, 97, 116, 101], [], false⟩]
theorem G0qlen : G0.length = 61 := by kernel_rfl
abbrev GC0 : List Value := G0.flatMap (fun x : S52 => ([.string (mkS x.f0), .string (mkS x.f1), .bool x.f2] : List Value))
theorem GC0qat {b : Nat} {w0 : World} {R : Frag} (h : Rds k52 b w0 R (.slice (some ⟨0, 0, none⟩) 61 61) G0) : ∀ j u, GC0[j]? = some u → Kn b w0 R ((⟨0, 0, none⟩ : Addr).add j) u := Rds.flat_cells (by decide) (fun h_ => k52qrd h_) (fun _ => rfl) h
/-! ### louver/statics.Find -/
def statics_Find.l0 : Nat → Int → Int → (List UInt8) → (List UInt8) → Option (Int × Bool)
 | 0, _, _, _, _ => none
 | k + 1, x14x, x14y, p0, p1 => if x14y < 61 then (if 0 ≤ x14y then (if x14y < (61 : Int) then (if ((gt z52 G0 x14y).f0) = p0 then (if ((gt z52 G0 x14y).f1) = p1 then (some (IntKind.i64.wrap (x14y + 1), true)) else (if x14x = 0 then (statics_Find.l0 k (IntKind.i64.wrap (x14y + 1)) (IntKind.i64.wrap (x14y + 1)) p0 p1) else (statics_Find.l0 k x14x (IntKind.i64.wrap (x14y + 1)) p0 p1))) else (statics_Find.l0 k x14x (IntKind.i64.wrap (x14y + 1)) p0 p1)) else (none)) else (none)) else (some (x14x, false))
def statics_Find.f (k : Nat) (p0 : (List UInt8)) (p1 : (List UInt8)) : Option (Int × Bool) := statics_Find.l0 k 0 0 p0 p1
set_option maxHeartbeats 20000000 in
set_option maxRecDepth 100000 in
theorem statics_Find.calls (k : Nat) {b : Nat} {w0 W : World} {R : Frag} {Fs : List Frag} {p0 : (List UInt8)} {p1 : (List UInt8)}  {r0q : Int} {r1q : Bool} (hg0 : Rds k52 b w0 [] (.slice (some ⟨0, 0, none⟩) 61 61) G0) (H : statics_Find.f k p0 p1 = some (r0q, r1q)) (hS : St b w0 W R (Fs)) :
  Calls Tryd.prog 55 ([.string (mkS p0), .string (mkS p1)] : List Value).toArray W (fun e W' => e = .returned (.tuple #[i6 r0q, .bool r1q]) ∧ St b w0 W' R (Fs)) := by
 unfold statics_Find.f at H
 refine calls_enter Tryd.func55 rfl 33 rfl (by kernel_rfl) (fun a h => ?_)
 refine wp_seq ?_
 refine WL.start ?_
 refine WL.bl 2 2 h [(5, .bool false), (4, i6 0)] (fun a14k h14l => ?_)
 refine WL.dn ?_
 refine wp_seq ?_
 refine WL.start ?_
 refine WL.bl 1 1 h14l [(6, i6 0)] (fun a14m h14n => ?_)
 refine WL.dn ?_
 refine wp_seq ?_
 refine wp_seq ?_
 refine WL.start ?_
 refine WL.oq h14n rfl ?_
 refine owp_rn (.agg GC0.toArray) h14n rfl (run_loadN rfl rfl Tryd.underlying106 rfl (cs := GC0) (by kernel_rfl) (fun _ _ hj_ => (fun _ _ hk_ => hS.kn hk_) _ _ ((GC0qat hg0 _ _ hj_).mono (fun _ h_ => by cases h_)))) (fun a14o h14p => ?_)
 refine WL.bl 1 2 h14p [(10, i6 0)] (fun a14q h14r => ?_)
 refine WL.dn ?_
 refine wp_block ?_
 clear h14l a14k h14n a14m h14p a14o
 refine wp_loop_ghost (fun kq_ a_ W_ => ∃ (x14x : Int), ∃ (x14y : Int), Hd a_ 33 [(0, .string (mkS p0)), (1, .string (mkS p1)), (6, i6 x14x), (9, .agg GC0.toArray), (10, i6 x14y)] ∧ Asd (statics_Find.l0 kq_ x14x x14y p0 p1 = some (r0q, r1q)) ∧ Asd (kq_ ≤ k) ∧ Asd (St b w0 W_ R (Fs))) k ⟨0, 0, h14r.keep ⟨rfl, rfl, rfl, rfl, rfl, trivial⟩, ⟨H⟩, ⟨Nat.le_refl _⟩, ⟨hS⟩⟩ ?_
 clear H hS
 rintro kk14w a14t W14u ⟨x14x, x14y, h14s, ⟨H⟩, ⟨hkkk14w⟩, ⟨hS14v⟩⟩
 obtain _ | kk14z := kk14w
 ·exact absurd H (by simp [statics_Find.l0])
 simp only [statics_Find.l0] at H
 refine wp_seq ?_
 refine WL.start ?_
 refine WL.bl 1 1 h14s [(11, .bool (decide (x14y < 61)))] (fun a150 h151 => ?_)
 refine WL.dn ?_
 refine wp_seq ?_
 clear h14s a14t
 by_cases c152 : x14y < 61
 ·rw [if_pos c152] at H
  have hb_ : (decide (x14y < 61)) = true := decide_eq_true c152
  try rw [hb_] at h151
  clear hb_
  refine wp_then h151 rfl ?_
  refine wp_skip ?_
  refine wp_seq ?_
  refine wp_block ?_
  refine wp_seq ?_
  refine WL.start ?_
  refine WL.bl 1 1 h151 [(12, i6 x14y)] (fun a153 h154 => ?_)
  clear h151 a150
  by_cases c155 : 0 ≤ x14y
  ·rw [if_pos c155] at H
   by_cases c156 : x14y < (61 : Int)
   ·rw [if_pos c156] at H
    have hi157 : 0 ≤ x14y := by first | assumption | omega
    have hi159 : x14y < ((61 : Nat) : Int) := by omega
    have hi158 : x14y < (G0.length : Int) := by rw [G0qlen]; exact hi159
    refine WL.oq h154 rfl ?_
    refine owp_rn (.agg #[.string (mkS ((gt z52 G0 x14y).f0)), .string (mkS ((gt z52 G0 x14y).f1)), .bool ((gt z52 G0 x14y).f2)]) h154 rfl (run_index_st rfl rfl rfl Tryd.underlying106 Tryd.underlying52 rfl (by kernel_rfl) hi157 hi159 (sz := 3) (cs' := [.string (mkS ((gt z52 G0 x14y).f0)), .string (mkS ((gt z52 G0 x14y).f1)), .bool ((gt z52 G0 x14y).f2)]) (flat_at (f := (fun x : S52 => ([.string (mkS x.f0), .string (mkS x.f1), .bool x.f2] : List Value))) (sz := 3) (fun _ => rfl) G0 _ _ (gt_get (z := z52) hi157 hi158))) (fun a15a h15b => ?_)
    refine WL.oq h15b rfl ?_
    refine owp_nw (fun g_ => (pt g_)) (.cells ([.string (mkS []), .string (mkS []), .bool false] : List Value).toArray 52 (0, 0)) h15b rfl hS14v (fun a15c W15e g15f h15d hS15g => ?_)
    refine WL.bl 1 4 h15d [(7, i6 x14y)] (fun a15h h15i => ?_)
    refine WL.oq h15i rfl ?_
    refine owp_st 0 [.string (mkS ((gt z52 G0 x14y).f0)), .string (mkS ((gt z52 G0 x14y).f1)), .bool ((gt z52 G0 x14y).f2)] h15i rfl rfl rfl hS15g [.string (mkS ((gt z52 G0 x14y).f0)), .string (mkS ((gt z52 G0 x14y).f1)), .bool ((gt z52 G0 x14y).f2)] (fun a15j W15l h15k hS15m => ?_)
    refine WL.dn ?_
    refine wp_block ?_
    refine wp_seq ?_
    refine WL.start ?_
    refine WL.bl 1 1 h15k [(15, pt g15f)] (fun a15n h15o => ?_)
    refine WL.oq h15o rfl ?_
    refine owp_rn (.string (mkS ((gt z52 G0 x14y).f0))) h15o rfl (run_load1 rfl rfl Tryd.underlying9 rfl (hS15m.cell (i := 0) rfl)) (fun a15p h15q => ?_)
    refine WL.bl 1 3 h15q [(17, .string (mkS p0))] (fun a15r h15s => ?_)
    refine WL.oq h15s rfl ?_
    refine owp_rn (.bool (!decide (((gt z52 G0 x14y).f0) = p0))) h15s rfl (run_strne rfl rfl rfl) (fun a15t h15u => ?_)
    refine WL.bl 1 5 h15u [(14, .bool (!decide (((gt z52 G0 x14y).f0) = p0)))] (fun a15v h15w => ?_)
    refine WL.dn ?_
    clear h154 a153 h15b a15a h15d a15c h15i a15h h15k a15j h15o a15n h15q a15p h15s a15r h15u a15t
    by_cases c15x : ((gt z52 G0 x14y).f0) = p0
    ·rw [if_pos c15x] at H
     have hb_ : (decide (((gt z52 G0 x14y).f0) = p0)) = true := decide_eq_true c15x
     try rw [hb_] at h15w
     clear hb_
     refine wp_else h15w rfl ?_
     refine wp_seq ?_
     refine WL.start ?_
     refine WL.bl 1 1 h15w [(20, .pointer (some ⟨g15f, 1, none⟩))] (fun a15y h15z => ?_)
     refine WL.oq h15z rfl ?_
     refine owp_rn (.string (mkS ((gt z52 G0 x14y).f1))) h15z rfl (run_load1 rfl rfl Tryd.underlying9 rfl (hS15m.cell (i := 1) rfl)) (fun a160 h161 => ?_)
     refine WL.bl 1 3 h161 [(22, .string (mkS p1))] (fun a162 h163 => ?_)
     refine WL.oq h163 rfl ?_
     refine owp_rn (.bool (decide (((gt z52 G0 x14y).f1) = p1))) h163 rfl (run_streq rfl rfl rfl) (fun a164 h165 => ?_)
     refine WL.bl 1 5 h165 [(19, .bool (decide (((gt z52 G0 x14y).f1) = p1)))] (fun a166 h167 => ?_)
     refine WL.dn ?_
     clear h15w a15v h15z a15y h161 a160 h163 a162 h165 a164
     by_cases c168 : ((gt z52 G0 x14y).f1) = p1
     ·rw [if_pos c168] at H
      have hb_ : (decide (((gt z52 G0 x14y).f1) = p1)) = true := decide_eq_true c168
      try rw [hb_] at h167
      clear hb_
      refine wp_then h167 rfl ?_
      refine wp_seq ?_
      refine WL.start ?_
      refine WL.bl 4 4 h167 [(5, .bool true), (4, i6 (IntKind.i64.wrap (x14y + 1))), (25, i6 (IntKind.i64.wrap (x14y + 1))), (24, i6 x14y)] (fun a169 h16a => ?_)
      refine WL.dn ?_
      refine wp_ret ?_
      have hS16b := hS15m.drop_
      obtain ⟨rfl, rfl⟩ := ret2 H
      repeat (first | with_reducible refine t1 ?_ | with_reducible refine t2 ?_ | with_reducible refine t3 ?_)
      refine bret (.tuple #[i6 (IntKind.i64.wrap (x14y + 1)), .bool true]) h16a ?_
      exact ⟨rfl, hS16b⟩
     ·rw [if_neg c168] at H
      have hb_ : (decide (((gt z52 G0 x14y).f1) = p1)) = false := decide_eq_false c168
      try rw [hb_] at h167
      clear hb_
      refine wp_else h167 rfl ?_
      refine wp_seq ?_
      refine WL.start ?_
      refine WL.bl 3 3 h167 [(26, .bool (decide (x14x = 0))), (28, .bool (decide (x14x = 0))), (27, i6 x14x)] (fun a16c h16d => ?_)
      refine WL.dn ?_
      clear h167 a166
      by_cases c16e : x14x = 0
      ·rw [if_pos c16e] at H
       have hb_ : (decide (x14x = 0)) = true := decide_eq_true c16e
       try rw [hb_] at h16d
       clear hb_
       refine wp_then h16d rfl ?_
       refine WL.start ?_
       refine WL.bl 3 3 h16d [(6, i6 (IntKind.i64.wrap (x14y + 1))), (30, i6 (IntKind.i64.wrap (x14y + 1))), (29, i6 x14y)] (fun a16f h16g => ?_)
       refine WL.dn ?_
       refine WL.start ?_
       refine WL.bl 2 2 h16g [(10, i6 (IntKind.i64.wrap (x14y + 1))), (31, i6 (IntKind.i64.wrap (x14y + 1)))] (fun a16h h16i => ?_)
       refine WL.dn ?_
       have hS16j := hS15m.drop_
       exact ⟨kk14z, by omega, IntKind.i64.wrap (x14y + 1), IntKind.i64.wrap (x14y + 1), h16i.keep ⟨rfl, rfl, rfl, rfl, rfl, trivial⟩, ⟨H⟩, ⟨by omega⟩, ⟨hS16j⟩⟩
      ·rw [if_neg c16e] at H
       have hb_ : (decide (x14x = 0)) = false := decide_eq_false c16e
       try rw [hb_] at h16d
       clear hb_
       refine wp_else h16d rfl ?_
       refine wp_skip ?_
       refine WL.start ?_
       refine WL.bl 2 2 h16d [(10, i6 (IntKind.i64.wrap (x14y + 1))), (31, i6 (IntKind.i64.wrap (x14y + 1)))] (fun a16k h16l => ?_)
       refine WL.dn ?_
       have hS16m := hS15m.drop_
       exact ⟨kk14z, by omega, x14x, IntKind.i64.wrap (x14y + 1), h16l.keep ⟨rfl, rfl, rfl, rfl, rfl, trivial⟩, ⟨H⟩, ⟨by omega⟩, ⟨hS16m⟩⟩
    ·rw [if_neg c15x] at H
     have hb_ : (decide (((gt z52 G0 x14y).f0) = p0)) = false := decide_eq_false c15x
     try rw [hb_] at h15w
     clear hb_
     refine wp_then h15w rfl ?_
     refine wp_skip ?_
     refine WL.start ?_
     refine WL.bl 2 2 h15w [(10, i6 (IntKind.i64.wrap (x14y + 1))), (31, i6 (IntKind.i64.wrap (x14y + 1)))] (fun a16n h16o => ?_)
     refine WL.dn ?_
     have hS16p := hS15m.drop_
     exact ⟨kk14z, by omega, x14x, IntKind.i64.wrap (x14y + 1), h16o.keep ⟨rfl, rfl, rfl, rfl, rfl, trivial⟩, ⟨H⟩, ⟨by omega⟩, ⟨hS16p⟩⟩
   ·rw [if_neg c156] at H
    cases H
  ·rw [if_neg c155] at H
   cases H
 ·rw [if_neg c152] at H
  have hb_ : (decide (x14y < 61)) = false := decide_eq_false c152
  try rw [hb_] at h151
  clear hb_
  refine wp_else h151 rfl ?_
  refine wp_exit ?_
  refine wp_seq ?_
  refine WL.start ?_
  refine WL.bl 3 3 h151 [(5, .bool false), (4, i6 x14x), (32, i6 x14x)] (fun a16q h16r => ?_)
  refine WL.dn ?_
  refine wp_ret ?_
  obtain ⟨rfl, rfl⟩ := ret2 H
  repeat (first | with_reducible refine t1 ?_ | with_reducible refine t2 ?_ | with_reducible refine t3 ?_)
  refine bret (.tuple #[i6 x14x, .bool false]) h16r ?_
  exact ⟨rfl, hS14v⟩

/-! ### louver/statics.Len -/
def statics_Len.f  : Option (Int) := some 61
set_option maxHeartbeats 20000000 in
set_option maxRecDepth 100000 in
theorem statics_Len.calls {b : Nat} {w0 W : World} {R : Frag} {Fs : List Frag}   {r0q : Int}  (H : statics_Len.f = some r0q) (hS : St b w0 W R (Fs)) :
  Calls Tryd.prog 51 ([] : List Value).toArray W (fun e W' => e = .returned (i6 r0q) ∧ St b w0 W' R (Fs)) := by
 unfold statics_Len.f at H
 refine calls_enter Tryd.func51 rfl 1 rfl (by kernel_rfl) (fun a h => ?_)
 refine wp_seq ?_
 refine WL.start ?_
 refine WL.bl 1 1 h [(0, i6 0)] (fun a104 h105 => ?_)
 refine WL.dn ?_
 refine wp_seq ?_
 refine WL.start ?_
 refine WL.bl 1 1 h105 [(0, i6 61)] (fun a106 h107 => ?_)
 refine WL.dn ?_
 refine wp_ret ?_
 obtain rfl := Option.some.inj H
 repeat (first | with_reducible refine t1 ?_ | with_reducible refine t2 ?_ | with_reducible refine t3 ?_)
 refine bret (i6 61) h107 ?_
 exact ⟨rfl, hS⟩

/-! ### (*louver/dyntable.Table).Find -/
def dyntable_Table_Find.l0 : Nat → Int → Int → S79 → (List UInt8) → (List UInt8) → Option (Int × Bool)
 | 0, _, _, _, _, _ => none
 | k + 1, x1k2, x1k3, p0, p1, p2 => if x1k3 < (p0.f0.length : Int) then (if 0 ≤ (IntKind.i64.wrap ((IntKind.i64.wrap ((p0.f0.length : Int) - 1)) - x1k3)) then (if (IntKind.i64.wrap ((IntKind.i64.wrap ((p0.f0.length : Int) - 1)) - x1k3)) < (p0.f0.length : Int) then (bnd1 (statics_Len.f) fun r1pn => (if ((gt z52 p0.f0 (IntKind.i64.wrap ((IntKind.i64.wrap ((p0.f0.length : Int) - 1)) - x1k3))).f0) = p1 then (if ((gt z52 p0.f0 (IntKind.i64.wrap ((IntKind.i64.wrap ((p0.f0.length : Int) - 1)) - x1k3))).f1) = p2 then (some (IntKind.i64.wrap ((IntKind.i64.wrap (r1pn + 1)) + x1k3), true)) else (if x1k2 = 0 then (dyntable_Table_Find.l0 k (IntKind.i64.wrap ((IntKind.i64.wrap (r1pn + 1)) + x1k3)) (IntKind.i64.wrap (x1k3 + 1)) p0 p1 p2) else (dyntable_Table_Find.l0 k x1k2 (IntKind.i64.wrap (x1k3 + 1)) p0 p1 p2))) else (dyntable_Table_Find.l0 k x1k2 (IntKind.i64.wrap (x1k3 + 1)) p0 p1 p2))) else (none)) else (none)) else (some (x1k2, false))
def dyntable_Table_Find.f (k : Nat) (p0 : S79) (p1 : (List UInt8)) (p2 : (List UInt8)) : Option (Int × Bool) := bnd2 (statics_Find.f k p1 p2) fun r1in r1io => (if r1io = true then (some (r1in, true)) else (dyntable_Table_Find.l0 k r1in 0 p0 p1 p2))
set_option maxHeartbeats 20000000 in
set_option maxRecDepth 100000 in
theorem dyntable_Table_Find.calls (k : Nat) {b : Nat} {w0 W : World} {R : Frag} {Fs : List Frag} {p0 : S79} {p1 : (List UInt8)} {p2 : (List UInt8)}  {v0 : Value} {M0 : Frag} {r0q : Int} {r1q : Bool} (hp0 : Ptr k79 79 b w0 R v0 p0 M0) (hg0 : Rds k52 b w0 [] (.slice (some ⟨0, 0, none⟩) 61 61) G0) (H : dyntable_Table_Find.f k p0 p1 p2 = some (r0q, r1q)) (hS : St b w0 W R (M0 :: Fs)) :
  Calls Tryd.prog 42 ([v0, .string (mkS p1), .string (mkS p2)] : List Value).toArray W (fun e W' => ∃ (O0q : Frag), e = .returned (.tuple #[i6 r0q, .bool r1q]) ∧ Ptr k79 79 b w0 R v0 p0 O0q ∧ St b w0 W' R (O0q :: Fs)) := by
 unfold dyntable_Table_Find.f at H
 refine calls_enter Tryd.func42 rfl 69 rfl (by kernel_rfl) (fun a h => ?_)
 refine wp_seq ?_
 refine WL.start ?_
 refine WL.bl 2 2 h [(7, .bool false), (6, i6 0)] (fun a1ii h1ij => ?_)
 refine WL.dn ?_
 refine wp_seq ?_
 refine WL.start ?_
 refine WL.bl 2 2 h1ij [(15, .string (mkS p2)), (14, .string (mkS p1))] (fun a1ik h1il => ?_)
 obtain ⟨r1in, r1io, A1im, H⟩ := bind2 H
 refine WL.oq h1il rfl ?_
 refine owp_call [.string (mkS p1), .string (mkS p2)] h1il rfl (by kernel_rfl) rfl Tryd.func55 (by kernel_rfl) rfl (by kernel_rfl) (statics_Find.calls k hg0 A1im hS) (fun e1iq W1ip hp1ir => ?_)
 obtain ⟨rfl, hS1iu⟩ := hp1ir
 refine ⟨_, rfl, fun a1is h1it => ?_⟩
 refine WL.bl 5 8 h1it [(9, .bool r1io), (8, i6 r1in), (18, .bool r1io), (17, i6 r1in), (13, .tuple #[i6 r1in, .bool r1io])] (fun a1iv h1iw => ?_)
 refine WL.dn ?_
 refine wp_seq ?_
 refine wp_seq ?_
 refine WL.start ?_
 refine WL.bl 2 2 h1iw [(20, .bool r1io), (19, .bool r1io)] (fun a1ix h1iy => ?_)
 clear h1ij a1ii h1il a1ik h1it a1is h1iw a1iv
 by_cases c1iz : r1io = true
 ·rw [if_pos c1iz] at H
  have hb_ : r1io = true := c1iz
  try rw [hb_] at h1iy
  clear hb_
  refine WL.sk h1iy rfl rfl (fun a1j0 h1j1 => ?_)
  refine WL.sk h1j1 rfl rfl (fun a1j2 h1j3 => ?_)
  refine WL.bl 1 5 h1j3 [(23, .bool true)] (fun a1j4 h1j5 => ?_)
  refine WL.dn ?_
  refine wp_then h1j5 rfl ?_
  refine wp_seq ?_
  refine WL.start ?_
  refine WL.bl 4 4 h1j5 [(7, .bool true), (6, i6 r1in), (25, .bool true), (24, i6 r1in)] (fun a1j6 h1j7 => ?_)
  refine WL.dn ?_
  refine wp_ret ?_
  obtain ⟨rfl, rfl⟩ := ret2 H
  repeat (first | with_reducible refine t1 ?_ | with_reducible refine t2 ?_ | with_reducible refine t3 ?_)
  refine bret (.tuple #[i6 r1in, .bool true]) h1j7 ?_
  exact ⟨M0, rfl, hp0, hS1iu⟩
 ·rw [if_neg c1iz] at H
  have hb_ : r1io = false := (Bool.eq_false_iff.2 c1iz)
  try rw [hb_] at h1iy
  clear hb_
  refine WL.oq h1iy rfl (owp_rk v0 h1iy rfl (fun a1j8 h1j9 => ?_))
  obtain ⟨g1jb, A1jc, c1jd, M1je, rfl, hr1jf, hS1ja⟩ := k79qop hp0 hS1iu
  refine WL.oq h1j9 rfl (owp_rk (.bool false) h1j9 rfl (fun a1jg h1jh => ?_))
  refine WL.bl 1 5 h1jh [(23, .bool false)] (fun a1ji h1jj => ?_)
  refine WL.dn ?_
  refine wp_else h1jj rfl ?_
  refine wp_skip ?_
  refine wp_seq ?_
  refine wp_seq ?_
  refine WL.start ?_
  refine WL.bl 3 3 h1jj [(28, pt g1jb), (27, pt g1jb), (26, pt g1jb)] (fun a1jk h1jl => ?_)
  refine WL.oq h1jl rfl ?_
  refine owp_rn (.slice A1jc p0.f0.length c1jd) h1jl rfl (run_load1 rfl rfl Tryd.underlying23 rfl (hS1ja.cell (i := 0) rfl)) (fun a1jm h1jn => ?_)
  refine WL.bl 2 6 h1jn [(31, i6 0), (30, i6 (p0.f0.length : Int))] (fun a1jo h1jp => ?_)
  refine WL.dn ?_
  refine wp_block ?_
  have hS1jq := hS1ja.b1
  have hS1jr := hS1jq.b1
  obtain ⟨M1js, hp1jt, hS1ju⟩ := k79qfo p0 hr1jf hS1jr
  clear h1iy a1ix h1j9 a1j8 h1jh a1jg h1jj a1ji h1jl a1jk h1jn a1jm
  refine wp_loop_ghost (fun kq_ a_ W_ => ∃ (M1k0 : Frag), ∃ (x1k2 : Int), ∃ (x1k3 : Int), Hd a_ 69 [(0, pt g1jb), (1, .string (mkS p1)), (2, .string (mkS p2)), (8, i6 x1k2), (30, i6 (p0.f0.length : Int)), (31, i6 x1k3)] ∧ Asd (dyntable_Table_Find.l0 kq_ x1k2 x1k3 p0 p1 p2 = some (r0q, r1q)) ∧ Asd (kq_ ≤ k) ∧ Asd (St b w0 W_ R (M1k0 :: Fs)) ∧ Asd (Ptr k79 79 b w0 R (pt g1jb) p0 M1k0)) k ⟨M1js, r1in, 0, h1jp.keep ⟨rfl, rfl, rfl, rfl, rfl, rfl, trivial⟩, ⟨H⟩, ⟨Nat.le_refl _⟩, ⟨hS1ju⟩, ⟨hp1jt⟩⟩ ?_
  clear H hS1ju
  rintro kk1jz a1jw W1jx ⟨M1k0, x1k2, x1k3, h1jv, ⟨H⟩, ⟨hkkk1jz⟩, ⟨hS1jy⟩, ⟨hr1k1⟩⟩
  obtain _ | kk1k4 := kk1jz
  ·exact absurd H (by simp [dyntable_Table_Find.l0])
  simp only [dyntable_Table_Find.l0] at H
  refine wp_seq ?_
  refine WL.start ?_
  refine WL.bl 1 1 h1jv [(32, .bool (decide (x1k3 < (p0.f0.length : Int))))] (fun a1k5 h1k6 => ?_)
  refine WL.dn ?_
  refine wp_seq ?_
  clear h1jv a1jw
  by_cases c1k7 : x1k3 < (p0.f0.length : Int)
  ·rw [if_pos c1k7] at H
   have hb_ : (decide (x1k3 < (p0.f0.length : Int))) = true := decide_eq_true c1k7
   try rw [hb_] at h1k6
   clear hb_
   refine wp_then h1k6 rfl ?_
   refine wp_skip ?_
   refine wp_seq ?_
   refine wp_block ?_
   refine wp_seq ?_
   refine WL.start ?_
   refine WL.bl 2 2 h1k6 [(10, i6 x1k3), (33, i6 x1k3)] (fun a1k8 h1k9 => ?_)
   refine WL.dn ?_
   refine wp_seq ?_
   obtain ⟨A1kb, c1kc, M1kd, hr1ke, hS1ka⟩ := k79qoq hr1k1 hS1jy
   refine WT.start 15 (fun w_ => (w_.cell? ⟨g1jb, 0, none⟩ = some (.slice A1kb p0.f0.length c1kc)) ∧ (∀ a_ u_, Kn b w0 (M1kd ++ R) a_ u_ → w_.cell? a_ = some u_) ∧ True) (by kernel_rfl) #[false, false, false, false, false, false, false, false, false, false, false, false, false, false, false, false] 16 rfl rfl ?_
   have hS1nv := hS1ka.drew
   refine WT.tk 0 h1k9 rfl rfl (pt g1jb) (fun _ _ => by kernel_rfl) ⟨(hS1nv.cell (i := 0) rfl), (fun _ _ hk_ => (hS1nv.bring 1 rfl rfl).pool.kn hk_), trivial⟩ (fun a1nw s1ny h1nx => ?_)
   refine WT.tk 1 h1nx rfl rfl (pt g1jb) (fun _ _ => by kernel_rfl) s1ny (fun a1nz s1o1 h1o0 => ?_)
   refine WT.tk 2 h1o0 rfl rfl (pt g1jb) (fun _ _ => by kernel_rfl) s1o1 (fun a1o2 s1o4 h1o3 => ?_)
   refine WT.tk 4 h1o3 rfl rfl (pt g1jb) (fun _ _ => by kernel_rfl) s1o4 (fun a1o5 s1o7 h1o6 => ?_)
   refine WT.tk 5 h1o6 rfl rfl (pt g1jb) (fun _ _ => by kernel_rfl) s1o7 (fun a1o8 s1oa h1o9 => ?_)
   refine WT.tk 6 h1o9 rfl rfl (pt g1jb) (fun _ _ => by kernel_rfl) s1oa (fun a1ob s1od h1oc => ?_)
   refine WT.tk 10 h1oc rfl rfl (i6 x1k3) (fun _ _ => by kernel_rfl) s1od (fun a1oe s1og h1of => ?_)
   refine WT.tk 3 h1of rfl rfl (.slice A1kb p0.f0.length c1kc) (fun w_ hs_ => (run_load1 rfl rfl Tryd.underlying23 rfl hs_.1)) s1og (fun a1oh s1oj h1oi => ?_)
   refine WT.tk 7 h1oi rfl rfl (.slice A1kb p0.f0.length c1kc) (fun w_ hs_ => (run_load1 rfl rfl Tryd.underlying23 rfl hs_.1)) s1oj (fun a1ok s1om h1ol => ?_)
   refine WT.tk 8 h1ol rfl rfl (i6 (p0.f0.length : Int)) (fun _ _ => by kernel_rfl) s1om (fun a1on s1op h1oo => ?_)
   refine WT.tk 9 h1oo rfl rfl (i6 (IntKind.i64.wrap ((p0.f0.length : Int) - 1))) (fun _ _ => by kernel_rfl) s1op (fun a1oq s1os h1or => ?_)
   clear h1k6 a1k5 h1k9 a1k8 h1nx a1nw h1o0 a1nz h1o3 a1o2 h1o6 a1o5 h1o9 a1o8 h1oc a1ob h1of a1oe h1oi a1oh h1ol a1ok h1oo a1on
   refine WT.tk 11 h1or rfl rfl (i6 (IntKind.i64.wrap ((IntKind.i64.wrap ((p0.f0.length : Int) - 1)) - x1k3))) (fun _ _ => by kernel_rfl) s1os (fun a1ot s1ov h1ou => ?_)
   clear h1or a1oq
   by_cases c1ow : 0 ≤ (IntKind.i64.wrap ((IntKind.i64.wrap ((p0.f0.length : Int) - 1)) - x1k3))
   ·rw [if_pos c1ow] at H
    by_cases c1ox : (IntKind.i64.wrap ((IntKind.i64.wrap ((p0.f0.length : Int) - 1)) - x1k3)) < (p0.f0.length : Int)
    ·rw [if_pos c1ox] at H
     have hi1p0 : 0 ≤ IntKind.i64.wrap ((IntKind.i64.wrap ((p0.f0.length : Int) - 1)) - x1k3) := by first | assumption | omega
     have hi1p1 : (IntKind.i64.wrap ((IntKind.i64.wrap ((p0.f0.length : Int) - 1)) - x1k3)) < (p0.f0.length : Int) := by first | assumption | omega
     obtain ⟨ad1oy, _, ha1oz, -, -⟩ := Rds.elemAny hr1ke.rds hi1p0 (gt_get (z := z52) hi1p0 hi1p1)
     refine WT.tk 12 h1ou rfl rfl (.pointer (some (ad1oy.add ((IntKind.i64.wrap ((IntKind.i64.wrap ((p0.f0.length : Int) - 1)) - x1k3)).toNat * 3)))) (fun w_ hs_ => (run_idx (ad := ad1oy) (sz := 3) rfl (by rw [← ha1oz]; rfl) rfl Tryd.underlying23 (by kernel_rfl) hi1p0 hi1p1)) s1ov (fun a1p2 s1p4 h1p3 => ?_)
     obtain ⟨ad1p5, cs1p6, ha1p7, hr1p9, hc1p8⟩ := Rds.elemAny hr1ke.rds hi1p0 (gt_get (z := z52) hi1p0 hi1p1)
     rw [ha1oz] at ha1p7; obtain rfl := Option.some.inj ha1p7
     obtain rfl := k52qrd hr1p9
     refine WT.tk 13 h1p3 rfl rfl (.agg #[.string (mkS ((gt z52 p0.f0 (IntKind.i64.wrap ((IntKind.i64.wrap ((p0.f0.length : Int) - 1)) - x1k3))).f0)), .string (mkS ((gt z52 p0.f0 (IntKind.i64.wrap ((IntKind.i64.wrap ((p0.f0.length : Int) - 1)) - x1k3))).f1)), .bool ((gt z52 p0.f0 (IntKind.i64.wrap ((IntKind.i64.wrap ((p0.f0.length : Int) - 1)) - x1k3))).f2)]) (fun w_ hs_ => (run_loadN rfl rfl Tryd.underlying52 rfl (cs := [.string (mkS ((gt z52 p0.f0 (IntKind.i64.wrap ((IntKind.i64.wrap ((p0.f0.length : Int) - 1)) - x1k3))).f0)), .string (mkS ((gt z52 p0.f0 (IntKind.i64.wrap ((IntKind.i64.wrap ((p0.f0.length : Int) - 1)) - x1k3))).f1)), .bool ((gt z52 p0.f0 (IntKind.i64.wrap ((IntKind.i64.wrap ((p0.f0.length : Int) - 1)) - x1k3))).f2)]) (by kernel_rfl) (hc1p8 _ hs_.2.1))) s1p4 (fun a1pa s1pc h1pb => ?_)
     refine WT.o1 14 h1pb rfl ?_
     refine owp_nw (fun g_ => (pt g_)) (.cells ([.string (mkS []), .string (mkS []), .bool false] : List Value).toArray 52 (0, 0)) h1pb rfl hS1nv (fun a1pd W1pf g1pg h1pe hS1ph => ?_)
     refine ⟨.inr ⟨(hS1ph.b1.cell (i := 0) rfl), (fun _ _ hk_ => (hS1ph.bring 2 rfl rfl).pool.kn hk_), trivial⟩, ?_⟩
     refine WT.o1 15 h1pe rfl ?_
     refine owp_st 0 [.string (mkS ((gt z52 p0.f0 (IntKind.i64.wrap ((IntKind.i64.wrap ((p0.f0.length : Int) - 1)) - x1k3))).f0)), .string (mkS ((gt z52 p0.f0 (IntKind.i64.wrap ((IntKind.i64.wrap ((p0.f0.length : Int) - 1)) - x1k3))).f1)), .bool ((gt z52 p0.f0 (IntKind.i64.wrap ((IntKind.i64.wrap ((p0.f0.length : Int) - 1)) - x1k3))).f2)] h1pe rfl rfl rfl hS1ph [.string (mkS ((gt z52 p0.f0 (IntKind.i64.wrap ((IntKind.i64.wrap ((p0.f0.length : Int) - 1)) - x1k3))).f0)), .string (mkS ((gt z52 p0.f0 (IntKind.i64.wrap ((IntKind.i64.wrap ((p0.f0.length : Int) - 1)) - x1k3))).f1)), .bool ((gt z52 p0.f0 (IntKind.i64.wrap ((IntKind.i64.wrap ((p0.f0.length : Int) - 1)) - x1k3))).f2)] (fun a1pi W1pk h1pj hS1pl => ?_)
     refine ⟨.inl (by decide), ?_⟩
     refine WT.dn ?_
     refine wp_seq ?_
     refine WL.start ?_
     obtain ⟨r1pn, A1pm, H⟩ := bind1 H
     refine WL.oq h1pj rfl ?_
     refine owp_call [] h1pj rfl (by kernel_rfl) rfl Tryd.func51 (by kernel_rfl) rfl (by kernel_rfl) (statics_Len.calls  A1pm hS1pl) (fun e1pp W1po hp1pq => ?_)
     obtain ⟨rfl, hS1pt⟩ := hp1pq
     refine ⟨_, rfl, fun a1pr h1ps => ?_⟩
     refine WL.bl 4 5 h1ps [(12, i6 (IntKind.i64.wrap ((IntKind.i64.wrap (r1pn + 1)) + x1k3))), (51, i6 (IntKind.i64.wrap ((IntKind.i64.wrap (r1pn + 1)) + x1k3))), (50, i6 x1k3), (49, i6 (IntKind.i64.wrap (r1pn + 1)))] (fun a1pu h1pv => ?_)
     refine WL.dn ?_
     refine wp_block ?_
     refine wp_seq ?_
     refine WL.start ?_
     refine WL.bl 1 1 h1pv [(53, pt g1pg)] (fun a1pw h1px => ?_)
     refine WL.oq h1px rfl ?_
     refine owp_rn (.string (mkS ((gt z52 p0.f0 (IntKind.i64.wrap ((IntKind.i64.wrap ((p0.f0.length : Int) - 1)) - x1k3))).f0))) h1px rfl (run_load1 rfl rfl Tryd.underlying9 rfl (hS1pt.cell (i := 0) rfl)) (fun a1py h1pz => ?_)
     refine WL.bl 1 3 h1pz [(55, .string (mkS p1))] (fun a1q0 h1q1 => ?_)
     refine WL.oq h1q1 rfl ?_
     refine owp_rn (.bool (!decide (((gt z52 p0.f0 (IntKind.i64.wrap ((IntKind.i64.wrap ((p0.f0.length : Int) - 1)) - x1k3))).f0) = p1))) h1q1 rfl (run_strne rfl rfl rfl) (fun a1q2 h1q3 => ?_)
     refine WL.bl 1 5 h1q3 [(52, .bool (!decide (((gt z52 p0.f0 (IntKind.i64.wrap ((IntKind.i64.wrap ((p0.f0.length : Int) - 1)) - x1k3))).f0) = p1)))] (fun a1q4 h1q5 => ?_)
     refine WL.dn ?_
     clear h1ou a1ot h1p3 a1p2 h1pb a1pa h1pe a1pd h1pj a1pi h1ps a1pr h1pv a1pu h1px a1pw h1pz a1py h1q1 a1q0 h1q3 a1q2
     by_cases c1q6 : ((gt z52 p0.f0 (IntKind.i64.wrap ((IntKind.i64.wrap ((p0.f0.length : Int) - 1)) - x1k3))).f0) = p1
     ·rw [if_pos c1q6] at H
      have hb_ : (decide (((gt z52 p0.f0 (IntKind.i64.wrap ((IntKind.i64.wrap ((p0.f0.length : Int) - 1)) - x1k3))).f0) = p1)) = true := decide_eq_true c1q6
      try rw [hb_] at h1q5
      clear hb_
      refine wp_else h1q5 rfl ?_
      refine wp_seq ?_
      refine WL.start ?_
      refine WL.bl 1 1 h1q5 [(58, .pointer (some ⟨g1pg, 1, none⟩))] (fun a1q7 h1q8 => ?_)
      refine WL.oq h1q8 rfl ?_
      refine owp_rn (.string (mkS ((gt z52 p0.f0 (IntKind.i64.wrap ((IntKind.i64.wrap ((p0.f0.length : Int) - 1)) - x1k3))).f1))) h1q8 rfl (run_load1 rfl rfl Tryd.underlying9 rfl (hS1pt.cell (i := 1) rfl)) (fun a1q9 h1qa => ?_)
      refine WL.bl 1 3 h1qa [(60, .string (mkS p2))] (fun a1qb h1qc => ?_)
      refine WL.oq h1qc rfl ?_
      refine owp_rn (.bool (decide (((gt z52 p0.f0 (IntKind.i64.wrap ((IntKind.i64.wrap ((p0.f0.length : Int) - 1)) - x1k3))).f1) = p2))) h1qc rfl (run_streq rfl rfl rfl) (fun a1qd h1qe => ?_)
      refine WL.bl 1 5 h1qe [(57, .bool (decide (((gt z52 p0.f0 (IntKind.i64.wrap ((IntKind.i64.wrap ((p0.f0.length : Int) - 1)) - x1k3))).f1) = p2)))] (fun a1qf h1qg => ?_)
      refine WL.dn ?_
      clear h1q5 a1q4 h1q8 a1q7 h1qa a1q9 h1qc a1qb h1qe a1qd
      by_cases c1qh : ((gt z52 p0.f0 (IntKind.i64.wrap ((IntKind.i64.wrap ((p0.f0.length : Int) - 1)) - x1k3))).f1) = p2
      ·rw [if_pos c1qh] at H
       have hb_ : (decide (((gt z52 p0.f0 (IntKind.i64.wrap ((IntKind.i64.wrap ((p0.f0.length : Int) - 1)) - x1k3))).f1) = p2)) = true := decide_eq_true c1qh
       try rw [hb_] at h1qg
       clear hb_
       refine wp_then h1qg rfl ?_
       refine wp_seq ?_
       refine WL.start ?_
       refine WL.bl 3 3 h1qg [(7, .bool true), (6, i6 (IntKind.i64.wrap ((IntKind.i64.wrap (r1pn + 1)) + x1k3))), (62, i6 (IntKind.i64.wrap ((IntKind.i64.wrap (r1pn + 1)) + x1k3)))] (fun a1qi h1qj => ?_)
       refine WL.dn ?_
       refine wp_ret ?_
       have hS1qk := hS1pt.b2
       have hS1ql := hS1qk.b2
       obtain ⟨M1qm, hp1qn, hS1qo⟩ := k79qfo p0 hr1ke hS1ql
       have hS1qp := hS1qo.b1
       have hS1qq := hS1qp.drop_
       obtain ⟨rfl, rfl⟩ := ret2 H
       repeat (first | with_reducible refine t1 ?_ | with_reducible refine t2 ?_ | with_reducible refine t3 ?_)
       refine bret (.tuple #[i6 (IntKind.i64.wrap ((IntKind.i64.wrap (r1pn + 1)) + x1k3)), .bool true]) h1qj ?_
       exact ⟨M1qm, rfl, hp1qn, hS1qq⟩
      ·rw [if_neg c1qh] at H
       have hb_ : (decide (((gt z52 p0.f0 (IntKind.i64.wrap ((IntKind.i64.wrap ((p0.f0.length : Int) - 1)) - x1k3))).f1) = p2)) = false := decide_eq_false c1qh
       try rw [hb_] at h1qg
       clear hb_
       refine wp_else h1qg rfl ?_
       refine wp_seq ?_
       refine WL.start ?_
       refine WL.bl 3 3 h1qg [(63, .bool (decide (x1k2 = 0))), (65, .bool (decide (x1k2 = 0))), (64, i6 x1k2)] (fun a1qr h1qs => ?_)
       refine WL.dn ?_
       clear h1qg a1qf
       by_cases c1qt : x1k2 = 0
       ·rw [if_pos c1qt] at H
        have hb_ : (decide (x1k2 = 0)) = true := decide_eq_true c1qt
        try rw [hb_] at h1qs
        clear hb_
        refine wp_then h1qs rfl ?_
        refine WL.start ?_
        refine WL.bl 2 2 h1qs [(8, i6 (IntKind.i64.wrap ((IntKind.i64.wrap (r1pn + 1)) + x1k3))), (66, i6 (IntKind.i64.wrap ((IntKind.i64.wrap (r1pn + 1)) + x1k3)))] (fun a1qu h1qv => ?_)
        refine WL.dn ?_
        refine WL.start ?_
        refine WL.bl 2 2 h1qv [(31, i6 (IntKind.i64.wrap (x1k3 + 1))), (67, i6 (IntKind.i64.wrap (x1k3 + 1)))] (fun a1qw h1qx => ?_)
        refine WL.dn ?_
        have hS1qy := hS1pt.b2
        have hS1qz := hS1qy.b2
        obtain ⟨M1r0, hp1r1, hS1r2⟩ := k79qfo p0 hr1ke hS1qz
        have hS1r3 := hS1r2.b1
        have hS1r4 := hS1r3.drop_
        exact ⟨kk1k4, by omega, M1r0, IntKind.i64.wrap ((IntKind.i64.wrap (r1pn + 1)) + x1k3), IntKind.i64.wrap (x1k3 + 1), h1qx.keep ⟨rfl, rfl, rfl, rfl, rfl, rfl, trivial⟩, ⟨H⟩, ⟨by omega⟩, ⟨hS1r4⟩, ⟨hp1r1⟩⟩
       ·rw [if_neg c1qt] at H
        have hb_ : (decide (x1k2 = 0)) = false := decide_eq_false c1qt
        try rw [hb_] at h1qs
        clear hb_
        refine wp_else h1qs rfl ?_
        refine wp_skip ?_
        refine WL.start ?_
        refine WL.bl 2 2 h1qs [(31, i6 (IntKind.i64.wrap (x1k3 + 1))), (67, i6 (IntKind.i64.wrap (x1k3 + 1)))] (fun a1r5 h1r6 => ?_)
        refine WL.dn ?_
        have hS1r7 := hS1pt.b2
        have hS1r8 := hS1r7.b2
        obtain ⟨M1r9, hp1ra, hS1rb⟩ := k79qfo p0 hr1ke hS1r8
        have hS1rc := hS1rb.b1
        have hS1rd := hS1rc.drop_
        exact ⟨kk1k4, by omega, M1r9, x1k2, IntKind.i64.wrap (x1k3 + 1), h1r6.keep ⟨rfl, rfl, rfl, rfl, rfl, rfl, trivial⟩, ⟨H⟩, ⟨by omega⟩, ⟨hS1rd⟩, ⟨hp1ra⟩⟩
     ·rw [if_neg c1q6] at H
      have hb_ : (decide (((gt z52 p0.f0 (IntKind.i64.wrap ((IntKind.i64.wrap ((p0.f0.length : Int) - 1)) - x1k3))).f0) = p1)) = false := decide_eq_false c1q6
      try rw [hb_] at h1q5
      clear hb_
      refine wp_then h1q5 rfl ?_
      refine wp_skip ?_
      refine WL.start ?_
      refine WL.bl 2 2 h1q5 [(31, i6 (IntKind.i64.wrap (x1k3 + 1))), (67, i6 (IntKind.i64.wrap (x1k3 + 1)))] (fun a1re h1rf => ?_)
      refine WL.dn ?_
      have hS1rg := hS1pt.b2
      have hS1rh := hS1rg.b2
      obtain ⟨M1ri, hp1rj, hS1rk⟩ := k79qfo p0 hr1ke hS1rh
      have hS1rl := hS1rk.b1
      have hS1rm := hS1rl.drop_
      exact ⟨kk1k4, by omega, M1ri, x1k2, IntKind.i64.wrap (x1k3 + 1), h1rf.keep ⟨rfl, rfl, rfl, rfl, rfl, rfl, trivial⟩, ⟨H⟩, ⟨by omega⟩, ⟨hS1rm⟩, ⟨hp1rj⟩⟩
    ·rw [if_neg c1ox] at H
     cases H
   ·rw [if_neg c1ow] at H
    cases H
  ·rw [if_neg c1k7] at H
   have hb_ : (decide (x1k3 < (p0.f0.length : Int))) = false := decide_eq_false c1k7
   try rw [hb_] at h1k6
   clear hb_
   refine wp_else h1k6 rfl ?_
   refine wp_exit ?_
   refine wp_seq ?_
   refine WL.start ?_
   refine WL.bl 3 3 h1k6 [(7, .bool false), (6, i6 x1k2), (68, i6 x1k2)] (fun a1rn h1ro => ?_)
   refine WL.dn ?_
   refine wp_ret ?_
   obtain ⟨rfl, rfl⟩ := ret2 H
   repeat (first | with_reducible refine t1 ?_ | with_reducible refine t2 ?_ | with_reducible refine t3 ?_)
   refine bret (.tuple #[i6 x1k2, .bool false]) h1ro ?_
   exact ⟨M1k0, rfl, hr1k1, hS1jy⟩

def G1 : List Int := [13, 23, 28, 28, 28, 28, 28, 28, 28, 24, 30, 28, 28, 30, 28, 28, 28, 28, 28, 28, 28, 28, 30, 28, 28, 28, 28, 28, 28, 28, 28, 28, 6, 10, 10, 12, 13, 6, 8, 11, 10, 10, 8, 11, 8, 6, 6, 6, 5, 5, 5, 6, 6, 6, 6, 6, 6, 6, 7, 8, 15, 6, 12, 10, 13, 6, 7, 7, 7, 7, 7, 7, 7, 7, 7, 7, 7, 7, 7, 7, 7, 7, 7, 7, 7, 7, 7, 7, 8, 7, 8, 13, 19, 13, 14, 6, 15, 5, 6, 5, 6, 5, 6, 6, 6, 5, 7, 7, 6, 6, 6, 5, 6, 7, 6, 5, 5, 6, 7, 7, 7, 7, 7, 15, 11, 14, 13, 28, 20, 22, 20, 20, 22, 22, 22, 23, 22, 23, 23, 23, 23, 23, 24, 23, 24, 24, 22, 23, 24, 23, 23, 23, 23, 21, 22, 23, 22, 23, 23, 24, 22, 21, 20, 22, 22, 23, 23, 21, 23, 22, 22, 24, 21, 22, 23, 23, 21, 21, 22, 21, 23, 22, 23, 23, 20, 22, 22, 22, 23, 22, 22, 23, 26, 26, 20, 19, 22, 23, 22, 25, 26, 26, 26, 27, 27, 26, 24, 25, 19, 21, 26, 27, 27, 26, 27, 24, 21, 21, 26, 26, 28, 27, 27, 27, 20, 24, 20, 21, 22, 21, 21, 23, 22, 22, 25, 25, 24, 24, 26, 23, 26, 27, 26, 26, 27, 27, 27, 27, 27, 28, 27, 27, 27, 27, 27, 26, 30]
theorem G1qlen : G1.length = 257 := by kernel_rfl
abbrev GC1 : List Value := G1.flatMap (fun x : Int => ([.int .u8 x] : List Value))
theorem GC1qat {b : Nat} {w0 : World} {R : Frag} (h : Rds (kInt .u8) b w0 R (.slice (some ⟨1, 0, none⟩) 257 257) G1) : ∀ j u, GC1[j]? = some u → Kn b w0 R ((⟨1, 0, none⟩ : Addr).add j) u := Rds.flat_cells (by decide) (fun h_ => h_) (fun _ => rfl) h
structure S116 where
 f0 : Int
 f1 : Int
 deriving DecidableEq
def z116 : S116 := ⟨(0 : Int), (0 : Int)⟩
def k116 : Kd S116 := kIso (kPair (kInt .u32) (kInt .u8)) (fun x : S116 => (x.f0, x.f1))
theorem k116qflat : k116.Flat := kIso_flat (kPair_flat (kInt_flat _) (kInt_flat _))
theorem k116qind : k116.Ind := kIso_ind (kPair_ind (kInt_ind _) (kInt_ind _))
theorem k116qrd {b : Nat} {w0 : World} {R : Frag} {x : S116} {cs : List Value} (h : k116.rd b w0 R x cs) : cs = [.int .u32 x.f0, .int .u8 x.f1] := by
 obtain ⟨c100, c101, rfl, h102, h103⟩ := h
 obtain rfl := h102
 obtain rfl := h103
 exact rfl
theorem k116qrep {b : Nat} {w0 : World} {R : Frag} {x : S116} {cs : List Value} {M : Frag} (h : k116.rep b w0 R x cs M) : cs = [.int .u32 x.f0, .int .u8 x.f1] ∧ M = [] := by
 obtain ⟨c104, c105, M108, M109, rfl, rfl, h106, h107⟩ := h
 obtain ⟨rfl, rfl⟩ := h106
 obtain ⟨rfl, rfl⟩ := h107
 exact ⟨rfl, by simp⟩
theorem k116qno {b : Nat} {w0 : World} {R : Frag} {x : S116} {cs : List Value} {M : Frag} (h : k116.rep b w0 R x cs M) : M = [] := by
 obtain ⟨_, hM_⟩ := k116qrep h
 exact hM_
theorem k116qmk {b : Nat} {w0 : World} {R : Frag} {x : S116}  : ∃ M, k116.rep b w0 R x [.int .u32 x.f0, .int .u8 x.f1] M ∧ M = [] := ⟨_, ⟨_, _, _, _, rfl, rfl, ⟨rfl, rfl⟩, ⟨rfl, rfl⟩⟩, by simp⟩
/-! ### louver/huffman.codes -/
mutual
def huffman_codes.l0 : Nat → (List S116) → Int → Int → Option ((List S116))
 | 0, _, _, _ => none
 | k + 1, x1f9, x1fd, x1fe => if x1fe ≤ 30 then (huffman_codes.l1 k x1f9 (shlI .u32 x1fd 1) 0 x1fe) else (some x1f9)
def huffman_codes.l1 : Nat → (List S116) → Int → Int → Int → Option ((List S116))
 | 0, _, _, _, _ => none
 | k + 1, x1fv, x1fz, x1g0, x1fe => if x1g0 < 257 then (if 0 ≤ x1g0 then (if x1g0 < (257 : Int) then (if (gt (0 : Int) G1 x1g0) = x1fe then (lt1 (x1fv.set x1g0.toNat (⟨x1fz, x1fe⟩ : S116) : List S116) fun y1gy => (huffman_codes.l1 k y1gy (IntKind.u32.wrap (x1fz + 1)) (IntKind.i64.wrap (x1g0 + 1)) x1fe)) else (huffman_codes.l1 k x1fv x1fz (IntKind.i64.wrap (x1g0 + 1)) x1fe)) else (none)) else (none)) else (huffman_codes.l0 k x1fv x1fz (IntKind.u8.wrap (x1fe + 1)))
end
def huffman_codes.f (k : Nat)  : Option ((List S116)) := huffman_codes.l0 k (List.replicate 257 z116 : List S116) 0 1
set_option maxHeartbeats 20000000 in
set_option maxRecDepth 100000 in
theorem huffman_codes.calls (k : Nat) {b : Nat} {w0 W : World} {R : Frag} {Fs : List Frag}   {r0q : (List S116)} (hg1 : Rds (kInt .u8) b w0 [] (.slice (some ⟨1, 0, none⟩) 257 257) G1) (H : huffman_codes.f k = some r0q) (hS : St b w0 W R (Fs)) :
  Calls Tryd.prog 63 ([] : List Value).toArray W (fun e W' => e = .returned (.agg (r0q.flatMap (fun x : S116 => ([.int .u32 x.f0, .int .u8 x.f1] : List Value))).toArray) ∧ r0q.length = 257 ∧ St b w0 W' R (Fs)) := by
 unfold huffman_codes.f at H
 refine calls_enter Tryd.func63 rfl 29 rfl (by kernel_rfl) (fun a h => ?_)
 refine wp_seq ?_
 refine WL.start ?_
 refine WL.oq h rfl ?_
 refine owp_nw (fun g_ => (pt g_)) (.cells ((List.replicate 257 z116 : List S116).flatMap (fun x : S116 => ([.int .u32 x.f0, .int .u8 x.f1] : List Value))).toArray 117 (0, 0)) h rfl hS (fun a1ek W1em g1en h1el hS1eo => ?_)
 have hl1eq : (List.replicate 257 z116 : List S116).length = 257 := by simp
 have hr1ep : Row k116 117 b w0 R (.slice (some ⟨g1en, 0, none⟩) 257 257) (List.replicate 257 z116 : List S116) [(g1en, .cells ((List.replicate 257 z116 : List S116).flatMap (fun x : S116 => ([.int .u32 x.f0, .int .u8 x.f1] : List Value))).toArray 117 (0, 0))] := Row.arr (reps_flat (fun x_ => by obtain ⟨_, hk_, rfl⟩ := k116qmk (b := b) (w0 := w0) (R := R) (x := x_); exact hk_) _) hl1eq (by decide)
 obtain ⟨M1er, hM_⟩ : ∃ y : Frag, y = [(g1en, .cells ((List.replicate 257 z116 : List S116).flatMap (fun x : S116 => ([.int .u32 x.f0, .int .u8 x.f1] : List Value))).toArray 117 (0, 0))] := ⟨_, rfl⟩
 rw [← hM_] at hr1ep hS1eo
 clear hM_
 refine WL.dn ?_
 refine wp_seq ?_
 refine WL.start ?_
 refine WL.oq h1el rfl ?_
 refine owp_nw (fun g_ => (pt g_)) (.cells ((List.replicate 257 z116 : List S116).flatMap (fun x : S116 => ([.int .u32 x.f0, .int .u8 x.f1] : List Value))).toArray 117 (0, 0)) h1el rfl hS1eo (fun a1es W1eu g1ev h1et hS1ew => ?_)
 have hl1ey : (List.replicate 257 z116 : List S116).length = 257 := by simp
 have hr1ex : Row k116 117 b w0 R (.slice (some ⟨g1ev, 0, none⟩) 257 257) (List.replicate 257 z116 : List S116) [(g1ev, .cells ((List.replicate 257 z116 : List S116).flatMap (fun x : S116 => ([.int .u32 x.f0, .int .u8 x.f1] : List Value))).toArray 117 (0, 0))] := Row.arr (reps_flat (fun x_ => by obtain ⟨_, hk_, rfl⟩ := k116qmk (b := b) (w0 := w0) (R := R) (x := x_); exact hk_) _) hl1ey (by decide)
 obtain ⟨M1ez, hM_⟩ : ∃ y : Frag, y = [(g1ev, .cells ((List.replicate 257 z116 : List S116).flatMap (fun x : S116 => ([.int .u32 x.f0, .int .u8 x.f1] : List Value))).toArray 117 (0, 0))] := ⟨_, rfl⟩
 rw [← hM_] at hr1ex hS1ew
 clear hM_
 refine WL.dn ?_
 refine wp_seq ?_
 refine WL.start ?_
 refine WL.bl 1 1 h1et [(2, .int .u32 0)] (fun a1f0 h1f1 => ?_)
 refine WL.dn ?_
 refine wp_seq ?_
 refine wp_seq ?_
 refine WL.start ?_
 refine WL.bl 1 1 h1f1 [(3, .int .u8 1)] (fun a1f2 h1f3 => ?_)
 refine WL.dn ?_
 refine wp_block ?_
 have hS1ff := hS1ew.b1
 clear h1el a1ek h1et a1es h1f1 a1f0
 refine wp_loop_ghost (fun kq_ a_ W_ => ∃ (x1f9 : (List S116)), ∃ (M1fa : Frag), ∃ (x1fd : Int), ∃ (x1fe : Int), Hd a_ 29 [(0, pt g1en), (1, pt g1ev), (2, .int .u32 x1fd), (3, .int .u8 x1fe)] ∧ Asd (huffman_codes.l0 kq_ x1f9 x1fd x1fe = some r0q) ∧ Asd (kq_ ≤ k) ∧ Asd (St b w0 W_ R (M1er :: M1fa :: Fs)) ∧ Asd (Row k116 117 b w0 R (.slice (some ⟨g1ev, 0, none⟩) 257 257) x1f9 M1fa) ∧ Asd (x1f9.length = 257)) k ⟨(List.replicate 257 z116 : List S116), M1ez, 0, 1, h1f3.keep ⟨rfl, rfl, rfl, rfl, trivial⟩, ⟨H⟩, ⟨Nat.le_refl _⟩, ⟨hS1ff⟩, ⟨hr1ex⟩, ⟨hl1ey⟩⟩ ?_
 clear H hS1ff
 rintro kk1f8 a1f5 W1f6 ⟨x1f9, M1fa, x1fd, x1fe, h1f4, ⟨H⟩, ⟨hkkk1f8⟩, ⟨hS1f7⟩, ⟨hr1fb⟩, ⟨hl1fc⟩⟩
 obtain _ | kk1fg := kk1f8
 ·exact absurd H (by simp [huffman_codes.l0])
 simp only [huffman_codes.l0] at H
 refine wp_seq ?_
 refine wp_seq ?_
 refine WL.start ?_
 refine WL.bl 2 2 h1f4 [(7, .bool (decide (x1fe ≤ 30))), (6, .int .u8 x1fe)] (fun a1fh h1fi => ?_)
 refine WL.dn ?_
 clear h1f4 a1f5
 by_cases c1fj : x1fe ≤ 30
 ·rw [if_pos c1fj] at H
  have hb_ : (decide (x1fe ≤ 30)) = true := decide_eq_true c1fj
  try rw [hb_] at h1fi
  clear hb_
  refine wp_then h1fi rfl ?_
  refine wp_skip ?_
  refine wp_seq ?_
  refine wp_block ?_
  refine wp_seq ?_
  refine WL.start ?_
  refine WL.bl 3 3 h1fi [(2, .int .u32 (shlI .u32 x1fd 1)), (11, .int .u32 (shlI .u32 x1fd 1)), (10, .int .u32 x1fd)] (fun a1fk h1fl => ?_)
  refine WL.dn ?_
  refine wp_seq ?_
  refine WL.start ?_
  refine WL.oq h1fl rfl ?_
  refine owp_rn (.agg GC1.toArray) h1fl rfl (run_loadN rfl rfl Tryd.underlying122 rfl (cs := GC1) (by kernel_rfl) (fun _ _ hj_ => (fun _ _ hk_ => hS1f7.kn hk_) _ _ ((GC1qat hg1 _ _ hj_).mono (fun _ h_ => by cases h_)))) (fun a1fm h1fn => ?_)
  refine WL.bl 1 2 h1fn [(13, i6 0)] (fun a1fo h1fp => ?_)
  refine WL.dn ?_
  refine wp_block ?_
  clear h1fi a1fh h1fl a1fk h1fn a1fm
  refine wp_loop_ghost (fun kq_ a_ W_ => ∃ (x1fv : (List S116)), ∃ (M1fw : Frag), ∃ (x1fz : Int), ∃ (x1g0 : Int), Hd a_ 29 [(0, pt g1en), (1, pt g1ev), (2, .int .u32 x1fz), (3, .int .u8 x1fe), (12, .agg GC1.toArray), (13, i6 x1g0)] ∧ Asd (huffman_codes.l1 kq_ x1fv x1fz x1g0 x1fe = some r0q) ∧ Asd (kq_ ≤ kk1fg) ∧ Asd (St b w0 W_ R (M1er :: M1fw :: Fs)) ∧ Asd (Row k116 117 b w0 R (.slice (some ⟨g1ev, 0, none⟩) 257 257) x1fv M1fw) ∧ Asd (x1fv.length = 257)) kk1fg ⟨x1f9, M1fa, shlI .u32 x1fd 1, 0, h1fp.keep ⟨rfl, rfl, rfl, rfl, rfl, rfl, trivial⟩, ⟨H⟩, ⟨Nat.le_refl _⟩, ⟨hS1f7⟩, ⟨hr1fb⟩, ⟨hl1fc⟩⟩ ?_
  clear H hS1f7
  rintro kk1fu a1fr W1fs ⟨x1fv, M1fw, x1fz, x1g0, h1fq, ⟨H⟩, ⟨hkkk1fu⟩, ⟨hS1ft⟩, ⟨hr1fx⟩, ⟨hl1fy⟩⟩
  obtain _ | kk1g1 := kk1fu
  ·exact absurd H (by simp [huffman_codes.l1])
  simp only [huffman_codes.l1] at H
  refine wp_seq ?_
  refine WL.start ?_
  refine WL.bl 1 1 h1fq [(14, .bool (decide (x1g0 < 257)))] (fun a1g2 h1g3 => ?_)
  refine WL.dn ?_
  refine wp_seq ?_
  clear h1fq a1fr
  by_cases c1g4 : x1g0 < 257
  ·rw [if_pos c1g4] at H
   have hb_ : (decide (x1g0 < 257)) = true := decide_eq_true c1g4
   try rw [hb_] at h1g3
   clear hb_
   refine wp_then h1g3 rfl ?_
   refine wp_skip ?_
   refine wp_seq ?_
   refine wp_block ?_
   refine wp_seq ?_
   refine WL.start ?_
   refine WL.bl 1 1 h1g3 [(15, i6 x1g0)] (fun a1g5 h1g6 => ?_)
   clear h1g3 a1g2
   by_cases c1g7 : 0 ≤ x1g0
   ·rw [if_pos c1g7] at H
    by_cases c1g8 : x1g0 < (257 : Int)
    ·rw [if_pos c1g8] at H
     have hi1g9 : 0 ≤ x1g0 := by first | assumption | omega
     have hi1gb : x1g0 < ((257 : Nat) : Int) := by omega
     have hi1ga : x1g0 < (G1.length : Int) := by rw [G1qlen]; exact hi1gb
     refine WL.oq h1g6 rfl ?_
     refine owp_rn (.int .u8 (gt (0 : Int) G1 x1g0)) h1g6 rfl (run_index_one rfl rfl rfl Tryd.underlying122 Tryd.underlying5 rfl (by kernel_rfl) hi1g9 hi1gb (flat_one G1 (gt_get (z := (0 : Int)) hi1g9 hi1ga))) (fun a1gc h1gd => ?_)
     refine WL.bl 2 4 h1gd [(5, .int .u8 (gt (0 : Int) G1 x1g0)), (4, i6 x1g0)] (fun a1ge h1gf => ?_)
     refine WL.dn ?_
     refine wp_seq ?_
     refine WL.start ?_
     refine WL.bl 3 3 h1gf [(19, .bool (decide ((gt (0 : Int) G1 x1g0) = x1fe))), (18, .int .u8 x1fe), (17, .int .u8 (gt (0 : Int) G1 x1g0))] (fun a1gg h1gh => ?_)
     refine WL.dn ?_
     clear h1g6 a1g5 h1gd a1gc h1gf a1ge
     by_cases c1gi : (gt (0 : Int) G1 x1g0) = x1fe
     ·rw [if_pos c1gi] at H
      have hb_ : (decide ((gt (0 : Int) G1 x1g0) = x1fe)) = true := decide_eq_true c1gi
      try rw [hb_] at h1gh
      clear hb_
      refine wp_then h1gh rfl ?_
      refine wp_seq ?_
      refine WL.start ?_
      refine WL.bl 4 4 h1gh [(23, .agg #[.int .u32 x1fz, .int .u8 x1fe]), (22, .int .u8 x1fe), (21, .int .u32 x1fz), (20, i6 x1g0)] (fun a1gj h1gk => ?_)
      have hi1gl : 0 ≤ x1g0 := by first | assumption | omega
      have hi1gn : x1g0 < ((257 : Nat) : Int) := by omega
      have hi1gm : x1g0 < (x1fv.length : Int) := by rw [hl1fy]; exact hi1gn
      refine WL.oq h1gk rfl ?_
      refine owp_rn (.pointer (some ((⟨g1ev, 0, none⟩ : Addr).add (x1g0.toNat * 2)))) h1gk rfl (run_idxarr (ad := ⟨g1ev, 0, none⟩) (sz := 2) rfl rfl rfl Tryd.underlying117 (by kernel_rfl) hi1gl hi1gn) (fun a1gp h1gq => ?_)
      have hS1gr := hS1ft.b1
      refine WL.oq h1gq rfl ?_
      refine owp_setelem (j := 0) (vs := [.int .u32 x1fz, .int .u8 x1fe]) (x' := (⟨x1fz, x1fe⟩ : S116)) h1gq rfl (by kernel_rfl) rfl rfl rfl rfl (by simp [Value.oneCell']) (by kernel_rfl) rfl hr1fx hS1gr hi1gl (gt_get (z := z116) hi1gl hi1gm) (Nat.le_refl _) (by intro cs_ Mx_ hr_; obtain ⟨rfl, rfl⟩ := k116qrep hr_; obtain ⟨_, hk_, rfl⟩ := k116qmk (b := b) (w0 := w0) (R := R) (x := (⟨x1fz, x1fe⟩ : S116)); exact hk_) (fun a1gs W1gu M1gv h1gt hr1gw hS1gx => ?_)
      obtain ⟨y1gy, hy1gz, H⟩ := lete H
      have hl1h0 : y1gy.length = 257 := by rw [hy1gz]; simpa using hl1fy
      have hr1h1 : Row k116 117 b w0 R (.slice (some ⟨g1ev, 0, none⟩) 257 257) y1gy M1gv := by rw [hy1gz]; exact hr1gw
      refine WL.dn ?_
      refine WL.start ?_
      refine WL.bl 3 3 h1gt [(2, .int .u32 (IntKind.u32.wrap (x1fz + 1))), (26, .int .u32 (IntKind.u32.wrap (x1fz + 1))), (25, .int .u32 x1fz)] (fun a1h2 h1h3 => ?_)
      refine WL.dn ?_
      refine WL.start ?_
      refine WL.bl 2 2 h1h3 [(13, i6 (IntKind.i64.wrap (x1g0 + 1))), (27, i6 (IntKind.i64.wrap (x1g0 + 1)))] (fun a1h4 h1h5 => ?_)
      refine WL.dn ?_
      have hS1h6 := hS1gx.b1
      exact ⟨kk1g1, by omega, y1gy, M1gv, IntKind.u32.wrap (x1fz + 1), IntKind.i64.wrap (x1g0 + 1), h1h5.keep ⟨rfl, rfl, rfl, rfl, rfl, rfl, trivial⟩, ⟨H⟩, ⟨by omega⟩, ⟨hS1h6⟩, ⟨hr1h1⟩, ⟨hl1h0⟩⟩
     ·rw [if_neg c1gi] at H
      have hb_ : (decide ((gt (0 : Int) G1 x1g0) = x1fe)) = false := decide_eq_false c1gi
      try rw [hb_] at h1gh
      clear hb_
      refine wp_else h1gh rfl ?_
      refine wp_skip ?_
      refine WL.start ?_
      refine WL.bl 2 2 h1gh [(13, i6 (IntKind.i64.wrap (x1g0 + 1))), (27, i6 (IntKind.i64.wrap (x1g0 + 1)))] (fun a1h7 h1h8 => ?_)
      refine WL.dn ?_
      exact ⟨kk1g1, by omega, x1fv, M1fw, x1fz, IntKind.i64.wrap (x1g0 + 1), h1h8.keep ⟨rfl, rfl, rfl, rfl, rfl, rfl, trivial⟩, ⟨H⟩, ⟨by omega⟩, ⟨hS1ft⟩, ⟨hr1fx⟩, ⟨hl1fy⟩⟩
    ·rw [if_neg c1g8] at H
     cases H
   ·rw [if_neg c1g7] at H
    cases H
  ·rw [if_neg c1g4] at H
   have hb_ : (decide (x1g0 < 257)) = false := decide_eq_false c1g4
   try rw [hb_] at h1g3
   clear hb_
   refine wp_else h1g3 rfl ?_
   refine wp_exit ?_
   refine WL.start ?_
   refine WL.bl 3 3 h1g3 [(3, .int .u8 (IntKind.u8.wrap (x1fe + 1))), (9, .int .u8 (IntKind.u8.wrap (x1fe + 1))), (8, .int .u8 x1fe)] (fun a1h9 h1ha => ?_)
   refine WL.dn ?_
   exact ⟨kk1g1, by omega, x1fv, M1fw, x1fz, IntKind.u8.wrap (x1fe + 1), h1ha.keep ⟨rfl, rfl, rfl, rfl, trivial⟩, ⟨H⟩, ⟨by omega⟩, ⟨hS1ft⟩, ⟨hr1fx⟩, ⟨hl1fy⟩⟩
 ·rw [if_neg c1fj] at H
  have hb_ : (decide (x1fe ≤ 30)) = false := decide_eq_false c1fj
  try rw [hb_] at h1fi
  clear hb_
  refine wp_else h1fi rfl ?_
  refine wp_exit ?_
  refine wp_seq ?_
  refine WL.start ?_
  have hS1hb := hS1f7.b1
  refine WL.oq h1fi rfl ?_
  refine owp_rn (.agg (x1f9.flatMap (fun x : S116 => ([.int .u32 x.f0, .int .u8 x.f1] : List Value))).toArray) h1fi rfl (run_loadN rfl rfl Tryd.underlying117 rfl (cs := x1f9.flatMap (fun x : S116 => ([.int .u32 x.f0, .int .u8 x.f1] : List Value))) (by rw [flat_len (sz := 2) (fun _ => rfl), hl1fc]; kernel_rfl) (Row.arr_cells (by decide) (fun h_ => k116qrd h_) (fun _ => rfl) hr1fb hS1hb)) (fun a1hc h1hd => ?_)
  have hS1he := hS1hb.b1
  refine WL.oq h1hd rfl ?_
  refine owp_storearr (f := (fun x : S116 => ([.int .u32 x.f0, .int .u8 x.f1] : List Value))) (ys := x1f9) (N := 257) h1hd rfl (by kernel_rfl) rfl rfl rfl (by kernel_rfl) (fun x_ => by obtain ⟨_, hk_, rfl⟩ := k116qmk (b := b) (w0 := w0) (R := R) (x := x_); exact hk_) hl1eq hl1fc (by decide) hr1ep hS1he (fun a1hf W1hh M1hi h1hg hr1hj hS1hk => ?_)
  refine WL.dn ?_
  refine wp_ret ?_
  have hS1hl := hS1hk.drop_
  have hS1hm := hS1hl.drop_
  obtain rfl := Option.some.inj H
  repeat (first | with_reducible refine t1 ?_ | with_reducible refine t2 ?_ | with_reducible refine t3 ?_)
  refine body_ret (v := .agg (x1f9.flatMap (fun x : S116 => ([.int .u32 x.f0, .int .u8 x.f1] : List Value))).toArray) h1hg (by kernel_rfl) (res_one rfl ⟨_, rfl, loadVarN Tryd.underlying117 rfl (cs := x1f9.flatMap (fun x : S116 => ([.int .u32 x.f0, .int .u8 x.f1] : List Value))) (by rw [flat_len (sz := 2) (fun _ => rfl), hl1fc]; kernel_rfl) (Row.arr_cells (by decide) (fun h_ => k116qrd h_) (fun _ => rfl) hr1hj hS1hk)⟩) ?_
  exact ⟨rfl, hl1fc, hS1hm⟩

/-! ### louver/huffman.Size -/
def huffman_Size.l0 : Nat → Int → Int → (List UInt8) → Option (Int)
 | 0, _, _, _ => none
 | k + 1, x12t, x12u, p0 => if x12u < (p0.length : Int) then (if 0 ≤ x12u then (if 0 ≤ (btI p0 x12u) then (if (btI p0 x12u) < (257 : Int) then (huffman_Size.l0 k (IntKind.i64.wrap (x12t + (IntKind.i64.wrap (gt (0 : Int) G1 (btI p0 x12u))))) (IntKind.i64.wrap (x12u + 1)) p0) else (none)) else (none)) else (none)) else (some (IntKind.i64.wrap (Int.tdiv (IntKind.i64.wrap (x12t + 7)) 8)))
def huffman_Size.f (k : Nat) (p0 : (List UInt8)) : Option (Int) := huffman_Size.l0 k 0 0 p0
set_option maxHeartbeats 20000000 in
set_option maxRecDepth 100000 in
theorem huffman_Size.calls (k : Nat) {b : Nat} {w0 W : World} {R : Frag} {Fs : List Frag} {p0 : (List UInt8)}  {r0q : Int} (hg1 : Rds (kInt .u8) b w0 [] (.slice (some ⟨1, 0, none⟩) 257 257) G1) (H : huffman_Size.f k p0 = some r0q) (hS : St b w0 W R (Fs)) :
  Calls Tryd.prog 64 ([.string (mkS p0)] : List Value).toArray W (fun e W' => e = .returned (i6 r0q) ∧ St b w0 W' R (Fs)) := by
 unfold huffman_Size.f at H
 refine calls_enter Tryd.func64 rfl 22 rfl (by kernel_rfl) (fun a h => ?_)
 refine wp_seq ?_
 refine WL.start ?_
 refine WL.bl 1 1 h [(2, i6 0)] (fun a12i h12j => ?_)
 refine WL.dn ?_
 refine wp_seq ?_
 refine WL.start ?_
 refine WL.bl 1 1 h12j [(3, i6 0)] (fun a12k h12l => ?_)
 refine WL.dn ?_
 refine wp_seq ?_
 refine wp_seq ?_
 refine WL.start ?_
 refine WL.bl 3 3 h12l [(7, i6 0), (6, i6 (p0.length : Int)), (5, .string (mkS p0))] (fun a12m h12n => ?_)
 refine WL.dn ?_
 refine wp_block ?_
 clear h12j a12i h12l a12k
 refine wp_loop_ghost (fun kq_ a_ W_ => ∃ (x12t : Int), ∃ (x12u : Int), Hd a_ 22 [(0, .string (mkS p0)), (3, i6 x12t), (6, i6 (p0.length : Int)), (7, i6 x12u)] ∧ Asd (huffman_Size.l0 kq_ x12t x12u p0 = some r0q) ∧ Asd (kq_ ≤ k) ∧ Asd (St b w0 W_ R (Fs))) k ⟨0, 0, h12n.keep ⟨rfl, rfl, rfl, rfl, trivial⟩, ⟨H⟩, ⟨Nat.le_refl _⟩, ⟨hS⟩⟩ ?_
 clear H hS
 rintro kk12s a12p W12q ⟨x12t, x12u, h12o, ⟨H⟩, ⟨hkkk12s⟩, ⟨hS12r⟩⟩
 obtain _ | kk12v := kk12s
 ·exact absurd H (by simp [huffman_Size.l0])
 simp only [huffman_Size.l0] at H
 refine wp_seq ?_
 refine WL.start ?_
 refine WL.bl 1 1 h12o [(8, .bool (decide (x12u < (p0.length : Int))))] (fun a12w h12x => ?_)
 refine WL.dn ?_
 refine wp_seq ?_
 clear h12o a12p
 by_cases c12y : x12u < (p0.length : Int)
 ·rw [if_pos c12y] at H
  have hb_ : (decide (x12u < (p0.length : Int))) = true := decide_eq_true c12y
  try rw [hb_] at h12x
  clear hb_
  refine wp_then h12x rfl ?_
  refine wp_skip ?_
  refine wp_seq ?_
  refine wp_block ?_
  refine wp_seq ?_
  refine WL.start ?_
  refine WL.bl 2 2 h12x [(4, i6 x12u), (9, i6 x12u)] (fun a12z h130 => ?_)
  refine WL.dn ?_
  refine WL.start ?_
  refine WL.bl 3 3 h130 [(12, i6 x12u), (11, .string (mkS p0)), (10, i6 x12t)] (fun a131 h132 => ?_)
  clear h12x a12w h130 a12z
  by_cases c133 : 0 ≤ x12u
  ·rw [if_pos c133] at H
   refine WL.oq h132 rfl ?_
   refine owp_rn (.int .u8 (btI p0 x12u)) h132 rfl (run_stridx rfl rfl rfl Tryd.underlying9 (by first | assumption | omega) (by first | assumption | omega)) (fun a134 h135 => ?_)
   clear h132 a131
   by_cases c136 : 0 ≤ (btI p0 x12u)
   ·rw [if_pos c136] at H
    by_cases c137 : (btI p0 x12u) < (257 : Int)
    ·rw [if_pos c137] at H
     have hx138 : Rds (kInt .u8) b w0 R (.slice (some ⟨1, 0, none⟩) 257 257) G1 := Rds.mono (fun _ h_ => by cases h_) hg1
     have hi139 : 0 ≤ (btI p0 x12u) := by first | assumption | omega
     have hi13b : (btI p0 x12u) < ((257 : Nat) : Int) := by omega
     have hi13a : (btI p0 x12u) < (G1.length : Int) := by rw [G1qlen]; exact hi13b
     refine WL.oq h135 rfl ?_
     refine owp_rn (.pointer (some ((⟨1, 0, none⟩ : Addr).add ((btI p0 x12u).toNat * 1)))) h135 rfl (run_idxarr (ad := ⟨1, 0, none⟩) (sz := 1) rfl rfl rfl Tryd.underlying122 (by kernel_rfl) hi139 hi13b) (fun a13c h13d => ?_)
     obtain ⟨ad13e, cs13f, ha13g, hr13i, hc13h⟩ := Rds.elemAny hx138 hi139 (gt_get (z := (0 : Int)) hi139 hi13a)
     obtain rfl := Option.some.inj ha13g
     obtain rfl : cs13f = [.int .u8 (gt (0 : Int) G1 (btI p0 x12u))] := hr13i
     refine WL.oq h13d rfl ?_
     refine owp_rn (.int .u8 (gt (0 : Int) G1 (btI p0 x12u))) h13d rfl (run_load1 rfl rfl Tryd.underlying5 rfl (cell0 (hc13h _ (fun _ _ hk_ => hS12r.kn hk_)))) (fun a13j h13k => ?_)
     refine WL.bl 3 9 h13k [(3, i6 (IntKind.i64.wrap (x12t + (IntKind.i64.wrap (gt (0 : Int) G1 (btI p0 x12u)))))), (17, i6 (IntKind.i64.wrap (x12t + (IntKind.i64.wrap (gt (0 : Int) G1 (btI p0 x12u)))))), (16, i6 (IntKind.i64.wrap (gt (0 : Int) G1 (btI p0 x12u))))] (fun a13l h13m => ?_)
     refine WL.dn ?_
     refine WL.start ?_
     refine WL.bl 2 2 h13m [(7, i6 (IntKind.i64.wrap (x12u + 1))), (18, i6 (IntKind.i64.wrap (x12u + 1)))] (fun a13n h13o => ?_)
     refine WL.dn ?_
     exact ⟨kk12v, by omega, IntKind.i64.wrap (x12t + (IntKind.i64.wrap (gt (0 : Int) G1 (btI p0 x12u)))), IntKind.i64.wrap (x12u + 1), h13o.keep ⟨rfl, rfl, rfl, rfl, trivial⟩, ⟨H⟩, ⟨by omega⟩, ⟨hS12r⟩⟩
    ·rw [if_neg c137] at H
     cases H
   ·rw [if_neg c136] at H
    cases H
  ·rw [if_neg c133] at H
   cases H
 ·rw [if_neg c12y] at H
  have hb_ : (decide (x12u < (p0.length : Int))) = false := decide_eq_false c12y
  try rw [hb_] at h12x
  clear hb_
  refine wp_else h12x rfl ?_
  refine wp_exit ?_
  refine wp_seq ?_
  refine WL.start ?_
  refine WL.bl 4 4 h12x [(2, i6 (IntKind.i64.wrap (Int.tdiv (IntKind.i64.wrap (x12t + 7)) 8))), (21, i6 (IntKind.i64.wrap (Int.tdiv (IntKind.i64.wrap (x12t + 7)) 8))), (20, i6 (IntKind.i64.wrap (x12t + 7))), (19, i6 x12t)] (fun a13p h13q => ?_)
  refine WL.dn ?_
  refine wp_ret ?_
  obtain rfl := Option.some.inj H
  repeat (first | with_reducible refine t1 ?_ | with_reducible refine t2 ?_ | with_reducible refine t3 ?_)
  refine bret (i6 (IntKind.i64.wrap (Int.tdiv (IntKind.i64.wrap (x12t + 7)) 8))) h13q ?_
  exact ⟨rfl, hS12r⟩

/-! ### louver/huffman.Encode -/
mutual
def huffman_Encode.l0 : Nat → (List Int) → Int → Int → Int → (List UInt8) → (List S116) → Option ((List Int))
 | 0, _, _, _, _, _, _ => none
 | k + 1, x1wr, x1ww, x1wx, x1wy, p0, r1v6 => if x1wy < (p0.length : Int) then (if 0 ≤ x1wy then (if 0 ≤ (btI p0 x1wy) then (if (btI p0 x1wy) < (257 : Int) then (if 0 ≤ ((gt z116 r1v6 (btI p0 x1wy)).f1) then (huffman_Encode.l1 k x1wr (bOr .u64 (shlI .u64 x1ww ((gt z116 r1v6 (btI p0 x1wy)).f1)) (IntKind.u64.wrap ((gt z116 r1v6 (btI p0 x1wy)).f0))) (IntKind.i64.wrap (x1wx + (IntKind.i64.wrap ((gt z116 r1v6 (btI p0 x1wy)).f1)))) p0 r1v6 x1wy) else (none)) else (none)) else (none)) else (none)) else (if x1wx > 0 then (if 0 ≤ (IntKind.i64.wrap (8 - x1wx)) then (if x1wr.length + 1 ≤ 140737488355328 then (lt1 (x1wr ++ ([IntKind.u8.wrap (bOr .u64 (shlI .u64 x1ww (IntKind.i64.wrap (8 - x1wx))) (IntKind.u64.wrap ((shlI .u64 1 (IntKind.i64.wrap (8 - x1wx))) - 1)))] : List Int) : List Int) fun y22v => (some y22v)) else (none)) else (none)) else (some x1wr))
def huffman_Encode.l1 : Nat → (List Int) → Int → Int → (List UInt8) → (List S116) → Int → Option ((List Int))
 | 0, _, _, _, _, _, _ => none
 | k + 1, x1yn, x1ys, x1yt, p0, r1v6, x1wy => if x1yt ≥ 8 then (if 0 ≤ (IntKind.i64.wrap (x1yt - 8)) then (if x1yn.length + 1 ≤ 140737488355328 then (lt1 (x1yn ++ ([IntKind.u8.wrap (shrI .u64 x1ys (IntKind.i64.wrap (x1yt - 8)))] : List Int) : List Int) fun y1zn => (huffman_Encode.l1 k y1zn (bAnd .u64 x1ys (IntKind.u64.wrap ((shlI .u64 1 (IntKind.i64.wrap (x1yt - 8))) - 1))) (IntKind.i64.wrap (x1yt - 8)) p0 r1v6 x1wy)) else (none)) else (none)) else (huffman_Encode.l0 k x1yn x1ys x1yt (IntKind.i64.wrap (x1wy + 1)) p0 r1v6)
end
def huffman_Encode.f (k : Nat) (p0 : (List UInt8)) : Option ((List Int)) := bnd1 (huffman_codes.f k) fun r1v6 => (bnd1 (huffman_Size.f k p0) fun r1vv => (if (0 : Int) ≤ r1vv then (if r1vv * 1 ≤ 140737488355328 then (lt1 (List.replicate (0 : Int).toNat (0 : Int) : List Int) fun y1wb => (huffman_Encode.l0 k y1wb 0 0 0 p0 r1v6)) else (none)) else (none)))
set_option maxHeartbeats 20000000 in
set_option maxRecDepth 100000 in
theorem huffman_Encode.calls (k : Nat) {b : Nat} {w0 W : World} {R : Frag} {Fs : List Frag} {p0 : (List UInt8)}  {r0q : (List Int)} (hg1 : Rds (kInt .u8) b w0 [] (.slice (some ⟨1, 0, none⟩) 257 257) G1) (H : huffman_Encode.f k p0 = some r0q) (hS : St b w0 W R (Fs)) :
  Calls Tryd.prog 60 ([.string (mkS p0)] : List Value).toArray W (fun e W' => ∃ (u0q : Value) (N0q : Frag), e = .returned (u0q) ∧ Row (kInt .u8) 5 b w0 R u0q r0q N0q ∧ St b w0 W' R (N0q :: Fs)) := by
 unfold huffman_Encode.f at H
 refine calls_enter Tryd.func60 rfl 70 rfl (by kernel_rfl) (fun a h => ?_)
 refine wp_seq ?_
 refine WL.start ?_
 refine WL.bl 1 1 h [(2, .slice none 0 0)] (fun a1v3 h1v4 => ?_)
 refine WL.dn ?_
 refine wp_seq ?_
 refine WL.start ?_
 obtain ⟨r1v6, A1v5, H⟩ := bind1 H
 refine WL.oq h1v4 rfl ?_
 refine owp_call [] h1v4 rfl (by kernel_rfl) rfl Tryd.func63 (by kernel_rfl) rfl (by kernel_rfl) (huffman_codes.calls k hg1 A1v5 hS) (fun e1v8 W1v7 hp1v9 => ?_)
 obtain ⟨rfl, hl1vc, hS1vd⟩ := hp1v9
 refine ⟨_, rfl, fun a1va h1vb => ?_⟩
 refine WL.oq h1vb rfl ?_
 refine owp_nw (fun g_ => (pt g_)) (.cells ((List.replicate 257 z116 : List S116).flatMap (fun x : S116 => ([.int .u32 x.f0, .int .u8 x.f1] : List Value))).toArray 117 (0, 0)) h1vb rfl hS1vd (fun a1ve W1vg g1vh h1vf hS1vi => ?_)
 have hl1vk : (List.replicate 257 z116 : List S116).length = 257 := by simp
 have hr1vj : Row k116 117 b w0 R (.slice (some ⟨g1vh, 0, none⟩) 257 257) (List.replicate 257 z116 : List S116) [(g1vh, .cells ((List.replicate 257 z116 : List S116).flatMap (fun x : S116 => ([.int .u32 x.f0, .int .u8 x.f1] : List Value))).toArray 117 (0, 0))] := Row.arr (reps_flat (fun x_ => by obtain ⟨_, hk_, rfl⟩ := k116qmk (b := b) (w0 := w0) (R := R) (x := x_); exact hk_) _) hl1vk (by decide)
 obtain ⟨M1vl, hM_⟩ : ∃ y : Frag, y = [(g1vh, .cells ((List.replicate 257 z116 : List S116).flatMap (fun x : S116 => ([.int .u32 x.f0, .int .u8 x.f1] : List Value))).toArray 117 (0, 0))] := ⟨_, rfl⟩
 rw [← hM_] at hr1vj hS1vi
 clear hM_
 refine WL.oq h1vf rfl ?_
 refine owp_storearr (f := (fun x : S116 => ([.int .u32 x.f0, .int .u8 x.f1] : List Value))) (ys := r1v6) (N := 257) h1vf rfl (by kernel_rfl) rfl rfl rfl (by kernel_rfl) (fun x_ => by obtain ⟨_, hk_, rfl⟩ := k116qmk (b := b) (w0 := w0) (R := R) (x := x_); exact hk_) hl1vk hl1vc (by decide) hr1vj hS1vi (fun a1vm W1vo M1vp h1vn hr1vq hS1vr => ?_)
 refine WL.dn ?_
 refine wp_seq ?_
 refine WL.start ?_
 refine WL.bl 1 1 h1vn [(11, .string (mkS p0))] (fun a1vs h1vt => ?_)
 obtain ⟨r1vv, A1vu, H⟩ := bind1 H
 refine WL.oq h1vt rfl ?_
 refine owp_call [.string (mkS p0)] h1vt rfl (by kernel_rfl) rfl Tryd.func64 (by kernel_rfl) rfl (by kernel_rfl) (huffman_Size.calls k hg1 A1vu hS1vr) (fun e1vx W1vw hp1vy => ?_)
 obtain ⟨rfl, hS1w1⟩ := hp1vy
 refine ⟨_, rfl, fun a1vz h1w0 => ?_⟩
 clear h1v4 a1v3 h1vb a1va h1vf a1ve h1vn a1vm h1vt a1vs
 by_cases c1w2 : (0 : Int) ≤ r1vv
 ·rw [if_pos c1w2] at H
  by_cases c1w3 : r1vv * 1 ≤ 140737488355328
  ·rw [if_pos c1w3] at H
   refine WL.oq h1w0 rfl ?_
   refine owp_make' (z := .int .u8 0) (z0 := (0 : Int)) (bytes := 1) (dk := (kInt .u8)) h1w0 rfl (by kernel_rfl) rfl rfl rfl Tryd.underlying22 (by kernel_rfl) rfl (by decide) ⟨rfl, rfl⟩ hS1w1 (by first | assumption | omega) (by first | assumption | omega) (by omega) (fun a1w4 W1w6 v1w7 M1w8 h1w5 hr1w9 hS1wa => ?_)
   obtain ⟨y1wb, hy1wc, H⟩ := lete H
   have hr1wd : Row (kInt .u8) 5 b w0 R v1w7 y1wb M1w8 := by rw [hy1wc]; exact hr1w9
   clear hr1w9
   obtain ⟨A1we, c1wf, rfl⟩ := hr1wd.form
   refine WL.bl 1 4 h1w5 [(4, .slice A1we y1wb.length c1wf)] (fun a1wg h1wh => ?_)
   refine WL.dn ?_
   refine wp_seq ?_
   refine WL.start ?_
   refine WL.bl 2 2 h1wh [(6, i6 0), (5, .int .u64 0)] (fun a1wi h1wj => ?_)
   refine WL.dn ?_
   refine wp_seq ?_
   refine wp_seq ?_
   refine WL.start ?_
   refine WL.bl 3 3 h1wj [(16, i6 0), (15, i6 (p0.length : Int)), (14, .string (mkS p0))] (fun a1wk h1wl => ?_)
   refine WL.dn ?_
   refine wp_block ?_
   have hS1wz := hS1wa.b1
   clear h1w0 a1vz h1w5 a1w4 h1wh a1wg h1wj a1wi
   refine wp_loop_ghost (fun kq_ a_ W_ => ∃ (x1wr : (List Int)), ∃ (A1ws : Option Addr), ∃ (c1wt : Nat), ∃ (M1wu : Frag), ∃ (x1ww : Int), ∃ (x1wx : Int), ∃ (x1wy : Int), Hd a_ 70 [(0, .string (mkS p0)), (3, pt g1vh), (4, .slice A1ws x1wr.length c1wt), (5, .int .u64 x1ww), (6, i6 x1wx), (15, i6 (p0.length : Int)), (16, i6 x1wy)] ∧ Asd (huffman_Encode.l0 kq_ x1wr x1ww x1wx x1wy p0 r1v6 = some r0q) ∧ Asd (kq_ ≤ k) ∧ Asd (St b w0 W_ R (M1vp :: M1wu :: Fs)) ∧ Asd (Row (kInt .u8) 5 b w0 R (.slice A1ws x1wr.length c1wt) x1wr M1wu)) k ⟨y1wb, A1we, c1wf, M1w8, 0, 0, 0, h1wl.keep ⟨rfl, rfl, rfl, rfl, rfl, rfl, rfl, trivial⟩, ⟨H⟩, ⟨Nat.le_refl _⟩, ⟨hS1wz⟩, ⟨hr1wd⟩⟩ ?_
   clear H hS1wz
   rintro kk1wq a1wn W1wo ⟨x1wr, A1ws, c1wt, M1wu, x1ww, x1wx, x1wy, h1wm, ⟨H⟩, ⟨hkkk1wq⟩, ⟨hS1wp⟩, ⟨hr1wv⟩⟩
   obtain _ | kk1x0 := kk1wq
   ·exact absurd H (by simp [huffman_Encode.l0])
   simp only [huffman_Encode.l0] at H
   refine wp_seq ?_
   refine WL.start ?_
   refine WL.bl 1 1 h1wm [(17, .bool (decide (x1wy < (p0.length : Int))))] (fun a1x1 h1x2 => ?_)
   refine WL.dn ?_
   refine wp_seq ?_
   clear h1wm a1wn
   by_cases c1x3 : x1wy < (p0.length : Int)
   ·rw [if_pos c1x3] at H
    have hb_ : (decide (x1wy < (p0.length : Int))) = true := decide_eq_true c1x3
    try rw [hb_] at h1x2
    clear hb_
    refine wp_then h1x2 rfl ?_
    refine wp_skip ?_
    refine wp_seq ?_
    refine wp_block ?_
    refine wp_seq ?_
    refine WL.start ?_
    refine WL.bl 2 2 h1x2 [(7, i6 x1wy), (18, i6 x1wy)] (fun a1x4 h1x5 => ?_)
    refine WL.dn ?_
    refine wp_seq ?_
    refine WL.start ?_
    refine WL.bl 2 2 h1x5 [(20, i6 x1wy), (19, .string (mkS p0))] (fun a1x6 h1x7 => ?_)
    clear h1x2 a1x1 h1x5 a1x4
    by_cases c1x8 : 0 ≤ x1wy
    ·rw [if_pos c1x8] at H
     refine WL.oq h1x7 rfl ?_
     refine owp_rn (.int .u8 (btI p0 x1wy)) h1x7 rfl (run_stridx rfl rfl rfl Tryd.underlying9 (by first | assumption | omega) (by first | assumption | omega)) (fun a1x9 h1xa => ?_)
     clear h1x7 a1x6
     by_cases c1xb : 0 ≤ (btI p0 x1wy)
     ·rw [if_pos c1xb] at H
      by_cases c1xc : (btI p0 x1wy) < (257 : Int)
      ·rw [if_pos c1xc] at H
       have hi1xd : 0 ≤ (btI p0 x1wy) := by first | assumption | omega
       have hi1xf : (btI p0 x1wy) < ((257 : Nat) : Int) := by omega
       have hi1xe : (btI p0 x1wy) < (r1v6.length : Int) := by rw [hl1vc]; exact hi1xf
       refine WL.oq h1xa rfl ?_
       refine owp_rn (.pointer (some ((⟨g1vh, 0, none⟩ : Addr).add ((btI p0 x1wy).toNat * 2)))) h1xa rfl (run_idxarr (ad := ⟨g1vh, 0, none⟩) (sz := 2) rfl rfl rfl Tryd.underlying117 (by kernel_rfl) hi1xd hi1xf) (fun a1xh h1xi => ?_)
       obtain ⟨ad1xj, cs1xk, ha1xl, hr1xn, hc1xm⟩ := Rds.elemAny hr1vq.rds hi1xd (gt_get (z := z116) hi1xd hi1xe)
       obtain rfl := Option.some.inj ha1xl
       obtain rfl := k116qrd hr1xn
       refine WL.oq h1xi rfl ?_
       refine owp_rn (.agg #[.int .u32 ((gt z116 r1v6 (btI p0 x1wy)).f0), .int .u8 ((gt z116 r1v6 (btI p0 x1wy)).f1)]) h1xi rfl (run_loadN rfl rfl Tryd.underlying116 rfl (cs := [.int .u32 ((gt z116 r1v6 (btI p0 x1wy)).f0), .int .u8 ((gt z116 r1v6 (btI p0 x1wy)).f1)]) (by kernel_rfl) (hc1xm _ (fun _ _ hk_ => (hS1wp).pool.kn hk_))) (fun a1xo h1xp => ?_)
       refine WL.oq h1xp rfl ?_
       refine owp_nw (fun g_ => (pt g_)) (.cells ([.int .u32 0, .int .u8 0] : List Value).toArray 116 (0, 0)) h1xp rfl hS1wp (fun a1xq W1xs g1xt h1xr hS1xu => ?_)
       refine WL.oq h1xr rfl ?_
       refine owp_st 0 [.int .u32 ((gt z116 r1v6 (btI p0 x1wy)).f0), .int .u8 ((gt z116 r1v6 (btI p0 x1wy)).f1)] h1xr rfl rfl rfl hS1xu [.int .u32 ((gt z116 r1v6 (btI p0 x1wy)).f0), .int .u8 ((gt z116 r1v6 (btI p0 x1wy)).f1)] (fun a1xv W1xx h1xw hS1xy => ?_)
       refine WL.dn ?_
       refine wp_seq ?_
       refine WL.start ?_
       refine WL.bl 2 2 h1xw [(25, .pointer (some ⟨g1xt, 1, none⟩)), (24, .int .u64 x1ww)] (fun a1xz h1y0 => ?_)
       refine WL.oq h1y0 rfl ?_
       refine owp_rn (.int .u8 ((gt z116 r1v6 (btI p0 x1wy)).f1)) h1y0 rfl (run_load1 rfl rfl Tryd.underlying5 rfl (hS1xy.cell (i := 1) rfl)) (fun a1y1 h1y2 => ?_)
       clear h1xa a1x9 h1xi a1xh h1xp a1xo h1xr a1xq h1xw a1xv h1y0 a1xz
       by_cases c1y3 : 0 ≤ ((gt z116 r1v6 (btI p0 x1wy)).f1)
       ·rw [if_pos c1y3] at H
        refine WL.oq h1y2 rfl ?_
        refine owp_rn (.int .u64 (shlI .u64 x1ww ((gt z116 r1v6 (btI p0 x1wy)).f1))) h1y2 rfl (run_shl rfl rfl rfl (by assumption)) (fun a1y4 h1y5 => ?_)
        refine WL.bl 1 5 h1y5 [(28, pt g1xt)] (fun a1y6 h1y7 => ?_)
        refine WL.oq h1y7 rfl ?_
        refine owp_rn (.int .u32 ((gt z116 r1v6 (btI p0 x1wy)).f0)) h1y7 rfl (run_load1 rfl rfl Tryd.underlying29 rfl (hS1xy.cell (i := 0) rfl)) (fun a1y8 h1y9 => ?_)
        refine WL.bl 3 9 h1y9 [(5, .int .u64 (bOr .u64 (shlI .u64 x1ww ((gt z116 r1v6 (btI p0 x1wy)).f1)) (IntKind.u64.wrap ((gt z116 r1v6 (btI p0 x1wy)).f0)))), (31, .int .u64 (bOr .u64 (shlI .u64 x1ww ((gt z116 r1v6 (btI p0 x1wy)).f1)) (IntKind.u64.wrap ((gt z116 r1v6 (btI p0 x1wy)).f0)))), (30, .int .u64 (IntKind.u64.wrap ((gt z116 r1v6 (btI p0 x1wy)).f0)))] (fun a1ya h1yb => ?_)
        refine WL.dn ?_
        refine wp_seq ?_
        refine WL.start ?_
        refine WL.bl 2 2 h1yb [(33, .pointer (some ⟨g1xt, 1, none⟩)), (32, i6 x1wx)] (fun a1yc h1yd => ?_)
        refine WL.oq h1yd rfl ?_
        refine owp_rn (.int .u8 ((gt z116 r1v6 (btI p0 x1wy)).f1)) h1yd rfl (run_load1 rfl rfl Tryd.underlying5 rfl (hS1xy.cell (i := 1) rfl)) (fun a1ye h1yf => ?_)
        refine WL.bl 3 6 h1yf [(6, i6 (IntKind.i64.wrap (x1wx + (IntKind.i64.wrap ((gt z116 r1v6 (btI p0 x1wy)).f1))))), (36, i6 (IntKind.i64.wrap (x1wx + (IntKind.i64.wrap ((gt z116 r1v6 (btI p0 x1wy)).f1))))), (35, i6 (IntKind.i64.wrap ((gt z116 r1v6 (btI p0 x1wy)).f1)))] (fun a1yg h1yh => ?_)
        refine WL.dn ?_
        refine wp_block ?_
        have hS1yu := hS1xy.drop_
        clear h1y2 a1y1 h1y5 a1y4 h1y7 a1y6 h1y9 a1y8 h1yb a1ya h1yd a1yc h1yf a1ye
        refine wp_loop_ghost (fun kq_ a_ W_ => ∃ (x1yn : (List Int)), ∃ (A1yo : Option Addr), ∃ (c1yp : Nat), ∃ (M1yq : Frag), ∃ (x1ys : Int), ∃ (x1yt : Int), Hd a_ 70 [(0, .string (mkS p0)), (3, pt g1vh), (4, .slice A1yo x1yn.length c1yp), (5, .int .u64 x1ys), (6, i6 x1yt), (15, i6 (p0.length : Int)), (16, i6 x1wy)] ∧ Asd (huffman_Encode.l1 kq_ x1yn x1ys x1yt p0 r1v6 x1wy = some r0q) ∧ Asd (kq_ ≤ kk1x0) ∧ Asd (St b w0 W_ R (M1vp :: M1yq :: Fs)) ∧ Asd (Row (kInt .u8) 5 b w0 R (.slice A1yo x1yn.length c1yp) x1yn M1yq)) kk1x0 ⟨x1wr, A1ws, c1wt, M1wu, bOr .u64 (shlI .u64 x1ww ((gt z116 r1v6 (btI p0 x1wy)).f1)) (IntKind.u64.wrap ((gt z116 r1v6 (btI p0 x1wy)).f0)), IntKind.i64.wrap (x1wx + (IntKind.i64.wrap ((gt z116 r1v6 (btI p0 x1wy)).f1))), h1yh.keep ⟨rfl, rfl, rfl, rfl, rfl, rfl, rfl, trivial⟩, ⟨H⟩, ⟨Nat.le_refl _⟩, ⟨hS1yu⟩, ⟨hr1wv⟩⟩ ?_
        clear H hS1yu
        rintro kk1ym a1yj W1yk ⟨x1yn, A1yo, c1yp, M1yq, x1ys, x1yt, h1yi, ⟨H⟩, ⟨hkkk1ym⟩, ⟨hS1yl⟩, ⟨hr1yr⟩⟩
        obtain _ | kk1yv := kk1ym
        ·exact absurd H (by simp [huffman_Encode.l1])
        simp only [huffman_Encode.l1] at H
        refine wp_seq ?_
        refine wp_seq ?_
        refine WL.start ?_
        refine WL.bl 2 2 h1yi [(38, .bool (decide (x1yt ≥ 8))), (37, i6 x1yt)] (fun a1yw h1yx => ?_)
        refine WL.dn ?_
        clear h1yi a1yj
        by_cases c1yy : x1yt ≥ 8
        ·rw [if_pos c1yy] at H
         have hb_ : (decide (x1yt ≥ 8)) = true := decide_eq_true c1yy
         try rw [hb_] at h1yx
         clear hb_
         refine wp_then h1yx rfl ?_
         refine wp_skip ?_
         refine wp_block ?_
         refine wp_seq ?_
         refine WL.start ?_
         refine WL.bl 3 3 h1yx [(6, i6 (IntKind.i64.wrap (x1yt - 8))), (40, i6 (IntKind.i64.wrap (x1yt - 8))), (39, i6 x1yt)] (fun a1yz h1z0 => ?_)
         refine WL.dn ?_
         refine wp_seq ?_
         refine WL.start ?_
         refine WL.bl 3 3 h1z0 [(43, i6 (IntKind.i64.wrap (x1yt - 8))), (42, .int .u64 x1ys), (41, .slice A1yo x1yn.length c1yp)] (fun a1z1 h1z2 => ?_)
         clear h1yx a1yw h1z0 a1yz
         by_cases c1z3 : 0 ≤ (IntKind.i64.wrap (x1yt - 8))
         ·rw [if_pos c1z3] at H
          refine WL.oq h1z2 rfl ?_
          refine owp_rn (.int .u64 (shrI .u64 x1ys (IntKind.i64.wrap (x1yt - 8)))) h1z2 rfl (run_shr rfl rfl rfl (by assumption)) (fun a1z4 h1z5 => ?_)
          refine WL.bl 1 5 h1z5 [(45, .int .u8 (IntKind.u8.wrap (shrI .u64 x1ys (IntKind.i64.wrap (x1yt - 8)))))] (fun a1z6 h1z7 => ?_)
          refine WL.oq h1z7 rfl ?_
          refine owp_nw (fun g_ => .slice (some ⟨g_, 0, none⟩) 1 1) (.cells ([.int .u8 (IntKind.u8.wrap (shrI .u64 x1ys (IntKind.i64.wrap (x1yt - 8))))] : List Value).toArray 5 (0, 0)) h1z7 rfl hS1yl (fun a1z8 W1za g1zb h1z9 hS1zc => ?_)
          have hr1zd : Row (kInt .u8) 5 b w0 R (.slice (some ⟨g1zb, 0, none⟩) 1 1) ([IntKind.u8.wrap (shrI .u64 x1ys (IntKind.i64.wrap (x1yt - 8)))] : List Int) (bx g1zb 5 [.int .u8 (IntKind.u8.wrap (shrI .u64 x1ys (IntKind.i64.wrap (x1yt - 8))))]) := Row.lit (xs := ([IntKind.u8.wrap (shrI .u64 x1ys (IntKind.i64.wrap (x1yt - 8)))] : List Int)) (Mi := []) ⟨_, _, [], _, rfl, rfl, ⟨rfl, rfl⟩, ⟨rfl, rfl⟩⟩ (by simp [maxLen])
          clear h1z2 a1z1 h1z5 a1z4 h1z7 a1z6
          by_cases c1ze : x1yn.length + 1 ≤ 140737488355328
          ·rw [if_pos c1ze] at H
           have hS1zf := hS1zc.b2
           refine WL.oq h1z9 rfl ?_
           refine owp_app_take (z := .int .u8 0) (bytes := 1) (dk := (kInt .u8)) h1z9 rfl (by kernel_rfl) rfl rfl rfl hr1yr hr1zd hS1zf Tryd.underlying22 (by kernel_rfl) rfl (by decide) (by decide) (by first | omega | (simp only [List.length_cons, List.length_nil] at *; omega)) (fun a1zg W1zi v1zj M1zk h1zh hr1zl hS1zm => ?_)
           obtain ⟨y1zn, hy1zo, H⟩ := lete H
           have hr1zp : Row (kInt .u8) 5 b w0 R v1zj y1zn M1zk := by rw [hy1zo]; exact hr1zl
           clear hr1zl
           obtain ⟨A1zq, c1zr, rfl⟩ := hr1zp.form
           refine WL.bl 1 8 h1zh [(4, .slice A1zq y1zn.length c1zr)] (fun a1zs h1zt => ?_)
           refine WL.dn ?_
           refine WL.start ?_
           refine WL.bl 2 2 h1zt [(49, i6 (IntKind.i64.wrap (x1yt - 8))), (48, .int .u64 x1ys)] (fun a1zu h1zv => ?_)
           refine WL.oq h1zv rfl ?_
           refine owp_rn (.int .u64 (shlI .u64 1 (IntKind.i64.wrap (x1yt - 8)))) h1zv rfl (run_shl rfl rfl rfl (by assumption)) (fun a1zw h1zx => ?_)
           refine WL.bl 3 6 h1zx [(5, .int .u64 (bAnd .u64 x1ys (IntKind.u64.wrap ((shlI .u64 1 (IntKind.i64.wrap (x1yt - 8))) - 1)))), (52, .int .u64 (bAnd .u64 x1ys (IntKind.u64.wrap ((shlI .u64 1 (IntKind.i64.wrap (x1yt - 8))) - 1)))), (51, .int .u64 (IntKind.u64.wrap ((shlI .u64 1 (IntKind.i64.wrap (x1yt - 8))) - 1)))] (fun a1zy h1zz => ?_)
           refine WL.dn ?_
           have hS200 := hS1zm.b1
           exact ⟨kk1yv, by omega, y1zn, A1zq, c1zr, M1zk, bAnd .u64 x1ys (IntKind.u64.wrap ((shlI .u64 1 (IntKind.i64.wrap (x1yt - 8))) - 1)), IntKind.i64.wrap (x1yt - 8), h1zz.keep ⟨rfl, rfl, rfl, rfl, rfl, rfl, rfl, trivial⟩, ⟨H⟩, ⟨by omega⟩, ⟨hS200⟩, ⟨hr1zp⟩⟩
          ·rw [if_neg c1ze] at H
           cases H
         ·rw [if_neg c1z3] at H
          cases H
        ·rw [if_neg c1yy] at H
         have hb_ : (decide (x1yt ≥ 8)) = false := decide_eq_false c1yy
         try rw [hb_] at h1yx
         clear hb_
         refine wp_else h1yx rfl ?_
         refine wp_exit ?_
         refine WL.start ?_
         refine WL.bl 2 2 h1yx [(16, i6 (IntKind.i64.wrap (x1wy + 1))), (53, i6 (IntKind.i64.wrap (x1wy + 1)))] (fun a201 h202 => ?_)
         refine WL.dn ?_
         exact ⟨kk1yv, by omega, x1yn, A1yo, c1yp, M1yq, x1ys, x1yt, IntKind.i64.wrap (x1wy + 1), h202.keep ⟨rfl, rfl, rfl, rfl, rfl, rfl, rfl, trivial⟩, ⟨H⟩, ⟨by omega⟩, ⟨hS1yl⟩, ⟨hr1yr⟩⟩
       ·rw [if_neg c1y3] at H
        cases H
      ·rw [if_neg c1xc] at H
       cases H
     ·rw [if_neg c1xb] at H
      cases H
    ·rw [if_neg c1x8] at H
     cases H
   ·rw [if_neg c1x3] at H
    have hb_ : (decide (x1wy < (p0.length : Int))) = false := decide_eq_false c1x3
    try rw [hb_] at h1x2
    clear hb_
    refine wp_else h1x2 rfl ?_
    refine wp_exit ?_
    refine wp_seq ?_
    refine wp_seq ?_
    refine WL.start ?_
    refine WL.bl 2 2 h1x2 [(55, .bool (decide (x1wx > 0))), (54, i6 x1wx)] (fun a203 h204 => ?_)
    refine WL.dn ?_
    clear h1x2 a1x1
    by_cases c205 : x1wx > 0
    ·rw [if_pos c205] at H
     have hb_ : (decide (x1wx > 0)) = true := decide_eq_true c205
     try rw [hb_] at h204
     clear hb_
     refine wp_then h204 rfl ?_
     refine wp_seq ?_
     refine WL.start ?_
     refine WL.bl 3 3 h204 [(9, i6 (IntKind.i64.wrap (8 - x1wx))), (57, i6 (IntKind.i64.wrap (8 - x1wx))), (56, i6 x1wx)] (fun a206 h207 => ?_)
     refine WL.dn ?_
     refine WT.start 12 (fun w_ => True) (by kernel_rfl) #[false, false, false, false, false, false, false, false, false, false, false, false] 12 rfl rfl ?_
     have hS21n := hS1wp.drew
     refine WT.tk 0 h207 rfl rfl (.slice A1ws x1wr.length c1wt) (fun _ _ => by kernel_rfl) trivial (fun a21o s21q h21p => ?_)
     refine WT.tk 1 h21p rfl rfl (.int .u64 x1ww) (fun _ _ => by kernel_rfl) s21q (fun a21r s21t h21s => ?_)
     refine WT.tk 2 h21s rfl rfl (i6 (IntKind.i64.wrap (8 - x1wx))) (fun _ _ => by kernel_rfl) s21t (fun a21u s21w h21v => ?_)
     refine WT.tk 4 h21v rfl rfl (i6 (IntKind.i64.wrap (8 - x1wx))) (fun _ _ => by kernel_rfl) s21w (fun a21x s21z h21y => ?_)
     clear h204 a203 h207 a206 h21p a21o h21s a21r h21v a21u
     by_cases c220 : 0 ≤ (IntKind.i64.wrap (8 - x1wx))
     ·rw [if_pos c220] at H
      refine WT.tk 3 h21y rfl rfl (.int .u64 (shlI .u64 x1ww (IntKind.i64.wrap (8 - x1wx)))) (fun w_ hs_ => (run_shl rfl rfl rfl (by assumption))) s21z (fun a221 s223 h222 => ?_)
      refine WT.tk 5 h222 rfl rfl (.int .u64 (shlI .u64 1 (IntKind.i64.wrap (8 - x1wx)))) (fun w_ hs_ => (run_shl rfl rfl rfl (by assumption))) s223 (fun a224 s226 h225 => ?_)
      refine WT.tk 6 h225 rfl rfl (.int .u64 (IntKind.u64.wrap ((shlI .u64 1 (IntKind.i64.wrap (8 - x1wx))) - 1))) (fun _ _ => by kernel_rfl) s226 (fun a227 s229 h228 => ?_)
      refine WT.tk 7 h228 rfl rfl (.int .u64 (bOr .u64 (shlI .u64 x1ww (IntKind.i64.wrap (8 - x1wx))) (IntKind.u64.wrap ((shlI .u64 1 (IntKind.i64.wrap (8 - x1wx))) - 1)))) (fun _ _ => by kernel_rfl) s229 (fun a22a s22c h22b => ?_)
      refine WT.tk 8 h22b rfl rfl (.int .u8 (IntKind.u8.wrap (bOr .u64 (shlI .u64 x1ww (IntKind.i64.wrap (8 - x1wx))) (IntKind.u64.wrap ((shlI .u64 1 (IntKind.i64.wrap (8 - x1wx))) - 1))))) (fun _ _ => by kernel_rfl) s22c (fun a22d s22f h22e => ?_)
      refine WT.o1 9 h22e rfl ?_
      refine owp_nw (fun g_ => .slice (some ⟨g_, 0, none⟩) 1 1) (.cells ([.int .u8 (IntKind.u8.wrap (bOr .u64 (shlI .u64 x1ww (IntKind.i64.wrap (8 - x1wx))) (IntKind.u64.wrap ((shlI .u64 1 (IntKind.i64.wrap (8 - x1wx))) - 1))))] : List Value).toArray 5 (0, 0)) h22e rfl hS21n (fun a22g W22i g22j h22h hS22k => ?_)
      have hr22l : Row (kInt .u8) 5 b w0 R (.slice (some ⟨g22j, 0, none⟩) 1 1) ([IntKind.u8.wrap (bOr .u64 (shlI .u64 x1ww (IntKind.i64.wrap (8 - x1wx))) (IntKind.u64.wrap ((shlI .u64 1 (IntKind.i64.wrap (8 - x1wx))) - 1)))] : List Int) (bx g22j 5 [.int .u8 (IntKind.u8.wrap (bOr .u64 (shlI .u64 x1ww (IntKind.i64.wrap (8 - x1wx))) (IntKind.u64.wrap ((shlI .u64 1 (IntKind.i64.wrap (8 - x1wx))) - 1))))]) := Row.lit (xs := ([IntKind.u8.wrap (bOr .u64 (shlI .u64 x1ww (IntKind.i64.wrap (8 - x1wx))) (IntKind.u64.wrap ((shlI .u64 1 (IntKind.i64.wrap (8 - x1wx))) - 1)))] : List Int)) (Mi := []) ⟨_, _, [], _, rfl, rfl, ⟨rfl, rfl⟩, ⟨rfl, rfl⟩⟩ (by simp [maxLen])
      refine ⟨.inr trivial, ?_⟩
      clear h21y a21x h222 a221 h225 a224 h228 a227 h22b a22a h22e a22d
      by_cases c22m : x1wr.length + 1 ≤ 140737488355328
      ·rw [if_pos c22m] at H
       have hS22n := hS22k.b2
       refine WT.o1 10 h22h rfl ?_
       refine owp_app_take (z := .int .u8 0) (bytes := 1) (dk := (kInt .u8)) h22h rfl (by kernel_rfl) rfl rfl rfl hr1wv hr22l hS22n Tryd.underlying22 (by kernel_rfl) rfl (by decide) (by decide) (by first | omega | (simp only [List.length_cons, List.length_nil] at *; omega)) (fun a22o W22q v22r M22s h22p hr22t hS22u => ?_)
       obtain ⟨y22v, hy22w, H⟩ := lete H
       have hr22x : Row (kInt .u8) 5 b w0 R v22r y22v M22s := by rw [hy22w]; exact hr22t
       clear hr22t
       obtain ⟨A22y, c22z, rfl⟩ := hr22x.form
       refine ⟨.inr trivial, ?_⟩
       refine WT.tk 11 h22p rfl rfl (.slice A22y y22v.length c22z) (fun _ _ => by kernel_rfl) trivial (fun a230 s232 h231 => ?_)
       refine WT.dn ?_
       refine wp_seq ?_
       refine WL.start ?_
       refine WL.bl 2 2 h231 [(2, .slice A22y y22v.length c22z), (69, .slice A22y y22v.length c22z)] (fun a233 h234 => ?_)
       refine WL.dn ?_
       refine wp_ret ?_
       have hS235 := hS22u.b1
       have hS236 := hS235.drop_
       obtain rfl := Option.some.inj H
       repeat (first | with_reducible refine t1 ?_ | with_reducible refine t2 ?_ | with_reducible refine t3 ?_)
       refine bret (.slice A22y y22v.length c22z) h234 ?_
       exact ⟨.slice A22y y22v.length c22z, M22s, rfl, hr22x, hS236⟩
      ·rw [if_neg c22m] at H
       cases H
     ·rw [if_neg c220] at H
      cases H
    ·rw [if_neg c205] at H
     have hb_ : (decide (x1wx > 0)) = false := decide_eq_false c205
     try rw [hb_] at h204
     clear hb_
     refine wp_else h204 rfl ?_
     refine wp_skip ?_
     refine wp_seq ?_
     refine WL.start ?_
     refine WL.bl 2 2 h204 [(2, .slice A1ws x1wr.length c1wt), (69, .slice A1ws x1wr.length c1wt)] (fun a237 h238 => ?_)
     refine WL.dn ?_
     refine wp_ret ?_
     have hS239 := hS1wp.drop_
     obtain rfl := Option.some.inj H
     repeat (first | with_reducible refine t1 ?_ | with_reducible refine t2 ?_ | with_reducible refine t3 ?_)
     refine bret (.slice A1ws x1wr.length c1wt) h238 ?_
     exact ⟨.slice A1ws x1wr.length c1wt, M1wu, rfl, hr1wv, hS239⟩
  ·rw [if_neg c1w3] at H
   cases H
 ·rw [if_neg c1w2] at H
  cases H

/-! ### louver/hpack.text -/
def hpack_text.f (k : Nat) (p0 : (List Int)) (p1 : (List UInt8)) : Option ((List Int)) := bnd1 (huffman_Encode.f k p1) fun r12p => (if (r12p.length : Int) < (p1.length : Int) then (bnd1 (prefix_Put.f k p0 7 128 (IntKind.u32.wrap (r12p.length : Int))) fun r139 => (if r139.length + r12p.length ≤ 140737488355328 then (lt1 (r139 ++ r12p : List Int) fun y13x => (some y13x)) else (none))) else (bnd1 (prefix_Put.f k p0 7 0 (IntKind.u32.wrap (p1.length : Int))) fun r149 => (if r149.length + p1.length ≤ 140737488355328 then (lt1 (r149 ++ ofS p1 : List Int) fun y14v => (some y14v)) else (none))))
set_option maxHeartbeats 20000000 in
set_option maxRecDepth 100000 in
theorem hpack_text.calls (k : Nat) {b : Nat} {w0 W : World} {R : Frag} {Fs : List Frag} {p0 : (List Int)} {p1 : (List UInt8)} {v0 : Value} {r0q : (List Int)} (hp0 : Rds (kInt .u8) b w0 R v0 p0) (hg1 : Rds (kInt .u8) b w0 [] (.slice (some ⟨1, 0, none⟩) 257 257) G1) (H : hpack_text.f k p0 p1 = some r0q) (hS : St b w0 W R (Fs)) :
  Calls Tryd.prog 56 ([v0, .string (mkS p1)] : List Value).toArray W (fun e W' => ∃ (u0q : Value) (N0q : Frag), e = .returned (u0q) ∧ Row (kInt .u8) 5 b w0 R u0q r0q N0q ∧ St b w0 W' R (N0q :: Fs)) := by
 obtain ⟨A0, c0, rfl⟩ := hp0.form
 unfold hpack_text.f at H
 refine calls_enter Tryd.func56 rfl 27 rfl (by kernel_rfl) (fun a h => ?_)
 refine wp_seq ?_
 refine WL.start ?_
 refine WL.bl 1 1 h [(4, .slice none 0 0)] (fun a12k h12l => ?_)
 refine WL.dn ?_
 refine wp_seq ?_
 refine wp_seq ?_
 refine WL.start ?_
 refine WL.bl 1 1 h12l [(6, .string (mkS p1))] (fun a12m h12n => ?_)
 obtain ⟨r12p, A12o, H⟩ := bind1 H
 refine WL.oq h12n rfl ?_
 refine owp_call [.string (mkS p1)] h12n rfl (by kernel_rfl) rfl Tryd.func60 (by kernel_rfl) rfl (by kernel_rfl) (huffman_Encode.calls k hg1 A12o hS) (fun e12r W12q hp12s => ?_)
 obtain ⟨v12v, M12w, rfl, hr12x, hS12y⟩ := hp12s
 refine ⟨_, rfl, fun a12t h12u => ?_⟩
 obtain ⟨A12z, c130, rfl⟩ := hr12x.form
 refine WL.bl 1 3 h12u [(5, .slice A12z r12p.length c130)] (fun a131 h132 => ?_)
 refine WL.dn ?_
 refine wp_seq ?_
 refine WL.start ?_
 refine WL.bl 5 5 h132 [(12, .bool (decide ((r12p.length : Int) < (p1.length : Int)))), (11, i6 (p1.length : Int)), (10, .string (mkS p1)), (9, i6 (r12p.length : Int)), (8, .slice A12z r12p.length c130)] (fun a133 h134 => ?_)
 refine WL.dn ?_
 clear h12l a12k h12n a12m h12u a12t h132 a131
 by_cases c135 : (r12p.length : Int) < (p1.length : Int)
 ·rw [if_pos c135] at H
  have hb_ : (decide ((r12p.length : Int) < (p1.length : Int))) = true := decide_eq_true c135
  try rw [hb_] at h134
  clear hb_
  refine wp_then h134 rfl ?_
  refine wp_seq ?_
  refine WL.start ?_
  refine WL.bl 4 4 h134 [(16, .int .u32 (IntKind.u32.wrap (r12p.length : Int))), (15, i6 (r12p.length : Int)), (14, .slice A12z r12p.length c130), (13, .slice A0 p0.length c0)] (fun a136 h137 => ?_)
  obtain ⟨r139, A138, H⟩ := bind1 H
  refine WL.oq h137 rfl ?_
  refine owp_call [.slice A0 p0.length c0, i6 7, .int .u8 128, .int .u32 (IntKind.u32.wrap (r12p.length : Int))] h137 rfl (by kernel_rfl) rfl Tryd.func27 (by kernel_rfl) rfl (by kernel_rfl) (prefix_Put.calls k hp0 A138 hS12y) (fun e13b W13a hp13c => ?_)
  obtain ⟨v13f, M13g, rfl, hr13h, hS13i⟩ := hp13c
  refine ⟨_, rfl, fun a13d h13e => ?_⟩
  obtain ⟨A13j, c13k, rfl⟩ := hr13h.form
  refine WL.bl 1 6 h13e [(18, .slice A12z r12p.length c130)] (fun a13l h13m => ?_)
  clear h134 a133 h137 a136 h13e a13d
  by_cases c13n : r139.length + r12p.length ≤ 140737488355328
  ·rw [if_pos c13n] at H
   have hS13o := hS13i.b1
   have hS13p := hS13o.b1
   refine WL.oq h13m rfl ?_
   refine owp_app_keep (z := .int .u8 0) (bytes := 1) (dk := (kInt .u8)) h13m rfl (by kernel_rfl) rfl rfl rfl (fun hr_ => hr_.2) hr13h hr12x hS13p Tryd.underlying22 (by kernel_rfl) rfl (by decide) (by decide) (by first | omega | (simp only [List.length_cons, List.length_nil] at *; omega)) (fun a13q W13s v13t M13u h13r hr13v hS13w => ?_)
   obtain ⟨y13x, hy13y, H⟩ := lete H
   have hr13z : Row (kInt .u8) 5 b w0 R v13t y13x M13u := by rw [hy13y]; exact hr13v
   clear hr13v
   obtain ⟨A140, c141, rfl⟩ := hr13z.form
   refine WL.bl 1 8 h13r [(4, .slice A140 y13x.length c141)] (fun a142 h143 => ?_)
   refine WL.dn ?_
   refine wp_ret ?_
   have hS144 := hS13w.b1
   have hS145 := hS144.drop_
   obtain rfl := Option.some.inj H
   repeat (first | with_reducible refine t1 ?_ | with_reducible refine t2 ?_ | with_reducible refine t3 ?_)
   refine bret (.slice A140 y13x.length c141) h143 ?_
   exact ⟨.slice A140 y13x.length c141, M13u, rfl, hr13z, hS145⟩
  ·rw [if_neg c13n] at H
   cases H
 ·rw [if_neg c135] at H
  have hb_ : (decide ((r12p.length : Int) < (p1.length : Int))) = false := decide_eq_false c135
  try rw [hb_] at h134
  clear hb_
  refine wp_else h134 rfl ?_
  refine wp_skip ?_
  refine wp_seq ?_
  refine WL.start ?_
  refine WL.bl 4 4 h134 [(23, .int .u32 (IntKind.u32.wrap (p1.length : Int))), (22, i6 (p1.length : Int)), (21, .string (mkS p1)), (20, .slice A0 p0.length c0)] (fun a146 h147 => ?_)
  obtain ⟨r149, A148, H⟩ := bind1 H
  refine WL.oq h147 rfl ?_
  refine owp_call [.slice A0 p0.length c0, i6 7, .int .u8 0, .int .u32 (IntKind.u32.wrap (p1.length : Int))] h147 rfl (by kernel_rfl) rfl Tryd.func27 (by kernel_rfl) rfl (by kernel_rfl) (prefix_Put.calls k hp0 A148 hS12y) (fun e14b W14a hp14c => ?_)
  obtain ⟨v14f, M14g, rfl, hr14h, hS14i⟩ := hp14c
  refine ⟨_, rfl, fun a14d h14e => ?_⟩
  obtain ⟨A14j, c14k, rfl⟩ := hr14h.form
  refine WL.bl 1 6 h14e [(25, .string (mkS p1))] (fun a14l h14m => ?_)
  clear h134 a133 h147 a146 h14e a14d
  by_cases c14n : r149.length + p1.length ≤ 140737488355328
  ·rw [if_pos c14n] at H
   refine WL.oq h14m rfl ?_
   refine owp_app_str h14m rfl (by kernel_rfl) rfl rfl rfl hr14h hS14i Tryd.underlying22 Tryd.underlying9 (by kernel_rfl) (by simpa [ofS] using ‹r149.length + p1.length ≤ 140737488355328›) (fun a14o W14q v14r M14s h14p hr14t hS14u => ?_)
   obtain ⟨y14v, hy14w, H⟩ := lete H
   have hr14x : Row (kInt .u8) 5 b w0 R v14r y14v M14s := by rw [hy14w]; exact hr14t
   clear hr14t
   obtain ⟨A14y, c14z, rfl⟩ := hr14x.form
   refine WL.bl 1 8 h14p [(4, .slice A14y y14v.length c14z)] (fun a150 h151 => ?_)
   refine WL.dn ?_
   refine wp_ret ?_
   have hS152 := hS14u.b1
   have hS153 := hS152.drop_
   obtain rfl := Option.some.inj H
   repeat (first | with_reducible refine t1 ?_ | with_reducible refine t2 ?_ | with_reducible refine t3 ?_)
   refine bret (.slice A14y y14v.length c14z) h151 ?_
   exact ⟨.slice A14y y14v.length c14z, M14s, rfl, hr14x, hS153⟩
  ·rw [if_neg c14n] at H
   cases H

/-! ### louver/hpack.literal -/
def hpack_literal.f (k : Nat) (p0 : (List Int)) (p1 : Int) (p2 : Int) (p3 : Int) (p4 : S52) : Option ((List Int)) := bnd1 (prefix_Put.f k p0 p1 p2 (IntKind.u32.wrap p3)) fun r133 => (if p3 = 0 then (bnd1 (hpack_text.f k r133 p4.f0) fun r13r => (bnd1 (hpack_text.f k r13r p4.f1) fun r14d => (some r14d))) else (bnd1 (hpack_text.f k r133 p4.f1) fun r154 => (some r154)))
set_option maxHeartbeats 20000000 in
set_option maxRecDepth 100000 in
theorem hpack_literal.calls (k : Nat) {b : Nat} {w0 W : World} {R : Frag} {Fs : List Frag} {p0 : (List Int)} {p1 : Int} {p2 : Int} {p3 : Int} {p4 : S52} {v0 : Value} {r0q : (List Int)} (hp0 : Rds (kInt .u8) b w0 R v0 p0) (hg1 : Rds (kInt .u8) b w0 [] (.slice (some ⟨1, 0, none⟩) 257 257) G1) (H : hpack_literal.f k p0 p1 p2 p3 p4 = some r0q) (hS : St b w0 W R (Fs)) :
  Calls Tryd.prog 43 ([v0, i6 p1, .int .u8 p2, i6 p3, .agg #[.string (mkS p4.f0), .string (mkS p4.f1), .bool p4.f2]] : List Value).toArray W (fun e W' => ∃ (u0q : Value) (N0q : Frag), e = .returned (u0q) ∧ Row (kInt .u8) 5 b w0 R u0q r0q N0q ∧ St b w0 W' R (N0q :: Fs)) := by
 obtain ⟨A0, c0, rfl⟩ := hp0.form
 unfold hpack_literal.f at H
 refine calls_enter Tryd.func43 rfl 27 rfl (by kernel_rfl) (fun a h => ?_)
 refine wp_seq ?_
 refine WL.start ?_
 refine WL.oq h rfl ?_
 refine owp_nw (fun g_ => (pt g_)) (.cells ([.string (mkS p4.f0), .string (mkS p4.f1), .bool p4.f2] : List Value).toArray 52 (0, 0)) h rfl hS (fun a12t W12v g12w h12u hS12x => ?_)
 refine WL.bl 1 2 h12u [(10, .slice none 0 0)] (fun a12y h12z => ?_)
 refine WL.dn ?_
 refine wp_seq ?_
 refine WL.start ?_
 refine WL.bl 5 5 h12z [(15, .int .u32 (IntKind.u32.wrap p3)), (14, i6 p3), (13, .int .u8 p2), (12, i6 p1), (11, .slice A0 p0.length c0)] (fun a130 h131 => ?_)
 obtain ⟨r133, A132, H⟩ := bind1 H
 refine WL.oq h131 rfl ?_
 refine owp_call [.slice A0 p0.length c0, i6 p1, .int .u8 p2, .int .u32 (IntKind.u32.wrap p3)] h131 rfl (by kernel_rfl) rfl Tryd.func27 (by kernel_rfl) rfl (by kernel_rfl) (prefix_Put.calls k hp0 A132 hS12x) (fun e135 W134 hp136 => ?_)
 obtain ⟨v139, M13a, rfl, hr13b, hS13c⟩ := hp136
 refine ⟨_, rfl, fun a137 h138 => ?_⟩
 obtain ⟨A13d, c13e, rfl⟩ := hr13b.form
 refine WL.bl 1 7 h138 [(0, .slice A13d r133.length c13e)] (fun a13f h13g => ?_)
 refine WL.dn ?_
 refine wp_seq ?_
 refine wp_seq ?_
 refine WL.start ?_
 refine WL.bl 2 2 h13g [(18, .bool (decide (p3 = 0))), (17, i6 p3)] (fun a13h h13i => ?_)
 refine WL.dn ?_
 clear h12u a12t h12z a12y h131 a130 h138 a137 h13g a13f
 by_cases c13j : p3 = 0
 ·rw [if_pos c13j] at H
  have hb_ : (decide (p3 = 0)) = true := decide_eq_true c13j
  try rw [hb_] at h13i
  clear hb_
  refine wp_then h13i rfl ?_
  refine WL.start ?_
  refine WL.bl 2 2 h13i [(20, pt g12w), (19, .slice A13d r133.length c13e)] (fun a13k h13l => ?_)
  have hS13m := hS13c.b1
  refine WL.oq h13l rfl ?_
  refine owp_rn (.string (mkS p4.f0)) h13l rfl (run_load1 rfl rfl Tryd.underlying9 rfl (hS13m.cell (i := 0) rfl)) (fun a13n h13o => ?_)
  have hS13p := hS13m.b1
  obtain ⟨r13r, A13q, H⟩ := bind1 H
  refine WL.oq h13o rfl ?_
  refine owp_call [.slice A13d r133.length c13e, .string (mkS p4.f0)] h13o rfl (by kernel_rfl) rfl Tryd.func56 (by kernel_rfl) rfl (by kernel_rfl) (hpack_text.calls k hr13b.rds hg1 A13q (hS13p.pool)) (fun e13t W13s hp13u => ?_)
  obtain ⟨v13x, M13y, rfl, hr13z, hS140⟩ := hp13u
  have hS141 : St b w0 W13s R (M13a :: M13y :: (bx g12w 52 [.string (mkS p4.f0), .string (mkS p4.f1), .bool p4.f2]) :: Fs) := hS140.unpool
  replace hr13z : Row (kInt .u8) 5 b w0 R v13x r13r M13y := hr13z.ind (kInt_ind _)
  refine ⟨_, rfl, fun a13v h13w => ?_⟩
  obtain ⟨A142, c143, rfl⟩ := hr13z.form
  refine WL.bl 1 5 h13w [(0, .slice A142 r13r.length c143)] (fun a144 h145 => ?_)
  refine WL.dn ?_
  refine wp_seq ?_
  refine WL.start ?_
  refine WL.bl 2 2 h145 [(24, .pointer (some ⟨g12w, 1, none⟩)), (23, .slice A142 r13r.length c143)] (fun a146 h147 => ?_)
  have hS148 := hS141.b2
  refine WL.oq h147 rfl ?_
  refine owp_rn (.string (mkS p4.f1)) h147 rfl (run_load1 rfl rfl Tryd.underlying9 rfl (hS148.cell (i := 1) rfl)) (fun a149 h14a => ?_)
  have hS14b := hS148.b2
  obtain ⟨r14d, A14c, H⟩ := bind1 H
  refine WL.oq h14a rfl ?_
  refine owp_call [.slice A142 r13r.length c143, .string (mkS p4.f1)] h14a rfl (by kernel_rfl) rfl Tryd.func56 (by kernel_rfl) rfl (by kernel_rfl) (hpack_text.calls k hr13z.rds hg1 A14c (hS14b.pool)) (fun e14f W14e hp14g => ?_)
  obtain ⟨v14j, M14k, rfl, hr14l, hS14m⟩ := hp14g
  have hS14n : St b w0 W14e R (M13y :: M14k :: (bx g12w 52 [.string (mkS p4.f0), .string (mkS p4.f1), .bool p4.f2]) :: M13a :: Fs) := hS14m.unpool
  replace hr14l : Row (kInt .u8) 5 b w0 R v14j r14d M14k := hr14l.ind (kInt_ind _)
  refine ⟨_, rfl, fun a14h h14i => ?_⟩
  obtain ⟨A14o, c14p, rfl⟩ := hr14l.form
  refine WL.bl 1 5 h14i [(10, .slice A14o r14d.length c14p)] (fun a14q h14r => ?_)
  refine WL.dn ?_
  refine wp_ret ?_
  have hS14s := hS14n.drop_
  have hS14t := hS14s.b1
  have hS14u := hS14t.drop_
  have hS14v := hS14u.b1
  have hS14w := hS14v.drop_
  obtain rfl := Option.some.inj H
  repeat (first | with_reducible refine t1 ?_ | with_reducible refine t2 ?_ | with_reducible refine t3 ?_)
  refine bret (.slice A14o r14d.length c14p) h14r ?_
  exact ⟨.slice A14o r14d.length c14p, M14k, rfl, hr14l, hS14w⟩
 ·rw [if_neg c13j] at H
  have hb_ : (decide (p3 = 0)) = false := decide_eq_false c13j
  try rw [hb_] at h13i
  clear hb_
  refine wp_else h13i rfl ?_
  refine wp_skip ?_
  refine wp_seq ?_
  refine WL.start ?_
  refine WL.bl 2 2 h13i [(24, .pointer (some ⟨g12w, 1, none⟩)), (23, .slice A13d r133.length c13e)] (fun a14x h14y => ?_)
  have hS14z := hS13c.b1
  refine WL.oq h14y rfl ?_
  refine owp_rn (.string (mkS p4.f1)) h14y rfl (run_load1 rfl rfl Tryd.underlying9 rfl (hS14z.cell (i := 1) rfl)) (fun a150 h151 => ?_)
  have hS152 := hS14z.b1
  obtain ⟨r154, A153, H⟩ := bind1 H
  refine WL.oq h151 rfl ?_
  refine owp_call [.slice A13d r133.length c13e, .string (mkS p4.f1)] h151 rfl (by kernel_rfl) rfl Tryd.func56 (by kernel_rfl) rfl (by kernel_rfl) (hpack_text.calls k hr13b.rds hg1 A153 (hS152.pool)) (fun e156 W155 hp157 => ?_)
  obtain ⟨v15a, M15b, rfl, hr15c, hS15d⟩ := hp157
  have hS15e : St b w0 W155 R (M13a :: M15b :: (bx g12w 52 [.string (mkS p4.f0), .string (mkS p4.f1), .bool p4.f2]) :: Fs) := hS15d.unpool
  replace hr15c : Row (kInt .u8) 5 b w0 R v15a r154 M15b := hr15c.ind (kInt_ind _)
  refine ⟨_, rfl, fun a158 h159 => ?_⟩
  obtain ⟨A15f, c15g, rfl⟩ := hr15c.form
  refine WL.bl 1 5 h159 [(10, .slice A15f r154.length c15g)] (fun a15h h15i => ?_)
  refine WL.dn ?_
  refine wp_ret ?_
  have hS15j := hS15e.drop_
  have hS15k := hS15j.b1
  have hS15l := hS15k.drop_
  obtain rfl := Option.some.inj H
  repeat (first | with_reducible refine t1 ?_ | with_reducible refine t2 ?_ | with_reducible refine t3 ?_)
  refine bret (.slice A15f r154.length c15g) h15i ?_
  exact ⟨.slice A15f r154.length c15g, M15b, rfl, hr15c, hS15l⟩

/-! ### louver/dyntable.Size -/
def dyntable_Size.f (p0 : S52) : Option (Int) := some (IntKind.i64.wrap ((IntKind.i64.wrap ((p0.f0.length : Int) + (p0.f1.length : Int))) + 32))
set_option maxHeartbeats 20000000 in
set_option maxRecDepth 100000 in
theorem dyntable_Size.calls {b : Nat} {w0 W : World} {R : Frag} {Fs : List Frag} {p0 : S52}  {r0q : Int}  (H : dyntable_Size.f p0 = some r0q) (hS : St b w0 W R (Fs)) :
  Calls Tryd.prog 26 ([.agg #[.string (mkS p0.f0), .string (mkS p0.f1), .bool p0.f2]] : List Value).toArray W (fun e W' => e = .returned (i6 r0q) ∧ St b w0 W' R (Fs)) := by
 unfold dyntable_Size.f at H
 refine calls_enter Tryd.func26 rfl 11 rfl (by kernel_rfl) (fun a h => ?_)
 refine wp_seq ?_
 refine WL.start ?_
 refine WL.oq h rfl ?_
 refine owp_nw (fun g_ => (pt g_)) (.cells ([.string (mkS p0.f0), .string (mkS p0.f1), .bool p0.f2] : List Value).toArray 52 (0, 0)) h rfl hS (fun a10i W10k g10l h10j hS10m => ?_)
 refine WL.bl 1 2 h10j [(2, i6 0)] (fun a10n h10o => ?_)
 refine WL.dn ?_
 refine wp_seq ?_
 refine WL.start ?_
 refine WL.bl 1 1 h10o [(3, pt g10l)] (fun a10p h10q => ?_)
 refine WL.oq h10q rfl ?_
 refine owp_rn (.string (mkS p0.f0)) h10q rfl (run_load1 rfl rfl Tryd.underlying9 rfl (hS10m.cell (i := 0) rfl)) (fun a10r h10s => ?_)
 refine WL.bl 2 4 h10s [(6, .pointer (some ⟨g10l, 1, none⟩)), (5, i6 (p0.f0.length : Int))] (fun a10t h10u => ?_)
 refine WL.oq h10u rfl ?_
 refine owp_rn (.string (mkS p0.f1)) h10u rfl (run_load1 rfl rfl Tryd.underlying9 rfl (hS10m.cell (i := 1) rfl)) (fun a10v h10w => ?_)
 refine WL.bl 4 9 h10w [(2, i6 (IntKind.i64.wrap ((IntKind.i64.wrap ((p0.f0.length : Int) + (p0.f1.length : Int))) + 32))), (10, i6 (IntKind.i64.wrap ((IntKind.i64.wrap ((p0.f0.length : Int) + (p0.f1.length : Int))) + 32))), (9, i6 (IntKind.i64.wrap ((p0.f0.length : Int) + (p0.f1.length : Int)))), (8, i6 (p0.f1.length : Int))] (fun a10x h10y => ?_)
 refine WL.dn ?_
 refine wp_ret ?_
 have hS10z := hS10m.drop_
 obtain rfl := Option.some.inj H
 repeat (first | with_reducible refine t1 ?_ | with_reducible refine t2 ?_ | with_reducible refine t3 ?_)
 refine bret (i6 (IntKind.i64.wrap ((IntKind.i64.wrap ((p0.f0.length : Int) + (p0.f1.length : Int))) + 32))) h10y ?_
 exact ⟨rfl, hS10z⟩

/-! ### slices.Delete[[]louver/api.Field,louver/api.Field] -/
def api_Field.f (p0 : (List S52)) (p1 : Int) (p2 : Int) : Option ((List S52)) := if 0 ≤ p1 then (if p1 ≤ p2 then (if p2 ≤ (p0.length : Int) then (if p1 = p2 then (some p0) else (some (p0.take p1.toNat ++ p0.drop p2.toNat))) else (none)) else (none)) else (none)
set_option maxHeartbeats 20000000 in
set_option maxRecDepth 100000 in
theorem api_Field.calls {b : Nat} {w0 W : World} {R : Frag} {Fs : List Frag} {p0 : (List S52)} {p1 : Int} {p2 : Int} {v0 : Value} {M0 : Frag} {r0q : (List S52)} (hp0 : Row k52 52 b w0 R v0 p0 M0) (H : api_Field.f p0 p1 p2 = some r0q) (hS : St b w0 W R (M0 :: Fs)) :
  Calls Tryd.prog 49 ([v0, i6 p1, i6 p2] : List Value).toArray W (fun e W' => ∃ (u0q : Value) (N0q : Frag), e = .returned (u0q) ∧ Row k52 52 b w0 R u0q r0q N0q ∧ St b w0 W' R (N0q :: Fs)) := by
 obtain ⟨A0, c0, rfl⟩ := hp0.form
 unfold api_Field.f at H
 refine calls_enter Tryd.func49 rfl 33 rfl (by kernel_rfl) (fun a h => ?_)
 refine wp_seq ?_
 refine WL.start ?_
 refine WL.bl 1 1 h [(6, .slice none 0 0)] (fun a12b h12c => ?_)
 refine WL.dn ?_
 refine wp_seq ?_
 refine WL.start ?_
 refine WL.bl 5 5 h12c [(12, i6 (p0.length : Int)), (11, .slice A0 p0.length c0), (10, i6 p2), (9, i6 p1), (8, .slice A0 p0.length c0)] (fun a12d h12e => ?_)
 clear h12c a12b
 by_cases c12f : 0 ≤ p1
 ·rw [if_pos c12f] at H
  by_cases c12g : p1 ≤ p2
  ·rw [if_pos c12g] at H
   by_cases c12h : p2 ≤ (p0.length : Int)
   ·rw [if_pos c12h] at H
    have s_cap := Rds.cap hp0.rds
    refine WL.oq h12e rfl ?_
    refine owp_rn (sliced A0 p1.toNat p2.toNat (p0.length : Int).toNat 3) h12e rfl (run_cut3 (l := p1) (h := p2) (m := (p0.length : Int)) rfl rfl Tryd.underlying23 (by kernel_rfl) rfl rfl rfl (by first | assumption | omega) (by first | assumption | omega) (by first | assumption | omega) (by have q_ := s_cap; omega) (by have q_ := s_cap; omega)) (fun a12i h12j => ?_)
    refine WL.dn ?_
    refine wp_seq ?_
    refine wp_seq ?_
    refine WL.start ?_
    refine WL.bl 3 3 h12j [(16, .bool (decide (p1 = p2))), (15, i6 p2), (14, i6 p1)] (fun a12k h12l => ?_)
    refine WL.dn ?_
    clear h12e a12d h12j a12i
    by_cases c12m : p1 = p2
    ·rw [if_pos c12m] at H
     have hb_ : (decide (p1 = p2)) = true := decide_eq_true c12m
     try rw [hb_] at h12l
     clear hb_
     refine wp_then h12l rfl ?_
     refine wp_seq ?_
     refine WL.start ?_
     refine WL.bl 2 2 h12l [(6, .slice A0 p0.length c0), (17, .slice A0 p0.length c0)] (fun a12n h12o => ?_)
     refine WL.dn ?_
     refine wp_ret ?_
     obtain rfl := Option.some.inj H
     repeat (first | with_reducible refine t1 ?_ | with_reducible refine t2 ?_ | with_reducible refine t3 ?_)
     refine bret (.slice A0 p0.length c0) h12o ?_
     exact ⟨.slice A0 p0.length c0, M0, rfl, hp0, hS⟩
    ·rw [if_neg c12m] at H
     have hb_ : (decide (p1 = p2)) = false := decide_eq_false c12m
     try rw [hb_] at h12l
     clear hb_
     refine wp_else h12l rfl ?_
     refine wp_skip ?_
     refine wp_seq ?_
     refine WL.start ?_
     refine WL.bl 3 3 h12l [(7, i6 (p0.length : Int)), (19, i6 (p0.length : Int)), (18, .slice A0 p0.length c0)] (fun a12p h12q => ?_)
     refine WL.dn ?_
     refine wp_seq ?_
     refine WT.start 8 (fun w_ => True) (by kernel_rfl) #[false, false, false, false, false, false, false, false] 8 rfl rfl ?_
     have hS13i := hS.drew
     refine WT.tk 0 h12q rfl rfl (.slice A0 p0.length c0) (fun _ _ => by kernel_rfl) trivial (fun a13j s13l h13k => ?_)
     refine WT.tk 1 h13k rfl rfl (i6 p1) (fun _ _ => by kernel_rfl) s13l (fun a13m s13o h13n => ?_)
     refine WT.tk 3 h13n rfl rfl (.slice A0 p0.length c0) (fun _ _ => by kernel_rfl) s13o (fun a13p s13r h13q => ?_)
     refine WT.tk 4 h13q rfl rfl (i6 p2) (fun _ _ => by kernel_rfl) s13r (fun a13s s13u h13t => ?_)
     refine WT.tk 2 h13t rfl rfl (sliced A0 0 p1.toNat c0 3) (fun w_ hs_ => (run_cut (l := 0) (h := p1) rfl rfl Tryd.underlying23 (by kernel_rfl) rfl ⟨_, rfl⟩ (by omega) (by omega) (by have q_ := s_cap; omega) (by have q_ := s_cap; omega))) s13u (fun a13v s13x h13w => ?_)
     refine WT.tk 5 h13w rfl rfl (sliced A0 p2.toNat p0.length c0 3) (fun w_ hs_ => (run_cut (l := p2) (h := ((p0.length : Nat) : Int)) rfl rfl Tryd.underlying23 (by kernel_rfl) ⟨_, rfl⟩ rfl (by omega) (by omega) (by have q_ := s_cap; omega) (by have q_ := s_cap; omega))) s13x (fun a13y s140 h13z => ?_)
     refine WT.o1 6 h13z rfl ?_
     refine owp_del (i := p1.toNat) (j := p2.toNat) (len := p0.length) h13z rfl (by kernel_rfl) rfl rfl rfl hp0 hS13i Tryd.underlying23 (by kernel_rfl) rfl (by omega) (by omega) (fun a141 W143 M144 h142 hr145 hS146 => ?_)
     have s_len : (p0.take p1.toNat ++ p0.drop p2.toNat).length = p1.toNat + (p0.length - p2.toNat) := by simp; omega
     refine ⟨.inr trivial, ?_⟩
     refine WT.tk 7 h142 rfl rfl (.slice A0 (p1.toNat + (p0.length - p2.toNat)) c0) (fun _ _ => by kernel_rfl) trivial (fun a147 s149 h148 => ?_)
     refine WT.dn ?_
     refine wp_seq ?_
     refine WL.start ?_
     refine WL.bl 4 4 h148 [(30, i6 (p0.length : Int)), (29, i6 (((p1.toNat + (p0.length - p2.toNat)) : Nat) : Int)), (28, .slice A0 (p1.toNat + (p0.length - p2.toNat)) c0), (27, .slice A0 (p1.toNat + (p0.length - p2.toNat)) c0)] (fun a14a h14b => ?_)
     refine WL.oq h14b rfl ?_
     refine owp_rn (sliced A0 (p1.toNat + (p0.length - p2.toNat)) p0.length c0 3) h14b rfl (run_cut (l := (((p1.toNat + (p0.length - p2.toNat)) : Nat) : Int)) (h := (p0.length : Int)) rfl rfl Tryd.underlying23 (by kernel_rfl) ⟨_, rfl⟩ ⟨_, rfl⟩ (by omega) (by omega) (by have q_ := s_cap; omega) (by have q_ := s_cap; omega)) (fun a14c h14d => ?_)
     refine WL.oq h14d rfl ?_
     refine owp_deltail (z := .agg #[.string (mkS []), .string (mkS []), .bool false]) h14d rfl (by kernel_rfl) rfl rfl hr145 hS146 s_len Tryd.underlying23 (by kernel_rfl) rfl (by simp [Value.cells, Value.oneCell']) (fun a14e W14g M14h h14f hr14i hS14j => ?_)
     clear h12l a12k h12q a12p h13k a13j h13n a13m h13q a13p h13t a13s h13w a13v h13z a13y h142 a141 h148 a147 h14b a14a h14d a14c
     refine WL.dn ?_
     refine wp_seq ?_
     refine WL.start ?_
     refine WL.bl 2 2 h14f [(6, .slice A0 (p1.toNat + (p0.length - p2.toNat)) c0), (32, .slice A0 (p1.toNat + (p0.length - p2.toNat)) c0)] (fun a14k h14l => ?_)
     refine WL.dn ?_
     refine wp_ret ?_
     obtain rfl := Option.some.inj H
     repeat (first | with_reducible refine t1 ?_ | with_reducible refine t2 ?_ | with_reducible refine t3 ?_)
     refine bret (.slice A0 (p1.toNat + (p0.length - p2.toNat)) c0) h14l ?_
     exact ⟨.slice A0 (p1.toNat + (p0.length - p2.toNat)) c0, M14h, rfl, hr14i, hS14j⟩
   ·rw [if_neg c12h] at H
    cases H
  ·rw [if_neg c12g] at H
   cases H
 ·rw [if_neg c12f] at H
  cases H

/-! ### (*louver/dyntable.Table).within -/
def dyntable_Table_within.l0 : Nat → S79 → Int → Int → Option (S79)
 | 0, _, _, _ => none
 | k + 1, x22f, x22i, p1 => if x22i < (x22f.f0.length : Int) then (if x22f.f1 > (IntKind.i64.wrap (x22f.f2 - p1)) then (if 0 ≤ x22i then (bnd1 (dyntable_Size.f (⟨(gt z52 x22f.f0 x22i).f0, (gt z52 x22f.f0 x22i).f1, (gt z52 x22f.f0 x22i).f2⟩ : S52)) fun r2em => (dyntable_Table_within.l0 k (⟨x22f.f0, IntKind.i64.wrap (x22f.f1 - r2em), x22f.f2⟩ : S79) (IntKind.i64.wrap (x22i + 1)) p1)) else (none)) else (bnd1 (api_Field.f x22f.f0 0 x22i) fun r2fk => (some (⟨r2fk, x22f.f1, x22f.f2⟩ : S79)))) else (bnd1 (api_Field.f x22f.f0 0 x22i) fun r2hg => (some (⟨r2hg, x22f.f1, x22f.f2⟩ : S79)))
def dyntable_Table_within.f (k : Nat) (p0 : S79) (p1 : Int) : Option (S79) := dyntable_Table_within.l0 k p0 0 p1
set_option maxHeartbeats 20000000 in
set_option maxRecDepth 100000 in
theorem dyntable_Table_within.calls (k : Nat) {b : Nat} {w0 W : World} {R : Frag} {Fs : List Frag} {p0 : S79} {p1 : Int}  {v0 : Value} {M0 : Frag} {r0q : S79} (hp0 : Ptr k79 79 b w0 R v0 p0 M0) (H : dyntable_Table_within.f k p0 p1 = some r0q) (hS : St b w0 W R (M0 :: Fs)) :
  Calls Tryd.prog 35 ([v0, i6 p1] : List Value).toArray W (fun e W' => ∃ (O0q : Frag), e = .returned (.tuple #[]) ∧ Ptr k79 79 b w0 R v0 r0q O0q ∧ St b w0 W' R (O0q :: Fs)) := by
 unfold dyntable_Table_within.f at H
 refine calls_enter Tryd.func35 rfl 51 rfl (by kernel_rfl) (fun a h => ?_)
 refine wp_seq ?_
 refine WL.start ?_
 refine WL.bl 1 1 h [(4, i6 0)] (fun a228 h229 => ?_)
 refine WL.dn ?_
 refine wp_seq ?_
 refine wp_block ?_
 refine wp_loop_ghost (fun kq_ a_ W_ => ∃ (x22f : S79), ∃ (M22g : Frag), ∃ (x22i : Int), Hd a_ 51 [(0, v0), (1, i6 p1), (4, i6 x22i)] ∧ Asd (dyntable_Table_within.l0 kq_ x22f x22i p1 = some r0q) ∧ Asd (kq_ ≤ k) ∧ Asd (St b w0 W_ R (M22g :: Fs)) ∧ Asd (Ptr k79 79 b w0 R v0 x22f M22g)) k ⟨p0, M0, 0, h229.keep ⟨rfl, rfl, rfl, trivial⟩, ⟨H⟩, ⟨Nat.le_refl _⟩, ⟨hS⟩, ⟨hp0⟩⟩ ?_
 clear H hS
 rintro kk22e a22b W22c ⟨x22f, M22g, x22i, h22a, ⟨H⟩, ⟨hkkk22e⟩, ⟨hS22d⟩, ⟨hr22h⟩⟩
 obtain _ | kk22j := kk22e
 ·exact absurd H (by simp [dyntable_Table_within.l0])
 simp only [dyntable_Table_within.l0] at H
 refine wp_seq ?_
 refine wp_seq ?_
 obtain ⟨g22l, A22m, c22n, M22o, rfl, hr22p, hS22k⟩ := k79qop hr22h hS22d
 refine WT.start 20 (fun w_ => (w_.cell? ⟨g22l, 0, none⟩ = some (.slice A22m x22f.f0.length c22n)) ∧ (w_.cell? ⟨g22l, 1, none⟩ = some (i6 x22f.f1)) ∧ (w_.cell? ⟨g22l, 2, none⟩ = some (i6 x22f.f2)) ∧ True) (by kernel_rfl) #[false, false, false, false, false, false, false, false, false, false, false, false, false, false, false, false, false, false, false, false] 20 rfl rfl ?_
 have hS284 := hS22k.drew
 refine WT.tk 0 h22a rfl rfl (i6 x22i) (fun _ _ => by kernel_rfl) ⟨(hS284.cell (i := 0) rfl), (hS284.cell (i := 1) rfl), (hS284.cell (i := 2) rfl), trivial⟩ (fun a285 s287 h286 => ?_)
 refine WT.tk 1 h286 rfl rfl (pt g22l) (fun _ _ => by kernel_rfl) s287 (fun a288 s28a h289 => ?_)
 refine WT.tk 2 h289 rfl rfl (pt g22l) (fun _ _ => by kernel_rfl) s28a (fun a28b s28d h28c => ?_)
 refine WT.tk 3 h28c rfl rfl (pt g22l) (fun _ _ => by kernel_rfl) s28d (fun a28e s28g h28f => ?_)
 refine WT.tk 4 h28f rfl rfl (.slice A22m x22f.f0.length c22n) (fun w_ hs_ => (run_load1 rfl rfl Tryd.underlying23 rfl hs_.1)) s28g (fun a28h s28j h28i => ?_)
 refine WT.tk 5 h28i rfl rfl (i6 (x22f.f0.length : Int)) (fun _ _ => by kernel_rfl) s28j (fun a28k s28m h28l => ?_)
 refine WT.tk 6 h28l rfl rfl (.bool (decide (x22i < (x22f.f0.length : Int)))) (fun _ _ => by kernel_rfl) s28m (fun a28n s28p h28o => ?_)
 refine WT.tk 7 h28o rfl rfl (.bool (decide (x22i < (x22f.f0.length : Int)))) (fun _ _ => by kernel_rfl) s28p (fun a28q s28s h28r => ?_)
 clear h22a a22b h286 a285 h289 a288 h28c a28b h28f a28e h28i a28h h28l a28k h28o a28n
 by_cases c28t : x22i < (x22f.f0.length : Int)
 ·rw [if_pos c28t] at H
  have hb_ : (decide (x22i < (x22f.f0.length : Int))) = true := decide_eq_true c28t
  try rw [hb_] at h28r
  clear hb_
  refine WT.tk 8 h28r rfl rfl (pt g22l) (fun _ _ => by kernel_rfl) s28s (fun a28u s28w h28v => ?_)
  refine WT.tk 9 h28v rfl rfl (pt g22l) (fun _ _ => by kernel_rfl) s28w (fun a28x s28z h28y => ?_)
  refine WT.tk 10 h28y rfl rfl (.pointer (some ⟨g22l, 1, none⟩)) (fun _ _ => by kernel_rfl) s28z (fun a290 s292 h291 => ?_)
  refine WT.tk 12 h291 rfl rfl (pt g22l) (fun _ _ => by kernel_rfl) s292 (fun a293 s295 h294 => ?_)
  refine WT.tk 13 h294 rfl rfl (pt g22l) (fun _ _ => by kernel_rfl) s295 (fun a296 s298 h297 => ?_)
  refine WT.tk 14 h297 rfl rfl (.pointer (some ⟨g22l, 2, none⟩)) (fun _ _ => by kernel_rfl) s298 (fun a299 s29b h29a => ?_)
  refine WT.tk 16 h29a rfl rfl (i6 p1) (fun _ _ => by kernel_rfl) s29b (fun a29c s29e h29d => ?_)
  refine WT.tk 11 h29d rfl rfl (i6 x22f.f1) (fun w_ hs_ => (run_load1 rfl rfl Tryd.underlying3 rfl hs_.2.1)) s29e (fun a29f s29h h29g => ?_)
  refine WT.tk 15 h29g rfl rfl (i6 x22f.f2) (fun w_ hs_ => (run_load1 rfl rfl Tryd.underlying3 rfl hs_.2.2.1)) s29h (fun a29i s29k h29j => ?_)
  refine WT.tk 17 h29j rfl rfl (i6 (IntKind.i64.wrap (x22f.f2 - p1))) (fun _ _ => by kernel_rfl) s29k (fun a29l s29n h29m => ?_)
  refine WT.tk 18 h29m rfl rfl (.bool (decide (x22f.f1 > (IntKind.i64.wrap (x22f.f2 - p1))))) (fun _ _ => by kernel_rfl) s29n (fun a29o s29q h29p => ?_)
  refine WT.tk 19 h29p rfl rfl (.bool (decide (x22f.f1 > (IntKind.i64.wrap (x22f.f2 - p1))))) (fun _ _ => by kernel_rfl) s29q (fun a29r s29t h29s => ?_)
  clear h28r a28q h28v a28u h28y a28x h291 a290 h294 a293 h297 a296 h29a a299 h29d a29c h29g a29f h29j a29i h29m a29l h29p a29o
  refine WT.dn ?_
  by_cases c29u : x22f.f1 > (IntKind.i64.wrap (x22f.f2 - p1))
  ·rw [if_pos c29u] at H
   have hb_ : (decide (x22f.f1 > (IntKind.i64.wrap (x22f.f2 - p1)))) = true := decide_eq_true c29u
   try rw [hb_] at h29s
   clear hb_
   refine wp_then h29s rfl ?_
   refine wp_skip ?_
   refine wp_block ?_
   refine wp_seq ?_
   refine WT.start 15 (fun w_ => (w_.cell? ⟨g22l, 1, none⟩ = some (i6 x22f.f1)) ∧ (w_.cell? ⟨g22l, 0, none⟩ = some (.slice A22m x22f.f0.length c22n)) ∧ (∀ a_ u_, Kn b w0 (M22o ++ R) a_ u_ → w_.cell? a_ = some u_) ∧ True) (by kernel_rfl) #[false, false, false, false, false, false, false, false, false, false, false, false, false, false, false, false] 16 rfl rfl ?_
   have hS2dd := hS284.drew
   refine WT.tk 0 h29s rfl rfl (pt g22l) (fun _ _ => by kernel_rfl) ⟨(hS2dd.cell (i := 1) rfl), (hS2dd.cell (i := 0) rfl), (fun _ _ hk_ => (hS2dd.bring 1 rfl rfl).pool.kn hk_), trivial⟩ (fun a2de s2dg h2df => ?_)
   refine WT.tk 1 h2df rfl rfl (pt g22l) (fun _ _ => by kernel_rfl) s2dg (fun a2dh s2dj h2di => ?_)
   refine WT.tk 2 h2di rfl rfl (.pointer (some ⟨g22l, 1, none⟩)) (fun _ _ => by kernel_rfl) s2dj (fun a2dk s2dm h2dl => ?_)
   refine WT.tk 4 h2dl rfl rfl (pt g22l) (fun _ _ => by kernel_rfl) s2dm (fun a2dn s2dp h2do => ?_)
   refine WT.tk 5 h2do rfl rfl (pt g22l) (fun _ _ => by kernel_rfl) s2dp (fun a2dq s2ds h2dr => ?_)
   refine WT.tk 6 h2dr rfl rfl (pt g22l) (fun _ _ => by kernel_rfl) s2ds (fun a2dt s2dv h2du => ?_)
   refine WT.tk 8 h2du rfl rfl (i6 x22i) (fun _ _ => by kernel_rfl) s2dv (fun a2dw s2dy h2dx => ?_)
   refine WT.tk 3 h2dx rfl rfl (i6 x22f.f1) (fun w_ hs_ => (run_load1 rfl rfl Tryd.underlying3 rfl hs_.1)) s2dy (fun a2dz s2e1 h2e0 => ?_)
   refine WT.tk 7 h2e0 rfl rfl (.slice A22m x22f.f0.length c22n) (fun w_ hs_ => (run_load1 rfl rfl Tryd.underlying23 rfl hs_.2.1)) s2e1 (fun a2e2 s2e4 h2e3 => ?_)
   clear h29s a29r h2df a2de h2di a2dh h2dl a2dk h2do a2dn h2dr a2dq h2du a2dt h2dx a2dw h2e0 a2dz
   by_cases c2e5 : 0 ≤ x22i
   ·rw [if_pos c2e5] at H
    have hi2e8 : 0 ≤ x22i := by first | assumption | omega
    have hi2e9 : x22i < (x22f.f0.length : Int) := by first | assumption | omega
    obtain ⟨ad2e6, _, ha2e7, -, -⟩ := Rds.elemAny hr22p.rds hi2e8 (gt_get (z := z52) hi2e8 hi2e9)
    refine WT.tk 9 h2e3 rfl rfl (.pointer (some (ad2e6.add (x22i.toNat * 3)))) (fun w_ hs_ => (run_idx (ad := ad2e6) (sz := 3) rfl (by rw [← ha2e7]; rfl) rfl Tryd.underlying23 (by kernel_rfl) hi2e8 hi2e9)) s2e4 (fun a2ea s2ec h2eb => ?_)
    obtain ⟨ad2ed, cs2ee, ha2ef, hr2eh, hc2eg⟩ := Rds.elemAny hr22p.rds hi2e8 (gt_get (z := z52) hi2e8 hi2e9)
    rw [ha2e7] at ha2ef; obtain rfl := Option.some.inj ha2ef
    obtain rfl := k52qrd hr2eh
    refine WT.tk 10 h2eb rfl rfl (.agg #[.string (mkS ((gt z52 x22f.f0 x22i).f0)), .string (mkS ((gt z52 x22f.f0 x22i).f1)), .bool ((gt z52 x22f.f0 x22i).f2)]) (fun w_ hs_ => (run_loadN rfl rfl Tryd.underlying52 rfl (cs := [.string (mkS ((gt z52 x22f.f0 x22i).f0)), .string (mkS ((gt z52 x22f.f0 x22i).f1)), .bool ((gt z52 x22f.f0 x22i).f2)]) (by kernel_rfl) (hc2eg _ hs_.2.2.1))) s2ec (fun a2ei s2ek h2ej => ?_)
    obtain ⟨r2em, A2el, H⟩ := bind1 H
    refine WT.o1 11 h2ej rfl ?_
    refine owp_call [.agg #[.string (mkS ((gt z52 x22f.f0 x22i).f0)), .string (mkS ((gt z52 x22f.f0 x22i).f1)), .bool ((gt z52 x22f.f0 x22i).f2)]] h2ej rfl (by kernel_rfl) rfl Tryd.func26 (by kernel_rfl) rfl (by kernel_rfl) (dyntable_Size.calls (p0 := (⟨(gt z52 x22f.f0 x22i).f0, (gt z52 x22f.f0 x22i).f1, (gt z52 x22f.f0 x22i).f2⟩ : S52))  A2el hS2dd) (fun e2eo W2en hp2ep => ?_)
    obtain ⟨rfl, hS2es⟩ := hp2ep
    refine ⟨_, rfl, fun a2eq h2er => ?_⟩
    refine ⟨.inr ⟨(hS2es.cell (i := 1) rfl), (hS2es.cell (i := 0) rfl), (fun _ _ hk_ => (hS2es.bring 1 rfl rfl).pool.kn hk_), trivial⟩, ?_⟩
    refine WT.tk 12 h2er rfl rfl (i6 (IntKind.i64.wrap (x22f.f1 - r2em))) (fun _ _ => by kernel_rfl) ⟨(hS2es.cell (i := 1) rfl), (hS2es.cell (i := 0) rfl), (fun _ _ hk_ => (hS2es.bring 1 rfl rfl).pool.kn hk_), trivial⟩ (fun a2et s2ev h2eu => ?_)
    refine WT.o1 13 h2eu rfl ?_
    refine owp_rk (pt g22l) h2eu rfl (fun a2ew h2ex => ?_)
    refine ⟨.inr ⟨(hS2es.cell (i := 1) rfl), (hS2es.cell (i := 0) rfl), (fun _ _ hk_ => (hS2es.bring 1 rfl rfl).pool.kn hk_), trivial⟩, ?_⟩
    refine WT.tk 14 h2ex rfl rfl (.pointer (some ⟨g22l, 1, none⟩)) (fun _ _ => by kernel_rfl) ⟨(hS2es.cell (i := 1) rfl), (hS2es.cell (i := 0) rfl), (fun _ _ hk_ => (hS2es.bring 1 rfl rfl).pool.kn hk_), trivial⟩ (fun a2ey s2f0 h2ez => ?_)
    refine WT.o1 15 h2ez rfl ?_
    refine owp_st 1 [i6 (IntKind.i64.wrap (x22f.f1 - r2em))] h2ez rfl rfl rfl hS2es [.slice A22m x22f.f0.length c22n, i6 (IntKind.i64.wrap (x22f.f1 - r2em)), i6 x22f.f2] (fun a2f1 W2f3 h2f2 hS2f4 => ?_)
    refine ⟨.inl (by decide), ?_⟩
    refine WT.dn ?_
    refine WL.start ?_
    refine WL.bl 3 3 h2f2 [(4, i6 (IntKind.i64.wrap (x22i + 1))), (41, i6 (IntKind.i64.wrap (x22i + 1))), (40, i6 x22i)] (fun a2f5 h2f6 => ?_)
    refine WL.dn ?_
    have hS2f7 := hS2f4.b1
    have hS2f8 := hS2f7.b1
    obtain ⟨M2f9, hp2fa, hS2fb⟩ := k79qfo (⟨x22f.f0, IntKind.i64.wrap (x22f.f1 - r2em), x22f.f2⟩ : S79) hr22p hS2f8
    exact ⟨kk22j, by omega, (⟨x22f.f0, IntKind.i64.wrap (x22f.f1 - r2em), x22f.f2⟩ : S79), M2f9, IntKind.i64.wrap (x22i + 1), h2f6.keep ⟨rfl, rfl, rfl, trivial⟩, ⟨H⟩, ⟨by omega⟩, ⟨hS2fb⟩, ⟨hp2fa⟩⟩
   ·rw [if_neg c2e5] at H
    cases H
  ·rw [if_neg c29u] at H
   have hb_ : (decide (x22f.f1 > (IntKind.i64.wrap (x22f.f2 - p1)))) = false := decide_eq_false c29u
   try rw [hb_] at h29s
   clear hb_
   refine wp_else h29s rfl ?_
   refine wp_exit ?_
   refine WL.start ?_
   refine WL.bl 4 4 h29s [(45, pt g22l), (44, pt g22l), (43, pt g22l), (42, pt g22l)] (fun a2fc h2fd => ?_)
   refine WL.oq h2fd rfl ?_
   refine owp_rn (.slice A22m x22f.f0.length c22n) h2fd rfl (run_load1 rfl rfl Tryd.underlying23 rfl (hS284.cell (i := 0) rfl)) (fun a2fe h2ff => ?_)
   refine WL.bl 1 6 h2ff [(47, i6 x22i)] (fun a2fg h2fh => ?_)
   have hS2fi := hS284.b1
   obtain ⟨r2fk, A2fj, H⟩ := bind1 H
   refine WL.oq h2fh rfl ?_
   refine owp_call [.slice A22m x22f.f0.length c22n, i6 0, i6 x22i] h2fh rfl (by kernel_rfl) rfl Tryd.func49 (by kernel_rfl) rfl (by kernel_rfl) (api_Field.calls hr22p A2fj hS2fi) (fun e2fm W2fl hp2fn => ?_)
   obtain ⟨v2fq, M2fr, rfl, hr2fs, hS2ft⟩ := hp2fn
   refine ⟨_, rfl, fun a2fo h2fp => ?_⟩
   obtain ⟨A2fu, c2fv, rfl⟩ := hr2fs.form
   refine WL.bl 2 9 h2fp [(50, pt g22l), (49, pt g22l)] (fun a2fw h2fx => ?_)
   have hS2fy := hS2ft.b1
   refine WL.oq h2fx rfl ?_
   refine owp_st 0 [.slice A2fu r2fk.length c2fv] h2fx rfl rfl rfl hS2fy [.slice A2fu r2fk.length c2fv, i6 x22f.f1, i6 x22f.f2] (fun a2fz W2g1 h2g0 hS2g2 => ?_)
   refine WL.dn ?_
   have hS2g3 := hS2g2.b1
   have hS2g4 := hS2g3.b1
   obtain ⟨M2g5, hp2g6, hS2g7⟩ := k79qfo (⟨r2fk, x22f.f1, x22f.f2⟩ : S79) hr2fs hS2g4
   obtain rfl := Option.some.inj H
   repeat (first | with_reducible refine t4 ?_ | with_reducible refine t3 ?_)
   refine bend (.tuple #[]) h2g0 ?_
   exact ⟨M2g5, rfl, hp2g6, hS2g7⟩
 ·rw [if_neg c28t] at H
  have hb_ : (decide (x22i < (x22f.f0.length : Int))) = false := decide_eq_false c28t
  try rw [hb_] at h28r
  clear hb_
  refine WT.sp 8 h28r rfl rfl s28s (fun a2g8 s2ga h2g9 => ?_)
  refine WT.sp 9 h2g9 rfl rfl s2ga (fun a2gb s2gd h2gc => ?_)
  refine WT.sp 10 h2gc rfl rfl s2gd (fun a2ge s2gg h2gf => ?_)
  refine WT.sp 11 h2gf rfl rfl s2gg (fun a2gh s2gj h2gi => ?_)
  refine WT.sp 12 h2gi rfl rfl s2gj (fun a2gk s2gm h2gl => ?_)
  refine WT.sp 13 h2gl rfl rfl s2gm (fun a2gn s2gp h2go => ?_)
  refine WT.sp 14 h2go rfl rfl s2gp (fun a2gq s2gs h2gr => ?_)
  refine WT.sp 15 h2gr rfl rfl s2gs (fun a2gt s2gv h2gu => ?_)
  refine WT.sp 16 h2gu rfl rfl s2gv (fun a2gw s2gy h2gx => ?_)
  refine WT.sp 17 h2gx rfl rfl s2gy (fun a2gz s2h1 h2h0 => ?_)
  refine WT.sp 18 h2h0 rfl rfl s2h1 (fun a2h2 s2h4 h2h3 => ?_)
  refine WT.tk 19 h2h3 rfl rfl (.bool false) (fun _ _ => by kernel_rfl) s2h4 (fun a2h5 s2h7 h2h6 => ?_)
  clear h28r a28q h2g9 a2g8 h2gc a2gb h2gf a2ge h2gi a2gh h2gl a2gk h2go a2gn h2gr a2gq h2gu a2gt h2gx a2gw h2h0 a2gz h2h3 a2h2
  refine WT.dn ?_
  refine wp_else h2h6 rfl ?_
  refine wp_exit ?_
  refine WL.start ?_
  refine WL.bl 4 4 h2h6 [(45, pt g22l), (44, pt g22l), (43, pt g22l), (42, pt g22l)] (fun a2h8 h2h9 => ?_)
  refine WL.oq h2h9 rfl ?_
  refine owp_rn (.slice A22m x22f.f0.length c22n) h2h9 rfl (run_load1 rfl rfl Tryd.underlying23 rfl (hS284.cell (i := 0) rfl)) (fun a2ha h2hb => ?_)
  refine WL.bl 1 6 h2hb [(47, i6 x22i)] (fun a2hc h2hd => ?_)
  have hS2he := hS284.b1
  obtain ⟨r2hg, A2hf, H⟩ := bind1 H
  refine WL.oq h2hd rfl ?_
  refine owp_call [.slice A22m x22f.f0.length c22n, i6 0, i6 x22i] h2hd rfl (by kernel_rfl) rfl Tryd.func49 (by kernel_rfl) rfl (by kernel_rfl) (api_Field.calls hr22p A2hf hS2he) (fun e2hi W2hh hp2hj => ?_)
  obtain ⟨v2hm, M2hn, rfl, hr2ho, hS2hp⟩ := hp2hj
  refine ⟨_, rfl, fun a2hk h2hl => ?_⟩
  obtain ⟨A2hq, c2hr, rfl⟩ := hr2ho.form
  refine WL.bl 2 9 h2hl [(50, pt g22l), (49, pt g22l)] (fun a2hs h2ht => ?_)
  have hS2hu := hS2hp.b1
  refine WL.oq h2ht rfl ?_
  refine owp_st 0 [.slice A2hq r2hg.length c2hr] h2ht rfl rfl rfl hS2hu [.slice A2hq r2hg.length c2hr, i6 x22f.f1, i6 x22f.f2] (fun a2hv W2hx h2hw hS2hy => ?_)
  refine WL.dn ?_
  have hS2hz := hS2hy.b1
  have hS2i0 := hS2hz.b1
  obtain ⟨M2i1, hp2i2, hS2i3⟩ := k79qfo (⟨r2hg, x22f.f1, x22f.f2⟩ : S79) hr2ho hS2i0
  obtain rfl := Option.some.inj H
  repeat (first | with_reducible refine t4 ?_ | with_reducible refine t3 ?_)
  refine bend (.tuple #[]) h2hw ?_
  exact ⟨M2i1, rfl, hp2i2, hS2i3⟩

/-! ### (*louver/dyntable.Table).Add -/
def dyntable_Table_Add.f (k : Nat) (p0 : S79) (p1 : S52) : Option (S79) := bnd1 (dyntable_Size.f (⟨p1.f0, p1.f1, p1.f2⟩ : S52)) fun r199 => (bnd1 (dyntable_Table_within.f k p0 r199) fun r19q => (if r199 > r19q.f2 then (some r19q) else (if r19q.f0.length + 1 ≤ 3518437208883 then (lt1 (r19q.f0 ++ ([(⟨p1.f0, p1.f1, false⟩ : S52)] : List S52) : List S52) fun y1f9 => (some (⟨y1f9, IntKind.i64.wrap (r19q.f1 + r199), r19q.f2⟩ : S79))) else (none))))
set_option maxHeartbeats 20000000 in
set_option maxRecDepth 100000 in
theorem dyntable_Table_Add.calls (k : Nat) {b : Nat} {w0 W : World} {R : Frag} {Fs : List Frag} {p0 : S79} {p1 : S52}  {v0 : Value} {M0 : Frag} {r0q : S79} (hp0 : Ptr k79 79 b w0 R v0 p0 M0) (H : dyntable_Table_Add.f k p0 p1 = some r0q) (hS : St b w0 W R (M0 :: Fs)) :
  Calls Tryd.prog 39 ([v0, .agg #[.string (mkS p1.f0), .string (mkS p1.f1), .bool p1.f2]] : List Value).toArray W (fun e W' => ∃ (O0q : Frag), e = .returned (.tuple #[]) ∧ Ptr k79 79 b w0 R v0 r0q O0q ∧ St b w0 W' R (O0q :: Fs)) := by
 unfold dyntable_Table_Add.f at H
 refine calls_enter Tryd.func39 rfl 40 rfl (by kernel_rfl) (fun a h => ?_)
 refine wp_seq ?_
 refine WL.start ?_
 refine WL.oq h rfl ?_
 refine owp_nw (fun g_ => (pt g_)) (.cells ([.string (mkS p1.f0), .string (mkS p1.f1), .bool p1.f2] : List Value).toArray 52 (0, 0)) h rfl hS (fun a18p W18r g18s h18q hS18t => ?_)
 refine WL.dn ?_
 refine wp_seq ?_
 refine wp_seq ?_
 refine WL.start ?_
 refine WL.bl 1 1 h18q [(5, v0)] (fun a18u h18v => ?_)
 have hS18w := hS18t.b1
 obtain ⟨g18y, A18z, c190, M191, rfl, hr192, hS18x⟩ := k79qop hp0 hS18w
 refine WL.bl 1 2 h18v [(6, .bool false)] (fun a193 h194 => ?_)
 refine WL.dn ?_
 refine wp_else h194 rfl ?_
 refine wp_skip ?_
 refine wp_seq ?_
 refine WL.start ?_
 have hS195 := hS18x.b2
 refine WL.oq h194 rfl ?_
 refine owp_rn (.agg #[.string (mkS p1.f0), .string (mkS p1.f1), .bool p1.f2]) h194 rfl (run_loadN rfl rfl Tryd.underlying52 rfl (cs := [.string (mkS p1.f0), .string (mkS p1.f1), .bool p1.f2]) (by kernel_rfl) (hS195.cells (vs := [.string (mkS p1.f0), .string (mkS p1.f1), .bool p1.f2]) rfl)) (fun a196 h197 => ?_)
 obtain ⟨r199, A198, H⟩ := bind1 H
 refine WL.oq h197 rfl ?_
 refine owp_call [.agg #[.string (mkS p1.f0), .string (mkS p1.f1), .bool p1.f2]] h197 rfl (by kernel_rfl) rfl Tryd.func26 (by kernel_rfl) rfl (by kernel_rfl) (dyntable_Size.calls (p0 := (⟨p1.f0, p1.f1, p1.f2⟩ : S52))  A198 hS195) (fun e19b W19a hp19c => ?_)
 obtain ⟨rfl, hS19f⟩ := hp19c
 refine ⟨_, rfl, fun a19d h19e => ?_⟩
 refine WL.bl 1 3 h19e [(4, i6 r199)] (fun a19g h19h => ?_)
 refine WL.dn ?_
 refine wp_seq ?_
 refine WL.start ?_
 refine WL.bl 2 2 h19h [(10, i6 r199), (9, pt g18y)] (fun a19i h19j => ?_)
 have hS19k := hS19f.b2
 have hS19l := hS19k.b2
 obtain ⟨M19m, hp19n, hS19o⟩ := k79qfo p0 hr192 hS19l
 obtain ⟨r19q, A19p, H⟩ := bind1 H
 refine WL.oq h19j rfl ?_
 refine owp_call [(pt g18y), i6 r199] h19j rfl (by kernel_rfl) rfl Tryd.func35 (by kernel_rfl) rfl (by kernel_rfl) (dyntable_Table_within.calls k hp19n A19p hS19o) (fun e19s W19r hp19t => ?_)
 obtain ⟨M19w, rfl, hr19x, hS19y⟩ := hp19t
 refine ⟨_, rfl, fun a19u h19v => ?_⟩
 refine WL.dn ?_
 refine wp_seq ?_
 refine wp_seq ?_
 refine WL.start ?_
 refine WL.bl 2 2 h19v [(13, pt g18y), (12, i6 r199)] (fun a19z h1a0 => ?_)
 obtain ⟨A1a2, c1a3, M1a4, hr1a5, hS1a1⟩ := k79qoq hr19x hS19y
 refine WL.bl 2 4 h1a0 [(15, .pointer (some ⟨g18y, 2, none⟩)), (14, pt g18y)] (fun a1a6 h1a7 => ?_)
 refine WL.oq h1a7 rfl ?_
 refine owp_rn (i6 r19q.f2) h1a7 rfl (run_load1 rfl rfl Tryd.underlying3 rfl (hS1a1.cell (i := 2) rfl)) (fun a1a8 h1a9 => ?_)
 refine WL.bl 1 6 h1a9 [(17, .bool (decide (r199 > r19q.f2)))] (fun a1aa h1ab => ?_)
 refine WL.dn ?_
 clear h18q a18p h18v a18u h194 a193 h197 a196 h19e a19d h19h a19g h19j a19i h19v a19u h1a0 a19z h1a7 a1a6 h1a9 a1a8
 by_cases c1ac : r199 > r19q.f2
 ·rw [if_pos c1ac] at H
  have hb_ : (decide (r199 > r19q.f2)) = true := decide_eq_true c1ac
  try rw [hb_] at h1ab
  clear hb_
  refine wp_then h1ab rfl ?_
  refine wp_ret ?_
  have hS1ad := hS1a1.b1
  have hS1ae := hS1ad.b1
  obtain ⟨M1af, hp1ag, hS1ah⟩ := k79qfo r19q hr1a5 hS1ae
  have hS1ai := hS1ah.b1
  have hS1aj := hS1ai.drop_
  obtain rfl := Option.some.inj H
  repeat (first | with_reducible refine t1 ?_ | with_reducible refine t2 ?_ | with_reducible refine t3 ?_)
  refine bret (.tuple #[]) h1ab ?_
  exact ⟨M1af, rfl, hp1ag, hS1aj⟩
 ·rw [if_neg c1ac] at H
  have hb_ : (decide (r199 > r19q.f2)) = false := decide_eq_false c1ac
  try rw [hb_] at h1ab
  clear hb_
  refine wp_else h1ab rfl ?_
  refine wp_skip ?_
  refine wp_seq ?_
  refine WT.start 14 (fun w_ => (w_.cell? ⟨g18y, 0, none⟩ = some (.slice A1a2 r19q.f0.length c1a3)) ∧ (w_.cell? ⟨g18s, 0, none⟩ = some (.string (mkS p1.f0))) ∧ (w_.cell? ⟨g18s, 1, none⟩ = some (.string (mkS p1.f1))) ∧ True) (by kernel_rfl) #[false, false, false, false, false, false, false, false, false, false, false, false, false, false, false] 15 rfl rfl ?_
  have hS1dy := hS1a1.drew
  refine WT.tk 0 h1ab rfl rfl (pt g18y) (fun _ _ => by kernel_rfl) ⟨(hS1dy.cell (i := 0) rfl), (hS1dy.b2.cell (i := 0) rfl), (hS1dy.b2.cell (i := 1) rfl), trivial⟩ (fun a1dz s1e1 h1e0 => ?_)
  refine WT.tk 1 h1e0 rfl rfl (pt g18y) (fun _ _ => by kernel_rfl) s1e1 (fun a1e2 s1e4 h1e3 => ?_)
  refine WT.tk 2 h1e3 rfl rfl (pt g18y) (fun _ _ => by kernel_rfl) s1e4 (fun a1e5 s1e7 h1e6 => ?_)
  refine WT.tk 3 h1e6 rfl rfl (pt g18y) (fun _ _ => by kernel_rfl) s1e7 (fun a1e8 s1ea h1e9 => ?_)
  refine WT.tk 5 h1e9 rfl rfl (pt g18s) (fun _ _ => by kernel_rfl) s1ea (fun a1eb s1ed h1ec => ?_)
  refine WT.tk 7 h1ec rfl rfl (.pointer (some ⟨g18s, 1, none⟩)) (fun _ _ => by kernel_rfl) s1ed (fun a1ee s1eg h1ef => ?_)
  refine WT.tk 4 h1ef rfl rfl (.slice A1a2 r19q.f0.length c1a3) (fun w_ hs_ => (run_load1 rfl rfl Tryd.underlying23 rfl hs_.1)) s1eg (fun a1eh s1ej h1ei => ?_)
  refine WT.tk 6 h1ei rfl rfl (.string (mkS p1.f0)) (fun w_ hs_ => (run_load1 rfl rfl Tryd.underlying9 rfl hs_.2.1)) s1ej (fun a1ek s1em h1el => ?_)
  refine WT.tk 8 h1el rfl rfl (.string (mkS p1.f1)) (fun w_ hs_ => (run_load1 rfl rfl Tryd.underlying9 rfl hs_.2.2.1)) s1em (fun a1en s1ep h1eo => ?_)
  refine WT.tk 9 h1eo rfl rfl (.agg #[.string (mkS p1.f0), .string (mkS p1.f1), .bool false]) (fun _ _ => by kernel_rfl) s1ep (fun a1eq s1es h1er => ?_)
  obtain ⟨_, hrep_, hMe_⟩ := k52qmk (b := b) (w0 := w0) (R := R) (x := (⟨p1.f0, p1.f1, false⟩ : S52)) 
  subst hMe_
  have hq1et := hrep_; clear hrep_
  refine WT.o1 10 h1er rfl ?_
  refine owp_nw (fun g_ => .slice (some ⟨g_, 0, none⟩) 1 1) (.cells ([.string (mkS p1.f0), .string (mkS p1.f1), .bool false] : List Value).toArray 52 (0, 0)) h1er rfl hS1dy (fun a1eu W1ew g1ex h1ev hS1ey => ?_)
  have hr1ez : Row k52 52 b w0 R (.slice (some ⟨g1ex, 0, none⟩) 1 1) ([(⟨p1.f0, p1.f1, false⟩ : S52)] : List S52) (bx g1ex 52 [.string (mkS p1.f0), .string (mkS p1.f1), .bool false]) := Row.lit (xs := ([(⟨p1.f0, p1.f1, false⟩ : S52)] : List S52)) (Mi := []) ⟨_, _, [], _, rfl, rfl, hq1et, ⟨rfl, rfl⟩⟩ (by simp [maxLen])
  refine ⟨.inr ⟨(hS1ey.b1.cell (i := 0) rfl), (hS1ey.b3.cell (i := 0) rfl), (hS1ey.b3.cell (i := 1) rfl), trivial⟩, ?_⟩
  clear h1ab a1aa h1e0 a1dz h1e3 a1e2 h1e6 a1e5 h1e9 a1e8 h1ec a1eb h1ef a1ee h1ei a1eh h1el a1ek h1eo a1en h1er a1eq
  by_cases c1f0 : r19q.f0.length + 1 ≤ 3518437208883
  ·rw [if_pos c1f0] at H
   have hS1f1 := hS1ey.b2
   refine WT.o1 11 h1ev rfl ?_
   refine owp_app_take (z := .agg #[.string (mkS []), .string (mkS []), .bool false]) (bytes := 40) (dk := k52) h1ev rfl (by kernel_rfl) rfl rfl rfl hr1a5 hr1ez hS1f1 Tryd.underlying23 (by kernel_rfl) rfl (by decide) (by decide) (by first | omega | (simp only [List.length_cons, List.length_nil] at *; omega)) (fun a1f2 W1f4 v1f5 M1f6 h1f3 hr1f7 hS1f8 => ?_)
   obtain ⟨y1f9, hy1fa, H⟩ := lete H
   have hr1fb : Row k52 52 b w0 R v1f5 y1f9 M1f6 := by rw [hy1fa]; exact hr1f7
   clear hr1f7
   obtain ⟨A1fc, c1fd, rfl⟩ := hr1fb.form
   refine ⟨.inr ⟨(hS1f8.b1.cell (i := 0) rfl), (hS1f8.b2.cell (i := 0) rfl), (hS1f8.b2.cell (i := 1) rfl), trivial⟩, ?_⟩
   refine WT.o1 12 h1f3 rfl ?_
   refine owp_rk (pt g18y) h1f3 rfl (fun a1fe h1ff => ?_)
   refine ⟨.inr ⟨(hS1f8.b1.cell (i := 0) rfl), (hS1f8.b2.cell (i := 0) rfl), (hS1f8.b2.cell (i := 1) rfl), trivial⟩, ?_⟩
   refine WT.tk 13 h1ff rfl rfl (pt g18y) (fun _ _ => by kernel_rfl) ⟨(hS1f8.b1.cell (i := 0) rfl), (hS1f8.b2.cell (i := 0) rfl), (hS1f8.b2.cell (i := 1) rfl), trivial⟩ (fun a1fg s1fi h1fh => ?_)
   have hS1fj := hS1f8.b1
   refine WT.o1 14 h1fh rfl ?_
   refine owp_st 0 [.slice A1fc y1f9.length c1fd] h1fh rfl rfl rfl hS1fj [.slice A1fc y1f9.length c1fd, i6 r19q.f1, i6 r19q.f2] (fun a1fk W1fm h1fl hS1fn => ?_)
   refine ⟨.inl (by decide), ?_⟩
   refine WT.dn ?_
   refine WL.start ?_
   refine WL.bl 3 3 h1fl [(34, .pointer (some ⟨g18y, 1, none⟩)), (33, pt g18y), (32, pt g18y)] (fun a1fo h1fp => ?_)
   refine WL.oq h1fp rfl ?_
   refine owp_rn (i6 r19q.f1) h1fp rfl (run_load1 rfl rfl Tryd.underlying3 rfl (hS1fn.cell (i := 1) rfl)) (fun a1fq h1fr => ?_)
   refine WL.bl 4 8 h1fr [(39, .pointer (some ⟨g18y, 1, none⟩)), (38, pt g18y), (37, i6 (IntKind.i64.wrap (r19q.f1 + r199))), (36, i6 r199)] (fun a1fs h1ft => ?_)
   refine WL.oq h1ft rfl ?_
   refine owp_st 1 [i6 (IntKind.i64.wrap (r19q.f1 + r199))] h1ft rfl rfl rfl hS1fn [.slice A1fc y1f9.length c1fd, i6 (IntKind.i64.wrap (r19q.f1 + r199)), i6 r19q.f2] (fun a1fu W1fw h1fv hS1fx => ?_)
   refine WL.dn ?_
   have hS1fy := hS1fx.b1
   have hS1fz := hS1fy.b1
   obtain ⟨M1g0, hp1g1, hS1g2⟩ := k79qfo (⟨y1f9, IntKind.i64.wrap (r19q.f1 + r199), r19q.f2⟩ : S79) hr1fb hS1fz
   have hS1g3 := hS1g2.b1
   have hS1g4 := hS1g3.drop_
   obtain rfl := Option.some.inj H
   repeat (first | with_reducible refine t4 ?_ | with_reducible refine t3 ?_)
   refine bend (.tuple #[]) h1fv ?_
   exact ⟨M1g0, rfl, hp1g1, hS1g4⟩
  ·rw [if_neg c1f0] at H
   cases H

/-! ### (*louver/hpack.Encoder).field -/
def hpack_Encoder_field.f (k : Nat) (p0 : S61) (p1 : (List Int)) (p2 : S52) : Option ((List Int) × S61) := bnd2 (dyntable_Table_Find.f k p0.f0 p2.f0 p2.f1) fun r1ke r1kf => (if p2.f2 = true then (bnd1 (hpack_literal.f k p1 4 16 r1ke (⟨p2.f0, p2.f1, p2.f2⟩ : S52)) fun r1lg => (some (r1lg, p0))) else (if r1kf = true then (bnd1 (prefix_Put.f k p1 7 128 (IntKind.u32.wrap r1ke)) fun r1m8 => (some (r1m8, p0))) else (bnd1 (dyntable_Table_Add.f k p0.f0 (⟨p2.f0, p2.f1, p2.f2⟩ : S52)) fun r1os => (bnd1 (hpack_literal.f k p1 6 64 r1ke (⟨p2.f0, p2.f1, p2.f2⟩ : S52)) fun r1p7 => (some (r1p7, (⟨r1os, p0.f1, p0.f2, p0.f3⟩ : S61)))))))
set_option maxHeartbeats 20000000 in
set_option maxRecDepth 100000 in
theorem hpack_Encoder_field.calls (k : Nat) {b : Nat} {w0 W : World} {R : Frag} {Fs : List Frag} {p0 : S61} {p1 : (List Int)} {p2 : S52} {v1 : Value} {v0 : Value} {M0 : Frag} {r0q : (List Int)} {r1q : S61} (hp0 : Ptr k61 61 b w0 R v0 p0 M0) (hp1 : Rds (kInt .u8) b w0 R v1 p1) (hg0 : Rds k52 b w0 [] (.slice (some ⟨0, 0, none⟩) 61 61) G0) (hg1 : Rds (kInt .u8) b w0 [] (.slice (some ⟨1, 0, none⟩) 257 257) G1) (H : hpack_Encoder_field.f k p0 p1 p2 = some (r0q, r1q)) (hS : St b w0 W R (M0 :: Fs)) :
  Calls Tryd.prog 28 ([v0, v1, .agg #[.string (mkS p2.f0), .string (mkS p2.f1), .bool p2.f2]] : List Value).toArray W (fun e W' => ∃ (u0q : Value) (N0q : Frag) (O0q : Frag), e = .returned (u0q) ∧ Row (kInt .u8) 5 b w0 R u0q r0q N0q ∧ Ptr k61 61 b w0 R v0 r1q O0q ∧ St b w0 W' R (N0q :: O0q :: Fs)) := by
 obtain ⟨A1, c1, rfl⟩ := hp1.form
 unfold hpack_Encoder_field.f at H
 refine calls_enter Tryd.func28 rfl 44 rfl (by kernel_rfl) (fun a h => ?_)
 refine wp_seq ?_
 refine WL.start ?_
 refine WL.oq h rfl ?_
 refine owp_nw (fun g_ => (pt g_)) (.cells ([.string (mkS p2.f0), .string (mkS p2.f1), .bool p2.f2] : List Value).toArray 52 (0, 0)) h rfl hS (fun a1gg W1gi g1gj h1gh hS1gk => ?_)
 refine WL.bl 1 2 h1gh [(6, .slice none 0 0)] (fun a1gl h1gm => ?_)
 refine WL.dn ?_
 refine wp_seq ?_
 have hS1gn := hS1gk.b1
 obtain ⟨g1gp, g1gq, M1gr, rfl, hr1gs, hS1go⟩ := k61qop hp0 hS1gn
 refine WT.start 14 (fun w_ => (w_.cell? ⟨g1gp, 0, none⟩ = some (pt g1gq)) ∧ (w_.cell? ⟨g1gj, 0, none⟩ = some (.string (mkS p2.f0))) ∧ (w_.cell? ⟨g1gj, 1, none⟩ = some (.string (mkS p2.f1))) ∧ True) (by kernel_rfl) #[false, false, false, false, false, false, false, false, false, false, false, false, false, false] 14 rfl rfl ?_
 have hS1jn := hS1go.drew
 refine WT.tk 0 h1gm rfl rfl (pt g1gp) (fun _ _ => by kernel_rfl) ⟨(hS1jn.cell (i := 0) rfl), (hS1jn.b2.cell (i := 0) rfl), (hS1jn.b2.cell (i := 1) rfl), trivial⟩ (fun a1jo s1jq h1jp => ?_)
 refine WT.tk 1 h1jp rfl rfl (pt g1gp) (fun _ _ => by kernel_rfl) s1jq (fun a1jr s1jt h1js => ?_)
 refine WT.tk 2 h1js rfl rfl (pt g1gp) (fun _ _ => by kernel_rfl) s1jt (fun a1ju s1jw h1jv => ?_)
 refine WT.tk 4 h1jv rfl rfl (pt g1gj) (fun _ _ => by kernel_rfl) s1jw (fun a1jx s1jz h1jy => ?_)
 refine WT.tk 6 h1jy rfl rfl (.pointer (some ⟨g1gj, 1, none⟩)) (fun _ _ => by kernel_rfl) s1jz (fun a1k0 s1k2 h1k1 => ?_)
 refine WT.tk 3 h1k1 rfl rfl (pt g1gq) (fun w_ hs_ => (run_load1 rfl rfl Tryd.underlying59 rfl hs_.1)) s1k2 (fun a1k3 s1k5 h1k4 => ?_)
 refine WT.tk 5 h1k4 rfl rfl (.string (mkS p2.f0)) (fun w_ hs_ => (run_load1 rfl rfl Tryd.underlying9 rfl hs_.2.1)) s1k5 (fun a1k6 s1k8 h1k7 => ?_)
 refine WT.tk 7 h1k7 rfl rfl (.string (mkS p2.f1)) (fun w_ hs_ => (run_load1 rfl rfl Tryd.underlying9 rfl hs_.2.2.1)) s1k8 (fun a1k9 s1kb h1ka => ?_)
 have hS1kc := hS1jn.b1
 obtain ⟨r1ke, r1kf, A1kd, H⟩ := bind2 H
 refine WT.o1 8 h1ka rfl ?_
 refine owp_call [(pt g1gq), .string (mkS p2.f0), .string (mkS p2.f1)] h1ka rfl (by kernel_rfl) rfl Tryd.func42 (by kernel_rfl) rfl (by kernel_rfl) (dyntable_Table_Find.calls k hr1gs hg0 A1kd hS1kc) (fun e1kh W1kg hp1ki => ?_)
 obtain ⟨M1kl, rfl, hr1km, hS1kn⟩ := hp1ki
 refine ⟨_, rfl, fun a1kj h1kk => ?_⟩
 refine ⟨.inr ⟨(hS1kn.b1.cell (i := 0) rfl), (hS1kn.b2.cell (i := 0) rfl), (hS1kn.b2.cell (i := 1) rfl), trivial⟩, ?_⟩
 refine WT.tk 9 h1kk rfl rfl (.tuple #[i6 r1ke, .bool r1kf]) (fun _ _ => by kernel_rfl) ⟨(hS1kn.b1.cell (i := 0) rfl), (hS1kn.b2.cell (i := 0) rfl), (hS1kn.b2.cell (i := 1) rfl), trivial⟩ (fun a1ko s1kq h1kp => ?_)
 refine WT.tk 10 h1kp rfl rfl (i6 r1ke) (fun _ _ => by kernel_rfl) s1kq (fun a1kr s1kt h1ks => ?_)
 clear h1gh a1gg h1gm a1gl h1jp a1jo h1js a1jr h1jv a1ju h1jy a1jx h1k1 a1k0 h1k4 a1k3 h1k7 a1k6 h1ka a1k9 h1kk a1kj h1kp a1ko
 refine WT.tk 11 h1ks rfl rfl (.bool r1kf) (fun _ _ => by kernel_rfl) s1kt (fun a1ku s1kw h1kv => ?_)
 refine WT.tk 12 h1kv rfl rfl (i6 r1ke) (fun _ _ => by kernel_rfl) s1kw (fun a1kx s1kz h1ky => ?_)
 refine WT.tk 13 h1ky rfl rfl (.bool r1kf) (fun _ _ => by kernel_rfl) s1kz (fun a1l0 s1l2 h1l1 => ?_)
 refine WT.dn ?_
 refine wp_seq ?_
 refine wp_block ?_
 refine wp_seq ?_
 refine WL.start ?_
 refine WL.bl 1 1 h1l1 [(22, .pointer (some ⟨g1gj, 2, none⟩))] (fun a1l3 h1l4 => ?_)
 have hS1l5 := hS1kn.b2
 refine WL.oq h1l4 rfl ?_
 refine owp_rn (.bool p2.f2) h1l4 rfl (run_load1 rfl rfl Tryd.underlying4 rfl (hS1l5.cell (i := 2) rfl)) (fun a1l6 h1l7 => ?_)
 refine WL.bl 1 3 h1l7 [(21, .bool p2.f2)] (fun a1l8 h1l9 => ?_)
 refine WL.dn ?_
 clear h1ks a1kr h1kv a1ku h1ky a1kx h1l1 a1l0 h1l4 a1l3 h1l7 a1l6
 by_cases c1la : p2.f2 = true
 ·rw [if_pos c1la] at H
  have hb_ : p2.f2 = true := c1la
  try rw [hb_] at h1l9
  clear hb_
  refine wp_then h1l9 rfl ?_
  refine wp_seq ?_
  refine WL.start ?_
  refine WL.bl 2 2 h1l9 [(25, i6 r1ke), (24, .slice A1 p1.length c1)] (fun a1lb h1lc => ?_)
  refine WL.oq h1lc rfl ?_
  refine owp_rn (.agg #[.string (mkS p2.f0), .string (mkS p2.f1), .bool p2.f2]) h1lc rfl (run_loadN rfl rfl Tryd.underlying52 rfl (cs := [.string (mkS p2.f0), .string (mkS p2.f1), .bool p2.f2]) (by kernel_rfl) (hS1l5.cells (vs := [.string (mkS p2.f0), .string (mkS p2.f1), .bool p2.f2]) rfl)) (fun a1ld h1le => ?_)
  obtain ⟨r1lg, A1lf, H⟩ := bind1 H
  refine WL.oq h1le rfl ?_
  refine owp_call [.slice A1 p1.length c1, i6 4, .int .u8 16, i6 r1ke, .agg #[.string (mkS p2.f0), .string (mkS p2.f1), .bool p2.f2]] h1le rfl (by kernel_rfl) rfl Tryd.func43 (by kernel_rfl) rfl (by kernel_rfl) (hpack_literal.calls (p4 := (⟨p2.f0, p2.f1, p2.f2⟩ : S52)) k hp1 hg1 A1lf hS1l5) (fun e1li W1lh hp1lj => ?_)
  obtain ⟨v1lm, M1ln, rfl, hr1lo, hS1lp⟩ := hp1lj
  refine ⟨_, rfl, fun a1lk h1ll => ?_⟩
  obtain ⟨A1lq, c1lr, rfl⟩ := hr1lo.form
  refine WL.bl 1 5 h1ll [(6, .slice A1lq r1lg.length c1lr)] (fun a1ls h1lt => ?_)
  refine WL.dn ?_
  refine wp_ret ?_
  have hS1lu := hS1lp.b2
  have hS1lv := hS1lu.b3
  obtain ⟨M1lw, hp1lx, hS1ly⟩ := k61qfo p0 hr1km hS1lv
  have hS1lz := hS1ly.b2
  have hS1m0 := hS1lz.drop_
  have hS1m1 := hS1m0.b1
  obtain ⟨rfl, rfl⟩ := ret2 H
  repeat (first | with_reducible refine t1 ?_ | with_reducible refine t2 ?_ | with_reducible refine t3 ?_)
  refine bret (.slice A1lq r1lg.length c1lr) h1lt ?_
  exact ⟨.slice A1lq r1lg.length c1lr, M1ln, M1lw, rfl, hr1lo, hp1lx, hS1m1⟩
 ·rw [if_neg c1la] at H
  have hb_ : p2.f2 = false := (Bool.eq_false_iff.2 c1la)
  try rw [hb_] at h1l9
  clear hb_
  refine wp_else h1l9 rfl ?_
  refine wp_seq ?_
  refine WL.start ?_
  refine WL.bl 2 2 h1l9 [(28, .bool r1kf), (29, .bool r1kf)] (fun a1m2 h1m3 => ?_)
  refine WL.dn ?_
  clear h1l9 a1l8
  by_cases c1m4 : r1kf = true
  ·rw [if_pos c1m4] at H
   have hb_ : r1kf = true := c1m4
   try rw [hb_] at h1m3
   clear hb_
   refine wp_then h1m3 rfl ?_
   refine wp_seq ?_
   refine WL.start ?_
   refine WL.bl 3 3 h1m3 [(32, .int .u32 (IntKind.u32.wrap r1ke)), (31, i6 r1ke), (30, .slice A1 p1.length c1)] (fun a1m5 h1m6 => ?_)
   obtain ⟨r1m8, A1m7, H⟩ := bind1 H
   refine WL.oq h1m6 rfl ?_
   refine owp_call [.slice A1 p1.length c1, i6 7, .int .u8 128, .int .u32 (IntKind.u32.wrap r1ke)] h1m6 rfl (by kernel_rfl) rfl Tryd.func27 (by kernel_rfl) rfl (by kernel_rfl) (prefix_Put.calls k hp1 A1m7 hS1l5) (fun e1ma W1m9 hp1mb => ?_)
   obtain ⟨v1me, M1mf, rfl, hr1mg, hS1mh⟩ := hp1mb
   refine ⟨_, rfl, fun a1mc h1md => ?_⟩
   obtain ⟨A1mi, c1mj, rfl⟩ := hr1mg.form
   refine WL.bl 1 5 h1md [(6, .slice A1mi r1m8.length c1mj)] (fun a1mk h1ml => ?_)
   refine WL.dn ?_
   refine wp_ret ?_
   have hS1mm := hS1mh.b2
   have hS1mn := hS1mm.b3
   obtain ⟨M1mo, hp1mp, hS1mq⟩ := k61qfo p0 hr1km hS1mn
   have hS1mr := hS1mq.b2
   have hS1ms := hS1mr.drop_
   have hS1mt := hS1ms.b1
   obtain ⟨rfl, rfl⟩ := ret2 H
   repeat (first | with_reducible refine t1 ?_ | with_reducible refine t2 ?_ | with_reducible refine t3 ?_)
   refine bret (.slice A1mi r1m8.length c1mj) h1ml ?_
   exact ⟨.slice A1mi r1m8.length c1mj, M1mf, M1mo, rfl, hr1mg, hp1mp, hS1mt⟩
  ·rw [if_neg c1m4] at H
   have hb_ : r1kf = false := (Bool.eq_false_iff.2 c1m4)
   try rw [hb_] at h1m3
   clear hb_
   refine wp_else h1m3 rfl ?_
   refine wp_skip ?_
   refine wp_seq ?_
   refine WT.start 6 (fun w_ => (w_.cell? ⟨g1gp, 0, none⟩ = some (pt g1gq)) ∧ (∀ j_ u_, ([.string (mkS p2.f0), .string (mkS p2.f1), .bool p2.f2] : List Value)[j_]? = some u_ → w_.cell? ((⟨g1gj, 0, none⟩ : Addr).add j_) = some u_) ∧ True) (by kernel_rfl) #[false, false, false, false, false, false] 6 rfl rfl ?_
   have hS1oa := hS1l5.drew
   refine WT.tk 0 h1m3 rfl rfl (pt g1gp) (fun _ _ => by kernel_rfl) ⟨(hS1oa.b2.cell (i := 0) rfl), (hS1oa.cells (vs := [.string (mkS p2.f0), .string (mkS p2.f1), .bool p2.f2]) rfl), trivial⟩ (fun a1ob s1od h1oc => ?_)
   refine WT.tk 1 h1oc rfl rfl (pt g1gp) (fun _ _ => by kernel_rfl) s1od (fun a1oe s1og h1of => ?_)
   refine WT.tk 2 h1of rfl rfl (pt g1gp) (fun _ _ => by kernel_rfl) s1og (fun a1oh s1oj h1oi => ?_)
   refine WT.tk 3 h1oi rfl rfl (pt g1gq) (fun w_ hs_ => (run_load1 rfl rfl Tryd.underlying59 rfl hs_.1)) s1oj (fun a1ok s1om h1ol => ?_)
   refine WT.tk 4 h1ol rfl rfl (.agg #[.string (mkS p2.f0), .string (mkS p2.f1), .bool p2.f2]) (fun w_ hs_ => (run_loadN rfl rfl Tryd.underlying52 rfl (cs := [.string (mkS p2.f0), .string (mkS p2.f1), .bool p2.f2]) (by kernel_rfl) hs_.2.1)) s1om (fun a1on s1op h1oo => ?_)
   have hS1oq := hS1oa.b1
   obtain ⟨r1os, A1or, H⟩ := bind1 H
   refine WT.o1 5 h1oo rfl ?_
   refine owp_call [(pt g1gq), .agg #[.string (mkS p2.f0), .string (mkS p2.f1), .bool p2.f2]] h1oo rfl (by kernel_rfl) rfl Tryd.func39 (by kernel_rfl) rfl (by kernel_rfl) (dyntable_Table_Add.calls (p1 := (⟨p2.f0, p2.f1, p2.f2⟩ : S52)) k hr1km A1or hS1oq) (fun e1ou W1ot hp1ov => ?_)
   obtain ⟨M1oy, rfl, hr1oz, hS1p0⟩ := hp1ov
   refine ⟨_, rfl, fun a1ow h1ox => ?_⟩
   refine ⟨.inr ⟨(hS1p0.b2.cell (i := 0) rfl), (hS1p0.b1.cells (vs := [.string (mkS p2.f0), .string (mkS p2.f1), .bool p2.f2]) rfl), trivial⟩, ?_⟩
   refine WT.dn ?_
   refine wp_seq ?_
   refine WL.start ?_
   refine WL.bl 2 2 h1ox [(41, i6 r1ke), (40, .slice A1 p1.length c1)] (fun a1p1 h1p2 => ?_)
   have hS1p3 := hS1p0.b1
   refine WL.oq h1p2 rfl ?_
   refine owp_rn (.agg #[.string (mkS p2.f0), .string (mkS p2.f1), .bool p2.f2]) h1p2 rfl (run_loadN rfl rfl Tryd.underlying52 rfl (cs := [.string (mkS p2.f0), .string (mkS p2.f1), .bool p2.f2]) (by kernel_rfl) (hS1p3.cells (vs := [.string (mkS p2.f0), .string (mkS p2.f1), .bool p2.f2]) rfl)) (fun a1p4 h1p5 => ?_)
   obtain ⟨r1p7, A1p6, H⟩ := bind1 H
   refine WL.oq h1p5 rfl ?_
   refine owp_call [.slice A1 p1.length c1, i6 6, .int .u8 64, i6 r1ke, .agg #[.string (mkS p2.f0), .string (mkS p2.f1), .bool p2.f2]] h1p5 rfl (by kernel_rfl) rfl Tryd.func43 (by kernel_rfl) rfl (by kernel_rfl) (hpack_literal.calls (p4 := (⟨p2.f0, p2.f1, p2.f2⟩ : S52)) k hp1 hg1 A1p6 hS1p3) (fun e1p9 W1p8 hp1pa => ?_)
   obtain ⟨v1pd, M1pe, rfl, hr1pf, hS1pg⟩ := hp1pa
   refine ⟨_, rfl, fun a1pb h1pc => ?_⟩
   obtain ⟨A1ph, c1pi, rfl⟩ := hr1pf.form
   refine WL.bl 1 5 h1pc [(6, .slice A1ph r1p7.length c1pi)] (fun a1pj h1pk => ?_)
   refine WL.dn ?_
   refine wp_ret ?_
   have hS1pl := hS1pg.b2
   have hS1pm := hS1pl.b3
   obtain ⟨M1pn, hp1po, hS1pp⟩ := k61qfo (⟨r1os, p0.f1, p0.f2, p0.f3⟩ : S61) hr1oz hS1pm
   have hS1pq := hS1pp.b2
   have hS1pr := hS1pq.drop_
   have hS1ps := hS1pr.b1
   obtain ⟨rfl, rfl⟩ := ret2 H
   repeat (first | with_reducible refine t1 ?_ | with_reducible refine t2 ?_ | with_reducible refine t3 ?_)
   refine bret (.slice A1ph r1p7.length c1pi) h1pk ?_
   exact ⟨.slice A1ph r1p7.length c1pi, M1pe, M1pn, rfl, hr1pf, hp1po, hS1ps⟩

/-! ### (*louver/hpack.Encoder).Put -/
mutual
def hpack_Encoder_Put.l2 : Nat → S61 → (List Int) → Int → (List S52) → Option ((List Int) × S61)
 | 0, _, _, _, _ => none
 | k + 1, x3ek, x3en, x3es, p1 => if x3es < (p1.length : Int) then (if 0 ≤ x3es then (bnd2 (hpack_Encoder_field.f k x3ek x3en (⟨(gt z52 p1 x3es).f0, (gt z52 p1 x3es).f1, (gt z52 p1 x3es).f2⟩ : S52)) fun r3ft r3fu => (hpack_Encoder_Put.l2 k r3fu r3ft (IntKind.i64.wrap (x3es + 1)) p1)) else (none)) else (some (x3en, x3ek))
def hpack_Encoder_Put.j0 : Nat → (List Int) → S61 → (List S52) → Option ((List Int) × S61)
 | 0, _, _, _ => none
 | k + 1, x3il, p0, p1 => if p0.f1 = true then (hpack_Encoder_Put.j1 k x3il p0 p1) else (bnd1 (prefix_Put.f k x3il 5 32 p0.f3) fun r3lr => (hpack_Encoder_Put.j1 k r3lr p0 p1))
def hpack_Encoder_Put.j1 : Nat → (List Int) → S61 → (List S52) → Option ((List Int) × S61)
 | 0, _, _, _ => none
 | k + 1, x3l9, p0, p1 => hpack_Encoder_Put.l2 k (⟨p0.f0, true, p0.f2, p0.f3⟩ : S61) x3l9 0 p1
end
def hpack_Encoder_Put.f (k : Nat) (p0 : S61) (p1 : (List S52)) : Option ((List Int) × S61) := if p0.f1 = true then (hpack_Encoder_Put.l2 k (⟨p0.f0, true, p0.f2, p0.f3⟩ : S61) ([] : List Int) 0 p1) else (if p0.f2 < p0.f3 then (bnd1 (prefix_Put.f k ([] : List Int) 5 32 p0.f2) fun r3j2 => (hpack_Encoder_Put.j0 k r3j2 p0 p1)) else (hpack_Encoder_Put.j0 k ([] : List Int) p0 p1))
set_option maxHeartbeats 20000000 in
set_option maxRecDepth 100000 in
theorem hpack_Encoder_Put.calls (k : Nat) {b : Nat} {w0 W : World} {R : Frag} {Fs : List Frag} {p0 : S61} {p1 : (List S52)} {v1 : Value} {v0 : Value} {M0 : Frag} {r0q : (List Int)} {r1q : S61} (hp0 : Ptr k61 61 b w0 R v0 p0 M0) (hp1 : Rds k52 b w0 R v1 p1) (hg0 : Rds k52 b w0 [] (.slice (some ⟨0, 0, none⟩) 61 61) G0) (hg1 : Rds (kInt .u8) b w0 [] (.slice (some ⟨1, 0, none⟩) 257 257) G1) (H : hpack_Encoder_Put.f k p0 p1 = some (r0q, r1q)) (hS : St b w0 W R (M0 :: Fs)) :
  Calls Tryd.prog 13 ([v0, v1] : List Value).toArray W (fun e W' => ∃ (u0q : Value) (N0q : Frag) (O0q : Frag), e = .returned (u0q) ∧ Row (kInt .u8) 5 b w0 R u0q r0q N0q ∧ Ptr k61 61 b w0 R v0 r1q O0q ∧ St b w0 W' R (N0q :: O0q :: Fs)) := by
 obtain ⟨A1, c1, rfl⟩ := hp1.form
 unfold hpack_Encoder_Put.f at H
 refine calls_enter Tryd.func13 rfl 58 rfl (by kernel_rfl) (fun a h => ?_)
 refine wp_seq ?_
 refine WL.start ?_
 refine WL.bl 1 1 h [(4, .slice none 0 0)] (fun a375 h376 => ?_)
 refine WL.dn ?_
 refine wp_seq ?_
 refine wp_seq ?_
 refine WL.start ?_
 refine WL.bl 1 1 h376 [(8, v0)] (fun a377 h378 => ?_)
 obtain ⟨g37a, g37b, M37c, rfl, hr37d, hS379⟩ := k61qop hp0 hS
 refine WL.bl 1 2 h378 [(9, .bool false)] (fun a37e h37f => ?_)
 refine WL.dn ?_
 refine wp_else h37f rfl ?_
 refine wp_skip ?_
 refine wp_seq ?_
 refine WL.start ?_
 refine WL.bl 1 1 h37f [(5, .slice none 0 0)] (fun a37g h37h => ?_)
 refine WL.dn ?_
 refine wp_seq ?_
 refine wp_seq ?_
 refine WT.start 16 (fun w_ => (w_.cell? ⟨g37a, 1, none⟩ = some (.bool p0.f1)) ∧ (w_.cell? ⟨g37a, 2, none⟩ = some (.int .u32 p0.f2)) ∧ (w_.cell? ⟨g37a, 3, none⟩ = some (.int .u32 p0.f3)) ∧ True) (by kernel_rfl) #[false, false, false, false, false, false, false, false, false, false, false, false, false, false, false, false] 16 rfl rfl ?_
 have hS3bw := hS379.drew
 refine WT.tk 0 h37h rfl rfl (pt g37a) (fun _ _ => by kernel_rfl) ⟨(hS3bw.cell (i := 1) rfl), (hS3bw.cell (i := 2) rfl), (hS3bw.cell (i := 3) rfl), trivial⟩ (fun a3bx s3bz h3by => ?_)
 refine WT.tk 1 h3by rfl rfl (pt g37a) (fun _ _ => by kernel_rfl) s3bz (fun a3c0 s3c2 h3c1 => ?_)
 refine WT.tk 2 h3c1 rfl rfl (.pointer (some ⟨g37a, 1, none⟩)) (fun _ _ => by kernel_rfl) s3c2 (fun a3c3 s3c5 h3c4 => ?_)
 refine WT.tk 3 h3c4 rfl rfl (.bool p0.f1) (fun w_ hs_ => (run_load1 rfl rfl Tryd.underlying4 rfl hs_.1)) s3c5 (fun a3c6 s3c8 h3c7 => ?_)
 refine WT.tk 4 h3c7 rfl rfl (.bool (!p0.f1)) (fun _ _ => by kernel_rfl) s3c8 (fun a3c9 s3cb h3ca => ?_)
 refine WT.tk 5 h3ca rfl rfl (.bool (!p0.f1)) (fun _ _ => by kernel_rfl) s3cb (fun a3cc s3ce h3cd => ?_)
 clear h376 a375 h378 a377 h37f a37e h37h a37g h3by a3bx h3c1 a3c0 h3c4 a3c3 h3c7 a3c6 h3ca a3c9
 by_cases c3cf : p0.f1 = true
 ·rw [if_pos c3cf] at H
  have hb_ : p0.f1 = true := c3cf
  try rw [hb_] at h3cd
  clear hb_
  refine WT.sp 6 h3cd rfl rfl s3ce (fun a3cg s3ci h3ch => ?_)
  refine WT.sp 7 h3ch rfl rfl s3ci (fun a3cj s3cl h3ck => ?_)
  refine WT.sp 8 h3ck rfl rfl s3cl (fun a3cm s3co h3cn => ?_)
  refine WT.sp 9 h3cn rfl rfl s3co (fun a3cp s3cr h3cq => ?_)
  refine WT.sp 10 h3cq rfl rfl s3cr (fun a3cs s3cu h3ct => ?_)
  refine WT.sp 11 h3ct rfl rfl s3cu (fun a3cv s3cx h3cw => ?_)
  refine WT.sp 12 h3cw rfl rfl s3cx (fun a3cy s3d0 h3cz => ?_)
  refine WT.sp 13 h3cz rfl rfl s3d0 (fun a3d1 s3d3 h3d2 => ?_)
  refine WT.sp 14 h3d2 rfl rfl s3d3 (fun a3d4 s3d6 h3d5 => ?_)
  refine WT.tk 15 h3d5 rfl rfl (.bool false) (fun _ _ => by kernel_rfl) s3d6 (fun a3d7 s3d9 h3d8 => ?_)
  refine WT.dn ?_
  have hS3da := hS3bw.b1
  have hS3db := hS3da.b1
  obtain ⟨M3dc, hp3dd, hS3de⟩ := k61qfo p0 hr37d hS3db
  refine wp_else h3d8 rfl ?_
  refine wp_skip ?_
  refine wp_seq ?_
  refine wp_seq ?_
  refine WL.start ?_
  refine WL.bl 1 1 h3d8 [(32, pt g37a)] (fun a3df h3dg => ?_)
  obtain ⟨g3di, M3dj, hr3dk, hS3dh⟩ := k61qoq hp3dd hS3de
  refine WL.bl 2 3 h3dg [(34, .pointer (some ⟨g37a, 1, none⟩)), (33, pt g37a)] (fun a3dl h3dm => ?_)
  clear h3cd a3cc h3ch a3cg h3ck a3cj h3cn a3cm h3cq a3cp h3ct a3cs h3cw a3cv h3cz a3cy h3d2 a3d1 h3d5 a3d4 h3d8 a3d7 h3dg a3df
  refine WL.oq h3dm rfl ?_
  refine owp_rn (.bool p0.f1) h3dm rfl (run_load1 rfl rfl Tryd.underlying4 rfl (hS3dh.cell (i := 1) rfl)) (fun a3dn h3do => ?_)
  refine WL.bl 1 5 h3do [(36, .bool (!p0.f1))] (fun a3dp h3dq => ?_)
  refine WL.dn ?_
  have hS3dr := hS3dh.b1
  have hS3ds := hS3dr.b1
  obtain ⟨M3dt, hp3du, hS3dv⟩ := k61qfo p0 hr3dk hS3ds
  have hb_ : p0.f1 = true := c3cf
  try rw [hb_] at h3dq
  clear hb_
  refine wp_else h3dq rfl ?_
  refine wp_skip ?_
  refine wp_seq ?_
  refine WL.start ?_
  refine WL.bl 1 1 h3dq [(43, pt g37a)] (fun a3dw h3dx => ?_)
  obtain ⟨g3dz, M3e0, hr3e1, hS3dy⟩ := k61qoq hp3du hS3dv
  refine WL.bl 2 3 h3dx [(45, .pointer (some ⟨g37a, 1, none⟩)), (44, pt g37a)] (fun a3e2 h3e3 => ?_)
  refine WL.oq h3e3 rfl ?_
  refine owp_st 1 [.bool true] h3e3 rfl rfl rfl hS3dy [(pt g3dz), .bool true, .int .u32 p0.f2, .int .u32 p0.f3] (fun a3e4 W3e6 h3e5 hS3e7 => ?_)
  refine WL.dn ?_
  refine wp_seq ?_
  refine wp_seq ?_
  refine WL.start ?_
  refine WL.bl 3 3 h3e5 [(48, i6 0), (47, i6 (p1.length : Int)), (46, .slice A1 p1.length c1)] (fun a3e8 h3e9 => ?_)
  refine WL.dn ?_
  refine wp_block ?_
  have hS3ea := hS3e7.b1
  have hS3eb := hS3ea.b1
  obtain ⟨M3ec, hp3ed, hS3ee⟩ := k61qfo (⟨p0.f0, true, p0.f2, p0.f3⟩ : S61) hr3e1 hS3eb
  have hS3et := hS3ee.nil_
  have hS3eu := hS3et.b1
  clear h3dm a3dl h3do a3dn h3dq a3dp h3dx a3dw h3e3 a3e2 h3e5 a3e4
  refine wp_loop_ghost (fun kq_ a_ W_ => ∃ (x3ek : S61), ∃ (M3el : Frag), ∃ (x3en : (List Int)), ∃ (A3eo : Option Addr), ∃ (c3ep : Nat), ∃ (M3eq : Frag), ∃ (x3es : Int), Hd a_ 58 [(0, pt g37a), (5, .slice A3eo x3en.length c3ep), (46, .slice A1 p1.length c1), (47, i6 (p1.length : Int)), (48, i6 x3es)] ∧ Asd (hpack_Encoder_Put.l2 kq_ x3ek x3en x3es p1 = some (r0q, r1q)) ∧ Asd (kq_ ≤ k) ∧ Asd (St b w0 W_ R (M3el :: M3eq :: Fs)) ∧ Asd (Ptr k61 61 b w0 R (pt g37a) x3ek M3el) ∧ Asd (Row (kInt .u8) 5 b w0 R (.slice A3eo x3en.length c3ep) x3en M3eq)) k ⟨(⟨p0.f0, true, p0.f2, p0.f3⟩ : S61), M3ec, ([] : List Int), none, 0, ([] : Frag), 0, h3e9.keep ⟨rfl, rfl, rfl, rfl, rfl, trivial⟩, ⟨H⟩, ⟨Nat.le_refl _⟩, ⟨hS3eu⟩, ⟨hp3ed⟩, ⟨Row.nil⟩⟩ ?_
  clear H hS3eu
  rintro kk3ej a3eg W3eh ⟨x3ek, M3el, x3en, A3eo, c3ep, M3eq, x3es, h3ef, ⟨H⟩, ⟨hkkk3ej⟩, ⟨hS3ei⟩, ⟨hr3em⟩, ⟨hr3er⟩⟩
  obtain _ | kk3ev := kk3ej
  ·exact absurd H (by simp [hpack_Encoder_Put.l2])
  simp only [hpack_Encoder_Put.l2] at H
  refine wp_seq ?_
  refine WL.start ?_
  refine WL.bl 1 1 h3ef [(49, .bool (decide (x3es < (p1.length : Int))))] (fun a3ew h3ex => ?_)
  refine WL.dn ?_
  refine wp_seq ?_
  clear h3ef a3eg
  by_cases c3ey : x3es < (p1.length : Int)
  ·rw [if_pos c3ey] at H
   have hb_ : (decide (x3es < (p1.length : Int))) = true := decide_eq_true c3ey
   try rw [hb_] at h3ex
   clear hb_
   refine wp_then h3ex rfl ?_
   refine wp_skip ?_
   refine wp_seq ?_
   refine wp_block ?_
   refine wp_seq ?_
   refine WL.start ?_
   by_cases c3ez : 0 ≤ x3es
   ·rw [if_pos c3ez] at H
    have hi3f2 : 0 ≤ x3es := by first | assumption | omega
    have hi3f3 : x3es < (p1.length : Int) := by first | assumption | omega
    obtain ⟨ad3f0, _, ha3f1, -, -⟩ := Rds.elemAny hp1 hi3f2 (gt_get (z := z52) hi3f2 hi3f3)
    refine WL.oq h3ex rfl ?_
    refine owp_rn (.pointer (some (ad3f0.add (x3es.toNat * 3)))) h3ex rfl (run_idx (ad := ad3f0) (sz := 3) rfl (by rw [← ha3f1]; rfl) rfl Tryd.underlying23 (by kernel_rfl) hi3f2 hi3f3) (fun a3f4 h3f5 => ?_)
    obtain ⟨ad3f6, cs3f7, ha3f8, hr3fa, hc3f9⟩ := Rds.elemAny hp1 hi3f2 (gt_get (z := z52) hi3f2 hi3f3)
    rw [ha3f1] at ha3f8; obtain rfl := Option.some.inj ha3f8
    obtain rfl := k52qrd hr3fa
    refine WL.oq h3f5 rfl ?_
    refine owp_rn (.agg #[.string (mkS ((gt z52 p1 x3es).f0)), .string (mkS ((gt z52 p1 x3es).f1)), .bool ((gt z52 p1 x3es).f2)]) h3f5 rfl (run_loadN rfl rfl Tryd.underlying52 rfl (cs := [.string (mkS ((gt z52 p1 x3es).f0)), .string (mkS ((gt z52 p1 x3es).f1)), .bool ((gt z52 p1 x3es).f2)]) (by kernel_rfl) (hc3f9 _ (fun _ _ hk_ => hS3ei.kn hk_))) (fun a3fb h3fc => ?_)
    refine WL.oq h3fc rfl ?_
    refine owp_nw (fun g_ => (pt g_)) (.cells ([.string (mkS []), .string (mkS []), .bool false] : List Value).toArray 52 (0, 0)) h3fc rfl hS3ei (fun a3fd W3ff g3fg h3fe hS3fh => ?_)
    refine WL.oq h3fe rfl ?_
    refine owp_st 0 [.string (mkS ((gt z52 p1 x3es).f0)), .string (mkS ((gt z52 p1 x3es).f1)), .bool ((gt z52 p1 x3es).f2)] h3fe rfl rfl rfl hS3fh [.string (mkS ((gt z52 p1 x3es).f0)), .string (mkS ((gt z52 p1 x3es).f1)), .bool ((gt z52 p1 x3es).f2)] (fun a3fi W3fk h3fj hS3fl => ?_)
    refine WL.dn ?_
    refine WL.start ?_
    refine WL.bl 2 2 h3fj [(53, .slice A3eo x3en.length c3ep), (52, pt g37a)] (fun a3fm h3fn => ?_)
    refine WL.oq h3fn rfl ?_
    refine owp_rn (.agg #[.string (mkS ((gt z52 p1 x3es).f0)), .string (mkS ((gt z52 p1 x3es).f1)), .bool ((gt z52 p1 x3es).f2)]) h3fn rfl (run_loadN rfl rfl Tryd.underlying52 rfl (cs := [.string (mkS ((gt z52 p1 x3es).f0)), .string (mkS ((gt z52 p1 x3es).f1)), .bool ((gt z52 p1 x3es).f2)]) (by kernel_rfl) (hS3fl.cells (vs := [.string (mkS ((gt z52 p1 x3es).f0)), .string (mkS ((gt z52 p1 x3es).f1)), .bool ((gt z52 p1 x3es).f2)]) rfl)) (fun a3fo h3fp => ?_)
    have hS3fq := hS3fl.b1
    have hS3fr := hS3fq.b2
    obtain ⟨r3ft, r3fu, A3fs, H⟩ := bind2 H
    refine WL.oq h3fp rfl ?_
    refine owp_call [(pt g37a), .slice A3eo x3en.length c3ep, .agg #[.string (mkS ((gt z52 p1 x3es).f0)), .string (mkS ((gt z52 p1 x3es).f1)), .bool ((gt z52 p1 x3es).f2)]] h3fp rfl (by kernel_rfl) rfl Tryd.func28 (by kernel_rfl) rfl (by kernel_rfl) (hpack_Encoder_field.calls (p2 := (⟨(gt z52 p1 x3es).f0, (gt z52 p1 x3es).f1, (gt z52 p1 x3es).f2⟩ : S52)) kk3ev (hr3em.mono (fun _ hp_ => List.mem_append_right _ hp_)) hr3er.rds hg0 hg1 A3fs (hS3fr.pool)) (fun e3fw W3fv hp3fx => ?_)
    obtain ⟨v3g0, M3g1, M3g3, rfl, hr3g2, hr3g4, hS3g5⟩ := hp3fx
    have hS3g6 : St b w0 W3fv R (M3eq :: M3g1 :: M3g3 :: (bx g3fg 52 [.string (mkS ((gt z52 p1 x3es).f0)), .string (mkS ((gt z52 p1 x3es).f1)), .bool ((gt z52 p1 x3es).f2)]) :: Fs) := hS3g5.unpool
    replace hr3g2 : Row (kInt .u8) 5 b w0 R v3g0 r3ft M3g1 := hr3g2.ind (kInt_ind _)
    replace hr3g4 : Ptr k61 61 b w0 R (pt g37a) r3fu M3g3 := hr3g4.ind k61qind
    refine ⟨_, rfl, fun a3fy h3fz => ?_⟩
    obtain ⟨A3g7, c3g8, rfl⟩ := hr3g2.form
    refine WL.bl 1 5 h3fz [(5, .slice A3g7 r3ft.length c3g8)] (fun a3g9 h3ga => ?_)
    refine WL.dn ?_
    refine WL.start ?_
    refine WL.bl 2 2 h3ga [(48, i6 (IntKind.i64.wrap (x3es + 1))), (56, i6 (IntKind.i64.wrap (x3es + 1)))] (fun a3gb h3gc => ?_)
    refine WL.dn ?_
    have hS3gd := hS3g6.drop_
    have hS3ge := hS3gd.b2
    have hS3gf := hS3ge.drop_
    have hS3gg := hS3gf.b1
    exact ⟨kk3ev, by omega, r3fu, M3g3, r3ft, A3g7, c3g8, M3g1, IntKind.i64.wrap (x3es + 1), h3gc.keep ⟨rfl, rfl, rfl, rfl, rfl, trivial⟩, ⟨H⟩, ⟨by omega⟩, ⟨hS3gg⟩, ⟨hr3g4⟩, ⟨hr3g2⟩⟩
   ·rw [if_neg c3ez] at H
    cases H
  ·rw [if_neg c3ey] at H
   have hb_ : (decide (x3es < (p1.length : Int))) = false := decide_eq_false c3ey
   try rw [hb_] at h3ex
   clear hb_
   refine wp_else h3ex rfl ?_
   refine wp_exit ?_
   refine wp_seq ?_
   refine WL.start ?_
   refine WL.bl 2 2 h3ex [(4, .slice A3eo x3en.length c3ep), (57, .slice A3eo x3en.length c3ep)] (fun a3gh h3gi => ?_)
   refine WL.dn ?_
   refine wp_ret ?_
   have hS3gj := hS3ei.b1
   obtain ⟨rfl, rfl⟩ := ret2 H
   repeat (first | with_reducible refine t1 ?_ | with_reducible refine t2 ?_ | with_reducible refine t3 ?_)
   refine bret (.slice A3eo x3en.length c3ep) h3gi ?_
   exact ⟨.slice A3eo x3en.length c3ep, M3eq, M3el, rfl, hr3er, hr3em, hS3gj⟩
 ·rw [if_neg c3cf] at H
  have hb_ : p0.f1 = false := (Bool.eq_false_iff.2 c3cf)
  try rw [hb_] at h3cd
  clear hb_
  refine WT.tk 6 h3cd rfl rfl (pt g37a) (fun _ _ => by kernel_rfl) s3ce (fun a3gk s3gm h3gl => ?_)
  refine WT.tk 7 h3gl rfl rfl (pt g37a) (fun _ _ => by kernel_rfl) s3gm (fun a3gn s3gp h3go => ?_)
  refine WT.tk 8 h3go rfl rfl (.pointer (some ⟨g37a, 2, none⟩)) (fun _ _ => by kernel_rfl) s3gp (fun a3gq s3gs h3gr => ?_)
  refine WT.tk 10 h3gr rfl rfl (pt g37a) (fun _ _ => by kernel_rfl) s3gs (fun a3gt s3gv h3gu => ?_)
  refine WT.tk 11 h3gu rfl rfl (pt g37a) (fun _ _ => by kernel_rfl) s3gv (fun a3gw s3gy h3gx => ?_)
  refine WT.tk 12 h3gx rfl rfl (.pointer (some ⟨g37a, 3, none⟩)) (fun _ _ => by kernel_rfl) s3gy (fun a3gz s3h1 h3h0 => ?_)
  refine WT.tk 9 h3h0 rfl rfl (.int .u32 p0.f2) (fun w_ hs_ => (run_load1 rfl rfl Tryd.underlying29 rfl hs_.2.1)) s3h1 (fun a3h2 s3h4 h3h3 => ?_)
  refine WT.tk 13 h3h3 rfl rfl (.int .u32 p0.f3) (fun w_ hs_ => (run_load1 rfl rfl Tryd.underlying29 rfl hs_.2.2.1)) s3h4 (fun a3h5 s3h7 h3h6 => ?_)
  refine WT.tk 14 h3h6 rfl rfl (.bool (decide (p0.f2 < p0.f3))) (fun _ _ => by kernel_rfl) s3h7 (fun a3h8 s3ha h3h9 => ?_)
  refine WT.tk 15 h3h9 rfl rfl (.bool (decide (p0.f2 < p0.f3))) (fun _ _ => by kernel_rfl) s3ha (fun a3hb s3hd h3hc => ?_)
  refine WT.dn ?_
  have hS3he := hS3bw.b1
  have hS3hf := hS3he.b1
  obtain ⟨M3hg, hp3hh, hS3hi⟩ := k61qfo p0 hr37d hS3hf
  clear h3cd a3cc h3gl a3gk h3go a3gn h3gr a3gq h3gu a3gt h3gx a3gw h3h0 a3gz h3h3 a3h2 h3h6 a3h5 h3h9 a3h8
  refine wp_meet (I := fun a_ W_ => ∃ kq_, ∃ (M3ij : Frag), ∃ (x3il : (List Int)), ∃ (A3im : Option Addr), ∃ (c3in : Nat), ∃ (M3io : Frag), Hd a_ 58 [(0, pt g37a), (1, .slice A1 p1.length c1), (5, .slice A3im x3il.length c3in)] ∧ Asd (hpack_Encoder_Put.j0 kq_ x3il p0 p1 = some (r0q, r1q)) ∧ Asd (kq_ ≤ k) ∧ Asd (St b w0 W_ R (M3ij :: M3io :: Fs)) ∧ Asd (Ptr k61 61 b w0 R (pt g37a) p0 M3ij) ∧ Asd (Row (kInt .u8) 5 b w0 R (.slice A3im x3il.length c3in) x3il M3io)) ?_ ?_
  ·by_cases c3iq : p0.f2 < p0.f3
   ·rw [if_pos c3iq] at H
    have hb_ : (decide (p0.f2 < p0.f3)) = true := decide_eq_true c3iq
    try rw [hb_] at h3hc
    clear hb_
    refine wp_then h3hc rfl ?_
    refine WL.start ?_
    refine WL.bl 2 2 h3hc [(27, pt g37a), (26, .slice none 0 0)] (fun a3ir h3is => ?_)
    obtain ⟨g3iu, M3iv, hr3iw, hS3it⟩ := k61qoq hp3hh hS3hi
    refine WL.bl 2 4 h3is [(29, .pointer (some ⟨g37a, 2, none⟩)), (28, pt g37a)] (fun a3ix h3iy => ?_)
    refine WL.oq h3iy rfl ?_
    refine owp_rn (.int .u32 p0.f2) h3iy rfl (run_load1 rfl rfl Tryd.underlying29 rfl (hS3it.cell (i := 2) rfl)) (fun a3iz h3j0 => ?_)
    obtain ⟨r3j2, A3j1, H⟩ := bind1 H
    refine WL.oq h3j0 rfl ?_
    refine owp_call [.slice none 0 0, i6 5, .int .u8 32, .int .u32 p0.f2] h3j0 rfl (by kernel_rfl) rfl Tryd.func27 (by kernel_rfl) rfl (by kernel_rfl) (prefix_Put.calls k (Rds.nil (dk := (kInt .u8)) (R := R)) A3j1 hS3it) (fun e3j4 W3j3 hp3j5 => ?_)
    obtain ⟨v3j8, M3j9, rfl, hr3ja, hS3jb⟩ := hp3j5
    refine ⟨_, rfl, fun a3j6 h3j7 => ?_⟩
    obtain ⟨A3jc, c3jd, rfl⟩ := hr3ja.form
    refine WL.bl 1 7 h3j7 [(5, .slice A3jc r3j2.length c3jd)] (fun a3je h3jf => ?_)
    refine WL.dn ?_
    have hS3jg := hS3jb.b2
    have hS3jh := hS3jg.b2
    obtain ⟨M3ji, hp3jj, hS3jk⟩ := k61qfo p0 hr3iw hS3jh
    exact ⟨k, M3ji, r3j2, A3jc, c3jd, M3j9, h3jf.keep ⟨rfl, rfl, rfl, trivial⟩, ⟨H⟩, ⟨by omega⟩, ⟨hS3jk⟩, ⟨hp3jj⟩, ⟨hr3ja⟩⟩
   ·rw [if_neg c3iq] at H
    have hb_ : (decide (p0.f2 < p0.f3)) = false := decide_eq_false c3iq
    try rw [hb_] at h3hc
    clear hb_
    refine wp_else h3hc rfl ?_
    refine wp_skip ?_
    have hS3jl := hS3hi.nil_
    have hS3jm := hS3jl.b1
    exact ⟨k, M3hg, ([] : List Int), none, 0, ([] : Frag), h3hc.keep ⟨rfl, rfl, rfl, trivial⟩, ⟨H⟩, ⟨by omega⟩, ⟨hS3jm⟩, ⟨hp3hh⟩, ⟨Row.nil⟩⟩
  ·clear H hS3hi
   rintro a3if W3ig ⟨kk3ii, M3ij, x3il, A3im, c3in, M3io, h3ie, ⟨H⟩, ⟨hkkk3ii⟩, ⟨hS3ih⟩, ⟨hr3ik⟩, ⟨hr3ip⟩⟩
   obtain _ | kk3jn := kk3ii
   ·exact absurd H (by simp [hpack_Encoder_Put.j0])
   simp only [hpack_Encoder_Put.j0] at H
   refine wp_seq ?_
   refine wp_seq ?_
   refine WL.start ?_
   refine WL.bl 1 1 h3ie [(32, pt g37a)] (fun a3jo h3jp => ?_)
   obtain ⟨g3jr, M3js, hr3jt, hS3jq⟩ := k61qoq hr3ik hS3ih
   refine WL.bl 2 3 h3jp [(34, .pointer (some ⟨g37a, 1, none⟩)), (33, pt g37a)] (fun a3ju h3jv => ?_)
   refine WL.oq h3jv rfl ?_
   refine owp_rn (.bool p0.f1) h3jv rfl (run_load1 rfl rfl Tryd.underlying4 rfl (hS3jq.cell (i := 1) rfl)) (fun a3jw h3jx => ?_)
   refine WL.bl 1 5 h3jx [(36, .bool (!p0.f1))] (fun a3jy h3jz => ?_)
   refine WL.dn ?_
   have hS3k0 := hS3jq.b1
   have hS3k1 := hS3k0.b1
   obtain ⟨M3k2, hp3k3, hS3k4⟩ := k61qfo p0 hr3jt hS3k1
   clear h3ie a3if h3jp a3jo h3jv a3ju h3jx a3jw
   refine wp_meet (I := fun a_ W_ => ∃ kq_, ∃ (M3l7 : Frag), ∃ (x3l9 : (List Int)), ∃ (A3la : Option Addr), ∃ (c3lb : Nat), ∃ (M3lc : Frag), Hd a_ 58 [(0, pt g37a), (1, .slice A1 p1.length c1), (5, .slice A3la x3l9.length c3lb)] ∧ Asd (hpack_Encoder_Put.j1 kq_ x3l9 p0 p1 = some (r0q, r1q)) ∧ Asd (kq_ ≤ kk3jn) ∧ Asd (St b w0 W_ R (M3l7 :: M3lc :: Fs)) ∧ Asd (Ptr k61 61 b w0 R (pt g37a) p0 M3l7) ∧ Asd (Row (kInt .u8) 5 b w0 R (.slice A3la x3l9.length c3lb) x3l9 M3lc)) ?_ ?_
   ·by_cases c3le : p0.f1 = true
    ·rw [if_pos c3le] at H
     have hb_ : p0.f1 = true := c3le
     try rw [hb_] at h3jz
     clear hb_
     refine wp_else h3jz rfl ?_
     refine wp_skip ?_
     exact ⟨kk3jn, M3k2, x3il, A3im, c3in, M3io, h3jz.keep ⟨rfl, rfl, rfl, trivial⟩, ⟨H⟩, ⟨by omega⟩, ⟨hS3k4⟩, ⟨hp3k3⟩, ⟨hr3ip⟩⟩
    ·rw [if_neg c3le] at H
     have hb_ : p0.f1 = false := (Bool.eq_false_iff.2 c3le)
     try rw [hb_] at h3jz
     clear hb_
     refine wp_then h3jz rfl ?_
     refine WL.start ?_
     refine WL.bl 2 2 h3jz [(38, pt g37a), (37, .slice A3im x3il.length c3in)] (fun a3lf h3lg => ?_)
     obtain ⟨g3li, M3lj, hr3lk, hS3lh⟩ := k61qoq hp3k3 hS3k4
     refine WL.bl 2 4 h3lg [(40, .pointer (some ⟨g37a, 3, none⟩)), (39, pt g37a)] (fun a3ll h3lm => ?_)
     refine WL.oq h3lm rfl ?_
     refine owp_rn (.int .u32 p0.f3) h3lm rfl (run_load1 rfl rfl Tryd.underlying29 rfl (hS3lh.cell (i := 3) rfl)) (fun a3ln h3lo => ?_)
     have hS3lp := hS3lh.b2
     obtain ⟨r3lr, A3lq, H⟩ := bind1 H
     refine WL.oq h3lo rfl ?_
     refine owp_call [.slice A3im x3il.length c3in, i6 5, .int .u8 32, .int .u32 p0.f3] h3lo rfl (by kernel_rfl) rfl Tryd.func27 (by kernel_rfl) rfl (by kernel_rfl) (prefix_Put.calls kk3jn hr3ip.rds A3lq (hS3lp.pool)) (fun e3lt W3ls hp3lu => ?_)
     obtain ⟨v3lx, M3ly, rfl, hr3lz, hS3m0⟩ := hp3lu
     have hS3m1 : St b w0 W3ls R (M3io :: M3ly :: (bx g37a 61 [(pt g3li), .bool p0.f1, .int .u32 p0.f2, .int .u32 p0.f3]) :: M3lj :: Fs) := hS3m0.unpool
     replace hr3lz : Row (kInt .u8) 5 b w0 R v3lx r3lr M3ly := hr3lz.ind (kInt_ind _)
     refine ⟨_, rfl, fun a3lv h3lw => ?_⟩
     obtain ⟨A3m2, c3m3, rfl⟩ := hr3lz.form
     refine WL.bl 1 7 h3lw [(5, .slice A3m2 r3lr.length c3m3)] (fun a3m4 h3m5 => ?_)
     refine WL.dn ?_
     have hS3m6 := hS3m1.b3
     have hS3m7 := hS3m6.b3
     obtain ⟨M3m8, hp3m9, hS3ma⟩ := k61qfo p0 hr3lk hS3m7
     have hS3mb := hS3ma.b1
     have hS3mc := hS3mb.drop_
     exact ⟨kk3jn, M3m8, r3lr, A3m2, c3m3, M3ly, h3m5.keep ⟨rfl, rfl, rfl, trivial⟩, ⟨H⟩, ⟨by omega⟩, ⟨hS3mc⟩, ⟨hp3m9⟩, ⟨hr3lz⟩⟩
   ·clear H hS3k4
    rintro a3l3 W3l4 ⟨kk3l6, M3l7, x3l9, A3la, c3lb, M3lc, h3l2, ⟨H⟩, ⟨hkkk3l6⟩, ⟨hS3l5⟩, ⟨hr3l8⟩, ⟨hr3ld⟩⟩
    obtain _ | kk3md := kk3l6
    ·exact absurd H (by simp [hpack_Encoder_Put.j1])
    simp only [hpack_Encoder_Put.j1] at H
    refine wp_seq ?_
    refine WL.start ?_
    refine WL.bl 1 1 h3l2 [(43, pt g37a)] (fun a3me h3mf => ?_)
    obtain ⟨g3mh, M3mi, hr3mj, hS3mg⟩ := k61qoq hr3l8 hS3l5
    refine WL.bl 2 3 h3mf [(45, .pointer (some ⟨g37a, 1, none⟩)), (44, pt g37a)] (fun a3mk h3ml => ?_)
    refine WL.oq h3ml rfl ?_
    refine owp_st 1 [.bool true] h3ml rfl rfl rfl hS3mg [(pt g3mh), .bool true, .int .u32 p0.f2, .int .u32 p0.f3] (fun a3mm W3mo h3mn hS3mp => ?_)
    refine WL.dn ?_
    refine wp_seq ?_
    refine wp_seq ?_
    refine WL.start ?_
    refine WL.bl 3 3 h3mn [(48, i6 0), (47, i6 (p1.length : Int)), (46, .slice A1 p1.length c1)] (fun a3mq h3mr => ?_)
    refine WL.dn ?_
    refine wp_block ?_
    have hS3ms := hS3mp.b1
    have hS3mt := hS3ms.b1
    obtain ⟨M3mu, hp3mv, hS3mw⟩ := k61qfo (⟨p0.f0, true, p0.f2, p0.f3⟩ : S61) hr3mj hS3mt
    clear h3l2 a3l3 h3mf a3me h3ml a3mk h3mn a3mm
    refine wp_loop_ghost (fun kq_ a_ W_ => ∃ (x3n2 : S61), ∃ (M3n3 : Frag), ∃ (x3n5 : (List Int)), ∃ (A3n6 : Option Addr), ∃ (c3n7 : Nat), ∃ (M3n8 : Frag), ∃ (x3na : Int), Hd a_ 58 [(0, pt g37a), (5, .slice A3n6 x3n5.length c3n7), (46, .slice A1 p1.length c1), (47, i6 (p1.length : Int)), (48, i6 x3na)] ∧ Asd (hpack_Encoder_Put.l2 kq_ x3n2 x3n5 x3na p1 = some (r0q, r1q)) ∧ Asd (kq_ ≤ kk3md) ∧ Asd (St b w0 W_ R (M3n3 :: M3n8 :: Fs)) ∧ Asd (Ptr k61 61 b w0 R (pt g37a) x3n2 M3n3) ∧ Asd (Row (kInt .u8) 5 b w0 R (.slice A3n6 x3n5.length c3n7) x3n5 M3n8)) kk3md ⟨(⟨p0.f0, true, p0.f2, p0.f3⟩ : S61), M3mu, x3l9, A3la, c3lb, M3lc, 0, h3mr.keep ⟨rfl, rfl, rfl, rfl, rfl, trivial⟩, ⟨H⟩, ⟨Nat.le_refl _⟩, ⟨hS3mw⟩, ⟨hp3mv⟩, ⟨hr3ld⟩⟩ ?_
    clear H hS3mw
    rintro kk3n1 a3my W3mz ⟨x3n2, M3n3, x3n5, A3n6, c3n7, M3n8, x3na, h3mx, ⟨H⟩, ⟨hkkk3n1⟩, ⟨hS3n0⟩, ⟨hr3n4⟩, ⟨hr3n9⟩⟩
    obtain _ | kk3nb := kk3n1
    ·exact absurd H (by simp [hpack_Encoder_Put.l2])
    simp only [hpack_Encoder_Put.l2] at H
    refine wp_seq ?_
    refine WL.start ?_
    refine WL.bl 1 1 h3mx [(49, .bool (decide (x3na < (p1.length : Int))))] (fun a3nc h3nd => ?_)
    refine WL.dn ?_
    refine wp_seq ?_
    clear h3mx a3my
    by_cases c3ne : x3na < (p1.length : Int)
    ·rw [if_pos c3ne] at H
     have hb_ : (decide (x3na < (p1.length : Int))) = true := decide_eq_true c3ne
     try rw [hb_] at h3nd
     clear hb_
     refine wp_then h3nd rfl ?_
     refine wp_skip ?_
     refine wp_seq ?_
     refine wp_block ?_
     refine wp_seq ?_
     refine WL.start ?_
     by_cases c3nf : 0 ≤ x3na
     ·rw [if_pos c3nf] at H
      have hi3ni : 0 ≤ x3na := by first | assumption | omega
      have hi3nj : x3na < (p1.length : Int) := by first | assumption | omega
      obtain ⟨ad3ng, _, ha3nh, -, -⟩ := Rds.elemAny hp1 hi3ni (gt_get (z := z52) hi3ni hi3nj)
      refine WL.oq h3nd rfl ?_
      refine owp_rn (.pointer (some (ad3ng.add (x3na.toNat * 3)))) h3nd rfl (run_idx (ad := ad3ng) (sz := 3) rfl (by rw [← ha3nh]; rfl) rfl Tryd.underlying23 (by kernel_rfl) hi3ni hi3nj) (fun a3nk h3nl => ?_)
      obtain ⟨ad3nm, cs3nn, ha3no, hr3nq, hc3np⟩ := Rds.elemAny hp1 hi3ni (gt_get (z := z52) hi3ni hi3nj)
      rw [ha3nh] at ha3no; obtain rfl := Option.some.inj ha3no
      obtain rfl := k52qrd hr3nq
      refine WL.oq h3nl rfl ?_
      refine owp_rn (.agg #[.string (mkS ((gt z52 p1 x3na).f0)), .string (mkS ((gt z52 p1 x3na).f1)), .bool ((gt z52 p1 x3na).f2)]) h3nl rfl (run_loadN rfl rfl Tryd.underlying52 rfl (cs := [.string (mkS ((gt z52 p1 x3na).f0)), .string (mkS ((gt z52 p1 x3na).f1)), .bool ((gt z52 p1 x3na).f2)]) (by kernel_rfl) (hc3np _ (fun _ _ hk_ => hS3n0.kn hk_))) (fun a3nr h3ns => ?_)
      refine WL.oq h3ns rfl ?_
      refine owp_nw (fun g_ => (pt g_)) (.cells ([.string (mkS []), .string (mkS []), .bool false] : List Value).toArray 52 (0, 0)) h3ns rfl hS3n0 (fun a3nt W3nv g3nw h3nu hS3nx => ?_)
      refine WL.oq h3nu rfl ?_
      refine owp_st 0 [.string (mkS ((gt z52 p1 x3na).f0)), .string (mkS ((gt z52 p1 x3na).f1)), .bool ((gt z52 p1 x3na).f2)] h3nu rfl rfl rfl hS3nx [.string (mkS ((gt z52 p1 x3na).f0)), .string (mkS ((gt z52 p1 x3na).f1)), .bool ((gt z52 p1 x3na).f2)] (fun a3ny W3o0 h3nz hS3o1 => ?_)
      refine WL.dn ?_
      refine WL.start ?_
      refine WL.bl 2 2 h3nz [(53, .slice A3n6 x3n5.length c3n7), (52, pt g37a)] (fun a3o2 h3o3 => ?_)
      refine WL.oq h3o3 rfl ?_
      refine owp_rn (.agg #[.string (mkS ((gt z52 p1 x3na).f0)), .string (mkS ((gt z52 p1 x3na).f1)), .bool ((gt z52 p1 x3na).f2)]) h3o3 rfl (run_loadN rfl rfl Tryd.underlying52 rfl (cs := [.string (mkS ((gt z52 p1 x3na).f0)), .string (mkS ((gt z52 p1 x3na).f1)), .bool ((gt z52 p1 x3na).f2)]) (by kernel_rfl) (hS3o1.cells (vs := [.string (mkS ((gt z52 p1 x3na).f0)), .string (mkS ((gt z52 p1 x3na).f1)), .bool ((gt z52 p1 x3na).f2)]) rfl)) (fun a3o4 h3o5 => ?_)
      have hS3o6 := hS3o1.b1
      have hS3o7 := hS3o6.b2
      obtain ⟨r3o9, r3oa, A3o8, H⟩ := bind2 H
      refine WL.oq h3o5 rfl ?_
      refine owp_call [(pt g37a), .slice A3n6 x3n5.length c3n7, .agg #[.string (mkS ((gt z52 p1 x3na).f0)), .string (mkS ((gt z52 p1 x3na).f1)), .bool ((gt z52 p1 x3na).f2)]] h3o5 rfl (by kernel_rfl) rfl Tryd.func28 (by kernel_rfl) rfl (by kernel_rfl) (hpack_Encoder_field.calls (p2 := (⟨(gt z52 p1 x3na).f0, (gt z52 p1 x3na).f1, (gt z52 p1 x3na).f2⟩ : S52)) kk3nb (hr3n4.mono (fun _ hp_ => List.mem_append_right _ hp_)) hr3n9.rds hg0 hg1 A3o8 (hS3o7.pool)) (fun e3oc W3ob hp3od => ?_)
      obtain ⟨v3og, M3oh, M3oj, rfl, hr3oi, hr3ok, hS3ol⟩ := hp3od
      have hS3om : St b w0 W3ob R (M3n8 :: M3oh :: M3oj :: (bx g3nw 52 [.string (mkS ((gt z52 p1 x3na).f0)), .string (mkS ((gt z52 p1 x3na).f1)), .bool ((gt z52 p1 x3na).f2)]) :: Fs) := hS3ol.unpool
      replace hr3oi : Row (kInt .u8) 5 b w0 R v3og r3o9 M3oh := hr3oi.ind (kInt_ind _)
      replace hr3ok : Ptr k61 61 b w0 R (pt g37a) r3oa M3oj := hr3ok.ind k61qind
      refine ⟨_, rfl, fun a3oe h3of => ?_⟩
      obtain ⟨A3on, c3oo, rfl⟩ := hr3oi.form
      refine WL.bl 1 5 h3of [(5, .slice A3on r3o9.length c3oo)] (fun a3op h3oq => ?_)
      refine WL.dn ?_
      refine WL.start ?_
      refine WL.bl 2 2 h3oq [(48, i6 (IntKind.i64.wrap (x3na + 1))), (56, i6 (IntKind.i64.wrap (x3na + 1)))] (fun a3or h3os => ?_)
      refine WL.dn ?_
      have hS3ot := hS3om.drop_
      have hS3ou := hS3ot.b2
      have hS3ov := hS3ou.drop_
      have hS3ow := hS3ov.b1
      exact ⟨kk3nb, by omega, r3oa, M3oj, r3o9, A3on, c3oo, M3oh, IntKind.i64.wrap (x3na + 1), h3os.keep ⟨rfl, rfl, rfl, rfl, rfl, trivial⟩, ⟨H⟩, ⟨by omega⟩, ⟨hS3ow⟩, ⟨hr3ok⟩, ⟨hr3oi⟩⟩
     ·rw [if_neg c3nf] at H
      cases H
    ·rw [if_neg c3ne] at H
     have hb_ : (decide (x3na < (p1.length : Int))) = false := decide_eq_false c3ne
     try rw [hb_] at h3nd
     clear hb_
     refine wp_else h3nd rfl ?_
     refine wp_exit ?_
     refine wp_seq ?_
     refine WL.start ?_
     refine WL.bl 2 2 h3nd [(4, .slice A3n6 x3n5.length c3n7), (57, .slice A3n6 x3n5.length c3n7)] (fun a3ox h3oy => ?_)
     refine WL.dn ?_
     refine wp_ret ?_
     have hS3oz := hS3n0.b1
     obtain ⟨rfl, rfl⟩ := ret2 H
     repeat (first | with_reducible refine t1 ?_ | with_reducible refine t2 ?_ | with_reducible refine t3 ?_)
     refine bret (.slice A3n6 x3n5.length c3n7) h3oy ?_
     exact ⟨.slice A3n6 x3n5.length c3n7, M3n8, M3n3, rfl, hr3n9, hr3n4, hS3oz⟩

/-! ### (*louver/hpack.Encoder).Put -/
def hpack_Encoder_Put_nil.f (p1 : (List S52)) : Option ((List Int)) := some ([] : List Int)
set_option maxHeartbeats 20000000 in
set_option maxRecDepth 100000 in
theorem hpack_Encoder_Put_nil.calls {b : Nat} {w0 W : World} {R : Frag} {Fs : List Frag} {p1 : (List S52)} {v1 : Value} {r0q : (List Int)} (hp1 : Rds k52 b w0 R v1 p1) (hg0 : Rds k52 b w0 [] (.slice (some ⟨0, 0, none⟩) 61 61) G0) (hg1 : Rds (kInt .u8) b w0 [] (.slice (some ⟨1, 0, none⟩) 257 257) G1) (H : hpack_Encoder_Put_nil.f p1 = some r0q) (hS : St b w0 W R (Fs)) :
  Calls Tryd.prog 13 ([.pointer none, v1] : List Value).toArray W (fun e W' => ∃ (u0q : Value) (N0q : Frag), e = .returned (u0q) ∧ Row (kInt .u8) 5 b w0 R u0q r0q N0q ∧ St b w0 W' R (N0q :: Fs)) := by
 obtain ⟨A1, c1, rfl⟩ := hp1.form
 unfold hpack_Encoder_Put_nil.f at H
 refine calls_enter Tryd.func13 rfl 58 rfl (by kernel_rfl) (fun a h => ?_)
 refine wp_seq ?_
 refine WL.start ?_
 refine WL.bl 1 1 h [(4, .slice none 0 0)] (fun a106 h107 => ?_)
 refine WL.dn ?_
 refine wp_seq ?_
 refine wp_seq ?_
 refine WL.start ?_
 refine WL.bl 2 2 h107 [(9, .bool true), (8, .pointer none)] (fun a108 h109 => ?_)
 refine WL.dn ?_
 refine wp_then h109 rfl ?_
 refine wp_seq ?_
 refine WL.start ?_
 refine WL.bl 1 1 h109 [(4, .slice none 0 0)] (fun a10a h10b => ?_)
 refine WL.dn ?_
 refine wp_ret ?_
 obtain rfl := Option.some.inj H
 repeat (first | with_reducible refine t1 ?_ | with_reducible refine t2 ?_ | with_reducible refine t3 ?_)
 refine bret (.slice none 0 0) h10b ?_
 exact ⟨.slice none 0 0, [], rfl, Row.nil, hS.nil_⟩

/-! ### louver/louverlaw06.fixed -/
def louverlaw06qfixed.f (k : Nat)  : Option (Bool) := bnd1 (hpack_NewEncoder.f 4096) fun r11l => (bnd2 (hpack_Encoder_Put.f k r11l ([(⟨([58, 109, 101, 116, 104, 111, 100] : List UInt8), ([71, 69, 84] : List UInt8), false⟩ : S52)] : List S52)) fun r12a r12b => (some (decide ((toS r12a) = ([130] : List UInt8)))))
set_option maxHeartbeats 20000000 in
set_option maxRecDepth 100000 in
theorem louverlaw06qfixed.calls (k : Nat) {b : Nat} {w0 W : World} {R : Frag} {Fs : List Frag}   {r0q : Bool} (hg0 : Rds k52 b w0 [] (.slice (some ⟨0, 0, none⟩) 61 61) G0) (hg1 : Rds (kInt .u8) b w0 [] (.slice (some ⟨1, 0, none⟩) 257 257) G1) (H : louverlaw06qfixed.f k = some r0q) (hS : St b w0 W R (Fs)) :
  Calls Tryd.prog 10 ([] : List Value).toArray W (fun e W' => e = .returned (.bool r0q) ∧ St b w0 W' R (Fs)) := by
 unfold louverlaw06qfixed.f at H
 refine calls_enter Tryd.func10 rfl 9 rfl (by kernel_rfl) (fun a h => ?_)
 refine wp_seq ?_
 refine WL.start ?_
 refine WL.bl 1 1 h [(0, .bool false)] (fun a11i h11j => ?_)
 refine WL.dn ?_
 refine wp_seq ?_
 refine WL.start ?_
 obtain ⟨r11l, A11k, H⟩ := bind1 H
 refine WL.oq h11j rfl ?_
 refine owp_call [.int .u32 4096] h11j rfl (by kernel_rfl) rfl Tryd.func17 (by kernel_rfl) rfl (by kernel_rfl) (hpack_NewEncoder.calls  A11k hS) (fun e11n W11m hp11o => ?_)
 obtain ⟨v11r, M11s, rfl, hr11t, hS11u⟩ := hp11o
 refine ⟨_, rfl, fun a11p h11q => ?_⟩
 obtain ⟨g11v, rfl⟩ := hr11t.ptr_form
 refine WL.bl 1 2 h11q [(1, pt g11v)] (fun a11w h11x => ?_)
 refine WL.dn ?_
 refine wp_seq ?_
 refine WL.start ?_
 refine WL.bl 2 2 h11x [(4, .agg #[.string (mkS [58, 109, 101, 116, 104, 111, 100]), .string (mkS [71, 69, 84]), .bool false]), (3, pt g11v)] (fun a11y h11z => ?_)
 obtain ⟨_, hrep_, hMe_⟩ := k52qmk (b := b) (w0 := w0) (R := R) (x := (⟨([58, 109, 101, 116, 104, 111, 100] : List UInt8), ([71, 69, 84] : List UInt8), false⟩ : S52)) 
 subst hMe_
 have hq120 := hrep_; clear hrep_
 refine WL.oq h11z rfl ?_
 refine owp_nw (fun g_ => .slice (some ⟨g_, 0, none⟩) 1 1) (.cells ([.string (mkS [58, 109, 101, 116, 104, 111, 100]), .string (mkS [71, 69, 84]), .bool false] : List Value).toArray 52 (0, 0)) h11z rfl hS11u (fun a121 W123 g124 h122 hS125 => ?_)
 have hr126 : Row k52 52 b w0 R (.slice (some ⟨g124, 0, none⟩) 1 1) ([(⟨([58, 109, 101, 116, 104, 111, 100] : List UInt8), ([71, 69, 84] : List UInt8), false⟩ : S52)] : List S52) (bx g124 52 [.string (mkS [58, 109, 101, 116, 104, 111, 100]), .string (mkS [71, 69, 84]), .bool false]) := Row.lit (xs := ([(⟨([58, 109, 101, 116, 104, 111, 100] : List UInt8), ([71, 69, 84] : List UInt8), false⟩ : S52)] : List S52)) (Mi := []) ⟨_, _, [], _, rfl, rfl, hq120, ⟨rfl, rfl⟩⟩ (by simp [maxLen])
 have hS127 := hS125.b1
 have hS128 := hS127.b1
 obtain ⟨r12a, r12b, A129, H⟩ := bind2 H
 refine WL.oq h122 rfl ?_
 refine owp_call [(pt g11v), .slice (some ⟨g124, 0, none⟩) 1 1] h122 rfl (by kernel_rfl) rfl Tryd.func13 (by kernel_rfl) rfl (by kernel_rfl) (hpack_Encoder_Put.calls k (hr11t.mono (fun _ hp_ => List.mem_append_right _ hp_)) hr126.rds hg0 hg1 A129 (hS128.pool)) (fun e12d W12c hp12e => ?_)
 obtain ⟨v12h, M12i, M12k, rfl, hr12j, hr12l, hS12m⟩ := hp12e
 have hS12n : St b w0 W12c R ((bx g124 52 [.string (mkS [58, 109, 101, 116, 104, 111, 100]), .string (mkS [71, 69, 84]), .bool false]) :: M12i :: M12k :: Fs) := hS12m.unpool
 replace hr12j : Row (kInt .u8) 5 b w0 R v12h r12a M12i := hr12j.ind (kInt_ind _)
 replace hr12l : Ptr k61 61 b w0 R (pt g11v) r12b M12k := hr12l.ind k61qind
 refine ⟨_, rfl, fun a12f h12g => ?_⟩
 obtain ⟨A12o, c12p, rfl⟩ := hr12j.form
 have hS12q := hS12n.b1
 refine WL.oq h12g rfl ?_
 refine owp_rn (.string (mkS (toS r12a))) h12g rfl (run_tostr rfl rfl hr12j.rds (fun _ _ hk_ => (hS12q).pool.kn hk_) Tryd.underlying22 Tryd.underlying5 Tryd.underlying9) (fun a12r h12s => ?_)
 refine WL.oq h12s rfl ?_
 refine owp_rn (.bool (decide ((toS r12a) = ([130] : List UInt8)))) h12s rfl (run_streq rfl rfl rfl) (fun a12t h12u => ?_)
 refine WL.bl 1 7 h12u [(0, .bool (decide ((toS r12a) = ([130] : List UInt8))))] (fun a12v h12w => ?_)
 refine WL.dn ?_
 refine wp_ret ?_
 have hS12x := hS12q.drop_
 have hS12y := hS12x.drop_
 have hS12z := hS12y.drop_
 obtain rfl := Option.some.inj H
 repeat (first | with_reducible refine t1 ?_ | with_reducible refine t2 ?_ | with_reducible refine t3 ?_)
 refine bret (.bool (decide ((toS r12a) = ([130] : List UInt8)))) h12w ?_
 exact ⟨rfl, hS12z⟩

structure S64 where
 f0 : S79
 f1 : Int
 deriving DecidableEq
def z64 : S64 := ⟨z79, (0 : Int)⟩
def k64 : Kd S64 := kIso (kPair (kPtr k79 79) (kInt .u32)) (fun x : S64 => (x.f0, x.f1))
theorem k64qind : k64.Ind := kIso_ind (kPair_ind (kPtr_ind k79qind) (kInt_ind _))
theorem k64qrep {b : Nat} {w0 : World} {R : Frag} {x : S64} {cs : List Value} {M : Frag} (h : k64.rep b w0 R x cs M) : ∃ (vf0 : Value), ∃ (Mvf0 : Frag), cs = [vf0, .int .u32 x.f1] ∧ M = Mvf0 ∧ Ptr k79 79 b w0 R vf0 x.f0 Mvf0 := by
 obtain ⟨c100, c101, M104, M105, rfl, rfl, h102, h103⟩ := h
 obtain ⟨v106, rfl, g107⟩ := h102
 obtain ⟨rfl, rfl⟩ := h103
 exact ⟨v106, _, rfl, by simp, g107⟩
theorem k64qmk {b : Nat} {w0 : World} {R : Frag} {x : S64} {vf0 : Value} {Mvf0 : Frag} (gvf0 : Ptr k79 79 b w0 R vf0 x.f0 Mvf0) : ∃ M, k64.rep b w0 R x [vf0, .int .u32 x.f1] M ∧ M = Mvf0 := ⟨_, ⟨_, _, _, _, rfl, rfl, ⟨vf0, rfl, gvf0⟩, ⟨rfl, rfl⟩⟩, by simp⟩
theorem k64qop {b : Nat} {w0 W : World} {R : Frag} {Ms : List Frag} {v : Value} {M : Frag} {y0 : S79} {y1 : Int} (h : Ptr k64 64 b w0 R v (⟨y0, y1⟩ : S64) M) (hS : St b w0 W R (M :: Ms)) : ∃ (g : Nat) (g0 : Nat) (M0 : Frag), v = (pt g) ∧ Ptr k79 79 b w0 R (pt g0) y0 M0 ∧ St b w0 W R ((bx g 64 [(pt g0), .int .u32 y1]) :: M0 :: Ms) := by
 obtain ⟨g, cs, Mx, rfl, rfl, hr⟩ := h
 obtain ⟨v0, M0, rfl, hM2q, h0⟩ := k64qrep hr
 rw [hM2q] at hS
 obtain ⟨g0, rfl⟩ := h0.ptr_form
 exact ⟨g, g0, M0, rfl, h0, hS.assoc (by simp only [List.flatten_cons, List.append_assoc, List.cons_append, List.nil_append, List.append_nil])⟩
theorem k64qoq {b : Nat} {w0 W : World} {R : Frag} {Ms : List Frag} {g : Nat} {M : Frag} {y0 : S79} {y1 : Int} (h : Ptr k64 64 b w0 R (pt g) (⟨y0, y1⟩ : S64) M) (hS : St b w0 W R (M :: Ms)) : ∃ (g0 : Nat) (M0 : Frag), Ptr k79 79 b w0 R (pt g0) y0 M0 ∧ St b w0 W R ((bx g 64 [(pt g0), .int .u32 y1]) :: M0 :: Ms) := by
 obtain ⟨g', g0, M0, hv, h0, hS'⟩ := k64qop h hS
 obtain rfl : g = g' := by simpa using hv
 exact ⟨g0, M0, h0, hS'⟩
theorem k64qfo {b : Nat} {w0 W : World} {R : Frag} {Ms : List Frag} {g : Nat} {y0 : S79} {y1 : Int} {g0 : Nat} {M0 : Frag} (x : S64) (h0 : Ptr k79 79 b w0 R (pt g0) y0 M0) (hS : St b w0 W R ((bx g 64 [(pt g0), .int .u32 y1]) :: M0 :: Ms)) (hx : x = (⟨y0, y1⟩ : S64) := by rfl) : ∃ M, Ptr k64 64 b w0 R (pt g) x M ∧ St b w0 W R (M :: Ms) := by
 subst hx
 obtain ⟨M, hr, hM⟩ := k64qmk (b := b) (w0 := w0) (R := R) (x := (⟨y0, y1⟩ : S64)) (gvf0 := h0)
 exact ⟨_, ⟨g, _, M, rfl, rfl, hr⟩, hS.assoc (by rw [hM]; simp only [List.flatten_cons, List.append_assoc, List.cons_append, List.nil_append, List.append_nil])⟩
/-! ### louver/hpack.NewDecoder -/
def hpack_NewDecoder.f (p0 : Int) : Option (S64) := bnd1 (dyntable_New.f (mnI p0 4096)) fun r11b => (some (⟨r11b, mnI p0 4096⟩ : S64))
set_option maxHeartbeats 20000000 in
set_option maxRecDepth 100000 in
theorem hpack_NewDecoder.calls {b : Nat} {w0 W : World} {R : Frag} {Fs : List Frag} {p0 : Int}  {r0q : S64}  (H : hpack_NewDecoder.f p0 = some r0q) (hS : St b w0 W R (Fs)) :
  Calls Tryd.prog 18 ([.int .u32 p0] : List Value).toArray W (fun e W' => ∃ (u0q : Value) (N0q : Frag), e = .returned (u0q) ∧ Ptr k64 64 b w0 R u0q r0q N0q ∧ St b w0 W' R (N0q :: Fs)) := by
 unfold hpack_NewDecoder.f at H
 refine calls_enter Tryd.func18 rfl 10 rfl (by kernel_rfl) (fun a h => ?_)
 refine wp_seq ?_
 refine WL.start ?_
 refine WL.bl 1 1 h [(2, .pointer none)] (fun a114 h115 => ?_)
 refine WL.dn ?_
 refine wp_seq ?_
 refine WL.start ?_
 refine WL.bl 3 3 h115 [(0, .int .u32 (mnI p0 4096)), (4, .int .u32 (mnI p0 4096)), (3, .int .u32 p0)] (fun a116 h117 => ?_)
 refine WL.dn ?_
 refine wp_seq ?_
 refine WL.start ?_
 refine WL.bl 1 1 h117 [(5, .int .u32 (mnI p0 4096))] (fun a118 h119 => ?_)
 obtain ⟨r11b, A11a, H⟩ := bind1 H
 refine WL.oq h119 rfl ?_
 refine owp_call [.int .u32 (mnI p0 4096)] h119 rfl (by kernel_rfl) rfl Tryd.func30 (by kernel_rfl) rfl (by kernel_rfl) (dyntable_New.calls  A11a hS) (fun e11d W11c hp11e => ?_)
 obtain ⟨v11h, M11i, rfl, hr11j, hS11k⟩ := hp11e
 refine ⟨_, rfl, fun a11f h11g => ?_⟩
 obtain ⟨g11l, rfl⟩ := hr11j.ptr_form
 refine WL.bl 2 4 h11g [(8, .agg #[(pt g11l), .int .u32 (mnI p0 4096)]), (7, .int .u32 (mnI p0 4096))] (fun a11m h11n => ?_)
 refine WL.oq h11n rfl ?_
 refine owp_nw (fun g_ => (pt g_)) (.cells ([(pt g11l), .int .u32 (mnI p0 4096)] : List Value).toArray 64 (0, 0)) h11n rfl hS11k (fun a11o W11q g11r h11p hS11s => ?_)
 refine WL.bl 1 6 h11p [(2, pt g11r)] (fun a11t h11u => ?_)
 refine WL.dn ?_
 refine wp_ret ?_
 have hS11v := hS11s.b1
 have hS11w := hS11v.b1
 obtain ⟨M11x, hp11y, hS11z⟩ := k64qfo (⟨r11b, mnI p0 4096⟩ : S64) hr11j hS11w
 obtain rfl := Option.some.inj H
 repeat (first | with_reducible refine t1 ?_ | with_reducible refine t2 ?_ | with_reducible refine t3 ?_)
 refine bret (pt g11r) h11u ?_
 exact ⟨(pt g11r), M11x, rfl, hp11y, hS11z⟩
end Go.Proofs.YtinebjcfgmoniaaDoor.Sl
