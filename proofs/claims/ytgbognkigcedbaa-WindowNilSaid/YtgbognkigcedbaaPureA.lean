/- Chapter 10, plain: windows and meters beside their plain twins. -/
import Derived.Test.YtgbognkigcedbaaCode4
import Derived.Test.YtgbognkigcedbaaSlP
set_option linter.unusedVariables false
set_option linter.unusedSimpArgs false
namespace Go.Proofs.Ytgbognkigcedbaa.Sl
open Go Go.Proofs.Sl

theorem mn_eq (x y : Int) : mnI x y = min x y := by unfold mnI; split <;> omega
theorem mx_eq (x y : Int) : mxI x y = max x y := by unfold mxI; split <;> omega
theorem fixed_true : louverlaw10qfixed.f = some true := by rfl
def ok33 (x : S33) : Prop := okI .i64 x.f0 ∧ okI .i64 x.f1 ∧ okI .u32 x.f2 ∧ okI .u32 x.f3
theorem louverlaw10qWindowNil_true (p0 p1 : Int) (h0 : okI .i64 p0) (h1 : okI .u32 p1) : louverlaw10qWindowNil.f p0 p1 = some true := by rfl
theorem to_f (w : S68) (n : Int) : window_Window_to.f w n = some (if n > 2147483647 then (false, w) else (true, ⟨max n (-2147483648), w.f1⟩)) := by
  unfold window_Window_to.f
  split
  · rfl
  · rw [mx_eq]
theorem shift_f (w : S68) (a c : Int) (hw : -2147483648 ≤ w.f0 ∧ w.f0 ≤ 2147483647) (ha : okI .u32 a) (hc : okI .u32 c) :
    window_Window_Shift.f w a c = some (if w.f0 + c - a > 2147483647 then ((⟨1, 3⟩ : S31), w) else ((⟨0, 0⟩ : S31), (⟨max (w.f0 + c - a) (-2147483648), w.f1⟩ : S68))) := by
  have ha := okI_u32.1 ha
  have hc := okI_u32.1 hc
  unfold window_Window_Shift.f
  rw [wi64 (x := c) (by omega) (by omega), wi64 (x := a) (by omega) (by omega), wi64 (x := w.f0 + c) (by omega) (by omega), wi64 (by omega) (by omega), to_f]
  split <;> simp [bnd2]
theorem grow_f (w : S68) (a : Int) (hw : -2147483648 ≤ w.f0 ∧ w.f0 ≤ 2147483647) (ha : okI .u32 a) :
    window_Window_Grow.f w a = some (if w.f0 + a > 2147483647 then ((⟨if w.f1 = true then 2 else 1, 3⟩ : S31), w) else ((⟨0, 0⟩ : S31), (⟨max (w.f0 + a) (-2147483648), w.f1⟩ : S68))) := by
  have ha := okI_u32.1 ha
  unfold window_Window_Grow.f
  rw [wi64 (x := a) (by omega) (by omega), wi64 (by omega) (by omega), to_f]
  split
  · obtain ⟨x, st⟩ := w
    cases st <;> simp [bnd1, bnd2, window_scope.f]
  · simp [bnd2]
theorem take_f (w : S68) (n : Int) (hw : -2147483648 ≤ w.f0 ∧ w.f0 ≤ 2147483647) (hn : okI .i64 n) :
    window_Window_Take.f w n = some (if n < 0 ∨ n > max w.f0 0 then (false, w) else (true, (⟨w.f0 - n, w.f1⟩ : S68))) := by
  have hn := okI_i64.1 hn
  unfold window_Window_Take.f
  rw [mx_eq]
  by_cases c1 : n < 0
  · rw [if_pos c1, if_pos (.inl c1)]
  rw [if_neg c1]
  by_cases c2 : n > max w.f0 0
  · rw [if_pos c2, if_pos (.inr c2)]
  · rw [if_neg c2, if_neg (by omega), wi64 (by omega) (by omega)]
theorem louverlaw10qWindowShifts_true (p0 p1 p2 : Int) (h0 : okI .i64 p0) (h1 : okI .u32 p1) (h2 : okI .u32 p2) : louverlaw10qWindowShifts.f p0 p1 p2 = some true := by
  have b1 := okI_u32.1 h1
  have b2 := okI_u32.1 h2
  unfold louverlaw10qWindowShifts.f window_New.f
  rw [mn_eq, mx_eq]
  generalize hx : min (max p0 (-2147483648)) 2147483647 = x
  have hxr : -2147483648 ≤ x ∧ x ≤ 2147483647 := by omega
  simp only [bnd1, window_Window_Left.f]
  rw [shift_f ⟨x, true⟩ p1 p2 hxr h1 h2, wi64 (x := p1) (by omega) (by omega), wi64 (x := p2) (by omega) (by omega), wi64 (x := x + p2) (by omega) (by omega), wi64 (x := x + p2 - p1) (by omega) (by omega), fixed_true]
  by_cases c : x + p2 - p1 > 2147483647
  · simp only [if_pos c]
    simp [bnd2, bnd1]
    omega
  · simp only [if_neg c]
    simp only [bnd2]
    rw [shift_f ⟨max (x + p2 - p1) (-2147483648), true⟩ p2 p1 (by simp only; omega) h2 h1]
    by_cases c2 : x + p2 - p1 < -2147483648
    · simp [bnd2, bnd1, c2]
      omega
    · have e : max (x + p2 - p1) (-2147483648) + p1 - p2 = x := by omega
      rw [e, if_neg (show ¬ x > 2147483647 by omega)]
      simp [bnd2, bnd1, c2]
      omega
theorem ofm (size : Int) (st : Bool) (h : okI .u32 size) : window_Of.f size st = some (⟨min size 2147483647, min size 2147483647, 0, 0, st⟩ : S63) := by
  have h := okI_u32.1 h
  unfold window_Of.f
  rw [mn_eq, wi64 (by omega) (by omega)]
structure Mok (m : S63) : Prop where
  a : 0 ≤ m.f0 ∧ m.f0 ≤ 2147483647
  b : 0 ≤ m.f1
  c : 0 ≤ m.f2
  d : 0 ≤ m.f3
  e : m.f1 + m.f2 + m.f3 = m.f0
  f : m.f3 = 0 ∨ 2 * m.f3 < m.f0
theorem come_f (m : S63) (n : Int) (hm : Mok m) (hn : okI .i64 n) :
    window_Meter_Come.f m n = some (if max n 0 > m.f1 then ((⟨if m.f4 = true then 2 else 1, 3⟩ : S31), m) else ((⟨0, 0⟩ : S31), (⟨m.f0, m.f1 - max n 0, m.f2 + max n 0, m.f3, m.f4⟩ : S63))) := by
  obtain ⟨a, b, c, d, e, f⟩ := hm
  have hn := okI_i64.1 hn
  unfold window_Meter_Come.f
  rw [mx_eq]
  split
  · obtain ⟨x1, x2, x3, x4, st⟩ := m
    cases st <;> simp [bnd1, window_scope.f]
  · rw [wi64 (by omega) (by omega), wi64 (by omega) (by omega)]
theorem come_ok (m : S63) (n : Int) (hm : Mok m) (hn : ¬ max n 0 > m.f1) : Mok (⟨m.f0, m.f1 - max n 0, m.f2 + max n 0, m.f3, m.f4⟩ : S63) := by
  obtain ⟨a, b, c, d, e, f⟩ := hm
  constructor <;> simp only <;> omega
def used (m : S63) (n : Int) : Int × S63 :=
  if m.f3 + min (max n 0) m.f2 = 0 ∨ 2 * (m.f3 + min (max n 0) m.f2) < m.f0 then (0, ⟨m.f0, m.f1, m.f2 - min (max n 0) m.f2, m.f3 + min (max n 0) m.f2, m.f4⟩)
  else (m.f3 + min (max n 0) m.f2, ⟨m.f0, m.f1 + (m.f3 + min (max n 0) m.f2), m.f2 - min (max n 0) m.f2, 0, m.f4⟩)
theorem use_f (m : S63) (n : Int) (hm : Mok m) (hn : okI .i64 n) : window_Meter_Use.f m n = some (used m n) := by
  obtain ⟨a, b, c, d, e, f⟩ := hm
  have hn := okI_i64.1 hn
  unfold window_Meter_Use.f used
  rw [mx_eq, mn_eq]
  generalize hk : min (max n 0) m.f2 = q
  have hq : 0 ≤ q ∧ q ≤ m.f2 := by omega
  rw [wi64 (x := m.f3 + q) (by omega) (by omega), wi64 (x := m.f2 - q) (by omega) (by omega), wi64 (x := m.f0 + 1) (by omega) (by omega), Int.tdiv_eq_ediv_of_nonneg (by omega), wi64 (x := (m.f0 + 1) / 2) (by omega) (by omega), wi64 (x := m.f1 + (m.f3 + q)) (by omega) (by omega), wu32 (by omega) (by omega)]
  by_cases c1 : m.f3 + q = 0
  · rw [if_pos c1, if_pos (.inl c1)]
  rw [if_neg c1]
  by_cases c2 : m.f3 + q < (m.f0 + 1) / 2
  · rw [if_pos c2, if_pos (.inr (by omega))]
  · rw [if_neg c2, if_neg (by omega)]
theorem used_ok (m : S63) (n : Int) (hm : Mok m) : Mok (used m n).2 ∧ 0 ≤ (used m n).1 ∧ (used m n).1 ≤ 2147483647 := by
  obtain ⟨a, b, c, d, e, f⟩ := hm
  unfold used
  generalize hk : min (max n 0) m.f2 = q
  have hq : 0 ≤ q ∧ q ≤ m.f2 := by omega
  split
  · refine ⟨?_, by simp, by simp⟩
    constructor <;> simp only <;> omega
  · refine ⟨?_, by simp only; omega, by simp only; omega⟩
    constructor <;> simp only <;> omega
theorem op_ok {p : List S33} {i : Int} (h : okL 24 ok33 p) (h0 : 0 ≤ i) (h1 : i < (p.length : Int)) : ok33 (gt z33 p i) := by
  have := gt_get (z := z33) h0 h1
  exact h.2 _ (List.mem_of_getElem? this)
end Go.Proofs.Ytgbognkigcedbaa.Sl
