/- Chapter 10, plain: the laws that loop. -/
import Derived.Test.YtgbognkigcedbaaPureA
set_option linter.unusedVariables false
set_option linter.unusedSimpArgs false
namespace Go.Proofs.Ytgbognkigcedbaa.Sl
open Go Go.Proofs.Sl

theorem whole_l0 (p1 : List Int) (whole : Int) (hp : okL 2 (okI .u16) p1) : ∀ (n k i : Nat) (m : S63), Mok m → m.f2 = 0 → m.f0 = whole → i + n = p1.length → louverlaw10qWindowWhole.l0 (k + n + 1) m i p1 whole = some true := by
  intro n
  induction n with
  | zero =>
    intro k i m hm h2 h0 hi
    rw [louverlaw10qWindowWhole.l0, if_neg (by omega), fixed_true]
    rfl
  | succ n ih =>
    intro k i m hm h2 h0 hi
    have hl : p1.length * 2 ≤ 140737488351232 := hp.1
    rw [show k + (n + 1) + 1 = (k + n + 1) + 1 by omega, louverlaw10qWindowWhole.l0, if_pos (by omega), if_pos (by omega)]
    have hg := gt_get (z := (0 : Int)) (xs := p1) (i := (i : Int)) (by omega) (by omega)
    have hu := okI_u16.1 (hp.2 _ (List.mem_of_getElem? hg))
    generalize gt (0 : Int) p1 (i : Int) = u at hu
    have hw : IntKind.i64.wrap u = u := wi64 (by omega) (by omega)
    have hui : okI .i64 u := okI_i64.2 (by omega)
    rw [hw, come_f m u hm hui]
    have e1 : IntKind.i64.wrap ((i : Int) + 1) = ((i + 1 : Nat) : Int) := by rw [wi64 (by omega) (by omega)]; omega
    rw [e1]
    by_cases c : max u 0 > m.f1
    · rw [if_pos c]
      simp only [bnd2]
      rw [if_neg (by simp)]
      exact ih k (i + 1) m hm h2 h0 (by omega)
    · rw [if_neg c]
      have hm' := come_ok m u hm c
      simp only [bnd2]
      rw [if_pos (by simp), use_f _ u hm' hui]
      have ho := used_ok _ u hm'
      generalize hus : used (⟨m.f0, m.f1 - max u 0, m.f2 + max u 0, m.f3, m.f4⟩ : S63) u = us at ho
      obtain ⟨t, m2⟩ := us
      have hf2 : m2.f2 = 0 ∧ m2.f0 = m.f0 := by
        unfold used at hus
        simp only at hus
        split at hus <;> cases hus <;> refine ⟨?_, ?_⟩ <;> dsimp only <;> omega
      dsimp only at ho
      obtain ⟨a, b, c', d, e, f⟩ := ho.1
      simp only [window_Meter_Owed.f, window_Meter_Left.f, bnd1]
      rw [if_pos hf2.1, wi64 (x := whole - m2.f1) (by omega) (by omega), Int.tdiv_eq_ediv_of_nonneg (by omega), wi64 (x := whole / 2) (by omega) (by omega), if_neg (by omega)]
      exact ih k (i + 1) m2 ho.1 hf2.1 (by omega) (by omega)
theorem louverlaw10qWindowWhole_true (p0 : Int) (p1 : List Int) (h0 : okI .u32 p0) (h1 : okL 2 (okI .u16) p1) : ∃ k, louverlaw10qWindowWhole.f k p0 p1 = some true := by
  refine ⟨p1.length + 1, ?_⟩
  unfold louverlaw10qWindowWhole.f
  rw [fixed_true]
  by_cases c : (p1.length : Int) > 2000
  · rw [if_pos c]
    rfl
  rw [if_neg c, ofm p0 false h0]
  simp only [bnd1, window_Meter_Left.f]
  have hb := okI_u32.1 h0
  have := whole_l0 p1 (min p0 2147483647) h1 p1.length 0 0 ⟨min p0 2147483647, min p0 2147483647, 0, 0, false⟩ ⟨by dsimp only; omega, by dsimp only; omega, by dsimp only; omega, by dsimp only; omega, by dsimp only; omega, by dsimp only; omega⟩ rfl rfl (by omega)
  simpa using this
theorem ends_l0 (p1 : List S33) (hp : okL 24 ok33 p1) : ∀ (n k i : Nat) (w : S68) (m : S63), Mok m → w.f0 = m.f1 → i + n = p1.length → louverlaw10qWindowEnds.l0 (k + n + 1) w m i p1 = some true := by
  intro n
  induction n with
  | zero =>
    intro k i w m hm hw hi
    rw [louverlaw10qWindowEnds.l0, if_neg (by omega), fixed_true]
    rfl
  | succ n ih =>
    intro k i w m hm hw hi
    have hl : p1.length * 24 ≤ 140737488351232 := hp.1
    rw [show k + (n + 1) + 1 = (k + n + 1) + 1 by omega, louverlaw10qWindowEnds.l0, if_pos (by omega), if_pos (by omega)]
    have ho := op_ok hp (i := (i : Int)) (by omega) (by omega)
    generalize gt z33 p1 (i : Int) = o at ho
    obtain ⟨a, b, c, d, e, f⟩ := id hm
    have e1 : IntKind.i64.wrap ((i : Int) + 1) = ((i + 1 : Nat) : Int) := by rw [wi64 (by omega) (by omega)]; omega
    rw [e1]
    by_cases ck : o.f0 = 0
    · rw [if_pos ck, take_f w o.f1 (by omega) ho.2.1]
      by_cases ct : o.f1 < 0 ∨ o.f1 > max w.f0 0
      · rw [if_pos ct]
        simp only [bnd2]
        rw [if_neg (by simp)]
        exact ih k (i + 1) w m hm hw (by omega)
      · rw [if_neg ct, come_f m o.f1 hm ho.2.1, if_neg (by omega)]
        have hc := come_ok m o.f1 hm (by omega)
        simp only [bnd2]
        rw [if_pos trivial, if_pos (by simp)]
        simp only [window_Window_Left.f, window_Meter_Left.f, bnd1]
        rw [if_pos (by omega)]
        exact ih k (i + 1) _ _ hc (by simp only; omega) (by omega)
    · rw [if_neg ck, use_f m o.f1 hm ho.2.1]
      have hu := used_ok m o.f1 hm
      have hv : (used m o.f1).2.f1 = m.f1 + (used m o.f1).1 := by
        unfold used
        split <;> simp
      generalize used m o.f1 = us at hu hv
      obtain ⟨t, m2⟩ := us
      simp only at hu hv
      obtain ⟨a', b', c', d', e', f'⟩ := id hu.1
      simp only [bnd2]
      by_cases ct : t > 0
      · rw [if_pos ct, grow_f w t (by omega) (okI_u32.2 (by omega)), if_neg (by omega)]
        simp only
        rw [if_pos (by simp)]
        simp only [window_Window_Left.f, window_Meter_Left.f, bnd1]
        rw [if_pos (by omega)]
        exact ih k (i + 1) _ _ hu.1 (by simp only; omega) (by omega)
      · rw [if_neg ct]
        simp only [window_Window_Left.f, window_Meter_Left.f, bnd1]
        rw [if_pos (by omega)]
        exact ih k (i + 1) _ _ hu.1 (by omega) (by omega)
theorem louverlaw10qWindowEnds_true (p0 : Int) (p1 : List S33) (h0 : okI .u32 p0) (h1 : okL 24 ok33 p1) : ∃ k, louverlaw10qWindowEnds.f k p0 p1 = some true := by
  refine ⟨p1.length + 1, ?_⟩
  have hb := okI_u32.1 h0
  unfold louverlaw10qWindowEnds.f window_New.f
  rw [fixed_true]
  by_cases c : (p1.length : Int) > 500
  · rw [if_pos c]
    rfl
  simp only [mn_eq, mx_eq]
  rw [if_neg c, ofm (min p0 2147483647) true (okI_u32.2 (by omega)), wi64 (by omega) (by omega)]
  simp only [bnd1]
  have := ends_l0 p1 h1 p1.length 0 0 ⟨min (max (min p0 2147483647) (-2147483648)) 2147483647, true⟩ ⟨min (min p0 2147483647) 2147483647, min (min p0 2147483647) 2147483647, 0, 0, true⟩ ⟨by dsimp only; omega, by dsimp only; omega, by dsimp only; omega, by dsimp only; omega, by dsimp only; omega, by dsimp only; omega⟩ (by simp only; omega) (by omega)
  simpa using this
theorem between_f (x : Int) : louverref10qbetween.f x = some (min (max x (-2147483648)) 2147483647) := by
  unfold louverref10qbetween.f
  split
  · congr 1
    omega
  split
  · congr 1
    omega
  · congr 1
    omega
theorem plays_l0 (p2 : List S33) (hp : okL 24 ok33 p2) (st : Bool) : ∀ (n k i : Nat) (x : Int), -2147483648 ≤ x ∧ x ≤ 2147483647 → i + n = p2.length → louverlaw10qWindowPlays.l0 (k + 2 * n + 1) ⟨x, st⟩ x st i p2 = some true := by
  intro n
  induction n with
  | zero =>
    intro k i x hx hi
    rw [louverlaw10qWindowPlays.l0, if_neg (by omega), fixed_true]
    simp [bnd1, window_Window_Left.f]
  | succ n ih =>
    intro k i x hx hi
    have hl : p2.length * 24 ≤ 140737488351232 := hp.1
    rw [show k + 2 * (n + 1) + 1 = (k + 2 * n + 1) + 1 + 1 by omega, louverlaw10qWindowPlays.l0, if_pos (by omega), if_pos (by omega)]
    have ho := op_ok hp (i := (i : Int)) (by omega) (by omega)
    generalize gt z33 p2 (i : Int) = o at ho
    have e1 : IntKind.i64.wrap ((i : Int) + 1) = ((i + 1 : Nat) : Int) := by rw [wi64 (by omega) (by omega)]; omega
    obtain ⟨o0, o1, o2, o3⟩ := ho
    have b1 := okI_i64.1 o1
    have b2 := okI_u32.1 o2
    have b3 := okI_u32.1 o3
    -- what stands behind the choice
    have j0 : ∀ y, -2147483648 ≤ y ∧ y ≤ 2147483647 → louverlaw10qWindowPlays.j1 (k + 2 * n + 1 + 1) ⟨y, st⟩ y st 0 0 0 p2 i = some true := fun y hy => by
      rw [louverlaw10qWindowPlays.j1, if_neg (by omega), if_pos (by simp)]
      simp only [window_Window_Left.f, bnd1]
      rw [if_pos trivial, e1]
      exact ih k (i + 1) y hy (by omega)
    have js : ∀ y s, (s = 1 ∨ s = 2) → -2147483648 ≤ y ∧ y ≤ 2147483647 → louverlaw10qWindowPlays.j1 (k + 2 * n + 1 + 1) ⟨y, st⟩ y st s s 3 p2 i = some true := fun y s hs hy => by
      rw [louverlaw10qWindowPlays.j1, if_pos (by omega), wu8 (by omega) (by omega), if_pos (by simp)]
      simp only [window_Window_Left.f, bnd1]
      rw [if_pos trivial, e1]
      exact ih k (i + 1) y hy (by omega)
    by_cases c0 : o.f0 = 0
    · rw [if_pos c0, take_f ⟨x, st⟩ o.f1 hx o1]
      unfold louverref10qW_Take.f
      simp only
      by_cases q1 : o.f1 < 0
      · rw [if_pos q1, if_pos (.inl q1)]
        simpa [bnd2] using j0 x hx
      · rw [if_neg q1]
        by_cases q2 : o.f1 > 0
        · rw [if_pos q2]
          by_cases q3 : o.f1 > x
          · rw [if_pos q3, if_pos (.inr (by omega))]
            simpa [bnd2] using j0 x hx
          · rw [if_neg q3, if_neg (by omega), wi64 (by omega) (by omega)]
            simpa [bnd2] using j0 (x - o.f1) (by omega)
        · rw [if_neg q2, if_neg (by omega), wi64 (by omega) (by omega)]
          simpa [bnd2] using j0 (x - o.f1) (by omega)
    · rw [if_neg c0]
      by_cases c1 : o.f0 = 1
      · rw [if_pos c1, grow_f ⟨x, st⟩ o.f2 hx o2, wi64 (x := o.f2) (by omega) (by omega)]
        unfold louverref10qW_Grow.f
        simp only
        rw [wi64 (x := x + o.f2) (by omega) (by omega)]
        by_cases q1 : x + o.f2 > 2147483647
        · rw [if_pos q1, if_pos q1]
          cases st with
          | true => simpa [bnd2] using js x 2 (.inr rfl) hx
          | false => simpa [bnd2] using js x 1 (.inl rfl) hx
        · rw [if_neg q1, if_neg q1, between_f]
          have hm : min (max (x + o.f2) (-2147483648)) 2147483647 = max (x + o.f2) (-2147483648) := by omega
          rw [hm]
          simpa [bnd2, bnd1] using j0 (max (x + o.f2) (-2147483648)) (by omega)
      · rw [if_neg c1, shift_f ⟨x, st⟩ o.f2 o.f3 hx o2 o3, wi64 (x := o.f3) (by omega) (by omega), wi64 (x := o.f2) (by omega) (by omega), wi64 (x := o.f3 - o.f2) (by omega) (by omega)]
        unfold louverref10qW_Grow.f
        simp only
        rw [wi64 (x := x + (o.f3 - o.f2)) (by omega) (by omega)]
        have ee : x + (o.f3 - o.f2) = x + o.f3 - o.f2 := by omega
        rw [ee]
        by_cases q1 : x + o.f3 - o.f2 > 2147483647
        · rw [if_pos q1, if_pos q1]
          cases st with
          | true => simpa [bnd2] using js x 1 (.inl rfl) hx
          | false => simpa [bnd2] using js x 1 (.inl rfl) hx
        · rw [if_neg q1, if_neg q1, between_f]
          have hm : min (max (x + o.f3 - o.f2) (-2147483648)) 2147483647 = max (x + o.f3 - o.f2) (-2147483648) := by omega
          rw [hm]
          simpa [bnd2, bnd1] using j0 (max (x + o.f3 - o.f2) (-2147483648)) (by omega)
theorem louverlaw10qWindowPlays_true (p0 : Int) (p1 : Bool) (p2 : List S33) (h0 : okI .i64 p0) (h2 : okL 24 ok33 p2) : ∃ k, louverlaw10qWindowPlays.f k p0 p1 p2 = some true := by
  refine ⟨2 * p2.length + 1, ?_⟩
  unfold louverlaw10qWindowPlays.f window_New.f louverref10qNew.f
  rw [fixed_true]
  by_cases c : (p2.length : Int) > 500
  · rw [if_pos c]
    rfl
  rw [if_neg c, between_f, mn_eq, mx_eq]
  simp only [bnd1]
  have := plays_l0 p2 h2 p1 p2.length 0 0 (min (max p0 (-2147483648)) 2147483647) (by omega) (by omega)
  simpa using this
theorem rcome_f (m : S28) (n : Int) (h : 0 ≤ m.f1 ∧ m.f1 ≤ 2147483647) (h2 : 0 ≤ m.f2 ∧ m.f2 ≤ 2147483647) : louverref10qM_Come.f m n = some (if max n 0 > m.f1 then (m, false) else ((⟨m.f0, m.f1 - max n 0, m.f2 + max n 0, m.f3⟩ : S28), true)) := by
  unfold louverref10qM_Come.f
  rw [mx_eq, Int.max_comm]
  split
  · rfl
  · rw [wi64 (by omega) (by omega), wi64 (by omega) (by omega)]
theorem ruse_f (k : Nat) (m : S63) (n : Int) (hm : Mok m) (hn : okI .i64 n) : louverref10qM_Use.f (k + 1) ⟨m.f0, m.f1, m.f2, m.f3⟩ n = some ((⟨(used m n).2.f0, (used m n).2.f1, (used m n).2.f2, (used m n).2.f3⟩ : S28), (used m n).1) := by
  obtain ⟨a, b, c, d, e, f⟩ := hm
  have hn := okI_i64.1 hn
  have key : ∀ q, q = min (max n 0) m.f2 → louverref10qM_Use.j0 (k + 1) q ⟨m.f0, m.f1, m.f2, m.f3⟩ = some ((⟨(used m n).2.f0, (used m n).2.f1, (used m n).2.f2, (used m n).2.f3⟩ : S28), (used m n).1) := by
    intro q hq
    have hqr : 0 ≤ q ∧ q ≤ m.f2 := by omega
    rw [louverref10qM_Use.j0]
    simp only
    unfold used
    rw [← hq, wi64 (x := m.f3 + q) (by omega) (by omega), wi64 (x := m.f2 - q) (by omega) (by omega), wi64 (x := 2 * (m.f3 + q)) (by omega) (by omega), wi64 (x := m.f1 + (m.f3 + q)) (by omega) (by omega)]
    by_cases c1 : m.f3 + q > 0
    · rw [if_pos c1]
      by_cases c2 : 2 * (m.f3 + q) ≥ m.f0
      · rw [if_pos c2, if_neg (by omega)]
      · rw [if_neg c2, if_pos (by omega)]
    · rw [if_neg c1, if_pos (by omega)]
  unfold louverref10qM_Use.f
  rw [mx_eq]
  simp only
  split
  · exact key _ (by omega)
  · exact key _ (by omega)
theorem meters_l1 (p2 : List S33) (hp : okL 24 ok33 p2) (sc : Int) : ∀ (n k i : Nat) (m : S63), Mok m → sc = (if m.f4 = true then 2 else 1) → i + n = p2.length →
    louverlaw10qWindowMeters.l1 (k + 2 * n + 2) m m.f0 m.f1 m.f2 m.f3 i p2 sc 3 = some true := by
  intro n
  induction n with
  | zero =>
    intro k i m hm hs hi
    rw [louverlaw10qWindowMeters.l1, if_neg (by omega), fixed_true]
    rfl
  | succ n ih =>
    intro k i m hm hs hi
    have hl : p2.length * 24 ≤ 140737488351232 := hp.1
    rw [show k + 2 * (n + 1) + 2 = (k + 2 * n + 2) + 1 + 1 by omega, louverlaw10qWindowMeters.l1, if_pos (by omega), if_pos (by omega)]
    have ho := op_ok hp (i := (i : Int)) (by omega) (by omega)
    generalize gt z33 p2 (i : Int) = o at ho
    have e1 : IntKind.i64.wrap ((i : Int) + 1) = ((i + 1 : Nat) : Int) := by rw [wi64 (by omega) (by omega)]; omega
    have j2 : ∀ m2 : S63, Mok m2 → sc = (if m2.f4 = true then 2 else 1) → louverlaw10qWindowMeters.j2 (k + 2 * n + 2 + 1) m2 m2.f0 m2.f1 m2.f2 m2.f3 p2 sc 3 i = some true := fun m2 hm2 hs2 => by
      obtain ⟨a, b, c, d, e, f⟩ := id hm2
      rw [louverlaw10qWindowMeters.j2]
      simp only [window_Meter_Left.f, window_Meter_Owed.f, bnd1]
      rw [if_pos trivial, if_pos trivial, if_neg (by omega), if_neg (by omega), wi64 (x := m2.f1 + m2.f2) (by omega) (by omega), if_neg (by omega), e1]
      exact ih k (i + 1) m2 hm2 hs2 (by omega)
    obtain ⟨a, b, c, d, e, f⟩ := id hm
    by_cases ck : o.f0 = 0
    · rw [if_pos ck, rcome_f _ o.f1 (by simp only; omega) (by simp only; omega), come_f m o.f1 hm ho.2.1]
      simp only
      by_cases ct : max o.f1 0 > m.f1
      · rw [if_pos ct, if_pos ct]
        simp only [bnd2]
        rw [if_neg (by simp), if_pos (by simp [hs])]
        exact j2 m hm hs
      · rw [if_neg ct, if_neg ct]
        simp only [bnd2]
        rw [if_pos trivial, if_pos (by simp)]
        exact j2 ⟨m.f0, m.f1 - max o.f1 0, m.f2 + max o.f1 0, m.f3, m.f4⟩ (come_ok m o.f1 hm ct) hs
    · rw [if_neg ck, ruse_f (k + 2 * n + 2) m o.f1 hm ho.2.1, use_f m o.f1 hm ho.2.1]
      have hu := used_ok m o.f1 hm
      have h4 : (used m o.f1).2.f4 = m.f4 := by
        unfold used
        split <;> rfl
      generalize used m o.f1 = us at hu h4
      obtain ⟨t, m2⟩ := us
      simp only at hu h4 ⊢
      simp only [bnd2]
      rw [wi64 (by omega) (by omega), if_pos rfl]
      exact j2 m2 hu.1 (by rw [h4]; exact hs)
theorem louverlaw10qWindowMeters_true (p0 : Int) (p1 : Bool) (p2 : List S33) (h0 : okI .u32 p0) (h2 : okL 24 ok33 p2) : ∃ k, louverlaw10qWindowMeters.f k p0 p1 p2 = some true := by
  refine ⟨2 * p2.length + 3, ?_⟩
  have hb := okI_u32.1 h0
  unfold louverlaw10qWindowMeters.f louverref10qOf.f
  rw [fixed_true]
  by_cases c : (p2.length : Int) > 500
  · rw [if_pos c]
    rfl
  rw [if_neg c, ofm p0 p1 h0, between_f, wi64 (by omega) (by omega)]
  simp only [bnd1]
  have hm : min (max p0 (-2147483648)) 2147483647 = min p0 2147483647 := by omega
  rw [hm]
  have key := fun sc hs => meters_l1 p2 h2 sc p2.length 0 0 ⟨min p0 2147483647, min p0 2147483647, 0, 0, p1⟩ ⟨by dsimp only; omega, by dsimp only; omega, by dsimp only; omega, by dsimp only; omega, by dsimp only; omega, by dsimp only; omega⟩ hs (by omega)
  cases p1 with
  | true =>
    rw [if_pos rfl, louverlaw10qWindowMeters.j0]
    simpa using key 2 rfl
  | false =>
    rw [if_neg (by simp), louverlaw10qWindowMeters.j0]
    simpa using key 1 rfl
end Go.Proofs.Ytgbognkigcedbaa.Sl
