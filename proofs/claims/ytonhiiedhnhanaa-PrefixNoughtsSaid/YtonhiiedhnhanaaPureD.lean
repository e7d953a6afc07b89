/- Chapter 02, plain: sizes, noughts put behind, the bits above the prefix. -/
import Derived.Test.YtonhiiedhnhanaaPureC
set_option linter.unusedVariables false
set_option linter.unusedSimpArgs false
namespace Go.Proofs.Ytonhiiedhnhanaa.Sl
open Go Go.Proofs.Sl

theorem sz_mono {n a b : Int} (h0 : 0 ≤ a) (h : a ≤ b) : (pre n 0 a).length ≤ (pre n 0 b).length := by
  unfold pre
  split
  · split <;> simp
  · rw [if_neg (by omega)]
    have := vi_mono 3 (a - (tp n - 1)) (b - (tp n - 1)) (by omega) (by omega)
    simp
    omega
theorem sz_bits {n v : Int} (h1 : 2 ≤ n) (h2 : n ≤ 8) (h0 : 0 ≤ v) : (pre n 0 v).length ≤ (pre (n - 1) 0 v).length := by
  have ht := tp_bd (n := n) (by omega) h2
  have hd : tp n = 2 * tp (n - 1) := by
    have : n = 2 ∨ n = 3 ∨ n = 4 ∨ n = 5 ∨ n = 6 ∨ n = 7 ∨ n = 8 := by omega
    rcases this with rfl | rfl | rfl | rfl | rfl | rfl | rfl <;> rfl
  have ht1 := tp_bd (n := n - 1) (by omega) (by omega)
  unfold pre
  split
  · split <;> simp
  · rw [if_neg (by omega)]
    have := vi_mono 3 (v - (tp n - 1)) (v - (tp (n - 1) - 1)) (by omega) (by omega)
    simp
    omega
theorem louverlaw02qPrefixSizes_true (p0 p1 p2 : Int) (h0 : okI .i64 p0) (h1 : okI .u32 p1) (h2 : okI .u32 p2) : ∃ k, louverlaw02qPrefixSizes.f k p0 p1 p2 = some true := by
  refine ⟨40, ?_⟩
  have hf : louverlaw02qfixed.f 40 = some true := fixed_true 20
  have b1 := okI_u32.1 h1
  have b2 := okI_u32.1 h2
  unfold louverlaw02qPrefixSizes.f
  rw [hf]
  by_cases c1 : p0 < 2
  · rw [if_pos c1]
    rfl
  rw [if_neg c1]
  by_cases c2 : p0 > 8
  · rw [if_pos c2]
    rfl
  rw [if_neg c2, Int.tmod_eq_emod_of_nonneg b1.1, Int.tmod_eq_emod_of_nonneg b2.1]
  generalize ha : p1 % 268435457 = a
  generalize hb : p2 % 268435457 = c
  have a0 : 0 ≤ a ∧ a ≤ 268435456 := by omega
  have c0 : 0 ≤ c ∧ c ≤ 268435456 := by omega
  have hmn : 0 ≤ mnI a c ∧ mnI a c ≤ 268435456 ∧ mnI a c ≤ mxI a c ∧ 0 ≤ mxI a c ∧ mxI a c ≤ 268435456 := by
    unfold mnI mxI
    split <;> split <;> omega
  have s := fun v (q0 : 0 ≤ v) (q1 : v ≤ 268435456) => size_f (n := p0) 36 (by omega) (by omega) q0 q1
  have s' := size_f (n := p0 - 1) 36 (by omega) (by omega) a0.1 a0.2
  rw [wi64 (by omega) (by omega), s _ hmn.1 hmn.2.1, s _ hmn.2.2.2.1 hmn.2.2.2.2, s a a0.1 a0.2, s']
  have l1 := sz_mono (n := p0) hmn.1 hmn.2.2.1
  have l2 := sz_bits (n := p0) (by omega) (by omega) a0.1
  have l3 := (pre_len (n := p0) (b := 0) (by omega) (by omega) hmn.2.2.2.1 hmn.2.2.2.2).2
  have l4 := (pre_len (n := p0) (b := 0) (by omega) (by omega) hmn.1 hmn.2.1).1
  simp only [bnd1]
  rw [if_pos trivial, if_pos (by omega), if_pos (by omega), if_pos (by omega)]
  simp
  omega
theorem wf_ext : ∀ (s : List Int) (z : Int), Wf (s ++ [z]) → 0 ≤ z ∧ z < 128 ∧ Wf (s ++ [z + 128, 0]) ∧ vs (s ++ [z + 128, 0]) = vs (s ++ [z])
  | [], z, h => by
    obtain ⟨a, b⟩ := h
    refine ⟨a, b, ⟨⟨by omega, by omega⟩, by decide, by decide⟩, ?_⟩
    simp [vs]
  | t :: s, z, h => by
    have hne : s ++ [z] ≠ [] := by simp
    obtain ⟨u, r, e⟩ := List.exists_cons_of_ne_nil hne
    have h' : (128 ≤ t ∧ t < 256) ∧ Wf (s ++ [z]) := by
      rw [List.cons_append, e] at h
      rw [e]
      exact h
    obtain ⟨a, b, c, d⟩ := wf_ext s z h'.2
    refine ⟨a, b, wf_cons h'.1.1 h'.1.2 c, ?_⟩
    simp only [List.cons_append, vs, d]
theorem noughts_l0 {n v p2 : Int} (h1 : 1 ≤ n) (h2 : n ≤ 8) (hv : 0 ≤ v) (hv2 : v ≤ 268435456) (hc : 0 ≤ p2 ∧ p2 < 256) (hvt : tp n - 1 ≤ v) : ∀ (m k i : Nat) (t z : Int) (s : List Int), (m + i : Nat) = p2 % 6 → byts (t :: (s ++ [z])) → Wf (s ++ [z]) → t % tp n = tp n - 1 → vs (s ++ [z]) = v - (tp n - 1) →
    s.length + m ≤ 100 → louverlaw02qPrefixNoughts.l0 (k + m + 31) (t :: (s ++ [z])) i n v p2 = some true := by
  have ht := tp_bd h1 h2
  intro m
  induction m with
  | zero =>
    intro k i t z s hi hb hw hm hs hl
    rw [show k + 0 + 31 = (k + 30) + 1 from rfl, louverlaw02qPrefixNoughts.l0, wi64 (x := p2) (by omega) (by omega), Int.tmod_eq_emod_of_nonneg hc.1, if_neg (by omega), show k + 30 = (k + 24) + 6 from rfl, get_f (k + 24) hb h1 h2]
    have hg : gd (t :: (s ++ [z])) n = dv 0 (tp n - 1) (s ++ [z]) := by
      show (if t % tp n < tp n - 1 then _ else _) = _
      rw [if_neg (by omega), hm]
    rw [hg, dv_wf _ 0 _ hw (by omega), hs, show k + 24 + 6 = (k + 10) + 20 from rfl, fixed_true]
    have el : ((t :: (s ++ [z])).length : Int) = (s.length : Int) + 2 := by simp; omega
    by_cases h4 : s.length + 1 ≤ 4
    · rw [if_pos (by simp; omega), if_neg (by simp; omega)]
      simp only [bnd3]
      rw [if_neg (by omega)]
      simp only [bnd1]
      rw [if_pos trivial, if_pos trivial, if_pos (by simp; omega), el]
      simp
      omega
    · rw [if_neg (by simp; omega)]
      simp only [bnd3]
      rw [if_pos (by omega)]
      simp [bnd1]
  | succ m ih =>
    intro k i t z s hi hb hw hm hs hl
    obtain ⟨z0, z1, w1, w2⟩ := wf_ext s z hw
    have el : ((t :: (s ++ [z])).length : Int) = (s.length : Int) + 2 := by simp; omega
    have eL : IntKind.i64.wrap (((t :: (s ++ [z])).length : Int) - 1) = ((s.length + 1 : Nat) : Int) := by rw [el, wi64 (by omega) (by omega)]; omega
    have eg : gt (0 : Int) (t :: (s ++ [z])) ((s.length + 1 : Nat) : Int) = z := by simp [gt]
    have eo : bOr .u8 z 128 = z + 128 := by
      rw [bOr_comm]
      have := bOr_add .u8 rfl 7 (q := 1) (c := z) (by omega) z0 (by simp; omega) (by simp [IntKind.bits]; omega)
      simp at this
      omega
    have es : (t :: (s ++ [z])).set ((s.length + 1 : Nat) : Int).toNat (z + 128) = t :: (s ++ [z + 128]) := by simp
    rw [show k + (m + 1) + 31 = (k + m + 31) + 1 by omega, louverlaw02qPrefixNoughts.l0, wi64 (x := p2) (by omega) (by omega), Int.tmod_eq_emod_of_nonneg hc.1, if_pos (by omega), eL, if_pos (by omega), if_pos (by omega), eg, eo, es]
    simp only [lt1]
    rw [if_pos (by simp; omega), wi64 (by omega) (by omega)]
    have := ih k (i + 1) t 0 (s ++ [z + 128]) (by omega) (by
      intro x hx
      simp only [List.append_assoc, List.mem_cons, List.mem_append, List.not_mem_nil, or_false, List.cons_append, List.nil_append] at hx
      rcases hx with rfl | hx | rfl | rfl
      · exact hb _ List.mem_cons_self
      · exact hb _ (by simp [hx])
      · omega
      · omega) (by simpa using w1) hm (by rw [← hs, ← w2]; simp) (by simp; omega)
    simpa using this
theorem louverlaw02qPrefixNoughts_true (p0 p1 p2 : Int) (h0 : okI .i64 p0) (h1 : okI .u32 p1) (h2 : okI .u8 p2) : ∃ k, louverlaw02qPrefixNoughts.f k p0 p1 p2 = some true := by
  refine ⟨60, ?_⟩
  have hf : louverlaw02qfixed.f 60 = some true := fixed_true 40
  have b1 := okI_u32.1 h1
  have b2 := okI_u8.1 h2
  unfold louverlaw02qPrefixNoughts.f
  rw [hf]
  by_cases c1 : p0 < 1
  · rw [if_pos c1]
    rfl
  rw [if_neg c1]
  by_cases c2 : p0 > 8
  · rw [if_pos c2]
    rfl
  rw [if_neg c2]
  by_cases c3 : p1 > 268435456
  · rw [if_pos c3]
    rfl
  rw [if_neg c3, show (60 : Nat) = 51 + 9 from rfl, rput_f 51 (by omega) (by omega) (by omega) b1.1 (by omega)]
  simp only [bnd1]
  have ht := tp_bd (n := p0) (by omega) (by omega)
  obtain ⟨t, r, e, hb, _, ⟨q1, q2, rfl⟩ | ⟨q1, q2, q3, q4, q5, q6⟩⟩ := pre_ok (n := p0) (b := 0) (v := p1) (by omega) (by omega) (by omega) b1.1 (by omega)
  · rw [e, if_pos (by simp)]
  · have hne := q4.ne
    have e2 : r = r.dropLast ++ [r.getLast hne] := (List.dropLast_concat_getLast hne).symm
    have hrl : 1 ≤ r.length := List.length_pos_iff.2 hne
    rw [e, if_neg (by simp; omega)]
    generalize hz : r.getLast hne = z at e2
    generalize hs : r.dropLast = s at e2
    have hsl : s.length ≤ 4 := by rw [← hs]; simp; omega
    subst e2
    have hcn : ((p2 % 6).toNat : Int) = p2 % 6 := by omega
    have := noughts_l0 (n := p0) (v := p1) (p2 := p2) (by omega) (by omega) b1.1 (by omega) b2 q1 (p2 % 6).toNat (29 - (p2 % 6).toNat) 0 t z s (by simp; omega) hb q4 q2 q5 (by omega)
    rw [show 29 - (p2 % 6).toNat + (p2 % 6).toNat + 31 = 51 + 9 by omega] at this
    exact this
theorem louverlaw02qPrefixHigh_true (p0 p1 p2 p3 : Int) (h0 : okI .i64 p0) (h1 : okI .u8 p1) (h2 : okI .u8 p2) (h3 : okI .u32 p3) : ∃ k, louverlaw02qPrefixHigh.f k p0 p1 p2 p3 = some true := by
  refine ⟨40, ?_⟩
  have hf : louverlaw02qfixed.f 40 = some true := fixed_true 20
  have b1 := okI_u8.1 h1
  have b2 := okI_u8.1 h2
  have b3 := okI_u32.1 h3
  unfold louverlaw02qPrefixHigh.f
  rw [hf]
  by_cases c1 : p0 < 1
  · rw [if_pos c1]
    rfl
  rw [if_neg c1]
  by_cases c2 : p0 > 8
  · rw [if_pos c2]
    rfl
  rw [if_neg c2]
  by_cases c3 : p3 > 268435456
  · rw [if_pos c3]
    rfl
  rw [if_neg c3, show (40 : Nat) = 36 + 4 from rfl, put_f 36 (by simp) (by omega) (by omega) b1 b3.1 (by omega), put_f 36 (by simp) (by omega) (by omega) b2 b3.1 (by omega)]
  simp only [bnd1, List.nil_append]
  have g1 := gd_pre (n := p0) (b := p1) (v := p3) [] (by omega) (by omega) b1 b3.1 (by omega)
  have g2 := gd_pre (n := p0) (b := p2) (v := p3) [] (by omega) (by omega) b2 b3.1 (by omega)
  rw [List.append_nil] at g1 g2
  have y1 := pre_byts (n := p0) (b := p1) (v := p3) (by omega) (by omega) b1 b3.1 (by omega)
  have y2 := pre_byts (n := p0) (b := p2) (v := p3) (by omega) (by omega) b2 b3.1 (by omega)
  have an := pre_any (n := p0) (b := p1) (b' := p2) (v := p3)
  have hl := pre_len (n := p0) (b := p1) (v := p3) (by omega) (by omega) b3.1 (by omega)
  have hg1 := get_f (p := pre p0 p1 p3) (n := p0) 34 y1 (by omega) (by omega)
  have hg2 := get_f (p := pre p0 p2 p3) (n := p0) 34 y2 (by omega) (by omega)
  obtain ⟨t, r, e, hb, ed, _⟩ := pre_ok (n := p0) (b := p1) (v := p3) (by omega) (by omega) b1 b3.1 (by omega)
  obtain ⟨t', r', e', hb', ed', _⟩ := pre_ok (n := p0) (b := p2) (v := p3) (by omega) (by omega) b2 b3.1 (by omega)
  have sh : ∀ x : Int, 0 ≤ x → x < 256 → shrI .i64 (IntKind.i64.wrap x) p0 = x / tp p0 := fun x x0 x1 => by
    rw [wi64 (by omega) (by omega)]
    exact shrI_eq .i64 (by simp [IntKind.bits]; omega)
  rw [if_neg (by omega), if_pos (by omega), if_pos (by omega), if_pos (by omega), show (1 : Int).toNat = 1 from rfl, an.2, if_pos rfl, show (36 + 4 : Nat) = 34 + 6 from rfl, hg1, hg2, g1, g2]
  simp only [bnd3]
  have t0 := hb t List.mem_cons_self
  have t0' := hb' t' List.mem_cons_self
  rw [if_pos trivial, if_pos (by omega), if_pos (by omega), e, e']
  rw [show gt (0 : Int) (t :: r) (0 : Int) = t from rfl, show gt (0 : Int) (t' :: r') (0 : Int) = t' from rfl, sh t t0.1 t0.2, sh t' t0'.1 t0'.2, sh p1 b1.1 b1.2, sh p2 b2.1 b2.2, if_pos ed, if_pos (by simp), if_pos ed']
  simp
end Go.Proofs.Ytonhiiedhnhanaa.Sl
