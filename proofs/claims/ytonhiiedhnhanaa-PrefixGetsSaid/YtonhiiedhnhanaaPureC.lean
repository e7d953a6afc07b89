/- Chapter 02, plain: the readers. -/
import Derived.Test.YtonhiiedhnhanaaPureB
set_option linter.unusedVariables false
set_option linter.unusedSimpArgs false
namespace Go.Proofs.Ytonhiiedhnhanaa.Sl
open Go Go.Proofs.Sl

def gd (p : List Int) (n : Int) : Int × Int × Int := match p with
  | [] => (0, 0, 2)
  | t :: r => if t % tp n < tp n - 1 then (t % tp n, 1, 0) else dv 0 (t % tp n) r
theorem get_f {p : List Int} {n : Int} (k : Nat) (hb : byts p) (h1 : 1 ≤ n) (h2 : n ≤ 8) : prefix_Get.f (k + 6) p n = some (gd p n) := by
  have ht := tp_bd h1 h2
  unfold prefix_Get.f
  rw [right_f]
  simp only [bnd1]
  rw [if_pos (by simp; omega)]
  cases p with
  | nil => rfl
  | cons t r =>
    have htb := hb t List.mem_cons_self
    have e0 : gt (0 : Int) (t :: r) (0 : Int) = t := rfl
    have ea : bAnd .u64 (IntKind.u64.wrap t) (IntKind.u64.wrap (tp n - 1)) = t % tp n := by
      rw [wu64 htb.1 (by omega), wu64 (by omega) (by omega)]
      exact bAnd_mask .u64 rfl n.toNat (by simp [IntKind.bits]; omega) htb.1 (by simp [IntKind.bits]; omega)
    have eb : IntKind.u64.wrap (tp n - 1) = tp n - 1 := wu64 (by omega) (by omega)
    have hm : 0 ≤ t % tp n ∧ t % tp n < tp n := ⟨Int.emod_nonneg _ (by omega), Int.emod_lt_of_pos _ (by omega)⟩
    rw [if_neg (by simp <;> omega), if_pos (by omega), if_pos (by simp <;> omega), e0, top_eq h1 h2, ea, eb]
    rw [show gd (t :: r) n = if t % tp n < tp n - 1 then (t % tp n, 1, 0) else dv 0 (t % tp n) r from rfl]
    by_cases hc : t % tp n < tp n - 1
    · rw [if_pos hc, if_pos hc, wu32 hm.1 (by omega)]
    · rw [if_neg hc, if_neg hc, if_pos (by simp <;> omega)]
      have := get_l0 (k + 6) 0 (t % tp n) (t :: r) hb (by omega) (by omega) hm.1 (by simp; omega)
      simpa using this
theorem rget_f {p : List Int} {n : Int} (k : Nat) (hb : byts p) (h1 : 1 ≤ n) (h2 : n ≤ 8) : louverref02qGet.f (k + 9) p n = some (gd p n) := by
  have ht := tp_bd h1 h2
  unfold louverref02qGet.f
  rw [if_neg (by omega), if_neg (by omega), rtop_f k h1 h2]
  cases p with
  | nil => rfl
  | cons t r =>
    have htb := hb t List.mem_cons_self
    have e0 : gt (0 : Int) (t :: r) (0 : Int) = t := rfl
    have e1 : IntKind.u64.wrap (tp n - 1 + 1) = tp n := by rw [Int.sub_add_cancel, wu64 (by omega) (by omega)]
    have ea : Int.tmod (IntKind.u64.wrap t) (tp n) = t % tp n := by rw [wu64 htb.1 (by omega), Int.tmod_eq_emod_of_nonneg htb.1]
    have hm : 0 ≤ t % tp n ∧ t % tp n < tp n := ⟨Int.emod_nonneg _ (by omega), Int.emod_lt_of_pos _ (by omega)⟩
    simp only [bnd1]
    rw [if_neg (by simp <;> omega), if_pos (by simp <;> omega), e0, e1, if_pos (by omega), ea]
    rw [show gd (t :: r) n = if t % tp n < tp n - 1 then (t % tp n, 1, 0) else dv 0 (t % tp n) r from rfl]
    by_cases hc : t % tp n < tp n - 1
    · rw [if_pos hc, if_pos hc, wu32 hm.1 (by omega)]
    · rw [if_neg hc, if_neg hc]
      have := rget_l0 (k + 9) 0 (t % tp n) (t :: r) hb (by omega) (by omega) hm.1 (by simp; omega)
      simpa using this
theorem get_bad {p : List Int} {n : Int} (k : Nat) (h : n < 1 ∨ n > 8) : prefix_Get.f k p n = some (0, 0, 1) ∧ louverref02qGet.f k p n = some (0, 0, 1) := by
  refine ⟨?_, ?_⟩
  · unfold prefix_Get.f
    rw [right_f]
    simp only [bnd1]
    rw [if_neg (by simp; omega)]
  · unfold louverref02qGet.f
    split
    · rfl
    · rw [if_pos (by omega)]
theorem byts_of {p : List Int} (h : okL 1 (okI .u8) p) : byts p := fun x hx => okI_u8.1 (h.2 x hx)
theorem louverlaw02qPrefixGets_true (p0 : List Int) (p1 : Int) (h0 : okL 1 (okI .u8) p0) (h1 : okI .i64 p1) : ∃ k, louverlaw02qPrefixGets.f k p0 p1 = some true := by
  refine ⟨20, ?_⟩
  have hf : louverlaw02qfixed.f 20 = some true := fixed_true 0
  unfold louverlaw02qPrefixGets.f
  rw [hf]
  split
  · rfl
  · by_cases hn : 1 ≤ p1 ∧ p1 ≤ 8
    · rw [show (20 : Nat) = 14 + 6 from rfl, get_f 14 (byts_of h0) hn.1 hn.2, show (14 + 6 : Nat) = 11 + 9 from rfl, rget_f 11 (byts_of h0) hn.1 hn.2]
      simp [bnd3, bnd1]
    · obtain ⟨a, c⟩ := get_bad (p := p0) (n := p1) 20 (by omega)
      rw [a, c]
      rfl
/-! what is written -/
def ext : List Int → List Int
  | [] => []
  | [t] => [t + 128, 0]
  | t :: u :: r => t :: ext (u :: r)
theorem pre_ok {n b v : Int} (h1 : 1 ≤ n) (h2 : n ≤ 8) (hb : 0 ≤ b ∧ b < 256) (hv : 0 ≤ v) (hv2 : v ≤ 268435456) :
    ∃ t r, pre n b v = t :: r ∧ byts (t :: r) ∧ t / tp n = b / tp n ∧ ((v < tp n - 1 ∧ t % tp n = v ∧ r = []) ∨ (tp n - 1 ≤ v ∧ t % tp n = tp n - 1 ∧ r = vi 3 (v - (tp n - 1)) ∧ Wf r ∧ vs r = v - (tp n - 1) ∧ r.length ≤ 4)) := by
  have ht := tp_bd h1 h2
  unfold pre
  split
  · obtain ⟨a, c, d⟩ := low_ok h1 h2 hb hv (by omega)
    exact ⟨_, _, rfl, by intro x hx; simp at hx; subst hx; exact a, d, .inl ⟨by omega, c, rfl⟩⟩
  · obtain ⟨a, c, d⟩ := low_ok h1 h2 hb (v := tp n - 1) (by omega) (by omega)
    obtain ⟨q1, q2, q3, q4⟩ := vi_ok 3 (v - (tp n - 1)) (by omega) (by simp; omega)
    refine ⟨_, _, rfl, ?_, d, .inr ⟨by omega, c, rfl, q1, q2, q3⟩⟩
    intro x hx
    rcases List.mem_cons.1 hx with rfl | hx
    · exact a
    · exact q4 x hx
theorem pre_byts {n b v : Int} (h1 : 1 ≤ n) (h2 : n ≤ 8) (hb : 0 ≤ b ∧ b < 256) (hv : 0 ≤ v) (hv2 : v ≤ 268435456) : byts (pre n b v) := by
  obtain ⟨t, r, e, h, _⟩ := pre_ok h1 h2 hb hv hv2
  rw [e]
  exact h
theorem pre_len {n b v : Int} (h1 : 1 ≤ n) (h2 : n ≤ 8) (hv : 0 ≤ v) (hv2 : v ≤ 268435456) : 1 ≤ (pre n b v).length ∧ (pre n b v).length ≤ 5 := by
  have ht := tp_bd h1 h2
  unfold pre
  split
  · simp
  · have := (vi_ok 3 (v - (tp n - 1)) (by omega) (by simp; omega)).2.2.1
    simp
    omega
theorem pre_any {n b b' v : Int} : (pre n b v).length = (pre n b' v).length ∧ (pre n b v).drop 1 = (pre n b' v).drop 1 := by
  unfold pre
  split <;> simp
theorem dv_app : ∀ (gs tl : List Int) (i : Nat) (acc : Int), Wf gs → i + gs.length ≤ 4 → dv i acc (gs ++ tl) = dv i acc gs
  | [], tl, i, acc, h, _ => absurd h (by simp [Wf])
  | [t], tl, i, acc, h, hl => by
    simp only [List.length_singleton] at hl
    have h4 : ¬ i = 4 := by omega
    show dv i acc (t :: tl) = dv i acc [t]
    simp only [dv, if_neg h4, if_pos h.2]
  | t :: u :: r, tl, i, acc, h, hl => by
    obtain ⟨⟨a, b⟩, c⟩ := h
    simp only [List.length_cons] at hl
    have h4 : ¬ i = 4 := by omega
    have hn : ¬ t < 128 := by omega
    show dv i acc (t :: (u :: r ++ tl)) = dv i acc (t :: (u :: r))
    rw [dv.eq_2, if_neg h4, if_neg hn]
    conv => rhs; rw [dv.eq_2, if_neg h4, if_neg hn]
    exact dv_app (u :: r) tl (i + 1) _ c (by simp; omega)
theorem gd_pre {n b v : Int} (tl : List Int) (h1 : 1 ≤ n) (h2 : n ≤ 8) (hb : 0 ≤ b ∧ b < 256) (hv : 0 ≤ v) (hv2 : v ≤ 268435456) : gd (pre n b v ++ tl) n = (v, ((pre n b v).length : Int), 0) := by
  have ht := tp_bd h1 h2
  obtain ⟨t, r, e, h, _, ⟨q1, q2, rfl⟩ | ⟨q1, q2, q3, q4, q5, q6⟩⟩ := pre_ok h1 h2 hb hv hv2
  · rw [e]
    simp only [List.singleton_append, gd]
    rw [q2, if_pos q1]
    rfl
  · rw [e]
    simp only [List.cons_append, gd]
    rw [q2, if_neg (by omega), dv_app r tl 0 _ q4 (by omega), dv_wf r 0 _ q4 (by omega), if_pos (by omega), q5, if_neg (by simp; omega)]
    simp
    omega
theorem wf_take : ∀ (r : List Int) (j : Nat), Wf r → j < r.length → ∀ x ∈ r.take j, 128 ≤ x
  | [], j, h, _ => absurd h (by simp [Wf])
  | [t], j, h, hj => by
    simp only [List.length_singleton] at hj
    have : j = 0 := by omega
    subst this
    simp
  | t :: u :: r, 0, h, hj => by simp
  | t :: u :: r, j + 1, h, hj => by
    obtain ⟨⟨a, b⟩, c⟩ := h
    intro x hx
    rw [List.take_succ_cons] at hx
    rcases List.mem_cons.1 hx with rfl | hx
    · exact a
    · exact wf_take (u :: r) j c (by simpa using hj) x hx
theorem gd_cut {n b v : Int} {j : Nat} (h1 : 1 ≤ n) (h2 : n ≤ 8) (hb : 0 ≤ b ∧ b < 256) (hv : 0 ≤ v) (hv2 : v ≤ 268435456) (hj : j < (pre n b v).length) : (gd ((pre n b v).take j) n).2.2 = 2 := by
  have ht := tp_bd h1 h2
  obtain ⟨t, r, e, h, _, ⟨q1, q2, rfl⟩ | ⟨q1, q2, q3, q4, q5, q6⟩⟩ := pre_ok h1 h2 hb hv hv2
  · rw [e] at hj ⊢
    simp only [List.length_singleton] at hj
    have : j = 0 := by omega
    subst this
    rfl
  · rw [e] at hj ⊢
    cases j with
    | zero => rfl
    | succ j =>
      simp only [List.take_succ_cons, gd, List.length_cons] at hj ⊢
      rw [q2, if_neg (by omega), dv_short (r.take j) 0 _ (wf_take r j q4 (by omega)) (by simp; omega)]
theorem size_f {n v : Int} (k : Nat) (h1 : 1 ≤ n) (h2 : n ≤ 8) (hv : 0 ≤ v) (hv2 : v ≤ 268435456) : prefix_Size.f (k + 4) n v = some ((pre n 0 v).length : Int) := by
  unfold prefix_Size.f
  rw [put_f k (by simp) h1 h2 (by omega) hv hv2]
  simp [bnd1]
theorem size_bad {n v : Int} (k : Nat) (h : n < 1 ∨ n > 8 ∨ v > 268435456) : prefix_Size.f k n v = some 0 := by
  unfold prefix_Size.f
  rw [put_bad k (by simp) h]
  rfl
theorem puts_l0 {n b v : Int} (h1 : 1 ≤ n) (h2 : n ≤ 8) (hb : 0 ≤ b ∧ b < 256) (hv : 0 ≤ v) (hv2 : v ≤ 268435456) : ∀ (m k j : Nat), m + j = (pre n b v).length → louverlaw02qPrefixPuts.l0 (k + m + 21) j n (pre n b v) = some true := by
  intro m
  induction m with
  | zero =>
    intro k j hj
    rw [show k + 0 + 21 = (k + 20) + 1 from rfl, louverlaw02qPrefixPuts.l0, if_neg (by omega), fixed_true]
    rfl
  | succ m ih =>
    intro k j hj
    have hlen := pre_len (b := b) h1 h2 hv hv2
    rw [show k + (m + 1) + 21 = (k + m + 21) + 1 by omega, louverlaw02qPrefixPuts.l0, if_pos (by omega), if_pos (by omega), if_pos (by omega), Int.toNat_natCast]
    rw [show k + m + 21 = (k + m + 15) + 6 from rfl, get_f (k + m + 15) (fun x hx => pre_byts h1 h2 hb hv hv2 x (List.mem_of_mem_take hx)) h1 h2]
    have := gd_cut (j := j) h1 h2 hb hv hv2 (by omega)
    generalize gd ((pre n b v).take j) n = g at this
    obtain ⟨g1, g2, g3⟩ := g
    simp only at this
    subst this
    simp only [bnd3]
    rw [if_pos trivial, wi64 (by omega) (by omega)]
    have := ih k (j + 1) (by omega)
    simpa using this
theorem louverlaw02qPrefixPuts_true (p0 : List Int) (p1 p2 p3 : Int) (p4 : List Int) (h0 : okL 1 (okI .u8) p0) (h1 : okI .i64 p1) (h2 : okI .u8 p2) (h3 : okI .u32 p3) (h4 : okL 1 (okI .u8) p4) : ∃ k, louverlaw02qPrefixPuts.f k p0 p1 p2 p3 p4 = some true := by
  refine ⟨40, ?_⟩
  have hf : louverlaw02qfixed.f 40 = some true := fixed_true 20
  have hb := okI_u8.1 h2
  have hv := okI_u32.1 h3
  unfold louverlaw02qPrefixPuts.f
  rw [hf]
  by_cases c1 : (p0.length : Int) > 3000
  · rw [if_pos c1]
    rfl
  rw [if_neg c1]
  by_cases c2 : (p4.length : Int) > 3000
  · rw [if_pos c2]
    rfl
  rw [if_neg c2]
  by_cases hn : 1 ≤ p1 ∧ p1 ≤ 8 ∧ p3 ≤ 268435456
  · obtain ⟨n1, n2, n3⟩ := hn
    have hlen := pre_len (b := p2) n1 n2 hv.1 n3
    have hpb := pre_byts n1 n2 hb hv.1 n3
    rw [show (40 : Nat) = 36 + 4 from rfl, put_f 36 (by omega) n1 n2 hb hv.1 n3]
    simp only [bnd1]
    rw [if_neg (by omega), if_neg (by omega), if_neg (by omega), show (36 + 4 : Nat) = 31 + 9 from rfl, rput_f 31 n1 n2 hb hv.1 n3]
    simp only
    rw [if_pos (by simp only [toS_length]; omega), if_pos (toS_append _ _), show (31 + 9 : Nat) = 36 + 4 from rfl, size_f 36 n1 n2 hv.1 n3]
    simp only
    rw [if_pos (by rw [(pre_any (n := p1) (b := 0) (b' := p2) (v := p3)).1]), if_pos (by simp; omega)]
    simp only [lt1, List.nil_append]
    rw [if_pos (by omega), show (36 + 4 : Nat) = 34 + 6 from rfl, get_f 34 (by
      intro x hx
      rcases List.mem_append.1 hx with hx | hx
      · exact hpb x hx
      · exact byts_of h4 x hx) n1 n2, gd_pre p4 n1 n2 hb hv.1 n3]
    simp only [bnd3]
    rw [if_pos trivial, if_pos trivial, if_pos trivial]
    have := puts_l0 n1 n2 hb hv.1 n3 (pre p1 p2 p3).length (19 - (pre p1 p2 p3).length) 0 (by omega)
    rwa [show 19 - (pre p1 p2 p3).length + (pre p1 p2 p3).length + 21 = 34 + 6 by omega] at this
  · rw [put_bad 40 (by omega) (by omega), size_bad 40 (by omega)]
    simp only [bnd1]
    by_cases c3 : p1 < 1
    · rw [if_pos c3]
      simp
    rw [if_neg c3]
    by_cases c4 : p1 > 8
    · rw [if_pos c4]
      simp
    · rw [if_neg c4, if_pos (by omega)]
      simp
end Go.Proofs.Ytonhiiedhnhanaa.Sl
