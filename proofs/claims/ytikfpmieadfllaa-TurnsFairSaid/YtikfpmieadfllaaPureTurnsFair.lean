/- louverlaw13qTurnsFair_true, plain: what the program's functions compute answers as the statement says. -/
import Derived.Test.YtikfpmieadfllaaCodeTurnsFair1
import Derived.Test.YtikfpmieadfllaaSlP
import Derived.KernelRfl
set_option linter.unusedVariables false
set_option linter.unusedSimpArgs false
namespace Go.Proofs.Ytikfpmieadfllaa.Sl
open Go Go.Proofs.Sl
theorem mn_eq (x y : Int) : mnI x y = min x y := by unfold mnI; split <;> omega
theorem mx_eq (x y : Int) : mxI x y = max x y := by unfold mxI; split <;> omega
theorem fixed_true (k : Nat) : louverlaw13qfixed.f (k + 20) = some true := by kernel_rfl
theorem gt_nat {α : Type} {z : α} {l : List α} {i : Nat} (h : i < l.length) : gt z l (i : Int) = l[i] := by
  simp [gt, List.getD_eq_getElem?_getD, h]
/-- A stream's place, as find tells it. -/
def at_ (s : Int) (l : List S72) : Nat := l.findIdx (fun x => decide (x.f0 = s))
def atI (s : Int) (l : List S72) : Int := if at_ s l < l.length then (at_ s l : Int) else -1
theorem idx_l0 (p : S72 → Bool) (l : List S72) (hl : l.length < 4611686018427387904) : ∀ (n i k : Nat), n = l.length - i → i ≤ l.length → n < k →
    slices_IndexFunc.l0 k i l p = some (if i + (l.drop i).findIdx p < l.length then ((i + (l.drop i).findIdx p : Nat) : Int) else -1) := by
  intro n
  induction n with
  | zero =>
    intro i k hn hi hk
    obtain ⟨k, rfl⟩ : ∃ m, k = m + 1 := ⟨k - 1, by omega⟩
    obtain rfl : i = l.length := by omega
    simp [slices_IndexFunc.l0]
  | succ n ih =>
    intro i k hn hi hk
    obtain ⟨k, rfl⟩ : ∃ m, k = m + 1 := ⟨k - 1, by omega⟩
    have hlt : i < l.length := by omega
    rw [slices_IndexFunc.l0, if_pos (by omega), if_pos (by omega)]
    simp only [lt1]
    rw [gt_nat hlt, List.drop_eq_getElem_cons hlt, List.findIdx_cons]
    by_cases hp : p l[i] = true
    · simp [hp, hlt]
    · rw [if_neg hp, wi64 (by omega) (by omega)]
      have := ih (i + 1) k (by omega) (by omega) (by omega)
      push_cast at this ⊢
      rw [this]
      simp only [hp, cond_false]
      congr 1
      split <;> split <;> first | rfl | omega
theorem find_f (k : Nat) (r : S69) (s : Int) (hl : r.f0.length < 1073741824) (hk : r.f0.length < k) : turns_Ring_find.f k r s = some (atI s r.f0) := by
  unfold turns_Ring_find.f slices_IndexFunc.f
  have := idx_l0 (turns_Ring_find_1.g s) r.f0 (by omega) r.f0.length 0 k (by omega) (by omega) hk
  rw [show ((0 : Nat) : Int) = 0 from rfl] at this
  rw [this]
  simp only [bnd1, List.drop_zero, Nat.zero_add]
  rfl
/-- Can a stream send, where the connection has so much left? -/
def can (w : Int) (s : S72) : Bool := if s.f1 = [] then s.f2 && !s.f3 else decide (s.f4.f0 > 0) && decide (w > 0)
theorem can_f (s : S72) (w : Int) : turns_sender_can.f s w = some (can w s) := by
  unfold turns_sender_can.f can window_Window_Left.f
  by_cases h : s.f1 = []
  · simp only [h, List.length_nil, Int.natCast_zero, if_true]
    cases s.f2 <;> simp
  · have : ¬ ((s.f1.length : Int) = 0) := by
      intro h'
      exact h (List.length_eq_zero_iff.1 (by omega))
    rw [if_neg this, if_neg h]
    simp only [bnd1]
    by_cases h2 : s.f4.f0 > 0 <;> simp [h2]
/-- What may be so. -/
structure Sok (s : S72) : Prop where
  b : s.f1.length ≤ 70368744177664
  w : -2147483648 ≤ s.f4.f0 ∧ s.f4.f0 ≤ 2147483648
structure Rok (r : S69) : Prop where
  n : r.f0.length < 1073741824
  t : 0 ≤ r.f1 ∧ (r.f1 < r.f0.length ∨ r.f1 = 0)
  w : -2147483648 ≤ r.f2.f0 ∧ r.f2.f0 ≤ 2147483648
  s : ∀ s ∈ r.f0, Sok s
/-- How much is sent. -/
def am (s : S72) (w m : Int) : Int := min (min (min (s.f1.length : Int) (max m 1)) (max s.f4.f0 0)) (max w 0)
def cutS (s : S72) (a : Int) : S72 := ⟨s.f0, s.f1.drop a.toNat, s.f2, s.f2 && decide (((s.f1.drop a.toNat).length : Int) = 0), ⟨s.f4.f0 - a, s.f4.f1⟩⟩
def sent (r : S69) (i : Nat) (m : Int) : Int × List Int × Bool × Bool × S69 :=
  let s := gt z72 r.f0 i
  let a := am s r.f2.f0 m
  (s.f0, s.f1.take a.toNat, (cutS s a).f3, true, ⟨r.f0.set i (cutS s a), Int.tmod ((i : Int) + 1) r.f0.length, ⟨r.f2.f0 - a, r.f2.f1⟩⟩)
/-- The row, turned so that its turn stands first. -/
def rot {α : Type} (t : Nat) (l : List α) : List α := l.drop t ++ l.take t
theorem rot_len {α : Type} (t : Nat) (l : List α) : (rot t l).length = l.length := by simp [rot]; omega
theorem rot_get {α : Type} {t : Nat} {l : List α} {j : Nat} (ht : t < l.length) (hj : j < l.length) : (rot t l)[j]? = l[(t + j) % l.length]? := by
  unfold rot
  by_cases h : t + j < l.length
  · rw [List.getElem?_append_left (by simp; omega), List.getElem?_drop, Nat.mod_eq_of_lt h]
  · rw [List.getElem?_append_right (by simp; omega), List.length_drop, List.getElem?_take_of_lt (by omega)]
    congr 1
    rw [Nat.mod_eq_sub_mod (by omega), Nat.mod_eq_of_lt (by omega)]
    omega
def nxt (r : S69) (m : Int) : Int × List Int × Bool × Bool × S69 :=
  if (rot r.f1.toNat r.f0).findIdx (can r.f2.f0) < r.f0.length then sent r ((r.f1.toNat + (rot r.f1.toNat r.f0).findIdx (can r.f2.f0)) % r.f0.length) m else (0, [], false, false, r)
theorem take_w (w : S94) (a : Int) (hw : -2147483648 ≤ w.f0 ∧ w.f0 ≤ 2147483648) (h0 : 0 ≤ a) (h1 : a ≤ max w.f0 0) : window_Window_Take.f w a = some (true, ⟨w.f0 - a, w.f1⟩) := by
  unfold window_Window_Take.f
  rw [if_neg (by omega), mx_eq, if_neg (by omega), wi64 (by omega) (by omega)]
theorem clone_f (l : List Int) (h : l.length ≤ 140737488355328) : bytes_Clone.f l = some l := by
  unfold bytes_Clone.f
  rw [if_pos (by simpa using h)]
  rfl
theorem next_l0 (r : S69) (m : Int) (hr : Rok r) : ∀ (d j k : Nat), d = r.f0.length - j → j ≤ r.f0.length → d < k → (∀ i < j, ∀ s, (rot r.f1.toNat r.f0)[i]? = some s → can r.f2.f0 s = false) →
    turns_Ring_Next.l0 k r j r m = some (nxt r m) := by
  obtain ⟨hn, ht, hw, hs⟩ := hr
  obtain ⟨l, t, w⟩ := r
  simp only at hn ht hw hs ⊢
  obtain ⟨t, rfl⟩ : ∃ u : Nat, t = u := ⟨t.toNat, by omega⟩
  simp only [Int.toNat_natCast]
  intro d
  induction d with
  | zero =>
    intro j k hd hj hk hno
    obtain ⟨k, rfl⟩ : ∃ m, k = m + 1 := ⟨k - 1, by omega⟩
    obtain rfl : j = l.length := by omega
    rw [turns_Ring_Next.l0, if_neg (by simp)]
    unfold nxt
    rw [if_neg]
    simp only [Int.toNat_natCast]
    have := List.findIdx_le_length (xs := rot t l) (p := can w.f0)
    rw [rot_len] at this
    intro hlt
    have hlt' : (rot t l).findIdx (can w.f0) < (rot t l).length := by rw [rot_len]; exact hlt
    have hc := List.findIdx_getElem (w := hlt')
    have := hno _ hlt _ (List.getElem?_eq_getElem hlt')
    rw [this] at hc
    cases hc
  | succ d ih =>
    intro j k hd hj hk hno
    obtain ⟨k, rfl⟩ : ∃ m, k = m + 1 := ⟨k - 1, by omega⟩
    have hjl : j < l.length := by omega
    have htl : t < l.length := by omega
    have ei : Int.tmod (IntKind.i64.wrap ((t : Int) + (j : Int))) (l.length : Int) = (((t + j) % l.length : Nat) : Int) := by
      rw [wi64 (by omega) (by omega), Int.tmod_eq_emod_of_nonneg (by omega)]
      push_cast
      rfl
    have hil : (t + j) % l.length < l.length := Nat.mod_lt _ (by omega)
    obtain ⟨i, hi⟩ : ∃ i, i = (t + j) % l.length := ⟨_, rfl⟩
    rw [turns_Ring_Next.l0]
    simp only [ei]
    rw [← hi] at hil ⊢
    have eg := rot_get htl hjl
    rw [← hi, List.getElem?_eq_getElem hil] at eg
    rw [if_pos (by omega), if_pos (by omega), if_pos (by omega), if_pos (by omega)]
    simp only [lt1, bnd1, window_Window_Left.f, can_f]
    rw [gt_nat hil]
    obtain ⟨s, hse⟩ : ∃ s, s = l[i] := ⟨_, rfl⟩
    rw [← hse] at eg ⊢
    have hso := hs s (hse ▸ List.getElem_mem hil)
    by_cases hc : can w.f0 s = true
    · rw [if_pos hc]
      have ha : mnI (mnI (mnI (s.f1.length : Int) (mxI m 1)) (mxI s.f4.f0 0)) (mxI w.f0 0) = am s w.f0 m := by simp only [mn_eq, mx_eq]; rfl
      simp only [ha]
      have a0 : 0 ≤ am s w.f0 m := by unfold am; omega
      have a1 : am s w.f0 m ≤ s.f1.length := by unfold am; omega
      have a2 : am s w.f0 m ≤ max s.f4.f0 0 := by unfold am; omega
      have a3 : am s w.f0 m ≤ max w.f0 0 := by unfold am; omega
      rw [take_w _ _ hso.w a0 a2, take_w _ _ hw a0 a3]
      have hb := hso.b
      simp only [bnd2]
      rw [if_pos a0, if_pos a1, clone_f _ (by simp; omega), clone_f _ (by simp; omega)]
      have e2 : Int.tmod (IntKind.i64.wrap ((i : Int) + 1)) (l.length : Int) = Int.tmod ((i : Int) + 1) (l.length : Int) := by rw [wi64 (by omega) (by omega)]
      have hq : (rot t l).findIdx (can w.f0) = j := by
        have hjr : j < (rot t l).length := by rw [rot_len]; exact hjl
        rw [List.findIdx_eq hjr]
        refine ⟨?_, fun i' hi' => ?_⟩
        · rw [List.getElem?_eq_getElem hjr] at eg
          injection eg with eg
          rw [eg]
          exact hc
        · exact hno i' hi' _ (List.getElem?_eq_getElem (by omega))
      unfold nxt sent
      simp only [Int.toNat_natCast]
      rw [hq, if_pos hjl, ← hi, gt_nat hil, ← hse]
      simp only [e2, cutS, bnd1, Int.toNat_natCast]
      cases h2 : s.f2 <;> simp
    · rw [if_neg hc, wi64 (by omega) (by omega)]
      have := ih (j + 1) k (by omega) (by omega) (by omega) (fun i' hi' s' hs' => by
        rcases Nat.lt_succ_iff_lt_or_eq.1 hi' with h | h
        · exact hno i' h s' hs'
        · subst h
          rw [eg] at hs'
          injection hs' with hs'
          subst hs'
          simpa using hc)
      push_cast at this ⊢
      exact this
theorem next_f (k : Nat) (r : S69) (m : Int) (hr : Rok r) (hk : r.f0.length < k) : turns_Ring_Next.f k r m = some (nxt r m) := by
  unfold turns_Ring_Next.f
  exact next_l0 r m hr r.f0.length 0 k (by omega) (by omega) hk (fun i hi => by omega)
theorem at_eq {s : Int} {l : List S72} (h : at_ s l < l.length) : (l[at_ s l]).f0 = s := by
  have := List.findIdx_getElem (w := h)
  exact of_decide_eq_true this
theorem atI_lo {s : Int} {l : List S72} : atI s l < 0 ↔ ¬ at_ s l < l.length := by
  unfold atI
  split <;> rename_i h <;> simp [h]
def clampW (x : Int) : Int := min (max x (-2147483648)) 2147483647
theorem wnew_f (x : Int) (b : Bool) : window_New.f x b = some ⟨clampW x, b⟩ := by
  unfold window_New.f clampW
  rw [mn_eq, mx_eq]
theorem rnew_f (x : Int) : turns_New.f x = some ⟨[], 0, ⟨clampW x, false⟩⟩ := by
  unfold turns_New.f
  rw [wnew_f]
  rfl
def opn (r : S69) (s left : Int) : Bool × S69 :=
  if s = 0 ∨ at_ s r.f0 < r.f0.length then (false, r) else (true, ⟨r.f0 ++ [⟨s, [], false, false, ⟨clampW left, true⟩⟩], r.f1, r.f2⟩)
theorem open_f (k : Nat) (r : S69) (s left : Int) (hl : r.f0.length < 1073741824) (hk : r.f0.length < k) : turns_Ring_Open.f k r s left = some (opn r s left) := by
  unfold turns_Ring_Open.f opn
  by_cases h : s = 0
  · rw [if_pos h, if_pos (.inl h)]
  · rw [if_neg h, find_f k r s hl hk]
    simp only [bnd1, wnew_f]
    by_cases h2 : at_ s r.f0 < r.f0.length
    · rw [if_pos (by have := @atI_lo s r.f0; omega), if_pos (.inr h2)]
    · rw [if_neg (show ¬ atI s r.f0 ≥ 0 by have := @atI_lo s r.f0; omega), if_pos (show r.f0.length + 1 ≤ 17592186044416 by omega), if_neg (show ¬ (s = 0 ∨ at_ s r.f0 < r.f0.length) by simp only [h, h2]; simp)]
      rfl
def putS (s : S72) (b : List Int) (e : Bool) : S72 := ⟨s.f0, s.f1 ++ b, e, s.f3, s.f4⟩
def put (r : S69) (s : Int) (b : List Int) (e : Bool) : Bool × S69 :=
  if at_ s r.f0 < r.f0.length then (if (gt z72 r.f0 (at_ s r.f0)).f2 = true then (false, r) else (true, ⟨r.f0.set (at_ s r.f0) (putS (gt z72 r.f0 (at_ s r.f0)) b e), r.f1, r.f2⟩)) else (false, r)
theorem atI_pos {s : Int} {l : List S72} (h : at_ s l < l.length) : atI s l = at_ s l := by unfold atI; rw [if_pos h]
theorem atI_neg {s : Int} {l : List S72} (h : ¬ at_ s l < l.length) : atI s l = -1 := by unfold atI; rw [if_neg h]
theorem put_f (k : Nat) (r : S69) (s : Int) (b : List Int) (e : Bool) (hr : Rok r) (hb : b.length ≤ 70368744177664) (hk : r.f0.length < k) : turns_Ring_Put.f k r s b e = some (put r s b e) := by
  unfold turns_Ring_Put.f put
  rw [find_f k r s hr.n hk]
  simp only [bnd1]
  by_cases h2 : at_ s r.f0 < r.f0.length
  · rw [if_pos h2, atI_pos h2, if_neg (by omega), if_pos (by omega), if_pos (by omega)]
    simp only [lt1]
    by_cases h3 : (gt z72 r.f0 (at_ s r.f0)).f2 = true
    · rw [if_pos h3, if_pos h3]
    · rw [if_neg h3, if_neg h3]
      have := (hr.s _ (List.getElem_mem h2)).b
      rw [← gt_nat (z := z72) h2] at this
      rw [if_pos (by omega)]
      rfl
  · rw [if_neg h2, atI_neg h2, if_pos (by omega)]
theorem nxt_first (r : S69) (m : Int) (q : Nat) (ht : r.f1 = q) (hq : q < r.f0.length) (hc : can r.f2.f0 (r.f0[q]) = true) : nxt r m = sent r q m := by
  have e : (rot q r.f0).findIdx (can r.f2.f0) = 0 := by
    unfold rot
    rw [List.drop_eq_getElem_cons hq, List.cons_append, List.findIdx_cons, hc]
    rfl
  unfold nxt
  rw [ht, Int.toNat_natCast, e, if_pos (by omega), Nat.add_zero, Nat.mod_eq_of_lt hq]
structure Fi (K p q : Nat) (r : S69) : Prop where
  n : r.f0.length = K
  t : r.f1 = q
  w : 1073741824 - 100 * (30 * (p : Int) + q) ≤ r.f2.f0 ∧ r.f2.f0 ≤ 1073741824
  s : ∀ (j : Nat) s, r.f0[j]? = some s → s.f0 = j + 1 ∧ s.f2 = false ∧ 2000 - 100 * ((p : Int) + if j < q then 1 else 0) ≤ s.f1.length ∧ s.f1.length ≤ 2000 ∧
    1073741824 - 100 * ((p : Int) + if j < q then 1 else 0) ≤ s.f4.f0 ∧ s.f4.f0 ≤ 1073741824
theorem Fi.step {K p q : Nat} {r : S69} {sz : Int} (hK : 1 ≤ K ∧ K ≤ 30) (hp : p ≤ 2) (hq : q < K) (hz : 1 ≤ sz ∧ sz ≤ 100) (h : Fi K p q r) :
    ∃ b r', nxt r sz = ((q : Int) + 1, b, false, true, r') ∧ (b.length : Int) = sz ∧ r'.f0 = r.f0.set q (cutS (gt z72 r.f0 q) sz) ∧ r'.f1 = Int.tmod ((q : Int) + 1) K ∧ r'.f2 = ⟨r.f2.f0 - sz, r.f2.f1⟩ := by
  obtain ⟨hn, ht, hw, hs⟩ := h
  have hql : q < r.f0.length := by omega
  obtain ⟨s0, s1, s2, s3, s4, s5⟩ := hs q _ (List.getElem?_eq_getElem hql)
  rw [if_neg (by omega)] at s2 s4
  have hc : can r.f2.f0 r.f0[q] = true := by
    unfold can
    rw [if_neg (by intro h; rw [h] at s2; simp at s2; omega)]
    simp only [Bool.and_eq_true, decide_eq_true_eq]
    omega
  have ha : am (gt z72 r.f0 q) r.f2.f0 sz = sz := by
    rw [gt_nat hql]
    unfold am
    omega
  refine ⟨(gt z72 r.f0 q).f1.take sz.toNat, ⟨r.f0.set q (cutS (gt z72 r.f0 q) sz), Int.tmod ((q : Int) + 1) r.f0.length, ⟨r.f2.f0 - sz, r.f2.f1⟩⟩, (nxt_first r sz q ht hql hc).trans ?_, ?_, rfl, by rw [hn], rfl⟩
  · unfold sent
    simp only [ha]
    rw [gt_nat hql, s0]
    simp [cutS, s1]
  · rw [gt_nat hql, List.length_take]
    omega
theorem Fi.next {K p q : Nat} {r r' : S69} {sz : Int} (hK : 1 ≤ K ∧ K ≤ 30) (hp : p ≤ 2) (hq : q < K) (hz : 1 ≤ sz ∧ sz ≤ 100) (h : Fi K p q r) (h0 : r'.f0 = r.f0.set q (cutS (gt z72 r.f0 q) sz)) (h1 : r'.f1 = Int.tmod ((q : Int) + 1) K) (h2 : r'.f2 = ⟨r.f2.f0 - sz, r.f2.f1⟩) :
    Fi K (if q + 1 < K then p else p + 1) (if q + 1 < K then q + 1 else 0) r' := by
  obtain ⟨hn, ht, hw, hs⟩ := h
  have hql : q < r.f0.length := by omega
  obtain ⟨s0, s1, s2, s3, s4, s5⟩ := hs q _ (List.getElem?_eq_getElem hql)
  rw [if_neg (by omega)] at s2 s4
  have hset : ∀ (j : Nat) s, (r.f0.set q (cutS (gt z72 r.f0 q) sz))[j]? = some s → s.f0 = j + 1 ∧ s.f2 = false ∧ 2000 - 100 * ((p : Int) + if j < q + 1 then 1 else 0) ≤ s.f1.length ∧ s.f1.length ≤ 2000 ∧
    1073741824 - 100 * ((p : Int) + if j < q + 1 then 1 else 0) ≤ s.f4.f0 ∧ s.f4.f0 ≤ 1073741824 := by
    intro j s hj
    rw [List.getElem?_set] at hj
    by_cases e : q = j
    · subst e
      rw [if_pos rfl, if_pos hql] at hj
      injection hj with hj
      subst hj
      rw [gt_nat hql, if_pos (by omega)]
      simp only [cutS, List.length_drop]
      exact ⟨s0, s1, by omega, by omega, by omega, by omega⟩
    · rw [if_neg e] at hj
      obtain ⟨a0, a1, a2, a3, a4, a5⟩ := hs j s hj
      by_cases hjq : j < q
      · rw [if_pos hjq] at a2 a4
        rw [if_pos (by omega)]
        exact ⟨a0, a1, a2, a3, a4, a5⟩
      · rw [if_neg hjq] at a2 a4
        rw [if_neg (by omega)]
        exact ⟨a0, a1, a2, a3, a4, a5⟩
  rw [Int.tmod_eq_emod_of_nonneg (by omega)] at h1
  by_cases hqK : q + 1 < K
  · rw [if_pos hqK, if_pos hqK]
    refine ⟨by rw [h0, List.length_set]; exact hn, by rw [h1, Int.emod_eq_of_lt (by omega) (by omega)]; omega, by rw [h2]; simp only; omega, fun j s hj => hset j s (h0 ▸ hj)⟩
  · rw [if_neg hqK, if_neg hqK]
    have e : (q : Int) + 1 = K := by omega
    refine ⟨by rw [h0, List.length_set]; exact hn, by rw [h1, e, Int.emod_self]; rfl, by rw [h2]; simp only; omega, fun j s hj => ?_⟩
    obtain ⟨a0, a1, a2, a3, a4, a5⟩ := hset j s (h0 ▸ hj)
    have hj' : j < K := by
      have := (List.getElem?_eq_some_iff.1 hj).1
      rw [h0, List.length_set] at this
      omega
    rw [if_pos (by omega)] at a2 a4
    rw [if_neg (by omega)]
    exact ⟨a0, a1, by omega, a3, by omega, a5⟩
theorem Fi.rok {K p q : Nat} {r : S69} (hK : 1 ≤ K ∧ K ≤ 30) (hp : p ≤ 3) (hq : q < K) (h : Fi K p q r) : Rok r := by
  obtain ⟨hn, ht, hw, hs⟩ := h
  refine ⟨by omega, by omega, by omega, fun s hs' => ?_⟩
  obtain ⟨j, hj⟩ := List.getElem?_of_mem hs'
  obtain ⟨a0, a1, a2, a3, a4, a5⟩ := hs j s hj
  refine ⟨by omega, ?_⟩
  split at a4 <;> omega
theorem fair_l1 (p0 p1 : Int) (K : Nat) (sz : Int) (hK : 1 ≤ K ∧ K ≤ 30) (hz : 1 ≤ sz ∧ sz ≤ 100) (eK : IntKind.i64.wrap (1 + (Int.tmod (IntKind.i64.wrap p0) 30)) = K) (ez : IntKind.i64.wrap (1 + (Int.tmod (IntKind.i64.wrap p1) 100)) = sz) :
    ∀ (d p q : Nat) (r : S69) (k : Nat), p * K + q + d = 3 * K → q < K → p ≤ 3 → Fi K p q r → 200 + d ≤ k → louverlaw13qTurnsFair.l1 k r ((p * K + q : Nat) : Int) p0 p1 = some true := by
  intro d
  induction d with
  | zero =>
    intro p q r k he hq hp hf hk
    obtain ⟨k, rfl⟩ : ∃ m, k = m + 20 + 1 := ⟨k - 21, by omega⟩
    rw [louverlaw13qTurnsFair.l1, eK, wi64 (by omega) (by omega), if_neg (by omega), fixed_true]
    rfl
  | succ d ih =>
    intro p q r k he hq hp hf hk
    obtain ⟨k, rfl⟩ : ∃ m, k = m + 1 := ⟨k - 1, by omega⟩
    have hp2 : p ≤ 2 := by
      rcases Nat.lt_or_ge p 3 with h | h
      · omega
      · obtain rfl : p = 3 := by omega
        omega
    rw [louverlaw13qTurnsFair.l1]
    simp only [eK, ez]
    rw [wi64 (x := 3 * (K : Int)) (by omega) (by omega), if_pos (by omega), next_f k r sz (hf.rok hK hp hq) (by rw [hf.n]; omega)]
    obtain ⟨b, r', en, eb, e0, e1, e2⟩ := hf.step hK hp2 hq hz
    rw [en]
    have em : Int.tmod ((p * K + q : Nat) : Int) (K : Int) = q := by
      rw [Int.tmod_eq_emod_of_nonneg (by omega)]
      have : (p * K + q) % K = q := by rw [Nat.add_comm, Nat.add_mul_mod_self_right, Nat.mod_eq_of_lt hq]
      exact_mod_cast this
    simp only [bnd5, em]
    rw [if_pos trivial, if_neg (by simp), if_pos (by omega), wi64 (x := (q : Int) + 1) (by omega) (by omega), wu32 (by omega) (by omega), if_pos rfl, if_pos eb]
    have hb : p * K + q < 9223372036854775807 := by omega
    rw [wi64 (by omega) (by omega)]
    have hf' := hf.next hK hp2 hq hz e0 e1 e2
    by_cases hqK : q + 1 < K
    · rw [if_pos hqK, if_pos hqK] at hf'
      have := ih p (q + 1) r' k (by omega) hqK hp hf' (by omega)
      rw [← this]
      congr 1
    · rw [if_neg hqK, if_neg hqK] at hf'
      have e : p * K + q + 1 = (p + 1) * K + 0 := by rw [Nat.add_mul]; omega
      have := ih (p + 1) 0 r' k (by omega) (by omega) (by omega) hf' (by omega)
      rw [← this, ← e]
      congr 1
def fs (n : Nat) : S72 := ⟨(n : Int) + 1, List.replicate 2000 0, false, false, ⟨1073741824, true⟩⟩
theorem fs_b (n : Nat) : (fs n).f1.length = 2000 := by unfold fs; exact List.length_replicate
theorem t2000 : (2000 : Int).toNat = 2000 := rfl
def fl (n : Nat) : List S72 := (List.range n).map fs
theorem fl_len (n : Nat) : (fl n).length = n := by simp [fl]
theorem fl_succ (n : Nat) : fl (n + 1) = fl n ++ [fs n] := by simp [fl, List.range_succ]
theorem fl_get {n j : Nat} (h : j < n) : (fl n)[j]? = some (fs j) := by simp [fl, h]
theorem at_none {s : Int} {l : List S72} (h : ∀ x ∈ l, x.f0 ≠ s) : ¬ at_ s l < l.length := by
  intro hl
  exact h _ (List.getElem_mem hl) (at_eq hl)
theorem at_snoc {s : Int} {l : List S72} {x : S72} (h : ∀ x ∈ l, x.f0 ≠ s) (hx : x.f0 = s) : at_ s (l ++ [x]) = l.length := by
  unfold at_
  rw [List.findIdx_append]
  have : ¬ at_ s l < l.length := at_none h
  unfold at_ at this
  rw [if_neg this]
  simp [List.findIdx_cons, hx]
theorem open_new {r : S69} {s left : Int} (h0 : s ≠ 0) (h : ∀ x ∈ r.f0, x.f0 ≠ s) : opn r s left = (true, ⟨r.f0 ++ [⟨s, [], false, false, ⟨clampW left, true⟩⟩], r.f1, r.f2⟩) := by
  unfold opn
  rw [if_neg]
  simp only [h0, false_or]
  exact at_none h
theorem put_last {l : List S72} {t : Int} {w : S94} {s : S72} {b : List Int} {e : Bool} (h : ∀ x ∈ l, x.f0 ≠ s.f0) (he : s.f2 = false) : put ⟨l ++ [s], t, w⟩ s.f0 b e = (true, ⟨l ++ [putS s b e], t, w⟩) := by
  unfold put
  simp only
  rw [at_snoc h rfl, if_pos (by simp), gt_nat (by simp), List.getElem_append_right (Nat.le_refl _)]
  simp [he]
theorem fair_l0 (p0 p1 : Int) (K : Nat) (sz : Int) (hK : 1 ≤ K ∧ K ≤ 30) (hz : 1 ≤ sz ∧ sz ≤ 100) (eK : IntKind.i64.wrap (1 + (Int.tmod (IntKind.i64.wrap p0) 30)) = K) (ez : IntKind.i64.wrap (1 + (Int.tmod (IntKind.i64.wrap p1) 100)) = sz) :
    ∀ (d j k : Nat), j + d = K → 400 + d ≤ k → louverlaw13qTurnsFair.l0 k ⟨fl j, 0, ⟨1073741824, false⟩⟩ j p0 p1 = some true := by
  intro d
  induction d with
  | zero =>
    intro j k he hk
    obtain ⟨k, rfl⟩ : ∃ m, k = m + 1 := ⟨k - 1, by omega⟩
    obtain rfl : j = K := by omega
    rw [louverlaw13qTurnsFair.l0, eK, if_neg (by omega)]
    have := fair_l1 p0 p1 j sz hK hz eK ez (3 * j) 0 0 ⟨fl j, 0, ⟨1073741824, false⟩⟩ k (by omega) (by omega) (by omega) ⟨by simp [fl_len], rfl, by simp, fun i s hi => ?_⟩ (by omega)
    · simpa using this
    · simp only at hi
      have hlt : i < j := by
        have := (List.getElem?_eq_some_iff.1 hi).1
        rwa [fl_len] at this
      rw [fl_get hlt] at hi
      injection hi with hi
      subst hi
      rw [fs_b]
      refine ⟨rfl, rfl, ?_, ?_, ?_, ?_⟩ <;> (try simp only [fs]) <;> simp
  | succ d ih =>
    intro j k he hk
    obtain ⟨k, rfl⟩ : ∃ m, k = m + 1 := ⟨k - 1, by omega⟩
    rw [louverlaw13qTurnsFair.l0, eK, if_pos (by omega), wi64 (x := (j : Int) + 1) (by omega) (by omega), wu32 (by omega) (by omega)]
    have hne : ∀ x ∈ fl j, x.f0 ≠ (j : Int) + 1 := by
      intro x hx
      simp only [fl, List.mem_map, List.mem_range] at hx
      obtain ⟨i, hi, rfl⟩ := hx
      simp only [fs]
      omega
    have hso : ∀ x ∈ fl j, Sok x := by
      intro x hx
      simp only [fl, List.mem_map, List.mem_range] at hx
      obtain ⟨i, hi, rfl⟩ := hx
      exact ⟨by rw [fs_b]; omega, by simp only [fs]; omega⟩
    rw [open_f k _ _ _ (by simp only [fl_len]; omega) (by simp only [fl_len]; omega), open_new (by omega) hne]
    simp only [bnd2, lt1]
    rw [if_pos trivial, put_f k _ _ _ _ ⟨by simp [fl_len]; omega, by simp, by simp, fun x hx => ?_⟩ (by rw [List.length_replicate, t2000]; omega) (by simp [fl_len]; omega)]
    · have := put_last (l := fl j) (t := 0) (w := ⟨1073741824, false⟩) (s := ⟨(j : Int) + 1, [], false, false, ⟨clampW 1073741824, true⟩⟩) (b := List.replicate (2000 : Int).toNat 0) (e := false) hne rfl
      simp only at this
      rw [this]
      simp only
      rw [if_pos trivial]
      have e : fl j ++ [putS ⟨(j : Int) + 1, [], false, false, ⟨clampW 1073741824, true⟩⟩ (List.replicate (2000 : Int).toNat 0) false] = fl (j + 1) := by
        have ec : clampW 1073741824 = 1073741824 := rfl
        obtain ⟨z, hz⟩ : ∃ z : List Int, z = List.replicate 2000 0 := ⟨_, rfl⟩
        simp only [fl_succ, t2000, ec, putS, List.nil_append, fs, ← hz]
      rw [e]
      have := ih (j + 1) k (by omega) (by omega)
      push_cast at this
      exact this
    · simp only [List.mem_append, List.mem_singleton] at hx
      rcases hx with hx | rfl
      · exact hso x hx
      · exact ⟨by simp, by simp only [clampW]; omega⟩
theorem louverlaw13qTurnsFair_true (p0 p1 : Int) (h0 : okI .u8 p0) (h1 : okI .u8 p1) : ∃ k, louverlaw13qTurnsFair.f k p0 p1 = some true := by
  rw [okI_u8] at h0 h1
  obtain ⟨N, hN⟩ : ∃ N : Nat, N = 1000 := ⟨_, rfl⟩
  refine ⟨N, ?_⟩
  unfold louverlaw13qTurnsFair.f
  rw [rnew_f]
  simp only [bnd1]
  have a0 : Int.tmod (IntKind.i64.wrap p0) 30 = p0 % 30 := by rw [wi64 (by omega) (by omega), Int.tmod_eq_emod_of_nonneg (by omega)]
  have a1 : Int.tmod (IntKind.i64.wrap p1) 100 = p1 % 100 := by rw [wi64 (by omega) (by omega), Int.tmod_eq_emod_of_nonneg (by omega)]
  exact fair_l0 p0 p1 (1 + p0 % 30).toNat (1 + p1 % 100) (by omega) (by omega) (by rw [a0, wi64 (by omega) (by omega)]; omega) (by rw [a1, wi64 (by omega) (by omega)]) (1 + p0 % 30).toNat 0 N (by omega) (by omega)
end Go.Proofs.Ytikfpmieadfllaa.Sl
