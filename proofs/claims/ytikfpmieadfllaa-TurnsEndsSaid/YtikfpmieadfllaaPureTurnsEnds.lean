/- louverlaw13qTurnsEnds_true, plain: what the program's functions compute answers as the statement says. -/
import Derived.Test.YtikfpmieadfllaaCodeTurnsEnds2
import Derived.Test.YtikfpmieadfllaaSlP
import Derived.KernelRfl
set_option linter.unusedVariables false
set_option linter.unusedSimpArgs false
namespace Go.Proofs.Ytikfpmieadfllaa.Sl
open Go Go.Proofs.Sl
theorem mn_eq (x y : Int) : mnI x y = min x y := by unfold mnI; split <;> omega
theorem mx_eq (x y : Int) : mxI x y = max x y := by unfold mxI; split <;> omega
theorem fixed_true (k : Nat) : louverlaw13qfixed.f (k + 20) = some true := by kernel_rfl
theorem gt_nat {α : Type} {z : α} {l : List α} {i : Nat} (h : i < l.length) : gt z l (i : Int) = l[i] := by
  simp [gt, List.getD_eq_getElem?_getD, h]
/-- A stream's place, as find tells it. -/
def at_ (s : Int) (l : List S72) : Nat := l.findIdx (fun x => decide (x.f0 = s))
def atI (s : Int) (l : List S72) : Int := if at_ s l < l.length then (at_ s l : Int) else -1
theorem idx_l0 (p : S72 → Bool) (l : List S72) (hl : l.length < 4611686018427387904) : ∀ (n i k : Nat), n = l.length - i → i ≤ l.length → n < k →
    slices_IndexFunc.l0 k i l p = some (if i + (l.drop i).findIdx p < l.length then ((i + (l.drop i).findIdx p : Nat) : Int) else -1) := by
  intro n
  induction n with
  | zero =>
    intro i k hn hi hk
    obtain ⟨k, rfl⟩ : ∃ m, k = m + 1 := ⟨k - 1, by omega⟩
    obtain rfl : i = l.length := by omega
    simp [slices_IndexFunc.l0]
  | succ n ih =>
    intro i k hn hi hk
    obtain ⟨k, rfl⟩ : ∃ m, k = m + 1 := ⟨k - 1, by omega⟩
    have hlt : i < l.length := by omega
    rw [slices_IndexFunc.l0, if_pos (by omega), if_pos (by omega)]
    simp only [lt1]
    rw [gt_nat hlt, List.drop_eq_getElem_cons hlt, List.findIdx_cons]
    by_cases hp : p l[i] = true
    · simp [hp, hlt]
    · rw [if_neg hp, wi64 (by omega) (by omega)]
      have := ih (i + 1) k (by omega) (by omega) (by omega)
      push_cast at this ⊢
      rw [this]
      simp only [hp, cond_false]
      congr 1
      split <;> split <;> first | rfl | omega
theorem find_f (k : Nat) (r : S69) (s : Int) (hl : r.f0.length < 1073741824) (hk : r.f0.length < k) : turns_Ring_find.f k r s = some (atI s r.f0) := by
  unfold turns_Ring_find.f slices_IndexFunc.f
  have := idx_l0 (turns_Ring_find_1.g s) r.f0 (by omega) r.f0.length 0 k (by omega) (by omega) hk
  rw [show ((0 : Nat) : Int) = 0 from rfl] at this
  rw [this]
  simp only [bnd1, List.drop_zero, Nat.zero_add]
  rfl
/-- Can a stream send, where the connection has so much left? -/
def can (w : Int) (s : S72) : Bool := if s.f1 = [] then s.f2 && !s.f3 else decide (s.f4.f0 > 0) && decide (w > 0)
theorem can_f (s : S72) (w : Int) : turns_sender_can.f s w = some (can w s) := by
  unfold turns_sender_can.f can window_Window_Left.f
  by_cases h : s.f1 = []
  · simp only [h, List.length_nil, Int.natCast_zero, if_true]
    cases s.f2 <;> simp
  · have : ¬ ((s.f1.length : Int) = 0) := by
      intro h'
      exact h (List.length_eq_zero_iff.1 (by omega))
    rw [if_neg this, if_neg h]
    simp only [bnd1]
    by_cases h2 : s.f4.f0 > 0 <;> simp [h2]
/-- What may be so. -/
structure Sok (s : S72) : Prop where
  b : s.f1.length ≤ 70368744177664
  w : -2147483648 ≤ s.f4.f0 ∧ s.f4.f0 ≤ 2147483648
structure Rok (r : S69) : Prop where
  n : r.f0.length < 1073741824
  t : 0 ≤ r.f1 ∧ (r.f1 < r.f0.length ∨ r.f1 = 0)
  w : -2147483648 ≤ r.f2.f0 ∧ r.f2.f0 ≤ 2147483648
  s : ∀ s ∈ r.f0, Sok s
/-- How much is sent. -/
def am (s : S72) (w m : Int) : Int := min (min (min (s.f1.length : Int) (max m 1)) (max s.f4.f0 0)) (max w 0)
def cutS (s : S72) (a : Int) : S72 := ⟨s.f0, s.f1.drop a.toNat, s.f2, s.f2 && decide (((s.f1.drop a.toNat).length : Int) = 0), ⟨s.f4.f0 - a, s.f4.f1⟩⟩
def sent (r : S69) (i : Nat) (m : Int) : Int × List Int × Bool × Bool × S69 :=
  let s := gt z72 r.f0 i
  let a := am s r.f2.f0 m
  (s.f0, s.f1.take a.toNat, (cutS s a).f3, true, ⟨r.f0.set i (cutS s a), Int.tmod ((i : Int) + 1) r.f0.length, ⟨r.f2.f0 - a, r.f2.f1⟩⟩)
/-- The row, turned so that its turn stands first. -/
def rot {α : Type} (t : Nat) (l : List α) : List α := l.drop t ++ l.take t
theorem rot_len {α : Type} (t : Nat) (l : List α) : (rot t l).length = l.length := by simp [rot]; omega
theorem rot_get {α : Type} {t : Nat} {l : List α} {j : Nat} (ht : t < l.length) (hj : j < l.length) : (rot t l)[j]? = l[(t + j) % l.length]? := by
  unfold rot
  by_cases h : t + j < l.length
  · rw [List.getElem?_append_left (by simp; omega), List.getElem?_drop, Nat.mod_eq_of_lt h]
  · rw [List.getElem?_append_right (by simp; omega), List.length_drop, List.getElem?_take_of_lt (by omega)]
    congr 1
    rw [Nat.mod_eq_sub_mod (by omega), Nat.mod_eq_of_lt (by omega)]
    omega
def nxt (r : S69) (m : Int) : Int × List Int × Bool × Bool × S69 :=
  if (rot r.f1.toNat r.f0).findIdx (can r.f2.f0) < r.f0.length then sent r ((r.f1.toNat + (rot r.f1.toNat r.f0).findIdx (can r.f2.f0)) % r.f0.length) m else (0, [], false, false, r)
theorem take_w (w : S94) (a : Int) (hw : -2147483648 ≤ w.f0 ∧ w.f0 ≤ 2147483648) (h0 : 0 ≤ a) (h1 : a ≤ max w.f0 0) : window_Window_Take.f w a = some (true, ⟨w.f0 - a, w.f1⟩) := by
  unfold window_Window_Take.f
  rw [if_neg (by omega), mx_eq, if_neg (by omega), wi64 (by omega) (by omega)]
theorem clone_f (l : List Int) (h : l.length ≤ 140737488355328) : bytes_Clone.f l = some l := by
  unfold bytes_Clone.f
  rw [if_pos (by simpa using h)]
  rfl
theorem next_l0 (r : S69) (m : Int) (hr : Rok r) : ∀ (d j k : Nat), d = r.f0.length - j → j ≤ r.f0.length → d < k → (∀ i < j, ∀ s, (rot r.f1.toNat r.f0)[i]? = some s → can r.f2.f0 s = false) →
    turns_Ring_Next.l0 k r j r m = some (nxt r m) := by
  obtain ⟨hn, ht, hw, hs⟩ := hr
  obtain ⟨l, t, w⟩ := r
  simp only at hn ht hw hs ⊢
  obtain ⟨t, rfl⟩ : ∃ u : Nat, t = u := ⟨t.toNat, by omega⟩
  simp only [Int.toNat_natCast]
  intro d
  induction d with
  | zero =>
    intro j k hd hj hk hno
    obtain ⟨k, rfl⟩ : ∃ m, k = m + 1 := ⟨k - 1, by omega⟩
    obtain rfl : j = l.length := by omega
    rw [turns_Ring_Next.l0, if_neg (by simp)]
    unfold nxt
    rw [if_neg]
    simp only [Int.toNat_natCast]
    have := List.findIdx_le_length (xs := rot t l) (p := can w.f0)
    rw [rot_len] at this
    intro hlt
    have hlt' : (rot t l).findIdx (can w.f0) < (rot t l).length := by rw [rot_len]; exact hlt
    have hc := List.findIdx_getElem (w := hlt')
    have := hno _ hlt _ (List.getElem?_eq_getElem hlt')
    rw [this] at hc
    cases hc
  | succ d ih =>
    intro j k hd hj hk hno
    obtain ⟨k, rfl⟩ : ∃ m, k = m + 1 := ⟨k - 1, by omega⟩
    have hjl : j < l.length := by omega
    have htl : t < l.length := by omega
    have ei : Int.tmod (IntKind.i64.wrap ((t : Int) + (j : Int))) (l.length : Int) = (((t + j) % l.length : Nat) : Int) := by
      rw [wi64 (by omega) (by omega), Int.tmod_eq_emod_of_nonneg (by omega)]
      push_cast
      rfl
    have hil : (t + j) % l.length < l.length := Nat.mod_lt _ (by omega)
    obtain ⟨i, hi⟩ : ∃ i, i = (t + j) % l.length := ⟨_, rfl⟩
    rw [turns_Ring_Next.l0]
    simp only [ei]
    rw [← hi] at hil ⊢
    have eg := rot_get htl hjl
    rw [← hi, List.getElem?_eq_getElem hil] at eg
    rw [if_pos (by omega), if_pos (by omega), if_pos (by omega), if_pos (by omega)]
    simp only [lt1, bnd1, window_Window_Left.f, can_f]
    rw [gt_nat hil]
    obtain ⟨s, hse⟩ : ∃ s, s = l[i] := ⟨_, rfl⟩
    rw [← hse] at eg ⊢
    have hso := hs s (hse ▸ List.getElem_mem hil)
    by_cases hc : can w.f0 s = true
    · rw [if_pos hc]
      have ha : mnI (mnI (mnI (s.f1.length : Int) (mxI m 1)) (mxI s.f4.f0 0)) (mxI w.f0 0) = am s w.f0 m := by simp only [mn_eq, mx_eq]; rfl
      simp only [ha]
      have a0 : 0 ≤ am s w.f0 m := by unfold am; omega
      have a1 : am s w.f0 m ≤ s.f1.length := by unfold am; omega
      have a2 : am s w.f0 m ≤ max s.f4.f0 0 := by unfold am; omega
      have a3 : am s w.f0 m ≤ max w.f0 0 := by unfold am; omega
      rw [take_w _ _ hso.w a0 a2, take_w _ _ hw a0 a3]
      have hb := hso.b
      simp only [bnd2]
      rw [if_pos a0, if_pos a1, clone_f _ (by simp; omega), clone_f _ (by simp; omega)]
      have e2 : Int.tmod (IntKind.i64.wrap ((i : Int) + 1)) (l.length : Int) = Int.tmod ((i : Int) + 1) (l.length : Int) := by rw [wi64 (by omega) (by omega)]
      have hq : (rot t l).findIdx (can w.f0) = j := by
        have hjr : j < (rot t l).length := by rw [rot_len]; exact hjl
        rw [List.findIdx_eq hjr]
        refine ⟨?_, fun i' hi' => ?_⟩
        · rw [List.getElem?_eq_getElem hjr] at eg
          injection eg with eg
          rw [eg]
          exact hc
        · exact hno i' hi' _ (List.getElem?_eq_getElem (by omega))
      unfold nxt sent
      simp only [Int.toNat_natCast]
      rw [hq, if_pos hjl, ← hi, gt_nat hil, ← hse]
      simp only [e2, cutS, bnd1, Int.toNat_natCast]
      cases h2 : s.f2 <;> simp
    · rw [if_neg hc, wi64 (by omega) (by omega)]
      have := ih (j + 1) k (by omega) (by omega) (by omega) (fun i' hi' s' hs' => by
        rcases Nat.lt_succ_iff_lt_or_eq.1 hi' with h | h
        · exact hno i' h s' hs'
        · subst h
          rw [eg] at hs'
          injection hs' with hs'
          subst hs'
          simpa using hc)
      push_cast at this ⊢
      exact this
theorem next_f (k : Nat) (r : S69) (m : Int) (hr : Rok r) (hk : r.f0.length < k) : turns_Ring_Next.f k r m = some (nxt r m) := by
  unfold turns_Ring_Next.f
  exact next_l0 r m hr r.f0.length 0 k (by omega) (by omega) hk (fun i hi => by omega)
theorem at_eq {s : Int} {l : List S72} (h : at_ s l < l.length) : (l[at_ s l]).f0 = s := by
  have := List.findIdx_getElem (w := h)
  exact of_decide_eq_true this
theorem atI_lo {s : Int} {l : List S72} : atI s l < 0 ↔ ¬ at_ s l < l.length := by
  unfold atI
  split <;> rename_i h <;> simp [h]
def clampW (x : Int) : Int := min (max x (-2147483648)) 2147483647
theorem wnew_f (x : Int) (b : Bool) : window_New.f x b = some ⟨clampW x, b⟩ := by
  unfold window_New.f clampW
  rw [mn_eq, mx_eq]
theorem rnew_f (x : Int) : turns_New.f x = some ⟨[], 0, ⟨clampW x, false⟩⟩ := by
  unfold turns_New.f
  rw [wnew_f]
  rfl
def opn (r : S69) (s left : Int) : Bool × S69 :=
  if s = 0 ∨ at_ s r.f0 < r.f0.length then (false, r) else (true, ⟨r.f0 ++ [⟨s, [], false, false, ⟨clampW left, true⟩⟩], r.f1, r.f2⟩)
theorem open_f (k : Nat) (r : S69) (s left : Int) (hl : r.f0.length < 1073741824) (hk : r.f0.length < k) : turns_Ring_Open.f k r s left = some (opn r s left) := by
  unfold turns_Ring_Open.f opn
  by_cases h : s = 0
  · rw [if_pos h, if_pos (.inl h)]
  · rw [if_neg h, find_f k r s hl hk]
    simp only [bnd1, wnew_f]
    by_cases h2 : at_ s r.f0 < r.f0.length
    · rw [if_pos (by have := @atI_lo s r.f0; omega), if_pos (.inr h2)]
    · rw [if_neg (show ¬ atI s r.f0 ≥ 0 by have := @atI_lo s r.f0; omega), if_pos (show r.f0.length + 1 ≤ 17592186044416 by omega), if_neg (show ¬ (s = 0 ∨ at_ s r.f0 < r.f0.length) by simp only [h, h2]; simp)]
      rfl
def putS (s : S72) (b : List Int) (e : Bool) : S72 := ⟨s.f0, s.f1 ++ b, e, s.f3, s.f4⟩
def put (r : S69) (s : Int) (b : List Int) (e : Bool) : Bool × S69 :=
  if at_ s r.f0 < r.f0.length then (if (gt z72 r.f0 (at_ s r.f0)).f2 = true then (false, r) else (true, ⟨r.f0.set (at_ s r.f0) (putS (gt z72 r.f0 (at_ s r.f0)) b e), r.f1, r.f2⟩)) else (false, r)
theorem atI_pos {s : Int} {l : List S72} (h : at_ s l < l.length) : atI s l = at_ s l := by unfold atI; rw [if_pos h]
theorem atI_neg {s : Int} {l : List S72} (h : ¬ at_ s l < l.length) : atI s l = -1 := by unfold atI; rw [if_neg h]
theorem put_f (k : Nat) (r : S69) (s : Int) (b : List Int) (e : Bool) (hr : Rok r) (hb : b.length ≤ 70368744177664) (hk : r.f0.length < k) : turns_Ring_Put.f k r s b e = some (put r s b e) := by
  unfold turns_Ring_Put.f put
  rw [find_f k r s hr.n hk]
  simp only [bnd1]
  by_cases h2 : at_ s r.f0 < r.f0.length
  · rw [if_pos h2, atI_pos h2, if_neg (by omega), if_pos (by omega), if_pos (by omega)]
    simp only [lt1]
    by_cases h3 : (gt z72 r.f0 (at_ s r.f0)).f2 = true
    · rw [if_pos h3, if_pos h3]
    · rw [if_neg h3, if_neg h3]
      have := (hr.s _ (List.getElem_mem h2)).b
      rw [← gt_nat (z := z72) h2] at this
      rw [if_pos (by omega)]
      rfl
  · rw [if_neg h2, atI_neg h2, if_pos (by omega)]
def waits (r : S69) (s : Int) : Int := if at_ s r.f0 < r.f0.length then ((gt z72 r.f0 (at_ s r.f0)).f1.length : Int) else 0
theorem waits_f (k : Nat) (r : S69) (s : Int) (hl : r.f0.length < 1073741824) (hk : r.f0.length < k) : turns_Ring_Waits.f k r s = some (waits r s) := by
  unfold turns_Ring_Waits.f waits
  rw [find_f k r s hl hk]
  simp only [bnd1]
  by_cases h2 : at_ s r.f0 < r.f0.length
  · rw [if_pos h2, atI_pos h2, if_neg (by omega), if_pos (by omega), if_pos (by omega)]
    rfl
  · rw [if_neg h2, atI_neg h2, if_pos (by omega)]
theorem can_all (k : Nat) (r : S69) (hl : r.f0.length < 1073741824) (hk : r.f0.length < k) : turns_Ring_Can.f k r = some (r.f0.any (can r.f2.f0)) := by
  unfold turns_Ring_Can.f slices_ContainsFunc.f slices_IndexFunc.f
  have := idx_l0 (turns_Ring_Can_1.g r.f2) r.f0 (by omega) r.f0.length 0 k (by omega) (by omega) hk
  rw [show ((0 : Nat) : Int) = 0 from rfl] at this
  rw [this]
  simp only [bnd1, List.drop_zero, Nat.zero_add]
  have e : turns_Ring_Can_1.g r.f2 = can r.f2.f0 := by
    funext s
    unfold turns_Ring_Can_1.g turns_Ring_Can_1.f
    simp only [window_Window_Left.f, bnd1, can_f]
    rfl
  rw [e]
  congr 1
  by_cases h : List.findIdx (can r.f2.f0) r.f0 < r.f0.length
  · rw [if_pos h]
    have := List.findIdx_lt_length.1 h
    rw [List.any_eq_true.2 this]
    simp
  · rw [if_neg h]
    have : ¬ ∃ x ∈ r.f0, can r.f2.f0 x = true := fun hx => h (List.findIdx_lt_length.2 hx)
    have : r.f0.any (can r.f2.f0) = false := by
      rw [Bool.eq_false_iff]
      exact fun hx => this (List.any_eq_true.1 hx)
    rw [this]
    decide
def tot : List S72 → Int
  | [] => 0
  | s :: l => s.f1.length + tot l
theorem tot_nn : ∀ l, 0 ≤ tot l
  | [] => by simp [tot]
  | s :: l => by have := tot_nn l; simp only [tot]; omega
theorem all_l0 (r : S69) (hl : r.f0.length < 1073741824) : ∀ (suf : List S72) (i k : Nat) (a : Int), r.f0.drop i = suf → 0 ≤ a → a + tot suf < 4611686018427387904 → suf.length < k → turns_Ring_All.l0 k a i r = some (a + tot suf) := by
  intro suf
  induction suf with
  | nil =>
    intro i k a hd ha ht hk
    obtain ⟨k, rfl⟩ : ∃ m, k = m + 1 := ⟨k - 1, by omega⟩
    have : r.f0.length ≤ i := List.drop_eq_nil_iff.1 hd
    rw [turns_Ring_All.l0, if_neg (by omega)]
    simp [tot]
  | cons s suf ih =>
    intro i k a hd ha ht hk
    obtain ⟨k, rfl⟩ : ∃ m, k = m + 1 := ⟨k - 1, by omega⟩
    simp only [List.length_cons] at hk
    have hlt : i < r.f0.length := by
      by_cases h : i < r.f0.length
      · exact h
      · rw [List.drop_eq_nil_of_le (by omega)] at hd
        cases hd
    rw [List.drop_eq_getElem_cons hlt] at hd
    injection hd with h1 h2
    have hs := tot_nn suf
    simp only [tot] at ht ⊢
    rw [turns_Ring_All.l0, if_pos (by omega), if_pos (by omega)]
    simp only [lt1]
    rw [gt_nat hlt, h1, wi64 (by omega) (by omega), wi64 (by omega) (by omega)]
    have := ih (i + 1) k (a + s.f1.length) h2 (by omega) (by omega) (by omega)
    push_cast at this
    rw [this]
    congr 1
    omega
theorem all_f (k : Nat) (r : S69) (hl : r.f0.length < 1073741824) (ht : tot r.f0 < 4611686018427387904) (hk : r.f0.length < k) : turns_Ring_All.f k r = some (tot r.f0) := by
  unfold turns_Ring_All.f
  have := all_l0 r hl r.f0 0 k 0 rfl (by omega) (by omega) hk
  simpa using this
theorem at_none {s : Int} {l : List S72} (h : ∀ x ∈ l, x.f0 ≠ s) : ¬ at_ s l < l.length := by
  intro hl
  exact h _ (List.getElem_mem hl) (at_eq hl)
theorem at_snoc {s : Int} {l : List S72} {x : S72} (h : ∀ x ∈ l, x.f0 ≠ s) (hx : x.f0 = s) : at_ s (l ++ [x]) = l.length := by
  unfold at_
  rw [List.findIdx_append]
  have : ¬ at_ s l < l.length := at_none h
  unfold at_ at this
  rw [if_neg this]
  simp [List.findIdx_cons, hx]
theorem open_new {r : S69} {s left : Int} (h0 : s ≠ 0) (h : ∀ x ∈ r.f0, x.f0 ≠ s) : opn r s left = (true, ⟨r.f0 ++ [⟨s, [], false, false, ⟨clampW left, true⟩⟩], r.f1, r.f2⟩) := by
  unfold opn
  rw [if_neg]
  simp only [h0, false_or]
  exact at_none h
theorem put_last {l : List S72} {t : Int} {w : S94} {s : S72} {b : List Int} {e : Bool} (h : ∀ x ∈ l, x.f0 ≠ s.f0) (he : s.f2 = false) : put ⟨l ++ [s], t, w⟩ s.f0 b e = (true, ⟨l ++ [putS s b e], t, w⟩) := by
  unfold put
  simp only
  rw [at_snoc h rfl, if_pos (by simp), gt_nat (by simp), List.getElem_append_right (Nat.le_refl _)]
  simp [he]
theorem rot_mem {α : Type} {t : Nat} {l : List α} {x : α} : x ∈ rot t l ↔ x ∈ l := by
  unfold rot
  rw [List.mem_append]
  refine ⟨fun h => h.elim List.mem_of_mem_drop List.mem_of_mem_take, fun h => ?_⟩
  have : x ∈ l.take t ++ l.drop t := by rwa [List.take_append_drop]
  rcases List.mem_append.1 this with h | h
  · exact .inr h
  · exact .inl h
theorem nxt_cases (r : S69) (m : Int) (ht : 0 ≤ r.f1 ∧ (r.f1 < r.f0.length ∨ r.f1 = 0)) : ((∀ s ∈ r.f0, can r.f2.f0 s = false) ∧ nxt r m = (0, [], false, false, r)) ∨ ∃ i, ∃ h : i < r.f0.length, can r.f2.f0 r.f0[i] = true ∧ nxt r m = sent r i m := by
  unfold nxt
  by_cases h : (rot r.f1.toNat r.f0).findIdx (can r.f2.f0) < r.f0.length
  · right
    rw [if_pos h]
    have hil : (r.f1.toNat + (rot r.f1.toNat r.f0).findIdx (can r.f2.f0)) % r.f0.length < r.f0.length := Nat.mod_lt _ (by omega)
    refine ⟨_, hil, ?_, rfl⟩
    have h' : (rot r.f1.toNat r.f0).findIdx (can r.f2.f0) < (rot r.f1.toNat r.f0).length := by rw [rot_len]; exact h
    have h1 := List.findIdx_getElem (w := h')
    have h2 := rot_get (t := r.f1.toNat) (l := r.f0) (by omega) h
    rw [List.getElem?_eq_getElem h', List.getElem?_eq_getElem hil] at h2
    injection h2 with h2
    rw [← h2]
    exact h1
  · left
    rw [if_neg h]
    refine ⟨fun s hs => ?_, rfl⟩
    by_cases hc : can r.f2.f0 s = true
    · exact absurd (by rw [← rot_len r.f1.toNat r.f0]; exact List.findIdx_lt_length.2 ⟨s, rot_mem.2 hs, hc⟩) h
    · simpa using hc
/-- A sum over a row. -/
def sm (f : S72 → Int) : List S72 → Int
  | [] => 0
  | s :: l => f s + sm f l
theorem sm_set (f : S72 → Int) (x : S72) : ∀ (l : List S72) (i : Nat) (h : i < l.length), sm f (l.set i x) = sm f l - f l[i] + f x
  | [], i, h => by simp at h
  | s :: l, 0, h => by simp only [List.set_cons_zero, sm, List.getElem_cons_zero]; omega
  | s :: l, i + 1, h => by
    have := sm_set f x l i (by simpa using h)
    simp only [List.set_cons_succ, sm, List.getElem_cons_succ]
    omega
theorem sm_nn (f : S72 → Int) (h : ∀ s, 0 ≤ f s) : ∀ l, 0 ≤ sm f l
  | [] => by simp [sm]
  | s :: l => by have := sm_nn f h l; have := h s; simp only [sm]; omega
theorem sm_zero (f : S72 → Int) (h : ∀ s, 0 ≤ f s) : ∀ l, sm f l ≤ 0 → ∀ s ∈ l, f s = 0
  | [], _, s, hs => by cases hs
  | x :: l, h0, s, hs => by
    have h1 := sm_nn f h l
    have h2 := h x
    simp only [sm] at h0
    rcases List.mem_cons.1 hs with rfl | hs
    · omega
    · exact sm_zero f h l (by omega) s hs
/-- What is still to come of a stream. -/
def mu (s : S72) : Int := s.f1.length + if s.f3 = true then 0 else 1
theorem mu_nn (s : S72) : 0 ≤ mu s := by unfold mu; split <;> omega
structure Ej (p0 : List (List Int)) (G : List (List UInt8)) (E : List Bool) (j : Nat) (s : S72) : Prop where
  b : ∃ b g, p0[j]? = some b ∧ G[j]? = some g ∧ E[j]? = some s.f3 ∧ g ++ toS s.f1 = toS b ∧ b.length ≤ 300 ∧ s.f1.length ≤ b.length ∧ s.f4.f0 = 1000 - (b.length - s.f1.length)
  i : s.f0 = j + 1
  e : s.f2 = true
  d : s.f3 = true → s.f1 = []
structure Ei (p0 : List (List Int)) (r : S69) (G : List (List UInt8)) (E : List Bool) : Prop where
  p : p0.length ≤ 20
  n : r.f0.length = p0.length
  g : G.length = p0.length
  e : E.length = p0.length
  s : ∀ (j : Nat) s, r.f0[j]? = some s → Ej p0 G E j s
  w : 1042576 + sm (fun s => (s.f1.length : Int)) r.f0 ≤ r.f2.f0 ∧ r.f2.f0 ≤ 1048576
  t : 0 ≤ r.f1 ∧ (r.f1 < r.f0.length ∨ r.f1 = 0)
theorem Ei.rok {p0 : List (List Int)} {r : S69} {G : List (List UInt8)} {E : List Bool} (h : Ei p0 r G E) : Rok r := by
  have hp := h.p
  have hn := h.n
  have h1 := sm_nn (fun s => (s.f1.length : Int)) (fun s => by simp) r.f0
  have hw := h.w
  refine ⟨by omega, h.t, by omega, fun s hs => ?_⟩
  obtain ⟨j, hj⟩ := List.getElem?_of_mem hs
  obtain ⟨b, g, _, _, _, _, h2, h3, h4⟩ := (h.s j s hj).b
  exact ⟨by omega, by omega⟩
theorem am_can {s : S72} {w m : Int} (h1 : s.f1 ≠ []) (h2 : s.f4.f0 > 0) (h3 : w > 0) : 1 ≤ am s w m := by
  have : 1 ≤ s.f1.length := List.length_pos_iff.2 h1
  unfold am
  omega
theorem am_bd {s : S72} {w m : Int} : 0 ≤ am s w m ∧ am s w m ≤ s.f1.length ∧ (s.f4.f0 ≥ 0 → am s w m ≤ s.f4.f0) ∧ (w ≥ 0 → am s w m ≤ w) := by
  unfold am
  omega
theorem Ei.step {p0 : List (List Int)} {r : S69} {G : List (List UInt8)} {E : List Bool} {m : Int} (h : Ei p0 r G E) {i : Nat} (hi : i < r.f0.length) (hc : can r.f2.f0 r.f0[i] = true) :
    ∃ o e r' g, sent r i m = ((i : Int) + 1, o, e, true, r') ∧ G[i]? = some g ∧ E[i]? = some false ∧ Ei p0 r' (G.set i (g ++ toS o)) (E.set i e) ∧ sm mu r'.f0 ≤ sm mu r.f0 - 1 ∧ g.length + (toS o).length ≤ 300 := by
  obtain ⟨⟨b, g, hb, hg, he, hgb, b1, b2, b3⟩, s0, s1, s2⟩ := h.s i _ (List.getElem?_eq_getElem hi)
  have hp := h.p
  have hn := h.n
  have hw := h.w
  have hsm := sm_nn (fun s => (s.f1.length : Int)) (fun s => by simp) r.f0
  obtain ⟨s, hs⟩ : ∃ s, s = r.f0[i] := ⟨_, rfl⟩
  rw [← hs] at hc he hgb b2 b3 s0 s1 s2
  have hf3 : s.f3 = false := by
    cases hf : s.f3 with
    | false => rfl
    | true =>
      have := s2 hf
      unfold can at hc
      rw [if_pos this, hf] at hc
      simp at hc
  obtain ⟨a, ha⟩ : ∃ a, a = am s r.f2.f0 m := ⟨_, rfl⟩
  obtain ⟨a0, a1, a2, a3⟩ := am_bd (s := s) (w := r.f2.f0) (m := m)
  rw [← ha] at a0 a1 a2 a3
  have a2 := a2 (by omega)
  have a3 := a3 (by omega)
  have ha1 : s.f1 ≠ [] → 1 ≤ a := fun h1 => ha ▸ am_can h1 (by omega) (by omega)
  have hlen : (s.f1.drop a.toNat).length = s.f1.length - a.toNat := List.length_drop
  refine ⟨s.f1.take a.toNat, (cutS s a).f3, ⟨r.f0.set i (cutS s a), Int.tmod ((i : Int) + 1) r.f0.length, ⟨r.f2.f0 - a, r.f2.f1⟩⟩, g, ?_, hg, by rw [he, hf3], ?_, ?_, ?_⟩
  · unfold sent
    rw [gt_nat hi, ← hs]
    simp only [← ha, s0]
  · refine ⟨hp, by simp only [List.length_set]; exact hn, by rw [List.length_set]; exact h.g, by rw [List.length_set]; exact h.e, fun j x hx => ?_, ?_, ?_⟩
    · simp only at hx
      rw [List.getElem?_set] at hx
      by_cases hij : i = j
      · subst hij
        rw [if_pos rfl, if_pos hi] at hx
        injection hx with hx
        subst hx
        refine ⟨⟨b, g ++ toS (s.f1.take a.toNat), hb, ?_, ?_, ?_, b1, ?_, ?_⟩, s0, s1, fun h3 => ?_⟩
        · rw [List.getElem?_set, if_pos rfl, if_pos (by rw [h.g]; omega)]
        · rw [List.getElem?_set, if_pos rfl, if_pos (by rw [h.e]; omega)]
        · simp only [cutS]
          rw [List.append_assoc, ← toS_append, List.take_append_drop]
          exact hgb
        · simp only [cutS]; omega
        · simp only [cutS]; omega
        · simp only [cutS, s1, Bool.true_and, decide_eq_true_eq] at h3 ⊢
          exact List.length_eq_zero_iff.1 (by omega)
      · rw [if_neg hij] at hx
        obtain ⟨⟨b', g', q1, q2, q3, q4⟩, q5, q6, q7⟩ := h.s j x hx
        exact ⟨⟨b', g', q1, by rw [List.getElem?_set, if_neg hij]; exact q2, by rw [List.getElem?_set, if_neg hij]; exact q3, q4⟩, q5, q6, q7⟩
    · simp only
      rw [sm_set _ _ _ _ hi, ← hs]
      simp only [cutS]
      omega
    · simp only [List.length_set]
      rw [Int.tmod_eq_emod_of_nonneg (by omega)]
      have := Int.emod_nonneg ((i : Int) + 1) (b := (r.f0.length : Int)) (by omega)
      have := Int.emod_lt_of_pos ((i : Int) + 1) (b := (r.f0.length : Int)) (by omega)
      omega
  · simp only
    rw [sm_set _ _ _ _ hi, ← hs]
    unfold mu
    simp only [cutS, hf3, s1, Bool.true_and]
    by_cases h1 : s.f1 = []
    · rw [if_neg (by simp), if_pos (by simp [h1])]
      simp [h1]
    · have := ha1 h1
      rw [if_neg (by simp)]
      split <;> omega
  · have e1 := congrArg List.length hgb
    rw [List.length_append, toS_length, toS_length] at e1
    rw [toS_length, List.length_take]
    omega
theorem at_uniq {l : List S72} {j : Nat} {s : Int} (hj : j < l.length) (h : l[j].f0 = s) (hu : ∀ (i : Nat) x, l[i]? = some x → x.f0 = s → i = j) : at_ s l = j := by
  unfold at_
  rw [List.findIdx_eq hj]
  refine ⟨by simpa using h, fun i hi => ?_⟩
  have hil : i < l.length := by omega
  have := hu i _ (List.getElem?_eq_getElem hil)
  simp only [decide_eq_false_iff_not]
  exact fun h' => absurd (this h') (by omega)
theorem ends_l3 (p0 : List (List Int)) (r : S69) (G : List (List UInt8)) (E : List Bool) (h : Ei p0 r G E) (hf : ∀ s ∈ r.f0, s.f1 = [] ∧ s.f3 = true) : ∀ (d j k : Nat), j + d = p0.length → 100 + d ≤ k → louverlaw13qTurnsEnds.l3 k j p0 r G E = some true := by
  have hp := h.p
  have hn := h.n
  intro d
  induction d with
  | zero =>
    intro j k he hk
    obtain ⟨k, rfl⟩ : ∃ m, k = m + 20 + 1 := ⟨k - 21, by omega⟩
    rw [louverlaw13qTurnsEnds.l3, if_neg (by omega), fixed_true]
    simp only [bnd1]
    rw [if_pos trivial, can_all _ _ (by omega) (by omega)]
    have e1 : r.f0.any (can r.f2.f0) = false := by
      rw [List.any_eq_false]
      intro s hs
      obtain ⟨h1, h2⟩ := hf s hs
      unfold can
      rw [if_pos h1, h2]
      simp
    have e2 : tot r.f0 = 0 := by
      have : ∀ l : List S72, (∀ s ∈ l, s.f1 = [] ∧ s.f3 = true) → tot l = 0 := by
        intro l
        induction l with
        | nil => intro _; rfl
        | cons s l ih =>
          intro hl
          simp only [tot]
          rw [ih (fun x hx => hl x (by simp [hx])), (hl s (by simp)).1]
          rfl
      exact this _ hf
    rw [e1]
    simp only
    rw [if_neg (by simp), all_f _ _ (by omega) (by rw [e2]; decide) (by omega), e2]
    rfl
  | succ d ih =>
    intro j k he hk
    obtain ⟨k, rfl⟩ : ∃ m, k = m + 1 := ⟨k - 1, by omega⟩
    have hjr : j < r.f0.length := by omega
    have hjp : j < p0.length := by omega
    have hjG : j < G.length := by rw [h.g]; exact hjp
    have hjE : j < E.length := by rw [h.e]; exact hjp
    obtain ⟨⟨b, g, hb, hg, he', hgb, b1, b2, b3⟩, s0, s1, s2⟩ := h.s j _ (List.getElem?_eq_getElem hjr)
    obtain ⟨f1, f3⟩ := hf _ (List.getElem_mem hjr)
    have e0 : p0[j] = b := by rw [List.getElem?_eq_getElem hjp] at hb; injection hb
    have e1 : G[j] = g := by rw [List.getElem?_eq_getElem hjG] at hg; injection hg
    have e2 : E[j] = true := by rw [List.getElem?_eq_getElem hjE, f3] at he'; injection he'
    have e3 : g = toS b := by rw [f1] at hgb; simpa [toS] using hgb
    rw [louverlaw13qTurnsEnds.l3, if_pos (by omega), if_pos (by omega), if_pos (by omega), gt_nat hjG, gt_nat hjp, e0, e1, if_pos e3, if_pos (by omega), gt_nat hjE, if_pos e2, wi64 (by omega) (by omega), wu32 (by omega) (by omega), waits_f _ _ _ (by omega) (by omega)]
    have e4 : at_ ((j : Int) + 1) r.f0 = j := at_uniq hjr s0 (fun i x hx hx0 => by
      have := (h.s i x hx).i
      omega)
    have e5 : waits r ((j : Int) + 1) = 0 := by
      unfold waits
      rw [e4, if_pos hjr, gt_nat hjr, f1]
      rfl
    rw [e5]
    simp only [bnd1]
    rw [if_pos trivial]
    have := ih (j + 1) k (by omega) (by omega)
    push_cast at this
    exact this
theorem ends_l2 (p0 : List (List Int)) (p1 : Int) (h1 : 0 ≤ p1 ∧ p1 < 256) : ∀ (d c k : Nat) (r : S69) (G : List (List UInt8)) (E : List Bool), c + d = 6020 → (c : Int) + sm mu r.f0 ≤ 6020 → Ei p0 r G E → 200 + d ≤ k →
    louverlaw13qTurnsEnds.l2 k r G E c p0 p1 = some true := by
  intro d
  induction d with
  | zero =>
    intro c k r G E he hm h hk
    obtain ⟨k, rfl⟩ : ∃ m, k = m + 1 + 1 := ⟨k - 2, by omega⟩
    have hz := sm_zero mu mu_nn r.f0 (by omega)
    rw [louverlaw13qTurnsEnds.l2, if_neg (by omega), louverlaw13qTurnsEnds.j1]
    refine ends_l3 p0 r G E h (fun s hs => ?_) p0.length 0 k (by omega) (by have := h.p; omega)
    have := hz s hs
    unfold mu at this
    split at this
    · next h3 => exact ⟨List.length_eq_zero_iff.1 (by omega), h3⟩
    · omega
  | succ d ih =>
    intro c k r G E he hm h hk
    obtain ⟨k, rfl⟩ : ∃ m, k = m + 1 + 1 := ⟨k - 2, by omega⟩
    have hp := h.p
    have hn := h.n
    have hG := h.g
    have hE := h.e
    rw [louverlaw13qTurnsEnds.l2, if_pos (by omega), wi64 (x := p1) (by omega) (by omega), next_f _ r p1 h.rok (by omega)]
    rcases nxt_cases r p1 h.t with ⟨hno, e⟩ | ⟨i, hi, hc, e⟩
    · rw [e]
      simp only [bnd5]
      rw [if_neg (by simp), louverlaw13qTurnsEnds.j1]
      refine ends_l3 p0 r G E h (fun s hs => ?_) p0.length 0 k (by omega) (by omega)
      have hcs := hno s hs
      obtain ⟨j, hj⟩ := List.getElem?_of_mem hs
      obtain ⟨⟨b, g, hb, hg, he', hgb, b1, b2, b3⟩, s0, s1, s2⟩ := h.s j s hj
      have hw := h.w
      have hsm := sm_nn (fun s => (s.f1.length : Int)) (fun s => by simp) r.f0
      unfold can at hcs
      by_cases hq : s.f1 = []
      · rw [if_pos hq, s1] at hcs
        exact ⟨hq, by simpa using hcs⟩
      · rw [if_neg hq] at hcs
        simp only [Bool.and_eq_false_iff, decide_eq_false_iff_not] at hcs
        omega
    · rw [e]
      obtain ⟨o, e', r', g, es, hg, he', h', hm', hl'⟩ := h.step (m := p1) hi hc
      rw [es]
      have hiG : i < G.length := by omega
      have hiE : i < E.length := by omega
      have eg : G[i] = g := by rw [List.getElem?_eq_getElem hiG] at hg; injection hg
      have ee : E[i] = false := by rw [List.getElem?_eq_getElem hiE] at he'; injection he'
      have ew : IntKind.u32.wrap ((i : Int) + 1 - 1) = i := by rw [wu32 (by omega) (by omega)]; omega
      simp only [bnd5, ew, lt1]
      rw [if_pos trivial, if_neg (by omega), wi64 (by omega) (by omega), if_neg (by omega), if_pos (by omega), if_pos (by omega), gt_nat hiE, ee, if_neg (by simp), if_pos (by omega), gt_nat hiG, eg, if_pos (by omega), wi64 (by omega) (by omega), Int.toNat_natCast]
      have := ih (c + 1) (k + 1) r' _ _ (by omega) (by push_cast; omega) h' (by omega)
      push_cast at this
      exact this
def es (b : List Int) (j : Nat) : S72 := ⟨(j : Int) + 1, b, true, false, ⟨1000, true⟩⟩
def el (p0 : List (List Int)) : List S72 := (p0.zipIdx).map (fun q => es q.1 q.2)
theorem el_len (p0 : List (List Int)) : (el p0).length = p0.length := by simp [el]
theorem el_get {p0 : List (List Int)} {j : Nat} {s : S72} (h : (el p0)[j]? = some s) : ∃ b, p0[j]? = some b ∧ s = es b j := by
  unfold el at h
  rw [List.getElem?_map, List.getElem?_zipIdx] at h
  cases hb : p0[j]? with
  | none => rw [hb] at h; cases h
  | some b =>
    rw [hb] at h
    simp only [Option.map_some, Option.some.injEq] at h
    exact ⟨b, rfl, by rw [← h]; simp⟩
theorem el_succ (p : List (List Int)) (b : List Int) : el (p ++ [b]) = el p ++ [es b p.length] := by simp [el, List.zipIdx_append]
theorem el_ne {p : List (List Int)} : ∀ x ∈ el p, x.f0 ≠ (p.length : Int) + 1 := by
  intro x hx
  obtain ⟨j, hj⟩ := List.getElem?_of_mem hx
  have hl := (List.getElem?_eq_some_iff.1 hj).1
  obtain ⟨b, _, rfl⟩ := el_get hj
  rw [el_len] at hl
  simp only [es]
  omega
theorem el_sm : ∀ (p : List (List Int)) (m : Nat), (∀ b ∈ p, b.length ≤ 300) → sm (fun s => (s.f1.length : Int)) ((p.zipIdx m).map (fun q => es q.1 q.2)) ≤ 300 * p.length ∧ sm mu ((p.zipIdx m).map (fun q => es q.1 q.2)) ≤ 301 * p.length
  | [], m, _ => by simp [sm]
  | b :: p, m, h => by
    have := el_sm p (m + 1) (fun x hx => h x (by simp [hx]))
    have hb := h b (by simp)
    have e : mu (es b m) = b.length + 1 := by simp [mu, es]
    simp only [List.zipIdx_cons, List.map_cons, sm, e, List.length_cons]
    simp only [es] at this ⊢
    omega
theorem ends_l0 (p0 : List (List Int)) (p1 : Int) (hn : p0.length ≤ 20) (h1 : 0 ≤ p1 ∧ p1 < 256) : ∀ (d : Nat) (pre suf : List (List Int)) (k : Nat), p0 = pre ++ suf → suf.length = d → (∀ b ∈ pre, b.length ≤ 300) → 6300 + d ≤ k →
    louverlaw13qTurnsEnds.l0 k ⟨el pre, 0, ⟨1048576, false⟩⟩ (pre.length : Int) p0 p1 = some true := by
  intro d
  induction d with
  | zero =>
    intro pre suf k hp hd hb hk
    obtain ⟨k, rfl⟩ : ∃ m, k = m + 1 := ⟨k - 1, by omega⟩
    obtain rfl : suf = [] := List.length_eq_zero_iff.1 hd
    rw [List.append_nil] at hp
    subst hp
    obtain ⟨q1, q2⟩ := el_sm p0 0 hb
    rw [louverlaw13qTurnsEnds.l0, if_neg (by omega), if_pos (by omega), if_pos (by omega)]
    simp only [lt1]
    rw [if_pos (by omega)]
    refine ends_l2 p0 p1 h1 6020 0 k _ _ _ (by omega) (by simp only [el]; omega) ⟨hn, el_len p0, by simp, by simp, fun j s hj => ?_, by simp only [el]; omega, by simp⟩ (by omega)
    obtain ⟨b, hb', rfl⟩ := el_get hj
    have hl := (List.getElem?_eq_some_iff.1 hb').1
    have hbl := hb b (List.mem_of_getElem? hb')
    refine ⟨⟨b, [], hb', by simp [hl], by simp [hl, es], by simp [es], hbl, by simp [es], by simp [es]⟩, rfl, rfl, fun h => by simp [es] at h⟩
  | succ d ih =>
    intro pre suf k hp hd hb hk
    obtain ⟨k, rfl⟩ : ∃ m, k = m + 20 + 1 := ⟨k - 21, by omega⟩
    obtain ⟨b, suf, rfl⟩ : ∃ b s, suf = b :: s := by
      cases suf with
      | nil => simp at hd
      | cons b s => exact ⟨b, s, rfl⟩
    simp only [List.length_cons] at hd
    have hlt : pre.length < p0.length := by rw [hp]; simp
    have eg : p0[pre.length] = b := by simp [hp]
    rw [louverlaw13qTurnsEnds.l0, if_pos (by omega), if_pos (by omega), gt_nat hlt, eg]
    by_cases hb3 : b.length > 300
    · rw [if_pos (by omega), fixed_true]
      rfl
    · rw [if_neg (by omega), wi64 (by omega) (by omega), wu32 (by omega) (by omega), open_f _ _ _ _ (by simp only [el_len]; omega) (by simp only [el_len]; omega), open_new (by omega) el_ne]
      have hrok : ∀ s', s'.f1.length ≤ 300 → s'.f4.f0 = 1000 → Rok ⟨el pre ++ [s'], 0, ⟨1048576, false⟩⟩ := by
        intro s' h1 h2
        refine ⟨by simp [el_len]; omega, by simp, by simp, fun x hx => ?_⟩
        simp only [List.mem_append, List.mem_singleton] at hx
        rcases hx with hx | rfl
        · obtain ⟨j, hj⟩ := List.getElem?_of_mem hx
          obtain ⟨b', hb', rfl⟩ := el_get hj
          have := hb b' (List.mem_of_getElem? hb')
          exact ⟨by simp only [es]; omega, by simp [es]⟩
        · exact ⟨by omega, by omega⟩
      simp only [bnd2]
      rw [if_pos trivial, put_f _ _ _ _ _ (hrok _ (by simp) (by rfl)) (by omega) (by simp [el_len]; omega)]
      have hput := put_last (l := el pre) (t := 0) (w := ⟨1048576, false⟩) (s := ⟨(pre.length : Int) + 1, [], false, false, ⟨clampW 1000, true⟩⟩) (b := b) (e := true) el_ne rfl
      simp only at hput
      rw [hput]
      simp only
      have hso : putS ⟨(pre.length : Int) + 1, [], false, false, ⟨clampW 1000, true⟩⟩ b true = es b pre.length := rfl
      rw [if_pos trivial, hso, put_f _ _ _ _ _ (hrok _ (by simp only [es]; omega) rfl) (by omega) (by simp [el_len]; omega)]
      have hput2 : put ⟨el pre ++ [es b pre.length], 0, ⟨1048576, false⟩⟩ ((pre.length : Int) + 1) b false = (false, ⟨el pre ++ [es b pre.length], 0, ⟨1048576, false⟩⟩) := by
        unfold put
        simp only
        rw [at_snoc el_ne rfl, if_pos (by simp), gt_nat (by simp), List.getElem_append_right (Nat.le_refl _)]
        simp [es]
      rw [hput2]
      simp only
      rw [if_neg (by simp), ← el_succ]
      have := ih (pre ++ [b]) suf (k + 20) (by rw [hp]; simp) (by omega) (fun x hx => by
        rcases List.mem_append.1 hx with hx | hx
        · exact hb x hx
        · obtain rfl := List.mem_singleton.1 hx
          omega) (by omega)
      simp only [List.length_append, List.length_singleton] at this
      push_cast at this
      exact this
theorem louverlaw13qTurnsEnds_true (p0 : List (List Int)) (p1 : Int) (h0 : okL 24 (okL 1 (okI .u8)) p0) (h1 : okI .u8 p1) : ∃ k, louverlaw13qTurnsEnds.f k p0 p1 = some true := by
  rw [okI_u8] at h1
  obtain ⟨N, hN⟩ : ∃ N : Nat, N = 10000 := ⟨_, rfl⟩
  refine ⟨N + 20, ?_⟩
  unfold louverlaw13qTurnsEnds.f
  by_cases h : (p0.length : Int) > 20
  · rw [if_pos h, fixed_true]
    rfl
  · rw [if_neg h, rnew_f]
    exact ends_l0 p0 p1 (by omega) h1 p0.length [] p0 (N + 20) rfl rfl (by simp) (by omega)
end Go.Proofs.Ytikfpmieadfllaa.Sl
