/- louverlaw13qTurnsPlays_true, plain: what the program's functions compute answers as the statement says. -/
import Derived.Test.YtikfpmieadfllaaCodeTurnsPlays3
import Derived.Test.YtikfpmieadfllaaSlP
import Derived.KernelRfl
set_option linter.unusedVariables false
set_option linter.unusedSimpArgs false
namespace Go.Proofs.Ytikfpmieadfllaa.Sl
open Go Go.Proofs.Sl
theorem mn_eq (x y : Int) : mnI x y = min x y := by unfold mnI; split <;> omega
theorem mx_eq (x y : Int) : mxI x y = max x y := by unfold mxI; split <;> omega
theorem fixed_true (k : Nat) : louverlaw13qfixed.f (k + 20) = some true := by kernel_rfl
theorem gt_nat {α : Type} {z : α} {l : List α} {i : Nat} (h : i < l.length) : gt z l (i : Int) = l[i] := by
  simp [gt, List.getD_eq_getElem?_getD, h]
/-- A stream's place, as find tells it. -/
def at_ (s : Int) (l : List S72) : Nat := l.findIdx (fun x => decide (x.f0 = s))
def atI (s : Int) (l : List S72) : Int := if at_ s l < l.length then (at_ s l : Int) else -1
theorem idx_l0 (p : S72 → Bool) (l : List S72) (hl : l.length < 4611686018427387904) : ∀ (n i k : Nat), n = l.length - i → i ≤ l.length → n < k →
    slices_IndexFunc.l0 k i l p = some (if i + (l.drop i).findIdx p < l.length then ((i + (l.drop i).findIdx p : Nat) : Int) else -1) := by
  intro n
  induction n with
  | zero =>
    intro i k hn hi hk
    obtain ⟨k, rfl⟩ : ∃ m, k = m + 1 := ⟨k - 1, by omega⟩
    obtain rfl : i = l.length := by omega
    simp [slices_IndexFunc.l0]
  | succ n ih =>
    intro i k hn hi hk
    obtain ⟨k, rfl⟩ : ∃ m, k = m + 1 := ⟨k - 1, by omega⟩
    have hlt : i < l.length := by omega
    rw [slices_IndexFunc.l0, if_pos (by omega), if_pos (by omega)]
    simp only [lt1]
    rw [gt_nat hlt, List.drop_eq_getElem_cons hlt, List.findIdx_cons]
    by_cases hp : p l[i] = true
    · simp [hp, hlt]
    · rw [if_neg hp, wi64 (by omega) (by omega)]
      have := ih (i + 1) k (by omega) (by omega) (by omega)
      push_cast at this ⊢
      rw [this]
      simp only [hp, cond_false]
      congr 1
      split <;> split <;> first | rfl | omega
theorem find_f (k : Nat) (r : S69) (s : Int) (hl : r.f0.length < 1073741824) (hk : r.f0.length < k) : turns_Ring_find.f k r s = some (atI s r.f0) := by
  unfold turns_Ring_find.f slices_IndexFunc.f
  have := idx_l0 (turns_Ring_find_1.g s) r.f0 (by omega) r.f0.length 0 k (by omega) (by omega) hk
  rw [show ((0 : Nat) : Int) = 0 from rfl] at this
  rw [this]
  simp only [bnd1, List.drop_zero, Nat.zero_add]
  rfl
/-- Can a stream send, where the connection has so much left? -/
def can (w : Int) (s : S72) : Bool := if s.f1 = [] then s.f2 && !s.f3 else decide (s.f4.f0 > 0) && decide (w > 0)
theorem can_f (s : S72) (w : Int) : turns_sender_can.f s w = some (can w s) := by
  unfold turns_sender_can.f can window_Window_Left.f
  by_cases h : s.f1 = []
  · simp only [h, List.length_nil, Int.natCast_zero, if_true]
    cases s.f2 <;> simp
  · have : ¬ ((s.f1.length : Int) = 0) := by
      intro h'
      exact h (List.length_eq_zero_iff.1 (by omega))
    rw [if_neg this, if_neg h]
    simp only [bnd1]
    by_cases h2 : s.f4.f0 > 0 <;> simp [h2]
/-- What may be so. -/
structure Sok (s : S72) : Prop where
  b : s.f1.length ≤ 70368744177664
  w : -2147483648 ≤ s.f4.f0 ∧ s.f4.f0 ≤ 2147483648
structure Rok (r : S69) : Prop where
  n : r.f0.length < 1073741824
  t : 0 ≤ r.f1 ∧ (r.f1 < r.f0.length ∨ r.f1 = 0)
  w : -2147483648 ≤ r.f2.f0 ∧ r.f2.f0 ≤ 2147483648
  s : ∀ s ∈ r.f0, Sok s
/-- How much is sent. -/
def am (s : S72) (w m : Int) : Int := min (min (min (s.f1.length : Int) (max m 1)) (max s.f4.f0 0)) (max w 0)
def cutS (s : S72) (a : Int) : S72 := ⟨s.f0, s.f1.drop a.toNat, s.f2, s.f2 && decide (((s.f1.drop a.toNat).length : Int) = 0), ⟨s.f4.f0 - a, s.f4.f1⟩⟩
def sent (r : S69) (i : Nat) (m : Int) : Int × List Int × Bool × Bool × S69 :=
  let s := gt z72 r.f0 i
  let a := am s r.f2.f0 m
  (s.f0, s.f1.take a.toNat, (cutS s a).f3, true, ⟨r.f0.set i (cutS s a), Int.tmod ((i : Int) + 1) r.f0.length, ⟨r.f2.f0 - a, r.f2.f1⟩⟩)
/-- The row, turned so that its turn stands first. -/
def rot {α : Type} (t : Nat) (l : List α) : List α := l.drop t ++ l.take t
theorem rot_len {α : Type} (t : Nat) (l : List α) : (rot t l).length = l.length := by simp [rot]; omega
theorem rot_get {α : Type} {t : Nat} {l : List α} {j : Nat} (ht : t < l.length) (hj : j < l.length) : (rot t l)[j]? = l[(t + j) % l.length]? := by
  unfold rot
  by_cases h : t + j < l.length
  · rw [List.getElem?_append_left (by simp; omega), List.getElem?_drop, Nat.mod_eq_of_lt h]
  · rw [List.getElem?_append_right (by simp; omega), List.length_drop, List.getElem?_take_of_lt (by omega)]
    congr 1
    rw [Nat.mod_eq_sub_mod (by omega), Nat.mod_eq_of_lt (by omega)]
    omega
def nxt (r : S69) (m : Int) : Int × List Int × Bool × Bool × S69 :=
  if (rot r.f1.toNat r.f0).findIdx (can r.f2.f0) < r.f0.length then sent r ((r.f1.toNat + (rot r.f1.toNat r.f0).findIdx (can r.f2.f0)) % r.f0.length) m else (0, [], false, false, r)
theorem take_w (w : S94) (a : Int) (hw : -2147483648 ≤ w.f0 ∧ w.f0 ≤ 2147483648) (h0 : 0 ≤ a) (h1 : a ≤ max w.f0 0) : window_Window_Take.f w a = some (true, ⟨w.f0 - a, w.f1⟩) := by
  unfold window_Window_Take.f
  rw [if_neg (by omega), mx_eq, if_neg (by omega), wi64 (by omega) (by omega)]
theorem clone_f (l : List Int) (h : l.length ≤ 140737488355328) : bytes_Clone.f l = some l := by
  unfold bytes_Clone.f
  rw [if_pos (by simpa using h)]
  rfl
theorem next_l0 (r : S69) (m : Int) (hr : Rok r) : ∀ (d j k : Nat), d = r.f0.length - j → j ≤ r.f0.length → d < k → (∀ i < j, ∀ s, (rot r.f1.toNat r.f0)[i]? = some s → can r.f2.f0 s = false) →
    turns_Ring_Next.l0 k r j r m = some (nxt r m) := by
  obtain ⟨hn, ht, hw, hs⟩ := hr
  obtain ⟨l, t, w⟩ := r
  simp only at hn ht hw hs ⊢
  obtain ⟨t, rfl⟩ : ∃ u : Nat, t = u := ⟨t.toNat, by omega⟩
  simp only [Int.toNat_natCast]
  intro d
  induction d with
  | zero =>
    intro j k hd hj hk hno
    obtain ⟨k, rfl⟩ : ∃ m, k = m + 1 := ⟨k - 1, by omega⟩
    obtain rfl : j = l.length := by omega
    rw [turns_Ring_Next.l0, if_neg (by simp)]
    unfold nxt
    rw [if_neg]
    simp only [Int.toNat_natCast]
    have := List.findIdx_le_length (xs := rot t l) (p := can w.f0)
    rw [rot_len] at this
    intro hlt
    have hlt' : (rot t l).findIdx (can w.f0) < (rot t l).length := by rw [rot_len]; exact hlt
    have hc := List.findIdx_getElem (w := hlt')
    have := hno _ hlt _ (List.getElem?_eq_getElem hlt')
    rw [this] at hc
    cases hc
  | succ d ih =>
    intro j k hd hj hk hno
    obtain ⟨k, rfl⟩ : ∃ m, k = m + 1 := ⟨k - 1, by omega⟩
    have hjl : j < l.length := by omega
    have htl : t < l.length := by omega
    have ei : Int.tmod (IntKind.i64.wrap ((t : Int) + (j : Int))) (l.length : Int) = (((t + j) % l.length : Nat) : Int) := by
      rw [wi64 (by omega) (by omega), Int.tmod_eq_emod_of_nonneg (by omega)]
      push_cast
      rfl
    have hil : (t + j) % l.length < l.length := Nat.mod_lt _ (by omega)
    obtain ⟨i, hi⟩ : ∃ i, i = (t + j) % l.length := ⟨_, rfl⟩
    rw [turns_Ring_Next.l0]
    simp only [ei]
    rw [← hi] at hil ⊢
    have eg := rot_get htl hjl
    rw [← hi, List.getElem?_eq_getElem hil] at eg
    rw [if_pos (by omega), if_pos (by omega), if_pos (by omega), if_pos (by omega)]
    simp only [lt1, bnd1, window_Window_Left.f, can_f]
    rw [gt_nat hil]
    obtain ⟨s, hse⟩ : ∃ s, s = l[i] := ⟨_, rfl⟩
    rw [← hse] at eg ⊢
    have hso := hs s (hse ▸ List.getElem_mem hil)
    by_cases hc : can w.f0 s = true
    · rw [if_pos hc]
      have ha : mnI (mnI (mnI (s.f1.length : Int) (mxI m 1)) (mxI s.f4.f0 0)) (mxI w.f0 0) = am s w.f0 m := by simp only [mn_eq, mx_eq]; rfl
      simp only [ha]
      have a0 : 0 ≤ am s w.f0 m := by unfold am; omega
      have a1 : am s w.f0 m ≤ s.f1.length := by unfold am; omega
      have a2 : am s w.f0 m ≤ max s.f4.f0 0 := by unfold am; omega
      have a3 : am s w.f0 m ≤ max w.f0 0 := by unfold am; omega
      rw [take_w _ _ hso.w a0 a2, take_w _ _ hw a0 a3]
      have hb := hso.b
      simp only [bnd2]
      rw [if_pos a0, if_pos a1, clone_f _ (by simp; omega), clone_f _ (by simp; omega)]
      have e2 : Int.tmod (IntKind.i64.wrap ((i : Int) + 1)) (l.length : Int) = Int.tmod ((i : Int) + 1) (l.length : Int) := by rw [wi64 (by omega) (by omega)]
      have hq : (rot t l).findIdx (can w.f0) = j := by
        have hjr : j < (rot t l).length := by rw [rot_len]; exact hjl
        rw [List.findIdx_eq hjr]
        refine ⟨?_, fun i' hi' => ?_⟩
        · rw [List.getElem?_eq_getElem hjr] at eg
          injection eg with eg
          rw [eg]
          exact hc
        · exact hno i' hi' _ (List.getElem?_eq_getElem (by omega))
      unfold nxt sent
      simp only [Int.toNat_natCast]
      rw [hq, if_pos hjl, ← hi, gt_nat hil, ← hse]
      simp only [e2, cutS, bnd1, Int.toNat_natCast]
      cases h2 : s.f2 <;> simp
    · rw [if_neg hc, wi64 (by omega) (by omega)]
      have := ih (j + 1) k (by omega) (by omega) (by omega) (fun i' hi' s' hs' => by
        rcases Nat.lt_succ_iff_lt_or_eq.1 hi' with h | h
        · exact hno i' h s' hs'
        · subst h
          rw [eg] at hs'
          injection hs' with hs'
          subst hs'
          simpa using hc)
      push_cast at this ⊢
      exact this
theorem next_f (k : Nat) (r : S69) (m : Int) (hr : Rok r) (hk : r.f0.length < k) : turns_Ring_Next.f k r m = some (nxt r m) := by
  unfold turns_Ring_Next.f
  exact next_l0 r m hr r.f0.length 0 k (by omega) (by omega) hk (fun i hi => by omega)
theorem at_eq {s : Int} {l : List S72} (h : at_ s l < l.length) : (l[at_ s l]).f0 = s := by
  have := List.findIdx_getElem (w := h)
  exact of_decide_eq_true this
theorem atI_lo {s : Int} {l : List S72} : atI s l < 0 ↔ ¬ at_ s l < l.length := by
  unfold atI
  split <;> rename_i h <;> simp [h]
def clampW (x : Int) : Int := min (max x (-2147483648)) 2147483647
theorem wnew_f (x : Int) (b : Bool) : window_New.f x b = some ⟨clampW x, b⟩ := by
  unfold window_New.f clampW
  rw [mn_eq, mx_eq]
theorem rnew_f (x : Int) : turns_New.f x = some ⟨[], 0, ⟨clampW x, false⟩⟩ := by
  unfold turns_New.f
  rw [wnew_f]
  rfl
def opn (r : S69) (s left : Int) : Bool × S69 :=
  if s = 0 ∨ at_ s r.f0 < r.f0.length then (false, r) else (true, ⟨r.f0 ++ [⟨s, [], false, false, ⟨clampW left, true⟩⟩], r.f1, r.f2⟩)
theorem open_f (k : Nat) (r : S69) (s left : Int) (hl : r.f0.length < 1073741824) (hk : r.f0.length < k) : turns_Ring_Open.f k r s left = some (opn r s left) := by
  unfold turns_Ring_Open.f opn
  by_cases h : s = 0
  · rw [if_pos h, if_pos (.inl h)]
  · rw [if_neg h, find_f k r s hl hk]
    simp only [bnd1, wnew_f]
    by_cases h2 : at_ s r.f0 < r.f0.length
    · rw [if_pos (by have := @atI_lo s r.f0; omega), if_pos (.inr h2)]
    · rw [if_neg (show ¬ atI s r.f0 ≥ 0 by have := @atI_lo s r.f0; omega), if_pos (show r.f0.length + 1 ≤ 17592186044416 by omega), if_neg (show ¬ (s = 0 ∨ at_ s r.f0 < r.f0.length) by simp only [h, h2]; simp)]
      rfl
def putS (s : S72) (b : List Int) (e : Bool) : S72 := ⟨s.f0, s.f1 ++ b, e, s.f3, s.f4⟩
def put (r : S69) (s : Int) (b : List Int) (e : Bool) : Bool × S69 :=
  if at_ s r.f0 < r.f0.length then (if (gt z72 r.f0 (at_ s r.f0)).f2 = true then (false, r) else (true, ⟨r.f0.set (at_ s r.f0) (putS (gt z72 r.f0 (at_ s r.f0)) b e), r.f1, r.f2⟩)) else (false, r)
theorem atI_pos {s : Int} {l : List S72} (h : at_ s l < l.length) : atI s l = at_ s l := by unfold atI; rw [if_pos h]
theorem atI_neg {s : Int} {l : List S72} (h : ¬ at_ s l < l.length) : atI s l = -1 := by unfold atI; rw [if_neg h]
theorem put_f (k : Nat) (r : S69) (s : Int) (b : List Int) (e : Bool) (hr : Rok r) (hb : b.length ≤ 70368744177664) (hk : r.f0.length < k) : turns_Ring_Put.f k r s b e = some (put r s b e) := by
  unfold turns_Ring_Put.f put
  rw [find_f k r s hr.n hk]
  simp only [bnd1]
  by_cases h2 : at_ s r.f0 < r.f0.length
  · rw [if_pos h2, atI_pos h2, if_neg (by omega), if_pos (by omega), if_pos (by omega)]
    simp only [lt1]
    by_cases h3 : (gt z72 r.f0 (at_ s r.f0)).f2 = true
    · rw [if_pos h3, if_pos h3]
    · rw [if_neg h3, if_neg h3]
      have := (hr.s _ (List.getElem_mem h2)).b
      rw [← gt_nat (z := z72) h2] at this
      rw [if_pos (by omega)]
      rfl
  · rw [if_neg h2, atI_neg h2, if_pos (by omega)]
def wgrow (w : S94) (n : Int) : S50 × S94 := if w.f0 + n > 2147483647 then (⟨if w.f1 = true then 2 else 1, 3⟩, w) else (⟨0, 0⟩, ⟨max (w.f0 + n) (-2147483648), w.f1⟩)
theorem wgrow_f (w : S94) (n : Int) (hw : -2147483648 ≤ w.f0 ∧ w.f0 ≤ 2147483648) (hn : 0 ≤ n ∧ n < 4294967296) : window_Window_Grow.f w n = some (wgrow w n) := by
  unfold window_Window_Grow.f window_Window_to.f window_scope.f wgrow
  rw [wi64 (x := n) (by omega) (by omega), wi64 (by omega) (by omega), mx_eq]
  by_cases h : w.f0 + n > 2147483647
  · rw [if_pos h, if_pos h]
    simp only [bnd2, bnd1]
    cases w.f1 <;> simp
  · rw [if_neg h, if_neg h]
    rfl
def setW (s : S72) (w : S94) : S72 := ⟨s.f0, s.f1, s.f2, s.f3, w⟩
def grow (r : S69) (s n : Int) : S50 × S69 :=
  if s = 0 then ((wgrow r.f2 n).1, ⟨r.f0, r.f1, (wgrow r.f2 n).2⟩)
  else if at_ s r.f0 < r.f0.length then ((wgrow (gt z72 r.f0 (at_ s r.f0)).f4 n).1, ⟨r.f0.set (at_ s r.f0) (setW (gt z72 r.f0 (at_ s r.f0)) (wgrow (gt z72 r.f0 (at_ s r.f0)).f4 n).2), r.f1, r.f2⟩) else (⟨0, 0⟩, r)
theorem grow_f (k : Nat) (r : S69) (s n : Int) (hr : Rok r) (hn : 0 ≤ n ∧ n < 4294967296) (hk : r.f0.length < k) : turns_Ring_Grow.f k r s n = some (grow r s n) := by
  unfold turns_Ring_Grow.f grow
  rw [find_f k r s hr.n hk]
  simp only [bnd1]
  by_cases h0 : s = 0
  · rw [if_pos h0, if_pos h0, wgrow_f _ _ hr.w hn]
    rfl
  · rw [if_neg h0, if_neg h0]
    by_cases h2 : at_ s r.f0 < r.f0.length
    · have hw := (hr.s _ (List.getElem_mem h2)).w
      rw [← gt_nat (z := z72) h2] at hw
      rw [if_pos h2, atI_pos h2, if_neg (by omega), if_pos (by omega), if_pos (by omega)]
      simp only [lt1]
      rw [wgrow_f _ _ hw hn]
      rfl
    · rw [if_neg h2, atI_neg h2, if_pos (by omega)]
def wshift (w : S94) (a b : Int) : S50 × S94 := if w.f0 + b - a > 2147483647 then (⟨1, 3⟩, w) else (⟨0, 0⟩, ⟨max (w.f0 + b - a) (-2147483648), w.f1⟩)
theorem wshift_f (w : S94) (a b : Int) (hw : -2147483648 ≤ w.f0 ∧ w.f0 ≤ 2147483648) (ha : 0 ≤ a ∧ a < 4294967296) (hb : 0 ≤ b ∧ b < 4294967296) : window_Window_Shift.f w a b = some (wshift w a b) := by
  unfold window_Window_Shift.f window_Window_to.f wshift
  rw [wi64 (x := b) (by omega) (by omega), wi64 (x := a) (by omega) (by omega), wi64 (x := w.f0 + b) (by omega) (by omega), wi64 (by omega) (by omega), mx_eq]
  by_cases h : w.f0 + b - a > 2147483647
  · rw [if_pos h, if_pos h]
    rfl
  · rw [if_neg h, if_neg h]
    rfl
/-- All windows, as far as that goes. -/
def shl (a b : Int) : List S72 → S50 × List S72
  | [] => (⟨0, 0⟩, [])
  | s :: l => if s.f4.f0 + b - a > 2147483647 then (⟨1, 3⟩, s :: l) else ((shl a b l).1, setW s (wshift s.f4 a b).2 :: (shl a b l).2)
theorem shl_len (a b : Int) : ∀ l, (shl a b l).2.length = l.length
  | [] => rfl
  | s :: l => by
    simp only [shl]
    split
    · rfl
    · simp [shl_len a b l]
theorem shift_l0 (a b : Int) (ha : 0 ≤ a ∧ a < 4294967296) (hb : 0 ≤ b ∧ b < 4294967296) (p0 : S69) (x y : Int) : ∀ (suf pre : List S72) (k : Nat), (∀ s ∈ suf, Sok s) → pre.length + suf.length = p0.f0.length → p0.f0.length < 1073741824 → suf.length < k →
    turns_Ring_Shift.l0 k x y (pre ++ suf) (pre.length : Int) p0 a b = some ((shl a b suf).1, ⟨pre ++ (shl a b suf).2, p0.f1, p0.f2⟩) := by
  intro suf
  induction suf with
  | nil =>
    intro pre k hs hl hn hk
    obtain ⟨k, rfl⟩ : ∃ m, k = m + 1 := ⟨k - 1, by omega⟩
    simp only [List.length_nil, Nat.add_zero] at hl
    rw [turns_Ring_Shift.l0, if_neg (by omega)]
    rfl
  | cons s suf ih =>
    intro pre k hs hl hn hk
    obtain ⟨k, rfl⟩ : ∃ m, k = m + 1 := ⟨k - 1, by omega⟩
    simp only [List.length_cons] at hl hk
    have hlt : pre.length < (pre ++ s :: suf).length := by simp
    rw [turns_Ring_Shift.l0, if_pos (by omega), if_pos (by omega), if_pos (by omega)]
    simp only [lt1]
    rw [gt_nat hlt, List.getElem_append_right (Nat.le_refl _)]
    simp only [Nat.sub_self, List.getElem_cons_zero]
    rw [wshift_f _ _ _ (hs s (by simp)).w ha hb]
    simp only [bnd2, Int.toNat_natCast, shl]
    have es : ∀ q, (pre ++ s :: suf).set pre.length q = pre ++ q :: suf := fun q => by simp
    by_cases h : s.f4.f0 + b - a > 2147483647
    · have e : wshift s.f4 a b = (⟨1, 3⟩, s.f4) := by unfold wshift; rw [if_pos h]
      rw [e, if_neg (by simp), if_pos h, es]
    · have e : (wshift s.f4 a b).1 = ⟨0, 0⟩ := by unfold wshift; rw [if_neg h]
      rw [e, if_pos (by rfl), if_neg h, es, wi64 (by omega) (by omega)]
      have := ih (pre ++ [setW s (wshift s.f4 a b).2]) k (fun q hq => hs q (by simp [hq])) (by simp; omega) hn (by omega)
      simp only [List.append_assoc, List.singleton_append, List.length_append, List.length_singleton] at this
      push_cast at this
      exact this
def shift (r : S69) (a b : Int) : S50 × S69 := ((shl a b r.f0).1, ⟨(shl a b r.f0).2, r.f1, r.f2⟩)
theorem shift_f (k : Nat) (r : S69) (a b : Int) (hr : Rok r) (ha : 0 ≤ a ∧ a < 4294967296) (hb : 0 ≤ b ∧ b < 4294967296) (hk : r.f0.length < k) : turns_Ring_Shift.f k r a b = some (shift r a b) := by
  unfold turns_Ring_Shift.f
  exact shift_l0 a b ha hb r 0 0 r.f0 [] k hr.s (by simp) hr.n hk
def drp (r : S69) (s : Int) : S69 :=
  if at_ s r.f0 < r.f0.length then
    let l := r.f0.take (at_ s r.f0) ++ r.f0.drop (at_ s r.f0 + 1)
    let t := if (at_ s r.f0 : Int) < r.f1 then r.f1 - 1 else r.f1
    ⟨l, if t ≥ (l.length : Int) then 0 else t, r.f2⟩
  else r
theorem drop_f (k : Nat) (r : S69) (s : Int) (hr : Rok r) (hk : r.f0.length < k) : turns_Ring_Drop.f k r s = some (drp r s) := by
  unfold turns_Ring_Drop.f drp slices_Delete.f
  rw [find_f k r s hr.n hk]
  have hn := hr.n
  have ht := hr.t
  simp only [bnd1]
  by_cases h2 : at_ s r.f0 < r.f0.length
  · rw [if_pos h2, atI_pos h2, if_neg (by omega), wi64 (by omega) (by omega), if_pos (by omega), if_pos (by omega), if_pos (by omega), if_neg (by omega)]
    have e : ((at_ s r.f0 : Int) + 1).toNat = at_ s r.f0 + 1 := by omega
    simp only [Int.toNat_natCast, e]
    split
    · rw [wi64 (by omega) (by omega)]
      split <;> rfl
    · split <;> rfl
  · rw [if_neg h2, atI_neg h2, if_pos (by omega)]
def waits (r : S69) (s : Int) : Int := if at_ s r.f0 < r.f0.length then ((gt z72 r.f0 (at_ s r.f0)).f1.length : Int) else 0
theorem waits_f (k : Nat) (r : S69) (s : Int) (hl : r.f0.length < 1073741824) (hk : r.f0.length < k) : turns_Ring_Waits.f k r s = some (waits r s) := by
  unfold turns_Ring_Waits.f waits
  rw [find_f k r s hl hk]
  simp only [bnd1]
  by_cases h2 : at_ s r.f0 < r.f0.length
  · rw [if_pos h2, atI_pos h2, if_neg (by omega), if_pos (by omega), if_pos (by omega)]
    rfl
  · rw [if_neg h2, atI_neg h2, if_pos (by omega)]
def left_ (r : S69) (s : Int) : Int := if s = 0 then r.f2.f0 else if at_ s r.f0 < r.f0.length then (gt z72 r.f0 (at_ s r.f0)).f4.f0 else 0
theorem left_f (k : Nat) (r : S69) (s : Int) (hl : r.f0.length < 1073741824) (hk : r.f0.length < k) : turns_Ring_Left.f k r s = some (left_ r s) := by
  unfold turns_Ring_Left.f left_
  rw [find_f k r s hl hk]
  simp only [bnd1, window_Window_Left.f]
  by_cases h0 : s = 0
  · rw [if_pos h0, if_pos h0]
  · rw [if_neg h0, if_neg h0]
    by_cases h2 : at_ s r.f0 < r.f0.length
    · rw [if_pos h2, atI_pos h2, if_neg (by omega), if_pos (by omega), if_pos (by omega)]
      rfl
    · rw [if_neg h2, atI_neg h2, if_pos (by omega)]
theorem can_all (k : Nat) (r : S69) (hl : r.f0.length < 1073741824) (hk : r.f0.length < k) : turns_Ring_Can.f k r = some (r.f0.any (can r.f2.f0)) := by
  unfold turns_Ring_Can.f slices_ContainsFunc.f slices_IndexFunc.f
  have := idx_l0 (turns_Ring_Can_1.g r.f2) r.f0 (by omega) r.f0.length 0 k (by omega) (by omega) hk
  rw [show ((0 : Nat) : Int) = 0 from rfl] at this
  rw [this]
  simp only [bnd1, List.drop_zero, Nat.zero_add]
  have e : turns_Ring_Can_1.g r.f2 = can r.f2.f0 := by
    funext s
    unfold turns_Ring_Can_1.g turns_Ring_Can_1.f
    simp only [window_Window_Left.f, bnd1, can_f]
    rfl
  rw [e]
  congr 1
  by_cases h : List.findIdx (can r.f2.f0) r.f0 < r.f0.length
  · rw [if_pos h]
    have := List.findIdx_lt_length.1 h
    rw [List.any_eq_true.2 this]
    simp
  · rw [if_neg h]
    have : ¬ ∃ x ∈ r.f0, can r.f2.f0 x = true := fun hx => h (List.findIdx_lt_length.2 hx)
    have : r.f0.any (can r.f2.f0) = false := by
      rw [Bool.eq_false_iff]
      exact fun hx => this (List.any_eq_true.1 hx)
    rw [this]
    decide
def tot : List S72 → Int
  | [] => 0
  | s :: l => s.f1.length + tot l
theorem tot_nn : ∀ l, 0 ≤ tot l
  | [] => by simp [tot]
  | s :: l => by have := tot_nn l; simp only [tot]; omega
theorem all_l0 (r : S69) (hl : r.f0.length < 1073741824) : ∀ (suf : List S72) (i k : Nat) (a : Int), r.f0.drop i = suf → 0 ≤ a → a + tot suf < 4611686018427387904 → suf.length < k → turns_Ring_All.l0 k a i r = some (a + tot suf) := by
  intro suf
  induction suf with
  | nil =>
    intro i k a hd ha ht hk
    obtain ⟨k, rfl⟩ : ∃ m, k = m + 1 := ⟨k - 1, by omega⟩
    have : r.f0.length ≤ i := List.drop_eq_nil_iff.1 hd
    rw [turns_Ring_All.l0, if_neg (by omega)]
    simp [tot]
  | cons s suf ih =>
    intro i k a hd ha ht hk
    obtain ⟨k, rfl⟩ : ∃ m, k = m + 1 := ⟨k - 1, by omega⟩
    simp only [List.length_cons] at hk
    have hlt : i < r.f0.length := by
      by_cases h : i < r.f0.length
      · exact h
      · rw [List.drop_eq_nil_of_le (by omega)] at hd
        cases hd
    rw [List.drop_eq_getElem_cons hlt] at hd
    injection hd with h1 h2
    have hs := tot_nn suf
    simp only [tot] at ht ⊢
    rw [turns_Ring_All.l0, if_pos (by omega), if_pos (by omega)]
    simp only [lt1]
    rw [gt_nat hlt, h1, wi64 (by omega) (by omega), wi64 (by omega) (by omega)]
    have := ih (i + 1) k (a + s.f1.length) h2 (by omega) (by omega) (by omega)
    push_cast at this
    rw [this]
    congr 1
    omega
theorem all_f (k : Nat) (r : S69) (hl : r.f0.length < 1073741824) (ht : tot r.f0 < 4611686018427387904) (hk : r.f0.length < k) : turns_Ring_All.f k r = some (tot r.f0) := by
  unfold turns_Ring_All.f
  have := all_l0 r hl r.f0 0 k 0 rfl (by omega) (by omega) hk
  simpa using this
theorem rot_mem {α : Type} {t : Nat} {l : List α} {x : α} : x ∈ rot t l ↔ x ∈ l := by
  unfold rot
  rw [List.mem_append]
  refine ⟨fun h => h.elim List.mem_of_mem_drop List.mem_of_mem_take, fun h => ?_⟩
  have : x ∈ l.take t ++ l.drop t := by rwa [List.take_append_drop]
  rcases List.mem_append.1 this with h | h
  · exact .inr h
  · exact .inl h
theorem nxt_cases (r : S69) (m : Int) (ht : 0 ≤ r.f1 ∧ (r.f1 < r.f0.length ∨ r.f1 = 0)) : ((∀ s ∈ r.f0, can r.f2.f0 s = false) ∧ nxt r m = (0, [], false, false, r)) ∨ ∃ i, ∃ h : i < r.f0.length, can r.f2.f0 r.f0[i] = true ∧ nxt r m = sent r i m := by
  unfold nxt
  by_cases h : (rot r.f1.toNat r.f0).findIdx (can r.f2.f0) < r.f0.length
  · right
    rw [if_pos h]
    have hil : (r.f1.toNat + (rot r.f1.toNat r.f0).findIdx (can r.f2.f0)) % r.f0.length < r.f0.length := Nat.mod_lt _ (by omega)
    refine ⟨_, hil, ?_, rfl⟩
    have h' : (rot r.f1.toNat r.f0).findIdx (can r.f2.f0) < (rot r.f1.toNat r.f0).length := by rw [rot_len]; exact h
    have h1 := List.findIdx_getElem (w := h')
    have h2 := rot_get (t := r.f1.toNat) (l := r.f0) (by omega) h
    rw [List.getElem?_eq_getElem h', List.getElem?_eq_getElem hil] at h2
    injection h2 with h2
    rw [← h2]
    exact h1
  · left
    rw [if_neg h]
    refine ⟨fun s hs => ?_, rfl⟩
    by_cases hc : can r.f2.f0 s = true
    · exact absurd (by rw [← rot_len r.f1.toNat r.f0]; exact List.findIdx_lt_length.2 ⟨s, rot_mem.2 hs, hc⟩) h
    · simpa using hc
/-- A sum over a row. -/
def sm (f : S72 → Int) : List S72 → Int
  | [] => 0
  | s :: l => f s + sm f l
theorem sm_set (f : S72 → Int) (x : S72) : ∀ (l : List S72) (i : Nat) (h : i < l.length), sm f (l.set i x) = sm f l - f l[i] + f x
  | [], i, h => by simp at h
  | s :: l, 0, h => by simp only [List.set_cons_zero, sm, List.getElem_cons_zero]; omega
  | s :: l, i + 1, h => by
    have := sm_set f x l i (by simpa using h)
    simp only [List.set_cons_succ, sm, List.getElem_cons_succ]
    omega
theorem tot_sm : ∀ l, tot l = sm (fun s => (s.f1.length : Int)) l
  | [] => rfl
  | s :: l => by simp only [tot, sm, tot_sm l]
theorem sm_app (f : S72 → Int) : ∀ a b, sm f (a ++ b) = sm f a + sm f b
  | [], b => by simp [sm]
  | s :: a, b => by simp only [List.cons_append, sm, sm_app f a b]; omega
theorem sm_nn (f : S72 → Int) (h : ∀ s, 0 ≤ f s) : ∀ l, 0 ≤ sm f l
  | [] => by simp [sm]
  | s :: l => by have := sm_nn f h l; have := h s; simp only [sm]; omega
theorem am_bd {s : S72} {w m : Int} : 0 ≤ am s w m ∧ am s w m ≤ s.f1.length ∧ (s.f4.f0 ≥ 0 → am s w m ≤ s.f4.f0) ∧ (w ≥ 0 → am s w m ≤ w) := by
  unfold am
  omega
theorem at_uniq {l : List S72} {j : Nat} {s : Int} (hj : j < l.length) (h : l[j].f0 = s) (hu : ∀ (i : Nat) x, l[i]? = some x → x.f0 = s → i = j) : at_ s l = j := by
  unfold at_
  rw [List.findIdx_eq hj]
  refine ⟨by simpa using h, fun i hi => ?_⟩
  have hil : i < l.length := by omega
  have := hu i _ (List.getElem?_eq_getElem hil)
  simp only [decide_eq_false_iff_not]
  exact fun h' => absurd (this h') (by omega)
def es (b : List Int) (j : Nat) : S72 := ⟨(j : Int) + 1, b, true, false, ⟨1000, true⟩⟩
def el (p0 : List (List Int)) : List S72 := (p0.zipIdx).map (fun q => es q.1 q.2)
theorem mod2 {x n : Nat} (h : x < 2 * n) : x % n = if x < n then x else x - n := by
  split
  · next h' => exact Nat.mod_eq_of_lt h'
  · next h' => rw [Nat.mod_eq_sub_mod (by omega), Nat.mod_eq_of_lt (by omega)]
/-- Where an element stands once the row is turned. -/
def ps (t n i : Nat) : Nat := if t ≤ i then i - t else i + n - t
theorem ps_lt {t n i : Nat} (ht : t < n) (hi : i < n) : ps t n i < n := by unfold ps; split <;> omega
theorem ps_iff {t n i j : Nat} (ht : t < n) (hi : i < n) (hj : j < n) : ps t n i = j ↔ i = (t + j) % n := by
  rw [mod2 (by omega)]
  unfold ps
  split <;> split <;> omega
theorem ps_at {t n i : Nat} (ht : t < n) (hi : i < n) : (t + ps t n i) % n = i := ((ps_iff ht hi (ps_lt ht hi)).1 rfl).symm
theorem rot_set {α : Type} {t : Nat} {l : List α} {i : Nat} {x : α} (ht : t < l.length) (hi : i < l.length) : (rot t l).set (ps t l.length i) x = rot t (l.set i x) := by
  refine List.ext_getElem? fun j => ?_
  by_cases hj : j < l.length
  · have er : (rot t (l.set i x))[j]? = (l.set i x)[(t + j) % l.length]? := by
      have := rot_get (t := t) (l := l.set i x) (j := j) (by simpa using ht) (by simpa using hj)
      rwa [List.length_set] at this
    rw [List.getElem?_set, er, List.getElem?_set, rot_len]
    by_cases h : ps t l.length i = j
    · have h' := (ps_iff ht hi hj).1 h
      rw [if_pos h, if_pos h', if_pos (by have := ps_lt ht hi; omega), if_pos hi]
    · rw [if_neg h, if_neg (fun h' => h ((ps_iff ht hi hj).2 h')), rot_get ht hj]
  · rw [List.getElem?_eq_none (by rw [List.length_set, rot_len]; omega), List.getElem?_eq_none (by rw [rot_len, List.length_set]; omega)]
theorem rot_find {α : Type} {t : Nat} {l : List α} {i : Nat} {p : α → Bool} (ht : t < l.length) (hi : i < l.length) (hp : p l[i] = true) (hu : ∀ (j : Nat) x, l[j]? = some x → p x = true → j = i) : (rot t l).findIdx p = ps t l.length i := by
  have hl := ps_lt ht hi
  have hl' : ps t l.length i < (rot t l).length := by rw [rot_len]; exact hl
  have key : ∀ (j : Nat) (hj : j < (rot t l).length), p (rot t l)[j] = true ↔ j = ps t l.length i := by
    intro j hj
    have hjn : j < l.length := by rw [rot_len] at hj; exact hj
    have e := rot_get ht hjn
    rw [List.getElem?_eq_getElem hj] at e
    refine ⟨fun h => ?_, fun h => ?_⟩
    · have := hu _ _ e.symm h
      exact ((ps_iff ht hi hjn).2 this.symm).symm
    · subst h
      rw [ps_at ht hi, List.getElem?_eq_getElem hi] at e
      injection e with e
      rw [e]
      exact hp
  rw [List.findIdx_eq hl']
  refine ⟨(key _ hl').2 rfl, fun j hj => ?_⟩
  have hn : ¬ p (rot t l)[j] = true := fun h => absurd ((key j (by omega)).1 h) (by omega)
  exact Bool.eq_false_iff.2 hn
theorem rot_none {α : Type} {t : Nat} {l : List α} {p : α → Bool} (h : ∀ x ∈ l, p x = false) : (rot t l).findIdx p = l.length := by
  rw [← rot_len t l]
  exact List.findIdx_eq_length.2 fun x hx => h x (rot_mem.1 hx)
theorem rot_rot {α : Type} {t a : Nat} {l : List α} (ht : t < l.length) (ha : a < l.length) : rot a (rot t l) = rot ((t + a) % l.length) l := by
  refine List.ext_getElem? fun j => ?_
  by_cases hj : j < l.length
  · have hm : (t + a) % l.length < l.length := Nat.mod_lt _ (by omega)
    have hm2 : (a + j) % l.length < l.length := Nat.mod_lt _ (by omega)
    rw [rot_get (by rw [rot_len]; exact ha) (by rw [rot_len]; exact hj), rot_len, rot_get ht hm2, rot_get hm hj]
    congr 1
    rw [Nat.add_mod_mod, Nat.mod_add_mod, Nat.add_assoc]
  · rw [List.getElem?_eq_none (by rw [rot_len, rot_len]; omega), List.getElem?_eq_none (by rw [rot_len]; omega)]
def conv (s : S72) : S61 := ⟨s.f0, toS s.f1, s.f2, s.f3, ⟨s.f4.f0, s.f4.f1⟩⟩
/-- The document's ring. -/
def abs (r : S69) : S56 := ⟨(rot r.f1.toNat r.f0).map conv, r.f1, ⟨r.f2.f0, r.f2.f1⟩⟩
theorem abs_len (r : S69) : (abs r).f0.length = r.f0.length := by simp [abs, rot_len]
/-- What holds all the time. -/
structure Pk (r : S69) : Prop where
  n : r.f0.length ≤ 300
  t : 0 ≤ r.f1 ∧ (r.f1 < r.f0.length ∨ r.f1 = 0)
  w : -2147483648 ≤ r.f2.f0 ∧ r.f2.f0 ≤ 2147483647
  z : ∀ s ∈ r.f0, s.f0 ≠ 0 ∧ -2147483648 ≤ s.f4.f0 ∧ s.f4.f0 ≤ 2147483647
  u : (r.f0.map S72.f0).Nodup
  b : sm (fun s => (s.f1.length : Int)) r.f0 ≤ 9000
theorem sm_mem (f : S72 → Int) (h : ∀ s, 0 ≤ f s) : ∀ (l : List S72) (s : S72), s ∈ l → f s ≤ sm f l
  | [], s, hs => by cases hs
  | x :: l, s, hs => by
    have h1 := sm_nn f h l
    have h2 := h x
    simp only [sm]
    rcases List.mem_cons.1 hs with rfl | hs
    · omega
    · have := sm_mem f h l s hs
      omega
theorem len_nn (s : S72) : (0 : Int) ≤ (fun s : S72 => (s.f1.length : Int)) s := by simp
theorem Pk.rok {r : S69} (h : Pk r) : Rok r := by
  refine ⟨by have := h.n; omega, h.t, by have := h.w; omega, fun s hs => ?_⟩
  have h1 := sm_mem _ len_nn r.f0 s hs
  have := h.b
  have := h.z s hs
  exact ⟨by omega, by omega⟩
theorem at_of {l : List S72} (hu : (l.map S72.f0).Nodup) {i : Nat} (hi : i < l.length) {s : Int} (h : l[i].f0 = s) : at_ s l = i := by
  refine at_uniq hi h fun j x hx hxs => ?_
  have hj := (List.getElem?_eq_some_iff.1 hx).1
  have e1 : (l.map S72.f0)[j]? = some s := by rw [List.getElem?_map, hx]; simp [hxs]
  have e2 : (l.map S72.f0)[i]? = some s := by rw [List.getElem?_map, List.getElem?_eq_getElem hi]; simp [h]
  exact (List.getElem?_inj (by simpa using hj) hu).1 (e1.trans e2.symm)
theorem uniq {l : List S72} (hu : (l.map S72.f0).Nodup) {i : Nat} (hi : i < l.length) {s : Int} (h : l[i].f0 = s) (j : Nat) (x : S72) (hx : l[j]? = some x) (hxs : x.f0 = s) : j = i := by
  have hj := (List.getElem?_eq_some_iff.1 hx).1
  have e1 : (l.map S72.f0)[j]? = some s := by rw [List.getElem?_map, hx]; simp [hxs]
  have e2 : (l.map S72.f0)[i]? = some s := by rw [List.getElem?_map, List.getElem?_eq_getElem hi]; simp [h]
  exact (List.getElem?_inj (by simpa using hj) hu).1 (e1.trans e2.symm)
theorem none_of {l : List S72} {s : Int} (h : ¬ at_ s l < l.length) : ∀ x ∈ l, x.f0 ≠ s := by
  intro x hx hxs
  exact h (List.findIdx_lt_length.2 ⟨x, hx, by simpa using hxs⟩)
/-! ### the document's functions -/
def at61 (s : Int) (l : List S61) : Nat := l.findIdx (fun x => decide (x.f0 = s))
theorem find13ql0 (p : S56) (s : Int) (hl : p.f0.length < 4611686018427387904) : ∀ (n i k : Nat), n = p.f0.length - i → i ≤ p.f0.length → n < k →
    louverref13qR_Find.l0 k i p s = some (if i + at61 s (p.f0.drop i) < p.f0.length then ((i + at61 s (p.f0.drop i) : Nat) : Int) else -1) := by
  intro n
  induction n with
  | zero =>
    intro i k hn hi hk
    obtain ⟨k, rfl⟩ : ∃ m, k = m + 1 := ⟨k - 1, by omega⟩
    obtain rfl : i = p.f0.length := by omega
    simp [louverref13qR_Find.l0, at61]
  | succ n ih =>
    intro i k hn hi hk
    obtain ⟨k, rfl⟩ : ∃ m, k = m + 1 := ⟨k - 1, by omega⟩
    have hlt : i < p.f0.length := by omega
    unfold at61
    rw [louverref13qR_Find.l0, if_pos (by omega), if_pos (by omega), gt_nat hlt, List.drop_eq_getElem_cons hlt, List.findIdx_cons]
    by_cases hp : p.f0[i].f0 = s
    · rw [if_pos hp]
      simp [hp, hlt]
    · rw [if_neg hp, wi64 (by omega) (by omega)]
      have := ih (i + 1) k (by omega) (by omega) (by omega)
      push_cast at this ⊢
      rw [this]
      simp only [hp, decide_false, cond_false]
      unfold at61
      congr 1
      split <;> split <;> first | rfl | omega
theorem find13qf (k : Nat) (p : S56) (s : Int) (hl : p.f0.length < 4611686018427387904) (hk : p.f0.length < k) : louverref13qR_Find.f k p s = some (if at61 s p.f0 < p.f0.length then (at61 s p.f0 : Int) else -1) := by
  unfold louverref13qR_Find.f
  have := find13ql0 p s hl p.f0.length 0 k (by omega) (by omega) hk
  simpa using this
theorem at61qmap (s : Int) (l : List S72) : at61 s (l.map conv) = at_ s l := by
  unfold at61 at_
  rw [List.findIdx_map]
  rfl
/-- Where the document's ring has a stream. -/
theorem at61qabs {r : S69} (h : Pk r) (s : Int) (hs : at_ s r.f0 < r.f0.length) : at61 s (abs r).f0 = ps r.f1.toNat r.f0.length (at_ s r.f0) := by
  unfold abs
  simp only
  rw [at61qmap]
  have ht := h.t
  have hq := at_eq hs
  unfold at_
  refine rot_find (by omega) hs ?_ fun j x hx hxs => ?_
  · exact decide_eq_true hq
  · exact uniq h.u hs hq j x hx (by simpa using hxs)
theorem at61qabs_none {r : S69} (s : Int) (hs : ¬ at_ s r.f0 < r.f0.length) : ¬ at61 s (abs r).f0 < (abs r).f0.length := by
  rw [abs_len]
  unfold abs
  simp only
  rw [at61qmap]
  unfold at_
  rw [rot_none (fun x hx => by simpa using none_of hs x hx)]
  omega
theorem abs_get {r : S69} (ht : 0 ≤ r.f1 ∧ (r.f1 < r.f0.length ∨ r.f1 = 0)) {i : Nat} (hi : i < r.f0.length) : gt z61 (abs r).f0 ((ps r.f1.toNat r.f0.length i : Nat) : Int) = conv r.f0[i] := by
  have hp := ps_lt (t := r.f1.toNat) (n := r.f0.length) (i := i) (by omega) hi
  rw [gt_nat (by rw [abs_len]; exact hp)]
  have e : (abs r).f0[ps r.f1.toNat r.f0.length i]? = some (conv r.f0[i]) := by
    unfold abs
    simp only
    rw [List.getElem?_map, rot_get (by omega) hp, ps_at (by omega) hi, List.getElem?_eq_getElem hi]
    rfl
  rw [List.getElem?_eq_getElem (by rw [abs_len]; exact hp)] at e
  injection e
theorem abs_set {r : S69} (ht : 0 ≤ r.f1 ∧ (r.f1 < r.f0.length ∨ r.f1 = 0)) {i : Nat} (hi : i < r.f0.length) (x : S72) (w : S94) : (⟨(abs r).f0.set (ps r.f1.toNat r.f0.length i) (conv x), r.f1, ⟨w.f0, w.f1⟩⟩ : S56) = abs ⟨r.f0.set i x, r.f1, w⟩ := by
  unfold abs
  simp only
  rw [← List.map_set, rot_set (by omega) hi]
theorem with_f (p : S56) (i : Nat) (s : S61) (hi : i < p.f0.length) (hl : p.f0.length ≤ 2932031007402) : louverref13qR_with.f p (i : Int) s = some ⟨p.f0.set i s, p.f1, p.f2⟩ := by
  unfold louverref13qR_with.f
  rw [if_pos (by simpa using hl)]
  simp only [lt1, List.nil_append]
  rw [if_pos (by omega), if_pos (by omega), Int.toNat_natCast]
theorem between_f (x : Int) : louverref10qbetween.f x = some (clampW x) := by
  unfold louverref10qbetween.f clampW
  split
  · congr 1; omega
  · split <;> (congr 1; omega)
theorem new10qf (x : Int) (b : Bool) : louverref10qNew.f x b = some ⟨clampW x, b⟩ := by
  unfold louverref10qNew.f
  rw [between_f]
  rfl
theorem new13qf (x : Int) : louverref13qNew.f x = some (abs ⟨[], 0, ⟨clampW x, false⟩⟩) := by
  unfold louverref13qNew.f
  rw [new10qf]
  rfl
theorem last_f (p : S56) (h : p.f0.length < 4611686018427387904) (h1 : 0 ≤ p.f1 ∧ p.f1 ≤ 4611686018427387904) : louverref13qR_Last.f p = some (p.f0.length - p.f1) := by
  unfold louverref13qR_Last.f
  rw [wi64 (by omega) (by omega)]
theorem open13 (k : Nat) (r : S69) (s left : Int) (h : Pk r) (hk : 300 < k) : louverref13qR_Open.f k (abs r) s left = some (abs (opn r s left).2, (opn r s left).1) := by
  have ht := h.t
  have hn := h.n
  unfold louverref13qR_Open.f opn
  by_cases h0 : s = 0
  · rw [if_pos h0, if_pos (.inl h0)]
  · rw [if_neg h0, find13qf k _ s (by simp only [abs_len]; omega) (by simp only [abs_len]; omega)]
    simp only [bnd1]
    by_cases h2 : at_ s r.f0 < r.f0.length
    · have e := at61qabs h s h2
      have := ps_lt (t := r.f1.toNat) (n := r.f0.length) (i := at_ s r.f0) (by omega) h2
      rw [if_pos (show at61 s (abs r).f0 < (abs r).f0.length by rw [e, abs_len]; exact this), if_pos (by omega), if_pos (.inr h2)]
    · have hno := at61qabs_none (r := r) s h2
      rw [if_neg hno, if_neg (show ¬ ((-1 : Int) ≥ 0) by omega), last_f _ (by simp only [abs_len]; omega) (by show 0 ≤ r.f1 ∧ r.f1 ≤ _; omega), if_neg (show ¬ (s = 0 ∨ at_ s r.f0 < r.f0.length) by simp only [h0, h2]; simp)]
      have el : (abs r).f0.length = r.f0.length := abs_len r
      have ef : (abs r).f1 = r.f1 := rfl
      simp only [el, ef, lt1, bnd1, new10qf, List.nil_append]
      have hlt : ((r.f0.length : Int) - r.f1).toNat = r.f0.length - r.f1.toNat := by omega
      rw [if_pos (by omega), if_pos (by omega), if_pos (by simp only [List.length_nil, List.length_take, el]; omega), if_pos (by simp only [List.length_take, el]; omega), if_pos (by simp only [List.length_take, List.length_drop, List.length_append, List.length_singleton, el]; omega)]
      congr 1
      unfold abs
      simp only [hlt]
      congr 1
      have e1 : (rot r.f1.toNat r.f0).take (r.f0.length - r.f1.toNat) = r.f0.drop r.f1.toNat := by
        unfold rot
        rw [List.take_left' (by simp)]
      have e2 : (rot r.f1.toNat r.f0).drop (r.f0.length - r.f1.toNat) = r.f0.take r.f1.toNat := by
        unfold rot
        rw [List.drop_left' (by simp)]
      rw [← List.map_take, ← List.map_drop, e1, e2]
      unfold rot
      rw [List.drop_append_of_le_length (by omega), List.take_append_of_le_length (by omega), List.map_append, List.map_append]
      rfl
theorem put13 (k : Nat) (r : S69) (s : Int) (b : List Int) (e : Bool) (h : Pk r) (hb : b.length ≤ 70368744177664) (hk : 300 < k) : louverref13qR_Put.f k (abs r) s (toS b) e = some (abs (put r s b e).2, (put r s b e).1) := by
  have ht := h.t
  have hn := h.n
  unfold louverref13qR_Put.f put
  rw [find13qf k _ s (by simp only [abs_len]; omega) (by simp only [abs_len]; omega)]
  simp only [bnd1]
  by_cases h2 : at_ s r.f0 < r.f0.length
  · have e' := at61qabs h s h2
    have hp := ps_lt (t := r.f1.toNat) (n := r.f0.length) (i := at_ s r.f0) (by omega) h2
    have el : (abs r).f0.length = r.f0.length := abs_len r
    have hbb := (h.rok.s _ (List.getElem_mem h2)).b
    rw [if_pos (show at61 s (abs r).f0 < (abs r).f0.length by rw [e', abs_len]; exact hp), if_neg (by omega), if_pos (by omega), if_pos (by rw [e', el]; omega), if_pos h2, e', abs_get ht h2, gt_nat h2]
    by_cases h3 : r.f0[at_ s r.f0].f2 = true
    · rw [if_pos (show (conv r.f0[at_ s r.f0]).f2 = true from h3), if_pos h3]
    · rw [if_neg (show ¬ (conv r.f0[at_ s r.f0]).f2 = true from h3), if_neg h3, if_pos (by simp only [conv, toS_length]; omega), with_f _ _ _ (by show _ < (abs r).f0.length; rw [el]; exact hp) (by show (abs r).f0.length ≤ _; omega)]
      simp only
      have := abs_set ht h2 (putS r.f0[at_ s r.f0] b e) r.f2
      rw [← this]
      simp only [conv, putS, toS_append]
      rfl
  · have hno := at61qabs_none (r := r) s h2
    rw [if_neg hno, if_pos (by omega), if_neg h2]
theorem wgrow13 (w : S94) (n : Int) (c : Bool) (hw : -2147483648 ≤ w.f0 ∧ w.f0 ≤ 2147483647) (hn : -4294967296 < n ∧ n < 4294967296) : louverref10qW_Grow.f ⟨w.f0, w.f1⟩ n c =
    some (if w.f0 + n > 2147483647 then (⟨w.f0, w.f1⟩, if w.f1 = true ∧ c = false then 2 else 1) else (⟨max (w.f0 + n) (-2147483648), w.f1⟩, 0)) := by
  unfold louverref10qW_Grow.f
  simp only
  rw [wi64 (by omega) (by omega)]
  by_cases h : w.f0 + n > 2147483647
  · rw [if_pos h, if_pos h]
    cases w.f1 <;> cases c <;> simp
  · rw [if_neg h, if_neg h, between_f]
    simp only [bnd1]
    congr 2
    unfold clampW
    congr 1
    omega
theorem grow13 (k : Nat) (r : S69) (s n : Int) (h : Pk r) (hn : 0 ≤ n ∧ n < 4294967296) (hk : 300 < k) : ∃ sc, louverref13qR_Grow.f k (abs r) s n = some (abs (grow r s n).2, sc) ∧ louverlaw13qtold.f sc = some (grow r s n).1 := by
  have ht := h.t
  have hl := h.n
  have el : (abs r).f0.length = r.f0.length := abs_len r
  unfold louverref13qR_Grow.f grow
  rw [wi64 (x := n) (by omega) (by omega)]
  have key : ∀ w : S94, -2147483648 ≤ w.f0 ∧ w.f0 ≤ 2147483647 → ∃ sc, louverref10qW_Grow.f ⟨w.f0, w.f1⟩ n false = some (⟨(wgrow w n).2.f0, (wgrow w n).2.f1⟩, sc) ∧ louverlaw13qtold.f sc = some (wgrow w n).1 := by
    intro w hw
    rw [wgrow13 w n false hw (by omega)]
    unfold wgrow
    by_cases hb : w.f0 + n > 2147483647
    · rw [if_pos hb, if_pos hb]
      refine ⟨_, rfl, ?_⟩
      cases w.f1 <;> rfl
    · rw [if_neg hb, if_neg hb]
      exact ⟨_, rfl, rfl⟩
  by_cases h0 : s = 0
  · rw [if_pos h0, if_pos h0]
    obtain ⟨sc, e1, e2⟩ := key r.f2 h.w
    refine ⟨sc, ?_, e2⟩
    have : louverref10qW_Grow.f ⟨(abs r).f2.f0, (abs r).f2.f1⟩ n false = _ := e1
    rw [this]
    rfl
  · rw [if_neg h0, if_neg h0, find13qf k _ s (by simp only [abs_len]; omega) (by simp only [abs_len]; omega)]
    simp only [bnd1]
    by_cases h2 : at_ s r.f0 < r.f0.length
    · have e' := at61qabs h s h2
      have hp := ps_lt (t := r.f1.toNat) (n := r.f0.length) (i := at_ s r.f0) (by omega) h2
      rw [if_pos (show at61 s (abs r).f0 < (abs r).f0.length by rw [e', abs_len]; exact hp), if_neg (by omega), if_pos (by omega), if_pos (by rw [e', el]; omega), if_pos h2, e', abs_get ht h2, gt_nat h2]
      obtain ⟨sc, e1, e2⟩ := key r.f0[at_ s r.f0].f4 (by have := h.z _ (List.getElem_mem h2); omega)
      refine ⟨sc, ?_, e2⟩
      have : louverref10qW_Grow.f ⟨(conv r.f0[at_ s r.f0]).f4.f0, (conv r.f0[at_ s r.f0]).f4.f1⟩ n false = _ := e1
      rw [this]
      simp only [bnd2]
      rw [with_f _ _ _ (by show _ < (abs r).f0.length; rw [el]; exact hp) (by show (abs r).f0.length ≤ _; omega)]
      simp only
      have := abs_set ht h2 (setW r.f0[at_ s r.f0] (wgrow r.f0[at_ s r.f0].f4 n).2) r.f2
      rw [← this]
      rfl
    · have hno := at61qabs_none (r := r) s h2
      rw [if_neg hno, if_pos (by omega), if_neg h2]
      exact ⟨0, rfl, rfl⟩
theorem toS_nil {l : List Int} : toS l = [] ↔ l = [] := by
  refine ⟨fun h => List.length_eq_zero_iff.1 (by rw [← toS_length, h]; rfl), fun h => by rw [h]; rfl⟩
theorem toS_drop (l : List Int) (n : Nat) : (toS l).drop n = toS (l.drop n) := by simp [toS]
theorem toS_take (l : List Int) (n : Nat) : (toS l).take n = toS (l.take n) := by simp [toS]
theorem can13 (r : S69) (s : S72) : louverref13qR_Can.f (abs r) (conv s) = some (can r.f2.f0 s) := by
  unfold louverref13qR_Can.f can
  by_cases h : s.f1 = []
  · rw [if_pos (show (conv s).f1 = ([] : List UInt8) from toS_nil.2 h), if_pos h]
    simp only [conv]
    by_cases hf : s.f2 = true <;> simp [hf]
  · rw [if_neg (show ¬ (conv s).f1 = ([] : List UInt8) from fun h' => h (toS_nil.1 h')), if_neg h]
    simp only [conv, abs]
    by_cases h2 : s.f4.f0 > 0 <;> simp [h2]
theorem turned_f (p : S56) (n : Nat) (h1 : 0 < p.f0.length ∧ p.f0.length ≤ 300) (h2 : 0 ≤ p.f1 ∧ p.f1 < p.f0.length) : louverref13qR_turned.f p (n : Int) = some ⟨rot (n % p.f0.length) p.f0, ((p.f1.toNat + n % p.f0.length) % p.f0.length : Nat), p.f2⟩ := by
  have ea : Int.tmod (n : Int) (p.f0.length : Int) = ((n % p.f0.length : Nat) : Int) := by
    rw [Int.tmod_eq_emod_of_nonneg (by omega)]
    push_cast
    rfl
  have hlt : n % p.f0.length < p.f0.length := Nat.mod_lt _ (by omega)
  unfold louverref13qR_turned.f
  simp only [ea, lt1, List.nil_append, Int.toNat_natCast]
  rw [if_neg (by omega), if_pos (by omega), if_pos (by omega), if_pos (by omega), if_pos (by simp only [List.length_nil, List.length_drop]; omega), if_pos (by simp only [List.length_drop, List.length_take]; omega), if_pos (by simp only [List.length_append, List.length_drop, List.length_take]; omega)]
  have el : (p.f0.drop (n % p.f0.length) ++ p.f0.take (n % p.f0.length)).length = p.f0.length := by simp only [List.length_append, List.length_drop, List.length_take]; omega
  rw [el, wi64 (by omega) (by omega), Int.tmod_eq_emod_of_nonneg (by omega)]
  have e2 : (p.f1 + ((n % p.f0.length : Nat) : Int)) % (p.f0.length : Int) = (((p.f1.toNat + n % p.f0.length) % p.f0.length : Nat) : Int) := by
    have : p.f1 = (p.f1.toNat : Int) := by omega
    rw [this]
    simp only [Int.toNat_natCast]
    push_cast
    rfl
  rw [e2]
  rfl
theorem next13qj1 (k : Nat) (r : S69) (m : Int) (j i : Nat) (hP : Pk r) (hj : j < r.f0.length) (hi : i = (r.f1.toNat + j) % r.f0.length) (hil : i < r.f0.length) (hc : can r.f2.f0 r.f0[i] = true) :
    louverref13qR_Next.j1 (k + 1) (am r.f0[i] r.f2.f0 m) (abs r) (j : Int) = some (abs (sent r i m).2.2.2.2, (sent r i m).1, toS (sent r i m).2.1, (sent r i m).2.2.1, (sent r i m).2.2.2.1) := by
  have ht := hP.t
  have hn := hP.n
  have hw := hP.w
  have hz := hP.z _ (List.getElem_mem hil)
  have el : (abs r).f0.length = r.f0.length := abs_len r
  have htl : r.f1.toNat < r.f0.length := by omega
  have hps : ps r.f1.toNat r.f0.length i = j := (ps_iff htl hil hj).2 hi
  have eg : gt z61 (abs r).f0 (j : Int) = conv r.f0[i] := by rw [← hps]; exact abs_get ht hil
  obtain ⟨s, hs⟩ : ∃ s, s = r.f0[i] := ⟨_, rfl⟩
  obtain ⟨a, ha⟩ : ∃ a, a = am s r.f2.f0 m := ⟨_, rfl⟩
  obtain ⟨a0, a1, a2, a3⟩ := am_bd (s := s) (w := r.f2.f0) (m := m)
  rw [← ha] at a0 a1 a2 a3
  rw [← hs] at hc hz eg ⊢
  have hsb := (hP.rok.s s (hs ▸ List.getElem_mem hil)).b
  -- a is what both take
  have hcp : a ≤ 2147483647 + 1 ∧ (a = 0 ∨ a ≤ s.f4.f0 ∧ a ≤ r.f2.f0) := by
    by_cases h0 : s.f1 = []
    · rw [h0] at a1
      simp only [List.length_nil] at a1
      exact ⟨by omega, .inl (by omega)⟩
    · unfold can at hc
      rw [if_neg h0] at hc
      simp only [Bool.and_eq_true, decide_eq_true_eq] at hc
      have := a2 (by omega)
      have := a3 (by omega)
      exact ⟨by omega, .inr ⟨by omega, by omega⟩⟩
  rw [louverref13qR_Next.j1]
  simp only [eg, ← ha]
  have ew1 : IntKind.i64.wrap ((abs r).f2.f0 - a) = r.f2.f0 - a := wi64 (by show _ ≤ r.f2.f0 - a; omega) (by show r.f2.f0 - a < _; omega)
  have ew2 : IntKind.i64.wrap ((conv s).f4.f0 - a) = s.f4.f0 - a := wi64 (by show _ ≤ s.f4.f0 - a; omega) (by show s.f4.f0 - a < _; omega)
  have ew3 : IntKind.i64.wrap ((j : Int) + 1) = ((j + 1 : Nat) : Int) := by rw [wi64 (by omega) (by omega)]; push_cast; rfl
  rw [ew1, ew2, ew3, if_pos a0, if_pos (show a ≤ (((conv s).f1.length : Nat) : Int) by simp only [conv, toS_length]; exact a1)]
  have ed : ((conv s).f1).drop a.toNat = toS (s.f1.drop a.toNat) := toS_drop _ _
  have et : ((conv s).f1).take a.toNat = toS (s.f1.take a.toNat) := toS_take _ _
  rw [ed, et]
  -- the row behind it
  obtain ⟨x, hx⟩ : ∃ x, x = cutS s a := ⟨_, rfl⟩
  have hq : ∀ e : Bool, e = x.f3 → (bnd1 (louverref13qR_with.f (⟨(abs r).f0, (abs r).f1, (⟨r.f2.f0 - a, (abs r).f2.f1⟩ : S41)⟩ : S56) (j : Int) (⟨(conv s).f0, toS (s.f1.drop a.toNat), (conv s).f2, e, (⟨s.f4.f0 - a, (conv s).f4.f1⟩ : S41)⟩ : S61)) fun r276 =>
      (bnd1 (louverref13qR_turned.f (⟨r276.f0, r276.f1, (⟨r276.f2.f0, r276.f2.f1⟩ : S41)⟩ : S56) ((j + 1 : Nat) : Int)) fun r2bq => (some ((⟨r2bq.f0, r2bq.f1, (⟨r2bq.f2.f0, r2bq.f2.f1⟩ : S41)⟩ : S56), (conv s).f0, toS (s.f1.take a.toNat), e, true)))) =
      some (abs (sent r i m).2.2.2.2, (sent r i m).1, toS (sent r i m).2.1, (sent r i m).2.2.1, (sent r i m).2.2.2.1) := by
    intro e he
    have hcv : (⟨(conv s).f0, toS (s.f1.drop a.toNat), (conv s).f2, e, (⟨s.f4.f0 - a, (conv s).f4.f1⟩ : S41)⟩ : S61) = conv x := by
      rw [he, hx]
      rfl
    rw [hcv, with_f _ _ _ (by show j < (abs r).f0.length; omega) (by show (abs r).f0.length ≤ _; omega)]
    simp only [bnd1]
    have hset := abs_set ht hil x ⟨r.f2.f0 - a, r.f2.f1⟩
    rw [hps] at hset
    have hset' : (⟨(abs r).f0.set j (conv x), (abs r).f1, (⟨r.f2.f0 - a, (abs r).f2.f1⟩ : S41)⟩ : S56) = abs ⟨r.f0.set i x, r.f1, ⟨r.f2.f0 - a, r.f2.f1⟩⟩ := hset
    have htf := turned_f (abs ⟨r.f0.set i x, r.f1, ⟨r.f2.f0 - a, r.f2.f1⟩⟩) (j + 1) (by rw [abs_len, List.length_set]; omega) (by rw [abs_len, List.length_set]; show 0 ≤ r.f1 ∧ r.f1 < _; omega)
    have hee := (congrArg (fun q => louverref13qR_turned.f q ((j + 1 : Nat) : Int)) hset').trans htf
    rw [hee]
    simp only [abs_len, List.length_set]
    unfold sent
    simp only [gt_nat hil, ← hs, ← ha, ← hx]
    have etm : Int.tmod ((i : Int) + 1) (r.f0.length : Int) = (((i + 1) % r.f0.length : Nat) : Int) := by
      rw [Int.tmod_eq_emod_of_nonneg (by omega)]
      push_cast
      rfl
    have emm : (r.f1.toNat + (j + 1) % r.f0.length) % r.f0.length = (i + 1) % r.f0.length := by
      rw [hi, Nat.add_mod_mod, Nat.mod_add_mod, Nat.add_assoc]
    rw [etm]
    unfold abs
    simp only [Int.toNat_natCast]
    have er := rot_rot (t := r.f1.toNat) (a := (j + 1) % r.f0.length) (l := r.f0.set i x) (by rw [List.length_set]; omega) (by rw [List.length_set]; exact Nat.mod_lt _ (by omega))
    rw [List.length_set] at er
    have emr : rot ((j + 1) % r.f0.length) ((rot r.f1.toNat (r.f0.set i x)).map conv) = (rot ((i + 1) % r.f0.length) (r.f0.set i x)).map conv := by
      rw [← emm, ← er]
      simp [rot]
    rw [emr]
    have emt : ((r.f1.toNat + (j + 1) % r.f0.length) % r.f0.length : Nat) = (i + 1) % r.f0.length := emm
    simp only [emt, he]
    rfl
  by_cases h2 : s.f2 = true
  · rw [if_pos (show (conv s).f2 = true from h2)]
    refine hq _ ?_
    rw [hx]
    simp only [cutS, h2, Bool.true_and]
    by_cases h3 : s.f1.drop a.toNat = []
    · rw [h3]
      simp [toS]
    · have : ¬ toS (s.f1.drop a.toNat) = [] := fun h => h3 (toS_nil.1 h)
      have h4 : ¬ (((s.f1.drop a.toNat).length : Nat) : Int) = 0 := fun h => h3 (List.length_eq_zero_iff.1 (by omega))
      simp only [this, h4, decide_false]
  · rw [if_neg (show ¬ (conv s).f2 = true from h2)]
    refine hq false ?_
    rw [hx]
    have : s.f2 = false := by simpa using h2
    simp [cutS, this]
theorem next13ql0 (r : S69) (m : Int) (x : S56) (hP : Pk r) : ∀ (d j k : Nat), d = r.f0.length - j → j ≤ r.f0.length → d + 1 < k → (∀ i < j, ∀ s, (rot r.f1.toNat r.f0)[i]? = some s → can r.f2.f0 s = false) →
    louverref13qR_Next.l0 k (abs r) x j (abs r) m = some (abs (nxt r m).2.2.2.2, (nxt r m).1, toS (nxt r m).2.1, (nxt r m).2.2.1, (nxt r m).2.2.2.1) := by
  have ht := hP.t
  have hn := hP.n
  have el : (abs r).f0.length = r.f0.length := abs_len r
  intro d
  induction d with
  | zero =>
    intro j k hd hj hk hno
    obtain ⟨k, rfl⟩ : ∃ m, k = m + 1 := ⟨k - 1, by omega⟩
    obtain rfl : j = r.f0.length := by omega
    rw [louverref13qR_Next.l0, if_neg (by rw [el]; omega)]
    have e : nxt r m = (0, [], false, false, r) := by
      rcases nxt_cases r m ht with ⟨_, e⟩ | ⟨i, hi, hc, e⟩
      · exact e
      · exfalso
        have hp := ps_lt (t := r.f1.toNat) (n := r.f0.length) (i := i) (by omega) hi
        have h1 := rot_get (t := r.f1.toNat) (l := r.f0) (by omega) hp
        rw [ps_at (by omega) hi, List.getElem?_eq_getElem hi] at h1
        rw [hno _ hp _ h1] at hc
        cases hc
    rw [e]
    rfl
  | succ d ih =>
    intro j k hd hj hk hno
    obtain ⟨k, rfl⟩ : ∃ m, k = m + 1 + 1 := ⟨k - 2, by omega⟩
    have hjl : j < r.f0.length := by omega
    have htl : r.f1.toNat < r.f0.length := by omega
    obtain ⟨i, hi⟩ : ∃ i, i = (r.f1.toNat + j) % r.f0.length := ⟨_, rfl⟩
    have hil : i < r.f0.length := by rw [hi]; exact Nat.mod_lt _ (by omega)
    have hps : ps r.f1.toNat r.f0.length i = j := (ps_iff htl hil hjl).2 hi
    have eg : gt z61 (abs r).f0 (j : Int) = conv r.f0[i] := by rw [← hps]; exact abs_get ht hil
    have er := rot_get htl hjl
    rw [← hi, List.getElem?_eq_getElem hil] at er
    have e1 : louverref13qR_Can.f (⟨(abs r).f0, (abs r).f1, (⟨(abs r).f2.f0, (abs r).f2.f1⟩ : S41)⟩ : S56) (⟨(conv r.f0[i]).f0, (conv r.f0[i]).f1, (conv r.f0[i]).f2, (conv r.f0[i]).f3, (⟨(conv r.f0[i]).f4.f0, (conv r.f0[i]).f4.f1⟩ : S41)⟩ : S61) = some (can r.f2.f0 r.f0[i]) := can13 r _
    rw [louverref13qR_Next.l0]
    simp only [eg]
    rw [if_pos (by omega), if_pos (by omega), if_pos (by omega), e1]
    simp only [bnd1]
    by_cases hc : can r.f2.f0 r.f0[i] = true
    · rw [if_pos hc]
      have hz := hP.z _ (List.getElem_mem hil)
      have hnx : nxt r m = sent r i m := by
        have hq : (rot r.f1.toNat r.f0).findIdx (can r.f2.f0) = j := by
          have hjr : j < (rot r.f1.toNat r.f0).length := by rw [rot_len]; exact hjl
          rw [List.findIdx_eq hjr]
          refine ⟨?_, fun i' hi' => hno i' hi' _ (List.getElem?_eq_getElem (by omega))⟩
          rw [List.getElem?_eq_getElem hjr] at er
          injection er with er
          rw [er]
          exact hc
        unfold nxt
        rw [hq, if_pos hjl, ← hi]
      have ha : (if (((conv r.f0[i]).f1.length : Nat) : Int) > 0 then mnI (mnI (mnI (((conv r.f0[i]).f1.length : Nat) : Int) (mxI 1 m)) ((conv r.f0[i]).f4.f0)) (abs r).f2.f0 else (((conv r.f0[i]).f1.length : Nat) : Int)) = am r.f0[i] r.f2.f0 m := by
        simp only [conv, toS_length, mn_eq, mx_eq, abs]
        unfold am
        by_cases h0 : r.f0[i].f1 = []
        · rw [h0]
          simp only [List.length_nil]
          rw [if_neg (by omega)]
          omega
        · have hpos : 0 < r.f0[i].f1.length := List.length_pos_iff.2 h0
          unfold can at hc
          rw [if_neg h0] at hc
          simp only [Bool.and_eq_true, decide_eq_true_eq] at hc
          rw [if_pos (by omega)]
          omega
      have hj1 := next13qj1 k r m j i hP hjl hi hil hc
      rw [hnx, ← hj1, ← ha]
      split <;> rfl
    · rw [if_neg hc, wi64 (by omega) (by omega)]
      have := ih (j + 1) (k + 1) (by omega) (by omega) (by omega) (fun i' hi' s' hs' => by
        rcases Nat.lt_succ_iff_lt_or_eq.1 hi' with h | h
        · exact hno i' h s' hs'
        · subst h
          rw [er] at hs'
          injection hs' with hs'
          subst hs'
          simpa using hc)
      push_cast at this
      exact this
theorem next13 (k : Nat) (r : S69) (m : Int) (hP : Pk r) (hk : 302 < k) : louverref13qR_Next.f k (abs r) m = some (abs (nxt r m).2.2.2.2, (nxt r m).1, toS (nxt r m).2.1, (nxt r m).2.2.1, (nxt r m).2.2.2.1) := by
  unfold louverref13qR_Next.f
  exact next13ql0 r m _ hP r.f0.length 0 k (by omega) (by omega) (by have := hP.n; omega) (fun i hi => by omega)
theorem shift13ql0 (a b : Int) (ha : 0 ≤ a ∧ a < 4294967296) (hb : 0 ≤ b ∧ b < 4294967296) (t : Int) (w : S94) (x y : S56) : ∀ (suf pre : List S72) (k : Nat), (∀ s ∈ suf, -2147483648 ≤ s.f4.f0 ∧ s.f4.f0 ≤ 2147483647) → pre.length + suf.length ≤ 300 → y.f0.length = pre.length + suf.length →
    0 ≤ t ∧ (t < pre.length + suf.length ∨ t = 0) → suf.length < k →
    ∃ sc, louverref13qR_Shift.l0 k (abs ⟨pre ++ suf, t, w⟩) x (pre.length : Int) y a b = some (abs ⟨pre ++ (shl a b suf).2, t, w⟩, sc) ∧ louverlaw13qtold.f sc = some (shl a b suf).1 := by
  intro suf
  induction suf with
  | nil =>
    intro pre k hs hl hy ht hk
    obtain ⟨k, rfl⟩ : ∃ m, k = m + 1 := ⟨k - 1, by omega⟩
    simp only [List.length_nil, Nat.add_zero] at hy
    refine ⟨0, ?_, rfl⟩
    rw [louverref13qR_Shift.l0, if_neg (by omega)]
    rfl
  | cons s suf ih =>
    intro pre k hs hl hy ht hk
    obtain ⟨k, rfl⟩ : ∃ m, k = m + 1 := ⟨k - 1, by omega⟩
    simp only [List.length_cons] at hl hy hk ht
    obtain ⟨r, hr⟩ : ∃ r : S69, r = ⟨pre ++ s :: suf, t, w⟩ := ⟨_, rfl⟩
    have e0 : r.f0 = pre ++ s :: suf := by rw [hr]
    have e1 : r.f1 = t := by rw [hr]
    have e2 : r.f2 = w := by rw [hr]
    have hrl : r.f0.length = pre.length + (suf.length + 1) := by rw [e0]; simp
    have htr : 0 ≤ r.f1 ∧ (r.f1 < r.f0.length ∨ r.f1 = 0) := by rw [e1, hrl]; omega
    have el : (abs r).f0.length = r.f0.length := abs_len r
    have hv : pre.length < r.f0.length := by omega
    have hget : r.f0[pre.length] = s := by
      have : r.f0[pre.length]? = some s := by rw [e0]; simp
      rw [List.getElem?_eq_getElem hv] at this
      injection this
    have hp := ps_lt (t := r.f1.toNat) (n := r.f0.length) (i := pre.length) (by omega) hv
    rw [← hr, louverref13qR_Shift.l0, if_pos (by omega), last_f _ (by show (abs r).f0.length < _; omega) (by show 0 ≤ r.f1 ∧ r.f1 ≤ _; omega)]
    have ei : Int.tmod (IntKind.i64.wrap (((abs r).f0.length : Int) - r.f1 + (pre.length : Int))) ((abs r).f0.length : Int) = ((ps r.f1.toNat r.f0.length pre.length : Nat) : Int) := by
      rw [wi64 (by omega) (by omega), Int.tmod_eq_emod_of_nonneg (by omega), el]
      have : ((r.f0.length : Int) - r.f1 + (pre.length : Int)) = ((r.f0.length - r.f1.toNat + pre.length : Nat) : Int) := by omega
      rw [this]
      have h2 : (r.f0.length - r.f1.toNat + pre.length) % r.f0.length = ps r.f1.toNat r.f0.length pre.length := by
        by_cases h0 : r.f1.toNat = 0
        · rw [h0, Nat.sub_zero, Nat.add_mod_left, Nat.mod_eq_of_lt hv]
          simp [ps]
        · rw [mod2 (by omega)]
          unfold ps
          split <;> split <;> omega
      rw [← h2]
      push_cast
      rfl
    have ei' : Int.tmod (IntKind.i64.wrap (((abs r).f0.length : Int) - (abs r).f1 + (pre.length : Int))) ((abs r).f0.length : Int) = ((ps r.f1.toNat r.f0.length pre.length : Nat) : Int) := ei
    simp only [bnd1, ei', abs_get htr hv, hget]
    rw [if_pos (by omega), if_pos (by omega), if_pos (by omega), wi64 (x := b) (by omega) (by omega), wi64 (x := a) (by omega) (by omega), wi64 (x := b - a) (by omega) (by omega)]
    have hsw := hs s (by simp)
    have hg : louverref10qW_Grow.f (⟨(conv s).f4.f0, (conv s).f4.f1⟩ : S41) (b - a) true = _ := wgrow13 s.f4 (b - a) true hsw (by omega)
    rw [hg]
    simp only [shl]
    by_cases hbig : s.f4.f0 + b - a > 2147483647
    · rw [if_pos (show s.f4.f0 + (b - a) > 2147483647 by omega), if_pos hbig]
      simp only [bnd2]
      refine ⟨1, ?_, rfl⟩
      rw [if_neg (by simp), hr]
      simp
    · rw [if_neg (show ¬ s.f4.f0 + (b - a) > 2147483647 by omega), if_neg hbig]
      simp only [bnd2]
      rw [if_pos trivial, with_f _ _ _ (by show _ < (abs r).f0.length; omega) (by show (abs r).f0.length ≤ _; omega)]
      simp only
      have hset := abs_set htr hv (setW s (wshift s.f4 a b).2) r.f2
      have ecv : (⟨(conv s).f0, (conv s).f1, (conv s).f2, (conv s).f3, (⟨max (s.f4.f0 + (b - a)) (-2147483648), s.f4.f1⟩ : S41)⟩ : S61) = conv (setW s (wshift s.f4 a b).2) := by
        unfold wshift
        rw [if_neg hbig, show s.f4.f0 + (b - a) = s.f4.f0 + b - a by omega]
        rfl
      have hset' : (⟨(abs r).f0.set (ps r.f1.toNat r.f0.length pre.length) (⟨(conv s).f0, (conv s).f1, (conv s).f2, (conv s).f3, (⟨max (s.f4.f0 + (b - a)) (-2147483648), s.f4.f1⟩ : S41)⟩ : S61), (abs r).f1, (⟨(abs r).f2.f0, (abs r).f2.f1⟩ : S41)⟩ : S56) = abs ⟨(pre ++ [setW s (wshift s.f4 a b).2]) ++ suf, t, w⟩ := by
        rw [ecv]
        have e3 : r.f0.set pre.length (setW s (wshift s.f4 a b).2) = (pre ++ [setW s (wshift s.f4 a b).2]) ++ suf := by rw [e0]; simp
        rw [← e3, ← e1, ← e2]
        exact hset
      have hih := ih (pre ++ [setW s (wshift s.f4 a b).2]) k (fun q hq => hs q (by simp [hq])) (by simp; omega) (by simp; omega) (by simp; omega) (by omega)
      obtain ⟨sc, h1, h2⟩ := hih
      refine ⟨sc, ?_, h2⟩
      have hw : IntKind.i64.wrap ((pre.length : Int) + 1) = (((pre ++ [setW s (wshift s.f4 a b).2]).length : Nat) : Int) := by rw [wi64 (by omega) (by omega)]; simp
      rw [hw]
      have h1' := (congrArg (fun q => louverref13qR_Shift.l0 k q x (((pre ++ [setW s (wshift s.f4 a b).2]).length : Nat) : Int) y a b) hset').trans h1
      refine h1'.trans ?_
      simp
theorem shift13 (k : Nat) (r : S69) (a b : Int) (hP : Pk r) (ha : 0 ≤ a ∧ a < 4294967296) (hb : 0 ≤ b ∧ b < 4294967296) (hk : 300 < k) : ∃ sc, louverref13qR_Shift.f k (abs r) a b = some (abs (shift r a b).2, sc) ∧ louverlaw13qtold.f sc = some (shift r a b).1 := by
  unfold louverref13qR_Shift.f
  have hn := hP.n
  exact shift13ql0 a b ha hb r.f1 r.f2 _ (abs r) r.f0 [] k (fun s hs => (hP.z s hs).2) (by simpa using hn) (by rw [abs_len]; simp) (by simpa using hP.t) (by omega)
theorem cut_lo {α : Type} {t i : Nat} {l : List α} (hi : i < t) (ht : t < l.length) :
    (rot t l).take (i + l.length - t) ++ (rot t l).drop (i + l.length - t + 1) = rot (t - 1) (l.take i ++ l.drop (i + 1)) := by
  refine List.ext_getElem? fun j => ?_
  simp only [rot, List.getElem?_append, List.getElem?_drop, List.getElem?_take, List.length_append, List.length_drop, List.length_take]
  repeat' split
  all_goals first | rfl | (exfalso; omega) | (congr 1; omega) | (rw [List.getElem?_eq_none (by omega)]) | (rw [eq_comm, List.getElem?_eq_none (by omega)]) | (rw [List.getElem?_eq_none (by omega), List.getElem?_eq_none (by omega)])
theorem cut_hi {α : Type} {t i : Nat} {l : List α} (hi : t ≤ i) (ht : i < l.length) :
    (rot t l).take (i - t) ++ (rot t l).drop (i - t + 1) = rot t (l.take i ++ l.drop (i + 1)) := by
  refine List.ext_getElem? fun j => ?_
  simp only [rot, List.getElem?_append, List.getElem?_drop, List.getElem?_take, List.length_append, List.length_drop, List.length_take]
  repeat' split
  all_goals first | rfl | (exfalso; omega) | (congr 1; omega) | (rw [List.getElem?_eq_none (by omega)]) | (rw [eq_comm, List.getElem?_eq_none (by omega)]) | (rw [List.getElem?_eq_none (by omega), List.getElem?_eq_none (by omega)])
theorem drop_j0 (k : Nat) (p : S56) (i : Nat) (hi : i < p.f0.length) (hl : p.f0.length ≤ 300) (h1 : 0 ≤ p.f1 ∧ p.f1 ≤ 300) : louverref13qR_Drop.j0 (k + 1) p (i : Int) =
    some ⟨p.f0.take i ++ p.f0.drop (i + 1), if (p.f0.length : Int) - 1 - p.f1 = 0 then 0 else p.f1, p.f2⟩ := by
  have ea : (p.f0.take i ++ p.f0.drop (i + 1)).length = p.f0.length - 1 := by simp only [List.length_append, List.length_take, List.length_drop]; omega
  have eb : IntKind.i64.wrap ((i : Int) + 1) = ((i + 1 : Nat) : Int) := by rw [wi64 (by omega) (by omega)]; push_cast; rfl
  rw [louverref13qR_Drop.j0]
  simp only [eb, lt1, List.nil_append, Int.toNat_natCast]
  rw [if_pos (by omega), if_pos (by omega), if_pos (by simp only [List.length_nil, List.length_take]; omega), if_pos (by omega), if_pos (by omega), if_pos (by simp only [List.length_take, List.length_drop]; omega), last_f _ (by simp only [ea]; omega) (by simp only; omega)]
  simp only [bnd1, ea]
  have : ((p.f0.length - 1 : Nat) : Int) - p.f1 = (p.f0.length : Int) - 1 - p.f1 := by omega
  rw [this]
  split <;> rfl
theorem drop13 (k : Nat) (r : S69) (s : Int) (h : Pk r) (hk : 302 < k) : louverref13qR_Drop.f k (abs r) s = some (abs (drp r s)) := by
  obtain ⟨k, rfl⟩ : ∃ m, k = m + 1 := ⟨k - 1, by omega⟩
  have ht := h.t
  have hn := h.n
  have el : (abs r).f0.length = r.f0.length := abs_len r
  unfold louverref13qR_Drop.f drp
  rw [find13qf _ _ s (by simp only [abs_len]; omega) (by simp only [abs_len]; omega)]
  simp only [bnd1]
  by_cases h2 : at_ s r.f0 < r.f0.length
  · have e' := at61qabs h s h2
    have hp := ps_lt (t := r.f1.toNat) (n := r.f0.length) (i := at_ s r.f0) (by omega) h2
    have elast : louverref13qR_Last.f (⟨(abs r).f0, (abs r).f1, (⟨(abs r).f2.f0, (abs r).f2.f1⟩ : S41)⟩ : S56) = some (((abs r).f0.length : Int) - (abs r).f1) := last_f (abs r) (by omega) (by show 0 ≤ r.f1 ∧ r.f1 ≤ _; omega)
    rw [if_pos (show at61 s (abs r).f0 < (abs r).f0.length by rw [e', abs_len]; exact hp), if_neg (by omega), elast, if_pos h2, e', el]
    simp only
    have ef : (abs r).f1 = r.f1 := rfl
    rw [ef]
    by_cases h3 : (at_ s r.f0 : Int) < r.f1
    · have ep : ps r.f1.toNat r.f0.length (at_ s r.f0) = at_ s r.f0 + r.f0.length - r.f1.toNat := by unfold ps; rw [if_neg (by omega)]
      rw [if_pos (show ((ps r.f1.toNat r.f0.length (at_ s r.f0) : Nat) : Int) ≥ (r.f0.length : Int) - r.f1 by omega), wi64 (by omega) (by omega)]
      have hj := drop_j0 k (⟨(abs r).f0, r.f1 - 1, (⟨(abs r).f2.f0, (abs r).f2.f1⟩ : S41)⟩ : S56) (ps r.f1.toNat r.f0.length (at_ s r.f0)) (by show _ < (abs r).f0.length; omega) (by show (abs r).f0.length ≤ _; omega) (by show 0 ≤ r.f1 - 1 ∧ r.f1 - 1 ≤ _; omega)
      rw [hj]
      simp only [el]
      rw [if_neg (by omega), if_pos h3]
      have hl' : (List.take (at_ s r.f0) r.f0 ++ List.drop (at_ s r.f0 + 1) r.f0).length = r.f0.length - 1 := by simp only [List.length_append, List.length_take, List.length_drop]; omega
      rw [hl', if_neg (by omega)]
      congr 1
      unfold abs
      simp only
      rw [← List.map_take, ← List.map_drop, ← List.map_append, ep, cut_lo (by omega) (by omega), show (r.f1 - 1).toNat = r.f1.toNat - 1 by omega]
    · have ep : ps r.f1.toNat r.f0.length (at_ s r.f0) = at_ s r.f0 - r.f1.toNat := by unfold ps; rw [if_pos (by omega)]
      rw [if_neg (show ¬ ((ps r.f1.toNat r.f0.length (at_ s r.f0) : Nat) : Int) ≥ (r.f0.length : Int) - r.f1 by omega)]
      have hj := drop_j0 k (⟨(abs r).f0, r.f1, (⟨(abs r).f2.f0, (abs r).f2.f1⟩ : S41)⟩ : S56) (ps r.f1.toNat r.f0.length (at_ s r.f0)) (by show _ < (abs r).f0.length; omega) (by show (abs r).f0.length ≤ _; omega) (by show 0 ≤ r.f1 ∧ r.f1 ≤ _; omega)
      rw [hj]
      simp only [el]
      rw [if_neg h3]
      have hl' : (List.take (at_ s r.f0) r.f0 ++ List.drop (at_ s r.f0 + 1) r.f0).length = r.f0.length - 1 := by simp only [List.length_append, List.length_take, List.length_drop]; omega
      rw [hl']
      congr 1
      unfold abs
      simp only
      rw [← List.map_take, ← List.map_drop, ← List.map_append, ep, cut_hi (by omega) (by omega)]
      by_cases h4 : (r.f0.length : Int) - 1 - r.f1 = 0
      · rw [if_pos h4, if_pos (by omega)]
        congr 2
        unfold rot
        rw [List.drop_eq_nil_of_le (by rw [hl']; omega), List.take_of_length_le (by rw [hl']; omega)]
        simp
      · rw [if_neg h4, if_neg (by omega)]
  · have hno := at61qabs_none (r := r) s h2
    rw [if_neg hno, if_pos (by omega), if_neg h2]
/-! ### what holds, holds on -/
theorem Pk.set {r : S69} (h : Pk r) {i : Nat} (hi : i < r.f0.length) {x : S72} {t : Int} {w : S94} (hx : x.f0 = r.f0[i].f0) (hxw : -2147483648 ≤ x.f4.f0 ∧ x.f4.f0 ≤ 2147483647) (hb : sm (fun s => (s.f1.length : Int)) r.f0 - r.f0[i].f1.length + x.f1.length ≤ 9000)
    (ht : 0 ≤ t ∧ (t < r.f0.length ∨ t = 0)) (hw : -2147483648 ≤ w.f0 ∧ w.f0 ≤ 2147483647) : Pk ⟨r.f0.set i x, t, w⟩ := by
  refine ⟨by simpa using h.n, by simpa using ht, hw, fun s hs => ?_, ?_, ?_⟩
  · rcases List.mem_or_eq_of_mem_set hs with hs | rfl
    · exact h.z s hs
    · exact ⟨hx ▸ (h.z _ (List.getElem_mem hi)).1, hxw⟩
  · simp only
    rw [List.map_set, hx]
    have : (r.f0.map S72.f0).set i r.f0[i].f0 = r.f0.map S72.f0 := by
      refine List.ext_getElem? fun j => ?_
      rw [List.getElem?_set]
      by_cases hj : i = j
      · subst hj
        rw [if_pos rfl, if_pos (by simpa using hi), List.getElem?_map, List.getElem?_eq_getElem hi]
        rfl
      · rw [if_neg hj]
    rw [this]
    exact h.u
  · simp only
    rw [sm_set _ _ _ _ hi]
    omega
theorem Pk.opn {r : S69} (h : Pk r) (s left : Int) (hn : r.f0.length + 1 ≤ 300) : Pk (opn r s left).2 := by
  unfold Sl.opn
  by_cases h0 : s = 0 ∨ at_ s r.f0 < r.f0.length
  · rw [if_pos h0]
    exact h
  · rw [if_neg h0]
    have ht := h.t
    have hb := h.b
    refine ⟨by simp; omega, by simp; omega, h.w, fun x hx => ?_, ?_, ?_⟩
    · simp only [List.mem_append, List.mem_singleton] at hx
      rcases hx with hx | rfl
      · exact h.z x hx
      · exact ⟨fun e => h0 (.inl e), by simp only [clampW]; omega⟩
    · simp only [List.map_append, List.map_cons, List.map_nil]
      rw [List.nodup_append]
      refine ⟨h.u, by simp, fun a ha b hb' => ?_⟩
      simp only [List.mem_singleton] at hb'
      obtain ⟨x, hx, rfl⟩ := List.mem_map.1 ha
      rw [hb']
      exact none_of (fun e => h0 (.inr e)) x hx
    · simp only
      rw [sm_app]
      simp only [sm, List.length_nil]
      omega
theorem Pk.put {r : S69} (h : Pk r) (s : Int) (b : List Int) (e : Bool) (hb : sm (fun s => (s.f1.length : Int)) r.f0 + b.length ≤ 9000) : Pk (put r s b e).2 := by
  unfold Sl.put
  split
  · next h2 =>
    split
    · exact h
    · rw [gt_nat h2]
      have hz := h.z _ (List.getElem_mem h2)
      refine h.set h2 rfl ⟨hz.2.1, hz.2.2⟩ ?_ h.t h.w
      simp only [putS, List.length_append]
      omega
  · exact h
theorem Pk.nxt {r : S69} (h : Pk r) (m : Int) : Pk (nxt r m).2.2.2.2 ∧ (nxt r m).2.2.2.2.f0.length = r.f0.length ∧ sm (fun s => (s.f1.length : Int)) (nxt r m).2.2.2.2.f0 ≤ sm (fun s => (s.f1.length : Int)) r.f0 := by
  rcases nxt_cases r m h.t with ⟨_, e⟩ | ⟨i, hi, hc, e⟩
  · rw [e]
    exact ⟨h, rfl, Int.le_refl _⟩
  · rw [e]
    have hz := h.z _ (List.getElem_mem hi)
    have hw := h.w
    have hb := h.b
    have hbb : am r.f0[i] r.f2.f0 m ≤ max r.f2.f0 0 ∧ am r.f0[i] r.f2.f0 m ≤ max r.f0[i].f4.f0 0 ∧ 0 ≤ am r.f0[i] r.f2.f0 m := by unfold am; omega
    unfold sent
    simp only [gt_nat hi]
    refine ⟨h.set hi rfl (by simp only [cutS]; omega) (by simp only [cutS, List.length_drop]; omega) ?_ (by simp only; omega), by simp, ?_⟩
    · rw [Int.tmod_eq_emod_of_nonneg (by omega)]
      have := Int.emod_nonneg ((i : Int) + 1) (b := (r.f0.length : Int)) (by omega)
      have := Int.emod_lt_of_pos ((i : Int) + 1) (b := (r.f0.length : Int)) (by omega)
      omega
    · rw [sm_set _ _ _ _ hi]
      simp only [cutS, List.length_drop]
      omega
theorem wgrow_bd {w : S94} {n : Int} (hw : -2147483648 ≤ w.f0 ∧ w.f0 ≤ 2147483647) : -2147483648 ≤ (wgrow w n).2.f0 ∧ (wgrow w n).2.f0 ≤ 2147483647 := by
  unfold wgrow
  split
  · exact hw
  · simp only; omega
theorem Pk.grow {r : S69} (h : Pk r) (s n : Int) : Pk (grow r s n).2 ∧ (grow r s n).2.f0.length = r.f0.length ∧ sm (fun s => (s.f1.length : Int)) (grow r s n).2.f0 = sm (fun s => (s.f1.length : Int)) r.f0 := by
  unfold Sl.grow
  split
  · exact ⟨⟨h.n, h.t, wgrow_bd h.w, h.z, h.u, h.b⟩, rfl, rfl⟩
  · split
    · next h2 =>
      rw [gt_nat h2]
      have hz := h.z _ (List.getElem_mem h2)
      have hb := h.b
      refine ⟨h.set h2 rfl (wgrow_bd hz.2) (by simp only [setW]; omega) h.t h.w, by simp, ?_⟩
      rw [sm_set _ _ _ _ h2]
      simp only [setW]
      omega
    · exact ⟨h, rfl, rfl⟩
theorem shl_f0 (a b : Int) : ∀ l, (shl a b l).2.map S72.f0 = l.map S72.f0
  | [] => rfl
  | s :: l => by
    simp only [shl]
    split
    · rfl
    · simp [shl_f0 a b l, setW]
theorem shl_sm (a b : Int) : ∀ l, sm (fun s => (s.f1.length : Int)) (shl a b l).2 = sm (fun s => (s.f1.length : Int)) l
  | [] => rfl
  | s :: l => by
    simp only [shl]
    split
    · rfl
    · simp only [sm, shl_sm a b l, setW]
theorem shl_z (a b : Int) : ∀ l, (∀ s ∈ l, s.f0 ≠ 0 ∧ -2147483648 ≤ s.f4.f0 ∧ s.f4.f0 ≤ 2147483647) → ∀ s ∈ (shl a b l).2, s.f0 ≠ 0 ∧ -2147483648 ≤ s.f4.f0 ∧ s.f4.f0 ≤ 2147483647
  | [], _, s, hs => by simp [shl] at hs
  | x :: l, h, s, hs => by
    simp only [shl] at hs
    split at hs
    · exact h s hs
    · next hbig =>
      rcases List.mem_cons.1 hs with rfl | hs
      · have hx := h x (by simp)
        refine ⟨hx.1, ?_⟩
        simp only [setW, wshift]
        rw [if_neg hbig]
        simp only
        omega
      · exact shl_z a b l (fun q hq => h q (by simp [hq])) s hs
theorem Pk.shift {r : S69} (h : Pk r) (a b : Int) : Pk (shift r a b).2 ∧ (shift r a b).2.f0.length = r.f0.length ∧ sm (fun s => (s.f1.length : Int)) (shift r a b).2.f0 = sm (fun s => (s.f1.length : Int)) r.f0 := by
  unfold Sl.shift
  exact ⟨⟨by simp only [shl_len]; exact h.n, by simp only [shl_len]; exact h.t, h.w, shl_z a b _ h.z, by simp only [shl_f0]; exact h.u, by simp only [shl_sm]; exact h.b⟩, by simp only [shl_len], by simp only [shl_sm]⟩
theorem Pk.drp {r : S69} (h : Pk r) (s : Int) : Pk (drp r s) ∧ (drp r s).f0.length ≤ r.f0.length ∧ sm (fun s => (s.f1.length : Int)) (drp r s).f0 ≤ sm (fun s => (s.f1.length : Int)) r.f0 := by
  unfold Sl.drp
  by_cases h2 : at_ s r.f0 < r.f0.length
  · rw [if_pos h2]
    have hsub : (List.take (at_ s r.f0) r.f0 ++ List.drop (at_ s r.f0 + 1) r.f0).Sublist r.f0 := by
      have : r.f0 = List.take (at_ s r.f0) r.f0 ++ List.drop (at_ s r.f0) r.f0 := (List.take_append_drop _ _).symm
      conv => rhs; rw [this]
      refine List.Sublist.append_left ?_ _
      rw [List.drop_eq_getElem_cons h2]
      exact List.sublist_cons_self _ _
    have hl' : (List.take (at_ s r.f0) r.f0 ++ List.drop (at_ s r.f0 + 1) r.f0).length = r.f0.length - 1 := by simp only [List.length_append, List.length_take, List.length_drop]; omega
    have hs' : sm (fun s => (s.f1.length : Int)) (List.take (at_ s r.f0) r.f0 ++ List.drop (at_ s r.f0 + 1) r.f0) ≤ sm (fun s => (s.f1.length : Int)) r.f0 := by
      have : r.f0 = List.take (at_ s r.f0) r.f0 ++ (r.f0[at_ s r.f0] :: List.drop (at_ s r.f0 + 1) r.f0) := by rw [← List.drop_eq_getElem_cons h2, List.take_append_drop]
      conv => rhs; rw [this]
      rw [sm_app, sm_app]
      simp only [sm]
      omega
    have hn := h.n
    have ht := h.t
    have hb := h.b
    refine ⟨⟨by simp only [hl']; omega, ?_, h.w, fun x hx => h.z x (hsub.subset hx), (hsub.map _).nodup h.u, by simp only; omega⟩, by simp only [hl']; omega, hs'⟩
    simp only [hl']
    split <;> split <;> omega
  · rw [if_neg h2]
    exact ⟨h, Nat.le_refl _, Int.le_refl _⟩
/-! ### one operation -/
def rs (r : S69) (o : S45) : S69 :=
  if o.f0 = 0 then (opn r o.f1 o.f2).2 else if o.f0 = 1 then (put r o.f1 o.f3 o.f4).2 else if o.f0 = 2 then (nxt r o.f2).2.2.2.2 else if o.f0 = 3 then (grow r o.f1 o.f5).2 else if o.f0 = 4 then (shift r o.f5 o.f6).2 else drp r o.f1
structure Ok (o : S45) : Prop where
  a : 0 ≤ o.f5 ∧ o.f5 < 4294967296
  b : 0 ≤ o.f6 ∧ o.f6 < 4294967296
theorem opn_len (r : S69) (s left : Int) : (opn r s left).2.f0.length ≤ r.f0.length + 1 ∧ sm (fun s => (s.f1.length : Int)) (opn r s left).2.f0 = sm (fun s => (s.f1.length : Int)) r.f0 := by
  unfold opn
  split
  · exact ⟨Nat.le_succ _, rfl⟩
  · refine ⟨by simp, ?_⟩
    simp only
    rw [sm_app]
    simp [sm]
theorem put_len (r : S69) (s : Int) (b : List Int) (e : Bool) : (put r s b e).2.f0.length = r.f0.length ∧ sm (fun s => (s.f1.length : Int)) (put r s b e).2.f0 ≤ sm (fun s => (s.f1.length : Int)) r.f0 + b.length := by
  unfold put
  split
  · next h2 =>
    split
    · exact ⟨rfl, by simp only; omega⟩
    · refine ⟨by simp, ?_⟩
      simp only
      rw [sm_set _ _ _ _ h2, gt_nat h2]
      simp only [putS, List.length_append]
      omega
  · exact ⟨rfl, by simp only; omega⟩
theorem Pk.rs {r : S69} (h : Pk r) (o : S45) (hn : r.f0.length + 1 ≤ 300) (hb : sm (fun s => (s.f1.length : Int)) r.f0 + o.f3.length ≤ 9000) :
    Pk (rs r o) ∧ (rs r o).f0.length ≤ r.f0.length + 1 ∧ sm (fun s => (s.f1.length : Int)) (rs r o).f0 ≤ sm (fun s => (s.f1.length : Int)) r.f0 + o.f3.length := by
  unfold Sl.rs
  split
  · have := opn_len r o.f1 o.f2
    exact ⟨h.opn _ _ hn, by omega, by omega⟩
  split
  · have := put_len r o.f1 o.f3 o.f4
    exact ⟨h.put _ _ _ hb, by omega, by omega⟩
  split
  · obtain ⟨a, b, c⟩ := h.nxt o.f2
    exact ⟨a, by omega, by omega⟩
  split
  · obtain ⟨a, b, c⟩ := h.grow o.f1 o.f5
    exact ⟨a, by omega, by omega⟩
  split
  · obtain ⟨a, b, c⟩ := h.shift o.f5 o.f6
    exact ⟨a, by omega, by omega⟩
  · obtain ⟨a, b, c⟩ := h.drp o.f1
    exact ⟨a, by omega, by omega⟩
theorem step_f (k : Nat) (r : S69) (o : S45) (h : Pk r) (ho : Ok o) (hb : o.f3.length ≤ 9000) (hk : 310 < k) : louverlaw13qstep.f k r (abs r) o = some (true, abs (rs r o), rs r o) := by
  have hn := h.n
  have hrok := h.rok
  unfold louverlaw13qstep.f rs
  by_cases h0 : o.f0 = 0
  · have e := open13 k r o.f1 o.f2 h (by omega)
    have e' : louverref13qR_Open.f k (⟨(abs r).f0, (abs r).f1, (⟨(abs r).f2.f0, (abs r).f2.f1⟩ : S41)⟩ : S56) o.f1 o.f2 = _ := e
    rw [if_pos h0, if_pos h0, e', open_f k r _ _ (by omega) (by omega)]
    simp only [bnd2, beq_self_eq_true]
  rw [if_neg h0, if_neg h0]
  by_cases h1 : o.f0 = 1
  · have e := put13 k r o.f1 o.f3 o.f4 h (by omega) (by omega)
    have e' : louverref13qR_Put.f k (⟨(abs r).f0, (abs r).f1, (⟨(abs r).f2.f0, (abs r).f2.f1⟩ : S41)⟩ : S56) o.f1 (toS o.f3) o.f4 = _ := e
    rw [if_pos h1, if_pos h1, if_pos (by simp; omega), e']
    simp only [bnd2, lt1, List.nil_append]
    rw [put_f k r _ _ _ hrok (by omega) (by omega)]
    simp only [beq_self_eq_true]
  rw [if_neg h1, if_neg h1]
  by_cases h2 : o.f0 = 2
  · have e := next13 k r o.f2 h (by omega)
    have e' : louverref13qR_Next.f k (⟨(abs r).f0, (abs r).f1, (⟨(abs r).f2.f0, (abs r).f2.f1⟩ : S41)⟩ : S56) o.f2 = _ := e
    rw [if_pos h2, if_pos h2, e', next_f k r _ hrok (by omega)]
    simp only [bnd5, lt1, beq_self_eq_true]
    rw [if_pos trivial, if_pos trivial, if_pos trivial]
  rw [if_neg h2, if_neg h2]
  by_cases h3 : o.f0 = 3
  · obtain ⟨sc, e, et⟩ := grow13 k r o.f1 o.f5 h ho.a (by omega)
    have e' : louverref13qR_Grow.f k (⟨(abs r).f0, (abs r).f1, (⟨(abs r).f2.f0, (abs r).f2.f1⟩ : S41)⟩ : S56) o.f1 o.f5 = _ := e
    rw [if_pos h3, if_pos h3, e', grow_f k r _ _ hrok ho.a (by omega)]
    simp only [bnd2, et, bnd1]
    rfl
  rw [if_neg h3, if_neg h3]
  by_cases h4 : o.f0 = 4
  · obtain ⟨sc, e, et⟩ := shift13 k r o.f5 o.f6 h ho.a ho.b (by omega)
    have e' : louverref13qR_Shift.f k (⟨(abs r).f0, (abs r).f1, (⟨(abs r).f2.f0, (abs r).f2.f1⟩ : S41)⟩ : S56) o.f5 o.f6 = _ := e
    rw [if_pos h4, if_pos h4, e', shift_f k r _ _ hrok ho.a ho.b (by omega)]
    simp only [bnd2, et, bnd1]
    rfl
  rw [if_neg h4, if_neg h4]
  have e := drop13 k r o.f1 h (by omega)
  have e' : louverref13qR_Drop.f k (⟨(abs r).f0, (abs r).f1, (⟨(abs r).f2.f0, (abs r).f2.f1⟩ : S41)⟩ : S56) o.f1 = _ := e
  rw [drop_f k r _ hrok (by omega)]
  simp only [bnd1]
  rw [e']
/-! ### what is told behind each operation -/
theorem sm_rot (f : S72 → Int) (t : Nat) (l : List S72) : sm f (rot t l) = sm f l := by
  unfold rot
  rw [sm_app]
  conv => rhs; rw [← List.take_append_drop t l, sm_app]
  omega
theorem any_rot (p : S72 → Bool) (t : Nat) (l : List S72) : (rot t l).any p = l.any p := by
  rw [Bool.eq_iff_iff, List.any_eq_true, List.any_eq_true]
  exact ⟨fun ⟨x, hx, h⟩ => ⟨x, rot_mem.1 hx, h⟩, fun ⟨x, hx, h⟩ => ⟨x, rot_mem.2 hx, h⟩⟩
theorem plays_l1 (p1 : List S45) (r : S69) (i : Nat) (hi : i < p1.length) (hp : p1.length ≤ 300) (h : Pk r) : ∀ (d j k : Nat), j + d = r.f0.length → 310 < k →
    louverlaw13qTurnsPlays.l1 (k + d + 1) (sm (fun s => (s.f1.length : Int)) ((rot r.f1.toNat r.f0).take j)) (((rot r.f1.toNat r.f0).take j).any (can r.f2.f0)) j p1 true (abs r) r i = louverlaw13qTurnsPlays.l0 k r (abs r) ((i + 1 : Nat) : Int) p1 := by
  have hn := h.n
  have ht := h.t
  have hb := h.b
  have el : (abs r).f0.length = r.f0.length := abs_len r
  intro d
  induction d with
  | zero =>
    intro j k hj hk
    obtain rfl : j = r.f0.length := by omega
    have e1 : (rot r.f1.toNat r.f0).take r.f0.length = rot r.f1.toNat r.f0 := List.take_of_length_le (by rw [rot_len]; omega)
    have e2 : left_ r 0 = r.f2.f0 := by unfold left_; rw [if_pos rfl]
    rw [louverlaw13qTurnsPlays.l1, if_neg (by omega), if_pos rfl, all_f _ _ (by omega) (by rw [tot_sm]; omega) (by omega), e1, sm_rot, any_rot]
    simp only [bnd1]
    rw [if_pos (tot_sm r.f0), can_all _ _ (by omega) (by omega)]
    simp only [bne_self_eq_false]
    rw [if_neg (by simp), left_f _ _ _ (by omega) (by omega), e2]
    simp only
    rw [if_pos (show r.f2.f0 = (abs r).f2.f0 from rfl), waits_f _ _ _ (by omega) (by omega), gt_nat hi]
    simp only
    have ew : IntKind.i64.wrap ((i : Int) + 1) = ((i + 1 : Nat) : Int) := by rw [wi64 (by omega) (by omega)]; push_cast; rfl
    rw [ew]
    by_cases h2 : at_ p1[i].f1 r.f0 < r.f0.length
    · split
      · rfl
      · have ef : louverref13qR_Find.f k (⟨(abs r).f0, (abs r).f1, (⟨(abs r).f2.f0, (abs r).f2.f1⟩ : S41)⟩ : S56) p1[i].f1 = _ := find13qf k (abs r) p1[i].f1 (by omega) (by omega)
        have hps := ps_lt (t := r.f1.toNat) (n := r.f0.length) (i := at_ p1[i].f1 r.f0) (by omega) h2
        rw [ef, at61qabs h _ h2, if_pos (by omega)]
        simp only
        rw [if_neg (by omega)]
    · have : waits r p1[i].f1 = 0 := by unfold waits; rw [if_neg h2]
      rw [this, if_pos rfl]
  | succ d ih =>
    intro j k hj hk
    have hjl : j < r.f0.length := by omega
    have htl : r.f1.toNat < r.f0.length := by omega
    obtain ⟨q, hq⟩ : ∃ q, q = (r.f1.toNat + j) % r.f0.length := ⟨_, rfl⟩
    have hql : q < r.f0.length := by rw [hq]; exact Nat.mod_lt _ (by omega)
    have hps : ps r.f1.toNat r.f0.length q = j := (ps_iff htl hql hjl).2 hq
    have eg : gt z61 (abs r).f0 (j : Int) = conv r.f0[q] := by rw [← hps]; exact abs_get ht hql
    have er := rot_get htl hjl
    rw [← hq, List.getElem?_eq_getElem hql] at er
    obtain ⟨s, hs⟩ : ∃ s, s = r.f0[q] := ⟨_, rfl⟩
    rw [← hs] at eg er
    have hmem : s ∈ r.f0 := hs ▸ List.getElem_mem hql
    have hz := h.z s hmem
    have hat : at_ s.f0 r.f0 = q := at_of h.u hql (by rw [← hs])
    have ew : waits r s.f0 = s.f1.length := by unfold waits; rw [hat, if_pos hql, gt_nat hql, ← hs]
    have elf : left_ r s.f0 = s.f4.f0 := by unfold left_; rw [if_neg hz.1, hat, if_pos hql, gt_nat hql, ← hs]
    have etk : (rot r.f1.toNat r.f0).take (j + 1) = (rot r.f1.toNat r.f0).take j ++ [s] := by
      rw [List.take_add_one, er]
      rfl
    have hsm : sm (fun s => (s.f1.length : Int)) ((rot r.f1.toNat r.f0).take (j + 1)) = sm (fun s => (s.f1.length : Int)) ((rot r.f1.toNat r.f0).take j) + s.f1.length := by
      rw [etk, sm_app]
      simp [sm]
    have h0 := sm_nn _ len_nn ((rot r.f1.toNat r.f0).take j)
    have hle : sm (fun s => (s.f1.length : Int)) ((rot r.f1.toNat r.f0).take (j + 1)) ≤ 9000 := by
      have h1 := sm_nn _ len_nn ((rot r.f1.toNat r.f0).drop (j + 1))
      have h2 := sm_rot (fun s => (s.f1.length : Int)) r.f1.toNat r.f0
      rw [← List.take_append_drop (j + 1) (rot r.f1.toNat r.f0), sm_app] at h2
      omega
    have hany : ((rot r.f1.toNat r.f0).take (j + 1)).any (can r.f2.f0) = (((rot r.f1.toNat r.f0).take j).any (can r.f2.f0) || can r.f2.f0 s) := by
      rw [etk, List.any_append]
      simp
    have hih := ih (j + 1) k (by omega) hk
    rw [hsm, hany] at hih
    have ew1 : IntKind.i64.wrap ((j : Int) + 1) = ((j + 1 : Nat) : Int) := by rw [wi64 (by omega) (by omega)]; push_cast; rfl
    have ew2 : IntKind.i64.wrap (sm (fun s => (s.f1.length : Int)) ((rot r.f1.toNat r.f0).take j) + (((conv s).f1.length : Nat) : Int)) = sm (fun s => (s.f1.length : Int)) ((rot r.f1.toNat r.f0).take j) + s.f1.length := by
      have : (conv s).f1.length = s.f1.length := toS_length _
      rw [this, wi64 (by omega) (by omega)]
    have ecf : (conv s).f0 = s.f0 := rfl
    have ecl : (((conv s).f1.length : Nat) : Int) = s.f1.length := by rw [show (conv s).f1.length = s.f1.length from toS_length _]
    have ec4 : (conv s).f4.f0 = s.f4.f0 := rfl
    have ecan : louverref13qR_Can.f (⟨(abs r).f0, (abs r).f1, (⟨(abs r).f2.f0, (abs r).f2.f1⟩ : S41)⟩ : S56) (⟨(conv s).f0, (conv s).f1, (conv s).f2, (conv s).f3, (⟨(conv s).f4.f0, (conv s).f4.f1⟩ : S41)⟩ : S61) = some (can r.f2.f0 s) := can13 r s
    rw [show k + (d + 1) + 1 = (k + d + 1) + 1 by omega, louverlaw13qTurnsPlays.l1]
    simp only [eg]
    rw [if_pos (by omega), if_pos (by omega), ecan, ew1, ew2, ecf, waits_f _ _ _ (by omega) (by omega), left_f _ _ _ (by omega) (by omega), ew, elf, ecl, ec4]
    simp only [bnd1]
    rw [if_pos trivial, if_pos trivial]
    by_cases hc : ((rot r.f1.toNat r.f0).take j).any (can r.f2.f0) = true
    · rw [if_pos hc]
      rw [hc, Bool.true_or] at hih
      exact hih
    · rw [if_neg hc]
      have : ((rot r.f1.toNat r.f0).take j).any (can r.f2.f0) = false := by simpa using hc
      rw [this, Bool.false_or] at hih
      exact hih
def gsum : List S45 → Int
  | [] => 0
  | o :: l => (1 + min (o.f3.length : Int) 9000) + gsum l
theorem gsum_bd : ∀ l, 0 ≤ gsum l ∧ gsum l ≤ 9001 * l.length
  | [] => by simp [gsum]
  | o :: l => by
    have := gsum_bd l
    simp only [gsum, List.length_cons]
    push_cast
    omega
theorem great_l0 (p : List S45) (hp : p.length ≤ 2199023255552) : ∀ (suf : List S45) (j k : Nat) (a : Int), p.drop j = suf → 0 ≤ a → a + gsum suf ≤ 9001 * p.length → suf.length < k →
    louverlaw13qgreat.l0 k a j p = some (decide ((p.length : Int) > 300) || decide (a + gsum suf > 9000)) := by
  intro suf
  induction suf with
  | nil =>
    intro j k a hd ha hb hk
    obtain ⟨k, rfl⟩ : ∃ m, k = m + 1 := ⟨k - 1, by omega⟩
    have : p.length ≤ j := List.drop_eq_nil_iff.1 hd
    rw [louverlaw13qgreat.l0, if_neg (by omega)]
    by_cases h : (p.length : Int) > 300 <;> simp [h, gsum]
  | cons o suf ih =>
    intro j k a hd ha hb hk
    obtain ⟨k, rfl⟩ : ∃ m, k = m + 1 := ⟨k - 1, by omega⟩
    simp only [List.length_cons] at hk
    have hlt : j < p.length := by
      by_cases h : j < p.length
      · exact h
      · rw [List.drop_eq_nil_of_le (by omega)] at hd
        cases hd
    rw [List.drop_eq_getElem_cons hlt] at hd
    injection hd with h1 h2
    have hs := gsum_bd suf
    simp only [gsum] at hb ⊢
    rw [louverlaw13qgreat.l0, if_pos (by omega), if_pos (by omega), gt_nat hlt, h1, mn_eq, wi64 (x := 1 + min (o.f3.length : Int) 9000) (by omega) (by omega), wi64 (by omega) (by omega), wi64 (by omega) (by omega)]
    have := ih (j + 1) k (a + (1 + min (o.f3.length : Int) 9000)) h2 (by omega) (by omega) (by omega)
    push_cast at this
    rw [this]
    congr 2
    exact decide_eq_decide.2 (by constructor <;> intro <;> omega)
theorem great_f (k : Nat) (p : List S45) (hp : p.length ≤ 2199023255552) (hk : p.length < k) : louverlaw13qgreat.f k p = some (decide ((p.length : Int) > 300) || decide (gsum p > 9000)) := by
  unfold louverlaw13qgreat.f
  have := great_l0 p hp p 0 k 0 rfl (by omega) (by have := gsum_bd p; omega) hk
  simpa using this
theorem plays_l0 (p1 : List S45) (hp : p1.length ≤ 300) (hok : ∀ o ∈ p1, Ok o) : ∀ (suf : List S45) (j k : Nat) (r : S69), p1.drop j = suf → Pk r → r.f0.length + suf.length ≤ 300 → sm (fun s => (s.f1.length : Int)) r.f0 + gsum suf ≤ 9000 → 400 + 400 * suf.length ≤ k →
    louverlaw13qTurnsPlays.l0 k r (abs r) j p1 = some true := by
  intro suf
  induction suf with
  | nil =>
    intro j k r hd h hn hb hk
    obtain ⟨k, rfl⟩ : ∃ m, k = m + 20 + 1 := ⟨k - 21, by omega⟩
    have : p1.length ≤ j := List.drop_eq_nil_iff.1 hd
    rw [louverlaw13qTurnsPlays.l0, if_neg (by omega), fixed_true]
    rfl
  | cons o suf ih =>
    intro j k r hd h hn hb hk
    have hlt : j < p1.length := by
      by_cases h : j < p1.length
      · exact h
      · rw [List.drop_eq_nil_of_le (by omega)] at hd
        cases hd
    rw [List.drop_eq_getElem_cons hlt] at hd
    injection hd with h1 h2
    simp only [List.length_cons] at hn hk
    simp only [gsum] at hb
    have hgs := gsum_bd suf
    have h0 := sm_nn _ len_nn r.f0
    obtain ⟨hP, hl, hs⟩ := h.rs o (by omega) (by omega)
    obtain ⟨k, rfl⟩ : ∃ m, k = (m + (rs r o).f0.length + 1) + 1 := ⟨k - (rs r o).f0.length - 2, by omega⟩
    have hmem : o ∈ p1 := h1 ▸ List.getElem_mem hlt
    have es := step_f (k + (rs r o).f0.length + 1) r o h (hok o hmem) (by omega) (by omega)
    have es' : louverlaw13qstep.f (k + (rs r o).f0.length + 1) r (⟨(abs r).f0, (abs r).f1, (⟨(abs r).f2.f0, (abs r).f2.f1⟩ : S41)⟩ : S56) (⟨o.f0, o.f1, o.f2, o.f3, o.f4, o.f5, o.f6⟩ : S45) = _ := es
    rw [louverlaw13qTurnsPlays.l0, if_pos (by omega), if_pos (by omega), gt_nat hlt, h1, es']
    simp only [bnd3]
    have hl1 := plays_l1 p1 (rs r o) j hlt hp hP (rs r o).f0.length 0 k (by omega) (by omega)
    simp only [List.take_zero, sm, List.any_nil] at hl1
    refine hl1.trans ?_
    exact ih (j + 1) k (rs r o) h2 hP (by omega) (by omega) (by omega)
def okOp (x : S45) : Prop := okI .i64 x.f0 ∧ okI .u32 x.f1 ∧ okI .i64 x.f2 ∧ okL 1 (okI .u8) x.f3 ∧ okB x.f4 ∧ okI .u32 x.f5 ∧ okI .u32 x.f6
theorem ok_ops {p1 : List S45} (h : okL 64 okOp p1) : p1.length ≤ 2199023255552 ∧ ∀ o ∈ p1, Ok o := by
  refine ⟨by have := h.1; omega, fun o ho => ?_⟩
  obtain ⟨_, _, _, _, _, a, b⟩ := h.2 o ho
  exact ⟨okI_u32.1 a, okI_u32.1 b⟩
theorem louverlaw13qTurnsPlays_true (p0 : Int) (p1 : List S45) (h0 : okI .i64 p0) (h1 : okL 64 okOp p1) : ∃ k, louverlaw13qTurnsPlays.f k p0 p1 = some true := by
  have h1 := ok_ops h1
  obtain ⟨N, hN⟩ : ∃ N : Nat, N = p1.length + 1000000 := ⟨_, rfl⟩
  refine ⟨N + 20, ?_⟩
  unfold louverlaw13qTurnsPlays.f
  rw [great_f _ _ h1.1 (by omega)]
  simp only [bnd1]
  by_cases hg : (decide ((p1.length : Int) > 300) || decide (gsum p1 > 9000)) = true
  · rw [if_pos hg, fixed_true]
  · rw [if_neg hg, rnew_f, new13qf]
    simp only [Bool.or_eq_true, decide_eq_true_eq] at hg
    have hg' : (p1.length : Int) ≤ 300 ∧ gsum p1 ≤ 9000 := by omega
    simp only
    exact plays_l0 p1 (by omega) h1.2 p1 0 (N + 20) ⟨[], 0, ⟨clampW p0, false⟩⟩ rfl ⟨by simp, by simp, by simp only [clampW]; omega, by simp, by simp, by simp [sm]⟩ (by simp; omega) (by simp only [sm]; omega) (by omega)
end Go.Proofs.Ytikfpmieadfllaa.Sl
