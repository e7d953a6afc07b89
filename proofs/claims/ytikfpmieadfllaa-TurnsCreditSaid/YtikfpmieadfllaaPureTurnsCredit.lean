/- louverlaw13qTurnsCredit_true, plain: what the program's functions compute answers as the statement says. -/
import Derived.Test.YtikfpmieadfllaaCodeTurnsCredit2
import Derived.Test.YtikfpmieadfllaaSlP
import Derived.KernelRfl
set_option linter.unusedVariables false
set_option linter.unusedSimpArgs false
namespace Go.Proofs.Ytikfpmieadfllaa.Sl
open Go Go.Proofs.Sl
theorem mn_eq (x y : Int) : mnI x y = min x y := by unfold mnI; split <;> omega
theorem mx_eq (x y : Int) : mxI x y = max x y := by unfold mxI; split <;> omega
theorem fixed_true (k : Nat) : louverlaw13qfixed.f (k + 20) = some true := by kernel_rfl
theorem gt_nat {α : Type} {z : α} {l : List α} {i : Nat} (h : i < l.length) : gt z l (i : Int) = l[i] := by
  simp [gt, List.getD_eq_getElem?_getD, h]
/-- A stream's place, as find tells it. -/
def at_ (s : Int) (l : List S72) : Nat := l.findIdx (fun x => decide (x.f0 = s))
def atI (s : Int) (l : List S72) : Int := if at_ s l < l.length then (at_ s l : Int) else -1
theorem idx_l0 (p : S72 → Bool) (l : List S72) (hl : l.length < 4611686018427387904) : ∀ (n i k : Nat), n = l.length - i → i ≤ l.length → n < k →
    slices_IndexFunc.l0 k i l p = some (if i + (l.drop i).findIdx p < l.length then ((i + (l.drop i).findIdx p : Nat) : Int) else -1) := by
  intro n
  induction n with
  | zero =>
    intro i k hn hi hk
    obtain ⟨k, rfl⟩ : ∃ m, k = m + 1 := ⟨k - 1, by omega⟩
    obtain rfl : i = l.length := by omega
    simp [slices_IndexFunc.l0]
  | succ n ih =>
    intro i k hn hi hk
    obtain ⟨k, rfl⟩ : ∃ m, k = m + 1 := ⟨k - 1, by omega⟩
    have hlt : i < l.length := by omega
    rw [slices_IndexFunc.l0, if_pos (by omega), if_pos (by omega)]
    simp only [lt1]
    rw [gt_nat hlt, List.drop_eq_getElem_cons hlt, List.findIdx_cons]
    by_cases hp : p l[i] = true
    · simp [hp, hlt]
    · rw [if_neg hp, wi64 (by omega) (by omega)]
      have := ih (i + 1) k (by omega) (by omega) (by omega)
      push_cast at this ⊢
      rw [this]
      simp only [hp, cond_false]
      congr 1
      split <;> split <;> first | rfl | omega
theorem find_f (k : Nat) (r : S69) (s : Int) (hl : r.f0.length < 1073741824) (hk : r.f0.length < k) : turns_Ring_find.f k r s = some (atI s r.f0) := by
  unfold turns_Ring_find.f slices_IndexFunc.f
  have := idx_l0 (turns_Ring_find_1.g s) r.f0 (by omega) r.f0.length 0 k (by omega) (by omega) hk
  rw [show ((0 : Nat) : Int) = 0 from rfl] at this
  rw [this]
  simp only [bnd1, List.drop_zero, Nat.zero_add]
  rfl
/-- Can a stream send, where the connection has so much left? -/
def can (w : Int) (s : S72) : Bool := if s.f1 = [] then s.f2 && !s.f3 else decide (s.f4.f0 > 0) && decide (w > 0)
theorem can_f (s : S72) (w : Int) : turns_sender_can.f s w = some (can w s) := by
  unfold turns_sender_can.f can window_Window_Left.f
  by_cases h : s.f1 = []
  · simp only [h, List.length_nil, Int.natCast_zero, if_true]
    cases s.f2 <;> simp
  · have : ¬ ((s.f1.length : Int) = 0) := by
      intro h'
      exact h (List.length_eq_zero_iff.1 (by omega))
    rw [if_neg this, if_neg h]
    simp only [bnd1]
    by_cases h2 : s.f4.f0 > 0 <;> simp [h2]
/-- What may be so. -/
structure Sok (s : S72) : Prop where
  b : s.f1.length ≤ 70368744177664
  w : -2147483648 ≤ s.f4.f0 ∧ s.f4.f0 ≤ 2147483648
structure Rok (r : S69) : Prop where
  n : r.f0.length < 1073741824
  t : 0 ≤ r.f1 ∧ (r.f1 < r.f0.length ∨ r.f1 = 0)
  w : -2147483648 ≤ r.f2.f0 ∧ r.f2.f0 ≤ 2147483648
  s : ∀ s ∈ r.f0, Sok s
/-- How much is sent. -/
def am (s : S72) (w m : Int) : Int := min (min (min (s.f1.length : Int) (max m 1)) (max s.f4.f0 0)) (max w 0)
def cutS (s : S72) (a : Int) : S72 := ⟨s.f0, s.f1.drop a.toNat, s.f2, s.f2 && decide (((s.f1.drop a.toNat).length : Int) = 0), ⟨s.f4.f0 - a, s.f4.f1⟩⟩
def sent (r : S69) (i : Nat) (m : Int) : Int × List Int × Bool × Bool × S69 :=
  let s := gt z72 r.f0 i
  let a := am s r.f2.f0 m
  (s.f0, s.f1.take a.toNat, (cutS s a).f3, true, ⟨r.f0.set i (cutS s a), Int.tmod ((i : Int) + 1) r.f0.length, ⟨r.f2.f0 - a, r.f2.f1⟩⟩)
/-- The row, turned so that its turn stands first. -/
def rot {α : Type} (t : Nat) (l : List α) : List α := l.drop t ++ l.take t
theorem rot_len {α : Type} (t : Nat) (l : List α) : (rot t l).length = l.length := by simp [rot]; omega
theorem rot_get {α : Type} {t : Nat} {l : List α} {j : Nat} (ht : t < l.length) (hj : j < l.length) : (rot t l)[j]? = l[(t + j) % l.length]? := by
  unfold rot
  by_cases h : t + j < l.length
  · rw [List.getElem?_append_left (by simp; omega), List.getElem?_drop, Nat.mod_eq_of_lt h]
  · rw [List.getElem?_append_right (by simp; omega), List.length_drop, List.getElem?_take_of_lt (by omega)]
    congr 1
    rw [Nat.mod_eq_sub_mod (by omega), Nat.mod_eq_of_lt (by omega)]
    omega
def nxt (r : S69) (m : Int) : Int × List Int × Bool × Bool × S69 :=
  if (rot r.f1.toNat r.f0).findIdx (can r.f2.f0) < r.f0.length then sent r ((r.f1.toNat + (rot r.f1.toNat r.f0).findIdx (can r.f2.f0)) % r.f0.length) m else (0, [], false, false, r)
theorem take_w (w : S94) (a : Int) (hw : -2147483648 ≤ w.f0 ∧ w.f0 ≤ 2147483648) (h0 : 0 ≤ a) (h1 : a ≤ max w.f0 0) : window_Window_Take.f w a = some (true, ⟨w.f0 - a, w.f1⟩) := by
  unfold window_Window_Take.f
  rw [if_neg (by omega), mx_eq, if_neg (by omega), wi64 (by omega) (by omega)]
theorem clone_f (l : List Int) (h : l.length ≤ 140737488355328) : bytes_Clone.f l = some l := by
  unfold bytes_Clone.f
  rw [if_pos (by simpa using h)]
  rfl
theorem next_l0 (r : S69) (m : Int) (hr : Rok r) : ∀ (d j k : Nat), d = r.f0.length - j → j ≤ r.f0.length → d < k → (∀ i < j, ∀ s, (rot r.f1.toNat r.f0)[i]? = some s → can r.f2.f0 s = false) →
    turns_Ring_Next.l0 k r j r m = some (nxt r m) := by
  obtain ⟨hn, ht, hw, hs⟩ := hr
  obtain ⟨l, t, w⟩ := r
  simp only at hn ht hw hs ⊢
  obtain ⟨t, rfl⟩ : ∃ u : Nat, t = u := ⟨t.toNat, by omega⟩
  simp only [Int.toNat_natCast]
  intro d
  induction d with
  | zero =>
    intro j k hd hj hk hno
    obtain ⟨k, rfl⟩ : ∃ m, k = m + 1 := ⟨k - 1, by omega⟩
    obtain rfl : j = l.length := by omega
    rw [turns_Ring_Next.l0, if_neg (by simp)]
    unfold nxt
    rw [if_neg]
    simp only [Int.toNat_natCast]
    have := List.findIdx_le_length (xs := rot t l) (p := can w.f0)
    rw [rot_len] at this
    intro hlt
    have hlt' : (rot t l).findIdx (can w.f0) < (rot t l).length := by rw [rot_len]; exact hlt
    have hc := List.findIdx_getElem (w := hlt')
    have := hno _ hlt _ (List.getElem?_eq_getElem hlt')
    rw [this] at hc
    cases hc
  | succ d ih =>
    intro j k hd hj hk hno
    obtain ⟨k, rfl⟩ : ∃ m, k = m + 1 := ⟨k - 1, by omega⟩
    have hjl : j < l.length := by omega
    have htl : t < l.length := by omega
    have ei : Int.tmod (IntKind.i64.wrap ((t : Int) + (j : Int))) (l.length : Int) = (((t + j) % l.length : Nat) : Int) := by
      rw [wi64 (by omega) (by omega), Int.tmod_eq_emod_of_nonneg (by omega)]
      push_cast
      rfl
    have hil : (t + j) % l.length < l.length := Nat.mod_lt _ (by omega)
    obtain ⟨i, hi⟩ : ∃ i, i = (t + j) % l.length := ⟨_, rfl⟩
    rw [turns_Ring_Next.l0]
    simp only [ei]
    rw [← hi] at hil ⊢
    have eg := rot_get htl hjl
    rw [← hi, List.getElem?_eq_getElem hil] at eg
    rw [if_pos (by omega), if_pos (by omega), if_pos (by omega), if_pos (by omega)]
    simp only [lt1, bnd1, window_Window_Left.f, can_f]
    rw [gt_nat hil]
    obtain ⟨s, hse⟩ : ∃ s, s = l[i] := ⟨_, rfl⟩
    rw [← hse] at eg ⊢
    have hso := hs s (hse ▸ List.getElem_mem hil)
    by_cases hc : can w.f0 s = true
    · rw [if_pos hc]
      have ha : mnI (mnI (mnI (s.f1.length : Int) (mxI m 1)) (mxI s.f4.f0 0)) (mxI w.f0 0) = am s w.f0 m := by simp only [mn_eq, mx_eq]; rfl
      simp only [ha]
      have a0 : 0 ≤ am s w.f0 m := by unfold am; omega
      have a1 : am s w.f0 m ≤ s.f1.length := by unfold am; omega
      have a2 : am s w.f0 m ≤ max s.f4.f0 0 := by unfold am; omega
      have a3 : am s w.f0 m ≤ max w.f0 0 := by unfold am; omega
      rw [take_w _ _ hso.w a0 a2, take_w _ _ hw a0 a3]
      have hb := hso.b
      simp only [bnd2]
      rw [if_pos a0, if_pos a1, clone_f _ (by simp; omega), clone_f _ (by simp; omega)]
      have e2 : Int.tmod (IntKind.i64.wrap ((i : Int) + 1)) (l.length : Int) = Int.tmod ((i : Int) + 1) (l.length : Int) := by rw [wi64 (by omega) (by omega)]
      have hq : (rot t l).findIdx (can w.f0) = j := by
        have hjr : j < (rot t l).length := by rw [rot_len]; exact hjl
        rw [List.findIdx_eq hjr]
        refine ⟨?_, fun i' hi' => ?_⟩
        · rw [List.getElem?_eq_getElem hjr] at eg
          injection eg with eg
          rw [eg]
          exact hc
        · exact hno i' hi' _ (List.getElem?_eq_getElem (by omega))
      unfold nxt sent
      simp only [Int.toNat_natCast]
      rw [hq, if_pos hjl, ← hi, gt_nat hil, ← hse]
      simp only [e2, cutS, bnd1, Int.toNat_natCast]
      cases h2 : s.f2 <;> simp
    · rw [if_neg hc, wi64 (by omega) (by omega)]
      have := ih (j + 1) k (by omega) (by omega) (by omega) (fun i' hi' s' hs' => by
        rcases Nat.lt_succ_iff_lt_or_eq.1 hi' with h | h
        · exact hno i' h s' hs'
        · subst h
          rw [eg] at hs'
          injection hs' with hs'
          subst hs'
          simpa using hc)
      push_cast at this ⊢
      exact this
theorem next_f (k : Nat) (r : S69) (m : Int) (hr : Rok r) (hk : r.f0.length < k) : turns_Ring_Next.f k r m = some (nxt r m) := by
  unfold turns_Ring_Next.f
  exact next_l0 r m hr r.f0.length 0 k (by omega) (by omega) hk (fun i hi => by omega)
theorem at_eq {s : Int} {l : List S72} (h : at_ s l < l.length) : (l[at_ s l]).f0 = s := by
  have := List.findIdx_getElem (w := h)
  exact of_decide_eq_true this
theorem atI_lo {s : Int} {l : List S72} : atI s l < 0 ↔ ¬ at_ s l < l.length := by
  unfold atI
  split <;> rename_i h <;> simp [h]
def clampW (x : Int) : Int := min (max x (-2147483648)) 2147483647
theorem wnew_f (x : Int) (b : Bool) : window_New.f x b = some ⟨clampW x, b⟩ := by
  unfold window_New.f clampW
  rw [mn_eq, mx_eq]
theorem rnew_f (x : Int) : turns_New.f x = some ⟨[], 0, ⟨clampW x, false⟩⟩ := by
  unfold turns_New.f
  rw [wnew_f]
  rfl
def opn (r : S69) (s left : Int) : Bool × S69 :=
  if s = 0 ∨ at_ s r.f0 < r.f0.length then (false, r) else (true, ⟨r.f0 ++ [⟨s, [], false, false, ⟨clampW left, true⟩⟩], r.f1, r.f2⟩)
theorem open_f (k : Nat) (r : S69) (s left : Int) (hl : r.f0.length < 1073741824) (hk : r.f0.length < k) : turns_Ring_Open.f k r s left = some (opn r s left) := by
  unfold turns_Ring_Open.f opn
  by_cases h : s = 0
  · rw [if_pos h, if_pos (.inl h)]
  · rw [if_neg h, find_f k r s hl hk]
    simp only [bnd1, wnew_f]
    by_cases h2 : at_ s r.f0 < r.f0.length
    · rw [if_pos (by have := @atI_lo s r.f0; omega), if_pos (.inr h2)]
    · rw [if_neg (show ¬ atI s r.f0 ≥ 0 by have := @atI_lo s r.f0; omega), if_pos (show r.f0.length + 1 ≤ 17592186044416 by omega), if_neg (show ¬ (s = 0 ∨ at_ s r.f0 < r.f0.length) by simp only [h, h2]; simp)]
      rfl
def putS (s : S72) (b : List Int) (e : Bool) : S72 := ⟨s.f0, s.f1 ++ b, e, s.f3, s.f4⟩
def put (r : S69) (s : Int) (b : List Int) (e : Bool) : Bool × S69 :=
  if at_ s r.f0 < r.f0.length then (if (gt z72 r.f0 (at_ s r.f0)).f2 = true then (false, r) else (true, ⟨r.f0.set (at_ s r.f0) (putS (gt z72 r.f0 (at_ s r.f0)) b e), r.f1, r.f2⟩)) else (false, r)
theorem atI_pos {s : Int} {l : List S72} (h : at_ s l < l.length) : atI s l = at_ s l := by unfold atI; rw [if_pos h]
theorem atI_neg {s : Int} {l : List S72} (h : ¬ at_ s l < l.length) : atI s l = -1 := by unfold atI; rw [if_neg h]
theorem put_f (k : Nat) (r : S69) (s : Int) (b : List Int) (e : Bool) (hr : Rok r) (hb : b.length ≤ 70368744177664) (hk : r.f0.length < k) : turns_Ring_Put.f k r s b e = some (put r s b e) := by
  unfold turns_Ring_Put.f put
  rw [find_f k r s hr.n hk]
  simp only [bnd1]
  by_cases h2 : at_ s r.f0 < r.f0.length
  · rw [if_pos h2, atI_pos h2, if_neg (by omega), if_pos (by omega), if_pos (by omega)]
    simp only [lt1]
    by_cases h3 : (gt z72 r.f0 (at_ s r.f0)).f2 = true
    · rw [if_pos h3, if_pos h3]
    · rw [if_neg h3, if_neg h3]
      have := (hr.s _ (List.getElem_mem h2)).b
      rw [← gt_nat (z := z72) h2] at this
      rw [if_pos (by omega)]
      rfl
  · rw [if_neg h2, atI_neg h2, if_pos (by omega)]
def wgrow (w : S94) (n : Int) : S50 × S94 := if w.f0 + n > 2147483647 then (⟨if w.f1 = true then 2 else 1, 3⟩, w) else (⟨0, 0⟩, ⟨max (w.f0 + n) (-2147483648), w.f1⟩)
theorem wgrow_f (w : S94) (n : Int) (hw : -2147483648 ≤ w.f0 ∧ w.f0 ≤ 2147483648) (hn : 0 ≤ n ∧ n < 4294967296) : window_Window_Grow.f w n = some (wgrow w n) := by
  unfold window_Window_Grow.f window_Window_to.f window_scope.f wgrow
  rw [wi64 (x := n) (by omega) (by omega), wi64 (by omega) (by omega), mx_eq]
  by_cases h : w.f0 + n > 2147483647
  · rw [if_pos h, if_pos h]
    simp only [bnd2, bnd1]
    cases w.f1 <;> simp
  · rw [if_neg h, if_neg h]
    rfl
def setW (s : S72) (w : S94) : S72 := ⟨s.f0, s.f1, s.f2, s.f3, w⟩
def grow (r : S69) (s n : Int) : S50 × S69 :=
  if s = 0 then ((wgrow r.f2 n).1, ⟨r.f0, r.f1, (wgrow r.f2 n).2⟩)
  else if at_ s r.f0 < r.f0.length then ((wgrow (gt z72 r.f0 (at_ s r.f0)).f4 n).1, ⟨r.f0.set (at_ s r.f0) (setW (gt z72 r.f0 (at_ s r.f0)) (wgrow (gt z72 r.f0 (at_ s r.f0)).f4 n).2), r.f1, r.f2⟩) else (⟨0, 0⟩, r)
theorem grow_f (k : Nat) (r : S69) (s n : Int) (hr : Rok r) (hn : 0 ≤ n ∧ n < 4294967296) (hk : r.f0.length < k) : turns_Ring_Grow.f k r s n = some (grow r s n) := by
  unfold turns_Ring_Grow.f grow
  rw [find_f k r s hr.n hk]
  simp only [bnd1]
  by_cases h0 : s = 0
  · rw [if_pos h0, if_pos h0, wgrow_f _ _ hr.w hn]
    rfl
  · rw [if_neg h0, if_neg h0]
    by_cases h2 : at_ s r.f0 < r.f0.length
    · have hw := (hr.s _ (List.getElem_mem h2)).w
      rw [← gt_nat (z := z72) h2] at hw
      rw [if_pos h2, atI_pos h2, if_neg (by omega), if_pos (by omega), if_pos (by omega)]
      simp only [lt1]
      rw [wgrow_f _ _ hw hn]
      rfl
    · rw [if_neg h2, atI_neg h2, if_pos (by omega)]
def drp (r : S69) (s : Int) : S69 :=
  if at_ s r.f0 < r.f0.length then
    let l := r.f0.take (at_ s r.f0) ++ r.f0.drop (at_ s r.f0 + 1)
    let t := if (at_ s r.f0 : Int) < r.f1 then r.f1 - 1 else r.f1
    ⟨l, if t ≥ (l.length : Int) then 0 else t, r.f2⟩
  else r
theorem drop_f (k : Nat) (r : S69) (s : Int) (hr : Rok r) (hk : r.f0.length < k) : turns_Ring_Drop.f k r s = some (drp r s) := by
  unfold turns_Ring_Drop.f drp slices_Delete.f
  rw [find_f k r s hr.n hk]
  have hn := hr.n
  have ht := hr.t
  simp only [bnd1]
  by_cases h2 : at_ s r.f0 < r.f0.length
  · rw [if_pos h2, atI_pos h2, if_neg (by omega), wi64 (by omega) (by omega), if_pos (by omega), if_pos (by omega), if_pos (by omega), if_neg (by omega)]
    have e : ((at_ s r.f0 : Int) + 1).toNat = at_ s r.f0 + 1 := by omega
    simp only [Int.toNat_natCast, e]
    split
    · rw [wi64 (by omega) (by omega)]
      split <;> rfl
    · split <;> rfl
  · rw [if_neg h2, atI_neg h2, if_pos (by omega)]
theorem rot_mem {α : Type} {t : Nat} {l : List α} {x : α} : x ∈ rot t l ↔ x ∈ l := by
  unfold rot
  rw [List.mem_append]
  refine ⟨fun h => h.elim List.mem_of_mem_drop List.mem_of_mem_take, fun h => ?_⟩
  have : x ∈ l.take t ++ l.drop t := by rwa [List.take_append_drop]
  rcases List.mem_append.1 this with h | h
  · exact .inr h
  · exact .inl h
theorem nxt_cases (r : S69) (m : Int) (ht : 0 ≤ r.f1 ∧ (r.f1 < r.f0.length ∨ r.f1 = 0)) : ((∀ s ∈ r.f0, can r.f2.f0 s = false) ∧ nxt r m = (0, [], false, false, r)) ∨ ∃ i, ∃ h : i < r.f0.length, can r.f2.f0 r.f0[i] = true ∧ nxt r m = sent r i m := by
  unfold nxt
  by_cases h : (rot r.f1.toNat r.f0).findIdx (can r.f2.f0) < r.f0.length
  · right
    rw [if_pos h]
    have hil : (r.f1.toNat + (rot r.f1.toNat r.f0).findIdx (can r.f2.f0)) % r.f0.length < r.f0.length := Nat.mod_lt _ (by omega)
    refine ⟨_, hil, ?_, rfl⟩
    have h' : (rot r.f1.toNat r.f0).findIdx (can r.f2.f0) < (rot r.f1.toNat r.f0).length := by rw [rot_len]; exact h
    have h1 := List.findIdx_getElem (w := h')
    have h2 := rot_get (t := r.f1.toNat) (l := r.f0) (by omega) h
    rw [List.getElem?_eq_getElem h', List.getElem?_eq_getElem hil] at h2
    injection h2 with h2
    rw [← h2]
    exact h1
  · left
    rw [if_neg h]
    refine ⟨fun s hs => ?_, rfl⟩
    by_cases hc : can r.f2.f0 s = true
    · exact absurd (by rw [← rot_len r.f1.toNat r.f0]; exact List.findIdx_lt_length.2 ⟨s, rot_mem.2 hs, hc⟩) h
    · simpa using hc
/-- A sum over a row. -/
def sm (f : S72 → Int) : List S72 → Int
  | [] => 0
  | s :: l => f s + sm f l
theorem sm_set (f : S72 → Int) (x : S72) : ∀ (l : List S72) (i : Nat) (h : i < l.length), sm f (l.set i x) = sm f l - f l[i] + f x
  | [], i, h => by simp at h
  | s :: l, 0, h => by simp only [List.set_cons_zero, sm, List.getElem_cons_zero]; omega
  | s :: l, i + 1, h => by
    have := sm_set f x l i (by simpa using h)
    simp only [List.set_cons_succ, sm, List.getElem_cons_succ]
    omega
theorem sm_app (f : S72 → Int) : ∀ a b, sm f (a ++ b) = sm f a + sm f b
  | [], b => by simp [sm]
  | s :: a, b => by simp only [List.cons_append, sm, sm_app f a b]; omega
theorem sm_nn (f : S72 → Int) (h : ∀ s, 0 ≤ f s) : ∀ l, 0 ≤ sm f l
  | [] => by simp [sm]
  | s :: l => by have := sm_nn f h l; have := h s; simp only [sm]; omega
def es (b : List Int) (j : Nat) : S72 := ⟨(j : Int) + 1, b, true, false, ⟨1000, true⟩⟩
def el (p0 : List (List Int)) : List S72 := (p0.zipIdx).map (fun q => es q.1 q.2)
structure Pk (r : S69) : Prop where
  n : r.f0.length ≤ 300
  t : 0 ≤ r.f1 ∧ (r.f1 < r.f0.length ∨ r.f1 = 0)
  w : -2147483648 ≤ r.f2.f0 ∧ r.f2.f0 ≤ 2147483647
  z : ∀ s ∈ r.f0, s.f0 ≠ 0 ∧ -2147483648 ≤ s.f4.f0 ∧ s.f4.f0 ≤ 2147483647
  u : (r.f0.map S72.f0).Nodup
  b : sm (fun s => (s.f1.length : Int)) r.f0 ≤ 9000
theorem sm_mem (f : S72 → Int) (h : ∀ s, 0 ≤ f s) : ∀ (l : List S72) (s : S72), s ∈ l → f s ≤ sm f l
  | [], s, hs => by cases hs
  | x :: l, s, hs => by
    have h1 := sm_nn f h l
    have h2 := h x
    simp only [sm]
    rcases List.mem_cons.1 hs with rfl | hs
    · omega
    · have := sm_mem f h l s hs
      omega
theorem len_nn (s : S72) : (0 : Int) ≤ (fun s : S72 => (s.f1.length : Int)) s := by simp
theorem Pk.rok {r : S69} (h : Pk r) : Rok r := by
  refine ⟨by have := h.n; omega, h.t, by have := h.w; omega, fun s hs => ?_⟩
  have h1 := sm_mem _ len_nn r.f0 s hs
  have := h.b
  have := h.z s hs
  exact ⟨by omega, by omega⟩
theorem uniq {l : List S72} (hu : (l.map S72.f0).Nodup) {i : Nat} (hi : i < l.length) {s : Int} (h : l[i].f0 = s) (j : Nat) (x : S72) (hx : l[j]? = some x) (hxs : x.f0 = s) : j = i := by
  have hj := (List.getElem?_eq_some_iff.1 hx).1
  have e1 : (l.map S72.f0)[j]? = some s := by rw [List.getElem?_map, hx]; simp [hxs]
  have e2 : (l.map S72.f0)[i]? = some s := by rw [List.getElem?_map, List.getElem?_eq_getElem hi]; simp [h]
  exact (List.getElem?_inj (by simpa using hj) hu).1 (e1.trans e2.symm)
theorem none_of {l : List S72} {s : Int} (h : ¬ at_ s l < l.length) : ∀ x ∈ l, x.f0 ≠ s := by
  intro x hx hxs
  exact h (List.findIdx_lt_length.2 ⟨x, hx, by simpa using hxs⟩)
/-! ### the document's functions -/
theorem between_f (x : Int) : louverref10qbetween.f x = some (clampW x) := by
  unfold louverref10qbetween.f clampW
  split
  · congr 1; omega
  · split <;> (congr 1; omega)
theorem new10qf (x : Int) (b : Bool) : louverref10qNew.f x b = some ⟨clampW x, b⟩ := by
  unfold louverref10qNew.f
  rw [between_f]
  rfl
theorem Pk.set {r : S69} (h : Pk r) {i : Nat} (hi : i < r.f0.length) {x : S72} {t : Int} {w : S94} (hx : x.f0 = r.f0[i].f0) (hxw : -2147483648 ≤ x.f4.f0 ∧ x.f4.f0 ≤ 2147483647) (hb : sm (fun s => (s.f1.length : Int)) r.f0 - r.f0[i].f1.length + x.f1.length ≤ 9000)
    (ht : 0 ≤ t ∧ (t < r.f0.length ∨ t = 0)) (hw : -2147483648 ≤ w.f0 ∧ w.f0 ≤ 2147483647) : Pk ⟨r.f0.set i x, t, w⟩ := by
  refine ⟨by simpa using h.n, by simpa using ht, hw, fun s hs => ?_, ?_, ?_⟩
  · rcases List.mem_or_eq_of_mem_set hs with hs | rfl
    · exact h.z s hs
    · exact ⟨hx ▸ (h.z _ (List.getElem_mem hi)).1, hxw⟩
  · simp only
    rw [List.map_set, hx]
    have : (r.f0.map S72.f0).set i r.f0[i].f0 = r.f0.map S72.f0 := by
      refine List.ext_getElem? fun j => ?_
      rw [List.getElem?_set]
      by_cases hj : i = j
      · subst hj
        rw [if_pos rfl, if_pos (by simpa using hi), List.getElem?_map, List.getElem?_eq_getElem hi]
        rfl
      · rw [if_neg hj]
    rw [this]
    exact h.u
  · simp only
    rw [sm_set _ _ _ _ hi]
    omega
theorem Pk.opn {r : S69} (h : Pk r) (s left : Int) (hn : r.f0.length + 1 ≤ 300) : Pk (opn r s left).2 := by
  unfold Sl.opn
  by_cases h0 : s = 0 ∨ at_ s r.f0 < r.f0.length
  · rw [if_pos h0]
    exact h
  · rw [if_neg h0]
    have ht := h.t
    have hb := h.b
    refine ⟨by simp; omega, by simp; omega, h.w, fun x hx => ?_, ?_, ?_⟩
    · simp only [List.mem_append, List.mem_singleton] at hx
      rcases hx with hx | rfl
      · exact h.z x hx
      · exact ⟨fun e => h0 (.inl e), by simp only [clampW]; omega⟩
    · simp only [List.map_append, List.map_cons, List.map_nil]
      rw [List.nodup_append]
      refine ⟨h.u, by simp, fun a ha b hb' => ?_⟩
      simp only [List.mem_singleton] at hb'
      obtain ⟨x, hx, rfl⟩ := List.mem_map.1 ha
      rw [hb']
      exact none_of (fun e => h0 (.inr e)) x hx
    · simp only
      rw [sm_app]
      simp only [sm, List.length_nil]
      omega
theorem Pk.put {r : S69} (h : Pk r) (s : Int) (b : List Int) (e : Bool) (hb : sm (fun s => (s.f1.length : Int)) r.f0 + b.length ≤ 9000) : Pk (put r s b e).2 := by
  unfold Sl.put
  split
  · next h2 =>
    split
    · exact h
    · rw [gt_nat h2]
      have hz := h.z _ (List.getElem_mem h2)
      refine h.set h2 rfl ⟨hz.2.1, hz.2.2⟩ ?_ h.t h.w
      simp only [putS, List.length_append]
      omega
  · exact h
theorem Pk.nxt {r : S69} (h : Pk r) (m : Int) : Pk (nxt r m).2.2.2.2 ∧ (nxt r m).2.2.2.2.f0.length = r.f0.length ∧ sm (fun s => (s.f1.length : Int)) (nxt r m).2.2.2.2.f0 ≤ sm (fun s => (s.f1.length : Int)) r.f0 := by
  rcases nxt_cases r m h.t with ⟨_, e⟩ | ⟨i, hi, hc, e⟩
  · rw [e]
    exact ⟨h, rfl, Int.le_refl _⟩
  · rw [e]
    have hz := h.z _ (List.getElem_mem hi)
    have hw := h.w
    have hb := h.b
    have hbb : am r.f0[i] r.f2.f0 m ≤ max r.f2.f0 0 ∧ am r.f0[i] r.f2.f0 m ≤ max r.f0[i].f4.f0 0 ∧ 0 ≤ am r.f0[i] r.f2.f0 m := by unfold am; omega
    unfold sent
    simp only [gt_nat hi]
    refine ⟨h.set hi rfl (by simp only [cutS]; omega) (by simp only [cutS, List.length_drop]; omega) ?_ (by simp only; omega), by simp, ?_⟩
    · rw [Int.tmod_eq_emod_of_nonneg (by omega)]
      have := Int.emod_nonneg ((i : Int) + 1) (b := (r.f0.length : Int)) (by omega)
      have := Int.emod_lt_of_pos ((i : Int) + 1) (b := (r.f0.length : Int)) (by omega)
      omega
    · rw [sm_set _ _ _ _ hi]
      simp only [cutS, List.length_drop]
      omega
theorem wgrow_bd {w : S94} {n : Int} (hw : -2147483648 ≤ w.f0 ∧ w.f0 ≤ 2147483647) : -2147483648 ≤ (wgrow w n).2.f0 ∧ (wgrow w n).2.f0 ≤ 2147483647 := by
  unfold wgrow
  split
  · exact hw
  · simp only; omega
theorem Pk.grow {r : S69} (h : Pk r) (s n : Int) : Pk (grow r s n).2 ∧ (grow r s n).2.f0.length = r.f0.length ∧ sm (fun s => (s.f1.length : Int)) (grow r s n).2.f0 = sm (fun s => (s.f1.length : Int)) r.f0 := by
  unfold Sl.grow
  split
  · exact ⟨⟨h.n, h.t, wgrow_bd h.w, h.z, h.u, h.b⟩, rfl, rfl⟩
  · split
    · next h2 =>
      rw [gt_nat h2]
      have hz := h.z _ (List.getElem_mem h2)
      have hb := h.b
      refine ⟨h.set h2 rfl (wgrow_bd hz.2) (by simp only [setW]; omega) h.t h.w, by simp, ?_⟩
      rw [sm_set _ _ _ _ h2]
      simp only [setW]
      omega
    · exact ⟨h, rfl, rfl⟩
theorem Pk.drp {r : S69} (h : Pk r) (s : Int) : Pk (drp r s) ∧ (drp r s).f0.length ≤ r.f0.length ∧ sm (fun s => (s.f1.length : Int)) (drp r s).f0 ≤ sm (fun s => (s.f1.length : Int)) r.f0 := by
  unfold Sl.drp
  by_cases h2 : at_ s r.f0 < r.f0.length
  · rw [if_pos h2]
    have hsub : (List.take (at_ s r.f0) r.f0 ++ List.drop (at_ s r.f0 + 1) r.f0).Sublist r.f0 := by
      have : r.f0 = List.take (at_ s r.f0) r.f0 ++ List.drop (at_ s r.f0) r.f0 := (List.take_append_drop _ _).symm
      conv => rhs; rw [this]
      refine List.Sublist.append_left ?_ _
      rw [List.drop_eq_getElem_cons h2]
      exact List.sublist_cons_self _ _
    have hl' : (List.take (at_ s r.f0) r.f0 ++ List.drop (at_ s r.f0 + 1) r.f0).length = r.f0.length - 1 := by simp only [List.length_append, List.length_take, List.length_drop]; omega
    have hs' : sm (fun s => (s.f1.length : Int)) (List.take (at_ s r.f0) r.f0 ++ List.drop (at_ s r.f0 + 1) r.f0) ≤ sm (fun s => (s.f1.length : Int)) r.f0 := by
      have : r.f0 = List.take (at_ s r.f0) r.f0 ++ (r.f0[at_ s r.f0] :: List.drop (at_ s r.f0 + 1) r.f0) := by rw [← List.drop_eq_getElem_cons h2, List.take_append_drop]
      conv => rhs; rw [this]
      rw [sm_app, sm_app]
      simp only [sm]
      omega
    have hn := h.n
    have ht := h.t
    have hb := h.b
    refine ⟨⟨by simp only [hl']; omega, ?_, h.w, fun x hx => h.z x (hsub.subset hx), (hsub.map _).nodup h.u, by simp only; omega⟩, by simp only [hl']; omega, hs'⟩
    simp only [hl']
    split <;> split <;> omega
  · rw [if_neg h2]
    exact ⟨h, Nat.le_refl _, Int.le_refl _⟩
/-! ### one operation -/
structure Ok (o : S45) : Prop where
  a : 0 ≤ o.f5 ∧ o.f5 < 4294967296
  b : 0 ≤ o.f6 ∧ o.f6 < 4294967296
theorem put_len (r : S69) (s : Int) (b : List Int) (e : Bool) : (put r s b e).2.f0.length = r.f0.length ∧ sm (fun s => (s.f1.length : Int)) (put r s b e).2.f0 ≤ sm (fun s => (s.f1.length : Int)) r.f0 + b.length := by
  unfold put
  split
  · next h2 =>
    split
    · exact ⟨rfl, by simp only; omega⟩
    · refine ⟨by simp, ?_⟩
      simp only
      rw [sm_set _ _ _ _ h2, gt_nat h2]
      simp only [putS, List.length_append]
      omega
  · exact ⟨rfl, by simp only; omega⟩
def gsum : List S45 → Int
  | [] => 0
  | o :: l => (1 + min (o.f3.length : Int) 9000) + gsum l
theorem gsum_bd : ∀ l, 0 ≤ gsum l ∧ gsum l ≤ 9001 * l.length
  | [] => by simp [gsum]
  | o :: l => by
    have := gsum_bd l
    simp only [gsum, List.length_cons]
    push_cast
    omega
theorem great_l0 (p : List S45) (hp : p.length ≤ 2199023255552) : ∀ (suf : List S45) (j k : Nat) (a : Int), p.drop j = suf → 0 ≤ a → a + gsum suf ≤ 9001 * p.length → suf.length < k →
    louverlaw13qgreat.l0 k a j p = some (decide ((p.length : Int) > 300) || decide (a + gsum suf > 9000)) := by
  intro suf
  induction suf with
  | nil =>
    intro j k a hd ha hb hk
    obtain ⟨k, rfl⟩ : ∃ m, k = m + 1 := ⟨k - 1, by omega⟩
    have : p.length ≤ j := List.drop_eq_nil_iff.1 hd
    rw [louverlaw13qgreat.l0, if_neg (by omega)]
    by_cases h : (p.length : Int) > 300 <;> simp [h, gsum]
  | cons o suf ih =>
    intro j k a hd ha hb hk
    obtain ⟨k, rfl⟩ : ∃ m, k = m + 1 := ⟨k - 1, by omega⟩
    simp only [List.length_cons] at hk
    have hlt : j < p.length := by
      by_cases h : j < p.length
      · exact h
      · rw [List.drop_eq_nil_of_le (by omega)] at hd
        cases hd
    rw [List.drop_eq_getElem_cons hlt] at hd
    injection hd with h1 h2
    have hs := gsum_bd suf
    simp only [gsum] at hb ⊢
    rw [louverlaw13qgreat.l0, if_pos (by omega), if_pos (by omega), gt_nat hlt, h1, mn_eq, wi64 (x := 1 + min (o.f3.length : Int) 9000) (by omega) (by omega), wi64 (by omega) (by omega), wi64 (by omega) (by omega)]
    have := ih (j + 1) k (a + (1 + min (o.f3.length : Int) 9000)) h2 (by omega) (by omega) (by omega)
    push_cast at this
    rw [this]
    congr 2
    exact decide_eq_decide.2 (by constructor <;> intro <;> omega)
theorem great_f (k : Nat) (p : List S45) (hp : p.length ≤ 2199023255552) (hk : p.length < k) : louverlaw13qgreat.f k p = some (decide ((p.length : Int) > 300) || decide (gsum p > 9000)) := by
  unfold louverlaw13qgreat.f
  have := great_l0 p hp p 0 k 0 rfl (by omega) (by have := gsum_bd p; omega) hk
  simpa using this
def okOp (x : S45) : Prop := okI .i64 x.f0 ∧ okI .u32 x.f1 ∧ okI .i64 x.f2 ∧ okL 1 (okI .u8) x.f3 ∧ okB x.f4 ∧ okI .u32 x.f5 ∧ okI .u32 x.f6
theorem ok_ops {p1 : List S45} (h : okL 64 okOp p1) : p1.length ≤ 2199023255552 ∧ ∀ o ∈ p1, Ok o := by
  refine ⟨by have := h.1; omega, fun o ho => ?_⟩
  obtain ⟨_, _, _, _, _, a, b⟩ := h.2 o ho
  exact ⟨okI_u32.1 a, okI_u32.1 b⟩
def fi (s : Int) (A : List S48) : Nat := A.findIdx (fun x => decide (x.f0 = s))
theorem fi_l0 (A : List S48) (s : Int) (hl : A.length < 4611686018427387904) : ∀ (n i k : Nat), n = A.length - i → i ≤ A.length → n < k →
    louverlaw13qfind.l0 k i A s = some (if i + fi s (A.drop i) < A.length then ((i + fi s (A.drop i) : Nat) : Int) else -1) := by
  intro n
  induction n with
  | zero =>
    intro i k hn hi hk
    obtain ⟨k, rfl⟩ : ∃ m, k = m + 1 := ⟨k - 1, by omega⟩
    obtain rfl : i = A.length := by omega
    simp [louverlaw13qfind.l0, fi]
  | succ n ih =>
    intro i k hn hi hk
    obtain ⟨k, rfl⟩ : ∃ m, k = m + 1 := ⟨k - 1, by omega⟩
    have hlt : i < A.length := by omega
    unfold fi
    rw [louverlaw13qfind.l0, if_pos (by omega), if_pos (by omega), gt_nat hlt, List.drop_eq_getElem_cons hlt, List.findIdx_cons]
    by_cases hp : A[i].f0 = s
    · rw [if_pos hp]
      simp [hp, hlt]
    · rw [if_neg hp, wi64 (by omega) (by omega)]
      have := ih (i + 1) k (by omega) (by omega) (by omega)
      push_cast at this ⊢
      rw [this]
      simp only [hp, decide_false, cond_false]
      unfold fi
      congr 1
      split <;> split <;> first | rfl | omega
theorem fi_f (k : Nat) (A : List S48) (s : Int) (hl : A.length < 4611686018427387904) (hk : A.length < k) : louverlaw13qfind.f k A s = some (if fi s A < A.length then (fi s A : Int) else -1) := by
  unfold louverlaw13qfind.f
  have := fi_l0 A s hl A.length 0 k (by omega) (by omega) hk
  simpa using this
def Uq (A : List S48) : Prop := ∀ (i j : Nat) (x y : S48), A[i]? = some x → A[j]? = some y → x.f0 = y.f0 → x.f0 ≠ 0 → i = j
theorem fi_eq {A : List S48} {s : Int} (h : fi s A < A.length) : (A[fi s A]).f0 = s := by
  have := List.findIdx_getElem (w := h)
  exact of_decide_eq_true this
theorem fi_of {A : List S48} (hu : Uq A) {j : Nat} {x : S48} (hj : A[j]? = some x) (h0 : x.f0 ≠ 0) : fi x.f0 A = j := by
  have hl := (List.getElem?_eq_some_iff.1 hj).1
  have hlt : fi x.f0 A < A.length := List.findIdx_lt_length.2 ⟨x, List.mem_of_getElem? hj, by simp⟩
  have e := fi_eq hlt
  exact hu _ _ _ x (List.getElem?_eq_getElem hlt) hj e (by rw [e]; exact h0)
/-- The account of a stream that is in the ring. -/
def Ac (A : List S48) (s : S72) : Prop := ∃ (j : Nat) (x : S48), A[j]? = some x ∧ x.f0 = s.f0 ∧ x.f2 ++ toS s.f1 = x.f1 ∧ x.f3 = s.f4.f0
structure Cr (r : S69) (A : List S48) : Prop where
  p : Pk r
  u : Uq A
  s : ∀ s ∈ r.f0, Ac A s
theorem Cr.at {r : S69} {A : List S48} (h : Cr r A) {i : Nat} (hi : i < r.f0.length) : ∃ hj : fi r.f0[i].f0 A < A.length, (A[fi r.f0[i].f0 A]).f0 = r.f0[i].f0 ∧ (A[fi r.f0[i].f0 A]).f2 ++ toS r.f0[i].f1 = (A[fi r.f0[i].f0 A]).f1 ∧ (A[fi r.f0[i].f0 A]).f3 = r.f0[i].f4.f0 := by
  obtain ⟨j, x, hj, h1, h2, h3⟩ := h.s _ (List.getElem_mem hi)
  have h0 := (h.p.z _ (List.getElem_mem hi)).1
  have e := fi_of h.u hj (by rw [h1]; exact h0)
  rw [h1] at e
  have hl := (List.getElem?_eq_some_iff.1 hj).1
  refine ⟨by omega, ?_⟩
  have ex : A[fi r.f0[i].f0 A]'(by omega) = x := by
    have : A[fi r.f0[i].f0 A]? = some x := by rw [e]; exact hj
    rw [List.getElem?_eq_getElem (by omega)] at this
    injection this
  rw [ex]
  exact ⟨h1, h2, h3⟩
theorem Uq.set {A : List S48} (h : Uq A) {j : Nat} (hj : j < A.length) {x : S48} (hx : x.f0 = A[j].f0 ∨ x.f0 = 0) : Uq (A.set j x) := by
  have key : ∀ (i : Nat) (y : S48), (A.set j x)[i]? = some y → y.f0 ≠ 0 → ∃ z, A[i]? = some z ∧ z.f0 = y.f0 := by
    intro i y hy hy0
    rw [List.getElem?_set] at hy
    by_cases e : j = i
    · subst e
      rw [if_pos rfl, if_pos hj] at hy
      injection hy with hy
      subst hy
      rcases hx with hx | hx
      · exact ⟨_, List.getElem?_eq_getElem hj, hx.symm⟩
      · exact absurd hx hy0
    · rw [if_neg e] at hy
      exact ⟨y, hy, rfl⟩
  intro a b y z ha hb he h0
  obtain ⟨y', h1, h2⟩ := key a y ha h0
  obtain ⟨z', h3, h4⟩ := key b z hb (by rw [← he]; exact h0)
  exact h a b y' z' h1 h3 (by rw [h2, h4, he]) (by rw [h2]; exact h0)
/-- A stream and its account turn together. -/
theorem Cr.upd {r r' : S69} {A : List S48} (h : Cr r A) {i : Nat} (hi : i < r.f0.length) {s : S72} {x : S48} (hs : s.f0 = r.f0[i].f0) (hr : r'.f0 = r.f0.set i s) (hp : Pk r') (h1 : x.f0 = s.f0) (h2 : x.f2 ++ toS s.f1 = x.f1) (h3 : x.f3 = s.f4.f0) : Cr r' (A.set (fi r.f0[i].f0 A) x) := by
  obtain ⟨hj, e1, e2, e3⟩ := h.at hi
  refine ⟨hp, h.u.set hj (.inl (by rw [h1, hs, e1])), fun q hq => ?_⟩
  rw [hr] at hq
  obtain ⟨a, ha⟩ := List.getElem?_of_mem hq
  rw [List.getElem?_set] at ha
  by_cases hia : i = a
  · subst hia
    rw [if_pos rfl, if_pos hi] at ha
    injection ha with ha
    subst ha
    exact ⟨fi r.f0[i].f0 A, x, by rw [List.getElem?_set, if_pos rfl, if_pos hj], h1, h2, h3⟩
  · rw [if_neg hia] at ha
    obtain ⟨j, y, hy, q1, q2, q3⟩ := h.s q (List.mem_of_getElem? ha)
    refine ⟨j, y, ?_, q1, q2, q3⟩
    rw [List.getElem?_set, if_neg]
    · exact hy
    · intro hjj
      subst hjj
      rw [List.getElem?_eq_getElem hj] at hy
      injection hy with hy
      have : q.f0 = r.f0[i].f0 := by rw [← q1, ← hy, e1]
      exact hia (uniq h.p.u hi rfl a q ha this).symm
/-- What the accounts don't see. -/
theorem Cr.same {r r' : S69} {A : List S48} (h : Cr r A) (hp : Pk r') (hs : ∀ s ∈ r'.f0, ∃ q ∈ r.f0, q.f0 = s.f0 ∧ q.f1 = s.f1 ∧ q.f4.f0 = s.f4.f0) : Cr r' A := by
  refine ⟨hp, h.u, fun s hs' => ?_⟩
  obtain ⟨q, hq, e0, e1, e4⟩ := hs s hs'
  obtain ⟨j, x, hj, h1, h2, h3⟩ := h.s q hq
  exact ⟨j, x, hj, by rw [h1, e0], by rw [← e1]; exact h2, by rw [h3, e4]⟩
/-- An account of what isn't in the ring. -/
theorem Cr.off {r : S69} {A : List S48} (h : Cr r A) {j : Nat} (hj : j < A.length) {x : S48} (hx : x.f0 = A[j].f0 ∨ x.f0 = 0) (hn : ∀ s ∈ r.f0, s.f0 ≠ A[j].f0) : Cr r (A.set j x) := by
  refine ⟨h.p, h.u.set hj hx, fun s hs => ?_⟩
  obtain ⟨a, y, hy, q1, q2, q3⟩ := h.s s hs
  refine ⟨a, y, ?_, q1, q2, q3⟩
  rw [List.getElem?_set, if_neg]
  · exact hy
  · intro e
    subst e
    rw [List.getElem?_eq_getElem hj] at hy
    injection hy with hy
    exact hn s hs (by rw [← q1, hy])
/-- A new stream. -/
theorem Cr.new {r : S69} {A : List S48} (h : Cr r A) {s c : Int} (h0 : s ≠ 0) (hA : ∀ x ∈ A, x.f0 ≠ s) {t : Int} {w : S94} (hp : Pk ⟨r.f0 ++ [⟨s, [], false, false, ⟨c, true⟩⟩], t, w⟩) : Cr ⟨r.f0 ++ [⟨s, [], false, false, ⟨c, true⟩⟩], t, w⟩ (A ++ [⟨s, [], [], c⟩]) := by
  refine ⟨hp, ?_, fun q hq => ?_⟩
  · intro a b y z ha hb he h0'
    rw [List.getElem?_append] at ha hb
    split at ha <;> split at hb
    · exact h.u a b y z ha hb he h0'
    · have := List.mem_of_getElem? hb
      obtain rfl := List.mem_singleton.1 this
      exact absurd he (hA y (List.mem_of_getElem? ha))
    · have := List.mem_of_getElem? ha
      obtain rfl := List.mem_singleton.1 this
      exact absurd he.symm (hA z (List.mem_of_getElem? hb))
    · have h1 := (List.getElem?_eq_some_iff.1 ha).1
      have h2 := (List.getElem?_eq_some_iff.1 hb).1
      simp only [List.length_singleton] at h1 h2
      omega
  · simp only [List.mem_append, List.mem_singleton] at hq
    rcases hq with hq | rfl
    · obtain ⟨a, y, hy, q1, q2, q3⟩ := h.s q hq
      refine ⟨a, y, ?_, q1, q2, q3⟩
      rw [List.getElem?_append_left (List.getElem?_eq_some_iff.1 hy).1]
      exact hy
    · exact ⟨A.length, ⟨s, [], [], c⟩, by simp, rfl, rfl, rfl⟩
theorem at_live {l : List S72} {s : Int} (h : at_ s l < l.length) : l[at_ s l].f0 = s := at_eq h
theorem mem_set48 {A : List S48} {j : Nat} {x y : S48} (h : y ∈ A.set j x) : y ∈ A ∨ y = x := List.mem_or_eq_of_mem_set h
theorem credit_l0 (p1 : List S45) (hp : p1.length ≤ 300) (hok : ∀ o ∈ p1, Ok o) : ∀ (suf : List S45) (j k : Nat) (r : S69) (A : List S48), p1.drop j = suf → Cr r A → r.f0.length + suf.length ≤ 300 → sm (fun s => (s.f1.length : Int)) r.f0 + gsum suf ≤ 9000 →
    A.length + suf.length ≤ 300 → (∀ x ∈ A, (x.f1.length : Int) + gsum suf ≤ 9000) → 400 + suf.length ≤ k →
    louverlaw13qTurnsCredit.l0 k r r.f2.f0 A j p1 = some true := by
  intro suf
  induction suf with
  | nil =>
    intro j k r A hd h hn hb hA hAb hk
    obtain ⟨k, rfl⟩ : ∃ m, k = m + 20 + 1 := ⟨k - 21, by omega⟩
    have : p1.length ≤ j := List.drop_eq_nil_iff.1 hd
    rw [louverlaw13qTurnsCredit.l0, if_neg (by omega), fixed_true]
    rfl
  | cons o suf ih =>
    intro j k r A hd h hn hb hA hAb hk
    have hlt : j < p1.length := by
      by_cases h : j < p1.length
      · exact h
      · rw [List.drop_eq_nil_of_le (by omega)] at hd
        cases hd
    rw [List.drop_eq_getElem_cons hlt] at hd
    injection hd with h1 h2
    simp only [List.length_cons] at hn hk hA
    simp only [gsum] at hb hAb
    have hgs := gsum_bd suf
    have hsm0 := sm_nn _ len_nn r.f0
    have hmem : o ∈ p1 := h1 ▸ List.getElem_mem hlt
    have hoo := hok o hmem
    have hrok := h.p.rok
    have hol : o.f3.length ≤ 9000 := by omega
    obtain ⟨k, rfl⟩ : ∃ m, k = m + 1 := ⟨k - 1, by omega⟩
    have ew : IntKind.i64.wrap ((j : Int) + 1) = ((j + 1 : Nat) : Int) := by rw [wi64 (by omega) (by omega)]; push_cast; rfl
    have hAb' : ∀ x ∈ A, (x.f1.length : Int) + gsum suf ≤ 9000 := fun x hx => by have := hAb x hx; omega
    rw [louverlaw13qTurnsCredit.l0]
    simp only [gt_nat hlt, h1, ew]
    rw [if_pos (by omega), if_pos (by omega), fi_f _ A o.f1 (by omega) (by omega)]
    simp only [bnd1]
    by_cases h0 : o.f0 = 0
    · rw [if_pos h0, open_f _ _ _ _ (by omega) (by omega)]
      simp only [bnd2]
      by_cases hop : o.f1 = 0 ∨ at_ o.f1 r.f0 < r.f0.length
      · have e : opn r o.f1 o.f2 = (false, r) := by unfold opn; rw [if_pos hop]
        rw [e]
        simp only
        rw [if_neg (by simp)]
        exact ih (j + 1) k r A h2 h (by omega) (by omega) (by omega) hAb' (by omega)
      · have hz0 : o.f1 ≠ 0 := fun e => hop (.inl e)
        have hnl : ¬ at_ o.f1 r.f0 < r.f0.length := fun e => hop (.inr e)
        have e : opn r o.f1 o.f2 = (true, ⟨r.f0 ++ [⟨o.f1, [], false, false, ⟨clampW o.f2, true⟩⟩], r.f1, r.f2⟩) := by unfold opn; rw [if_neg hop]
        have hpn := h.p.opn o.f1 o.f2 (by omega)
        rw [e] at hpn ⊢
        simp only at hpn ⊢
        have hsm : sm (fun s => (s.f1.length : Int)) (r.f0 ++ [⟨o.f1, [], false, false, ⟨clampW o.f2, true⟩⟩]) + gsum suf ≤ 9000 := by
          rw [sm_app]
          simp only [sm, List.length_nil]
          omega
        rw [if_pos trivial]
        by_cases hf : fi o.f1 A < A.length
        · rw [if_pos hf, if_pos (by omega), if_pos (by omega), if_pos (by omega), new10qf]
          simp only [lt1, Int.toNat_natCast]
          rw [if_pos (by rw [List.length_set]; omega)]
          have hfe := fi_eq hf
          have hC := h.off hf (x := ⟨0, (gt z48 A (fi o.f1 A)).f1, (gt z48 A (fi o.f1 A)).f2, (gt z48 A (fi o.f1 A)).f3⟩) (.inr rfl) (by rw [hfe]; exact none_of hnl)
          have hno : ∀ x ∈ A.set (fi o.f1 A) ⟨0, (gt z48 A (fi o.f1 A)).f1, (gt z48 A (fi o.f1 A)).f2, (gt z48 A (fi o.f1 A)).f3⟩, x.f0 ≠ o.f1 := by
            intro x hx hxo
            obtain ⟨a, ha⟩ := List.getElem?_of_mem hx
            rw [List.getElem?_set] at ha
            by_cases e : fi o.f1 A = a
            · rw [if_pos e, if_pos hf] at ha
              injection ha with ha
              rw [← ha] at hxo
              exact hz0 hxo.symm
            · rw [if_neg e] at ha
              exact e (h.u _ _ _ x (List.getElem?_eq_getElem hf) ha (by rw [hfe, hxo]) (by rw [hfe]; exact hz0))
          have hC2 := hC.new (c := clampW o.f2) hz0 hno hpn
          refine ih (j + 1) k ⟨r.f0 ++ [⟨o.f1, [], false, false, ⟨clampW o.f2, true⟩⟩], r.f1, r.f2⟩ _ h2 hC2 (by simp; omega) hsm (by simp; omega) (fun x hx => ?_) (by omega)
          simp only [List.mem_append, List.mem_singleton] at hx
          rcases hx with hx | rfl
          · rcases mem_set48 hx with hx | rfl
            · exact hAb' x hx
            · simp only [gt_nat hf]
              exact hAb' _ (List.getElem_mem hf)
          · simp only [List.length_nil]
            omega
        · rw [if_neg hf, if_neg (show ¬ ((-1 : Int) ≥ 0) by omega), new10qf]
          simp only [lt1]
          rw [if_pos (by omega)]
          have hno : ∀ x ∈ A, x.f0 ≠ o.f1 := fun x hx hxo => hf (List.findIdx_lt_length.2 ⟨x, hx, by simpa using hxo⟩)
          have hC2 := h.new (c := clampW o.f2) hz0 hno hpn
          refine ih (j + 1) k ⟨r.f0 ++ [⟨o.f1, [], false, false, ⟨clampW o.f2, true⟩⟩], r.f1, r.f2⟩ _ h2 hC2 (by simp; omega) hsm (by simp; omega) (fun x hx => ?_) (by omega)
          simp only [List.mem_append, List.mem_singleton] at hx
          rcases hx with hx | rfl
          · exact hAb' x hx
          · simp only [List.length_nil]
            omega
    rw [if_neg h0]
    by_cases hk1 : o.f0 = 1
    · rw [if_pos hk1, put_f _ _ _ _ _ hrok (by omega) (by omega)]
      simp only [bnd2]
      by_cases hl : at_ o.f1 r.f0 < r.f0.length
      · by_cases he : (gt z72 r.f0 (at_ o.f1 r.f0)).f2 = true
        · have e : put r o.f1 o.f3 o.f4 = (false, r) := by unfold put; rw [if_pos hl, if_pos he]
          rw [e]
          simp only
          rw [if_neg (by simp)]
          exact ih (j + 1) k r A h2 h (by omega) (by omega) (by omega) hAb' (by omega)
        · have e : put r o.f1 o.f3 o.f4 = (true, ⟨r.f0.set (at_ o.f1 r.f0) (putS (gt z72 r.f0 (at_ o.f1 r.f0)) o.f3 o.f4), r.f1, r.f2⟩) := by unfold put; rw [if_pos hl, if_neg he]
          have hpp := h.p.put o.f1 o.f3 o.f4 (by omega)
          have hpl := put_len r o.f1 o.f3 o.f4
          rw [e] at hpp hpl ⊢
          simp only at hpp hpl ⊢
          have hae := at_live hl
          obtain ⟨hj, q1, q2, q3⟩ := h.at hl
          rw [hae] at hj
          have hxb := hAb _ (List.getElem_mem hj)
          rw [if_pos trivial, if_pos hj, if_neg (by omega), if_pos (by omega), if_pos (by omega), gt_nat hj, if_pos (by rw [toS_length]; omega)]
          simp only [lt1, Int.toNat_natCast]
          simp only [hae] at q1 q2 q3
          have hU := h.upd hl (r' := ⟨r.f0.set (at_ o.f1 r.f0) (putS (gt z72 r.f0 (at_ o.f1 r.f0)) o.f3 o.f4), r.f1, r.f2⟩) (s := putS (gt z72 r.f0 (at_ o.f1 r.f0)) o.f3 o.f4) (x := ⟨(A[fi o.f1 A]).f0, (A[fi o.f1 A]).f1 ++ toS o.f3, (A[fi o.f1 A]).f2, (A[fi o.f1 A]).f3⟩) (by rw [gt_nat hl]; rfl) rfl hpp (by rw [gt_nat hl]; simp only [putS]; rw [q1, hae]) (by rw [gt_nat hl]; simp only [putS]; rw [toS_append, ← List.append_assoc, q2]) (by rw [gt_nat hl]; exact q3)
          rw [hae] at hU
          refine ih (j + 1) k ⟨r.f0.set (at_ o.f1 r.f0) (putS (gt z72 r.f0 (at_ o.f1 r.f0)) o.f3 o.f4), r.f1, r.f2⟩ _ h2 hU (by simp only [List.length_set]; omega) (by simp only; omega) (by rw [List.length_set]; omega) (fun x hx => ?_) (by omega)
          rcases mem_set48 hx with hx | rfl
          · exact hAb' x hx
          · simp only [List.length_append, toS_length]
            omega
      · have e : put r o.f1 o.f3 o.f4 = (false, r) := by unfold put; rw [if_neg hl]
        rw [e]
        simp only
        rw [if_neg (by simp)]
        exact ih (j + 1) k r A h2 h (by omega) (by omega) (by omega) hAb' (by omega)
    rw [if_neg hk1]
    by_cases hk2 : o.f0 = 2
    · rw [if_pos hk2, next_f _ _ _ hrok (by omega)]
      obtain ⟨n1, n2, n3⟩ := h.p.nxt o.f2
      rcases nxt_cases r o.f2 h.p.t with ⟨_, e⟩ | ⟨i, hi, hc, e⟩
      · rw [e]
        simp only [bnd5]
        rw [if_neg (by simp)]
        exact ih (j + 1) k r A h2 h (by omega) (by omega) (by omega) hAb' (by omega)
      · rw [e] at n1 n2 n3 ⊢
        obtain ⟨hj, q1, q2, q3⟩ := h.at hi
        have hz := h.p.z _ (List.getElem_mem hi)
        have hw := h.p.w
        obtain ⟨s, hs⟩ : ∃ s, s = r.f0[i] := ⟨_, rfl⟩
        have hbb : am s r.f2.f0 o.f2 ≤ max r.f2.f0 0 ∧ am s r.f2.f0 o.f2 ≤ max s.f4.f0 0 ∧ 0 ≤ am s r.f2.f0 o.f2 ∧ am s r.f2.f0 o.f2 ≤ s.f1.length := by unfold am; omega
        obtain ⟨a, ha⟩ : ∃ a, a = am s r.f2.f0 o.f2 := ⟨_, rfl⟩
        rw [← ha] at hbb
        unfold sent at n1 n2 n3 ⊢
        simp only [gt_nat hi, ← hs, ← ha] at n1 n2 n3 ⊢
        obtain ⟨x, hx⟩ : ∃ x, x = A[fi r.f0[i].f0 A] := ⟨_, rfl⟩
        rw [← hx, ← hs] at q1 q2 q3
        rw [← hs] at hj hz
        have hx' : A[fi s.f0 A] = x := by rw [hx]; congr 1; rw [hs]
        have hxb := hAb' x (hx' ▸ List.getElem_mem hj)
        simp only [bnd5]
        rw [if_pos trivial, fi_f _ A _ (by omega) (by omega), if_pos hj]
        have hol' : (s.f1.take a.toNat).length = a.toNat := by rw [List.length_take]; omega
        have el : (x.f2 ++ toS (s.f1.take a.toNat)).length + (s.f1.drop a.toNat).length = x.f1.length := by
          rw [← q2, List.length_append, List.length_append, toS_length, toS_length, List.length_take, List.length_drop]
          omega
        have ecat : (x.f2 ++ toS (s.f1.take a.toNat)) ++ toS (s.f1.drop a.toNat) = x.f1 := by
          rw [List.append_assoc, ← toS_append, List.take_append_drop, q2]
        have etk : x.f1.take (x.f2 ++ toS (s.f1.take a.toNat)).length = x.f2 ++ toS (s.f1.take a.toNat) := by
          rw [← ecat, List.take_left' rfl]
        have ew2 : IntKind.i64.wrap (r.f2.f0 - (((s.f1.take a.toNat).length : Nat) : Int)) = r.f2.f0 - a := by rw [hol', wi64 (by omega) (by omega)]; omega
        have ew3 : IntKind.i64.wrap (x.f3 - (((s.f1.take a.toNat).length : Nat) : Int)) = s.f4.f0 - a := by rw [hol', q3, wi64 (by omega) (by omega)]; omega
        have hU := h.upd hi (s := cutS s a) (x := ⟨x.f0, x.f1, x.f2 ++ toS (s.f1.take a.toNat), s.f4.f0 - a⟩) (by rw [← hs]; rfl) rfl n1 q1 ecat rfl
        rw [← hs] at hU
        have hgo : louverlaw13qTurnsCredit.l0 k ⟨r.f0.set i (cutS s a), Int.tmod ((i : Int) + 1) (r.f0.length : Int), ⟨r.f2.f0 - a, r.f2.f1⟩⟩ (r.f2.f0 - a) (A.set (fi s.f0 A) ⟨x.f0, x.f1, x.f2 ++ toS (s.f1.take a.toNat), s.f4.f0 - a⟩) ((j + 1 : Nat) : Int) p1 = some true := by
          refine ih (j + 1) k ⟨r.f0.set i (cutS s a), Int.tmod ((i : Int) + 1) (r.f0.length : Int), ⟨r.f2.f0 - a, r.f2.f1⟩⟩ _ h2 hU (by simp only [List.length_set]; omega) (by simp only; omega) (by rw [List.length_set]; omega) (fun y hy => ?_) (by omega)
          rcases mem_set48 hy with hy | rfl
          · exact hAb' y hy
          · exact hxb
        have hend : (cutS s a).f3 = true → x.f2 ++ toS (s.f1.take a.toNat) = x.f1 := by
          intro h3
          have h5 : s.f1.drop a.toNat = [] := by
            simp only [cutS, Bool.and_eq_true, decide_eq_true_eq] at h3
            exact List.length_eq_zero_iff.1 (by omega)
          rw [h5] at ecat
          simpa [toS] using ecat
        simp only [gt_nat hj, hx', ew2, ew3, lt1, Int.toNat_natCast]
        rw [if_neg (by omega), if_neg hz.1, if_pos (by omega), if_pos (by omega), if_pos (by rw [toS_length, hol']; have := congrArg List.length q2; rw [List.length_append] at this; omega)]
        have hnle : ¬ (((x.f2 ++ toS (s.f1.take a.toNat)).length : Nat) : Int) > (x.f1.length : Int) := by omega
        have hle : (((x.f2 ++ toS (s.f1.take a.toNat)).length : Nat) : Int) ≤ (x.f1.length : Int) := by omega
        have h00 : (0 : Int) ≤ (((x.f2 ++ toS (s.f1.take a.toNat)).length : Nat) : Int) := by omega
        by_cases hpos : (((s.f1.take a.toNat).length : Nat) : Int) > 0
        · rw [if_pos hpos, if_neg (show ¬ s.f4.f0 - a < 0 by omega), if_neg (show ¬ r.f2.f0 - a < 0 by omega), if_neg hnle, if_pos h00, if_pos hle, if_pos etk]
          by_cases h3 : (cutS s a).f3 = true
          · rw [if_pos h3, if_pos (hend h3)]
            exact hgo
          · rw [if_neg h3]
            exact hgo
        · rw [if_neg hpos, if_neg hnle, if_pos h00, if_pos hle, if_pos etk]
          by_cases h3 : (cutS s a).f3 = true
          · rw [if_pos h3, if_pos (hend h3)]
            exact hgo
          · rw [if_neg h3]
            exact hgo
    rw [if_neg hk2]
    by_cases hk3 : o.f0 = 3
    · rw [if_pos hk3, grow_f _ _ _ _ hrok hoo.a (by omega)]
      obtain ⟨g1, g2, g3⟩ := h.p.grow o.f1 o.f5
      simp only [bnd2]
      have ew5 : IntKind.i64.wrap o.f5 = o.f5 := wi64 (by have := hoo.a; omega) (by have := hoo.a; omega)
      rw [ew5]
      have hw := h.p.w
      have ho5 := hoo.a
      by_cases hz0 : o.f1 = 0
      · have e : grow r o.f1 o.f5 = ((wgrow r.f2 o.f5).1, ⟨r.f0, r.f1, (wgrow r.f2 o.f5).2⟩) := by unfold grow; rw [if_pos hz0]
        rw [e] at g1 g2 g3 ⊢
        simp only at g1 g2 g3 ⊢
        have hC := h.same g1 (fun s hs => ⟨s, hs, rfl, rfl, rfl⟩)
        have hih := ih (j + 1) k _ A h2 hC (by simp only; omega) (by simp only; omega) (by omega) hAb' (by omega)
        by_cases hbig : r.f2.f0 + o.f5 > 2147483647
        · have e1 : wgrow r.f2 o.f5 = (⟨if r.f2.f1 = true then 2 else 1, 3⟩, r.f2) := by unfold wgrow; rw [if_pos hbig]
          rw [e1] at hih ⊢
          simp only at hih ⊢
          rw [if_neg (by simp)]
          exact hih
        · have e1 : wgrow r.f2 o.f5 = (⟨0, 0⟩, ⟨max (r.f2.f0 + o.f5) (-2147483648), r.f2.f1⟩) := by unfold wgrow; rw [if_neg hbig]
          rw [e1] at hih ⊢
          simp only at hih ⊢
          rw [if_pos (by rfl), if_pos hz0, wi64 (by omega) (by omega)]
          rw [show max (r.f2.f0 + o.f5) (-2147483648) = r.f2.f0 + o.f5 by omega] at hih ⊢
          exact hih
      · by_cases hl : at_ o.f1 r.f0 < r.f0.length
        · have hae := at_live hl
          have hz := h.p.z _ (List.getElem_mem hl)
          have e : grow r o.f1 o.f5 = ((wgrow r.f0[at_ o.f1 r.f0].f4 o.f5).1, ⟨r.f0.set (at_ o.f1 r.f0) (setW r.f0[at_ o.f1 r.f0] (wgrow r.f0[at_ o.f1 r.f0].f4 o.f5).2), r.f1, r.f2⟩) := by unfold grow; rw [if_neg hz0, if_pos hl, gt_nat hl]
          rw [e] at g1 g2 g3 ⊢
          simp only at g1 g2 g3 ⊢
          obtain ⟨s, hs⟩ : ∃ s, s = r.f0[at_ o.f1 r.f0] := ⟨_, rfl⟩
          rw [← hs] at g1 g2 g3 hz ⊢
          by_cases hbig : s.f4.f0 + o.f5 > 2147483647
          · have e1 : wgrow s.f4 o.f5 = (⟨if s.f4.f1 = true then 2 else 1, 3⟩, s.f4) := by unfold wgrow; rw [if_pos hbig]
            rw [e1] at g1 g2 g3 ⊢
            simp only at g1 g2 g3 ⊢
            rw [if_neg (by simp)]
            refine ih (j + 1) k _ A h2 (h.same g1 (fun q hq => ?_)) (by simp only; omega) (by simp only; omega) (by omega) hAb' (by omega)
            rcases List.mem_or_eq_of_mem_set hq with hq | rfl
            · exact ⟨q, hq, rfl, rfl, rfl⟩
            · exact ⟨s, hs ▸ List.getElem_mem hl, rfl, rfl, rfl⟩
          · have e1 : wgrow s.f4 o.f5 = (⟨0, 0⟩, ⟨max (s.f4.f0 + o.f5) (-2147483648), s.f4.f1⟩) := by unfold wgrow; rw [if_neg hbig]
            rw [e1] at g1 g2 g3 ⊢
            simp only at g1 g2 g3 ⊢
            obtain ⟨hj, q1, q2, q3⟩ := h.at hl
            rw [hae] at hj
            simp only [hae] at q1 q2 q3
            have q2 : (A[fi o.f1 A]).f2 ++ toS s.f1 = (A[fi o.f1 A]).f1 := by rw [hs]; exact q2
            have q3 : (A[fi o.f1 A]).f3 = s.f4.f0 := by rw [hs]; exact q3
            rw [if_pos (by rfl), if_neg hz0, if_pos hj, if_pos (by omega), if_pos (by omega), if_pos (by omega), gt_nat hj, q3, wi64 (by omega) (by omega)]
            simp only [lt1, Int.toNat_natCast]
            have hU := h.upd hl (r' := ⟨r.f0.set (at_ o.f1 r.f0) (setW s ⟨max (s.f4.f0 + o.f5) (-2147483648), s.f4.f1⟩), r.f1, r.f2⟩) (s := setW s ⟨max (s.f4.f0 + o.f5) (-2147483648), s.f4.f1⟩) (x := ⟨(A[fi o.f1 A]).f0, (A[fi o.f1 A]).f1, (A[fi o.f1 A]).f2, s.f4.f0 + o.f5⟩) (by rw [hs]; rfl) rfl g1 (by simp only [setW]; rw [q1, hs, hae]) q2 (by simp only [setW]; omega)
            rw [hae] at hU
            refine ih (j + 1) k ⟨r.f0.set (at_ o.f1 r.f0) (setW s ⟨max (s.f4.f0 + o.f5) (-2147483648), s.f4.f1⟩), r.f1, r.f2⟩ _ h2 hU (by simp only; omega) (by simp only; omega) (by rw [List.length_set]; omega) (fun x hx => ?_) (by omega)
            rcases mem_set48 hx with hx | rfl
            · exact hAb' x hx
            · have := hAb' _ (List.getElem_mem hj)
              exact this
        · have e : grow r o.f1 o.f5 = (⟨0, 0⟩, r) := by unfold grow; rw [if_neg hz0, if_neg hl]
          rw [e]
          simp only
          rw [if_pos (by rfl), if_neg hz0]
          by_cases hf : fi o.f1 A < A.length
          · have hfe := fi_eq hf
            rw [if_pos hf, if_pos (by omega), if_pos (by omega), if_pos (by omega)]
            simp only [lt1, Int.toNat_natCast, gt_nat hf]
            refine ih (j + 1) k r _ h2 (h.off hf (.inl rfl) (by rw [hfe]; exact none_of hl)) (by omega) (by omega) (by rw [List.length_set]; omega) (fun x hx => ?_) (by omega)
            rcases mem_set48 hx with hx | rfl
            · exact hAb' x hx
            · have := hAb' _ (List.getElem_mem hf)
              exact this
          · rw [if_neg hf, if_neg (show ¬ ((-1 : Int) ≥ 0) by omega)]
            exact ih (j + 1) k r A h2 h (by omega) (by omega) (by omega) hAb' (by omega)
    rw [if_neg hk3, drop_f _ _ _ hrok (by omega)]
    obtain ⟨d1, d2, d3⟩ := h.p.drp o.f1
    simp only
    have ef2 : (drp r o.f1).f2 = r.f2 := by unfold drp; split <;> rfl
    have hih := ih (j + 1) k (drp r o.f1) A h2 (h.same d1 (fun s hs => ?_)) (by omega) (by omega) (by omega) hAb' (by omega)
    · rw [ef2] at hih
      exact hih
    · refine ⟨s, ?_, rfl, rfl, rfl⟩
      unfold drp at hs
      split at hs
      · simp only [List.mem_append] at hs
        rcases hs with hs | hs
        · exact List.mem_of_mem_take hs
        · exact List.mem_of_mem_drop hs
      · exact hs
theorem louverlaw13qTurnsCredit_true (p0 : Int) (p1 : List S45) (h0 : okI .i64 p0) (h1 : okL 64 okOp p1) : ∃ k, louverlaw13qTurnsCredit.f k p0 p1 = some true := by
  have h1 := ok_ops h1
  obtain ⟨N, hN⟩ : ∃ N : Nat, N = p1.length + 1000000 := ⟨_, rfl⟩
  refine ⟨N + 20, ?_⟩
  unfold louverlaw13qTurnsCredit.f
  rw [great_f _ _ h1.1 (by omega)]
  simp only [bnd1]
  by_cases hg : (decide ((p1.length : Int) > 300) || decide (gsum p1 > 9000)) = true
  · rw [if_pos hg, fixed_true]
  · rw [if_neg hg, rnew_f, new10qf]
    simp only [Bool.or_eq_true, decide_eq_true_eq] at hg
    have hg' : (p1.length : Int) ≤ 300 ∧ gsum p1 ≤ 9000 := by omega
    simp only
    exact credit_l0 p1 (by omega) h1.2 p1 0 (N + 20) ⟨[], 0, ⟨clampW p0, false⟩⟩ [] rfl ⟨⟨by simp, by simp, by simp only [clampW]; omega, by simp, by simp, by simp [sm]⟩, by intro i j x y hi; simp at hi, by simp⟩ (by simp; omega) (by simp only [sm]; omega) (by simp; omega) (by simp) (by omega)
end Go.Proofs.Ytikfpmieadfllaa.Sl
