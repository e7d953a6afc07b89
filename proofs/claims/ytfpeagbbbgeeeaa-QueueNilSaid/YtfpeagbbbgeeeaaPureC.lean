/- Chapter 23, plain: the queue beside its plain twin. -/
import Derived.Test.YtfpeagbbbgeeeaaCode2
import Derived.Test.YtfpeagbbbgeeeaaPureA
set_option linter.unusedVariables false
set_option linter.unusedSimpArgs false
namespace Go.Proofs.Ytfpeagbbbgeeeaa.Sl
open Go Go.Proofs.Sl

def ok38 (x : S38) : Prop := okI .i64 x.f0 ∧ okL 1 (okI .u8) x.f1 ∧ okI .i64 x.f2
theorem tot_drop (l : List (List Int)) (j : Nat) (h : j < l.length) : tot (l.drop j) = (gt [] l (j : Int)).length + tot (l.drop (j + 1)) := by
  rw [gt_drop l j h]
  rfl
theorem tot_take (l : List (List Int)) (j : Nat) : tot l = tot (l.take j) + tot (l.drop j) := by
  rw [← tot_app, List.take_append_drop]
theorem gt_map (l : List (List Int)) (j : Nat) (h : j < l.length) : gt [] (l.map toS) (j : Int) = toS (gt [] l (j : Int)) := by
  simp [gt, List.getD_eq_getElem?_getD, h]
theorem size_l0 (l : List (List Int)) (ht : tot l < 9223372036854775808) (hl : l.length ≤ 300) (a b : Int) : ∀ (m k j : Nat) (acc : Int), acc + tot (l.drop j) = tot l → 0 ≤ acc → j + m = l.length → m < k → louverref23qQ_Size.l0 k acc j (⟨l.map toS, a, b⟩ : S36) = some (tot l) := by
  intro m
  induction m with
  | zero =>
    intro k j acc h0 hn hj hk
    obtain ⟨k, rfl⟩ : ∃ k', k = k' + 1 := ⟨k - 1, by omega⟩
    rw [louverref23qQ_Size.l0, if_neg (by simp; omega)]
    rw [List.drop_eq_nil_of_le (by omega)] at h0
    simp only [tot] at h0
    rw [← h0]
    simp
  | succ m ih =>
    intro k j acc h0 hn hj hk
    obtain ⟨k, rfl⟩ : ∃ k', k = k' + 1 := ⟨k - 1, by omega⟩
    have h1 := tot_drop l j (by omega)
    have h2 := tot_nn (l.drop (j + 1))
    rw [louverref23qQ_Size.l0, if_pos (by simp; omega), if_pos (by omega)]
    simp only
    rw [gt_map l j (by omega), toS_length, wi64 (by omega) (by omega), wi64 (by omega) (by omega)]
    exact ih k (j + 1) _ (by omega) (by omega) (by omega) (by omega)
theorem size_f (l : List (List Int)) (ht : tot l < 9223372036854775808) (hl : l.length ≤ 300) (a b : Int) (k : Nat) (hk : 300 < k) : louverref23qQ_Size.f k (⟨l.map toS, a, b⟩ : S36) = some (tot l) := by
  unfold louverref23qQ_Size.f
  exact size_l0 l ht hl a b l.length k 0 0 (by simp) (by omega) (by omega) (by omega)
/-- The twin. -/
def twin (q : S44) : S36 := ⟨q.f0.map toS, q.f2, q.f3⟩
theorem rfits_f (q : S44) (n : Int) (h : Qok q) (hl : q.f0.length ≤ 300) (k : Nat) (hk : 300 < k) : louverref23qQ_Fits.f k (twin q) n = some (decide ((q.f0.length : Int) < q.f2 ∧ n ≤ q.f3 - q.f1)) := by
  obtain ⟨a, b, c, d, e⟩ := h
  have := tot_nn q.f0
  unfold louverref23qQ_Fits.f twin
  simp only [List.length_map]
  by_cases h1 : (q.f0.length : Int) < q.f2
  · rw [if_pos h1, size_f q.f0 (by omega) hl _ _ k hk]
    simp only [bnd1]
    rw [wi64 (by omega) (by omega), c]
    simp [h1]
  · rw [if_neg h1]
    simp [h1]
theorem rpush_f (q : S44) (b : List Int) (h : Qok q) (hl : q.f0.length ≤ 300) (k : Nat) (hk : 300 < k) : louverref23qQ_Push.f k (twin q) (toS b) =
    some (if (q.f0.length : Int) < q.f2 ∧ (b.length : Int) ≤ q.f3 - q.f1 then (twin (⟨q.f0 ++ [b], q.f1 + b.length, q.f2, q.f3⟩ : S44), true) else (twin q, false)) := by
  unfold louverref23qQ_Push.f
  have e0 : (⟨(twin q).f0, (twin q).f1, (twin q).f2⟩ : S36) = twin q := rfl
  rw [e0, rfits_f q _ h hl k hk, toS_length]
  simp only [bnd1, lt1]
  have e1 : (twin q).f0.length = q.f0.length := by simp [twin]
  by_cases h1 : (q.f0.length : Int) < q.f2 ∧ (b.length : Int) ≤ q.f3 - q.f1
  · rw [if_pos (by simpa using h1), if_pos (by simp [e1]; omega), if_pos (by simp [e1]; omega), if_pos h1]
    simp [twin]
  · rw [if_neg (by simpa using h1), if_neg h1]
theorem plays_l0 (l : List S38) (hl : l.length ≤ 300) : ∀ (m k i : Nat) (q : S44), Qok q → q.f0.length ≤ i → i + m = l.length → 2 * m + 302 < k → louverlaw23qQueuePlays.l0 k q (twin q) i l = some true := by
  intro m
  induction m with
  | zero =>
    intro k i q hq h4 hi hk
    obtain ⟨k, rfl⟩ : ∃ k', k = k' + 1 := ⟨k - 1, by omega⟩
    rw [louverlaw23qQueuePlays.l0, if_neg (by omega), fixed_true]
    rfl
  | succ m ih =>
    intro k i q hq h4 hi hk
    obtain ⟨k, rfl⟩ : ∃ k', k = k' + 1 := ⟨k - 1, by omega⟩
    have key : ∀ q' : S44, Qok q' → q'.f0.length ≤ i + 1 → louverlaw23qQueuePlays.j1 k q' (twin q') l i = some true := by
      intro q' hq' h4'
      obtain ⟨k, rfl⟩ : ∃ k', k = k' + 1 := ⟨k - 1, by omega⟩
      have e0 : (⟨(twin q').f0, (twin q').f1, (twin q').f2⟩ : S36) = twin q' := rfl
      rw [louverlaw23qQueuePlays.j1, e0]
      unfold queue_Queue_Len.f queue_Queue_Bytes.f
      simp only [bnd1]
      have e1 : (twin q').f0.length = q'.f0.length := by simp [twin]
      have e2 : (twin q').f1 = q'.f2 := rfl
      have e3 : (twin q').f2 = q'.f3 := rfl
      obtain ⟨a, b, c, d, e⟩ := id hq'
      rw [e1, e2, e3, if_pos rfl]
      have := tot_nn q'.f0
      rw [show twin q' = (⟨q'.f0.map toS, q'.f2, q'.f3⟩ : S36) from rfl, size_f q'.f0 (by omega) (by omega) _ _ k (by omega)]
      simp only
      rw [if_pos c, if_neg (by omega), if_neg (by omega), wi64 (by omega) (by omega)]
      exact ih k (i + 1) q' hq' (by omega) (by omega) (by omega)
    rw [louverlaw23qQueuePlays.l0, if_pos (by omega), if_pos (by omega)]
    generalize gt z38 l (i : Int) = o
    by_cases hb : (o.f1.length : Int) > 1000
    · rw [if_pos hb, fixed_true]
      rfl
    rw [if_neg hb]
    have e0 : (⟨(twin q).f0, (twin q).f1, (twin q).f2⟩ : S36) = twin q := rfl
    rw [e0]
    by_cases h0 : o.f0 = 0
    · rw [if_pos h0, if_pos (by simp; omega)]
      simp only [lt1]
      rw [rpush_f q o.f1 hq (by omega) k (by omega), List.nil_append, push_f q o.f1 hq (by omega) (by omega)]
      by_cases h1 : (q.f0.length : Int) < q.f2 ∧ (o.f1.length : Int) ≤ q.f3 - q.f1
      · rw [if_pos h1, if_pos h1]
        simp only [bnd2]
        rw [if_neg (by simp)]
        exact key _ (pushed hq h1) (by simp; omega)
      · rw [if_neg h1, if_neg h1]
        simp only [bnd2]
        rw [if_neg (by simp)]
        exact key _ hq (by omega)
    rw [if_neg h0]
    by_cases h1 : o.f0 = 1
    · rw [if_pos h1]
      cases hf : q.f0 with
      | nil =>
        rw [pop_nil q hf]
        simp only [bnd3]
        have e1 : (twin q).f0 = [] := by simp [twin, hf]
        rw [if_neg (by simp [e1]), if_neg (by simp), if_pos (by simp)]
        exact key q hq (by omega)
      | cons x r =>
        rw [pop_cons q x r hf hq]
        simp only [bnd3]
        have e1 : (twin q).f0 = toS x :: r.map toS := by simp [twin, hf]
        rw [if_neg (by simp [e1]), if_pos (by simp), if_pos (by simp [e1]), if_pos (by rw [e1]; rfl), if_pos (by simp [e1]; omega)]
        have e2 : (⟨(twin q).f0.drop (1 : Int).toNat, (twin q).f1, (twin q).f2⟩ : S36) = twin (⟨r, q.f1 - x.length, q.f2, q.f3⟩ : S44) := by
          rw [e1]
          rfl
        rw [e2]
        refine key _ (popped hf hq) ?_
        rw [hf] at h4
        simp only [List.length_cons] at h4
        dsimp only
        omega
    rw [if_neg h1]
    by_cases h2 : o.f0 = 2
    · rw [if_pos h2, fits_f q _ hq, rfits_f q _ hq (by omega) k (by omega), mx_eq]
      simp only [bnd1]
      have e1 : max (0 : Int) o.f2 = max o.f2 0 := by omega
      rw [e1, if_neg (by simp)]
      exact key q hq (by omega)
    rw [if_neg h2]
    unfold queue_Queue_Clear.f
    simp only [bnd1, lt1]
    have e2 : (⟨[], (twin q).f1, (twin q).f2⟩ : S36) = twin (⟨[], 0, q.f2, q.f3⟩ : S44) := rfl
    rw [e2]
    obtain ⟨a, b, c, d, e⟩ := hq
    exact key _ ⟨a, b, rfl, b.1, by simpa using a.1⟩ (by simp)
theorem louverlaw23qQueuePlays_true (p0 p1 : Int) (p2 : List S38) (h0 : okI .i64 p0) (h1 : okI .i64 p1) (h2 : okL 40 ok38 p2) : ∃ k, louverlaw23qQueuePlays.f k p0 p1 p2 = some true := by
  rw [okI_i64] at h0 h1
  refine ⟨2000, ?_⟩
  unfold louverlaw23qQueuePlays.f
  by_cases hl : (p2.length : Int) > 300
  · rw [if_pos hl, fixed_true]
    rfl
  rw [if_neg hl, new_f]
  simp only [bnd1, mx_eq]
  have e3 : max 0 p0 = max p0 0 := by omega
  have e4 : max 0 p1 = max p1 0 := by omega
  rw [e3, e4]
  exact plays_l0 p2 (by omega) p2.length 2000 0 (⟨[], 0, max p0 0, max p1 0⟩ : S44) ⟨⟨by dsimp only; omega, by dsimp only; omega⟩, ⟨by dsimp only; omega, by dsimp only; omega⟩, rfl, by dsimp only; omega, by dsimp only; simp; omega⟩ (by simp) (by omega) (by omega)
end Go.Proofs.Ytfpeagbbbgeeeaa.Sl
