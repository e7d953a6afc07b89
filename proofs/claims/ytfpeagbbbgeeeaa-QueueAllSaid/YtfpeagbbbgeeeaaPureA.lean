/- Chapter 23, plain: the queue. -/
import Derived.Test.YtfpeagbbbgeeeaaCode1
import Derived.Test.YtfpeagbbbgeeeaaSlP
set_option linter.unusedVariables false
set_option linter.unusedSimpArgs false
namespace Go.Proofs.Ytfpeagbbbgeeeaa.Sl
open Go Go.Proofs.Sl

theorem mn_eq (x y : Int) : mnI x y = min x y := by unfold mnI; split <;> omega
theorem mx_eq (x y : Int) : mxI x y = max x y := by unfold mxI; split <;> omega
theorem fixed_true : louverlaw23qfixed.f = some true := by rfl
theorem louverlaw23qQueueNil_true (p0 : List Int) (p1 : Int) (h0 : okL 1 (okI .u8) p0) (h1 : okI .i64 p1) : louverlaw23qQueueNil.f p0 p1 = some true := by
  unfold louverlaw23qQueueNil.f queue_Queue_Pop_nil.f
  rw [fixed_true]
  simp [queue_Queue_Len_nil.f, queue_Queue_Clear_nil.f, queue_Queue_Push_nil.f, queue_Queue_Fits_nil.f, queue_Queue_Bytes_nil.f, bnd1, bnd2]
def tot : List (List Int) → Int
  | [] => 0
  | x :: l => x.length + tot l
theorem tot_nn : ∀ l, 0 ≤ tot l
  | [] => by simp [tot]
  | x :: l => by have := tot_nn l; simp only [tot]; omega
theorem tot_app (a b : List (List Int)) : tot (a ++ b) = tot a + tot b := by
  induction a with
  | nil => simp [tot]
  | cons x a ih => simp only [List.cons_append, tot, ih]; omega
structure Qok (q : S44) : Prop where
  a : 0 ≤ q.f2 ∧ q.f2 < 9223372036854775808
  b : 0 ≤ q.f3 ∧ q.f3 < 9223372036854775808
  c : q.f1 = tot q.f0
  d : q.f1 ≤ q.f3
  e : (q.f0.length : Int) ≤ q.f2
theorem new_f (a b : Int) : queue_New.f a b = some (⟨[], 0, max a 0, max b 0⟩ : S44) := by
  unfold queue_New.f
  rw [mx_eq, mx_eq]
theorem fits_f (q : S44) (n : Int) (h : Qok q) : queue_Queue_Fits.f q n = some (decide ((q.f0.length : Int) < q.f2 ∧ max n 0 ≤ q.f3 - q.f1)) := by
  obtain ⟨a, b, c, d, e⟩ := h
  have := tot_nn q.f0
  unfold queue_Queue_Fits.f
  rw [mx_eq, wi64 (by omega) (by omega)]
  by_cases h1 : (q.f0.length : Int) < q.f2
  · rw [if_pos h1]
    simp [h1]
  · rw [if_neg h1]
    simp [h1]
theorem clone_f {p : List Int} (h : p.length ≤ 140737488355328) : bytes_Clone.f p = some p := by
  unfold bytes_Clone.f
  rw [if_pos (by simpa using h)]
  rfl
theorem push_f (q : S44) (b : List Int) (h : Qok q) (hb : b.length ≤ 1000) (hl : q.f0.length ≤ 300) : queue_Queue_Push.f q b = some (if (q.f0.length : Int) < q.f2 ∧ (b.length : Int) ≤ q.f3 - q.f1 then (true, (⟨q.f0 ++ [b], q.f1 + b.length, q.f2, q.f3⟩ : S44)) else (false, q)) := by
  obtain ⟨a, b', c, d, e⟩ := id h
  have := tot_nn q.f0
  unfold queue_Queue_Push.f
  rw [fits_f q _ h]
  have e1 : max (b.length : Int) 0 = b.length := by omega
  rw [e1, clone_f (by omega)]
  simp only [bnd1, lt1]
  by_cases h1 : (q.f0.length : Int) < q.f2 ∧ (b.length : Int) ≤ q.f3 - q.f1
  · rw [if_pos (by simpa using h1), if_pos (by omega), if_pos h1, wi64 (by omega) (by omega)]
  · rw [if_neg (by simpa using h1), if_neg h1]
theorem pushed {q : S44} {b : List Int} (h : Qok q) (h1 : (q.f0.length : Int) < q.f2 ∧ (b.length : Int) ≤ q.f3 - q.f1) : Qok (⟨q.f0 ++ [b], q.f1 + b.length, q.f2, q.f3⟩ : S44) := by
  obtain ⟨a, b', c, d, e⟩ := h
  refine ⟨a, b', ?_, ?_, ?_⟩
  · dsimp only
    rw [tot_app, c]
    simp [tot]
  · dsimp only
    omega
  · dsimp only
    simp
    omega
theorem pop_nil (q : S44) (h : q.f0 = []) : queue_Queue_Pop.f q = some ([], false, q) := by
  unfold queue_Queue_Pop.f queue_Queue_Len.f
  simp [bnd1, h]
theorem pop_cons (q : S44) (x : List Int) (l : List (List Int)) (h : q.f0 = x :: l) (hq : Qok q) : queue_Queue_Pop.f q = some (x, true, (⟨l, q.f1 - x.length, q.f2, q.f3⟩ : S44)) := by
  obtain ⟨a, b, c, d, e⟩ := hq
  unfold queue_Queue_Pop.f queue_Queue_Len.f
  have h2 := tot_nn l
  rw [h] at c
  simp only [tot] at c
  simp only [bnd1, lt1, h]
  have e1 : gt [] (x :: l) (0 : Int) = x := rfl
  rw [if_neg (by simp; omega), if_pos (by simp), if_pos (by simp; omega), e1, wi64 (by omega) (by omega)]
  simp
theorem popped {q : S44} {x : List Int} {l : List (List Int)} (h : q.f0 = x :: l) (hq : Qok q) : Qok (⟨l, q.f1 - x.length, q.f2, q.f3⟩ : S44) := by
  obtain ⟨a, b, c, d, e⟩ := hq
  rw [h] at c e
  simp only [tot, List.length_cons] at c e
  refine ⟨a, b, ?_, ?_, ?_⟩
  · dsimp only
    omega
  · dsimp only
    omega
  · dsimp only
    omega
/-! QueueAll -/
theorem gt_drop (l : List (List Int)) (j : Nat) (h : j < l.length) : l.drop j = gt [] l (j : Int) :: l.drop (j + 1) := by
  rw [List.drop_eq_getElem_cons h]
  congr 1
  simp [gt, List.getD_eq_getElem?_getD, h]
theorem all_l1 (most size : Int) (hm : 0 ≤ most ∧ most < 256) (hs : 0 ≤ size ∧ size < 256) (inn : List (List Int)) (hl : inn.length ≤ 300) : ∀ (m k j : Nat) (q : S44), Qok q → q.f0 = inn.drop j → q.f2 = most → q.f3 = 8 * size → j + m = inn.length → m < k →
    louverlaw23qQueueAll.l1 k q j most size inn = some true := by
  intro m
  induction m with
  | zero =>
    intro k j q hq h0 h2 h3 hj hk
    obtain ⟨k, rfl⟩ : ∃ k', k = k' + 1 := ⟨k - 1, by omega⟩
    have hn : q.f0 = [] := by rw [h0]; exact List.drop_eq_nil_of_le (by omega)
    rw [louverlaw23qQueueAll.l1, if_neg (by omega), pop_nil q hn, fixed_true]
    simp only [bnd1, bnd3, queue_Queue_Bytes.f]
    have hc := hq.c
    rw [hn] at hc
    simp only [tot] at hc
    rw [fits_f q _ hq, wi64 (by rw [wi64] <;> omega) (by rw [wi64] <;> omega), wi64 (by omega) (by omega), hn, h2, h3, hc]
    have e1 : max (size * 8) 0 ≤ 8 * size - 0 := by omega
    simp [e1]
    omega
  | succ m ih =>
    intro k j q hq h0 h2 h3 hj hk
    obtain ⟨k, rfl⟩ : ∃ k', k = k' + 1 := ⟨k - 1, by omega⟩
    have hd := gt_drop inn j (by omega)
    rw [hd] at h0
    rw [louverlaw23qQueueAll.l1, if_pos (by omega), if_pos (by omega), pop_cons q _ _ h0 hq]
    simp only [bnd3]
    rw [if_pos trivial, if_pos trivial, wi64 (by omega) (by omega)]
    exact ih k (j + 1) _ (popped h0 hq) rfl h2 h3 (by omega) (by omega)
theorem all_l0 (most size : Int) (hm : 0 ≤ most ∧ most < 256) (hs : 0 ≤ size ∧ size < 256) (l : List (List Int)) (hl : l.length ≤ 300) : ∀ (m k i : Nat) (q : S44) (n : Int), Qok q → q.f1 = n → q.f2 = most → q.f3 = 8 * size → q.f0.length ≤ i → i + m = l.length → m + 302 < k →
    louverlaw23qQueueAll.l0 k q q.f0 n i most size l = some true := by
  intro m
  induction m with
  | zero =>
    intro k i q n hq h1 h2 h3 h4 hi hk
    obtain ⟨k, rfl⟩ : ∃ k', k = k' + 1 := ⟨k - 1, by omega⟩
    rw [louverlaw23qQueueAll.l0, if_neg (by omega)]
    exact all_l1 most size hm hs q.f0 (by omega) q.f0.length k 0 q hq rfl h2 h3 (by omega) (by omega)
  | succ m ih =>
    intro k i q n hq h1 h2 h3 h4 hi hk
    obtain ⟨k, rfl⟩ : ∃ k', k = k' + 1 := ⟨k - 1, by omega⟩
    rw [louverlaw23qQueueAll.l0, if_pos (by omega), if_pos (by omega)]
    generalize gt [] l (i : Int) = b
    by_cases hb : (b.length : Int) > 1000
    · rw [if_pos hb, fixed_true]
      rfl
    rw [if_neg hb]
    have hc := tot_nn q.f0
    have hcc := hq.c
    have hdd := hq.d
    have e1 : IntKind.i64.wrap most = most := wi64 (by omega) (by omega)
    have e2 : IntKind.i64.wrap (IntKind.i64.wrap size * 8) = 8 * size := by rw [wi64 (by rw [wi64] <;> omega) (by rw [wi64] <;> omega), wi64 (by omega) (by omega)]; omega
    have e3 : IntKind.i64.wrap (n + b.length) = n + b.length := wi64 (by omega) (by omega)
    have e4 : IntKind.i64.wrap ((i : Int) + 1) = ((i + 1 : Nat) : Int) := by rw [wi64 (by omega) (by omega)]; omega
    simp only [e1, e2, e3, e4]
    rw [fits_f q _ hq, push_f q b hq (by omega) (by omega)]
    have e5 : max (b.length : Int) 0 = b.length := by omega
    rw [e5, h2, h3, h1]
    simp only [bnd1, bnd2]
    by_cases hf : (q.f0.length : Int) < most
    · rw [if_pos hf]
      by_cases hg : n + (b.length : Int) ≤ 8 * size
      · have hg2 : (b.length : Int) ≤ 8 * size - n := by omega
        rw [if_pos (c := (q.f0.length : Int) < most ∧ (b.length : Int) ≤ 8 * size - n) ⟨hf, hg2⟩]
        simp only [hf, hg, hg2, and_self, decide_true, bne_self_eq_false, Bool.false_eq_true, if_false, if_true]
        rw [if_pos (by omega)]
        simp only [lt1]
        have := ih k (i + 1) (⟨q.f0 ++ [b], n + b.length, q.f2, q.f3⟩ : S44) (n + b.length) (h1 ▸ pushed hq (by rw [h2, h3, h1]; exact ⟨hf, hg2⟩)) rfl h2 h3 (by simp; omega) (by omega) (by omega)
        rw [h2, h3] at this
        exact this
      · have hg2 : ¬ (b.length : Int) ≤ 8 * size - n := by omega
        rw [if_neg (c := (q.f0.length : Int) < most ∧ (b.length : Int) ≤ 8 * size - n) (fun h => hg2 h.2)]
        simp only [hf, hg, hg2, and_false, decide_false, bne_self_eq_false, Bool.false_eq_true, if_false]
        exact ih k (i + 1) q n hq h1 h2 h3 (by omega) (by omega) (by omega)
    · rw [if_neg hf, if_neg (c := (q.f0.length : Int) < most ∧ (b.length : Int) ≤ 8 * size - n) (fun h => hf h.1)]
      simp only [hf, false_and, decide_false, bne_self_eq_false, Bool.false_eq_true, if_false]
      exact ih k (i + 1) q n hq h1 h2 h3 (by omega) (by omega) (by omega)
theorem louverlaw23qQueueAll_true (p0 p1 : Int) (p2 : List (List Int)) (h0 : okI .u8 p0) (h1 : okI .u8 p1) (h2 : okL 24 (okL 1 (okI .u8)) p2) : ∃ k, louverlaw23qQueueAll.f k p0 p1 p2 = some true := by
  rw [okI_u8] at h0 h1
  refine ⟨1000, ?_⟩
  unfold louverlaw23qQueueAll.f
  by_cases hl : (p2.length : Int) > 300
  · rw [if_pos hl, fixed_true]
    rfl
  rw [if_neg hl, new_f]
  simp only [bnd1]
  have e1 : IntKind.i64.wrap p0 = p0 := wi64 (by omega) (by omega)
  have e2 : IntKind.i64.wrap (IntKind.i64.wrap p1 * 8) = 8 * p1 := by rw [wi64 (by rw [wi64] <;> omega) (by rw [wi64] <;> omega), wi64 (by omega) (by omega)]; omega
  rw [e1, e2]
  have e3 : max p0 0 = p0 := by omega
  have e4 : max (8 * p1) 0 = 8 * p1 := by omega
  rw [e3, e4]
  exact all_l0 p0 p1 h0 h1 p2 (by omega) p2.length 1000 0 (⟨[], 0, p0, 8 * p1⟩ : S44) 0 ⟨⟨by dsimp only; omega, by dsimp only; omega⟩, ⟨by dsimp only; omega, by dsimp only; omega⟩, rfl, by dsimp only; omega, by dsimp only; simp; omega⟩ rfl rfl rfl (by simp) (by omega) (by omega)
end Go.Proofs.Ytfpeagbbbgeeeaa.Sl
