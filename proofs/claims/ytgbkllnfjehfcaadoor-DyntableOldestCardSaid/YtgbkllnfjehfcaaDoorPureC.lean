/- Chapter 05, plain: the laws. -/
import Derived.Test.YtgbkllnfjehfcaaDoorPureB
set_option linter.unusedVariables false
set_option linter.unusedSimpArgs false
namespace Go.Proofs.YtgbkllnfjehfcaaDoor.Sl
open Go Go.Proofs.Sl

def okOp43 (x : S43) : Prop := okI .i64 x.f0 ∧ okF x.f1 ∧ okI .u32 x.f2 ∧ okI .i64 x.f3
theorem lgreat_l0 (p : List S43) (hp : p.length ≤ 2199023255552) : ∀ (m k i : Nat) (out : List S29), i + m = p.length → out.length = i → m + p.length + 1 < k → ∃ r, louverlaw05qgreat.l0 k out i p = some r := by
  intro m
  induction m with
  | zero =>
    intro k i out hi ho hk
    obtain ⟨k, rfl⟩ : ∃ k', k = k' + 1 := ⟨k - 1, by omega⟩
    rw [louverlaw05qgreat.l0, if_neg (by omega)]
    by_cases hl : (p.length : Int) > 200
    · rw [if_pos hl]
      exact ⟨_, rfl⟩
    · rw [if_neg hl]
      obtain ⟨r, hr⟩ := great_f out (by omega) k (by omega)
      rw [hr]
      exact ⟨_, rfl⟩
  | succ m ih =>
    intro k i out hi ho hk
    obtain ⟨k, rfl⟩ : ∃ k', k = k' + 1 := ⟨k - 1, by omega⟩
    rw [louverlaw05qgreat.l0, if_pos (by omega), if_pos (by omega), if_pos (by omega)]
    simp only [lt1]
    rw [wi64 (by omega) (by omega), show (i : Int) + 1 = ((i + 1 : Nat) : Int) by omega]
    exact ih k (i + 1) _ (by omega) (by simp [ho]) (by omega)
theorem twin_eta (t : S51) : (⟨(twin t).f0, (twin t).f1⟩ : S41) = twin t := rfl
theorem new_f (m : Int) (h : 0 ≤ m ∧ m < 4294967296) : dyntable_New.f m = some (tb [] m) := by
  unfold dyntable_New.f
  rw [wi64 (by omega) (by omega)]
  rfl
theorem nil_ok {m : Int} (h : 0 ≤ m ∧ m < 4294967296) : Tok (tb [] m) := tb_ok (by simp only [tsz]; omega) h
theorem same_dec (r : S29) : (decide (r.f0 = r.f0) && (decide (r.f1 = r.f1) && decide (r.f2 = r.f2))) = true := by simp
theorem plays_l2 (t : S51) (h : Tok t) : ∀ (m k i : Nat), i + m = t.f0.length → m + 200 < k → louverlaw05qDyntablePlays.l2 k i t (twin t) = some true := by
  have hlen := h.len
  have e0 : (twin t).f0.length = t.f0.length := by simp [twin]
  intro m
  induction m with
  | zero =>
    intro k i hi hk
    obtain ⟨k, rfl⟩ : ∃ k', k = k' + 1 := ⟨k - 1, by omega⟩
    rw [louverlaw05qDyntablePlays.l2, if_neg (by omega), fixed_true _ (by omega)]
    rfl
  | succ m ih =>
    intro k i hi hk
    obtain ⟨k, rfl⟩ : ∃ k', k = k' + 1 := ⟨k - 1, by omega⟩
    have e1 : IntKind.i64.wrap (62 + (i : Int)) = ((62 + i : Nat) : Int) := by rw [wi64 (by omega) (by omega)]; omega
    rw [louverlaw05qDyntablePlays.l2, if_pos (by omega), e1, at_hi t i (by omega) hlen]
    simp only [bnd2]
    rw [if_pos trivial, if_pos (by omega), wi64 (by omega) (by omega), show (i : Int) + 1 = ((i + 1 : Nat) : Int) by omega]
    have e2 : (twin t).f0 = t.f0.reverse := rfl
    rw [e2, if_pos (same_dec _)]
    exact ih k (i + 1) (by omega) (by omega)
theorem plays_l0 (p : List S43) (hp : p.length ≤ 2199023255552) (hok : ∀ x ∈ p, okOp43 x) : ∀ (m k i : Nat) (t : S51), Tok t → i + m = p.length → 2 * m + 268436000 < k → louverlaw05qDyntablePlays.l0 k t (twin t) i p = some true := by
  intro m
  induction m with
  | zero =>
    intro k i t ht hi hk
    obtain ⟨k, rfl⟩ : ∃ k', k = k' + 1 := ⟨k - 1, by omega⟩
    rw [louverlaw05qDyntablePlays.l0, if_neg (by omega)]
    have := ht.len
    exact plays_l2 t ht t.f0.length k 0 (by omega) (by omega)
  | succ m ih =>
    intro k i t ht hi hk
    obtain ⟨k, rfl⟩ : ∃ k', k = k' + 1 := ⟨k - 1, by omega⟩
    have key : ∀ t' : S51, Tok t' → louverlaw05qDyntablePlays.j1 k t' (twin t') p i = some true := by
      intro t' ht'
      obtain ⟨k, rfl⟩ : ∃ k', k = k' + 1 := ⟨k - 1, by omega⟩
      have h1 := ht'.le
      rw [louverlaw05qDyntablePlays.j1, twin_eta, tsize_f t' ht' k (by omega)]
      unfold dyntable_Table_Size.f dyntable_Table_Len.f dyntable_Table_Most.f
      simp only [bnd1]
      have e0 : ((twin t').f0.length : Int) = t'.f0.length := by simp [twin]
      have e1 : (twin t').f1 = t'.f2 := rfl
      rw [e0, e1, if_pos trivial, if_pos rfl, if_pos rfl, if_neg (by omega), wi64 (by omega) (by omega), show (i : Int) + 1 = ((i + 1 : Nat) : Int) by omega]
      exact ih k (i + 1) t' ht' (by omega) (by omega)
    have hx : okOp43 (gt z43 p (i : Int)) := by
      have e : gt z43 p (i : Int) = p[i] := by simp [gt, List.getD_eq_getElem?_getD, show i < p.length by omega]
      rw [e]
      exact hok _ (List.getElem_mem _)
    rw [louverlaw05qDyntablePlays.l0, if_pos (by omega), if_pos (by omega)]
    revert hx
    generalize gt z43 p (i : Int) = o
    intro hx
    obtain ⟨x0, x1, x2, x3⟩ := hx
    rw [okI_u32] at x2
    have hm := ht.mo
    simp only [twin_eta, eta]
    by_cases h0 : o.f0 = 0
    · rw [if_pos h0, add_f t o.f1 ht x1 k (by omega), radd_f t o.f1 ht x1 k (by omega)]
      simp only [bnd1, twin_eta]
      exact key _ (tb_ok (addL_le _ _ hm.1) hm)
    rw [if_neg h0]
    by_cases h1 : o.f0 = 1
    · rw [if_pos h1, limit_f t o.f2 ht x2 k (by omega), wi64 (by omega) (by omega), rlimit_f t o.f2 ht k (by omega)]
      simp only [bnd1, twin_eta]
      exact key _ (tb_ok (keep_le0 _ x2.1) x2)
    rw [if_neg h1]
    by_cases h2 : o.f0 = 2
    · rw [if_pos h2]
      obtain ⟨r, ok, e1, e2⟩ := tat_eq t o.f3 x3 ht.len
      rw [e1, e2]
      simp only [bnd2, decide_true, Bool.and_self, if_true, bne_self_eq_false, Bool.false_eq_true, if_false]
      exact key t ht
    · rw [if_neg h2]
      obtain ⟨n, ok, e1, e2⟩ := find_same t o.f1.f0 o.f1.f1 ht.len k (by omega)
      rw [e1, e2]
      simp only [bnd2]
      rw [if_pos trivial, if_neg (by simp)]
      exact key t ht
theorem louverlaw05qDyntablePlays_true (p0 : Int) (p1 : List S43) (h0 : okI .u32 p0) (h1 : okL 64 okOp43 p1) : ∃ k, louverlaw05qDyntablePlays.f k p0 p1 = some true := by
  rw [okI_u32] at h0
  have hl : p1.length ≤ 2199023255552 := by have := h1.1; omega
  obtain ⟨K, hK⟩ : ∃ K, K = 2 * p1.length + 1073741824 := ⟨_, rfl⟩
  refine ⟨K, ?_⟩
  unfold louverlaw05qDyntablePlays.f louverlaw05qgreat.f
  obtain ⟨r, hr⟩ := lgreat_l0 p1 hl p1.length K 0 [] (by omega) rfl (by omega)
  have hr' : louverlaw05qgreat.l0 K [] 0 p1 = some r := hr
  rw [hr', new_f p0 (by omega)]
  simp only [bnd1]
  by_cases hc : r = true
  · rw [if_pos hc, fixed_true _ (by omega)]
  · rw [if_neg hc, wi64 (by omega) (by omega)]
    exact plays_l0 p1 hl h1.2 p1.length _ 0 (tb [] p0) (nil_ok (by omega)) (by omega) (by omega)
/-! the oldest go -/
theorem oldest_l1 (p0 : Int) (p2 : List S29) (hp : p2.length ≤ 200) (h0 : 0 ≤ p0 ∧ p0 < 4294967296) (t : S51) (ht : Tok t) (size : Int) (hs : size = t.f1) (hsz : size ≤ p0) (hsuf : t.f0 <:+ p2.map strip) : ∀ (m k i : Nat), i + m = t.f0.length → m + 134218000 < k →
    louverlaw05qDyntableOldest.l1 k i p0 p2 size t t.f0.length = some true := by
  have hlen := ht.len
  have hl2 : t.f0.length ≤ p2.length := by have := hsuf.length_le; simpa using this
  intro m
  induction m with
  | zero =>
    intro k i hi hk
    obtain ⟨k, rfl⟩ : ∃ k', k = k' + 1 := ⟨k - 1, by omega⟩
    rw [louverlaw05qDyntableOldest.l1, if_neg (by omega), limit_f t 0 ht (by omega) k (by omega), fixed_true _ (by omega), keep_none t.f0 (lim := 0) (by omega)]
    unfold dyntable_Table_Len.f dyntable_Table_Size.f
    simp only [bnd1, if_true, tb, List.length_nil, tsz]
    rw [if_pos (by simp), wi64 (by omega) (by omega), if_pos hsz]
    have h1 := tsz_lo t.f0
    have h2 := ht.sz
    have e : ((t.f0.length : Int) = 0) ↔ (size = 0) := by
      constructor
      · intro h
        have : t.f0 = [] := List.eq_nil_of_length_eq_zero (by omega)
        rw [hs, h2, this]
        rfl
      · intro h
        omega
    have e2 : decide ((t.f0.length : Int) = 0) = decide (size = 0) := decide_eq_decide.2 e
    rw [e2]
    simp
  | succ m ih =>
    intro k i hi hk
    obtain ⟨k, rfl⟩ : ∃ k', k = k' + 1 := ⟨k - 1, by omega⟩
    have e1 : IntKind.i64.wrap (62 + (i : Int)) = ((62 + i : Nat) : Int) := by rw [wi64 (by omega) (by omega)]; omega
    have e2 : IntKind.i64.wrap (IntKind.i64.wrap ((p2.length : Int) - 1) - (i : Int)) = ((p2.length - 1 - i : Nat) : Int) := by
      rw [wi64 (by rw [wi64] <;> omega) (by rw [wi64] <;> omega), wi64 (by omega) (by omega)]
      omega
    rw [louverlaw05qDyntableOldest.l1, if_pos (by omega), e1, at_hi t i (by omega) hlen, e2]
    simp only [bnd2]
    have e3 : gt z29 t.f0.reverse (i : Int) = strip (gt z29 p2 ((p2.length - 1 - i : Nat) : Int)) := by
      obtain ⟨q, hq⟩ := hsuf
      have hql : q.length + t.f0.length = p2.length := by
        have := congrArg List.length hq
        simpa using this
      rw [gt_rev _ _ (by omega), gt_nat z29 t.f0 _ (by omega), gt_nat z29 p2 _ (by omega)]
      have h1 : (p2.map strip)[p2.length - 1 - i]? = some (strip p2[p2.length - 1 - i]) := by rw [List.getElem?_map, List.getElem?_eq_getElem (by omega)]; rfl
      rw [← hq, List.getElem?_append_right (by omega)] at h1
      have h2 : p2.length - 1 - i - q.length = t.f0.length - 1 - i := by omega
      rw [h2, List.getElem?_eq_getElem (by omega)] at h1
      exact Option.some.inj h1
    rw [e3, if_pos (by omega), if_pos (by omega), if_pos trivial, if_pos (show (strip (gt z29 p2 ((p2.length - 1 - i : Nat) : Int))).f0 = (gt z29 p2 ((p2.length - 1 - i : Nat) : Int)).f0 from rfl), if_pos (show (strip (gt z29 p2 ((p2.length - 1 - i : Nat) : Int))).f1 = (gt z29 p2 ((p2.length - 1 - i : Nat) : Int)).f1 from rfl), if_neg (by simp [strip]), wi64 (by omega) (by omega), show (i : Int) + 1 = ((i + 1 : Nat) : Int) by omega]
    exact ih k (i + 1) (by omega) (by omega)
theorem suf_snoc {a b : List S29} (x : S29) (h : a <:+ b) : a ++ [x] <:+ b ++ [x] := by
  obtain ⟨q, rfl⟩ := h
  exact ⟨q, by simp⟩
theorem addL_suf {l l' : List S29} {most : Int} (f : S29) (h : l <:+ l') : addL l most f <:+ l' ++ [strip f] := by
  unfold addL
  split
  · exact List.nil_suffix
  · exact suf_snoc _ ((keep_suf l _).trans h)
theorem oldest_l0 (p0 p1 : Int) (p2 : List S29) (hp : p2.length ≤ 200) (hok : ∀ x ∈ p2, okF x) (h0 : 0 ≤ p0 ∧ p0 < 4294967296) (h1 : 0 ≤ p1 ∧ p1 < 4294967296) : ∀ (m k i : Nat) (l : List S29), Tok (tb l p0) → l <:+ (p2.take i).map strip → i + m = p2.length → m + 268436000 < k →
    louverlaw05qDyntableOldest.l0 k (tb l p0) i p0 p1 p2 = some true := by
  intro m
  induction m with
  | zero =>
    intro k i l ht hsuf hi hk
    obtain ⟨k, rfl⟩ : ∃ k', k = k' + 1 := ⟨k - 1, by omega⟩
    have hl : l.length ≤ p2.length := by have := hsuf.length_le; simp at this; omega
    rw [List.take_of_length_le (by omega)] at hsuf
    have hle := ht.le
    have e1 : keep (tb l p0).f0 (max p0 p1) = l := keep_all (by show tsz l ≤ _; have : tsz l ≤ p0 := hle; omega)
    rw [louverlaw05qDyntableOldest.l0, if_neg (by omega), mx_eq, limit_f _ _ ht (by omega) k (by omega), e1]
    unfold dyntable_Table_Len.f dyntable_Table_Size.f
    simp only [bnd1]
    rw [if_neg (by show ¬ ((l.length : Int) > _); omega)]
    have ht2 : Tok (tb l (max p0 p1)) := tb_ok (by have : tsz l ≤ p0 := hle; omega) (by omega)
    exact oldest_l1 p0 p2 hp h0 (tb l (max p0 p1)) ht2 _ rfl hle hsuf l.length k 0 (by simp [tb]) (by omega)
  | succ m ih =>
    intro k i l ht hsuf hi hk
    obtain ⟨k, rfl⟩ : ∃ k', k = k' + 1 := ⟨k - 1, by omega⟩
    have e : gt z29 p2 (i : Int) = p2[i] := gt_nat z29 p2 i (by omega)
    rw [louverlaw05qDyntableOldest.l0, if_pos (by omega), if_pos (by omega), eta, add_f _ _ ht (by rw [e]; exact hok _ (List.getElem_mem _)) k (by omega)]
    simp only [bnd1]
    rw [wi64 (by omega) (by omega), show (i : Int) + 1 = ((i + 1 : Nat) : Int) by omega]
    refine ih k (i + 1) _ (tb_ok (addL_le _ _ h0.1) h0) ?_ (by omega) (by omega)
    rw [List.take_succ_eq_append_getElem (by omega), List.map_append, e]
    exact addL_suf _ hsuf
theorem louverlaw05qDyntableOldest_true (p0 p1 : Int) (p2 : List S29) (h0 : okI .u32 p0) (h1 : okI .u32 p1) (h2 : okL 40 okF p2) : ∃ k, louverlaw05qDyntableOldest.f k p0 p1 p2 = some true := by
  rw [okI_u32] at h0 h1
  have hl : p2.length ≤ 4398046511104 := by have := h2.1; omega
  obtain ⟨K, hK⟩ : ∃ K, K = p2.length + 1073741824 := ⟨_, rfl⟩
  refine ⟨K, ?_⟩
  unfold louverlaw05qDyntableOldest.f
  obtain ⟨r, hr⟩ := great_f p2 (by omega) K (by omega)
  rw [hr, new_f p0 (by omega), fixed_true _ (by omega)]
  simp only [bnd1]
  by_cases hc : r = true
  · rw [if_pos hc]
  · rw [if_neg hc]
    by_cases hg : (p2.length : Int) > 200
    · rw [if_pos hg]
    · rw [if_neg hg]
      exact oldest_l0 p0 p1 p2 (by omega) h2.2 (by omega) (by omega) p2.length _ 0 [] (nil_ok (by omega)) (by simp) (by omega) (by omega)
/-! the same -/
theorem addL_mono {l l' : List S29} {m m' : Int} (f : S29) (h : l <:+ l') (hm : m ≤ m') : addL l m f <:+ addL l' m' f := by
  unfold addL
  by_cases h1 : fsz f > m
  · rw [if_pos h1]
    exact List.nil_suffix
  · rw [if_neg h1, if_neg (by omega)]
    exact suf_snoc _ (keep_mono h (by omega))
theorem same_l1 (a c : S51) (ha : Tok a) (hc : Tok c) (hsuf : a.f0 <:+ c.f0) : ∀ (m k i : Nat), i + m = a.f0.length → m + 200 < k → louverlaw05qDyntableSame.l1 k i a.f0.length a a c = some true := by
  have hl1 := ha.len
  have hl2 := hc.len
  have hl3 := hsuf.length_le
  intro m
  induction m with
  | zero =>
    intro k i hi hk
    obtain ⟨k, rfl⟩ : ∃ k', k = k' + 1 := ⟨k - 1, by omega⟩
    rw [louverlaw05qDyntableSame.l1, if_neg (by omega), fixed_true _ (by omega)]
    rfl
  | succ m ih =>
    intro k i hi hk
    obtain ⟨k, rfl⟩ : ∃ k', k = k' + 1 := ⟨k - 1, by omega⟩
    have e1 : IntKind.i64.wrap (62 + (i : Int)) = ((62 + i : Nat) : Int) := by rw [wi64 (by omega) (by omega)]; omega
    rw [louverlaw05qDyntableSame.l1, if_pos (by omega), e1, at_hi a i (by omega) hl1, at_hi c i (by omega) hl2]
    simp only [bnd2]
    have e2 : gt z29 c.f0.reverse (i : Int) = gt z29 a.f0.reverse (i : Int) := by
      obtain ⟨q, hq⟩ := hsuf
      have hr : c.f0.reverse = a.f0.reverse ++ q.reverse := by rw [← hq, List.reverse_append]
      rw [gt_nat z29 c.f0.reverse i (by simp; omega), gt_nat z29 a.f0.reverse i (by simp; omega)]
      have : c.f0.reverse[i]? = a.f0.reverse[i]? := by rw [hr, List.getElem?_append_left (by simp; omega)]
      rw [List.getElem?_eq_getElem (by simp; omega), List.getElem?_eq_getElem (by simp; omega)] at this
      exact Option.some.inj this
    rw [e2]
    simp only [decide_true, Bool.and_self, if_true]
    rw [wi64 (by omega) (by omega), show (i : Int) + 1 = ((i + 1 : Nat) : Int) by omega]
    exact ih k (i + 1) (by omega) (by omega)
theorem same_l0 (p2 : List S29) (hp : p2.length ≤ 200) (hok : ∀ x ∈ p2, okF x) (p0 p1 : Int) (h0 : 0 ≤ p0 ∧ p0 < 4294967296) (h1 : 0 ≤ p1 ∧ p1 < 4294967296) (hle : p0 ≤ p1) : ∀ (m k i : Nat) (l l' : List S29), Tok (tb l p0) → Tok (tb l' p1) → l <:+ l' → i + m = p2.length → m + 268436000 < k →
    louverlaw05qDyntableSame.l0 k (tb l p0) (tb l p0) (tb l' p1) i p2 = some true := by
  intro m
  induction m with
  | zero =>
    intro k i l l' ht ht' hsuf hi hk
    obtain ⟨k, rfl⟩ : ∃ k', k = k' + 1 := ⟨k - 1, by omega⟩
    have hl3 := hsuf.length_le
    have hl1 := ht.len
    rw [louverlaw05qDyntableSame.l0, if_neg (by omega)]
    unfold dyntable_Table_Len.f
    simp only [bnd1]
    rw [if_pos trivial, if_neg (by simp only [tb]; omega)]
    exact same_l1 _ _ ht ht' hsuf l.length k 0 (by simp [tb]) (by have : l.length ≤ 134217728 := hl1; omega)
  | succ m ih =>
    intro k i l l' ht ht' hsuf hi hk
    obtain ⟨k, rfl⟩ : ∃ k', k = k' + 1 := ⟨k - 1, by omega⟩
    have e : gt z29 p2 (i : Int) = p2[i] := gt_nat z29 p2 i (by omega)
    have hf : okF (gt z29 p2 (i : Int)) := by rw [e]; exact hok _ (List.getElem_mem _)
    obtain ⟨n, ok, e1, _⟩ := find_same (tb l p0) (gt z29 p2 (i : Int)).f0 (gt z29 p2 (i : Int)).f1 ht.len k (by omega)
    rw [louverlaw05qDyntableSame.l0, if_pos (by omega), if_pos (by omega), eta, add_f _ _ ht hf k (by omega), add_f _ _ ht' hf k (by omega), e1]
    simp only [bnd1, bnd2]
    rw [wi64 (by omega) (by omega), show (i : Int) + 1 = ((i + 1 : Nat) : Int) by omega]
    exact ih k (i + 1) _ _ (tb_ok (addL_le _ _ h0.1) h0) (tb_ok (addL_le _ _ h1.1) h1) (addL_mono _ hsuf hle) (by omega) (by omega)
theorem louverlaw05qDyntableSame_true (p0 p1 : Int) (p2 : List S29) (h0 : okI .u32 p0) (h1 : okI .u32 p1) (h2 : okL 40 okF p2) : ∃ k, louverlaw05qDyntableSame.f k p0 p1 p2 = some true := by
  rw [okI_u32] at h0 h1
  have hl : p2.length ≤ 4398046511104 := by have := h2.1; omega
  obtain ⟨K, hK⟩ : ∃ K, K = p2.length + 1073741824 := ⟨_, rfl⟩
  refine ⟨K, ?_⟩
  unfold louverlaw05qDyntableSame.f
  obtain ⟨r, hr⟩ := great_f p2 (by omega) K (by omega)
  rw [hr, new_f p0 (by omega), mx_eq, new_f (max p0 p1) (by omega), fixed_true _ (by omega)]
  simp only [bnd1]
  by_cases hc : r = true
  · rw [if_pos hc]
  · rw [if_neg hc]
    by_cases hg : (p2.length : Int) > 200
    · rw [if_pos hg]
    · rw [if_neg hg]
      exact same_l0 p2 (by omega) h2.2 p0 (max p0 p1) (by omega) (by omega) (by omega) p2.length _ 0 [] [] (nil_ok (by omega)) (nil_ok (by omega)) (List.suffix_refl _) (by omega) (by omega)
/-! nil -/
theorem louverlaw05qDyntableNil_true (p0 : S29) (p1 : Int) (h0 : okF p0) (h1 : okI .i64 p1) : ∃ k, louverlaw05qDyntableNil.f k p0 p1 = some true := by
  obtain ⟨K, hK⟩ : ∃ K : Nat, K = 1073741824 := ⟨_, rfl⟩
  refine ⟨K, ?_⟩
  have hs := fsz_hi h0
  obtain ⟨r, hr⟩ := great_f [p0] (by simp) K (by simp; omega)
  have hf := rtfind_f [] 0 p0.f0 p0.f1 (by simp) K (by omega)
  have ha : ∃ x ok, dyntable_Table_At_nil.f p1 = some (x, ok) ∧ louverref05qT_At.f (⟨[], 0⟩ : S41) p1 = some (x, ok) := by
    obtain ⟨x, ok, e1, e2⟩ := tat_eq (tb [] 0) p1 h1 (by simp [tb])
    refine ⟨x, ok, ?_, e2⟩
    rw [okI_i64] at h1
    rw [← e1]
    unfold dyntable_Table_At_nil.f dyntable_Table_At.f dyntable_Table_Len.f dyntable_Table_Len_nil.f statics_Len.f
    obtain ⟨f, ok, a1, a2, a3, a4, a5⟩ := at_eq p1
    rw [a1]
    simp only [bnd1, bnd2, tb, List.length_nil]
    cases ok with
    | true => rfl
    | false =>
      have hr : ¬ (1 ≤ p1 ∧ p1 ≤ 61) := fun h => by have := a4.2 h; simp at this
      simp only [Bool.false_eq_true, if_false]
      by_cases hi : p1 ≤ 61
      · rw [if_pos hi, if_pos hi]
      · rw [if_neg hi, if_neg hi, wi64 (by omega) (by omega), if_pos (by omega)]
        exact (if_pos (show p1 - 61 > ((0 : Nat) : Int) by omega)).symm
  obtain ⟨x, ok, a1, a2⟩ := ha
  unfold louverlaw05qDyntableNil.f
  rw [eta, hr, fixed_true _ (by omega), a1, a2, hf, size_f p0 (by omega), rsize_f p0 (by omega)]
  unfold dyntable_Table_Find_nil.f
  rw [find_f _ _ _ (by omega)]
  generalize fnd p0.f0 p0.f1 G0 0 0 = q
  obtain ⟨n, b⟩ := q
  by_cases hc : r = true
  · simp [bnd1, hc]
  · cases b <;> simp [bnd1, bnd2, hc, dyntable_Table_Add_nil.f, dyntable_Table_Limit_nil.f, dyntable_Table_Size_nil.f, dyntable_Table_Most_nil.f, dyntable_Table_Len_nil.f, fdl]
end Go.Proofs.YtgbkllnfjehfcaaDoor.Sl
