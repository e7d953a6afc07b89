/- Chapter 05, plain: the table. -/
import Derived.Test.YtgbkllnfjehfcaaDoorPureA
set_option linter.unusedVariables false
set_option linter.unusedSimpArgs false
namespace Go.Proofs.YtgbkllnfjehfcaaDoor.Sl
open Go Go.Proofs.Sl

def fsz (f : S29) : Int := f.f0.length + f.f1.length + 32
def strip (f : S29) : S29 := ⟨f.f0, f.f1, false⟩
def tsz : List S29 → Int
  | [] => 0
  | x :: l => fsz x + tsz l
def okF (f : S29) : Prop := okS f.f0 ∧ okS f.f1 ∧ okB f.f2
theorem fsz_lo (f : S29) : 32 ≤ fsz f := by unfold fsz; omega
theorem fsz_hi {f : S29} (h : okF f) : fsz f ≤ 281474976702496 := by
  have h1 : f.f0.length ≤ 140737488351232 := h.1
  have h2 : f.f1.length ≤ 140737488351232 := h.2.1
  unfold fsz
  omega
theorem tsz_lo : ∀ l, 32 * (l.length : Int) ≤ tsz l
  | [] => by simp [tsz]
  | x :: l => by have := tsz_lo l; have := fsz_lo x; simp only [tsz, List.length_cons]; omega
theorem tsz_app (a b : List S29) : tsz (a ++ b) = tsz a + tsz b := by
  induction a with
  | nil => simp [tsz]
  | cons x a ih => simp only [List.cons_append, tsz, ih]; omega
theorem tsz_rev (a : List S29) : tsz a.reverse = tsz a := by
  induction a with
  | nil => rfl
  | cons x a ih => rw [List.reverse_cons, tsz_app, ih]; simp only [tsz]; omega
/-- What is kept within a room: the oldest go first. -/
def keep : List S29 → Int → List S29
  | [], _ => []
  | x :: l, lim => if tsz (x :: l) > lim then keep l lim else x :: l
theorem keep_suf : ∀ (l : List S29) (lim : Int), keep l lim <:+ l
  | [], _ => List.suffix_refl _
  | x :: l, lim => by
    unfold keep
    split
    · exact (keep_suf l lim).trans (List.suffix_cons x l)
    · exact List.suffix_refl _
theorem keep_le : ∀ (l : List S29) (lim : Int), tsz (keep l lim) ≤ lim ∨ keep l lim = []
  | [], _ => .inr rfl
  | x :: l, lim => by
    unfold keep
    split
    · exact keep_le l lim
    · exact .inl (by omega)
theorem keep_all {l : List S29} {lim : Int} (h : tsz l ≤ lim) : keep l lim = l := by
  cases l with
  | nil => rfl
  | cons x l => unfold keep; rw [if_neg (by omega)]
theorem keep_none : ∀ (l : List S29) {lim : Int}, lim < 32 → keep l lim = []
  | [], _, _ => rfl
  | x :: l, lim, h => by
    unfold keep
    have h1 := tsz_lo (x :: l)
    simp only [List.length_cons] at h1
    rw [if_pos (by omega)]
    exact keep_none l h
theorem suf_len {a l : List S29} (h : a <:+ l) : tsz a ≤ tsz l := by
  obtain ⟨p, rfl⟩ := h
  rw [tsz_app]
  have := tsz_lo p
  omega
theorem keep_max : ∀ (l : List S29) {a : List S29} {lim : Int}, a <:+ l → tsz a ≤ lim → a <:+ keep l lim
  | [], a, lim, h, _ => by simpa [keep] using h
  | x :: l, a, lim, h, h2 => by
    unfold keep
    split
    · rename_i h3
      rcases List.suffix_cons_iff.1 h with rfl | h4
      · omega
      · exact keep_max l h4 h2
    · exact h
theorem keep_mono {l l' : List S29} {lim lim' : Int} (h : l <:+ l') (h2 : lim ≤ lim') : keep l lim <:+ keep l' lim' := by
  rcases keep_le l lim with h3 | h3
  · exact keep_max l' ((keep_suf l lim).trans h) (by omega)
  · rw [h3]
    exact List.nil_suffix
/-- The document's: the newest first. -/
def rwl : List S29 → Int → Int → List S29
  | [], _, _ => []
  | x :: l, n, m => if n + fsz x > m then [] else x :: rwl l (n + fsz x) m
theorem rwl_all : ∀ (l : List S29) (n m : Int), n + tsz l ≤ m → rwl l n m = l
  | [], _, _, _ => rfl
  | x :: l, n, m, h => by
    simp only [tsz] at h
    have := tsz_lo l
    unfold rwl
    rw [if_neg (by omega), rwl_all l (n + fsz x) m (by omega)]
theorem rwl_more : ∀ (l : List S29) (x : S29) (n m : Int), n + tsz l + fsz x > m → rwl (l ++ [x]) n m = rwl l n m
  | [], x, n, m, h => by
    simp only [tsz] at h
    simp only [List.nil_append, rwl]
    rw [if_pos (by omega)]
  | y :: l, x, n, m, h => by
    simp only [tsz] at h
    simp only [List.cons_append, rwl]
    split
    · rfl
    · rw [rwl_more l x (n + fsz y) m (by omega)]
theorem keep_rwl : ∀ (l : List S29) (lim : Int), (keep l lim).reverse = rwl l.reverse 0 lim
  | [], _ => rfl
  | x :: l, lim => by
    unfold keep
    split
    · rename_i h
      simp only [tsz] at h
      rw [keep_rwl l lim, List.reverse_cons, rwl_more _ _ _ _ (by rw [tsz_rev]; omega)]
    · rename_i h
      rw [rwl_all _ _ _ (by rw [tsz_rev]; omega)]
/-! the code -/
theorem size_f (f : S29) (h : fsz f < 4611686018427387904) : dyntable_Size.f f = some (fsz f) := by
  have := fsz_lo f
  unfold fsz at h this
  unfold dyntable_Size.f fsz
  rw [wi64 (by rw [wi64] <;> omega) (by rw [wi64] <;> omega), wi64 (by omega) (by omega)]
theorem rsize_f (f : S29) (h : fsz f < 4611686018427387904) : louverref05qSize.f f = some (fsz f) := by
  have := fsz_lo f
  unfold fsz at h this
  unfold louverref05qSize.f fsz
  rw [wi64 (by rw [wi64] <;> omega) (by rw [wi64] <;> omega), wi64 (by omega) (by omega)]
  congr 1
  omega
theorem del_f (l : List S29) (j : Nat) (h : j ≤ l.length) : api_Field.f l 0 (j : Int) = some (l.drop j) := by
  unfold api_Field.f
  rw [if_pos (by omega), if_pos (by omega), if_pos (by omega)]
  by_cases h0 : (0 : Int) = (j : Int)
  · rw [if_pos h0]
    have : j = 0 := by omega
    subst this
    rfl
  · rw [if_neg h0]
    simp
theorem eta (f : S29) : (⟨f.f0, f.f1, f.f2⟩ : S29) = f := rfl
theorem within_l0 (l : List S29) (most room : Int) (hr : -4611686018427387904 < most - room ∧ most - room < 4611686018427387904) (ht : tsz l < 4611686018427387904) : ∀ (m k j : Nat), j + m = l.length → m < k →
    dyntable_Table_within.l0 k (⟨l, tsz (l.drop j), most⟩ : S51) j room = some (⟨keep (l.drop j) (most - room), tsz (keep (l.drop j) (most - room)), most⟩ : S51) := by
  intro m
  induction m with
  | zero =>
    intro k j hj hk
    obtain ⟨k, rfl⟩ : ∃ k', k = k' + 1 := ⟨k - 1, by omega⟩
    rw [dyntable_Table_within.l0, if_neg (by dsimp only; omega), del_f _ _ (by dsimp only; omega)]
    simp only [bnd1]
    rw [List.drop_eq_nil_of_le (by omega)]
    rfl
  | succ m ih =>
    intro k j hj hk
    obtain ⟨k, rfl⟩ : ∃ k', k = k' + 1 := ⟨k - 1, by omega⟩
    have hd := drop_at' z29 l j (by omega)
    have h1 : tsz (l.drop j) = fsz (gt z29 l (j : Int)) + tsz (l.drop (j + 1)) := by rw [hd]; rfl
    have h2 := suf_len (List.drop_suffix j l)
    have h0 := tsz_lo l
    have h3 := tsz_lo (l.drop (j + 1))
    have h4 := fsz_lo (gt z29 l (j : Int))
    rw [dyntable_Table_within.l0, if_pos (by dsimp only; omega)]
    simp only
    rw [wi64 (by omega) (by omega), eta, size_f _ (by omega), del_f _ _ (by omega)]
    simp only [bnd1]
    by_cases hc : tsz (l.drop j) > most - room
    · rw [if_pos hc, if_pos (by omega), wi64 (by omega) (by omega), wi64 (by omega) (by omega)]
      have e1 : tsz (l.drop j) - fsz (gt z29 l (j : Int)) = tsz (l.drop (j + 1)) := by omega
      rw [e1, show (j : Int) + 1 = ((j + 1 : Nat) : Int) by omega, ih k (j + 1) (by omega) (by omega)]
      have e2 : keep (l.drop j) (most - room) = keep (l.drop (j + 1)) (most - room) := by
        rw [hd, keep, if_pos (by rw [← hd]; exact hc)]
      rw [e2]
    · rw [if_neg hc, keep_all (by omega)]
structure Tok (t : S51) : Prop where
  sz : t.f1 = tsz t.f0
  le : t.f1 ≤ t.f2
  mo : 0 ≤ t.f2 ∧ t.f2 < 4294967296
theorem Tok.len {t : S51} (h : Tok t) : t.f0.length ≤ 134217728 := by
  have := tsz_lo t.f0
  have := h.sz
  have := h.le
  have := h.mo
  omega
theorem within_f (t : S51) (room : Int) (hs : t.f1 = tsz t.f0) (hr : -4611686018427387904 < t.f2 - room ∧ t.f2 - room < 4611686018427387904) (ht : tsz t.f0 < 4611686018427387904) (k : Nat) (hk : t.f0.length < k) :
    dyntable_Table_within.f k t room = some (⟨keep t.f0 (t.f2 - room), tsz (keep t.f0 (t.f2 - room)), t.f2⟩ : S51) := by
  obtain ⟨l, s, most⟩ := t
  simp only at hs hr ht hk ⊢
  subst hs
  have := within_l0 l most room hr ht l.length k 0 (by omega) hk
  simpa [dyntable_Table_within.f] using this
def addL (l : List S29) (most : Int) (f : S29) : List S29 := if fsz f > most then [] else keep l (most - fsz f) ++ [strip f]
def tb (l : List S29) (most : Int) : S51 := ⟨l, tsz l, most⟩
theorem Tok.mk_eq {t : S51} (h : Tok t) : t = tb t.f0 t.f2 := by
  obtain ⟨l, s, m⟩ := t
  have := h.sz
  simp only at this
  subst this
  rfl
theorem addL_le (l : List S29) {most : Int} (f : S29) (hm : 0 ≤ most) : tsz (addL l most f) ≤ most := by
  unfold addL
  split
  · simp [tsz]; exact hm
  · rename_i h
    rw [tsz_app]
    have e : tsz [strip f] = fsz f := by simp [tsz, strip, fsz]
    rw [e]
    rcases keep_le l (most - fsz f) with h2 | h2
    · omega
    · rw [h2]
      simp only [tsz]
      omega
theorem tb_ok {l : List S29} {most : Int} (h : tsz l ≤ most) (hm : 0 ≤ most ∧ most < 4294967296) : Tok (tb l most) := ⟨rfl, h, hm⟩
theorem add_f (t : S51) (f : S29) (h : Tok t) (hf : okF f) (k : Nat) (hk : 134217728 < k) : dyntable_Table_Add.f k t f = some (tb (addL t.f0 t.f2 f) t.f2) := by
  have h1 := fsz_hi hf
  have h2 := fsz_lo f
  have h3 := tsz_lo t.f0
  obtain ⟨a, b, c⟩ := id h
  unfold dyntable_Table_Add.f
  rw [eta, size_f f (by omega)]
  simp only [bnd1]
  rw [within_f t (fsz f) a (by omega) (by omega) k (by have := h.len; omega)]
  simp only [bnd1, lt1]
  unfold addL
  by_cases hc : fsz f > t.f2
  · rw [if_pos hc, if_pos hc, keep_none _ (by omega)]
    rfl
  · have h5 := keep_le t.f0 (t.f2 - fsz f)
    have h6 := tsz_lo (keep t.f0 (t.f2 - fsz f))
    have h7 : tsz (keep t.f0 (t.f2 - fsz f)) ≤ t.f2 - fsz f := by
      rcases h5 with h5 | h5
      · exact h5
      · rw [h5]
        simp only [tsz]
        omega
    rw [if_neg hc, if_neg hc, if_pos (by omega), wi64 (by omega) (by omega)]
    unfold tb
    rw [tsz_app]
    have e : tsz [strip f] = fsz f := by simp [tsz, strip, fsz]
    rw [e]
    rfl
theorem limit_f (t : S51) (m : Int) (h : Tok t) (hm : 0 ≤ m ∧ m < 4294967296) (k : Nat) (hk : 134217728 < k) : dyntable_Table_Limit.f k t m = some (tb (keep t.f0 m) m) := by
  obtain ⟨a, b, c⟩ := id h
  have h3 := tsz_lo t.f0
  unfold dyntable_Table_Limit.f
  rw [wi64 (by omega) (by omega), within_f (⟨t.f0, t.f1, m⟩ : S51) 0 a (by dsimp only; omega) (by dsimp only; omega) k (by have := h.len; dsimp only; omega)]
  simp only [bnd1, Int.sub_zero]
  rfl
theorem keep_le0 (l : List S29) {m : Int} (hm : 0 ≤ m) : tsz (keep l m) ≤ m := by
  rcases keep_le l m with h | h
  · exact h
  · rw [h]
    simp only [tsz]
    exact hm
/-! the document's twin -/
def twin (t : S51) : S41 := ⟨t.f0.reverse, t.f2⟩
theorem rwithin_l0 (T : S41) (m : Int) (ht : tsz T.f0 < 4294967296) (hl : T.f0.length < 4294967296) : ∀ (q k j : Nat) (out : List S29) (n : Int), j + q = T.f0.length → q < k → 0 ≤ n → n + tsz (T.f0.drop j) ≤ tsz T.f0 → out.length ≤ j →
    louverref05qT_Within.l0 k out n j T m = some (⟨out ++ rwl (T.f0.drop j) n m, T.f1⟩ : S41) := by
  intro q
  induction q with
  | zero =>
    intro k j out n hj hk hn hs ho
    obtain ⟨k, rfl⟩ : ∃ k', k = k' + 1 := ⟨k - 1, by omega⟩
    rw [louverref05qT_Within.l0, if_neg (by omega), List.drop_eq_nil_of_le (by omega)]
    simp [rwl]
  | succ q ih =>
    intro k j out n hj hk hn hs ho
    obtain ⟨k, rfl⟩ : ∃ k', k = k' + 1 := ⟨k - 1, by omega⟩
    have hd := drop_at' z29 T.f0 j (by omega)
    rw [hd] at hs ⊢
    simp only [tsz] at hs
    have h1 := tsz_lo (T.f0.drop (j + 1))
    have h2 := fsz_lo (gt z29 T.f0 (j : Int))
    rw [louverref05qT_Within.l0, if_pos (by omega), if_pos (by omega), eta, rsize_f _ (by omega)]
    simp only [bnd1, lt1]
    rw [wi64 (by omega) (by omega), wi64 (by omega) (by omega), rwl]
    by_cases hc : n + fsz (gt z29 T.f0 (j : Int)) > m
    · rw [if_pos hc, if_pos hc, List.append_nil]
    · rw [if_neg hc, if_neg hc, if_pos (by omega), show (j : Int) + 1 = ((j + 1 : Nat) : Int) by omega, ih k (j + 1) _ _ (by omega) (by omega) (by omega) (by omega) (by simp; omega)]
      simp
theorem rwithin_f (l : List S29) (M m : Int) (ht : tsz l < 4294967296) (k : Nat) (hk : l.length < k) : louverref05qT_Within.f k (⟨l.reverse, M⟩ : S41) m = some (⟨(keep l m).reverse, M⟩ : S41) := by
  have h1 := tsz_lo l
  have := rwithin_l0 (⟨l.reverse, M⟩ : S41) m (by dsimp only; rw [tsz_rev]; exact ht) (by simp; omega) l.length k 0 [] 0 (by simp) hk (by omega) (by simp) (by simp)
  simp only [List.drop_zero, List.nil_append] at this
  rw [keep_rwl]
  exact this
theorem radd_f (t : S51) (f : S29) (h : Tok t) (hf : okF f) (k : Nat) (hk : 134217728 < k) : louverref05qT_Add.f k (twin t) f = some (twin (tb (addL t.f0 t.f2 f) t.f2)) := by
  have h1 := fsz_hi hf
  have h2 := fsz_lo f
  have h3 := tsz_lo t.f0
  have hlen := h.len
  obtain ⟨a, b, c⟩ := id h
  unfold louverref05qT_Add.f
  rw [eta, rsize_f f (by omega)]
  simp only [bnd1]
  have e0 : (⟨(twin t).f0, IntKind.i64.wrap ((twin t).f1 - fsz f)⟩ : S41) = ⟨t.f0.reverse, t.f2 - fsz f⟩ := by
    show (⟨t.f0.reverse, IntKind.i64.wrap (t.f2 - fsz f)⟩ : S41) = _
    rw [wi64 (by omega) (by omega)]
  have e1 : IntKind.i64.wrap ((twin t).f1 - fsz f) = t.f2 - fsz f := by
    show IntKind.i64.wrap (t.f2 - fsz f) = _
    rw [wi64 (by omega) (by omega)]
  rw [e1]
  have e2 : (⟨(twin t).f0, (twin t).f1⟩ : S41) = ⟨t.f0.reverse, t.f2⟩ := rfl
  rw [e2, rwithin_f t.f0 t.f2 _ (by omega) k (by omega)]
  simp only [bnd1, lt1]
  unfold addL
  by_cases hc : fsz f > t.f2
  · rw [if_pos hc, if_pos hc, keep_none _ (by omega)]
    rfl
  · have h6 := tsz_lo (keep t.f0 (t.f2 - fsz f))
    have h7 := suf_len (keep_suf t.f0 (t.f2 - fsz f))
    rw [if_neg hc, if_neg hc, if_pos (by simp; omega)]
    simp [twin, tb, strip]
theorem rlimit_f (t : S51) (m : Int) (h : Tok t) (k : Nat) (hk : 134217728 < k) : louverref05qT_Limit.f k (twin t) m = some (twin (tb (keep t.f0 m) m)) := by
  have hlen := h.len
  obtain ⟨a, b, c⟩ := id h
  unfold louverref05qT_Limit.f
  have e2 : (⟨(twin t).f0, m⟩ : S41) = ⟨t.f0.reverse, m⟩ := rfl
  rw [e2, rwithin_f t.f0 m _ (by omega) k (by omega)]
  rfl
theorem rsize_l0 (T : S41) (ht : tsz T.f0 < 4294967296) (hl : T.f0.length < 4294967296) : ∀ (q k j : Nat) (n : Int), j + q = T.f0.length → q < k → 0 ≤ n → n + tsz (T.f0.drop j) = tsz T.f0 → louverref05qT_Size.l0 k n j T = some (tsz T.f0) := by
  intro q
  induction q with
  | zero =>
    intro k j n hj hk hn hs
    obtain ⟨k, rfl⟩ : ∃ k', k = k' + 1 := ⟨k - 1, by omega⟩
    rw [List.drop_eq_nil_of_le (by omega)] at hs
    simp only [tsz] at hs
    rw [louverref05qT_Size.l0, if_neg (by omega), ← hs]
    simp
  | succ q ih =>
    intro k j n hj hk hn hs
    obtain ⟨k, rfl⟩ : ∃ k', k = k' + 1 := ⟨k - 1, by omega⟩
    have hd := drop_at' z29 T.f0 j (by omega)
    rw [hd] at hs
    simp only [tsz] at hs
    have h1 := tsz_lo (T.f0.drop (j + 1))
    have h2 := fsz_lo (gt z29 T.f0 (j : Int))
    rw [louverref05qT_Size.l0, if_pos (by omega), if_pos (by omega), eta, rsize_f _ (by omega)]
    simp only [bnd1]
    rw [wi64 (by omega) (by omega), wi64 (by omega) (by omega), show (j : Int) + 1 = ((j + 1 : Nat) : Int) by omega]
    exact ih k (j + 1) _ (by omega) (by omega) (by omega) (by omega)
theorem tsize_f (t : S51) (h : Tok t) (k : Nat) (hk : 134217728 < k) : louverref05qT_Size.f k (twin t) = some t.f1 := by
  have hlen := h.len
  have h3 := tsz_lo t.f0
  obtain ⟨a, b, c⟩ := id h
  have e : tsz (twin t).f0 = t.f1 := by
    show tsz t.f0.reverse = _
    rw [tsz_rev, a]
  unfold louverref05qT_Size.f
  have := rsize_l0 (twin t) (by omega) (by simp [twin]; omega) (twin t).f0.length k 0 0 (by omega) (by simp [twin]; omega) (by omega) (by simp)
  rw [e] at this
  exact this
/-! numbers and fields -/
theorem gt_rev (l : List S29) (i : Nat) (h : i < l.length) : gt z29 l.reverse (i : Int) = gt z29 l ((l.length - 1 - i : Nat) : Int) := by
  rw [gt_nat z29 _ i (by simpa using h), gt_nat z29 l (l.length - 1 - i) (by omega), List.getElem_reverse]
theorem at_hi (t : S51) (i : Nat) (h : i < t.f0.length) (hl : t.f0.length ≤ 134217728) : dyntable_Table_At.f t ((62 + i : Nat) : Int) = some (gt z29 t.f0.reverse (i : Int), true) := by
  obtain ⟨f, ok, h1, h2, h3, h4, h5⟩ := at_eq ((62 + i : Nat) : Int)
  have hok : ok = false := by
    cases ok with
    | false => rfl
    | true => have := h4.1 rfl; omega
  unfold dyntable_Table_At.f statics_Len.f dyntable_Table_Len.f
  rw [h1, hok]
  simp only [bnd1, bnd2]
  rw [if_neg (by simp), if_neg (by omega), wi64 (by omega) (by omega), if_neg (by omega), wi64 (by omega) (by omega), if_pos (by omega), if_pos (by omega), gt_rev _ _ h]
  have e : (t.f0.length : Int) - (((62 + i : Nat) : Int) - 61) = ((t.f0.length - 1 - i : Nat) : Int) := by omega
  rw [e]
theorem tat_eq (t : S51) (n : Int) (hn : okI .i64 n) (hl : t.f0.length ≤ 134217728) : ∃ r ok, dyntable_Table_At.f t n = some (r, ok) ∧ louverref05qT_At.f (twin t) n = some (r, ok) := by
  rw [okI_i64] at hn
  obtain ⟨f, ok, h1, h2, h3, h4, h5⟩ := at_eq n
  have e0 : (twin t).f0.length = t.f0.length := by simp [twin]
  cases ok with
  | true =>
    refine ⟨f, true, ?_, ?_⟩
    · unfold dyntable_Table_At.f
      rw [h1]
      rfl
    · unfold louverref05qT_At.f
      rw [h2, ← h3]
      rfl
  | false =>
    have hr : ¬ (1 ≤ n ∧ n ≤ 61) := fun h => by have := h4.2 h; simp at this
    by_cases hi : n < 62
    · refine ⟨⟨[], [], false⟩, false, ?_, ?_⟩
      · unfold dyntable_Table_At.f statics_Len.f
        rw [h1]
        simp only [bnd1, bnd2]
        rw [if_neg (by simp), if_pos (by omega)]
      · unfold louverref05qT_At.f
        rw [h2]
        simp only [bnd3]
        rw [if_neg (by simp), if_pos hi]
    · by_cases hj : n - 62 < t.f0.length
      · obtain ⟨i, rfl⟩ : ∃ i : Nat, n = ((62 + i : Nat) : Int) := ⟨(n - 62).toNat, by omega⟩
        refine ⟨_, true, at_hi t i (by omega) hl, ?_⟩
        unfold louverref05qT_At.f
        rw [h2]
        simp only [bnd3]
        rw [if_neg (by simp), if_neg hi, wi64 (by omega) (by omega), e0, if_neg (by omega), if_pos (by omega), if_pos (by omega)]
        have e : ((62 + i : Nat) : Int) - 62 = (i : Int) := by omega
        rw [e]
        rfl
      · refine ⟨⟨[], [], false⟩, false, ?_, ?_⟩
        · unfold dyntable_Table_At.f statics_Len.f dyntable_Table_Len.f
          rw [h1]
          simp only [bnd1, bnd2]
          rw [if_neg (by simp), if_neg (by omega), wi64 (by omega) (by omega), if_pos (by omega)]
        · unfold louverref05qT_At.f
          rw [h2]
          simp only [bnd3]
          rw [if_neg (by simp), if_neg hi, wi64 (by omega) (by omega), e0, if_pos (by omega)]
/-! finding -/
def fdl (name value : List UInt8) : List S29 → Int → Int → Int × Bool
  | [], first, i => (first, false)
  | x :: l, first, i => if x.f0 = name then (if x.f1 = value then (62 + i, true) else fdl name value l (if first = 0 then 62 + i else first) (i + 1)) else fdl name value l first (i + 1)
def w0 (name value : List UInt8) : List S29 → Int → Option (Int × Bool)
  | [], i => none
  | x :: l, i => if x.f0 = name ∧ x.f1 = value then some (62 + i, true) else w0 name value l (i + 1)
def w1 (name : List UInt8) : List S29 → Int → Int → Int
  | [], n, i => n
  | x :: l, n, i => if n = 0 ∧ x.f0 = name then w1 name l (62 + i) (i + 1) else w1 name l n (i + 1)
theorem fdl_eq (name value : List UInt8) : ∀ (l : List S29) (first i : Int), fdl name value l first i = (w0 name value l i).getD (w1 name l first i, false)
  | [], first, i => rfl
  | x :: l, first, i => by
    simp only [fdl, w0, w1]
    by_cases h1 : x.f0 = name
    · rw [if_pos h1]
      by_cases h2 : x.f1 = value
      · rw [if_pos h2, if_pos (c := x.f0 = name ∧ x.f1 = value) ⟨h1, h2⟩]
        rfl
      · rw [if_neg h2, if_neg (c := x.f0 = name ∧ x.f1 = value) (fun q => h2 q.2), fdl_eq name value l]
        by_cases h3 : first = 0
        · rw [if_pos h3, if_pos (c := first = 0 ∧ x.f0 = name) ⟨h3, h1⟩]
        · rw [if_neg h3, if_neg (c := first = 0 ∧ x.f0 = name) (fun q => h3 q.1)]
    · rw [if_neg h1, if_neg (c := x.f0 = name ∧ x.f1 = value) (fun q => h1 q.1), if_neg (c := first = 0 ∧ x.f0 = name) (fun q => h1 q.2), fdl_eq name value l]
theorem tfind_l0 (t : S51) (name value : List UInt8) (hl : t.f0.length ≤ 134217728) : ∀ (m k i : Nat) (first : Int), i + m = t.f0.length → m < k → dyntable_Table_Find.l0 k first i t name value = some (fdl name value (t.f0.reverse.drop i) first i) := by
  intro m
  induction m with
  | zero =>
    intro k i first hi hk
    obtain ⟨k, rfl⟩ : ∃ k', k = k' + 1 := ⟨k - 1, by omega⟩
    rw [dyntable_Table_Find.l0, if_neg (by omega), List.drop_eq_nil_of_le (by simp; omega)]
    rfl
  | succ m ih =>
    intro k i first hi hk
    obtain ⟨k, rfl⟩ : ∃ k', k = k' + 1 := ⟨k - 1, by omega⟩
    have e1 : IntKind.i64.wrap (IntKind.i64.wrap ((t.f0.length : Int) - 1) - (i : Int)) = ((t.f0.length - 1 - i : Nat) : Int) := by
      rw [wi64 (by rw [wi64] <;> omega) (by rw [wi64] <;> omega), wi64 (by omega) (by omega)]
      omega
    have e2 : IntKind.i64.wrap (IntKind.i64.wrap (61 + 1) + (i : Int)) = 62 + (i : Int) := by
      rw [wi64 (by rw [wi64] <;> omega) (by rw [wi64] <;> omega), wi64 (by omega) (by omega)]
      omega
    have e3 : IntKind.i64.wrap ((i : Int) + 1) = ((i + 1 : Nat) : Int) := by rw [wi64 (by omega) (by omega)]; omega
    have e4 : (i : Int) + 1 = ((i + 1 : Nat) : Int) := by omega
    rw [dyntable_Table_Find.l0, if_pos (by omega), e1, if_pos (by omega), if_pos (by omega)]
    unfold statics_Len.f
    simp only [bnd1]
    rw [e2, e3, drop_at' z29 t.f0.reverse i (by simp; omega), fdl, gt_rev _ _ (by omega), e4]
    by_cases h1 : (gt z29 t.f0 ((t.f0.length - 1 - i : Nat) : Int)).f0 = name
    · rw [if_pos h1, if_pos h1]
      by_cases h2 : (gt z29 t.f0 ((t.f0.length - 1 - i : Nat) : Int)).f1 = value
      · rw [if_pos h2, if_pos h2]
      · rw [if_neg h2, if_neg h2]
        by_cases h3 : first = 0
        · rw [if_pos h3, if_pos h3]
          exact ih k (i + 1) _ (by omega) (by omega)
        · rw [if_neg h3, if_neg h3]
          exact ih k (i + 1) _ (by omega) (by omega)
    · rw [if_neg h1, if_neg h1]
      exact ih k (i + 1) _ (by omega) (by omega)
theorem tfind_f (t : S51) (name value : List UInt8) (hl : t.f0.length ≤ 134217728) (k : Nat) (hk : 134217728 < k) : dyntable_Table_Find.f k t name value = some (if (fnd name value G0 0 0).2 = true then ((fnd name value G0 0 0).1, true) else fdl name value t.f0.reverse (fnd name value G0 0 0).1 0) := by
  unfold dyntable_Table_Find.f
  rw [find_f _ _ _ (by omega)]
  generalize fnd name value G0 0 0 = r
  obtain ⟨n, b⟩ := r
  simp only [bnd2]
  by_cases h : b = true
  · rw [if_pos h, if_pos h]
  · rw [if_neg h, if_neg h]
    exact tfind_l0 t name value hl t.f0.length k 0 n (by omega) (by omega)
theorem rtfind_l1 (T : S41) (name : List UInt8) (hl : T.f0.length ≤ 134217728) : ∀ (m k i : Nat) (n : Int), i + m = T.f0.length → m < k → louverref05qT_Find.l1 k n i T name = some (w1 name (T.f0.drop i) n i, false) := by
  intro m
  induction m with
  | zero =>
    intro k i n hi hk
    obtain ⟨k, rfl⟩ : ∃ k', k = k' + 1 := ⟨k - 1, by omega⟩
    rw [louverref05qT_Find.l1, if_neg (by omega), List.drop_eq_nil_of_le (by omega)]
    rfl
  | succ m ih =>
    intro k i n hi hk
    obtain ⟨k, rfl⟩ : ∃ k', k = k' + 1 := ⟨k - 1, by omega⟩
    have e3 : IntKind.i64.wrap ((i : Int) + 1) = ((i + 1 : Nat) : Int) := by rw [wi64 (by omega) (by omega)]; omega
    have e4 : (i : Int) + 1 = ((i + 1 : Nat) : Int) := by omega
    rw [louverref05qT_Find.l1, if_pos (by omega), e3, drop_at' z29 T.f0 i (by omega), w1, e4]
    by_cases h1 : n = 0
    · rw [if_pos h1, if_pos (by omega)]
      by_cases h2 : (gt z29 T.f0 (i : Int)).f0 = name
      · rw [if_pos h2, if_pos (c := n = 0 ∧ (gt z29 T.f0 (i : Int)).f0 = name) ⟨h1, h2⟩, wi64 (by omega) (by omega)]
        exact ih k (i + 1) _ (by omega) (by omega)
      · rw [if_neg h2, if_neg (c := n = 0 ∧ (gt z29 T.f0 (i : Int)).f0 = name) (fun q => h2 q.2)]
        exact ih k (i + 1) _ (by omega) (by omega)
    · rw [if_neg h1, if_neg (c := n = 0 ∧ (gt z29 T.f0 (i : Int)).f0 = name) (fun q => h1 q.1)]
      exact ih k (i + 1) _ (by omega) (by omega)
theorem rtfind_l0 (T : S41) (name value : List UInt8) (n : Int) (hl : T.f0.length ≤ 134217728) : ∀ (m k i : Nat), i + m = T.f0.length → m + T.f0.length + 1 < k → louverref05qT_Find.l0 k i T name value n = some ((w0 name value (T.f0.drop i) i).getD (w1 name T.f0 n 0, false)) := by
  intro m
  induction m with
  | zero =>
    intro k i hi hk
    obtain ⟨k, rfl⟩ : ∃ k', k = k' + 1 := ⟨k - 1, by omega⟩
    rw [louverref05qT_Find.l0, if_neg (by omega), List.drop_eq_nil_of_le (by omega)]
    exact rtfind_l1 T name hl T.f0.length k 0 n (by omega) (by omega)
  | succ m ih =>
    intro k i hi hk
    obtain ⟨k, rfl⟩ : ∃ k', k = k' + 1 := ⟨k - 1, by omega⟩
    have e3 : IntKind.i64.wrap ((i : Int) + 1) = ((i + 1 : Nat) : Int) := by rw [wi64 (by omega) (by omega)]; omega
    have e4 : (i : Int) + 1 = ((i + 1 : Nat) : Int) := by omega
    rw [louverref05qT_Find.l0, if_pos (by omega), if_pos (by omega), e3, drop_at' z29 T.f0 i (by omega), w0, e4]
    by_cases h1 : (gt z29 T.f0 (i : Int)).f0 = name
    · rw [if_pos h1]
      by_cases h2 : (gt z29 T.f0 (i : Int)).f1 = value
      · rw [if_pos h2, if_pos (c := (gt z29 T.f0 (i : Int)).f0 = name ∧ (gt z29 T.f0 (i : Int)).f1 = value) ⟨h1, h2⟩, wi64 (by omega) (by omega)]
        rfl
      · rw [if_neg h2, if_neg (c := (gt z29 T.f0 (i : Int)).f0 = name ∧ (gt z29 T.f0 (i : Int)).f1 = value) (fun q => h2 q.2)]
        exact ih k (i + 1) (by omega) (by omega)
    · rw [if_neg h1, if_neg (c := (gt z29 T.f0 (i : Int)).f0 = name ∧ (gt z29 T.f0 (i : Int)).f1 = value) (fun q => h1 q.1)]
      exact ih k (i + 1) (by omega) (by omega)
theorem rtfind_f (l : List S29) (M : Int) (name value : List UInt8) (hl : l.length ≤ 134217728) (k : Nat) (hk : 268435460 < k) : louverref05qT_Find.f k (⟨l, M⟩ : S41) name value = some (if (fnd name value G0 0 0).2 = true then ((fnd name value G0 0 0).1, true) else fdl name value l (fnd name value G0 0 0).1 0) := by
  unfold louverref05qT_Find.f
  rw [rfind_f _ _ _ (by omega)]
  generalize fnd name value G0 0 0 = r
  obtain ⟨n, b⟩ := r
  simp only [bnd2]
  by_cases h : b = true
  · rw [if_pos h, if_pos h]
  · rw [if_neg h, if_neg h, fdl_eq]
    exact rtfind_l0 (⟨l, M⟩ : S41) name value n hl l.length k 0 (by simp) (by dsimp only; omega)
theorem find_same (t : S51) (name value : List UInt8) (hl : t.f0.length ≤ 134217728) (k : Nat) (hk : 268435460 < k) : ∃ n b, dyntable_Table_Find.f k t name value = some (n, b) ∧ louverref05qT_Find.f k (twin t) name value = some (n, b) :=
  ⟨_, _, tfind_f t name value hl k (by omega), rtfind_f t.f0.reverse t.f2 name value (by simpa using hl) k hk⟩
/-! what is too great to be gone through -/
theorem great_l0 (l : List S29) (hl : l.length < 4611686018427387904) : ∀ (m k i : Nat) (n : Int), i + m = l.length → m < k → 0 ≤ n → n ≤ 9000 → ∃ r, louverref05qGreat.l0 k n i l = some r := by
  intro m
  induction m with
  | zero =>
    intro k i n hi hk h0 h1
    obtain ⟨k, rfl⟩ : ∃ k', k = k' + 1 := ⟨k - 1, by omega⟩
    rw [louverref05qGreat.l0, if_neg (by omega)]
    exact ⟨_, rfl⟩
  | succ m ih =>
    intro k i n hi hk h0 h1
    obtain ⟨k, rfl⟩ : ∃ k', k = k' + 1 := ⟨k - 1, by omega⟩
    rw [louverref05qGreat.l0, if_pos (by omega), if_pos (by omega), mn_eq, mn_eq]
    generalize gt z29 l (i : Int) = f
    have e : IntKind.i64.wrap (n + IntKind.i64.wrap (IntKind.i64.wrap (1 + min (f.f0.length : Int) 9000) + min (f.f1.length : Int) 9000)) = n + (1 + min (f.f0.length : Int) 9000 + min (f.f1.length : Int) 9000) := by
      rw [wi64 (x := 1 + min (f.f0.length : Int) 9000) (by omega) (by omega), wi64 (x := 1 + min (f.f0.length : Int) 9000 + min (f.f1.length : Int) 9000) (by omega) (by omega), wi64 (by omega) (by omega)]
    rw [e]
    by_cases hc : n + (1 + min (f.f0.length : Int) 9000 + min (f.f1.length : Int) 9000) > 9000
    · rw [if_pos hc]
      exact ⟨_, rfl⟩
    · rw [if_neg hc, wi64 (by omega) (by omega), show (i : Int) + 1 = ((i + 1 : Nat) : Int) by omega]
      exact ih k (i + 1) _ (by omega) (by omega) (by omega) (by omega)
theorem great_f (l : List S29) (hl : l.length < 4611686018427387904) (k : Nat) (hk : l.length < k) : ∃ r, louverref05qGreat.f k l = some r := by
  unfold louverref05qGreat.f
  exact great_l0 l hl l.length k 0 0 (by omega) hk (by omega) (by omega)
theorem fixed_true (k : Nat) (hk : 100 < k) : louverlaw05qfixed.f k = some true := by
  obtain ⟨k, rfl⟩ : ∃ k', k = k' + 10 := ⟨k - 10, by omega⟩
  rfl
end Go.Proofs.YtgbkllnfjehfcaaDoor.Sl
