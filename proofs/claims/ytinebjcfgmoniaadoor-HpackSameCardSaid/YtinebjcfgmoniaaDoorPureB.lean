/- Chapter 06, plain: the table. -/
import Derived.Test.YtinebjcfgmoniaaDoorPureA
set_option linter.unusedVariables false
set_option linter.unusedSimpArgs false
namespace Go.Proofs.YtinebjcfgmoniaaDoor.Sl
open Go Go.Proofs.Sl

def fsz (f : S52) : Int := f.f0.length + f.f1.length + 32
def strip (f : S52) : S52 := ⟨f.f0, f.f1, false⟩
def tsz : List S52 → Int
  | [] => 0
  | x :: l => fsz x + tsz l
def okF (f : S52) : Prop := okS f.f0 ∧ okS f.f1 ∧ okB f.f2
theorem fsz_lo (f : S52) : 32 ≤ fsz f := by unfold fsz; omega
theorem fsz_hi {f : S52} (h : okF f) : fsz f ≤ 281474976702496 := by
  have h1 : f.f0.length ≤ 140737488351232 := h.1
  have h2 : f.f1.length ≤ 140737488351232 := h.2.1
  unfold fsz
  omega
theorem tsz_lo : ∀ l, 32 * (l.length : Int) ≤ tsz l
  | [] => by simp [tsz]
  | x :: l => by have := tsz_lo l; have := fsz_lo x; simp only [tsz, List.length_cons]; omega
theorem tsz_app (a b : List S52) : tsz (a ++ b) = tsz a + tsz b := by
  induction a with
  | nil => simp [tsz]
  | cons x a ih => simp only [List.cons_append, tsz, ih]; omega
theorem tsz_rev (a : List S52) : tsz a.reverse = tsz a := by
  induction a with
  | nil => rfl
  | cons x a ih => rw [List.reverse_cons, tsz_app, ih]; simp only [tsz]; omega
/-- What is kept within a room: the oldest go first. -/
def keep : List S52 → Int → List S52
  | [], _ => []
  | x :: l, lim => if tsz (x :: l) > lim then keep l lim else x :: l
theorem keep_suf : ∀ (l : List S52) (lim : Int), keep l lim <:+ l
  | [], _ => List.suffix_refl _
  | x :: l, lim => by
    unfold keep
    split
    · exact (keep_suf l lim).trans (List.suffix_cons x l)
    · exact List.suffix_refl _
theorem keep_le : ∀ (l : List S52) (lim : Int), tsz (keep l lim) ≤ lim ∨ keep l lim = []
  | [], _ => .inr rfl
  | x :: l, lim => by
    unfold keep
    split
    · exact keep_le l lim
    · exact .inl (by omega)
theorem keep_all {l : List S52} {lim : Int} (h : tsz l ≤ lim) : keep l lim = l := by
  cases l with
  | nil => rfl
  | cons x l => unfold keep; rw [if_neg (by omega)]
theorem keep_none : ∀ (l : List S52) {lim : Int}, lim < 32 → keep l lim = []
  | [], _, _ => rfl
  | x :: l, lim, h => by
    unfold keep
    have h1 := tsz_lo (x :: l)
    simp only [List.length_cons] at h1
    rw [if_pos (by omega)]
    exact keep_none l h
theorem suf_len {a l : List S52} (h : a <:+ l) : tsz a ≤ tsz l := by
  obtain ⟨p, rfl⟩ := h
  rw [tsz_app]
  have := tsz_lo p
  omega
theorem keep_max : ∀ (l : List S52) {a : List S52} {lim : Int}, a <:+ l → tsz a ≤ lim → a <:+ keep l lim
  | [], a, lim, h, _ => by simpa [keep] using h
  | x :: l, a, lim, h, h2 => by
    unfold keep
    split
    · rename_i h3
      rcases List.suffix_cons_iff.1 h with rfl | h4
      · omega
      · exact keep_max l h4 h2
    · exact h
theorem keep_mono {l l' : List S52} {lim lim' : Int} (h : l <:+ l') (h2 : lim ≤ lim') : keep l lim <:+ keep l' lim' := by
  rcases keep_le l lim with h3 | h3
  · exact keep_max l' ((keep_suf l lim).trans h) (by omega)
  · rw [h3]
    exact List.nil_suffix
/-! the code -/
theorem size_f (f : S52) (h : fsz f < 4611686018427387904) : dyntable_Size.f f = some (fsz f) := by
  have := fsz_lo f
  unfold fsz at h this
  unfold dyntable_Size.f fsz
  rw [wi64 (by rw [wi64] <;> omega) (by rw [wi64] <;> omega), wi64 (by omega) (by omega)]
theorem del_f (l : List S52) (j : Nat) (h : j ≤ l.length) : api_Field.f l 0 (j : Int) = some (l.drop j) := by
  unfold api_Field.f
  rw [if_pos (by omega), if_pos (by omega), if_pos (by omega)]
  by_cases h0 : (0 : Int) = (j : Int)
  · rw [if_pos h0]
    have : j = 0 := by omega
    subst this
    rfl
  · rw [if_neg h0]
    simp
theorem eta (f : S52) : (⟨f.f0, f.f1, f.f2⟩ : S52) = f := rfl
theorem within_l0 (l : List S52) (most room : Int) (hr : -4611686018427387904 < most - room ∧ most - room < 4611686018427387904) (ht : tsz l < 4611686018427387904) : ∀ (m k j : Nat), j + m = l.length → m < k →
    dyntable_Table_within.l0 k (⟨l, tsz (l.drop j), most⟩ : S79) j room = some (⟨keep (l.drop j) (most - room), tsz (keep (l.drop j) (most - room)), most⟩ : S79) := by
  intro m
  induction m with
  | zero =>
    intro k j hj hk
    obtain ⟨k, rfl⟩ : ∃ k', k = k' + 1 := ⟨k - 1, by omega⟩
    rw [dyntable_Table_within.l0, if_neg (by dsimp only; omega), del_f _ _ (by dsimp only; omega)]
    simp only [bnd1]
    rw [List.drop_eq_nil_of_le (by omega)]
    rfl
  | succ m ih =>
    intro k j hj hk
    obtain ⟨k, rfl⟩ : ∃ k', k = k' + 1 := ⟨k - 1, by omega⟩
    have hd := drop_at' z52 l j (by omega)
    have h1 : tsz (l.drop j) = fsz (gt z52 l (j : Int)) + tsz (l.drop (j + 1)) := by rw [hd]; rfl
    have h2 := suf_len (List.drop_suffix j l)
    have h0 := tsz_lo l
    have h3 := tsz_lo (l.drop (j + 1))
    have h4 := fsz_lo (gt z52 l (j : Int))
    rw [dyntable_Table_within.l0, if_pos (by dsimp only; omega)]
    simp only
    rw [wi64 (by omega) (by omega), eta, size_f _ (by omega), del_f _ _ (by omega)]
    simp only [bnd1]
    by_cases hc : tsz (l.drop j) > most - room
    · rw [if_pos hc, if_pos (by omega), wi64 (by omega) (by omega), wi64 (by omega) (by omega)]
      have e1 : tsz (l.drop j) - fsz (gt z52 l (j : Int)) = tsz (l.drop (j + 1)) := by omega
      rw [e1, show (j : Int) + 1 = ((j + 1 : Nat) : Int) by omega, ih k (j + 1) (by omega) (by omega)]
      have e2 : keep (l.drop j) (most - room) = keep (l.drop (j + 1)) (most - room) := by
        rw [hd, keep, if_pos (by rw [← hd]; exact hc)]
      rw [e2]
    · rw [if_neg hc, keep_all (by omega)]
structure Tok (t : S79) : Prop where
  sz : t.f1 = tsz t.f0
  le : t.f1 ≤ t.f2
  mo : 0 ≤ t.f2 ∧ t.f2 < 4294967296
theorem Tok.len {t : S79} (h : Tok t) : t.f0.length ≤ 134217728 := by
  have := tsz_lo t.f0
  have := h.sz
  have := h.le
  have := h.mo
  omega
theorem within_f (t : S79) (room : Int) (hs : t.f1 = tsz t.f0) (hr : -4611686018427387904 < t.f2 - room ∧ t.f2 - room < 4611686018427387904) (ht : tsz t.f0 < 4611686018427387904) (k : Nat) (hk : t.f0.length < k) :
    dyntable_Table_within.f k t room = some (⟨keep t.f0 (t.f2 - room), tsz (keep t.f0 (t.f2 - room)), t.f2⟩ : S79) := by
  obtain ⟨l, s, most⟩ := t
  simp only at hs hr ht hk ⊢
  subst hs
  have := within_l0 l most room hr ht l.length k 0 (by omega) hk
  simpa [dyntable_Table_within.f] using this
def addL (l : List S52) (most : Int) (f : S52) : List S52 := if fsz f > most then [] else keep l (most - fsz f) ++ [strip f]
def tb (l : List S52) (most : Int) : S79 := ⟨l, tsz l, most⟩
theorem Tok.mk_eq {t : S79} (h : Tok t) : t = tb t.f0 t.f2 := by
  obtain ⟨l, s, m⟩ := t
  have := h.sz
  simp only at this
  subst this
  rfl
theorem addL_le (l : List S52) {most : Int} (f : S52) (hm : 0 ≤ most) : tsz (addL l most f) ≤ most := by
  unfold addL
  split
  · simp [tsz]; exact hm
  · rename_i h
    rw [tsz_app]
    have e : tsz [strip f] = fsz f := by simp [tsz, strip, fsz]
    rw [e]
    rcases keep_le l (most - fsz f) with h2 | h2
    · omega
    · rw [h2]
      simp only [tsz]
      omega
theorem tb_ok {l : List S52} {most : Int} (h : tsz l ≤ most) (hm : 0 ≤ most ∧ most < 4294967296) : Tok (tb l most) := ⟨rfl, h, hm⟩
theorem add_f (t : S79) (f : S52) (h : Tok t) (hf : okF f) (k : Nat) (hk : 134217728 < k) : dyntable_Table_Add.f k t f = some (tb (addL t.f0 t.f2 f) t.f2) := by
  have h1 := fsz_hi hf
  have h2 := fsz_lo f
  have h3 := tsz_lo t.f0
  obtain ⟨a, b, c⟩ := id h
  unfold dyntable_Table_Add.f
  rw [eta, size_f f (by omega)]
  simp only [bnd1]
  rw [within_f t (fsz f) a (by omega) (by omega) k (by have := h.len; omega)]
  simp only [bnd1, lt1]
  unfold addL
  by_cases hc : fsz f > t.f2
  · rw [if_pos hc, if_pos hc, keep_none _ (by omega)]
    rfl
  · have h5 := keep_le t.f0 (t.f2 - fsz f)
    have h6 := tsz_lo (keep t.f0 (t.f2 - fsz f))
    have h7 : tsz (keep t.f0 (t.f2 - fsz f)) ≤ t.f2 - fsz f := by
      rcases h5 with h5 | h5
      · exact h5
      · rw [h5]
        simp only [tsz]
        omega
    rw [if_neg hc, if_neg hc, if_pos (by omega), wi64 (by omega) (by omega)]
    unfold tb
    rw [tsz_app]
    have e : tsz [strip f] = fsz f := by simp [tsz, strip, fsz]
    rw [e]
    rfl
theorem limit_f (t : S79) (m : Int) (h : Tok t) (hm : 0 ≤ m ∧ m < 4294967296) (k : Nat) (hk : 134217728 < k) : dyntable_Table_Limit.f k t m = some (tb (keep t.f0 m) m) := by
  obtain ⟨a, b, c⟩ := id h
  have h3 := tsz_lo t.f0
  unfold dyntable_Table_Limit.f
  rw [wi64 (by omega) (by omega), within_f (⟨t.f0, t.f1, m⟩ : S79) 0 a (by dsimp only; omega) (by dsimp only; omega) k (by have := h.len; dsimp only; omega)]
  simp only [bnd1, Int.sub_zero]
  rfl
theorem keep_le0 (l : List S52) {m : Int} (hm : 0 ≤ m) : tsz (keep l m) ≤ m := by
  rcases keep_le l m with h | h
  · exact h
  · rw [h]
    simp only [tsz]
    exact hm
/-! numbers and fields -/
theorem gt_rev (l : List S52) (i : Nat) (h : i < l.length) : gt z52 l.reverse (i : Int) = gt z52 l ((l.length - 1 - i : Nat) : Int) := by
  rw [gt_nat z52 _ i (by simpa using h), gt_nat z52 l (l.length - 1 - i) (by omega), List.getElem_reverse]
/-! finding -/
def fdl (name value : List UInt8) : List S52 → Int → Int → Int × Bool
  | [], first, i => (first, false)
  | x :: l, first, i => if x.f0 = name then (if x.f1 = value then (62 + i, true) else fdl name value l (if first = 0 then 62 + i else first) (i + 1)) else fdl name value l first (i + 1)
def w0 (name value : List UInt8) : List S52 → Int → Option (Int × Bool)
  | [], i => none
  | x :: l, i => if x.f0 = name ∧ x.f1 = value then some (62 + i, true) else w0 name value l (i + 1)
def w1 (name : List UInt8) : List S52 → Int → Int → Int
  | [], n, i => n
  | x :: l, n, i => if n = 0 ∧ x.f0 = name then w1 name l (62 + i) (i + 1) else w1 name l n (i + 1)
theorem fdl_eq (name value : List UInt8) : ∀ (l : List S52) (first i : Int), fdl name value l first i = (w0 name value l i).getD (w1 name l first i, false)
  | [], first, i => rfl
  | x :: l, first, i => by
    simp only [fdl, w0, w1]
    by_cases h1 : x.f0 = name
    · rw [if_pos h1]
      by_cases h2 : x.f1 = value
      · rw [if_pos h2, if_pos (c := x.f0 = name ∧ x.f1 = value) ⟨h1, h2⟩]
        rfl
      · rw [if_neg h2, if_neg (c := x.f0 = name ∧ x.f1 = value) (fun q => h2 q.2), fdl_eq name value l]
        by_cases h3 : first = 0
        · rw [if_pos h3, if_pos (c := first = 0 ∧ x.f0 = name) ⟨h3, h1⟩]
        · rw [if_neg h3, if_neg (c := first = 0 ∧ x.f0 = name) (fun q => h3 q.1)]
    · rw [if_neg h1, if_neg (c := x.f0 = name ∧ x.f1 = value) (fun q => h1 q.1), if_neg (c := first = 0 ∧ x.f0 = name) (fun q => h1 q.2), fdl_eq name value l]
theorem tfind_l0 (t : S79) (name value : List UInt8) (hl : t.f0.length ≤ 134217728) : ∀ (m k i : Nat) (first : Int), i + m = t.f0.length → m < k → dyntable_Table_Find.l0 k first i t name value = some (fdl name value (t.f0.reverse.drop i) first i) := by
  intro m
  induction m with
  | zero =>
    intro k i first hi hk
    obtain ⟨k, rfl⟩ : ∃ k', k = k' + 1 := ⟨k - 1, by omega⟩
    rw [dyntable_Table_Find.l0, if_neg (by omega), List.drop_eq_nil_of_le (by simp; omega)]
    rfl
  | succ m ih =>
    intro k i first hi hk
    obtain ⟨k, rfl⟩ : ∃ k', k = k' + 1 := ⟨k - 1, by omega⟩
    have e1 : IntKind.i64.wrap (IntKind.i64.wrap ((t.f0.length : Int) - 1) - (i : Int)) = ((t.f0.length - 1 - i : Nat) : Int) := by
      rw [wi64 (by rw [wi64] <;> omega) (by rw [wi64] <;> omega), wi64 (by omega) (by omega)]
      omega
    have e2 : IntKind.i64.wrap (IntKind.i64.wrap (61 + 1) + (i : Int)) = 62 + (i : Int) := by
      rw [wi64 (by rw [wi64] <;> omega) (by rw [wi64] <;> omega), wi64 (by omega) (by omega)]
      omega
    have e3 : IntKind.i64.wrap ((i : Int) + 1) = ((i + 1 : Nat) : Int) := by rw [wi64 (by omega) (by omega)]; omega
    have e4 : (i : Int) + 1 = ((i + 1 : Nat) : Int) := by omega
    rw [dyntable_Table_Find.l0, if_pos (by omega), e1, if_pos (by omega), if_pos (by omega)]
    unfold statics_Len.f
    simp only [bnd1]
    rw [e2, e3, drop_at' z52 t.f0.reverse i (by simp; omega), fdl, gt_rev _ _ (by omega), e4]
    by_cases h1 : (gt z52 t.f0 ((t.f0.length - 1 - i : Nat) : Int)).f0 = name
    · rw [if_pos h1, if_pos h1]
      by_cases h2 : (gt z52 t.f0 ((t.f0.length - 1 - i : Nat) : Int)).f1 = value
      · rw [if_pos h2, if_pos h2]
      · rw [if_neg h2, if_neg h2]
        by_cases h3 : first = 0
        · rw [if_pos h3, if_pos h3]
          exact ih k (i + 1) _ (by omega) (by omega)
        · rw [if_neg h3, if_neg h3]
          exact ih k (i + 1) _ (by omega) (by omega)
    · rw [if_neg h1, if_neg h1]
      exact ih k (i + 1) _ (by omega) (by omega)
theorem tfind_f (t : S79) (name value : List UInt8) (hl : t.f0.length ≤ 134217728) (k : Nat) (hk : 134217728 < k) : dyntable_Table_Find.f k t name value = some (if (fnd name value G0 0 0).2 = true then ((fnd name value G0 0 0).1, true) else fdl name value t.f0.reverse (fnd name value G0 0 0).1 0) := by
  unfold dyntable_Table_Find.f
  rw [find_f _ _ _ (by omega)]
  generalize fnd name value G0 0 0 = r
  obtain ⟨n, b⟩ := r
  simp only [bnd2]
  by_cases h : b = true
  · rw [if_pos h, if_pos h]
  · rw [if_neg h, if_neg h]
    exact tfind_l0 t name value hl t.f0.length k 0 n (by omega) (by omega)
/-! what is too great to be gone through -/
theorem great_l0 (l : List S52) (hl : l.length < 4611686018427387904) : ∀ (m k i : Nat) (n : Int), i + m = l.length → m < k → 0 ≤ n → n ≤ 9000 → ∃ r, louverref05qGreat.l0 k n i l = some r := by
  intro m
  induction m with
  | zero =>
    intro k i n hi hk h0 h1
    obtain ⟨k, rfl⟩ : ∃ k', k = k' + 1 := ⟨k - 1, by omega⟩
    rw [louverref05qGreat.l0, if_neg (by omega)]
    exact ⟨_, rfl⟩
  | succ m ih =>
    intro k i n hi hk h0 h1
    obtain ⟨k, rfl⟩ : ∃ k', k = k' + 1 := ⟨k - 1, by omega⟩
    rw [louverref05qGreat.l0, if_pos (by omega), if_pos (by omega), mn_eq, mn_eq]
    generalize gt z52 l (i : Int) = f
    have e : IntKind.i64.wrap (n + IntKind.i64.wrap (IntKind.i64.wrap (1 + min (f.f0.length : Int) 9000) + min (f.f1.length : Int) 9000)) = n + (1 + min (f.f0.length : Int) 9000 + min (f.f1.length : Int) 9000) := by
      rw [wi64 (x := 1 + min (f.f0.length : Int) 9000) (by omega) (by omega), wi64 (x := 1 + min (f.f0.length : Int) 9000 + min (f.f1.length : Int) 9000) (by omega) (by omega), wi64 (by omega) (by omega)]
    rw [e]
    by_cases hc : n + (1 + min (f.f0.length : Int) 9000 + min (f.f1.length : Int) 9000) > 9000
    · rw [if_pos hc]
      exact ⟨_, rfl⟩
    · rw [if_neg hc, wi64 (by omega) (by omega), show (i : Int) + 1 = ((i + 1 : Nat) : Int) by omega]
      exact ih k (i + 1) _ (by omega) (by omega) (by omega) (by omega)
theorem great_f (l : List S52) (hl : l.length < 4611686018427387904) (k : Nat) (hk : l.length < k) : ∃ r, louverref05qGreat.f k l = some r := by
  unfold louverref05qGreat.f
  exact great_l0 l hl l.length k 0 0 (by omega) hk (by omega) (by omega)
end Go.Proofs.YtinebjcfgmoniaaDoor.Sl
