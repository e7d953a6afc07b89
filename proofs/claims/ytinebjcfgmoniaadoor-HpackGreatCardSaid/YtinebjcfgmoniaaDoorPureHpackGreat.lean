/- louverlaw06qHpackGreat_true, plain: what the program's functions compute answers as the statement says. -/
import Derived.Test.YtinebjcfgmoniaaDoorCodeHpackGreat3
import Derived.Test.YtinebjcfgmoniaaDoorSlP
import Derived.KernelRfl
set_option linter.unusedVariables false
set_option linter.unusedSimpArgs false
namespace Go.Proofs.YtinebjcfgmoniaaDoor.Sl
open Go Go.Proofs.Sl
theorem mn_eq (x y : Int) : mnI x y = min x y := by unfold mnI; split <;> omega
def fnd (name value : List UInt8) : List S52 → Int → Int → Int × Bool
  | [], first, i => (first, false)
  | x :: l, first, i => if x.f0 = name then (if x.f1 = value then (i + 1, true) else fnd name value l (if first = 0 then i + 1 else first) (i + 1)) else fnd name value l first (i + 1)
theorem gt_nat {α : Type} (z : α) (l : List α) (i : Nat) (h : i < l.length) : gt z l (i : Int) = l[i] := by simp [gt, List.getD_eq_getElem?_getD, h]
theorem drop_at' {α : Type} (z : α) (l : List α) (i : Nat) (h : i < l.length) : l.drop i = gt z l (i : Int) :: l.drop (i + 1) := by
  rw [List.drop_eq_getElem_cons h, gt_nat z l i h]
theorem find_l0 (name value : List UInt8) : ∀ (m k i : Nat) (first : Int), i + m = 61 → m < k → statics_Find.l0 k first i name value = some (fnd name value (G0.drop i) first i) := by
  intro m
  induction m with
  | zero =>
    intro k i first hi hk
    obtain ⟨k, rfl⟩ : ∃ k', k = k' + 1 := ⟨k - 1, by omega⟩
    rw [statics_Find.l0, if_neg (by omega), List.drop_eq_nil_of_le (by rw [G0qlen]; omega)]
    rfl
  | succ m ih =>
    intro k i first hi hk
    obtain ⟨k, rfl⟩ : ∃ k', k = k' + 1 := ⟨k - 1, by omega⟩
    rw [statics_Find.l0, if_pos (by omega), if_pos (by omega), if_pos (by omega), drop_at' z52 G0 i (by rw [G0qlen]; omega), fnd]
    have e : IntKind.i64.wrap ((i : Int) + 1) = ((i + 1 : Nat) : Int) := by rw [wi64 (by omega) (by omega)]; omega
    simp only [e]
    have e2 : (i : Int) + 1 = ((i + 1 : Nat) : Int) := by omega
    rw [e2]
    by_cases h1 : (gt z52 G0 (i : Int)).f0 = name
    · rw [if_pos h1, if_pos h1]
      by_cases h2 : (gt z52 G0 (i : Int)).f1 = value
      · rw [if_pos h2, if_pos h2]
      · rw [if_neg h2, if_neg h2]
        by_cases h3 : first = 0
        · rw [if_pos h3, if_pos h3]
          exact ih k (i + 1) _ (by omega) (by omega)
        · rw [if_neg h3, if_neg h3]
          exact ih k (i + 1) _ (by omega) (by omega)
    · rw [if_neg h1, if_neg h1]
      exact ih k (i + 1) _ (by omega) (by omega)
theorem find_f (name value : List UInt8) (k : Nat) (hk : 61 < k) : statics_Find.f k name value = some (fnd name value G0 0 0) := by
  unfold statics_Find.f
  exact find_l0 name value 61 k 0 0 rfl hk
def r1 (name : List UInt8) : List S52 → Int → Int × Bool
  | [], i => (0, false)
  | x :: l, i => if x.f0 = name then (i + 1, false) else r1 name l (i + 1)
def fsz (f : S52) : Int := f.f0.length + f.f1.length + 32
def strip (f : S52) : S52 := ⟨f.f0, f.f1, false⟩
def tsz : List S52 → Int
  | [] => 0
  | x :: l => fsz x + tsz l
def okF (f : S52) : Prop := okS f.f0 ∧ okS f.f1 ∧ okB f.f2
theorem fsz_lo (f : S52) : 32 ≤ fsz f := by unfold fsz; omega
theorem fsz_hi {f : S52} (h : okF f) : fsz f ≤ 281474976702496 := by
  have h1 : f.f0.length ≤ 140737488351232 := h.1
  have h2 : f.f1.length ≤ 140737488351232 := h.2.1
  unfold fsz
  omega
theorem tsz_lo : ∀ l, 32 * (l.length : Int) ≤ tsz l
  | [] => by simp [tsz]
  | x :: l => by have := tsz_lo l; have := fsz_lo x; simp only [tsz, List.length_cons]; omega
theorem tsz_app (a b : List S52) : tsz (a ++ b) = tsz a + tsz b := by
  induction a with
  | nil => simp [tsz]
  | cons x a ih => simp only [List.cons_append, tsz, ih]; omega
def keep : List S52 → Int → List S52
  | [], _ => []
  | x :: l, lim => if tsz (x :: l) > lim then keep l lim else x :: l
theorem keep_suf : ∀ (l : List S52) (lim : Int), keep l lim <:+ l
  | [], _ => List.suffix_refl _
  | x :: l, lim => by
    unfold keep
    split
    · exact (keep_suf l lim).trans (List.suffix_cons x l)
    · exact List.suffix_refl _
theorem keep_le : ∀ (l : List S52) (lim : Int), tsz (keep l lim) ≤ lim ∨ keep l lim = []
  | [], _ => .inr rfl
  | x :: l, lim => by
    unfold keep
    split
    · exact keep_le l lim
    · exact .inl (by omega)
theorem keep_all {l : List S52} {lim : Int} (h : tsz l ≤ lim) : keep l lim = l := by
  cases l with
  | nil => rfl
  | cons x l => unfold keep; rw [if_neg (by omega)]
theorem keep_none : ∀ (l : List S52) {lim : Int}, lim < 32 → keep l lim = []
  | [], _, _ => rfl
  | x :: l, lim, h => by
    unfold keep
    have h1 := tsz_lo (x :: l)
    simp only [List.length_cons] at h1
    rw [if_pos (by omega)]
    exact keep_none l h
theorem suf_len {a l : List S52} (h : a <:+ l) : tsz a ≤ tsz l := by
  obtain ⟨p, rfl⟩ := h
  rw [tsz_app]
  have := tsz_lo p
  omega
theorem size_f (f : S52) (h : fsz f < 4611686018427387904) : dyntable_Size.f f = some (fsz f) := by
  have := fsz_lo f
  unfold fsz at h this
  unfold dyntable_Size.f fsz
  rw [wi64 (by rw [wi64] <;> omega) (by rw [wi64] <;> omega), wi64 (by omega) (by omega)]
theorem del_f (l : List S52) (j : Nat) (h : j ≤ l.length) : api_Field.f l 0 (j : Int) = some (l.drop j) := by
  unfold api_Field.f
  rw [if_pos (by omega), if_pos (by omega), if_pos (by omega)]
  by_cases h0 : (0 : Int) = (j : Int)
  · rw [if_pos h0]
    have : j = 0 := by omega
    subst this
    rfl
  · rw [if_neg h0]
    simp
theorem eta (f : S52) : (⟨f.f0, f.f1, f.f2⟩ : S52) = f := rfl
theorem within_l0 (l : List S52) (most room : Int) (hr : -4611686018427387904 < most - room ∧ most - room < 4611686018427387904) (ht : tsz l < 4611686018427387904) : ∀ (m k j : Nat), j + m = l.length → m < k →
    dyntable_Table_within.l0 k (⟨l, tsz (l.drop j), most⟩ : S79) j room = some (⟨keep (l.drop j) (most - room), tsz (keep (l.drop j) (most - room)), most⟩ : S79) := by
  intro m
  induction m with
  | zero =>
    intro k j hj hk
    obtain ⟨k, rfl⟩ : ∃ k', k = k' + 1 := ⟨k - 1, by omega⟩
    rw [dyntable_Table_within.l0, if_neg (by dsimp only; omega), del_f _ _ (by dsimp only; omega)]
    simp only [bnd1]
    rw [List.drop_eq_nil_of_le (by omega)]
    rfl
  | succ m ih =>
    intro k j hj hk
    obtain ⟨k, rfl⟩ : ∃ k', k = k' + 1 := ⟨k - 1, by omega⟩
    have hd := drop_at' z52 l j (by omega)
    have h1 : tsz (l.drop j) = fsz (gt z52 l (j : Int)) + tsz (l.drop (j + 1)) := by rw [hd]; rfl
    have h2 := suf_len (List.drop_suffix j l)
    have h0 := tsz_lo l
    have h3 := tsz_lo (l.drop (j + 1))
    have h4 := fsz_lo (gt z52 l (j : Int))
    rw [dyntable_Table_within.l0, if_pos (by dsimp only; omega)]
    simp only
    rw [wi64 (by omega) (by omega), eta, size_f _ (by omega), del_f _ _ (by omega)]
    simp only [bnd1]
    by_cases hc : tsz (l.drop j) > most - room
    · rw [if_pos hc, if_pos (by omega), wi64 (by omega) (by omega), wi64 (by omega) (by omega)]
      have e1 : tsz (l.drop j) - fsz (gt z52 l (j : Int)) = tsz (l.drop (j + 1)) := by omega
      rw [e1, show (j : Int) + 1 = ((j + 1 : Nat) : Int) by omega, ih k (j + 1) (by omega) (by omega)]
      have e2 : keep (l.drop j) (most - room) = keep (l.drop (j + 1)) (most - room) := by
        rw [hd, keep, if_pos (by rw [← hd]; exact hc)]
      rw [e2]
    · rw [if_neg hc, keep_all (by omega)]
structure Tok (t : S79) : Prop where
  sz : t.f1 = tsz t.f0
  le : t.f1 ≤ t.f2
  mo : 0 ≤ t.f2 ∧ t.f2 < 4294967296
theorem Tok.len {t : S79} (h : Tok t) : t.f0.length ≤ 134217728 := by
  have := tsz_lo t.f0
  have := h.sz
  have := h.le
  have := h.mo
  omega
theorem within_f (t : S79) (room : Int) (hs : t.f1 = tsz t.f0) (hr : -4611686018427387904 < t.f2 - room ∧ t.f2 - room < 4611686018427387904) (ht : tsz t.f0 < 4611686018427387904) (k : Nat) (hk : t.f0.length < k) :
    dyntable_Table_within.f k t room = some (⟨keep t.f0 (t.f2 - room), tsz (keep t.f0 (t.f2 - room)), t.f2⟩ : S79) := by
  obtain ⟨l, s, most⟩ := t
  simp only at hs hr ht hk ⊢
  subst hs
  have := within_l0 l most room hr ht l.length k 0 (by omega) hk
  simpa [dyntable_Table_within.f] using this
def addL (l : List S52) (most : Int) (f : S52) : List S52 := if fsz f > most then [] else keep l (most - fsz f) ++ [strip f]
def tb (l : List S52) (most : Int) : S79 := ⟨l, tsz l, most⟩
theorem addL_le (l : List S52) {most : Int} (f : S52) (hm : 0 ≤ most) : tsz (addL l most f) ≤ most := by
  unfold addL
  split
  · simp [tsz]; exact hm
  · rename_i h
    rw [tsz_app]
    have e : tsz [strip f] = fsz f := by simp [tsz, strip, fsz]
    rw [e]
    rcases keep_le l (most - fsz f) with h2 | h2
    · omega
    · rw [h2]
      simp only [tsz]
      omega
theorem tb_ok {l : List S52} {most : Int} (h : tsz l ≤ most) (hm : 0 ≤ most ∧ most < 4294967296) : Tok (tb l most) := ⟨rfl, h, hm⟩
theorem add_f (t : S79) (f : S52) (h : Tok t) (hf : okF f) (k : Nat) (hk : 134217728 < k) : dyntable_Table_Add.f k t f = some (tb (addL t.f0 t.f2 f) t.f2) := by
  have h1 := fsz_hi hf
  have h2 := fsz_lo f
  have h3 := tsz_lo t.f0
  obtain ⟨a, b, c⟩ := id h
  unfold dyntable_Table_Add.f
  rw [eta, size_f f (by omega)]
  simp only [bnd1]
  rw [within_f t (fsz f) a (by omega) (by omega) k (by have := h.len; omega)]
  simp only [bnd1, lt1]
  unfold addL
  by_cases hc : fsz f > t.f2
  · rw [if_pos hc, if_pos hc, keep_none _ (by omega)]
    rfl
  · have h5 := keep_le t.f0 (t.f2 - fsz f)
    have h6 := tsz_lo (keep t.f0 (t.f2 - fsz f))
    have h7 : tsz (keep t.f0 (t.f2 - fsz f)) ≤ t.f2 - fsz f := by
      rcases h5 with h5 | h5
      · exact h5
      · rw [h5]
        simp only [tsz]
        omega
    rw [if_neg hc, if_neg hc, if_pos (by omega), wi64 (by omega) (by omega)]
    unfold tb
    rw [tsz_app]
    have e : tsz [strip f] = fsz f := by simp [tsz, strip, fsz]
    rw [e]
    rfl
theorem limit_f (t : S79) (m : Int) (h : Tok t) (hm : 0 ≤ m ∧ m < 4294967296) (k : Nat) (hk : 134217728 < k) : dyntable_Table_Limit.f k t m = some (tb (keep t.f0 m) m) := by
  obtain ⟨a, b, c⟩ := id h
  have h3 := tsz_lo t.f0
  unfold dyntable_Table_Limit.f
  rw [wi64 (by omega) (by omega), within_f (⟨t.f0, t.f1, m⟩ : S79) 0 a (by dsimp only; omega) (by dsimp only; omega) k (by have := h.len; dsimp only; omega)]
  simp only [bnd1, Int.sub_zero]
  rfl
theorem keep_le0 (l : List S52) {m : Int} (hm : 0 ≤ m) : tsz (keep l m) ≤ m := by
  rcases keep_le l m with h | h
  · exact h
  · rw [h]
    simp only [tsz]
    exact hm
/-! numbers and fields -/
theorem gt_rev (l : List S52) (i : Nat) (h : i < l.length) : gt z52 l.reverse (i : Int) = gt z52 l ((l.length - 1 - i : Nat) : Int) := by
  rw [gt_nat z52 _ i (by simpa using h), gt_nat z52 l (l.length - 1 - i) (by omega), List.getElem_reverse]
/-! finding -/
def fdl (name value : List UInt8) : List S52 → Int → Int → Int × Bool
  | [], first, i => (first, false)
  | x :: l, first, i => if x.f0 = name then (if x.f1 = value then (62 + i, true) else fdl name value l (if first = 0 then 62 + i else first) (i + 1)) else fdl name value l first (i + 1)
def w0 (name value : List UInt8) : List S52 → Int → Option (Int × Bool)
  | [], i => none
  | x :: l, i => if x.f0 = name ∧ x.f1 = value then some (62 + i, true) else w0 name value l (i + 1)
def w1 (name : List UInt8) : List S52 → Int → Int → Int
  | [], n, i => n
  | x :: l, n, i => if n = 0 ∧ x.f0 = name then w1 name l (62 + i) (i + 1) else w1 name l n (i + 1)
theorem tfind_l0 (t : S79) (name value : List UInt8) (hl : t.f0.length ≤ 134217728) : ∀ (m k i : Nat) (first : Int), i + m = t.f0.length → m < k → dyntable_Table_Find.l0 k first i t name value = some (fdl name value (t.f0.reverse.drop i) first i) := by
  intro m
  induction m with
  | zero =>
    intro k i first hi hk
    obtain ⟨k, rfl⟩ : ∃ k', k = k' + 1 := ⟨k - 1, by omega⟩
    rw [dyntable_Table_Find.l0, if_neg (by omega), List.drop_eq_nil_of_le (by simp; omega)]
    rfl
  | succ m ih =>
    intro k i first hi hk
    obtain ⟨k, rfl⟩ : ∃ k', k = k' + 1 := ⟨k - 1, by omega⟩
    have e1 : IntKind.i64.wrap (IntKind.i64.wrap ((t.f0.length : Int) - 1) - (i : Int)) = ((t.f0.length - 1 - i : Nat) : Int) := by
      rw [wi64 (by rw [wi64] <;> omega) (by rw [wi64] <;> omega), wi64 (by omega) (by omega)]
      omega
    have e2 : IntKind.i64.wrap (IntKind.i64.wrap (61 + 1) + (i : Int)) = 62 + (i : Int) := by
      rw [wi64 (by rw [wi64] <;> omega) (by rw [wi64] <;> omega), wi64 (by omega) (by omega)]
      omega
    have e3 : IntKind.i64.wrap ((i : Int) + 1) = ((i + 1 : Nat) : Int) := by rw [wi64 (by omega) (by omega)]; omega
    have e4 : (i : Int) + 1 = ((i + 1 : Nat) : Int) := by omega
    rw [dyntable_Table_Find.l0, if_pos (by omega), e1, if_pos (by omega), if_pos (by omega)]
    unfold statics_Len.f
    simp only [bnd1]
    rw [e2, e3, drop_at' z52 t.f0.reverse i (by simp; omega), fdl, gt_rev _ _ (by omega), e4]
    by_cases h1 : (gt z52 t.f0 ((t.f0.length - 1 - i : Nat) : Int)).f0 = name
    · rw [if_pos h1, if_pos h1]
      by_cases h2 : (gt z52 t.f0 ((t.f0.length - 1 - i : Nat) : Int)).f1 = value
      · rw [if_pos h2, if_pos h2]
      · rw [if_neg h2, if_neg h2]
        by_cases h3 : first = 0
        · rw [if_pos h3, if_pos h3]
          exact ih k (i + 1) _ (by omega) (by omega)
        · rw [if_neg h3, if_neg h3]
          exact ih k (i + 1) _ (by omega) (by omega)
    · rw [if_neg h1, if_neg h1]
      exact ih k (i + 1) _ (by omega) (by omega)
theorem tfind_f (t : S79) (name value : List UInt8) (hl : t.f0.length ≤ 134217728) (k : Nat) (hk : 134217728 < k) : dyntable_Table_Find.f k t name value = some (if (fnd name value G0 0 0).2 = true then ((fnd name value G0 0 0).1, true) else fdl name value t.f0.reverse (fnd name value G0 0 0).1 0) := by
  unfold dyntable_Table_Find.f
  rw [find_f _ _ _ (by omega)]
  generalize fnd name value G0 0 0 = r
  obtain ⟨n, b⟩ := r
  simp only [bnd2]
  by_cases h : b = true
  · rw [if_pos h, if_pos h]
  · rw [if_neg h, if_neg h]
    exact tfind_l0 t name value hl t.f0.length k 0 n (by omega) (by omega)
/-! what is too great to be gone through -/
def CODES : List S116 := [⟨8184, 13⟩, ⟨8388568, 23⟩, ⟨268435426, 28⟩, ⟨268435427, 28⟩, ⟨268435428, 28⟩, ⟨268435429, 28⟩, ⟨268435430, 28⟩, ⟨268435431, 28⟩, ⟨268435432, 28⟩,
  ⟨16777194, 24⟩, ⟨1073741820, 30⟩, ⟨268435433, 28⟩, ⟨268435434, 28⟩, ⟨1073741821, 30⟩, ⟨268435435, 28⟩, ⟨268435436, 28⟩, ⟨268435437, 28⟩, ⟨268435438,
  28⟩, ⟨268435439, 28⟩, ⟨268435440, 28⟩, ⟨268435441, 28⟩, ⟨268435442, 28⟩, ⟨1073741822, 30⟩, ⟨268435443, 28⟩, ⟨268435444, 28⟩, ⟨268435445, 28⟩,
  ⟨268435446, 28⟩, ⟨268435447, 28⟩, ⟨268435448, 28⟩, ⟨268435449, 28⟩, ⟨268435450, 28⟩, ⟨268435451, 28⟩, ⟨20, 6⟩, ⟨1016, 10⟩, ⟨1017, 10⟩, ⟨4090, 12⟩,
  ⟨8185, 13⟩, ⟨21, 6⟩, ⟨248, 8⟩, ⟨2042, 11⟩, ⟨1018, 10⟩, ⟨1019, 10⟩, ⟨249, 8⟩, ⟨2043, 11⟩, ⟨250, 8⟩, ⟨22, 6⟩, ⟨23, 6⟩, ⟨24, 6⟩, ⟨0, 5⟩, ⟨1, 5⟩, ⟨2, 5⟩,
  ⟨25, 6⟩, ⟨26, 6⟩, ⟨27, 6⟩, ⟨28, 6⟩, ⟨29, 6⟩, ⟨30, 6⟩, ⟨31, 6⟩, ⟨92, 7⟩, ⟨251, 8⟩, ⟨32764, 15⟩, ⟨32, 6⟩, ⟨4091, 12⟩, ⟨1020, 10⟩, ⟨8186, 13⟩, ⟨33, 6⟩,
  ⟨93, 7⟩, ⟨94, 7⟩, ⟨95, 7⟩, ⟨96, 7⟩, ⟨97, 7⟩, ⟨98, 7⟩, ⟨99, 7⟩, ⟨100, 7⟩, ⟨101, 7⟩, ⟨102, 7⟩, ⟨103, 7⟩, ⟨104, 7⟩, ⟨105, 7⟩, ⟨106, 7⟩, ⟨107, 7⟩, ⟨108,
  7⟩, ⟨109, 7⟩, ⟨110, 7⟩, ⟨111, 7⟩, ⟨112, 7⟩, ⟨113, 7⟩, ⟨114, 7⟩, ⟨252, 8⟩, ⟨115, 7⟩, ⟨253, 8⟩, ⟨8187, 13⟩, ⟨524272, 19⟩, ⟨8188, 13⟩, ⟨16380, 14⟩, ⟨34,
  6⟩, ⟨32765, 15⟩, ⟨3, 5⟩, ⟨35, 6⟩, ⟨4, 5⟩, ⟨36, 6⟩, ⟨5, 5⟩, ⟨37, 6⟩, ⟨38, 6⟩, ⟨39, 6⟩, ⟨6, 5⟩, ⟨116, 7⟩, ⟨117, 7⟩, ⟨40, 6⟩, ⟨41, 6⟩, ⟨42, 6⟩, ⟨7, 5⟩,
  ⟨43, 6⟩, ⟨118, 7⟩, ⟨44, 6⟩, ⟨8, 5⟩, ⟨9, 5⟩, ⟨45, 6⟩, ⟨119, 7⟩, ⟨120, 7⟩, ⟨121, 7⟩, ⟨122, 7⟩, ⟨123, 7⟩, ⟨32766, 15⟩, ⟨2044, 11⟩, ⟨16381, 14⟩, ⟨8189,
  13⟩, ⟨268435452, 28⟩, ⟨1048550, 20⟩, ⟨4194258, 22⟩, ⟨1048551, 20⟩, ⟨1048552, 20⟩, ⟨4194259, 22⟩, ⟨4194260, 22⟩, ⟨4194261, 22⟩, ⟨8388569, 23⟩,
  ⟨4194262, 22⟩, ⟨8388570, 23⟩, ⟨8388571, 23⟩, ⟨8388572, 23⟩, ⟨8388573, 23⟩, ⟨8388574, 23⟩, ⟨16777195, 24⟩, ⟨8388575, 23⟩, ⟨16777196, 24⟩, ⟨16777197,
  24⟩, ⟨4194263, 22⟩, ⟨8388576, 23⟩, ⟨16777198, 24⟩, ⟨8388577, 23⟩, ⟨8388578, 23⟩, ⟨8388579, 23⟩, ⟨8388580, 23⟩, ⟨2097116, 21⟩, ⟨4194264, 22⟩, ⟨8388581,
  23⟩, ⟨4194265, 22⟩, ⟨8388582, 23⟩, ⟨8388583, 23⟩, ⟨16777199, 24⟩, ⟨4194266, 22⟩, ⟨2097117, 21⟩, ⟨1048553, 20⟩, ⟨4194267, 22⟩, ⟨4194268, 22⟩, ⟨8388584,
  23⟩, ⟨8388585, 23⟩, ⟨2097118, 21⟩, ⟨8388586, 23⟩, ⟨4194269, 22⟩, ⟨4194270, 22⟩, ⟨16777200, 24⟩, ⟨2097119, 21⟩, ⟨4194271, 22⟩, ⟨8388587, 23⟩, ⟨8388588,
  23⟩, ⟨2097120, 21⟩, ⟨2097121, 21⟩, ⟨4194272, 22⟩, ⟨2097122, 21⟩, ⟨8388589, 23⟩, ⟨4194273, 22⟩, ⟨8388590, 23⟩, ⟨8388591, 23⟩, ⟨1048554, 20⟩, ⟨4194274,
  22⟩, ⟨4194275, 22⟩, ⟨4194276, 22⟩, ⟨8388592, 23⟩, ⟨4194277, 22⟩, ⟨4194278, 22⟩, ⟨8388593, 23⟩, ⟨67108832, 26⟩, ⟨67108833, 26⟩, ⟨1048555, 20⟩, ⟨524273,
  19⟩, ⟨4194279, 22⟩, ⟨8388594, 23⟩, ⟨4194280, 22⟩, ⟨33554412, 25⟩, ⟨67108834, 26⟩, ⟨67108835, 26⟩, ⟨67108836, 26⟩, ⟨134217694, 27⟩, ⟨134217695, 27⟩,
  ⟨67108837, 26⟩, ⟨16777201, 24⟩, ⟨33554413, 25⟩, ⟨524274, 19⟩, ⟨2097123, 21⟩, ⟨67108838, 26⟩, ⟨134217696, 27⟩, ⟨134217697, 27⟩, ⟨67108839, 26⟩,
  ⟨134217698, 27⟩, ⟨16777202, 24⟩, ⟨2097124, 21⟩, ⟨2097125, 21⟩, ⟨67108840, 26⟩, ⟨67108841, 26⟩, ⟨268435453, 28⟩, ⟨134217699, 27⟩, ⟨134217700, 27⟩,
  ⟨134217701, 27⟩, ⟨1048556, 20⟩, ⟨16777203, 24⟩, ⟨1048557, 20⟩, ⟨2097126, 21⟩, ⟨4194281, 22⟩, ⟨2097127, 21⟩, ⟨2097128, 21⟩, ⟨8388595, 23⟩, ⟨4194282,
  22⟩, ⟨4194283, 22⟩, ⟨33554414, 25⟩, ⟨33554415, 25⟩, ⟨16777204, 24⟩, ⟨16777205, 24⟩, ⟨67108842, 26⟩, ⟨8388596, 23⟩, ⟨67108843, 26⟩, ⟨134217702, 27⟩,
  ⟨67108844, 26⟩, ⟨67108845, 26⟩, ⟨134217703, 27⟩, ⟨134217704, 27⟩, ⟨134217705, 27⟩, ⟨134217706, 27⟩, ⟨134217707, 27⟩, ⟨268435454, 28⟩, ⟨134217708, 27⟩,
  ⟨134217709, 27⟩, ⟨134217710, 27⟩, ⟨134217711, 27⟩, ⟨134217712, 27⟩, ⟨67108846, 26⟩, ⟨1073741823, 30⟩]
theorem codes_f (k : Nat) : huffman_codes.f (k + 7800) = some CODES := by kernel_rfl
theorem codes_at (k : Nat) (hk : 7800 ≤ k) : huffman_codes.f k = some CODES := by
  obtain ⟨k, rfl⟩ : ∃ k', k = k' + 7800 := ⟨k - 7800, by omega⟩
  exact codes_f k
/-! sizes -/
theorem all_sizes : ((List.range 256).all fun i => decide (5 ≤ gt (0 : Int) G1 (i : Int)) && decide (gt (0 : Int) G1 (i : Int) ≤ 30)) = true := by kernel_rfl
def szc (c : UInt8) : Int := gt (0 : Int) G1 (c.toNat : Int)
theorem szc_bd (c : UInt8) : 5 ≤ szc c ∧ szc c ≤ 30 := by
  have := List.all_eq_true.1 all_sizes c.toNat (by simpa using c.toNat_lt)
  simpa [szc] using this
def bits : List UInt8 → Int
  | [] => 0
  | c :: l => szc c + bits l
theorem bits_bd : ∀ l : List UInt8, 5 * (l.length : Int) ≤ bits l ∧ bits l ≤ 30 * (l.length : Int)
  | [] => by simp [bits]
  | c :: l => by
    have := bits_bd l
    have := szc_bd c
    simp only [bits, List.length_cons]
    omega
theorem size_l0 (s : List UInt8) (hs : s.length ≤ 100000000000000) : ∀ (m k i : Nat) (n : Int), i + m = s.length → m < k → 0 ≤ n → n ≤ 30 * (i : Int) → huffman_Size.l0 k n i s = some ((n + bits (s.drop i) + 7) / 8) := by
  intro m
  induction m with
  | zero =>
    intro k i n hi hk h0 h1
    obtain ⟨k, rfl⟩ : ∃ k', k = k' + 1 := ⟨k - 1, by omega⟩
    rw [huffman_Size.l0, if_neg (by omega), List.drop_eq_nil_of_le (by omega)]
    simp only [bits]
    rw [wi64 (x := n + 7) (by omega) (by omega), Int.tdiv_eq_ediv_of_nonneg (by omega), wi64 (by omega) (by omega), Int.add_zero]
  | succ m ih =>
    intro k i n hi hk h0 h1
    obtain ⟨k, rfl⟩ : ∃ k', k = k' + 1 := ⟨k - 1, by omega⟩
    have hlt : i < s.length := by omega
    have eb : btI s (i : Int) = ((s[i]).toNat : Int) := by simp [btI, List.getD_eq_getElem?_getD, hlt]
    have hu := (s[i]).toNat_lt
    have hz := szc_bd s[i]
    rw [huffman_Size.l0, if_pos (by omega), if_pos (by omega), eb, if_pos (by omega), if_pos (by omega)]
    have e1 : gt (0 : Int) G1 ((s[i]).toNat : Int) = szc s[i] := rfl
    rw [e1, wi64 (x := szc s[i]) (by omega) (by omega), wi64 (by omega) (by omega), wi64 (by omega) (by omega), show (i : Int) + 1 = ((i + 1 : Nat) : Int) by omega, ih k (i + 1) _ (by omega) (by omega) (by omega) (by omega)]
    rw [List.drop_eq_getElem_cons hlt, bits]
    congr 2
    omega
theorem clone_f {p : List Int} (h : p.length ≤ 140737488355328) : slices_Clone_byte_byte.f p = some p := by
  unfold slices_Clone_byte_byte.f
  rw [if_pos (by simpa using h)]
  rfl
theorem put_l0 (n : Int) (b : List Int) (h0 : 0 ≤ n) (h1 : n ≤ 16383) (hb : b.length ≤ 2000000) (k : Nat) (hk : 5 ≤ k) : ∃ y, prefix_Put.l0 k n b = some y ∧ y.length ≤ b.length + 2 := by
  obtain ⟨k, rfl⟩ : ∃ k', k = k' + 2 := ⟨k - 2, by omega⟩
  rw [show k + 2 = (k + 1) + 1 from rfl, prefix_Put.l0]
  by_cases hn : n > 127
  · rw [if_pos hn, if_pos (by omega)]
    simp only [lt1]
    have e : shrI .u32 n 7 = n / 128 := by rw [shrI_eq _ (by decide)]; rfl
    rw [e, prefix_Put.l0, if_neg (by omega), if_pos (by simp; omega)]
    exact ⟨_, rfl, by simp⟩
  · rw [if_neg hn, if_pos (by omega)]
    exact ⟨_, rfl, by simp⟩
theorem put_f (b : List Int) (bits first n : Int) (hbits : bits = 4 ∨ bits = 5 ∨ bits = 6 ∨ bits = 7) (h0 : 0 ≤ n) (h1 : n ≤ 16383) (hb : b.length ≤ 1000000) (k : Nat) (hk : 5 ≤ k) : ∃ y, prefix_Put.f k b bits first n = some y ∧ y.length ≤ b.length + 3 ∧ (n = 0 → y.length ≤ b.length + 1) := by
  have key : ∀ top : Int, 15 ≤ top → top ≤ 127 → IntKind.u32.wrap (shlI .u32 1 bits - 1) = top → 0 ≤ bits → prefix_right.f bits = some true → ∃ y, prefix_Put.f k b bits first n = some y ∧ y.length ≤ b.length + 3 ∧ (n = 0 → y.length ≤ b.length + 1) := by
    intro top t1 t2 ht hb0 hr
    unfold prefix_Put.f
    rw [clone_f (by omega), hr]
    simp only [bnd1, lt1, if_true]
    rw [if_neg (by omega), if_pos hb0, ht]
    by_cases hn : n < top
    · rw [if_pos hn, if_pos (by omega)]
      exact ⟨_, rfl, by simp, fun _ => by simp⟩
    · rw [if_neg hn, if_pos (by omega), wu32 (by omega) (by omega)]
      obtain ⟨y, hy, hl⟩ := put_l0 (n - top) (b ++ [bOr .u8 (bAndNot .u8 first (IntKind.u8.wrap top)) (IntKind.u8.wrap top)]) (by omega) (by omega) (by simp; omega) k hk
      refine ⟨y, hy, ?_, fun h => by omega⟩
      simp only [List.length_append, List.length_singleton] at hl
      omega
  rcases hbits with rfl | rfl | rfl | rfl
  · exact key 15 (by omega) (by omega) (by decide) (by omega) (by decide)
  · exact key 31 (by omega) (by omega) (by decide) (by omega) (by decide)
  · exact key 63 (by omega) (by omega) (by decide) (by omega) (by decide)
  · exact key 127 (by omega) (by omega) (by decide) (by omega) (by decide)
theorem ofS_length (s : List UInt8) : (ofS s).length = s.length := by simp [ofS]
def small (f : S52) : Prop := f.f0.length < 9000 ∧ f.f1.length < 9000
theorem fixed_f (k : Nat) : louverlaw06qfixed.f (k + 300) = some true := by kernel_rfl
theorem fixed_true (k : Nat) (hk : 300 ≤ k) : louverlaw06qfixed.f k = some true := by
  obtain ⟨k, rfl⟩ : ∃ k', k = k' + 300 := ⟨k - 300, by omega⟩
  exact fixed_f k
theorem fnd_bd (name value : List UInt8) : ∀ (l : List S52) (first i : Int), 0 ≤ first → 0 ≤ i → 0 ≤ (fnd name value l first i).1 ∧ ((fnd name value l first i).1 ≤ first ∨ (fnd name value l first i).1 ≤ i + l.length)
  | [], first, i, h, h2 => by simp [fnd]; omega
  | x :: l, first, i, h, h2 => by
    simp only [fnd, List.length_cons]
    by_cases h1 : x.f0 = name
    · rw [if_pos h1]
      by_cases h3 : x.f1 = value
      · rw [if_pos h3]
        dsimp only
        omega
      · rw [if_neg h3]
        by_cases h4 : first = 0
        · rw [if_pos h4]
          have := fnd_bd name value l (i + 1) (i + 1) (by omega) (by omega)
          omega
        · rw [if_neg h4]
          have := fnd_bd name value l first (i + 1) h (by omega)
          omega
    · rw [if_neg h1]
      have := fnd_bd name value l first (i + 1) h (by omega)
      omega
theorem fdl_bd (name value : List UInt8) : ∀ (l : List S52) (first i : Int), 0 ≤ first → 0 ≤ i → 0 ≤ (fdl name value l first i).1 ∧ ((fdl name value l first i).1 ≤ first ∨ (fdl name value l first i).1 ≤ 62 + i + l.length)
  | [], first, i, h, h2 => by simp [fdl]; omega
  | x :: l, first, i, h, h2 => by
    simp only [fdl, List.length_cons]
    by_cases h1 : x.f0 = name
    · rw [if_pos h1]
      by_cases h3 : x.f1 = value
      · rw [if_pos h3]
        dsimp only
        omega
      · rw [if_neg h3]
        by_cases h4 : first = 0
        · rw [if_pos h4]
          have := fdl_bd name value l (62 + i) (i + 1) (by omega) (by omega)
          omega
        · rw [if_neg h4]
          have := fdl_bd name value l first (i + 1) h (by omega)
          omega
    · rw [if_neg h1]
      have := fdl_bd name value l first (i + 1) h (by omega)
      omega
theorem find_bd (t : S79) (name value : List UInt8) (hl : t.f0.length ≤ 134217728) (k : Nat) (hk : 134217728 < k) : ∃ n b, dyntable_Table_Find.f k t name value = some (n, b) ∧ 0 ≤ n ∧ n ≤ 62 + t.f0.length := by
  have h1 := fnd_bd name value G0 0 0 (by omega) (by omega)
  rw [G0qlen] at h1
  have h0 := tfind_f t name value hl k hk
  by_cases hc : (fnd name value G0 0 0).2 = true
  · rw [if_pos hc] at h0
    exact ⟨_, _, h0, by omega, by omega⟩
  · rw [if_neg hc] at h0
    have h2 := fdl_bd name value t.f0.reverse (fnd name value G0 0 0).1 0 h1.1 (by omega)
    simp only [List.length_reverse] at h2
    exact ⟨(fdl name value t.f0.reverse (fnd name value G0 0 0).1 0).1, (fdl name value t.f0.reverse (fnd name value G0 0 0).1 0).2, h0, h2.1, by omega⟩
/-! the encoder -/
structure Eok (p : S61) : Prop where
  t : Tok p.f0
  m : p.f0.f2 ≤ 4096
  l : 0 ≤ p.f2 ∧ p.f2 ≤ 4096
  n : 0 ≤ p.f3 ∧ p.f3 ≤ 4096
theorem Eok.len {p : S61} (h : Eok p) : p.f0.f0.length ≤ 128 := by
  have := tsz_lo p.f0.f0
  have := h.t.sz
  have := h.t.le
  have := h.m
  omega
namespace PX
def byts (l : List Int) : Prop := ∀ x ∈ l, 0 ≤ x ∧ x < 256
def vi : Nat → Int → List Int
  | 0, x => [x]
  | m + 1, x => if x > 127 then (x % 128 + 128) :: vi m (x / 128) else [x]
def Wf : List Int → Prop
  | [] => False
  | [t] => 0 ≤ t ∧ t < 128
  | t :: u :: r => (128 ≤ t ∧ t < 256) ∧ Wf (u :: r)
def vs : List Int → Int
  | [] => 0
  | t :: r => t % 128 + 128 * vs r
theorem wf_cons {t : Int} {l : List Int} (h1 : 128 ≤ t) (h2 : t < 256) (h : Wf l) : Wf (t :: l) := by
  cases l with
  | nil => exact absurd h (by simp [Wf])
  | cons u r => exact ⟨⟨h1, h2⟩, h⟩
theorem vi_ok : ∀ (m : Nat) (x : Int), 0 ≤ x → x < 128 ^ (m + 1) → Wf (vi m x) ∧ vs (vi m x) = x ∧ (vi m x).length ≤ m + 1 ∧ byts (vi m x)
  | 0, x, h0, h1 => by
    simp [vi, Wf, vs, byts] at h1 ⊢
    omega
  | m + 1, x, h0, h1 => by
    unfold vi
    split
    · have hx : x / 128 < 128 ^ (m + 1) := by
        rw [Int.pow_succ] at h1
        exact Int.ediv_lt_of_lt_mul (by omega) h1
      obtain ⟨a, b, c, d⟩ := vi_ok m (x / 128) (by omega) hx
      refine ⟨wf_cons (by omega) (by omega) a, ?_, by simp; omega, ?_⟩
      · simp only [vs, b]
        omega
      · intro y hy
        rcases List.mem_cons.1 hy with rfl | hy
        · omega
        · exact d y hy
    · simp [Wf, vs, byts]
      omega
def dv : Nat → Int → List Int → Int × Int × Int
  | _, _, [] => (0, 0, 2)
  | i, acc, t :: r => if i = 4 then (0, 0, 4) else if t < 128 then (if acc + t % 128 * 128 ^ i > 268435456 then (0, 0, 4) else (acc + t % 128 * 128 ^ i, i + 2, 0)) else dv (i + 1) (acc + t % 128 * 128 ^ i) r
theorem dv_wf : ∀ (gs : List Int) (i : Nat) (acc : Int), Wf gs → i ≤ 4 →
    dv i acc gs = if i + gs.length ≤ 4 then (if acc + vs gs * 128 ^ i > 268435456 then (0, 0, 4) else (acc + vs gs * 128 ^ i, (i : Int) + (gs.length : Int) + 1, 0)) else (0, 0, 4)
  | [], i, acc, h, _ => absurd h (by simp [Wf])
  | [t], i, acc, h, hi => by
    have e1 : vs [t] = t % 128 := by simp [vs]
    rw [dv, e1, List.length_singleton]
    by_cases h4 : i = 4
    · rw [if_pos h4, if_neg (by omega)]
    · rw [if_neg h4, if_pos h.2, if_pos (show i + 1 ≤ 4 by omega)]
      have e2 : ((i : Int) + ((1 : Nat) : Int) + 1) = i + 2 := by omega
      rw [e2]
  | t :: u :: r, i, acc, h, hi => by
    obtain ⟨⟨h1, h2⟩, h3⟩ := h
    rw [dv]
    by_cases h4 : i = 4
    · rw [if_pos h4, if_neg (by simp; omega)]
    · rw [if_neg h4, if_neg (by omega), dv_wf (u :: r) (i + 1) _ h3 (by omega)]
      have e : acc + t % 128 * 128 ^ i + vs (u :: r) * 128 ^ (i + 1) = acc + vs (t :: u :: r) * 128 ^ i := by
        rw [show vs (t :: u :: r) = t % 128 + 128 * vs (u :: r) from rfl]
        grind
      have e2 : i + 1 + (u :: r).length = i + (t :: u :: r).length := by simp; omega
      have e3 : ((i + 1 : Nat) : Int) + ((u :: r).length : Int) + 1 = (i : Int) + ((t :: u :: r).length : Int) + 1 := by simp; omega
      rw [e, e2, e3]
theorem and127 {t : Int} (h0 : 0 ≤ t) (h1 : t < 256) : bAnd .u8 t 127 = t % 128 := bAnd_mask .u8 rfl 7 (by decide) h0 h1
theorem and127w {t : Int} (h0 : 0 ≤ t) (h1 : t < 4294967296) : bAnd .u32 t 127 = t % 128 := bAnd_mask .u32 rfl 7 (by decide) h0 h1
theorem drop_cons {l : List Int} {i : Nat} (h : i < l.length) : l.drop i = gt 0 l i :: l.drop (i + 1) := by
  rw [List.drop_eq_getElem_cons h]
  simp [gt, List.getD_eq_getElem?_getD, List.getElem?_eq_getElem h]
theorem gt_mem {l : List Int} {i : Nat} (h : i < l.length) : gt 0 l (i : Int) ∈ l := by
  simp [gt, List.getD_eq_getElem?_getD, List.getElem?_eq_getElem h]
theorem get_l0 : ∀ (k i : Nat) (acc : Int) (p0 : List Int), byts p0 → i ≤ 4 → 4 - i < k → 0 ≤ acc → acc < 128 ^ i * 256 → prefix_Get.l0 k acc i p0 = some (dv i acc ((p0.drop 1).drop i)) := by
  intro k
  induction k with
  | zero => intro i acc p0 _ _ h; omega
  | succ k ih =>
    intro i acc p0 hb hi hk h0 ha
    have e1 : ((1 : Int).toNat) = 1 := rfl
    rw [prefix_Get.l0, e1]
    by_cases hl : (i : Int) < ((p0.drop 1).length : Int)
    · rw [if_pos hl, if_pos (show (0 : Int) ≤ i by omega)]
      have hl' : i < (p0.drop 1).length := by omega
      rw [drop_cons hl', dv]
      generalize ht : gt 0 (p0.drop 1) (i : Int) = t
      have htb : 0 ≤ t ∧ t < 256 := hb t (List.mem_of_mem_drop (ht ▸ gt_mem hl'))
      by_cases h4 : i = 4
      · rw [if_pos (by omega), if_pos h4]
      · rw [if_neg (by omega), if_neg h4]
        have e7 : IntKind.i64.wrap (7 * (i : Int)) = 7 * (i : Int) := wi64 (by omega) (by omega)
        have hs : shlI .u64 (IntKind.u64.wrap (bAnd .u8 t 127)) (7 * (i : Int)) = t % 128 * 128 ^ i := by
          rw [and127 htb.1 htb.2, wu64 (by omega) (by omega)]
          have : i = 0 ∨ i = 1 ∨ i = 2 ∨ i = 3 := by omega
          rcases this with rfl | rfl | rfl | rfl <;> rw [shlI_eq .u64 rfl (by decide) (by omega) (by simp [IntKind.bits]; omega)] <;> rfl
        rw [e7, hs]
        have hw : IntKind.u64.wrap (acc + t % 128 * 128 ^ i) = acc + t % 128 * 128 ^ i := by
          have : i = 0 ∨ i = 1 ∨ i = 2 ∨ i = 3 := by omega
          rcases this with rfl | rfl | rfl | rfl <;> simp at ha ⊢ <;> refine wu64 ?_ ?_ <;> omega
        rw [hw, if_pos (show (0 : Int) ≤ 7 * (i : Int) by omega)]
        have hn : acc + t % 128 * 128 ^ i < 128 ^ (i + 1) * 256 ∧ 0 ≤ acc + t % 128 * 128 ^ i := by
          have : i = 0 ∨ i = 1 ∨ i = 2 ∨ i = 3 := by omega
          rcases this with rfl | rfl | rfl | rfl <;> simp at ha ⊢ <;> omega
        by_cases hc : t < 128
        · rw [if_pos hc, if_pos hc]
          split
          · rfl
          · rw [wu32 hn.2 (by omega), wi64 (by omega) (by omega)]
        · rw [if_neg hc, if_neg hc, wi64 (by omega) (by omega)]
          exact ih (i + 1) _ p0 hb (by omega) (by omega) hn.2 hn.1
    · rw [if_neg hl, List.drop_eq_nil_of_le (by omega)]
      rfl
def tp (n : Int) : Int := 2 ^ n.toNat
def low (n b v : Int) : Int := b / tp n * tp n + v
def pre (n b v : Int) : List Int := if v < tp n - 1 then [low n b v] else low n b (tp n - 1) :: vi 3 (v - (tp n - 1))
theorem tp_cases {n : Int} (h1 : 1 ≤ n) (h2 : n ≤ 8) : (n = 1 ∧ tp n = 2) ∨ (n = 2 ∧ tp n = 4) ∨ (n = 3 ∧ tp n = 8) ∨ (n = 4 ∧ tp n = 16) ∨ (n = 5 ∧ tp n = 32) ∨ (n = 6 ∧ tp n = 64) ∨ (n = 7 ∧ tp n = 128) ∨ (n = 8 ∧ tp n = 256) := by
  have : n = 1 ∨ n = 2 ∨ n = 3 ∨ n = 4 ∨ n = 5 ∨ n = 6 ∨ n = 7 ∨ n = 8 := by omega
  rcases this with rfl | rfl | rfl | rfl | rfl | rfl | rfl | rfl <;> simp [tp]
theorem tp_bd {n : Int} (h1 : 1 ≤ n) (h2 : n ≤ 8) : 2 ≤ tp n ∧ tp n ≤ 256 := by
  rcases tp_cases h1 h2 with h | h | h | h | h | h | h | h <;> omega
theorem top_eq {n : Int} (h1 : 1 ≤ n) (h2 : n ≤ 8) : IntKind.u32.wrap (shlI .u32 1 n - 1) = tp n - 1 := by
  rcases tp_cases h1 h2 with ⟨rfl, h⟩ | ⟨rfl, h⟩ | ⟨rfl, h⟩ | ⟨rfl, h⟩ | ⟨rfl, h⟩ | ⟨rfl, h⟩ | ⟨rfl, h⟩ | ⟨rfl, h⟩ <;> rfl
theorem right_f (n : Int) : prefix_right.f n = some (decide (1 ≤ n ∧ n ≤ 8)) := by
  unfold prefix_right.f
  split
  · congr 1
    simp
    omega
  · congr 1
    simp
    omega
theorem andNot_all : ∀ b < 256, ∀ n < 9, bAndNot .u8 (b : Nat) (IntKind.u8.wrap ((2 : Int) ^ (n : Nat) - 1)) = (b : Int) / 2 ^ n * 2 ^ n := by decide +kernel
theorem andNot_eq {n b : Int} (h1 : 1 ≤ n) (h2 : n ≤ 8) (hb : 0 ≤ b ∧ b < 256) : bAndNot .u8 b (IntKind.u8.wrap (tp n - 1)) = b / tp n * tp n := by
  have := andNot_all b.toNat (by omega) n.toNat (by omega)
  rw [Int.toNat_of_nonneg hb.1] at this
  exact this
theorem or_low {n b v : Int} (h1 : 1 ≤ n) (h2 : n ≤ 8) (hb : 0 ≤ b ∧ b < 256) (hv : 0 ≤ v) (hv2 : v < tp n) : bOr .u8 (b / tp n * tp n) v = low n b v := by
  have := bOr_add .u8 rfl n.toNat (q := b / tp n) (c := v) (by rcases tp_cases h1 h2 with h | h | h | h | h | h | h | h <;> rw [h.2] <;> omega) hv hv2 (by
    show tp n * (b / tp n) + v < 256
    rcases tp_cases h1 h2 with h | h | h | h | h | h | h | h <;> rw [h.2] at hv2 ⊢ <;> omega)
  rw [show (2 : Int) ^ n.toNat = tp n from rfl, Int.mul_comm] at this
  exact this
theorem low_ok {n b v : Int} (h1 : 1 ≤ n) (h2 : n ≤ 8) (hb : 0 ≤ b ∧ b < 256) (hv : 0 ≤ v) (hv2 : v < tp n) : (0 ≤ low n b v ∧ low n b v < 256) ∧ low n b v % tp n = v ∧ low n b v / tp n = b / tp n := by
  unfold low
  rcases tp_cases h1 h2 with h | h | h | h | h | h | h | h <;> rw [h.2] at hv2 ⊢ <;> omega
theorem put_l0 : ∀ (m k : Nat) (x : Int) (acc : List Int), 0 ≤ x → x < 268435456 → x < 128 ^ (m + 1) → m < k → acc.length + m + 1 ≤ 140737488355328 → prefix_Put.l0 k x acc = some (acc ++ vi m x)
  | m, 0, x, acc, _, _, _, h, _ => by omega
  | 0, k + 1, x, acc, h0, h1, h2, hk, hl => by
    rw [prefix_Put.l0, if_neg (by simp at h2; omega), if_pos (by omega), wu8 h0 (by simp at h2; omega)]
    rfl
  | m + 1, k + 1, x, acc, h0, h1, h2, hk, hl => by
    rw [prefix_Put.l0]
    unfold vi
    split
    · rw [if_pos (by omega), and127w h0 (by omega), wu8 (by omega) (by omega), bOr_comm]
      have e : bOr .u8 128 (x % 128) = x % 128 + 128 := by
        have := bOr_add .u8 rfl 7 (q := 1) (c := x % 128) (by omega) (by omega) (by simp; omega) (by simp [IntKind.bits]; omega)
        simp at this
        omega
      have e2 : shrI .u32 x 7 = x / 128 := shrI_eq .u32 (by decide)
      rw [e, e2]
      show prefix_Put.l0 k (x / 128) (acc ++ [x % 128 + 128]) = _
      rw [put_l0 m k (x / 128) (acc ++ [x % 128 + 128]) (by omega) (by omega) (by rw [Int.pow_succ] at h2; exact Int.ediv_lt_of_lt_mul (by omega) h2) (by omega) (by simp; omega)]
      simp
    · rw [if_pos (by omega), wu8 h0 (by omega)]
      rfl
theorem clone_f {p : List Int} (h : p.length ≤ 140737488355328) : slices_Clone_byte_byte.f p = some p := by
  unfold slices_Clone_byte_byte.f
  rw [if_pos (by simpa using h)]
  rfl
theorem put_f {p : List Int} {n b v : Int} (k : Nat) (hp : p.length + 5 ≤ 140737488355328) (h1 : 1 ≤ n) (h2 : n ≤ 8) (hb : 0 ≤ b ∧ b < 256) (hv : 0 ≤ v) (hv2 : v ≤ 268435456) : prefix_Put.f (k + 4) p n b v = some (p ++ pre n b v) := by
  have ht := tp_bd h1 h2
  unfold prefix_Put.f
  rw [clone_f (by omega), right_f]
  simp only [bnd1]
  rw [if_pos (by simp; omega), if_neg (by omega), if_pos (by omega), top_eq h1 h2]
  unfold pre
  split
  · rw [if_pos (by omega), andNot_eq h1 h2 hb, wu8 hv (by omega), or_low h1 h2 hb hv (by omega)]
    rfl
  · rw [if_pos (by omega), andNot_eq h1 h2 hb, wu8 (by omega) (by omega), or_low h1 h2 hb (by omega) (by omega), wu32 (by omega) (by omega)]
    show prefix_Put.l0 (k + 4) _ (p ++ [_]) = _
    rw [put_l0 3 (k + 4) _ _ (by omega) (by omega) (by simp; omega) (by omega) (by simp; omega)]
    simp
def gd (p : List Int) (n : Int) : Int × Int × Int := match p with
  | [] => (0, 0, 2)
  | t :: r => if t % tp n < tp n - 1 then (t % tp n, 1, 0) else dv 0 (t % tp n) r
theorem get_f {p : List Int} {n : Int} (k : Nat) (hb : byts p) (h1 : 1 ≤ n) (h2 : n ≤ 8) : prefix_Get.f (k + 6) p n = some (gd p n) := by
  have ht := tp_bd h1 h2
  unfold prefix_Get.f
  rw [right_f]
  simp only [bnd1]
  rw [if_pos (by simp; omega)]
  cases p with
  | nil => rfl
  | cons t r =>
    have htb := hb t List.mem_cons_self
    have e0 : gt (0 : Int) (t :: r) (0 : Int) = t := rfl
    have ea : bAnd .u64 (IntKind.u64.wrap t) (IntKind.u64.wrap (tp n - 1)) = t % tp n := by
      rw [wu64 htb.1 (by omega), wu64 (by omega) (by omega)]
      exact bAnd_mask .u64 rfl n.toNat (by simp [IntKind.bits]; omega) htb.1 (by simp [IntKind.bits]; omega)
    have eb : IntKind.u64.wrap (tp n - 1) = tp n - 1 := wu64 (by omega) (by omega)
    have hm : 0 ≤ t % tp n ∧ t % tp n < tp n := ⟨Int.emod_nonneg _ (by omega), Int.emod_lt_of_pos _ (by omega)⟩
    rw [if_neg (by simp <;> omega), if_pos (by omega), if_pos (by simp <;> omega), e0, top_eq h1 h2, ea, eb]
    rw [show gd (t :: r) n = if t % tp n < tp n - 1 then (t % tp n, 1, 0) else dv 0 (t % tp n) r from rfl]
    by_cases hc : t % tp n < tp n - 1
    · rw [if_pos hc, if_pos hc, wu32 hm.1 (by omega)]
    · rw [if_neg hc, if_neg hc, if_pos (by simp <;> omega)]
      have := get_l0 (k + 6) 0 (t % tp n) (t :: r) hb (by omega) (by omega) hm.1 (by simp; omega)
      simpa using this
theorem pre_ok {n b v : Int} (h1 : 1 ≤ n) (h2 : n ≤ 8) (hb : 0 ≤ b ∧ b < 256) (hv : 0 ≤ v) (hv2 : v ≤ 268435456) :
    ∃ t r, pre n b v = t :: r ∧ byts (t :: r) ∧ t / tp n = b / tp n ∧ ((v < tp n - 1 ∧ t % tp n = v ∧ r = []) ∨ (tp n - 1 ≤ v ∧ t % tp n = tp n - 1 ∧ r = vi 3 (v - (tp n - 1)) ∧ Wf r ∧ vs r = v - (tp n - 1) ∧ r.length ≤ 4)) := by
  have ht := tp_bd h1 h2
  unfold pre
  split
  · obtain ⟨a, c, d⟩ := low_ok h1 h2 hb hv (by omega)
    exact ⟨_, _, rfl, by intro x hx; simp at hx; subst hx; exact a, d, .inl ⟨by omega, c, rfl⟩⟩
  · obtain ⟨a, c, d⟩ := low_ok h1 h2 hb (v := tp n - 1) (by omega) (by omega)
    obtain ⟨q1, q2, q3, q4⟩ := vi_ok 3 (v - (tp n - 1)) (by omega) (by simp; omega)
    refine ⟨_, _, rfl, ?_, d, .inr ⟨by omega, c, rfl, q1, q2, q3⟩⟩
    intro x hx
    rcases List.mem_cons.1 hx with rfl | hx
    · exact a
    · exact q4 x hx
theorem pre_byts {n b v : Int} (h1 : 1 ≤ n) (h2 : n ≤ 8) (hb : 0 ≤ b ∧ b < 256) (hv : 0 ≤ v) (hv2 : v ≤ 268435456) : byts (pre n b v) := by
  obtain ⟨t, r, e, h, _⟩ := pre_ok h1 h2 hb hv hv2
  rw [e]
  exact h
theorem pre_len {n b v : Int} (h1 : 1 ≤ n) (h2 : n ≤ 8) (hv : 0 ≤ v) (hv2 : v ≤ 268435456) : 1 ≤ (pre n b v).length ∧ (pre n b v).length ≤ 5 := by
  have ht := tp_bd h1 h2
  unfold pre
  split
  · simp
  · have := (vi_ok 3 (v - (tp n - 1)) (by omega) (by simp; omega)).2.2.1
    simp
    omega
theorem dv_app : ∀ (gs tl : List Int) (i : Nat) (acc : Int), Wf gs → i + gs.length ≤ 4 → dv i acc (gs ++ tl) = dv i acc gs
  | [], tl, i, acc, h, _ => absurd h (by simp [Wf])
  | [t], tl, i, acc, h, hl => by
    simp only [List.length_singleton] at hl
    have h4 : ¬ i = 4 := by omega
    show dv i acc (t :: tl) = dv i acc [t]
    simp only [dv, if_neg h4, if_pos h.2]
  | t :: u :: r, tl, i, acc, h, hl => by
    obtain ⟨⟨a, b⟩, c⟩ := h
    simp only [List.length_cons] at hl
    have h4 : ¬ i = 4 := by omega
    have hn : ¬ t < 128 := by omega
    show dv i acc (t :: (u :: r ++ tl)) = dv i acc (t :: (u :: r))
    rw [dv.eq_2, if_neg h4, if_neg hn]
    conv => rhs; rw [dv.eq_2, if_neg h4, if_neg hn]
    exact dv_app (u :: r) tl (i + 1) _ c (by simp; omega)
theorem gd_pre {n b v : Int} (tl : List Int) (h1 : 1 ≤ n) (h2 : n ≤ 8) (hb : 0 ≤ b ∧ b < 256) (hv : 0 ≤ v) (hv2 : v ≤ 268435456) : gd (pre n b v ++ tl) n = (v, ((pre n b v).length : Int), 0) := by
  have ht := tp_bd h1 h2
  obtain ⟨t, r, e, h, _, ⟨q1, q2, rfl⟩ | ⟨q1, q2, q3, q4, q5, q6⟩⟩ := pre_ok h1 h2 hb hv hv2
  · rw [e]
    simp only [List.singleton_append, gd]
    rw [q2, if_pos q1]
    rfl
  · rw [e]
    simp only [List.cons_append, gd]
    rw [q2, if_neg (by omega), dv_app r tl 0 _ q4 (by omega), dv_wf r 0 _ q4 (by omega), if_pos (by omega), q5, if_neg (by simp; omega)]
    simp
    omega
end PX
namespace HX
def CODES : List S116 := [⟨8184, 13⟩, ⟨8388568, 23⟩, ⟨268435426, 28⟩, ⟨268435427, 28⟩, ⟨268435428, 28⟩, ⟨268435429, 28⟩, ⟨268435430, 28⟩, ⟨268435431, 28⟩, ⟨268435432, 28⟩,
  ⟨16777194, 24⟩, ⟨1073741820, 30⟩, ⟨268435433, 28⟩, ⟨268435434, 28⟩, ⟨1073741821, 30⟩, ⟨268435435, 28⟩, ⟨268435436, 28⟩, ⟨268435437, 28⟩, ⟨268435438,
  28⟩, ⟨268435439, 28⟩, ⟨268435440, 28⟩, ⟨268435441, 28⟩, ⟨268435442, 28⟩, ⟨1073741822, 30⟩, ⟨268435443, 28⟩, ⟨268435444, 28⟩, ⟨268435445, 28⟩,
  ⟨268435446, 28⟩, ⟨268435447, 28⟩, ⟨268435448, 28⟩, ⟨268435449, 28⟩, ⟨268435450, 28⟩, ⟨268435451, 28⟩, ⟨20, 6⟩, ⟨1016, 10⟩, ⟨1017, 10⟩, ⟨4090, 12⟩,
  ⟨8185, 13⟩, ⟨21, 6⟩, ⟨248, 8⟩, ⟨2042, 11⟩, ⟨1018, 10⟩, ⟨1019, 10⟩, ⟨249, 8⟩, ⟨2043, 11⟩, ⟨250, 8⟩, ⟨22, 6⟩, ⟨23, 6⟩, ⟨24, 6⟩, ⟨0, 5⟩, ⟨1, 5⟩, ⟨2, 5⟩,
  ⟨25, 6⟩, ⟨26, 6⟩, ⟨27, 6⟩, ⟨28, 6⟩, ⟨29, 6⟩, ⟨30, 6⟩, ⟨31, 6⟩, ⟨92, 7⟩, ⟨251, 8⟩, ⟨32764, 15⟩, ⟨32, 6⟩, ⟨4091, 12⟩, ⟨1020, 10⟩, ⟨8186, 13⟩, ⟨33, 6⟩,
  ⟨93, 7⟩, ⟨94, 7⟩, ⟨95, 7⟩, ⟨96, 7⟩, ⟨97, 7⟩, ⟨98, 7⟩, ⟨99, 7⟩, ⟨100, 7⟩, ⟨101, 7⟩, ⟨102, 7⟩, ⟨103, 7⟩, ⟨104, 7⟩, ⟨105, 7⟩, ⟨106, 7⟩, ⟨107, 7⟩, ⟨108,
  7⟩, ⟨109, 7⟩, ⟨110, 7⟩, ⟨111, 7⟩, ⟨112, 7⟩, ⟨113, 7⟩, ⟨114, 7⟩, ⟨252, 8⟩, ⟨115, 7⟩, ⟨253, 8⟩, ⟨8187, 13⟩, ⟨524272, 19⟩, ⟨8188, 13⟩, ⟨16380, 14⟩, ⟨34,
  6⟩, ⟨32765, 15⟩, ⟨3, 5⟩, ⟨35, 6⟩, ⟨4, 5⟩, ⟨36, 6⟩, ⟨5, 5⟩, ⟨37, 6⟩, ⟨38, 6⟩, ⟨39, 6⟩, ⟨6, 5⟩, ⟨116, 7⟩, ⟨117, 7⟩, ⟨40, 6⟩, ⟨41, 6⟩, ⟨42, 6⟩, ⟨7, 5⟩,
  ⟨43, 6⟩, ⟨118, 7⟩, ⟨44, 6⟩, ⟨8, 5⟩, ⟨9, 5⟩, ⟨45, 6⟩, ⟨119, 7⟩, ⟨120, 7⟩, ⟨121, 7⟩, ⟨122, 7⟩, ⟨123, 7⟩, ⟨32766, 15⟩, ⟨2044, 11⟩, ⟨16381, 14⟩, ⟨8189,
  13⟩, ⟨268435452, 28⟩, ⟨1048550, 20⟩, ⟨4194258, 22⟩, ⟨1048551, 20⟩, ⟨1048552, 20⟩, ⟨4194259, 22⟩, ⟨4194260, 22⟩, ⟨4194261, 22⟩, ⟨8388569, 23⟩,
  ⟨4194262, 22⟩, ⟨8388570, 23⟩, ⟨8388571, 23⟩, ⟨8388572, 23⟩, ⟨8388573, 23⟩, ⟨8388574, 23⟩, ⟨16777195, 24⟩, ⟨8388575, 23⟩, ⟨16777196, 24⟩, ⟨16777197,
  24⟩, ⟨4194263, 22⟩, ⟨8388576, 23⟩, ⟨16777198, 24⟩, ⟨8388577, 23⟩, ⟨8388578, 23⟩, ⟨8388579, 23⟩, ⟨8388580, 23⟩, ⟨2097116, 21⟩, ⟨4194264, 22⟩, ⟨8388581,
  23⟩, ⟨4194265, 22⟩, ⟨8388582, 23⟩, ⟨8388583, 23⟩, ⟨16777199, 24⟩, ⟨4194266, 22⟩, ⟨2097117, 21⟩, ⟨1048553, 20⟩, ⟨4194267, 22⟩, ⟨4194268, 22⟩, ⟨8388584,
  23⟩, ⟨8388585, 23⟩, ⟨2097118, 21⟩, ⟨8388586, 23⟩, ⟨4194269, 22⟩, ⟨4194270, 22⟩, ⟨16777200, 24⟩, ⟨2097119, 21⟩, ⟨4194271, 22⟩, ⟨8388587, 23⟩, ⟨8388588,
  23⟩, ⟨2097120, 21⟩, ⟨2097121, 21⟩, ⟨4194272, 22⟩, ⟨2097122, 21⟩, ⟨8388589, 23⟩, ⟨4194273, 22⟩, ⟨8388590, 23⟩, ⟨8388591, 23⟩, ⟨1048554, 20⟩, ⟨4194274,
  22⟩, ⟨4194275, 22⟩, ⟨4194276, 22⟩, ⟨8388592, 23⟩, ⟨4194277, 22⟩, ⟨4194278, 22⟩, ⟨8388593, 23⟩, ⟨67108832, 26⟩, ⟨67108833, 26⟩, ⟨1048555, 20⟩, ⟨524273,
  19⟩, ⟨4194279, 22⟩, ⟨8388594, 23⟩, ⟨4194280, 22⟩, ⟨33554412, 25⟩, ⟨67108834, 26⟩, ⟨67108835, 26⟩, ⟨67108836, 26⟩, ⟨134217694, 27⟩, ⟨134217695, 27⟩,
  ⟨67108837, 26⟩, ⟨16777201, 24⟩, ⟨33554413, 25⟩, ⟨524274, 19⟩, ⟨2097123, 21⟩, ⟨67108838, 26⟩, ⟨134217696, 27⟩, ⟨134217697, 27⟩, ⟨67108839, 26⟩,
  ⟨134217698, 27⟩, ⟨16777202, 24⟩, ⟨2097124, 21⟩, ⟨2097125, 21⟩, ⟨67108840, 26⟩, ⟨67108841, 26⟩, ⟨268435453, 28⟩, ⟨134217699, 27⟩, ⟨134217700, 27⟩,
  ⟨134217701, 27⟩, ⟨1048556, 20⟩, ⟨16777203, 24⟩, ⟨1048557, 20⟩, ⟨2097126, 21⟩, ⟨4194281, 22⟩, ⟨2097127, 21⟩, ⟨2097128, 21⟩, ⟨8388595, 23⟩, ⟨4194282,
  22⟩, ⟨4194283, 22⟩, ⟨33554414, 25⟩, ⟨33554415, 25⟩, ⟨16777204, 24⟩, ⟨16777205, 24⟩, ⟨67108842, 26⟩, ⟨8388596, 23⟩, ⟨67108843, 26⟩, ⟨134217702, 27⟩,
  ⟨67108844, 26⟩, ⟨67108845, 26⟩, ⟨134217703, 27⟩, ⟨134217704, 27⟩, ⟨134217705, 27⟩, ⟨134217706, 27⟩, ⟨134217707, 27⟩, ⟨268435454, 28⟩, ⟨134217708, 27⟩,
  ⟨134217709, 27⟩, ⟨134217710, 27⟩, ⟨134217711, 27⟩, ⟨134217712, 27⟩, ⟨67108846, 26⟩, ⟨1073741823, 30⟩]
def TEXTS : List (List UInt8) := [[49, 49, 49, 49, 49, 49, 49, 49, 49, 49, 48, 48, 48], [49, 49, 49, 49, 49, 49, 49, 49, 49, 49, 49, 49, 49, 49, 49, 49, 49, 48, 49, 49, 48, 48, 48],
  [49, 49, 49, 49, 49, 49, 49, 49, 49, 49, 49, 49, 49, 49, 49, 49, 49, 49, 49, 49, 49, 49, 49, 48, 48, 48, 49, 48], [49, 49, 49, 49, 49, 49, 49, 49, 49,
  49, 49, 49, 49, 49, 49, 49, 49, 49, 49, 49, 49, 49, 49, 48, 48, 48, 49, 49], [49, 49, 49, 49, 49, 49, 49, 49, 49, 49, 49, 49, 49, 49, 49, 49, 49, 49,
  49, 49, 49, 49, 49, 48, 48, 49, 48, 48], [49, 49, 49, 49, 49, 49, 49, 49, 49, 49, 49, 49, 49, 49, 49, 49, 49, 49, 49, 49, 49, 49, 49, 48, 48, 49, 48,
  49], [49, 49, 49, 49, 49, 49, 49, 49, 49, 49, 49, 49, 49, 49, 49, 49, 49, 49, 49, 49, 49, 49, 49, 48, 48, 49, 49, 48], [49, 49, 49, 49, 49, 49, 49,
  49, 49, 49, 49, 49, 49, 49, 49, 49, 49, 49, 49, 49, 49, 49, 49, 48, 48, 49, 49, 49], [49, 49, 49, 49, 49, 49, 49, 49, 49, 49, 49, 49, 49, 49, 49, 49,
  49, 49, 49, 49, 49, 49, 49, 48, 49, 48, 48, 48], [49, 49, 49, 49, 49, 49, 49, 49, 49, 49, 49, 49, 49, 49, 49, 49, 49, 49, 49, 48, 49, 48, 49, 48],
  [49, 49, 49, 49, 49, 49, 49, 49, 49, 49, 49, 49, 49, 49, 49, 49, 49, 49, 49, 49, 49, 49, 49, 49, 49, 49, 49, 49, 48, 48], [49, 49, 49, 49, 49, 49, 49,
  49, 49, 49, 49, 49, 49, 49, 49, 49, 49, 49, 49, 49, 49, 49, 49, 48, 49, 48, 48, 49], [49, 49, 49, 49, 49, 49, 49, 49, 49, 49, 49, 49, 49, 49, 49, 49,
  49, 49, 49, 49, 49, 49, 49, 48, 49, 48, 49, 48], [49, 49, 49, 49, 49, 49, 49, 49, 49, 49, 49, 49, 49, 49, 49, 49, 49, 49, 49, 49, 49, 49, 49, 49, 49,
  49, 49, 49, 48, 49], [49, 49, 49, 49, 49, 49, 49, 49, 49, 49, 49, 49, 49, 49, 49, 49, 49, 49, 49, 49, 49, 49, 49, 48, 49, 48, 49, 49], [49, 49, 49,
  49, 49, 49, 49, 49, 49, 49, 49, 49, 49, 49, 49, 49, 49, 49, 49, 49, 49, 49, 49, 48, 49, 49, 48, 48], [49, 49, 49, 49, 49, 49, 49, 49, 49, 49, 49, 49,
  49, 49, 49, 49, 49, 49, 49, 49, 49, 49, 49, 48, 49, 49, 48, 49], [49, 49, 49, 49, 49, 49, 49, 49, 49, 49, 49, 49, 49, 49, 49, 49, 49, 49, 49, 49, 49,
  49, 49, 48, 49, 49, 49, 48], [49, 49, 49, 49, 49, 49, 49, 49, 49, 49, 49, 49, 49, 49, 49, 49, 49, 49, 49, 49, 49, 49, 49, 48, 49, 49, 49, 49], [49,
  49, 49, 49, 49, 49, 49, 49, 49, 49, 49, 49, 49, 49, 49, 49, 49, 49, 49, 49, 49, 49, 49, 49, 48, 48, 48, 48], [49, 49, 49, 49, 49, 49, 49, 49, 49, 49,
  49, 49, 49, 49, 49, 49, 49, 49, 49, 49, 49, 49, 49, 49, 48, 48, 48, 49], [49, 49, 49, 49, 49, 49, 49, 49, 49, 49, 49, 49, 49, 49, 49, 49, 49, 49, 49,
  49, 49, 49, 49, 49, 48, 48, 49, 48], [49, 49, 49, 49, 49, 49, 49, 49, 49, 49, 49, 49, 49, 49, 49, 49, 49, 49, 49, 49, 49, 49, 49, 49, 49, 49, 49, 49,
  49, 48], [49, 49, 49, 49, 49, 49, 49, 49, 49, 49, 49, 49, 49, 49, 49, 49, 49, 49, 49, 49, 49, 49, 49, 49, 48, 48, 49, 49], [49, 49, 49, 49, 49, 49,
  49, 49, 49, 49, 49, 49, 49, 49, 49, 49, 49, 49, 49, 49, 49, 49, 49, 49, 48, 49, 48, 48], [49, 49, 49, 49, 49, 49, 49, 49, 49, 49, 49, 49, 49, 49, 49,
  49, 49, 49, 49, 49, 49, 49, 49, 49, 48, 49, 48, 49], [49, 49, 49, 49, 49, 49, 49, 49, 49, 49, 49, 49, 49, 49, 49, 49, 49, 49, 49, 49, 49, 49, 49, 49,
  48, 49, 49, 48], [49, 49, 49, 49, 49, 49, 49, 49, 49, 49, 49, 49, 49, 49, 49, 49, 49, 49, 49, 49, 49, 49, 49, 49, 48, 49, 49, 49], [49, 49, 49, 49,
  49, 49, 49, 49, 49, 49, 49, 49, 49, 49, 49, 49, 49, 49, 49, 49, 49, 49, 49, 49, 49, 48, 48, 48], [49, 49, 49, 49, 49, 49, 49, 49, 49, 49, 49, 49, 49,
  49, 49, 49, 49, 49, 49, 49, 49, 49, 49, 49, 49, 48, 48, 49], [49, 49, 49, 49, 49, 49, 49, 49, 49, 49, 49, 49, 49, 49, 49, 49, 49, 49, 49, 49, 49, 49,
  49, 49, 49, 48, 49, 48], [49, 49, 49, 49, 49, 49, 49, 49, 49, 49, 49, 49, 49, 49, 49, 49, 49, 49, 49, 49, 49, 49, 49, 49, 49, 48, 49, 49], [48, 49,
  48, 49, 48, 48], [49, 49, 49, 49, 49, 49, 49, 48, 48, 48], [49, 49, 49, 49, 49, 49, 49, 48, 48, 49], [49, 49, 49, 49, 49, 49, 49, 49, 49, 48, 49, 48],
  [49, 49, 49, 49, 49, 49, 49, 49, 49, 49, 48, 48, 49], [48, 49, 48, 49, 48, 49], [49, 49, 49, 49, 49, 48, 48, 48], [49, 49, 49, 49, 49, 49, 49, 49, 48,
  49, 48], [49, 49, 49, 49, 49, 49, 49, 48, 49, 48], [49, 49, 49, 49, 49, 49, 49, 48, 49, 49], [49, 49, 49, 49, 49, 48, 48, 49], [49, 49, 49, 49, 49,
  49, 49, 49, 48, 49, 49], [49, 49, 49, 49, 49, 48, 49, 48], [48, 49, 48, 49, 49, 48], [48, 49, 48, 49, 49, 49], [48, 49, 49, 48, 48, 48], [48, 48, 48,
  48, 48], [48, 48, 48, 48, 49], [48, 48, 48, 49, 48], [48, 49, 49, 48, 48, 49], [48, 49, 49, 48, 49, 48], [48, 49, 49, 48, 49, 49], [48, 49, 49, 49,
  48, 48], [48, 49, 49, 49, 48, 49], [48, 49, 49, 49, 49, 48], [48, 49, 49, 49, 49, 49], [49, 48, 49, 49, 49, 48, 48], [49, 49, 49, 49, 49, 48, 49, 49],
  [49, 49, 49, 49, 49, 49, 49, 49, 49, 49, 49, 49, 49, 48, 48], [49, 48, 48, 48, 48, 48], [49, 49, 49, 49, 49, 49, 49, 49, 49, 48, 49, 49], [49, 49, 49,
  49, 49, 49, 49, 49, 48, 48], [49, 49, 49, 49, 49, 49, 49, 49, 49, 49, 48, 49, 48], [49, 48, 48, 48, 48, 49], [49, 48, 49, 49, 49, 48, 49], [49, 48,
  49, 49, 49, 49, 48], [49, 48, 49, 49, 49, 49, 49], [49, 49, 48, 48, 48, 48, 48], [49, 49, 48, 48, 48, 48, 49], [49, 49, 48, 48, 48, 49, 48], [49, 49,
  48, 48, 48, 49, 49], [49, 49, 48, 48, 49, 48, 48], [49, 49, 48, 48, 49, 48, 49], [49, 49, 48, 48, 49, 49, 48], [49, 49, 48, 48, 49, 49, 49], [49, 49,
  48, 49, 48, 48, 48], [49, 49, 48, 49, 48, 48, 49], [49, 49, 48, 49, 48, 49, 48], [49, 49, 48, 49, 48, 49, 49], [49, 49, 48, 49, 49, 48, 48], [49, 49,
  48, 49, 49, 48, 49], [49, 49, 48, 49, 49, 49, 48], [49, 49, 48, 49, 49, 49, 49], [49, 49, 49, 48, 48, 48, 48], [49, 49, 49, 48, 48, 48, 49], [49, 49,
  49, 48, 48, 49, 48], [49, 49, 49, 49, 49, 49, 48, 48], [49, 49, 49, 48, 48, 49, 49], [49, 49, 49, 49, 49, 49, 48, 49], [49, 49, 49, 49, 49, 49, 49,
  49, 49, 49, 48, 49, 49], [49, 49, 49, 49, 49, 49, 49, 49, 49, 49, 49, 49, 49, 49, 49, 48, 48, 48, 48], [49, 49, 49, 49, 49, 49, 49, 49, 49, 49, 49,
  48, 48], [49, 49, 49, 49, 49, 49, 49, 49, 49, 49, 49, 49, 48, 48], [49, 48, 48, 48, 49, 48], [49, 49, 49, 49, 49, 49, 49, 49, 49, 49, 49, 49, 49, 48,
  49], [48, 48, 48, 49, 49], [49, 48, 48, 48, 49, 49], [48, 48, 49, 48, 48], [49, 48, 48, 49, 48, 48], [48, 48, 49, 48, 49], [49, 48, 48, 49, 48, 49],
  [49, 48, 48, 49, 49, 48], [49, 48, 48, 49, 49, 49], [48, 48, 49, 49, 48], [49, 49, 49, 48, 49, 48, 48], [49, 49, 49, 48, 49, 48, 49], [49, 48, 49, 48,
  48, 48], [49, 48, 49, 48, 48, 49], [49, 48, 49, 48, 49, 48], [48, 48, 49, 49, 49], [49, 48, 49, 48, 49, 49], [49, 49, 49, 48, 49, 49, 48], [49, 48,
  49, 49, 48, 48], [48, 49, 48, 48, 48], [48, 49, 48, 48, 49], [49, 48, 49, 49, 48, 49], [49, 49, 49, 48, 49, 49, 49], [49, 49, 49, 49, 48, 48, 48],
  [49, 49, 49, 49, 48, 48, 49], [49, 49, 49, 49, 48, 49, 48], [49, 49, 49, 49, 48, 49, 49], [49, 49, 49, 49, 49, 49, 49, 49, 49, 49, 49, 49, 49, 49,
  48], [49, 49, 49, 49, 49, 49, 49, 49, 49, 48, 48], [49, 49, 49, 49, 49, 49, 49, 49, 49, 49, 49, 49, 48, 49], [49, 49, 49, 49, 49, 49, 49, 49, 49, 49,
  49, 48, 49], [49, 49, 49, 49, 49, 49, 49, 49, 49, 49, 49, 49, 49, 49, 49, 49, 49, 49, 49, 49, 49, 49, 49, 49, 49, 49, 48, 48], [49, 49, 49, 49, 49,
  49, 49, 49, 49, 49, 49, 49, 49, 49, 49, 48, 48, 49, 49, 48], [49, 49, 49, 49, 49, 49, 49, 49, 49, 49, 49, 49, 49, 49, 49, 49, 48, 49, 48, 48, 49, 48],
  [49, 49, 49, 49, 49, 49, 49, 49, 49, 49, 49, 49, 49, 49, 49, 48, 48, 49, 49, 49], [49, 49, 49, 49, 49, 49, 49, 49, 49, 49, 49, 49, 49, 49, 49, 48, 49,
  48, 48, 48], [49, 49, 49, 49, 49, 49, 49, 49, 49, 49, 49, 49, 49, 49, 49, 49, 48, 49, 48, 48, 49, 49], [49, 49, 49, 49, 49, 49, 49, 49, 49, 49, 49,
  49, 49, 49, 49, 49, 48, 49, 48, 49, 48, 48], [49, 49, 49, 49, 49, 49, 49, 49, 49, 49, 49, 49, 49, 49, 49, 49, 48, 49, 48, 49, 48, 49], [49, 49, 49,
  49, 49, 49, 49, 49, 49, 49, 49, 49, 49, 49, 49, 49, 49, 48, 49, 49, 48, 48, 49], [49, 49, 49, 49, 49, 49, 49, 49, 49, 49, 49, 49, 49, 49, 49, 49, 48,
  49, 48, 49, 49, 48], [49, 49, 49, 49, 49, 49, 49, 49, 49, 49, 49, 49, 49, 49, 49, 49, 49, 48, 49, 49, 48, 49, 48], [49, 49, 49, 49, 49, 49, 49, 49,
  49, 49, 49, 49, 49, 49, 49, 49, 49, 48, 49, 49, 48, 49, 49], [49, 49, 49, 49, 49, 49, 49, 49, 49, 49, 49, 49, 49, 49, 49, 49, 49, 48, 49, 49, 49, 48,
  48], [49, 49, 49, 49, 49, 49, 49, 49, 49, 49, 49, 49, 49, 49, 49, 49, 49, 48, 49, 49, 49, 48, 49], [49, 49, 49, 49, 49, 49, 49, 49, 49, 49, 49, 49,
  49, 49, 49, 49, 49, 48, 49, 49, 49, 49, 48], [49, 49, 49, 49, 49, 49, 49, 49, 49, 49, 49, 49, 49, 49, 49, 49, 49, 49, 49, 48, 49, 48, 49, 49], [49,
  49, 49, 49, 49, 49, 49, 49, 49, 49, 49, 49, 49, 49, 49, 49, 49, 48, 49, 49, 49, 49, 49], [49, 49, 49, 49, 49, 49, 49, 49, 49, 49, 49, 49, 49, 49, 49,
  49, 49, 49, 49, 48, 49, 49, 48, 48], [49, 49, 49, 49, 49, 49, 49, 49, 49, 49, 49, 49, 49, 49, 49, 49, 49, 49, 49, 48, 49, 49, 48, 49], [49, 49, 49,
  49, 49, 49, 49, 49, 49, 49, 49, 49, 49, 49, 49, 49, 48, 49, 48, 49, 49, 49], [49, 49, 49, 49, 49, 49, 49, 49, 49, 49, 49, 49, 49, 49, 49, 49, 49, 49,
  48, 48, 48, 48, 48], [49, 49, 49, 49, 49, 49, 49, 49, 49, 49, 49, 49, 49, 49, 49, 49, 49, 49, 49, 48, 49, 49, 49, 48], [49, 49, 49, 49, 49, 49, 49,
  49, 49, 49, 49, 49, 49, 49, 49, 49, 49, 49, 48, 48, 48, 48, 49], [49, 49, 49, 49, 49, 49, 49, 49, 49, 49, 49, 49, 49, 49, 49, 49, 49, 49, 48, 48, 48,
  49, 48], [49, 49, 49, 49, 49, 49, 49, 49, 49, 49, 49, 49, 49, 49, 49, 49, 49, 49, 48, 48, 48, 49, 49], [49, 49, 49, 49, 49, 49, 49, 49, 49, 49, 49,
  49, 49, 49, 49, 49, 49, 49, 48, 48, 49, 48, 48], [49, 49, 49, 49, 49, 49, 49, 49, 49, 49, 49, 49, 49, 49, 49, 48, 49, 49, 49, 48, 48], [49, 49, 49,
  49, 49, 49, 49, 49, 49, 49, 49, 49, 49, 49, 49, 49, 48, 49, 49, 48, 48, 48], [49, 49, 49, 49, 49, 49, 49, 49, 49, 49, 49, 49, 49, 49, 49, 49, 49, 49,
  48, 48, 49, 48, 49], [49, 49, 49, 49, 49, 49, 49, 49, 49, 49, 49, 49, 49, 49, 49, 49, 48, 49, 49, 48, 48, 49], [49, 49, 49, 49, 49, 49, 49, 49, 49,
  49, 49, 49, 49, 49, 49, 49, 49, 49, 48, 48, 49, 49, 48], [49, 49, 49, 49, 49, 49, 49, 49, 49, 49, 49, 49, 49, 49, 49, 49, 49, 49, 48, 48, 49, 49, 49],
  [49, 49, 49, 49, 49, 49, 49, 49, 49, 49, 49, 49, 49, 49, 49, 49, 49, 49, 49, 48, 49, 49, 49, 49], [49, 49, 49, 49, 49, 49, 49, 49, 49, 49, 49, 49, 49,
  49, 49, 49, 48, 49, 49, 48, 49, 48], [49, 49, 49, 49, 49, 49, 49, 49, 49, 49, 49, 49, 49, 49, 49, 48, 49, 49, 49, 48, 49], [49, 49, 49, 49, 49, 49,
  49, 49, 49, 49, 49, 49, 49, 49, 49, 48, 49, 48, 48, 49], [49, 49, 49, 49, 49, 49, 49, 49, 49, 49, 49, 49, 49, 49, 49, 49, 48, 49, 49, 48, 49, 49],
  [49, 49, 49, 49, 49, 49, 49, 49, 49, 49, 49, 49, 49, 49, 49, 49, 48, 49, 49, 49, 48, 48], [49, 49, 49, 49, 49, 49, 49, 49, 49, 49, 49, 49, 49, 49, 49,
  49, 49, 49, 48, 49, 48, 48, 48], [49, 49, 49, 49, 49, 49, 49, 49, 49, 49, 49, 49, 49, 49, 49, 49, 49, 49, 48, 49, 48, 48, 49], [49, 49, 49, 49, 49,
  49, 49, 49, 49, 49, 49, 49, 49, 49, 49, 48, 49, 49, 49, 49, 48], [49, 49, 49, 49, 49, 49, 49, 49, 49, 49, 49, 49, 49, 49, 49, 49, 49, 49, 48, 49, 48,
  49, 48], [49, 49, 49, 49, 49, 49, 49, 49, 49, 49, 49, 49, 49, 49, 49, 49, 48, 49, 49, 49, 48, 49], [49, 49, 49, 49, 49, 49, 49, 49, 49, 49, 49, 49,
  49, 49, 49, 49, 48, 49, 49, 49, 49, 48], [49, 49, 49, 49, 49, 49, 49, 49, 49, 49, 49, 49, 49, 49, 49, 49, 49, 49, 49, 49, 48, 48, 48, 48], [49, 49,
  49, 49, 49, 49, 49, 49, 49, 49, 49, 49, 49, 49, 49, 48, 49, 49, 49, 49, 49], [49, 49, 49, 49, 49, 49, 49, 49, 49, 49, 49, 49, 49, 49, 49, 49, 48, 49,
  49, 49, 49, 49], [49, 49, 49, 49, 49, 49, 49, 49, 49, 49, 49, 49, 49, 49, 49, 49, 49, 49, 48, 49, 48, 49, 49], [49, 49, 49, 49, 49, 49, 49, 49, 49,
  49, 49, 49, 49, 49, 49, 49, 49, 49, 48, 49, 49, 48, 48], [49, 49, 49, 49, 49, 49, 49, 49, 49, 49, 49, 49, 49, 49, 49, 49, 48, 48, 48, 48, 48], [49,
  49, 49, 49, 49, 49, 49, 49, 49, 49, 49, 49, 49, 49, 49, 49, 48, 48, 48, 48, 49], [49, 49, 49, 49, 49, 49, 49, 49, 49, 49, 49, 49, 49, 49, 49, 49, 49,
  48, 48, 48, 48, 48], [49, 49, 49, 49, 49, 49, 49, 49, 49, 49, 49, 49, 49, 49, 49, 49, 48, 48, 48, 49, 48], [49, 49, 49, 49, 49, 49, 49, 49, 49, 49,
  49, 49, 49, 49, 49, 49, 49, 49, 48, 49, 49, 48, 49], [49, 49, 49, 49, 49, 49, 49, 49, 49, 49, 49, 49, 49, 49, 49, 49, 49, 48, 48, 48, 48, 49], [49,
  49, 49, 49, 49, 49, 49, 49, 49, 49, 49, 49, 49, 49, 49, 49, 49, 49, 48, 49, 49, 49, 48], [49, 49, 49, 49, 49, 49, 49, 49, 49, 49, 49, 49, 49, 49, 49,
  49, 49, 49, 48, 49, 49, 49, 49], [49, 49, 49, 49, 49, 49, 49, 49, 49, 49, 49, 49, 49, 49, 49, 48, 49, 48, 49, 48], [49, 49, 49, 49, 49, 49, 49, 49,
  49, 49, 49, 49, 49, 49, 49, 49, 49, 48, 48, 48, 49, 48], [49, 49, 49, 49, 49, 49, 49, 49, 49, 49, 49, 49, 49, 49, 49, 49, 49, 48, 48, 48, 49, 49],
  [49, 49, 49, 49, 49, 49, 49, 49, 49, 49, 49, 49, 49, 49, 49, 49, 49, 48, 48, 49, 48, 48], [49, 49, 49, 49, 49, 49, 49, 49, 49, 49, 49, 49, 49, 49, 49,
  49, 49, 49, 49, 48, 48, 48, 48], [49, 49, 49, 49, 49, 49, 49, 49, 49, 49, 49, 49, 49, 49, 49, 49, 49, 48, 48, 49, 48, 49], [49, 49, 49, 49, 49, 49,
  49, 49, 49, 49, 49, 49, 49, 49, 49, 49, 49, 48, 48, 49, 49, 48], [49, 49, 49, 49, 49, 49, 49, 49, 49, 49, 49, 49, 49, 49, 49, 49, 49, 49, 49, 48, 48,
  48, 49], [49, 49, 49, 49, 49, 49, 49, 49, 49, 49, 49, 49, 49, 49, 49, 49, 49, 49, 49, 49, 49, 48, 48, 48, 48, 48], [49, 49, 49, 49, 49, 49, 49, 49,
  49, 49, 49, 49, 49, 49, 49, 49, 49, 49, 49, 49, 49, 48, 48, 48, 48, 49], [49, 49, 49, 49, 49, 49, 49, 49, 49, 49, 49, 49, 49, 49, 49, 48, 49, 48, 49,
  49], [49, 49, 49, 49, 49, 49, 49, 49, 49, 49, 49, 49, 49, 49, 49, 48, 48, 48, 49], [49, 49, 49, 49, 49, 49, 49, 49, 49, 49, 49, 49, 49, 49, 49, 49,
  49, 48, 48, 49, 49, 49], [49, 49, 49, 49, 49, 49, 49, 49, 49, 49, 49, 49, 49, 49, 49, 49, 49, 49, 49, 48, 48, 49, 48], [49, 49, 49, 49, 49, 49, 49,
  49, 49, 49, 49, 49, 49, 49, 49, 49, 49, 48, 49, 48, 48, 48], [49, 49, 49, 49, 49, 49, 49, 49, 49, 49, 49, 49, 49, 49, 49, 49, 49, 49, 49, 49, 48, 49,
  49, 48, 48], [49, 49, 49, 49, 49, 49, 49, 49, 49, 49, 49, 49, 49, 49, 49, 49, 49, 49, 49, 49, 49, 48, 48, 48, 49, 48], [49, 49, 49, 49, 49, 49, 49,
  49, 49, 49, 49, 49, 49, 49, 49, 49, 49, 49, 49, 49, 49, 48, 48, 48, 49, 49], [49, 49, 49, 49, 49, 49, 49, 49, 49, 49, 49, 49, 49, 49, 49, 49, 49, 49,
  49, 49, 49, 48, 48, 49, 48, 48], [49, 49, 49, 49, 49, 49, 49, 49, 49, 49, 49, 49, 49, 49, 49, 49, 49, 49, 49, 49, 49, 48, 49, 49, 49, 49, 48], [49,
  49, 49, 49, 49, 49, 49, 49, 49, 49, 49, 49, 49, 49, 49, 49, 49, 49, 49, 49, 49, 48, 49, 49, 49, 49, 49], [49, 49, 49, 49, 49, 49, 49, 49, 49, 49, 49,
  49, 49, 49, 49, 49, 49, 49, 49, 49, 49, 48, 48, 49, 48, 49], [49, 49, 49, 49, 49, 49, 49, 49, 49, 49, 49, 49, 49, 49, 49, 49, 49, 49, 49, 49, 48, 48,
  48, 49], [49, 49, 49, 49, 49, 49, 49, 49, 49, 49, 49, 49, 49, 49, 49, 49, 49, 49, 49, 49, 48, 49, 49, 48, 49], [49, 49, 49, 49, 49, 49, 49, 49, 49,
  49, 49, 49, 49, 49, 49, 48, 48, 49, 48], [49, 49, 49, 49, 49, 49, 49, 49, 49, 49, 49, 49, 49, 49, 49, 49, 48, 48, 48, 49, 49], [49, 49, 49, 49, 49,
  49, 49, 49, 49, 49, 49, 49, 49, 49, 49, 49, 49, 49, 49, 49, 49, 48, 48, 49, 49, 48], [49, 49, 49, 49, 49, 49, 49, 49, 49, 49, 49, 49, 49, 49, 49, 49,
  49, 49, 49, 49, 49, 49, 48, 48, 48, 48, 48], [49, 49, 49, 49, 49, 49, 49, 49, 49, 49, 49, 49, 49, 49, 49, 49, 49, 49, 49, 49, 49, 49, 48, 48, 48, 48,
  49], [49, 49, 49, 49, 49, 49, 49, 49, 49, 49, 49, 49, 49, 49, 49, 49, 49, 49, 49, 49, 49, 48, 48, 49, 49, 49], [49, 49, 49, 49, 49, 49, 49, 49, 49,
  49, 49, 49, 49, 49, 49, 49, 49, 49, 49, 49, 49, 49, 48, 48, 48, 49, 48], [49, 49, 49, 49, 49, 49, 49, 49, 49, 49, 49, 49, 49, 49, 49, 49, 49, 49, 49,
  49, 48, 48, 49, 48], [49, 49, 49, 49, 49, 49, 49, 49, 49, 49, 49, 49, 49, 49, 49, 49, 48, 48, 49, 48, 48], [49, 49, 49, 49, 49, 49, 49, 49, 49, 49,
  49, 49, 49, 49, 49, 49, 48, 48, 49, 48, 49], [49, 49, 49, 49, 49, 49, 49, 49, 49, 49, 49, 49, 49, 49, 49, 49, 49, 49, 49, 49, 49, 48, 49, 48, 48, 48],
  [49, 49, 49, 49, 49, 49, 49, 49, 49, 49, 49, 49, 49, 49, 49, 49, 49, 49, 49, 49, 49, 48, 49, 48, 48, 49], [49, 49, 49, 49, 49, 49, 49, 49, 49, 49, 49,
  49, 49, 49, 49, 49, 49, 49, 49, 49, 49, 49, 49, 49, 49, 49, 48, 49], [49, 49, 49, 49, 49, 49, 49, 49, 49, 49, 49, 49, 49, 49, 49, 49, 49, 49, 49, 49,
  49, 49, 48, 48, 48, 49, 49], [49, 49, 49, 49, 49, 49, 49, 49, 49, 49, 49, 49, 49, 49, 49, 49, 49, 49, 49, 49, 49, 49, 48, 48, 49, 48, 48], [49, 49,
  49, 49, 49, 49, 49, 49, 49, 49, 49, 49, 49, 49, 49, 49, 49, 49, 49, 49, 49, 49, 48, 48, 49, 48, 49], [49, 49, 49, 49, 49, 49, 49, 49, 49, 49, 49, 49,
  49, 49, 49, 48, 49, 49, 48, 48], [49, 49, 49, 49, 49, 49, 49, 49, 49, 49, 49, 49, 49, 49, 49, 49, 49, 49, 49, 49, 48, 48, 49, 49], [49, 49, 49, 49,
  49, 49, 49, 49, 49, 49, 49, 49, 49, 49, 49, 48, 49, 49, 48, 49], [49, 49, 49, 49, 49, 49, 49, 49, 49, 49, 49, 49, 49, 49, 49, 49, 48, 48, 49, 49, 48],
  [49, 49, 49, 49, 49, 49, 49, 49, 49, 49, 49, 49, 49, 49, 49, 49, 49, 48, 49, 48, 48, 49], [49, 49, 49, 49, 49, 49, 49, 49, 49, 49, 49, 49, 49, 49, 49,
  49, 48, 48, 49, 49, 49], [49, 49, 49, 49, 49, 49, 49, 49, 49, 49, 49, 49, 49, 49, 49, 49, 48, 49, 48, 48, 48], [49, 49, 49, 49, 49, 49, 49, 49, 49,
  49, 49, 49, 49, 49, 49, 49, 49, 49, 49, 48, 48, 49, 49], [49, 49, 49, 49, 49, 49, 49, 49, 49, 49, 49, 49, 49, 49, 49, 49, 49, 48, 49, 48, 49, 48],
  [49, 49, 49, 49, 49, 49, 49, 49, 49, 49, 49, 49, 49, 49, 49, 49, 49, 48, 49, 48, 49, 49], [49, 49, 49, 49, 49, 49, 49, 49, 49, 49, 49, 49, 49, 49, 49,
  49, 49, 49, 49, 49, 48, 49, 49, 49, 48], [49, 49, 49, 49, 49, 49, 49, 49, 49, 49, 49, 49, 49, 49, 49, 49, 49, 49, 49, 49, 48, 49, 49, 49, 49], [49,
  49, 49, 49, 49, 49, 49, 49, 49, 49, 49, 49, 49, 49, 49, 49, 49, 49, 49, 49, 48, 49, 48, 48], [49, 49, 49, 49, 49, 49, 49, 49, 49, 49, 49, 49, 49, 49,
  49, 49, 49, 49, 49, 49, 48, 49, 48, 49], [49, 49, 49, 49, 49, 49, 49, 49, 49, 49, 49, 49, 49, 49, 49, 49, 49, 49, 49, 49, 49, 48, 49, 48, 49, 48],
  [49, 49, 49, 49, 49, 49, 49, 49, 49, 49, 49, 49, 49, 49, 49, 49, 49, 49, 49, 48, 49, 48, 48], [49, 49, 49, 49, 49, 49, 49, 49, 49, 49, 49, 49, 49, 49,
  49, 49, 49, 49, 49, 49, 49, 48, 49, 48, 49, 49], [49, 49, 49, 49, 49, 49, 49, 49, 49, 49, 49, 49, 49, 49, 49, 49, 49, 49, 49, 49, 49, 49, 48, 48, 49,
  49, 48], [49, 49, 49, 49, 49, 49, 49, 49, 49, 49, 49, 49, 49, 49, 49, 49, 49, 49, 49, 49, 49, 48, 49, 49, 48, 48], [49, 49, 49, 49, 49, 49, 49, 49,
  49, 49, 49, 49, 49, 49, 49, 49, 49, 49, 49, 49, 49, 48, 49, 49, 48, 49], [49, 49, 49, 49, 49, 49, 49, 49, 49, 49, 49, 49, 49, 49, 49, 49, 49, 49, 49,
  49, 49, 49, 48, 48, 49, 49, 49], [49, 49, 49, 49, 49, 49, 49, 49, 49, 49, 49, 49, 49, 49, 49, 49, 49, 49, 49, 49, 49, 49, 48, 49, 48, 48, 48], [49,
  49, 49, 49, 49, 49, 49, 49, 49, 49, 49, 49, 49, 49, 49, 49, 49, 49, 49, 49, 49, 49, 48, 49, 48, 48, 49], [49, 49, 49, 49, 49, 49, 49, 49, 49, 49, 49,
  49, 49, 49, 49, 49, 49, 49, 49, 49, 49, 49, 48, 49, 48, 49, 48], [49, 49, 49, 49, 49, 49, 49, 49, 49, 49, 49, 49, 49, 49, 49, 49, 49, 49, 49, 49, 49,
  49, 48, 49, 48, 49, 49], [49, 49, 49, 49, 49, 49, 49, 49, 49, 49, 49, 49, 49, 49, 49, 49, 49, 49, 49, 49, 49, 49, 49, 49, 49, 49, 49, 48], [49, 49,
  49, 49, 49, 49, 49, 49, 49, 49, 49, 49, 49, 49, 49, 49, 49, 49, 49, 49, 49, 49, 48, 49, 49, 48, 48], [49, 49, 49, 49, 49, 49, 49, 49, 49, 49, 49, 49,
  49, 49, 49, 49, 49, 49, 49, 49, 49, 49, 48, 49, 49, 48, 49], [49, 49, 49, 49, 49, 49, 49, 49, 49, 49, 49, 49, 49, 49, 49, 49, 49, 49, 49, 49, 49, 49,
  48, 49, 49, 49, 48], [49, 49, 49, 49, 49, 49, 49, 49, 49, 49, 49, 49, 49, 49, 49, 49, 49, 49, 49, 49, 49, 49, 48, 49, 49, 49, 49], [49, 49, 49, 49,
  49, 49, 49, 49, 49, 49, 49, 49, 49, 49, 49, 49, 49, 49, 49, 49, 49, 49, 49, 48, 48, 48, 48], [49, 49, 49, 49, 49, 49, 49, 49, 49, 49, 49, 49, 49, 49,
  49, 49, 49, 49, 49, 49, 49, 48, 49, 49, 49, 48], [49, 49, 49, 49, 49, 49, 49, 49, 49, 49, 49, 49, 49, 49, 49, 49, 49, 49, 49, 49, 49, 49, 49, 49, 49,
  49, 49, 49, 49, 49]]
theorem codes_f (k : Nat) : huffman_codes.f (k + 7800) = some CODES := by kernel_rfl
theorem gt_nat {α : Type} (z : α) (l : List α) (i : Nat) (h : i < l.length) : gt z l (i : Int) = l[i] := by simp [gt, List.getD_eq_getElem?_getD, h]
theorem CODES_len : CODES.length = 257 := by kernel_rfl
theorem TEXTS_len : TEXTS.length = 257 := by kernel_rfl
theorem codes_at (k : Nat) (hk : 7800 ≤ k) : huffman_codes.f k = some CODES := by
  obtain ⟨k, rfl⟩ : ∃ k', k = k' + 7800 := ⟨k - 7800, by omega⟩
  exact codes_f k
theorem all_sizes : ((List.range 256).all fun i => decide (5 ≤ gt (0 : Int) G1 (i : Int)) && decide (gt (0 : Int) G1 (i : Int) ≤ 30)) = true := by kernel_rfl
def szc (c : UInt8) : Int := gt (0 : Int) G1 (c.toNat : Int)
theorem szc_bd (c : UInt8) : 5 ≤ szc c ∧ szc c ≤ 30 := by
  have := List.all_eq_true.1 all_sizes c.toNat (by simpa using c.toNat_lt)
  simpa [szc] using this
def bits : List UInt8 → Int
  | [] => 0
  | c :: l => szc c + bits l
theorem bits_bd : ∀ l : List UInt8, 5 * (l.length : Int) ≤ bits l ∧ bits l ≤ 30 * (l.length : Int)
  | [] => by simp [bits]
  | c :: l => by
    have := bits_bd l
    have := szc_bd c
    simp only [bits, List.length_cons]
    omega
theorem size_l0 (s : List UInt8) (hs : s.length ≤ 100000000000000) : ∀ (m k i : Nat) (n : Int), i + m = s.length → m < k → 0 ≤ n → n ≤ 30 * (i : Int) → huffman_Size.l0 k n i s = some ((n + bits (s.drop i) + 7) / 8) := by
  intro m
  induction m with
  | zero =>
    intro k i n hi hk h0 h1
    obtain ⟨k, rfl⟩ : ∃ k', k = k' + 1 := ⟨k - 1, by omega⟩
    rw [huffman_Size.l0, if_neg (by omega), List.drop_eq_nil_of_le (by omega)]
    simp only [bits]
    rw [wi64 (x := n + 7) (by omega) (by omega), Int.tdiv_eq_ediv_of_nonneg (by omega), wi64 (by omega) (by omega), Int.add_zero]
  | succ m ih =>
    intro k i n hi hk h0 h1
    obtain ⟨k, rfl⟩ : ∃ k', k = k' + 1 := ⟨k - 1, by omega⟩
    have hlt : i < s.length := by omega
    have eb : btI s (i : Int) = ((s[i]).toNat : Int) := by simp [btI, List.getD_eq_getElem?_getD, hlt]
    have hu := (s[i]).toNat_lt
    have hz := szc_bd s[i]
    rw [huffman_Size.l0, if_pos (by omega), if_pos (by omega), eb, if_pos (by omega), if_pos (by omega)]
    have e1 : gt (0 : Int) G1 ((s[i]).toNat : Int) = szc s[i] := rfl
    rw [e1, wi64 (x := szc s[i]) (by omega) (by omega), wi64 (by omega) (by omega), wi64 (by omega) (by omega), show (i : Int) + 1 = ((i + 1 : Nat) : Int) by omega, ih k (i + 1) _ (by omega) (by omega) (by omega) (by omega)]
    rw [List.drop_eq_getElem_cons hlt, bits]
    congr 2
    omega
theorem size_f (s : List UInt8) (hs : s.length ≤ 100000000000000) (k : Nat) (hk : s.length < k) : huffman_Size.f k s = some ((bits s + 7) / 8) := by
  have := size_l0 s hs s.length k 0 0 (by omega) hk (by omega) (by omega)
  simpa [huffman_Size.f] using this
def begins (a b : List UInt8) : Bool := match a, b with
  | [], _ => true
  | _ :: _, [] => false
  | x :: a, y :: b => x == y && begins a b
theorem begins_of : ∀ (a b : List UInt8), b.take a.length = a → begins a b = true
  | [], b, _ => by cases b <;> rfl
  | x :: a, [], h => by simp at h
  | x :: a, y :: b, h => by
    simp only [List.length_cons, List.take_succ_cons, List.cons.injEq] at h
    simp only [begins, begins_of a b h.2, h.1, beq_self_eq_true, Bool.and_self]
theorem all_apart : (TEXTS.zipIdx.all fun a => TEXTS.zipIdx.all fun b => Nat.beq a.2 b.2 || !begins a.1 b.1) = true := by kernel_rfl
theorem zipIdx_mem {α : Type} (l : List α) (i : Nat) (h : i < l.length) : (l[i], i) ∈ l.zipIdx := by
  rw [List.mem_iff_getElem?]
  exact ⟨i, by simp [h]⟩
theorem apart (i j : Nat) (hi : i < TEXTS.length) (hj : j < TEXTS.length) (h : i ≠ j) : begins TEXTS[i] TEXTS[j] = false := by
  have h1 := List.all_eq_true.1 all_apart _ (zipIdx_mem TEXTS i hi)
  have h2 := List.all_eq_true.1 h1 _ (zipIdx_mem TEXTS j hj)
  have h3 : Nat.beq i j = false := Bool.eq_false_iff.2 fun q => h (Nat.eq_of_beq_eq_true q)
  simpa [h3] using h2
theorem snoc_ind {α : Type} {P : List α → Prop} (h0 : P []) (h1 : ∀ l c, P l → P (l ++ [c])) (l : List α) : P l := by
  have : ∀ n (l : List α), l.length = n → P l := by
    intro n
    induction n with
    | zero => intro l hl; rw [List.eq_nil_of_length_eq_zero hl]; exact h0
    | succ n ih =>
      intro l hl
      have hne : l ≠ [] := by intro h; rw [h] at hl; simp at hl
      rw [← List.dropLast_concat_getLast hne]
      exact h1 _ _ (ih _ (by simp [hl]))
  exact this _ l rfl
def isB (c : UInt8) : Bool := c == 48 || c == 49
def dg (c : UInt8) : Int := (c.toNat : Int) - 48
def vb (l : List UInt8) : Int := l.foldl (fun m c => 2 * m + dg c) 0
theorem isB_dg {c : UInt8} (h : isB c = true) : (c = 48 ∧ dg c = 0) ∨ (c = 49 ∧ dg c = 1) := by
  simp only [isB, Bool.or_eq_true, beq_iff_eq] at h
  rcases h with rfl | rfl
  · exact .inl ⟨rfl, rfl⟩
  · exact .inr ⟨rfl, rfl⟩
theorem vb_nil : vb [] = 0 := rfl
theorem vb_snoc (l : List UInt8) (c : UInt8) : vb (l ++ [c]) = 2 * vb l + dg c := by simp [vb, List.foldl_append]
theorem vb_app (a : List UInt8) : ∀ b : List UInt8, vb (a ++ b) = 2 ^ b.length * vb a + vb b := by
  refine snoc_ind (by simp [vb_nil]) fun b c ih => ?_
  rw [← List.append_assoc, vb_snoc, ih, vb_snoc, List.length_append, List.length_singleton, Int.pow_succ]
  have e : (2 : Int) ^ b.length * 2 * vb a = 2 * (2 ^ b.length * vb a) := by
    rw [Int.mul_comm ((2 : Int) ^ b.length) 2, Int.mul_assoc]
  omega
theorem pow_pos' (n : Nat) : (0 : Int) < 2 ^ n := Int.pow_pos (by decide)
theorem vb_bd : ∀ l : List UInt8, l.all isB = true → 0 ≤ vb l ∧ vb l < 2 ^ l.length := by
  refine snoc_ind (fun _ => ⟨Int.le_refl 0, by decide⟩) fun l c ih h => ?_
  rw [List.all_append, Bool.and_eq_true] at h
  have h1 := ih h.1
  have h2 := isB_dg (c := c) (by simpa using h.2)
  rw [vb_snoc, List.length_append, List.length_singleton, Int.pow_succ]
  omega
theorem vb_inj : ∀ a b : List UInt8, a.all isB = true → b.all isB = true → a.length = b.length → vb a = vb b → a = b := by
  refine snoc_ind (fun b _ _ hl _ => (List.eq_nil_of_length_eq_zero (by simpa using hl.symm)).symm) fun a c ih => ?_
  refine snoc_ind (fun _ _ hl _ => by simp at hl) fun b d _ => ?_
  intro ha hb hl hv
  rw [List.all_append, Bool.and_eq_true] at ha hb
  rw [vb_snoc, vb_snoc] at hv
  have h1 := isB_dg (c := c) (by simpa using ha.2)
  have h2 := isB_dg (c := d) (by simpa using hb.2)
  have h3 : vb a = vb b := by omega
  have h4 := ih b ha.1 hb.1 (by simpa using hl) h3
  have h5 : c = d := by
    rcases h1 with ⟨rfl, e1⟩ | ⟨rfl, e1⟩ <;> rcases h2 with ⟨rfl, e2⟩ | ⟨rfl, e2⟩ <;> first | rfl | omega
  rw [h4, h5]
def ones (n : Nat) : List UInt8 := List.replicate n 49
theorem ones_len (n : Nat) : (ones n).length = n := by simp [ones]
theorem ones_all (n : Nat) : (ones n).all isB = true := by
  unfold ones
  rw [List.all_eq_true]
  intro c hc
  rw [List.eq_of_mem_replicate hc]
  rfl
theorem vb_ones : ∀ n : Nat, vb (ones n) = 2 ^ n - 1
  | 0 => rfl
  | n + 1 => by
    have : ones (n + 1) = ones n ++ [49] := by simp [ones, List.replicate_succ']
    rw [this, vb_snoc, vb_ones n, Int.pow_succ]
    have : dg 49 = 1 := rfl
    omega
def b8 (x : Int) : List UInt8 := (List.range 8).map fun j => if (x / 2 ^ (7 - j)) % 2 = 1 then 49 else 48
theorem b8qlen (x : Int) : (b8 x).length = 8 := by simp [b8]
theorem b8qall (x : Int) : (b8 x).all isB = true := by
  rw [List.all_eq_true]
  intro c hc
  simp only [b8, List.mem_map] at hc
  obtain ⟨j, _, rfl⟩ := hc
  split <;> rfl
theorem all_b8 : ((List.range 256).all fun i => decide (vb (b8 (i : Int)) = (i : Int))) = true := by kernel_rfl
theorem vb_b8 {x : Int} (h0 : 0 ≤ x) (h1 : x < 256) : vb (b8 x) = x := by
  have := List.all_eq_true.1 all_b8 x.toNat (by simp; omega)
  have e : ((x.toNat : Nat) : Int) = x := by omega
  rw [e] at this
  exact of_decide_eq_true this
theorem b8qvb (r : List UInt8) (h : r.all isB = true) (hl : r.length = 8) : b8 (vb r) = r := by
  have hb := vb_bd r h
  rw [hl] at hb
  exact vb_inj _ _ (b8qall _) h (by rw [b8qlen, hl]) (vb_b8 hb.1 (by simpa using hb.2))
def bitsL (l : List Int) : List UInt8 := l.flatMap b8
theorem bitsL_cons (x : Int) (l : List Int) : bitsL (x :: l) = b8 x ++ bitsL l := by simp [bitsL]
theorem bitsL_len : ∀ l : List Int, (bitsL l).length = 8 * l.length
  | [] => rfl
  | x :: l => by
    rw [bitsL_cons, List.length_append, b8qlen, bitsL_len l, List.length_cons]
    omega
theorem bitsL_app (a b : List Int) : bitsL (a ++ b) = bitsL a ++ bitsL b := by simp [bitsL]
def tx (i : Nat) : List UInt8 := TEXTS.getD i []
def TT : List (List UInt8 × Int) := TEXTS.zipIdx.map fun q => (q.1, (q.2 : Int))
def ti (p : List UInt8) : Option Int := mget TT p
def enc (t : List UInt8) : S116 := ⟨vb t, t.length⟩
theorem codes_enc : CODES = TEXTS.map enc := by kernel_rfl
theorem texts_bits : (TEXTS.all fun t => t.all isB && Nat.ble 5 t.length && Nat.ble t.length 30) = true := by kernel_rfl
theorem all_ti : ((List.range 257).all fun i => ti (tx i) == some (i : Int)) = true := by kernel_rfl
/-! the codes' tree -/
inductive Tr
  | lf (i : Nat)
  | nd (l r : Tr)
def go : Tr → List UInt8 → Option Tr
  | t, [] => some t
  | .nd l r, c :: p => if c = 48 then go l p else go r p
  | .lf _, _ :: _ => none
def paths : Tr → List UInt8 → List (List UInt8 × Nat)
  | .lf i, pre => [(pre, i)]
  | .nd l r, pre => paths l (pre ++ [48]) ++ paths r (pre ++ [49])
def dep : Tr → Nat
  | .lf _ => 0
  | .nd l r => max (dep l) (dep r) + 1
theorem go_nil (t : Tr) : go t [] = some t := by cases t <;> rfl
theorem go_paths : ∀ (t : Tr) (p pre : List UInt8) (i : Nat), p.all isB = true → go t p = some (.lf i) → (pre ++ p, i) ∈ paths t pre := by
  intro t
  induction t with
  | lf j =>
    intro p pre i _ h
    cases p with
    | nil =>
      rw [go_nil] at h
      injection h with h
      injection h with h
      subst h
      simp [paths]
    | cons c p => simp [go] at h
  | nd l r ihl ihr =>
    intro p pre i hb h
    cases p with
    | nil =>
      rw [go_nil] at h
      injection h with h
      cases h
    | cons c p =>
      rw [List.all_cons, Bool.and_eq_true] at hb
      simp only [go] at h
      simp only [paths, List.mem_append]
      rcases isB_dg hb.1 with ⟨rfl, _⟩ | ⟨rfl, _⟩
      · rw [if_pos rfl] at h
        have := ihl p (pre ++ [48]) i hb.2 h
        rw [List.append_assoc] at this
        exact .inl this
      · rw [if_neg (by decide)] at h
        have := ihr p (pre ++ [49]) i hb.2 h
        rw [List.append_assoc] at this
        exact .inr this
theorem go_snoc : ∀ (t : Tr) (p : List UInt8) (c : UInt8), go t (p ++ [c]) = match go t p with | some (.nd l r) => some (if c = 48 then l else r) | _ => none := by
  intro t
  induction t with
  | lf j =>
    intro p c
    cases p with
    | nil => simp [go, go_nil]
    | cons d p => simp [go]
  | nd l r ihl ihr =>
    intro p c
    cases p with
    | nil =>
      simp only [List.nil_append, go, go_nil]
      split <;> rfl
    | cons d p =>
      simp only [List.cons_append, go]
      by_cases h : d = 48
      · rw [if_pos h, if_pos h]
        exact ihl p c
      · rw [if_neg h, if_neg h]
        exact ihr p c
theorem go_dep : ∀ (t : Tr) (p : List UInt8) (q : Tr), go t p = some q → p.length + dep q ≤ dep t := by
  intro t
  induction t with
  | lf j =>
    intro p q h
    cases p with
    | nil =>
      rw [go_nil] at h
      injection h with h
      subst h
      simp
    | cons d p => simp [go] at h
  | nd l r ihl ihr =>
    intro p q h
    cases p with
    | nil =>
      rw [go_nil] at h
      injection h with h
      subst h
      simp
    | cons d p =>
      simp only [go] at h
      simp only [dep, List.length_cons]
      by_cases hd : d = 48
      · rw [if_pos hd] at h
        have := ihl p q h
        omega
      · rw [if_neg hd] at h
        have := ihr p q h
        omega
def ROOT : Tr := .nd (.nd (.nd (.nd (.nd (.lf 48) (.lf 49)) (.nd (.lf 50) (.lf 97))) (.nd (.nd (.lf 99) (.lf 101)) (.nd (.lf 105) (.lf 111)))) (.nd (.nd (.nd (.lf 115)
  (.lf 116)) (.nd (.nd (.lf 32) (.lf 37)) (.nd (.lf 45) (.lf 46)))) (.nd (.nd (.nd (.lf 47) (.lf 51)) (.nd (.lf 52) (.lf 53))) (.nd (.nd (.lf 54) (.lf
  55)) (.nd (.lf 56) (.lf 57)))))) (.nd (.nd (.nd (.nd (.nd (.lf 61) (.lf 65)) (.nd (.lf 95) (.lf 98))) (.nd (.nd (.lf 100) (.lf 102)) (.nd (.lf 103)
  (.lf 104)))) (.nd (.nd (.nd (.lf 108) (.lf 109)) (.nd (.lf 110) (.lf 112))) (.nd (.nd (.lf 114) (.lf 117)) (.nd (.nd (.lf 58) (.lf 66)) (.nd (.lf 67)
  (.lf 68)))))) (.nd (.nd (.nd (.nd (.nd (.lf 69) (.lf 70)) (.nd (.lf 71) (.lf 72))) (.nd (.nd (.lf 73) (.lf 74)) (.nd (.lf 75) (.lf 76)))) (.nd (.nd
  (.nd (.lf 77) (.lf 78)) (.nd (.lf 79) (.lf 80))) (.nd (.nd (.lf 81) (.lf 82)) (.nd (.lf 83) (.lf 84))))) (.nd (.nd (.nd (.nd (.lf 85) (.lf 86)) (.nd
  (.lf 87) (.lf 89))) (.nd (.nd (.lf 106) (.lf 107)) (.nd (.lf 113) (.lf 118)))) (.nd (.nd (.nd (.lf 119) (.lf 120)) (.nd (.lf 121) (.lf 122))) (.nd
  (.nd (.nd (.lf 38) (.lf 42)) (.nd (.lf 44) (.lf 59))) (.nd (.nd (.lf 88) (.lf 90)) (.nd (.nd (.nd (.lf 33) (.lf 34)) (.nd (.lf 40) (.lf 41))) (.nd
  (.nd (.lf 63) (.nd (.lf 39) (.lf 43))) (.nd (.nd (.lf 124) (.nd (.lf 35) (.lf 62))) (.nd (.nd (.nd (.lf 0) (.lf 36)) (.nd (.lf 64) (.lf 91))) (.nd
  (.nd (.lf 93) (.lf 126)) (.nd (.nd (.lf 94) (.lf 125)) (.nd (.nd (.lf 60) (.lf 96)) (.nd (.lf 123) (.nd (.nd (.nd (.nd (.lf 92) (.lf 195)) (.nd (.lf
  208) (.nd (.lf 128) (.lf 130)))) (.nd (.nd (.nd (.lf 131) (.lf 162)) (.nd (.lf 184) (.lf 194))) (.nd (.nd (.lf 224) (.lf 226)) (.nd (.nd (.lf 153)
  (.lf 161)) (.nd (.lf 167) (.lf 172)))))) (.nd (.nd (.nd (.nd (.nd (.lf 176) (.lf 177)) (.nd (.lf 179) (.lf 209))) (.nd (.nd (.lf 216) (.lf 217)) (.nd
  (.lf 227) (.lf 229)))) (.nd (.nd (.nd (.lf 230) (.nd (.lf 129) (.lf 132))) (.nd (.nd (.lf 133) (.lf 134)) (.nd (.lf 136) (.lf 146)))) (.nd (.nd (.nd
  (.lf 154) (.lf 156)) (.nd (.lf 160) (.lf 163))) (.nd (.nd (.lf 164) (.lf 169)) (.nd (.lf 170) (.lf 173)))))) (.nd (.nd (.nd (.nd (.nd (.lf 178) (.lf
  181)) (.nd (.lf 185) (.lf 186))) (.nd (.nd (.lf 187) (.lf 189)) (.nd (.lf 190) (.lf 196)))) (.nd (.nd (.nd (.lf 198) (.lf 228)) (.nd (.lf 232) (.lf
  233))) (.nd (.nd (.nd (.lf 1) (.lf 135)) (.nd (.lf 137) (.lf 138))) (.nd (.nd (.lf 139) (.lf 140)) (.nd (.lf 141) (.lf 143)))))) (.nd (.nd (.nd (.nd
  (.nd (.lf 147) (.lf 149)) (.nd (.lf 150) (.lf 151))) (.nd (.nd (.lf 152) (.lf 155)) (.nd (.lf 157) (.lf 158)))) (.nd (.nd (.nd (.lf 165) (.lf 166))
  (.nd (.lf 168) (.lf 174))) (.nd (.nd (.lf 175) (.lf 180)) (.nd (.lf 182) (.lf 183))))) (.nd (.nd (.nd (.nd (.lf 188) (.lf 191)) (.nd (.lf 197) (.lf
  231))) (.nd (.nd (.lf 239) (.nd (.lf 9) (.lf 142))) (.nd (.nd (.lf 144) (.lf 145)) (.nd (.lf 148) (.lf 159))))) (.nd (.nd (.nd (.nd (.lf 171) (.lf
  206)) (.nd (.lf 215) (.lf 225))) (.nd (.nd (.lf 236) (.lf 237)) (.nd (.nd (.lf 199) (.lf 207)) (.nd (.lf 234) (.lf 235))))) (.nd (.nd (.nd (.nd (.nd
  (.lf 192) (.lf 193)) (.nd (.lf 200) (.lf 201))) (.nd (.nd (.lf 202) (.lf 205)) (.nd (.lf 210) (.lf 213)))) (.nd (.nd (.nd (.lf 218) (.lf 219)) (.nd
  (.lf 238) (.lf 240))) (.nd (.nd (.lf 242) (.lf 243)) (.nd (.lf 255) (.nd (.lf 203) (.lf 204)))))) (.nd (.nd (.nd (.nd (.nd (.lf 211) (.lf 212)) (.nd
  (.lf 214) (.lf 221))) (.nd (.nd (.lf 222) (.lf 223)) (.nd (.lf 241) (.lf 244)))) (.nd (.nd (.nd (.lf 245) (.lf 246)) (.nd (.lf 247) (.lf 248))) (.nd
  (.nd (.lf 250) (.lf 251)) (.nd (.lf 252) (.lf 253))))) (.nd (.nd (.nd (.nd (.lf 254) (.nd (.lf 2) (.lf 3))) (.nd (.nd (.lf 4) (.lf 5)) (.nd (.lf 6)
  (.lf 7)))) (.nd (.nd (.nd (.lf 8) (.lf 11)) (.nd (.lf 12) (.lf 14))) (.nd (.nd (.lf 15) (.lf 16)) (.nd (.lf 17) (.lf 18))))) (.nd (.nd (.nd (.nd (.lf
  19) (.lf 20)) (.nd (.lf 21) (.lf 23))) (.nd (.nd (.lf 24) (.lf 25)) (.nd (.lf 26) (.lf 27)))) (.nd (.nd (.nd (.lf 28) (.lf 29)) (.nd (.lf 30) (.lf
  31))) (.nd (.nd (.lf 127) (.lf 220)) (.nd (.lf 249) (.nd (.nd (.lf 10) (.lf 13)) (.nd (.lf 22) (.lf 256))))))))))))))))))))))))))))))
theorem root_dep : dep ROOT = 30 := by kernel_rfl
def isLf (t : Option Tr) (i : Nat) : Bool := match t with
  | some (.lf j) => Nat.beq i j
  | _ => false
theorem isLf_iff {t : Option Tr} {i : Nat} (h : isLf t i = true) : t = some (.lf i) := by
  match t, h with
  | some (.lf j), h =>
    have := Nat.eq_of_beq_eq_true h
    rw [this]
theorem all_go : (TEXTS.zipIdx.all fun q => isLf (go ROOT q.1) q.2) = true := by kernel_rfl
theorem all_paths : ((paths ROOT []).all fun q => Nat.blt q.2 257 && q.1 == tx q.2) = true := by kernel_rfl
theorem tx_eq (i : Nat) (h : i < TEXTS.length) : tx i = TEXTS[i] := by simp [tx, List.getD_eq_getElem?_getD, h]
theorem tx_bits (i : Nat) (hi : i < 257) : (tx i).all isB = true ∧ 5 ≤ (tx i).length ∧ (tx i).length ≤ 30 := by
  have h : i < TEXTS.length := by rw [TEXTS_len]; exact hi
  have := List.all_eq_true.1 texts_bits _ (List.getElem_mem h)
  rw [← tx_eq i h] at this
  simp only [Bool.and_eq_true] at this
  exact ⟨this.1.1, Nat.le_of_ble_eq_true this.1.2, Nat.le_of_ble_eq_true this.2⟩
theorem go_tx (i : Nat) (hi : i < 257) : go ROOT (tx i) = some (.lf i) := by
  have h : i < TEXTS.length := by rw [TEXTS_len]; exact hi
  have := List.all_eq_true.1 all_go _ (zipIdx_mem TEXTS i h)
  rw [tx_eq i h]
  exact isLf_iff this
theorem go_lf {p : List UInt8} {i : Nat} (hp : p.all isB = true) (h : go ROOT p = some (.lf i)) : i < 257 ∧ p = tx i := by
  have := List.all_eq_true.1 all_paths _ (go_paths ROOT p [] i hp h)
  simp only [List.nil_append, Bool.and_eq_true, beq_iff_eq] at this
  exact ⟨by have := this.1; simpa [Nat.blt, Nat.succ_le_iff] using this, this.2⟩
theorem mget_some {κ ν : Type} [DecidableEq κ] : ∀ (m : List (κ × ν)) (k : κ) (v : ν), mget m k = some v → (k, v) ∈ m
  | [], k, v, h => by simp [mget, midx] at h
  | p :: m, k, v, h => by
    unfold mget at h
    simp only [midx] at h
    by_cases hk : p.1 = k
    · rw [if_pos hk] at h
      simp only [Option.map_some, Option.some.injEq] at h
      subst hk
      subst h
      exact List.mem_cons_self
    · rw [if_neg hk] at h
      refine List.mem_cons_of_mem _ (mget_some m k v ?_)
      unfold mget
      cases hi : midx m k with
      | none => rw [hi] at h; simp at h
      | some q => rw [hi] at h; simpa using h
theorem ti_tx (i : Nat) (hi : i < 257) : ti (tx i) = some (i : Int) := by
  have := List.all_eq_true.1 all_ti i (by simpa using hi)
  simpa using this
theorem ti_some {p : List UInt8} {v : Int} (h : ti p = some v) : ∃ i : Nat, i < 257 ∧ v = (i : Int) ∧ p = tx i := by
  have := mget_some TT p v h
  simp only [TT, List.mem_map] at this
  obtain ⟨q, hq, e⟩ := this
  rw [List.mem_iff_getElem?] at hq
  obtain ⟨j, hj⟩ := hq
  rw [List.getElem?_zipIdx] at hj
  obtain ⟨w, hw, hj⟩ := Option.map_eq_some_iff.1 hj
  obtain ⟨hlt, hw⟩ := List.getElem?_eq_some_iff.1 hw
  subst hj
  simp only [Prod.mk.injEq] at e
  refine ⟨j, by rw [← TEXTS_len]; exact hlt, ?_, ?_⟩
  · rw [← e.2]
    simp
  · rw [tx_eq j hlt, hw]
    exact e.1.symm
/-- A path that ends inside the tree is no code. -/
theorem ti_inner {p : List UInt8} {l r : Tr} (h : go ROOT p = some (.nd l r)) : ti p = none := by
  cases hv : ti p with
  | none => rfl
  | some v =>
    obtain ⟨i, hi, _, rfl⟩ := ti_some hv
    rw [go_tx i hi] at h
    injection h with h
    cases h
def dec : List UInt8 → List UInt8 → List Int → Option (List Int × List UInt8)
  | p, [], out => some (out, p)
  | p, c :: s, out => match ti (p ++ [c]) with
    | some i => if i = 256 then none else dec [] s (out ++ [i])
    | none => dec (p ++ [c]) s out
def inner (p : List UInt8) : Prop := p.all isB = true ∧ ∃ l r, go ROOT p = some (.nd l r)
theorem inner_nil : inner [] := by
  refine ⟨rfl, ?_⟩
  rw [go_nil]
  exact ⟨_, _, rfl⟩
theorem inner_len {p : List UInt8} (h : inner p) : p.length ≤ 29 := by
  obtain ⟨_, l, r, h⟩ := h
  have := go_dep ROOT p _ h
  rw [root_dep] at this
  simp only [dep] at this
  omega
theorem inner_next {p : List UInt8} {c : UInt8} (h : inner p) (hc : isB c = true) : (∃ i, i < 257 ∧ p ++ [c] = tx i) ∨ inner (p ++ [c]) := by
  obtain ⟨hb, l, r, h⟩ := h
  have hb' : (p ++ [c]).all isB = true := by rw [List.all_append, hb]; simpa using hc
  have hs := go_snoc ROOT p c
  rw [h] at hs
  simp only at hs
  cases ht : (if c = 48 then l else r) with
  | lf i =>
    rw [ht] at hs
    obtain ⟨a, b⟩ := go_lf hb' hs
    exact .inl ⟨i, a, b⟩
  | nd l' r' =>
    rw [ht] at hs
    exact .inr ⟨hb', l', r', hs⟩
def KN : List (S116 × Int) := TT.map fun q => (enc q.1, q.2)
theorem enc_inj {a b : List UInt8} (ha : a.all isB = true) (hb : b.all isB = true) (h : enc a = enc b) : a = b := by
  simp only [enc, S116.mk.injEq] at h
  exact vb_inj a b ha hb (by omega) h.1
theorem mget_map {κ κ' ν : Type} [DecidableEq κ] [DecidableEq κ'] (f : κ → κ') : ∀ (l : List (κ × ν)) (k : κ), (∀ q ∈ l, f q.1 = f k → q.1 = k) → mget (l.map fun q => (f q.1, q.2)) (f k) = mget l k
  | [], k, _ => rfl
  | q :: l, k, h => by
    have ih := mget_map f l k fun q hq => h q (List.mem_cons_of_mem _ hq)
    unfold mget at ih ⊢
    simp only [List.map_cons, midx]
    by_cases hk : q.1 = k
    · rw [if_pos (by rw [hk]), if_pos hk]
    · rw [if_neg (fun e => hk (h q List.mem_cons_self e)), if_neg hk]
      simp only [Option.map_map] at ih ⊢
      exact ih
theorem TT_bits {q : List UInt8 × Int} (h : q ∈ TT) : q.1.all isB = true := by
  simp only [TT, List.mem_map] at h
  obtain ⟨w, hw, rfl⟩ := h
  have hw2 : w.1 ∈ TEXTS := by
    rw [List.mem_iff_getElem?] at hw
    obtain ⟨j, hj⟩ := hw
    rw [List.getElem?_zipIdx] at hj
    obtain ⟨v, hv, rfl⟩ := Option.map_eq_some_iff.1 hj
    exact List.mem_iff_getElem?.2 ⟨j, hv⟩
  have := List.all_eq_true.1 texts_bits _ hw2
  simp only [Bool.and_eq_true] at this
  exact this.1.1
theorem mget_KN (p : List UInt8) (hp : p.all isB = true) : mget KN (enc p) = ti p :=
  mget_map enc TT p fun q hq h => enc_inj (TT_bits hq) hp h
theorem TT_at (i : Nat) (hi : i < 257) : TT[i]? = some (tx i, (i : Int)) := by
  have h : i < TEXTS.length := by rw [TEXTS_len]; exact hi
  unfold TT
  rw [List.getElem?_map, List.getElem?_zipIdx, List.getElem?_eq_getElem h, tx_eq i h]
  simp
theorem TT_len : TT.length = 257 := by simp [TT, TEXTS_len]
theorem KN_at (i : Nat) (hi : i < 257) : KN[i]? = some (enc (tx i), (i : Int)) := by
  unfold KN
  rw [List.getElem?_map, TT_at i hi]
  rfl
theorem KN_len : KN.length = 257 := by simp [KN, TT_len]
theorem map_at {α β : Type} (l : List α) (f : α → β) (i : Nat) (h : i < l.length) : (l.map f)[i]? = some (f l[i]) := by simp [h]
theorem cd_at (i : Nat) (hi : i < 257) : gt z116 CODES (i : Int) = enc (tx i) := by
  have h : i < TEXTS.length := by rw [TEXTS_len]; exact hi
  have h2 : i < CODES.length := by rw [CODES_len]; exact hi
  rw [gt_nat z116 CODES i h2, tx_eq i h]
  have := map_at TEXTS enc i h
  rw [← codes_enc, List.getElem?_eq_getElem h2] at this
  exact Option.some.inj this
theorem known_no (i : Nat) (hi : i < 257) : mget (KN.take i) (enc (tx i)) = none := by
  cases hm : mget (KN.take i) (enc (tx i)) with
  | none => rfl
  | some v =>
    have h1 := mget_some _ _ _ hm
    rw [List.mem_iff_getElem?] at h1
    obtain ⟨j, hj⟩ := h1
    rw [List.getElem?_take] at hj
    split at hj
    · rename_i hlt
      rw [KN_at j (by omega)] at hj
      simp only [Option.some.injEq, Prod.mk.injEq] at hj
      have e := enc_inj (tx_bits j (by omega)).1 (tx_bits i hi).1 hj.1
      have e1 := ti_tx j (by omega)
      rw [e, ti_tx i hi] at e1
      simp only [Option.some.injEq] at e1
      omega
    · cases hj
/-- The answer, off what was read. -/
def fin : Option (List Int × List UInt8) → List UInt8 × Int
  | none => ([], 3)
  | some (out, p) => if p.length > 7 then ([], 3) else if vb p = 2 ^ p.length - 1 then (toS out, 0) else ([], 3)
theorem decode_l0 (p0 : List Int) (R : List UInt8 × Int) (F : Nat) (h1 : ∀ k, F ≤ k → huffman_Decode.l1 k [] 0 0 0 p0 KN = some R) : ∀ (m k i : Nat), i + m = 257 → F + m + 1 ≤ k → huffman_Decode.l0 k (KN.take i) i CODES p0 = some R := by
  intro m
  induction m with
  | zero =>
    intro k i hi hk
    obtain ⟨k, rfl⟩ : ∃ k', k = k' + 1 := ⟨k - 1, by omega⟩
    rw [huffman_Decode.l0, if_neg (by omega), List.take_of_length_le (by rw [KN_len]; omega)]
    exact h1 k (by omega)
  | succ m ih =>
    intro k i hi hk
    obtain ⟨k, rfl⟩ : ∃ k', k = k' + 1 := ⟨k - 1, by omega⟩
    have e : (⟨(gt z116 CODES (i : Int)).f0, (gt z116 CODES (i : Int)).f1⟩ : S116) = enc (tx i) := cd_at i (by omega)
    rw [huffman_Decode.l0, if_pos (by omega), if_pos (by omega), if_pos (by omega), e, if_pos (known_no i (by omega)), wi64 (by omega) (by omega), show (i : Int) + 1 = ((i + 1 : Nat) : Int) by omega]
    have e2 : KN.take i ++ [(enc (tx i), (i : Int))] = KN.take (i + 1) := by
      rw [List.take_add_one, KN_at i (by omega)]
      rfl
    rw [e2]
    exact ih k (i + 1) (by omega) (by omega)
def bitc (x : Int) (j : Nat) : UInt8 := if (x / 2 ^ j) % 2 = 1 then 49 else 48
theorem bitc_dg (x : Int) (j : Nat) : dg (bitc x j) = (x / 2 ^ j) % 2 := by
  unfold bitc
  split
  · rename_i h
    rw [h]
    rfl
  · have : (x / 2 ^ j) % 2 = 0 := by omega
    rw [this]
    rfl
theorem bitc_isB (x : Int) (j : Nat) : isB (bitc x j) = true := by
  unfold bitc
  split <;> rfl
theorem b8qdrop (x : Int) (m : Nat) (h : m < 8) : (b8 x).drop (8 - (m + 1)) = bitc x m :: (b8 x).drop (8 - m) := by
  have hlt : 8 - (m + 1) < (b8 x).length := by rw [b8qlen]; omega
  rw [List.drop_eq_getElem_cons hlt, show 8 - (m + 1) + 1 = 8 - m by omega]
  congr 1
  simp only [b8, List.getElem_map, List.getElem_range]
  rw [show 7 - (8 - (m + 1)) = m by omega]
  rfl
theorem step_key {p : List UInt8} (hp : inner p) {x : Int} (h0 : 0 ≤ x) (h1 : x < 256) (j : Nat) (hj : j < 8) :
    (⟨bOr .u32 (shlI .u32 (vb p) 1) (bAnd .u32 (IntKind.u32.wrap (shrI .u8 x (j : Int))) 1), IntKind.u8.wrap ((p.length : Int) + 1)⟩ : S116) = enc (p ++ [bitc x j]) := by
  have hb := vb_bd p hp.1
  have hl := inner_len hp
  have hpow : (2 : Int) ^ p.length ≤ 2 ^ 29 := pow_le hl
  have e0 : (2 : Int) ^ 29 = 536870912 := by decide
  have ej : (0 : Int) < 2 ^ j := pow_pos' j
  have hq0 : 0 ≤ x / 2 ^ j := Int.ediv_nonneg h0 (by omega)
  have hq1 : x / 2 ^ j ≤ x := Int.ediv_le_self _ h0
  have e1 : shlI .u32 (vb p) 1 = 2 ^ 1 * vb p := by
    rw [shlI_eq .u32 rfl (by decide) hb.1 (by show vb p * 2 ^ 1 < 2 ^ 32; omega)]
    show vb p * 2 ^ 1 = _
    omega
  have e2 : shrI .u8 x (j : Int) = x / 2 ^ j := by
    rw [shrI_eq .u8 (by rw [Int.toNat_natCast]; show j ≤ 8; omega), Int.toNat_natCast]
  have e3 : bAnd .u32 (x / 2 ^ j) 1 = (x / 2 ^ j) % 2 := by
    have := bAnd_mask .u32 rfl 1 (by decide) (x := x / 2 ^ j) hq0 (by show x / 2 ^ j < 2 ^ 32; omega)
    simpa using this
  rw [e1, e2, wu32 (by omega) (by omega), e3]
  have e4 := bOr_add .u32 rfl 1 (q := vb p) (c := (x / 2 ^ j) % 2) hb.1 (by omega) (by omega) (by show 2 ^ 1 * vb p + (x / 2 ^ j) % 2 < 2 ^ 32; omega)
  rw [e4, wu8 (by omega) (by omega)]
  unfold enc
  rw [vb_snoc, bitc_dg]
  simp
theorem decode_l2 (p0 : List Int) (i : Nat) (hi : i < p0.length) (hil : p0.length ≤ 100000) (x : Int) (hx : gt (0 : Int) p0 (i : Int) = x) (h0 : 0 ≤ x) (h1 : x < 256) (F : Nat)
    (hl1 : ∀ (k : Nat) (p : List UInt8) (out : List Int), inner p → out.length ≤ 8 * (i + 1) → F ≤ k → huffman_Decode.l1 k out (vb p) p.length ((i + 1 : Nat) : Int) p0 KN = some (fin (dec p (bitsL (p0.drop (i + 1))) out))) :
    ∀ (m k : Nat) (p : List UInt8) (out : List Int), m ≤ 8 → inner p → out.length + m ≤ 8 * (i + 1) → F + m + 1 ≤ k → huffman_Decode.l2 k out (vb p) p.length ((m : Int) - 1) p0 KN i = some (fin (dec p ((b8 x).drop (8 - m) ++ bitsL (p0.drop (i + 1))) out)) := by
  intro m
  induction m with
  | zero =>
    intro k p out hm hp ho hk
    obtain ⟨k, rfl⟩ : ∃ k', k = k' + 1 := ⟨k - 1, by omega⟩
    rw [huffman_Decode.l2, if_neg (by omega), wi64 (by omega) (by omega), show (i : Int) + 1 = ((i + 1 : Nat) : Int) by omega, List.drop_eq_nil_of_le (by rw [b8qlen]; omega), List.nil_append]
    exact hl1 k p out hp (by omega) (by omega)
  | succ m ih =>
    intro k p out hm hp ho hk
    obtain ⟨k, rfl⟩ : ∃ k', k = k' + 1 := ⟨k - 1, by omega⟩
    have ej : (((m + 1 : Nat) : Int) - 1) = (m : Int) := by omega
    have hpb : (p ++ [bitc x m]).all isB = true := by rw [List.all_append, hp.1]; simpa using bitc_isB x m
    rw [ej, huffman_Decode.l2, if_pos (by omega), if_pos (by omega), hx, step_key hp h0 h1 m (by omega), mget_KN _ hpb, b8qdrop x m (by omega), List.cons_append, dec]
    rw [wi64 (x := (m : Int) - 1) (by omega) (by omega)]
    rcases inner_next hp (bitc_isB x m) with ⟨s, hs, e⟩ | hn
    · rw [e, ti_tx s hs]
      simp only [Option.isSome_some, Option.getD_some, if_true]
      by_cases h256 : (s : Int) = 256
      · rw [if_pos h256, if_pos h256]
        rfl
      · rw [if_neg h256, if_neg h256, if_pos (by omega)]
        simp only [lt1]
        rw [wu8 (by omega) (by omega)]
        exact ih k [] (out ++ [(s : Int)]) (by omega) inner_nil (by simp; omega) (by omega)
    · obtain ⟨_, l, r, hg⟩ := id hn
      rw [ti_inner hg]
      simp only [Option.isSome_none, Bool.false_eq_true, if_false]
      have hk2 := step_key hp h0 h1 m (by omega)
      simp only [enc, S116.mk.injEq] at hk2
      rw [hk2.1, hk2.2]
      exact ih k (p ++ [bitc x m]) out (by omega) hn (by omega) (by omega)
theorem decode_l1 (p0 : List Int) (hil : p0.length ≤ 100000) (hb : ∀ x ∈ p0, 0 ≤ x ∧ x < 256) : ∀ (n k i : Nat) (p : List UInt8) (out : List Int), i + n = p0.length → inner p → out.length ≤ 8 * i → 10 * n + 1 ≤ k → huffman_Decode.l1 k out (vb p) p.length i p0 KN = some (fin (dec p (bitsL (p0.drop i)) out)) := by
  intro n
  induction n with
  | zero =>
    intro k i p out hi hp ho hk
    obtain ⟨k, rfl⟩ : ∃ k', k = k' + 1 := ⟨k - 1, by omega⟩
    rw [huffman_Decode.l1, if_neg (by omega), List.drop_eq_nil_of_le (by omega)]
    show _ = some (if p.length > 7 then ([], 3) else if vb p = 2 ^ p.length - 1 then (toS out, 0) else ([], 3))
    by_cases h7 : p.length > 7
    · rw [if_pos (by omega), if_pos h7]
    · rw [if_neg (by omega), if_neg h7, if_pos (by omega)]
      have hpw : (2 : Int) ^ p.length ≤ 2 ^ 7 := pow_le (by omega)
      have hp0 := pow_pos' p.length
      have e7 : (2 : Int) ^ 7 = 128 := by decide
      have e1 : shlI .u32 1 (p.length : Int) = 2 ^ p.length := by
        rw [shlI_eq .u32 rfl (by rw [Int.toNat_natCast]; show p.length ≤ 32; omega) (by omega) (by rw [Int.toNat_natCast, Int.one_mul]; show (2 : Int) ^ p.length < 2 ^ 32; omega), Int.toNat_natCast, Int.one_mul]
      rw [e1, wu32 (by omega) (by omega)]
      by_cases hv : vb p = 2 ^ p.length - 1
      · rw [if_pos hv, if_pos hv]
      · rw [if_neg hv, if_neg hv]
  | succ n ih =>
    intro k i p out hi hp ho hk
    obtain ⟨k, rfl⟩ : ∃ k', k = k' + 1 := ⟨k - 1, by omega⟩
    have hlt : i < p0.length := by omega
    have hx : gt (0 : Int) p0 (i : Int) = p0[i] := gt_nat 0 p0 i hlt
    have hb2 := hb _ (List.getElem_mem hlt)
    have := decode_l2 p0 i hlt hil p0[i] hx hb2.1 hb2.2 (10 * n + 1) (fun k p out hp ho hk => ih k (i + 1) p out (by omega) hp ho hk) 8 k p out (by omega) hp (by omega) (by omega)
    rw [huffman_Decode.l1, if_pos (by omega), if_pos (by omega), List.drop_eq_getElem_cons hlt, bitsL_cons]
    simpa using this
theorem decode_f (p0 : List Int) (hil : p0.length ≤ 100000) (hb : ∀ x ∈ p0, 0 ≤ x ∧ x < 256) (k : Nat) (hk : 2000000 ≤ k) : huffman_Decode.f k p0 = some (fin (dec [] (bitsL p0) [])) := by
  unfold huffman_Decode.f
  rw [codes_at k (by omega)]
  simp only [bnd1]
  have h1 : ∀ k, 10 * p0.length + 1 ≤ k → huffman_Decode.l1 k [] 0 0 0 p0 KN = some (fin (dec [] (bitsL p0) [])) := by
    intro k hk
    have := decode_l1 p0 hil hb p0.length k 0 [] [] (by omega) inner_nil (by simp) hk
    simpa [vb_nil] using this
  have := decode_l0 p0 _ _ h1 257 k 0 (by omega) (by omega)
  simpa using this
def flat (s : List UInt8) : List UInt8 := s.flatMap fun c => tx c.toNat
def pad (n : Nat) : Nat := (8 - n % 8) % 8
theorem flat_cons (c : UInt8) (s : List UInt8) : flat (c :: s) = tx c.toNat ++ flat s := by simp [flat]
theorem flat_app (a b : List UInt8) : flat (a ++ b) = flat a ++ flat b := by simp [flat]
theorem tx_c (c : UInt8) : (tx c.toNat).all isB = true ∧ 5 ≤ (tx c.toNat).length ∧ (tx c.toNat).length ≤ 30 := tx_bits c.toNat (by have := c.toNat_lt; omega)
theorem flat_all : ∀ s : List UInt8, (flat s).all isB = true
  | [] => rfl
  | c :: s => by rw [flat_cons, List.all_append, (tx_c c).1, flat_all s]; rfl
theorem cd_c (c : UInt8) : gt z116 CODES ((c.toNat : Nat) : Int) = enc (tx c.toNat) := cd_at c.toNat (by have := c.toNat_lt; omega)
structure Eout (s : List UInt8) (res : List Int) : Prop where
  bits : bitsL res = flat s ++ ones (pad (flat s).length)
  ok : ∀ x ∈ res, 0 ≤ x ∧ x < 256
theorem vb_split (r : List UInt8) (h : r.all isB = true) (hl : 8 ≤ r.length) : vb r = 2 ^ (r.length - 8) * vb (r.take 8) + vb (r.drop 8) ∧ 0 ≤ vb (r.drop 8) ∧ vb (r.drop 8) < 2 ^ (r.length - 8) ∧ 0 ≤ vb (r.take 8) ∧ vb (r.take 8) < 256 := by
  have ht : (r.take 8).all isB = true := by
    rw [List.all_eq_true] at h ⊢
    exact fun c hc => h c (List.mem_of_mem_take hc)
  have hd : (r.drop 8).all isB = true := by
    rw [List.all_eq_true] at h ⊢
    exact fun c hc => h c (List.mem_of_mem_drop hc)
  have h1 := vb_bd _ ht
  have h2 := vb_bd _ hd
  have e1 : (r.take 8).length = 8 := by simp; omega
  rw [e1] at h1
  rw [List.length_drop] at h2
  refine ⟨?_, h2.1, h2.2, h1.1, by simpa using h1.2⟩
  have := vb_app (r.take 8) (r.drop 8)
  rw [List.take_append_drop, List.length_drop] at this
  exact this
theorem take_all {r : List UInt8} (h : r.all isB = true) (n : Nat) : (r.take n).all isB = true := by
  rw [List.all_eq_true] at h ⊢
  exact fun c hc => h c (List.mem_of_mem_take hc)
theorem drop_all {r : List UInt8} (h : r.all isB = true) (n : Nat) : (r.drop n).all isB = true := by
  rw [List.all_eq_true] at h ⊢
  exact fun c hc => h c (List.mem_of_mem_drop hc)
theorem bitsL_one (x : Int) : bitsL [x] = b8 x := by simp [bitsL]
theorem encode_l1 (s : List UInt8) (i F : Nat) (hi : i < 10000) (A : List UInt8) (hl0 : ∀ (k : Nat) (out : List Int) (r : List UInt8), r.all isB = true → r.length < 8 → bitsL out ++ r = A → (∀ x ∈ out, 0 ≤ x ∧ x < 256) → F ≤ k → ∃ res, huffman_Encode.l0 k out (vb r) r.length ((i + 1 : Nat) : Int) s CODES = some res ∧ Eout s res) (hA : A.length ≤ 400000) :
    ∀ (m k : Nat) (out : List Int) (r : List UInt8), r.all isB = true → r.length < 8 * (m + 1) → r.length ≤ 37 → bitsL out ++ r = A → (∀ x ∈ out, 0 ≤ x ∧ x < 256) → F + m + 1 ≤ k → ∃ res, huffman_Encode.l1 k out (vb r) r.length s CODES (i : Int) = some res ∧ Eout s res := by
  have e3 : IntKind.i64.wrap ((i : Int) + 1) = ((i + 1 : Nat) : Int) := by rw [wi64 (by omega) (by omega)]; omega
  intro m
  induction m with
  | zero =>
    intro k out r hr h1 h37 h2 hx hk
    obtain ⟨k, rfl⟩ : ∃ k', k = k' + 1 := ⟨k - 1, by omega⟩
    rw [huffman_Encode.l1, if_neg (by omega), e3]
    exact hl0 k out r hr (by omega) h2 hx (by omega)
  | succ m ih =>
    intro k out r hr h1 h37 h2 hx hk
    obtain ⟨k, rfl⟩ : ∃ k', k = k' + 1 := ⟨k - 1, by omega⟩
    rw [huffman_Encode.l1]
    by_cases hb : (r.length : Int) ≥ 8
    · rw [if_pos hb]
      obtain ⟨hv, v0, v1, w0, w1⟩ := vb_split r hr (by omega)
      have hpow := pow_pos' (r.length - 8)
      have hpw : (2 : Int) ^ (r.length - 8) ≤ 2 ^ 29 := pow_le (by omega)
      have e0 : (2 : Int) ^ 29 = 536870912 := by decide
      have e1 : IntKind.i64.wrap ((r.length : Int) - 8) = ((r.length - 8 : Nat) : Int) := by rw [wi64 (by omega) (by omega)]; omega
      have hprod : 2 ^ (r.length - 8) * vb (r.take 8) ≤ 2 ^ (r.length - 8) * 255 := Int.mul_le_mul_of_nonneg_left (by omega) (by omega)
      have hprod0 : 0 ≤ 2 ^ (r.length - 8) * vb (r.take 8) := Int.mul_nonneg (by omega) w0
      have e2 : shrI .u64 (vb r) ((r.length - 8 : Nat) : Int) = vb (r.take 8) := by
        rw [shrI_eq .u64 (by rw [Int.toNat_natCast]; show r.length - 8 ≤ 64; omega), Int.toNat_natCast, hv, Int.add_comm, Int.add_mul_ediv_left _ _ (by omega), Int.ediv_eq_zero_of_lt v0 v1]
        omega
      have e4 : shlI .u64 1 ((r.length - 8 : Nat) : Int) = 2 ^ (r.length - 8) := by
        rw [shlI_eq .u64 rfl (by rw [Int.toNat_natCast]; show r.length - 8 ≤ 64; omega) (by omega) (by rw [Int.toNat_natCast, Int.one_mul]; show (2 : Int) ^ (r.length - 8) < 2 ^ 64; omega), Int.toNat_natCast, Int.one_mul]
      have e5 : bAnd .u64 (vb r) (IntKind.u64.wrap (2 ^ (r.length - 8) - 1)) = vb (r.drop 8) := by
        rw [wu64 (by omega) (by omega), bAnd_mask .u64 rfl (r.length - 8) (by show r.length - 8 ≤ 64; omega) (by omega) (by show vb r < 2 ^ 64; omega), hv, Int.add_comm, Int.add_mul_emod_self_left, Int.emod_eq_of_lt v0 v1]
      have hol : bitsL out ++ r = A := h2
      have hlen : 8 * out.length + r.length ≤ 400000 := by
        have := congrArg List.length h2
        rw [List.length_append, bitsL_len] at this
        omega
      rw [e1, if_pos (by omega), if_pos (by omega), e2, e4, e5, wu8 w0 w1]
      simp only [lt1]
      have e6 : ((r.length - 8 : Nat) : Int) = ((r.drop 8).length : Int) := by simp
      rw [e6]
      have hb8 := b8qvb (r.take 8) (take_all hr 8) (by simp; omega)
      refine ih k _ (r.drop 8) (drop_all hr 8) (by simp; omega) (by simp; omega) ?_ ?_ (by omega)
      · rw [bitsL_app, bitsL_one, hb8, List.append_assoc, List.take_append_drop]
        exact h2
      · intro x hx2
        rcases List.mem_append.1 hx2 with h | h
        · exact hx x h
        · rw [List.mem_singleton.1 h]
          exact ⟨w0, w1⟩
    · rw [if_neg hb, e3]
      exact hl0 k out r hr (by omega) h2 hx (by omega)
theorem encode_l0 (s : List UInt8) (hs : s.length < 10000) : ∀ (n k i : Nat) (out : List Int) (r : List UInt8), i + n = s.length → r.all isB = true → r.length < 8 → bitsL out ++ r = flat (s.take i) → (∀ x ∈ out, 0 ≤ x ∧ x < 256) → 6 * n + 1 ≤ k →
    ∃ res, huffman_Encode.l0 k out (vb r) r.length (i : Int) s CODES = some res ∧ Eout s res := by
  have fl : ∀ t : List UInt8, (flat t).length ≤ 30 * t.length := by
    intro t
    induction t with
    | nil => simp [flat]
    | cons c t ih =>
      rw [flat_cons, List.length_append, List.length_cons]
      have := (tx_c c).2.2
      omega
  intro n
  induction n with
  | zero =>
    intro k i out r hi hr h8 hA hx hk
    obtain ⟨k, rfl⟩ : ∃ k', k = k' + 1 := ⟨k - 1, by omega⟩
    rw [List.take_of_length_le (by omega)] at hA
    have hlen : 8 * out.length + r.length = (flat s).length := by
      have := congrArg List.length hA
      rw [List.length_append, bitsL_len] at this
      exact this
    have hfl := fl s
    rw [huffman_Encode.l0, if_neg (by omega)]
    by_cases hb : (r.length : Int) > 0
    · have e1 : IntKind.i64.wrap (8 - (r.length : Int)) = ((8 - r.length : Nat) : Int) := by rw [wi64 (by omega) (by omega)]; omega
      have hv := vb_bd r hr
      have hpw : (2 : Int) ^ r.length ≤ 2 ^ 7 := pow_le (by omega)
      have hpl : (2 : Int) ^ (8 - r.length) ≤ 2 ^ 7 := pow_le (by omega)
      have hp0 := pow_pos' (8 - r.length)
      have e7 : (2 : Int) ^ 7 = 128 := by decide
      have hvo := vb_app r (ones (8 - r.length))
      rw [ones_len, vb_ones] at hvo
      have hro : (r ++ ones (8 - r.length)).all isB = true := by rw [List.all_append, hr, ones_all]; rfl
      have hrl : (r ++ ones (8 - r.length)).length = 8 := by rw [List.length_append, ones_len]; omega
      have hvb := vb_bd _ hro
      rw [hrl] at hvb
      have hvb2 : vb (r ++ ones (8 - r.length)) < 256 := by simpa using hvb.2
      have e4 : shlI .u64 1 ((8 - r.length : Nat) : Int) = 2 ^ (8 - r.length) := by
        rw [shlI_eq .u64 rfl (by rw [Int.toNat_natCast]; show 8 - r.length ≤ 64; omega) (by omega) (by rw [Int.toNat_natCast, Int.one_mul]; show (2 : Int) ^ (8 - r.length) < 2 ^ 64; omega), Int.toNat_natCast, Int.one_mul]
      have hmul : vb r * 2 ^ (8 - r.length) ≤ 128 * 128 := by
        have a1 : vb r * 2 ^ (8 - r.length) ≤ vb r * 128 := Int.mul_le_mul_of_nonneg_left (by omega) hv.1
        omega
      have e5 : shlI .u64 (vb r) ((8 - r.length : Nat) : Int) = 2 ^ (8 - r.length) * vb r := by
        rw [shlI_eq .u64 rfl (by rw [Int.toNat_natCast]; show 8 - r.length ≤ 64; omega) hv.1 (by rw [Int.toNat_natCast]; show vb r * (2 : Int) ^ (8 - r.length) < 2 ^ 64; omega), Int.toNat_natCast, Int.mul_comm]
      have e6 : bOr .u64 (2 ^ (8 - r.length) * vb r) (IntKind.u64.wrap (2 ^ (8 - r.length) - 1)) = vb (r ++ ones (8 - r.length)) := by
        rw [wu64 (by omega) (by omega), hvo]
        exact bOr_add .u64 rfl (8 - r.length) hv.1 (by omega) (by omega) (by show 2 ^ (8 - r.length) * vb r + (2 ^ (8 - r.length) - 1) < (2 : Int) ^ 64; omega)
      rw [if_pos hb, e1, if_pos (by omega), if_pos (by omega), e4, e5, e6, wu8 hvb.1 hvb2]
      refine ⟨_, rfl, ?_, ?_⟩
      · have ep : pad (flat s).length = 8 - r.length := by unfold pad; omega
        rw [bitsL_app, bitsL_one, b8qvb _ hro hrl, ep, ← hA, List.append_assoc]
      · intro x hx2
        rcases List.mem_append.1 hx2 with h | h
        · exact hx x h
        · rw [List.mem_singleton.1 h]
          exact ⟨hvb.1, hvb2⟩
    · rw [if_neg hb]
      have hr0 : r = [] := List.eq_nil_of_length_eq_zero (by omega)
      subst hr0
      refine ⟨_, rfl, ?_, hx⟩
      have ep : pad (flat s).length = 0 := by simp only [List.length_nil] at hlen; unfold pad; omega
      rw [ep, ← hA]
      simp [ones]
  | succ n ih =>
    intro k i out r hi hr h8 hA hx hk
    obtain ⟨k, rfl⟩ : ∃ k', k = k' + 1 := ⟨k - 1, by omega⟩
    have hlt : i < s.length := by omega
    have eb : btI s (i : Int) = ((s[i]).toNat : Int) := by simp [btI, List.getD_eq_getElem?_getD, hlt]
    have hu := (s[i]).toNat_lt
    obtain ⟨t1, t2, t3⟩ := tx_c s[i]
    have hv := vb_bd r hr
    have ht := vb_bd _ t1
    have hpw : (2 : Int) ^ r.length ≤ 2 ^ 7 := pow_le (by omega)
    have e7 : (2 : Int) ^ 7 = 128 := by decide
    have hpt : (2 : Int) ^ (tx (s[i]).toNat).length ≤ 2 ^ 30 := pow_le t3
    have hp0 := pow_pos' (tx (s[i]).toNat).length
    have e30 : (2 : Int) ^ 30 = 1073741824 := by decide
    have hvo := vb_app r (tx (s[i]).toNat)
    have f0 : (gt z116 CODES ((s[i]).toNat : Int)).f0 = vb (tx (s[i]).toNat) := by rw [cd_c]; rfl
    have f1 : (gt z116 CODES ((s[i]).toNat : Int)).f1 = ((tx (s[i]).toNat).length : Int) := by rw [cd_c]; rfl
    have hmul : vb r * 2 ^ (tx (s[i]).toNat).length ≤ 128 * 1073741824 := by
      have a1 : vb r * 2 ^ (tx (s[i]).toNat).length ≤ vb r * 1073741824 := Int.mul_le_mul_of_nonneg_left (by omega) hv.1
      omega
    have e5 : shlI .u64 (vb r) ((tx (s[i]).toNat).length : Int) = 2 ^ (tx (s[i]).toNat).length * vb r := by
      rw [shlI_eq .u64 rfl (by rw [Int.toNat_natCast]; show (tx (s[i]).toNat).length ≤ 64; omega) hv.1 (by rw [Int.toNat_natCast]; show vb r * (2 : Int) ^ (tx (s[i]).toNat).length < 2 ^ 64; omega), Int.toNat_natCast, Int.mul_comm]
    have e6 : bOr .u64 (2 ^ (tx (s[i]).toNat).length * vb r) (IntKind.u64.wrap (vb (tx (s[i]).toNat))) = vb (r ++ tx (s[i]).toNat) := by
      rw [wu64 ht.1 (by omega), hvo]
      exact bOr_add .u64 rfl _ hv.1 ht.1 ht.2 (by
        have : 2 ^ (tx (s[i]).toNat).length * vb r = vb r * 2 ^ (tx (s[i]).toNat).length := Int.mul_comm _ _
        show 2 ^ (tx (s[i]).toNat).length * vb r + vb (tx (s[i]).toNat) < (2 : Int) ^ 64
        omega)
    have hfl := fl (s.take (i + 1))
    have hA2 : bitsL out ++ (r ++ tx (s[i]).toNat) = flat (s.take (i + 1)) := by
      rw [List.take_succ_eq_append_getElem hlt, flat_app, ← hA, List.append_assoc]
      congr 1
      simp [flat]
    rw [huffman_Encode.l0, if_pos (by omega), if_pos (by omega), eb, if_pos (by omega), if_pos (by omega), f0, f1, if_pos (by omega), e5, e6, wi64 (x := ((tx (s[i]).toNat).length : Int)) (by omega) (by omega), wi64 (by omega) (by omega)]
    have e9 : (r.length : Int) + ((tx (s[i]).toNat).length : Int) = ((r ++ tx (s[i]).toNat).length : Int) := by rw [List.length_append]; omega
    rw [e9]
    refine encode_l1 s i (6 * n + 1) (by omega) (flat (s.take (i + 1))) (fun k out r a b c d e => ih k (i + 1) out r (by omega) a b c d e) (by simp at hfl; omega) 4 k out _ (by rw [List.all_append, hr, t1]; rfl) (by rw [List.length_append]; omega) (by rw [List.length_append]; omega) hA2 hx (by omega)
theorem encode_f (s : List UInt8) (hs : s.length < 10000) (k : Nat) (hk : 70000 ≤ k) : ∃ res, huffman_Encode.f k s = some res ∧ Eout s res := by
  unfold huffman_Encode.f
  rw [codes_at k (by omega), size_f s (by omega) k (by omega)]
  have := bits_bd s
  simp only [bnd1, lt1]
  rw [if_pos (by omega), if_pos (by omega)]
  exact encode_l0 s hs s.length k 0 [] [] (by omega) rfl (by simp) (by simp [flat, bitsL]) (by simp) (by omega)
def at_ (r : List UInt8) (i : Nat) : Prop := r.take (tx i).length = tx i
theorem at_one {r : List UInt8} {i j : Nat} (hi : i < 257) (hj : j < 257) (h1 : at_ r i) (h2 : at_ r j) : i = j := by
  have ti' : i < TEXTS.length := by rw [TEXTS_len]; exact hi
  have tj' : j < TEXTS.length := by rw [TEXTS_len]; exact hj
  have key : ∀ i j : Nat, ∀ (hi : i < TEXTS.length) (hj : j < TEXTS.length), at_ r i → at_ r j → (tx i).length ≤ (tx j).length → i = j := by
    intro i j hi hj h1 h2 hl
    refine Classical.byContradiction fun hne => ?_
    have h3 := apart i j hi hj hne
    have h4 : (tx j).take (tx i).length = tx i := by
      unfold at_ at h1 h2
      rw [← h2, List.take_take, Nat.min_eq_left hl]
      exact h1
    rw [tx_eq i hi, tx_eq j hj] at h4
    rw [begins_of _ _ h4] at h3
    cases h3
  rcases Nat.le_total (tx i).length (tx j).length with h | h
  · exact key i j ti' tj' h1 h2 h
  · exact (key j i tj' ti' h2 h1 h).symm
theorem dec_code_aux (i : Nat) (hi : i < 257) (r : List UInt8) (out : List Int) : ∀ (q p : List UInt8), inner p → p ++ q = tx i → q ≠ [] → dec p (q ++ r) out = if (i : Int) = 256 then none else dec [] r (out ++ [(i : Int)])
  | [], p, _, _, hq => absurd rfl hq
  | c :: q, p, hp, h, _ => by
    have hb := (tx_bits i hi).1
    rw [← h, List.all_append, Bool.and_eq_true, List.all_cons, Bool.and_eq_true] at hb
    rw [List.cons_append, dec]
    have e : p ++ [c] ++ q = tx i := by rw [← h]; simp
    rcases inner_next hp hb.2.1 with ⟨j, hj, ej⟩ | hn
    · have h1 : at_ (tx i) i := by unfold at_; rw [List.take_length]
      have h2 : at_ (tx i) j := by
        unfold at_
        rw [← ej, ← e, List.take_left']
        rfl
      have := at_one hi hj h1 h2
      subst this
      have hq : q = [] := by
        have := congrArg List.length e
        rw [List.length_append, ej] at this
        exact List.eq_nil_of_length_eq_zero (by omega)
      rw [ej, ti_tx i hi, hq]
      rfl
    · obtain ⟨_, l, r', hg⟩ := id hn
      rw [ti_inner hg]
      refine dec_code_aux i hi r out q (p ++ [c]) hn e ?_
      intro hq
      rw [hq, List.append_nil] at e
      rw [e, go_tx i hi] at hg
      injection hg with hg
      cases hg
theorem dec_code (i : Nat) (hi : i < 257) (r : List UInt8) (out : List Int) : dec [] (tx i ++ r) out = if (i : Int) = 256 then none else dec [] r (out ++ [(i : Int)]) := by
  refine dec_code_aux i hi r out (tx i) [] inner_nil rfl ?_
  intro h
  have := (tx_bits i hi).2.1
  rw [h] at this
  simp at this
theorem dec_none_aux (r : List UInt8) (hn : ∀ i, i < 257 → ¬ at_ r i) (hr : r.all isB = true) (out : List Int) : ∀ (q p : List UInt8), inner p → p ++ q = r → dec p q out = some (out, r)
  | [], p, hp, h => by
    rw [List.append_nil] at h
    rw [dec, h]
  | c :: q, p, hp, h => by
    have hb := hr
    rw [← h, List.all_append, Bool.and_eq_true, List.all_cons, Bool.and_eq_true] at hb
    have e : p ++ [c] ++ q = r := by rw [← h]; simp
    rw [dec]
    rcases inner_next hp hb.2.1 with ⟨j, hj, ej⟩ | hi
    · refine absurd ?_ (hn j hj)
      unfold at_
      rw [← ej, ← e, List.take_left']
      rfl
    · obtain ⟨_, l, r', hg⟩ := id hi
      rw [ti_inner hg]
      exact dec_none_aux r hn hr out q (p ++ [c]) hi e
theorem dec_none (r : List UInt8) (hn : ∀ i, i < 257 → ¬ at_ r i) (hr : r.all isB = true) (out : List Int) : dec [] r out = some (out, r) := dec_none_aux r hn hr out r [] inner_nil rfl
/-! the document's Decode -/
def sg (s : List UInt8) : List Int := s.map fun c => (c.toNat : Int)
theorem toS_sg (s : List UInt8) : toS (sg s) = s := by
  unfold toS sg
  rw [List.map_map]
  conv => rhs; rw [← List.map_id s]
  refine List.map_congr_left fun c _ => ?_
  simp
theorem ones_split (n m : Nat) : ones (n + m) = ones n ++ ones m := by simp [ones, List.replicate_append_replicate]
theorem ones_no (n : Nat) (h : n < 8) (q : List UInt8) (hq : ∃ t, ones n = q ++ t) : ∀ i, i < 257 → ¬ at_ q i := by
  intro i hi hat
  have all_o : ((List.range 257).all fun i => !((ones 8).take (tx i).length == tx i && Nat.blt (tx i).length 8)) = true := by kernel_rfl
  have := List.all_eq_true.1 all_o i (by simpa using hi)
  obtain ⟨t, ht⟩ := hq
  unfold at_ at hat
  have hl : (tx i).length ≤ q.length := by
    have := congrArg List.length hat
    rw [List.length_take] at this
    omega
  have hql : q.length + t.length = n := by
    have := congrArg List.length ht
    rw [ones_len, List.length_append] at this
    omega
  have h1 : (ones 8).take (tx i).length = tx i := by
    have e : ones 8 = q ++ (t ++ ones (8 - n)) := by
      rw [← List.append_assoc, ← ht, ← ones_split, show n + (8 - n) = 8 by omega]
    have e3 : (q ++ (t ++ ones (8 - n))).take (tx i).length = q.take (tx i).length := List.take_append_of_le_length hl
    rw [e, e3]
    exact hat
  have h2 : Nat.blt (tx i).length 8 = true := by
    simp [Nat.blt, Nat.succ_le_iff]
    omega
  rw [h1, h2] at this
  simp at this
theorem dec_cut (n : Nat) (h : n < 8) : ∀ (s : List UInt8) (out : List Int) (q : List UInt8), (∃ t, flat s ++ ones n = q ++ t) → ∃ j p, j ≤ s.length ∧ dec [] q out = some (out ++ sg (s.take j), p) ∧ flat (s.take j) ++ p = q ∧ (q = flat s ++ ones n → j = s.length ∧ p = ones n)
  | [], out, q, ⟨t, ht⟩ => by
    have hq : ∃ t, ones n = q ++ t := ⟨t, by simpa [flat] using ht⟩
    have hqb : q.all isB = true := by
      have := ones_all n
      rw [hq.choose_spec, List.all_append, Bool.and_eq_true] at this
      exact this.1
    refine ⟨0, q, by simp, ?_, by simp [flat], fun e => ⟨rfl, by simpa [flat] using e⟩⟩
    rw [dec_none q (ones_no n h q hq) hqb]
    simp [sg]
  | c :: s, out, q, ⟨t, ht⟩ => by
    have hcu := c.toNat_lt
    rw [flat_cons, List.append_assoc] at ht
    have htb := tx_c c
    by_cases hl : (tx c.toNat).length ≤ q.length
    · obtain ⟨q', rfl⟩ : ∃ q', q = tx c.toNat ++ q' := by
        refine ⟨q.drop (tx c.toNat).length, ?_⟩
        have := congrArg (List.take (tx c.toNat).length) ht
        rw [List.take_left', List.take_append_of_le_length hl] at this
        · conv => lhs; rw [← List.take_append_drop (tx c.toNat).length q]
          rw [← this]
        · rfl
      rw [List.append_assoc] at ht
      have ht2 := List.append_cancel_left ht
      obtain ⟨j, p, h1, h2, h3, h4⟩ := dec_cut n h s (out ++ [(c.toNat : Int)]) q' ⟨t, ht2⟩
      refine ⟨j + 1, p, by simp; omega, ?_, ?_, ?_⟩
      · rw [dec_code c.toNat (by omega), if_neg (by omega), h2]
        simp [sg]
      · rw [List.take_succ_cons, flat_cons, List.append_assoc, h3]
      · intro e
        rw [flat_cons, List.append_assoc] at e
        obtain ⟨a, b⟩ := h4 (List.append_cancel_left e)
        exact ⟨by simp [a], b⟩
    · refine ⟨0, q, by simp, ?_, by simp [flat], ?_⟩
      · have hqb : q.all isB = true := by
          have : (tx c.toNat ++ (flat s ++ ones n)).all isB = true := by rw [List.all_append, htb.1, List.all_append, flat_all, ones_all]; rfl
          rw [ht, List.all_append, Bool.and_eq_true] at this
          exact this.1
        have hq : q = (tx c.toNat).take q.length := by
          have x1 : (tx c.toNat ++ (flat s ++ ones n)).take q.length = (tx c.toNat).take q.length := List.take_append_of_le_length (by omega)
          have x2 : (q ++ t).take q.length = q := List.take_left' rfl
          rw [← x1, ht, x2]
        have hno : ∀ i, i < 257 → ¬ at_ q i := by
          intro i hi hat
          unfold at_ at hat
          have hil : (tx i).length ≤ q.length := by
            have := congrArg List.length hat
            rw [List.length_take] at this
            omega
          have h1 : at_ (tx c.toNat) i := by
            unfold at_
            rw [hq, List.take_take, Nat.min_eq_left hil] at hat
            exact hat
          have h2 : at_ (tx c.toNat) c.toNat := by unfold at_; rw [List.take_length]
          have := at_one hi (by omega) h1 h2
          subst this
          omega
        rw [dec_none q hno hqb]
        simp [sg]
      · intro e
        rw [flat_cons, List.append_assoc] at e
        have := congrArg List.length e
        rw [List.length_append] at this
        omega
/-- What was read, written again. -/
theorem pad_lt (n : Nat) : pad n < 8 := by unfold pad; omega
/-! the laws -/
end HX
namespace TX
theorem rsize_f (f : S52) (h : fsz f < 4611686018427387904) : louverref05qSize.f f = some (fsz f) := by
  have := fsz_lo f
  unfold fsz at h this
  unfold louverref05qSize.f fsz
  rw [wi64 (by rw [wi64] <;> omega) (by rw [wi64] <;> omega), wi64 (by omega) (by omega)]
  congr 1
  omega
end TX
open PX (byts gd tp pre)
def hd (x : List Int) : List UInt8 × Int := HX.fin (HX.dec [] (HX.bitsL x) [])
theorem hdec_f (x : List Int) (hl : x.length ≤ 100000) (hb : byts x) (k : Nat) (hk : 2000000 ≤ k) : huffman_Decode.f k x = some (hd x) := HX.decode_f x hl hb k hk
theorem dv_bd : ∀ (r : List Int) (i : Nat) (acc : Int), 0 ≤ acc → byts r → (PX.dv i acc r).2.2 = 0 → 0 ≤ (PX.dv i acc r).1 ∧ (PX.dv i acc r).1 ≤ 268435456 ∧ (i : Int) + 2 ≤ (PX.dv i acc r).2.1 ∧ (PX.dv i acc r).2.1 ≤ i + 1 + r.length
  | [], i, acc, h, hb, he => by simp [PX.dv] at he
  | t :: r, i, acc, h, hb, he => by
    have hp : (0 : Int) < 128 ^ i := Int.pow_pos (by decide)
    have ht : 0 ≤ t % 128 * 128 ^ i := Int.mul_nonneg (by omega) (by omega)
    unfold PX.dv at he ⊢
    by_cases h4 : i = 4
    · rw [if_pos h4] at he
      cases he
    · rw [if_neg h4] at he ⊢
      by_cases h5 : t < 128
      · rw [if_pos h5] at he ⊢
        by_cases h6 : acc + t % 128 * 128 ^ i > 268435456
        · rw [if_pos h6] at he
          cases he
        · rw [if_neg h6]
          simp only [List.length_cons]
          omega
      · rw [if_neg h5] at he ⊢
        have := dv_bd r (i + 1) (acc + t % 128 * 128 ^ i) (by omega) (fun x hx => hb x (List.mem_cons_of_mem _ hx)) he
        simp only [List.length_cons]
        omega
theorem gd_bd {p : List Int} {n : Int} (hb : byts p) (h1 : 1 ≤ n) (h2 : n ≤ 8) (he : (gd p n).2.2 = 0) : 0 ≤ (gd p n).1 ∧ (gd p n).1 ≤ 268435456 ∧ 1 ≤ (gd p n).2.1 ∧ (gd p n).2.1 ≤ p.length := by
  have ht := PX.tp_bd h1 h2
  cases p with
  | nil => simp [gd] at he
  | cons t r =>
    have hm : 0 ≤ t % tp n ∧ t % tp n < tp n := ⟨Int.emod_nonneg _ (by omega), Int.emod_lt_of_pos _ (by omega)⟩
    unfold gd at he ⊢
    simp only at he ⊢
    by_cases hc : t % tp n < tp n - 1
    · rw [if_pos hc]
      simp only [List.length_cons]
      omega
    · rw [if_neg hc] at he ⊢
      have := dv_bd r 0 (t % tp n) hm.1 (fun x hx => hb x (List.mem_cons_of_mem _ hx)) he
      simp only [List.length_cons]
      omega
theorem byts_drop {l : List Int} (h : byts l) (n : Nat) : byts (l.drop n) := fun x hx => h x (List.mem_of_mem_drop hx)
theorem byts_take {l : List Int} (h : byts l) (n : Nat) : byts (l.take n) := fun x hx => h x (List.mem_of_mem_take hx)
theorem number_f (r : S66) (n : Int) (hb : byts r.f1) (hl : r.f1.length ≤ 100000) (h1 : 1 ≤ n) (h2 : n ≤ 8) (k : Nat) (hk : 6 ≤ k) :
    hpack_reader_number.f k r n = some (if (gd r.f1 n).2.2 = 0 then ((gd r.f1 n).1, (⟨r.f0, r.f1.drop (gd r.f1 n).2.1.toNat, r.f2⟩ : S66)) else (0, ⟨r.f0, [], true⟩)) := by
  obtain ⟨k, rfl⟩ : ∃ k', k = k' + 6 := ⟨k - 6, by omega⟩
  unfold hpack_reader_number.f
  rw [PX.get_f k hb h1 h2]
  have hg := gd_bd hb h1 h2
  revert hg
  obtain ⟨v, u, e⟩ := gd r.f1 n
  intro hg
  simp only [bnd3] at hg ⊢
  by_cases he : e = 0
  · have := hg he
    rw [if_pos he, if_pos (by omega), if_pos (by omega), wi64 (by omega) (by omega), if_pos he]
  · rw [if_neg he, if_neg he]
def txs (r : List Int) : Option (List UInt8 × Int) :=
  if (gd r 7).2.2 = 0 then
    if (gd r 7).2.1 + (gd r 7).1 > r.length then none
    else if gt 0 r 0 < 128 then some (toS ((r.drop (gd r 7).2.1.toNat).take (gd r 7).1.toNat), (gd r 7).2.1 + (gd r 7).1)
    else if (hd ((r.drop (gd r 7).2.1.toNat).take (gd r 7).1.toNat)).2 = 0 then some ((hd ((r.drop (gd r 7).2.1.toNat).take (gd r 7).1.toNat)).1, (gd r 7).2.1 + (gd r 7).1) else none
  else none
theorem txs_nil : txs [] = none := by simp [txs, gd]
theorem rdtext_f (r : S66) (hb : byts r.f1) (hl : r.f1.length ≤ 100000) (k : Nat) (hk : 2000000 ≤ k) : ∃ s r', hpack_reader_text.f k r = some (s, r') ∧ r'.f0 = r.f0 ∧ r'.f1 <:+ r.f1 ∧
    ((r.f2 = false ∧ ∃ u, txs r.f1 = some (s, u) ∧ r' = ⟨r.f0, r.f1.drop u.toNat, false⟩) ∨ (r'.f2 = true ∧ (r.f2 = true ∨ txs r.f1 = none))) := by
  unfold hpack_reader_text.f
  by_cases h0 : r.f1.length = 0
  · have h0' : r.f1 = [] := List.eq_nil_of_length_eq_zero h0
    rw [if_pos (by omega)]
    exact ⟨_, _, rfl, rfl, List.suffix_refl _, .inr ⟨rfl, .inr (by rw [h0', txs_nil])⟩⟩
  · rw [if_neg (by omega), if_pos (by omega), number_f r 7 hb hl (by omega) (by omega) k (by omega)]
    by_cases he : (gd r.f1 7).2.2 = 0
    · obtain ⟨v0, v1, u1, u2⟩ := gd_bd hb (by omega) (by omega) he
      rw [if_pos he]
      simp only [bnd2, List.length_drop]
      by_cases hv : (gd r.f1 7).2.1 + (gd r.f1 7).1 > r.f1.length
      · rw [if_pos (by omega)]
        exact ⟨_, _, rfl, rfl, List.nil_suffix, .inr ⟨rfl, .inr (by unfold txs; rw [if_pos he, if_pos hv])⟩⟩
      · rw [if_neg (by omega), if_pos v0, if_pos (by omega)]
        have hdd : (r.f1.drop (gd r.f1 7).2.1.toNat).drop (gd r.f1 7).1.toNat = r.f1.drop ((gd r.f1 7).2.1 + (gd r.f1 7).1).toNat := by
          rw [List.drop_drop]
          congr 1
          omega
        by_cases hc : gt 0 r.f1 0 < 128
        · rw [if_pos hc]
          refine ⟨_, _, rfl, rfl, (List.drop_suffix _ _).trans (List.drop_suffix _ _), ?_⟩
          by_cases hf : r.f2 = true
          · exact .inr ⟨hf, .inl hf⟩
          · refine .inl ⟨by simpa using hf, _, by unfold txs; rw [if_pos he, if_neg hv, if_pos hc], ?_⟩
            rw [hdd, Bool.not_eq_true] at *
            rw [hf]
        · rw [if_neg hc, hdec_f _ (by simp only [List.length_take, List.length_drop]; omega) (byts_take (byts_drop hb _) _) k hk]
          simp only [bnd2]
          by_cases hf : r.f2 = true
          · rw [if_pos hf]
            exact ⟨_, _, rfl, rfl, (List.drop_suffix _ _).trans (List.drop_suffix _ _), .inr ⟨rfl, .inl hf⟩⟩
          · rw [if_neg hf]
            refine ⟨_, _, rfl, rfl, (List.drop_suffix _ _).trans (List.drop_suffix _ _), ?_⟩
            by_cases h2 : (hd ((r.f1.drop (gd r.f1 7).2.1.toNat).take (gd r.f1 7).1.toNat)).2 = 0
            · exact .inl ⟨by simpa using hf, _, by unfold txs; rw [if_pos he, if_neg hv, if_neg hc, if_pos h2], by rw [hdd, h2]; rfl⟩
            · exact .inr ⟨by simp [h2], .inr (by unfold txs; rw [if_pos he, if_neg hv, if_neg hc, if_neg h2])⟩
    · rw [if_neg he]
      simp only [bnd2]
      rw [if_neg (by simp), if_pos (by omega), if_pos (by simp)]
      have hn : txs r.f1 = none := by unfold txs; rw [if_neg he]
      by_cases hc : gt 0 r.f1 0 < 128
      · rw [if_pos hc]
        exact ⟨_, _, rfl, rfl, by simp, .inr ⟨rfl, .inr hn⟩⟩
      · rw [if_neg hc, hdec_f _ (by simp) (by simp [byts]) k hk]
        simp only [bnd2]
        rw [if_pos trivial]
        exact ⟨_, _, rfl, rfl, by simp, .inr ⟨rfl, .inr hn⟩⟩
theorem dec_len : ∀ (q p : List UInt8) (out o : List Int) (p' : List UInt8), HX.dec p q out = some (o, p') → o.length ≤ out.length + q.length
  | [], p, out, o, p', h => by
    simp only [HX.dec, Option.some.injEq, Prod.mk.injEq] at h
    obtain ⟨rfl, _⟩ := h
    omega
  | c :: s, p, out, o, p', h => by
    unfold HX.dec at h
    simp only [List.length_cons]
    split at h
    · split at h
      · cases h
      · have := dec_len s _ _ _ _ h
        simp only [List.length_append, List.length_cons, List.length_nil] at this
        omega
    · have := dec_len s _ _ _ _ h
      omega
theorem toS_len (l : List Int) : (toS l).length = l.length := by simp [toS]
theorem hd_len (x : List Int) : (hd x).1.length ≤ 8 * x.length := by
  have h0 := HX.bitsL_len x
  unfold hd
  match e : HX.dec [] (HX.bitsL x) [] with
  | none => simp [HX.fin]
  | some (o, p) =>
    have := dec_len _ _ _ _ _ e
    simp only [List.length_nil] at this
    simp only [HX.fin]
    split
    · simp
    · split
      · rw [toS_len]
        omega
      · simp
theorem txs_bd {r : List Int} {s : List UInt8} {u : Int} (hb : byts r) (h : txs r = some (s, u)) : 1 ≤ u ∧ u ≤ r.length ∧ s.length ≤ 8 * r.length := by
  unfold txs at h
  by_cases he : (gd r 7).2.2 = 0
  · obtain ⟨v0, v1, u1, u2⟩ := gd_bd hb (by omega) (by omega) he
    rw [if_pos he] at h
    by_cases hv : (gd r 7).2.1 + (gd r 7).1 > r.length
    · rw [if_pos hv] at h
      cases h
    · rw [if_neg hv] at h
      by_cases hc : gt 0 r 0 < 128
      · rw [if_pos hc] at h
        simp only [Option.some.injEq, Prod.mk.injEq] at h
        obtain ⟨rfl, rfl⟩ := h
        rw [toS_len]
        simp only [List.length_take, List.length_drop]
        omega
      · rw [if_neg hc] at h
        split at h
        · simp only [Option.some.injEq, Prod.mk.injEq] at h
          obtain ⟨rfl, rfl⟩ := h
          have := hd_len ((r.drop (gd r 7).2.1.toNat).take (gd r 7).1.toNat)
          simp only [List.length_take, List.length_drop] at this
          omega
        · cases h
  · rw [if_neg he] at h
    cases h
def tat (t : S79) (n : Int) : S52 × Bool := (dyntable_Table_At.f t n).getD (z52, false)
theorem all_small : ((List.range 61).all fun (i : Nat) => match statics_At.f ((i + 1 : Nat) : Int) with
    | some (f, ok) => decide (f.f0.length ≤ 1000) && decide (f.f1.length ≤ 1000) && !f.f2 && ok
    | _ => false) = true := by kernel_rfl
theorem at1 (n : Int) : ∃ f ok, statics_At.f n = some (f, ok) ∧ f.f2 = false ∧ (ok = true ↔ 1 ≤ n ∧ n ≤ 61) ∧ (ok = false → f = ⟨[], [], false⟩) ∧ f.f0.length ≤ 1000 ∧ f.f1.length ≤ 1000 := by
  by_cases h : 1 ≤ n ∧ n ≤ 61
  · obtain ⟨i, rfl⟩ : ∃ i : Nat, n = ((i + 1 : Nat) : Int) := ⟨(n - 1).toNat, by omega⟩
    have ha := (List.all_eq_true.1 all_small) i (by simp; omega)
    revert ha
    match statics_At.f ((i + 1 : Nat) : Int) with
    | none => intro ha; cases ha
    | some (f, ok) =>
      intro ha
      simp only [Bool.and_eq_true, decide_eq_true_eq, Bool.not_eq_true'] at ha
      exact ⟨f, ok, rfl, ha.1.2, ⟨fun _ => h, fun _ => ha.2⟩, fun q => (by rw [ha.2] at q; cases q), ha.1.1.1, ha.1.1.2⟩
  · refine ⟨⟨[], [], false⟩, false, ?_, rfl, ⟨fun q => (by cases q), fun q => absurd q h⟩, fun _ => rfl, by simp, by simp⟩
    unfold statics_At.f
    by_cases h1 : n < 1
    · rw [if_pos h1]
    · rw [if_neg h1, if_pos (by omega)]
theorem at_hi1 (t : S79) (i : Nat) (h : i < t.f0.length) (hl : t.f0.length ≤ 134217728) : dyntable_Table_At.f t ((62 + i : Nat) : Int) = some (gt z52 t.f0.reverse (i : Int), true) := by
  obtain ⟨f, ok, h1, h3, h4, h5, _⟩ := at1 ((62 + i : Nat) : Int)
  have hok : ok = false := by
    cases ok with
    | false => rfl
    | true => have := h4.1 rfl; omega
  subst hok
  unfold dyntable_Table_At.f statics_Len.f dyntable_Table_Len.f
  rw [h1]
  simp only [bnd1, bnd2]
  rw [if_neg (by simp), if_neg (by omega), wi64 (x := ((62 + i : Nat) : Int) - 61) (by omega) (by omega), if_neg (by omega), wi64 (by omega) (by omega), if_pos (by omega), if_pos (by omega)]
  rw [gt_rev _ _ h, show (t.f0.length : Int) - (((62 + i : Nat) : Int) - 61) = ((t.f0.length - 1 - i : Nat) : Int) by omega]
theorem tat_c (t : S79) (n : Int) (hn : 0 ≤ n ∧ n ≤ 268435456) (hl : t.f0.length ≤ 134217728) : dyntable_Table_At.f t n = some (tat t n) := by
  have key : ∃ r, dyntable_Table_At.f t n = some r := by
    obtain ⟨f, ok, h1, h3, h4, h5, _⟩ := at1 n
    cases ok with
    | true =>
      refine ⟨(f, true), ?_⟩
      unfold dyntable_Table_At.f
      rw [h1]
      rfl
    | false =>
      have hr : ¬ (1 ≤ n ∧ n ≤ 61) := fun h => by have := h4.2 h; simp at this
      by_cases hi : n < 62
      · refine ⟨(⟨[], [], false⟩, false), ?_⟩
        unfold dyntable_Table_At.f statics_Len.f
        rw [h1]
        simp only [bnd1, bnd2]
        rw [if_neg (by simp), if_pos (by omega)]
      · by_cases hj : n - 62 < t.f0.length
        · obtain ⟨i, rfl⟩ : ∃ i : Nat, n = ((62 + i : Nat) : Int) := ⟨(n - 62).toNat, by omega⟩
          exact ⟨_, at_hi1 t i (by omega) hl⟩
        · refine ⟨(⟨[], [], false⟩, false), ?_⟩
          unfold dyntable_Table_At.f statics_Len.f dyntable_Table_Len.f
          rw [h1]
          simp only [bnd1, bnd2]
          rw [if_neg (by simp), if_neg (by omega), wi64 (by omega) (by omega), if_pos (by omega)]
  obtain ⟨r, h⟩ := key
  unfold tat
  rw [h]
  rfl
theorem mem_fsz : ∀ {l : List S52} {x : S52}, x ∈ l → fsz x ≤ tsz l
  | y :: l, x, h => by
    have h1 := tsz_lo l
    have h2 := fsz_lo y
    simp only [tsz]
    rcases List.mem_cons.1 h with rfl | h
    · omega
    · have := mem_fsz h
      omega
theorem tat_len (t : S79) (h : Tok t) (n : Int) (hn : 0 ≤ n ∧ n ≤ 268435456) : (tat t n).1.f0.length ≤ 4294967296 ∧ (tat t n).1.f1.length ≤ 4294967296 := by
  obtain ⟨f, ok, h1, h3, h4, h5, h6, h7⟩ := at1 n
  cases ok with
  | true =>
    have e : tat t n = (f, true) := by
      unfold tat dyntable_Table_At.f
      rw [h1]
      rfl
    rw [e]
    dsimp only
    omega
  | false =>
    have hr : ¬ (1 ≤ n ∧ n ≤ 61) := fun h => by have := h4.2 h; simp at this
    have e0 : (⟨[], [], false⟩ : S52).f0.length = 0 := rfl
    have e1 : (⟨[], [], false⟩ : S52).f1.length = 0 := rfl
    by_cases hi : n < 62
    · have e : tat t n = (⟨[], [], false⟩, false) := by
        unfold tat dyntable_Table_At.f statics_Len.f
        rw [h1]
        simp only [bnd1, bnd2]
        rw [if_neg (by simp), if_pos (by omega)]
        rfl
      rw [e]
      skip
      exact ⟨by simp, by simp⟩
    · by_cases hj : n - 62 < t.f0.length
      · obtain ⟨i, rfl⟩ : ∃ i : Nat, n = ((62 + i : Nat) : Int) := ⟨(n - 62).toNat, by omega⟩
        have e : tat t ((62 + i : Nat) : Int) = (gt z52 t.f0.reverse (i : Int), true) := by
          unfold tat
          rw [at_hi1 t i (by omega) h.len]
          rfl
        rw [e]
        dsimp only
        have hm : gt z52 t.f0.reverse (i : Int) ∈ t.f0 := by
          rw [gt_nat z52 _ i (by simp; omega)]
          exact List.mem_reverse.1 (List.getElem_mem _)
        have h6 := mem_fsz hm
        have h7 := h.sz
        have h8 := h.le
        have h9 := h.mo
        unfold fsz at h6
        omega
      · have e : tat t n = (⟨[], [], false⟩, false) := by
          unfold tat dyntable_Table_At.f statics_Len.f dyntable_Table_Len.f
          rw [h1]
          have hlen := h.len
          simp only [bnd1, bnd2]
          rw [if_neg (by simp), if_neg (by omega), wi64 (by omega) (by omega), if_pos (by omega)]
          rfl
        rw [e]
        skip
        exact ⟨by simp, by simp⟩
def big (f : S52) : Prop := f.f0.length ≤ 4294967296 ∧ f.f1.length ≤ 4294967296
theorem big_ok {f : S52} (h : big f) : okF f := ⟨by have := h.1; unfold okS; omega, by have := h.2; unfold okS; omega, trivial⟩
def lits (t : S79) (r : List Int) (n : Int) : Option (S52 × Int) :=
  if (gd r n).2.2 = 0 then
    if (gd r n).1 = 0 then
      match txs (r.drop (gd r n).2.1.toNat) with
      | some (s, u) => match txs ((r.drop (gd r n).2.1.toNat).drop u.toNat) with
        | some (s2, u2) => some (⟨s, s2, false⟩, (gd r n).2.1 + u + u2)
        | none => none
      | none => none
    else if (tat t (gd r n).1).2 = true then
      match txs (r.drop (gd r n).2.1.toNat) with
      | some (s2, u2) => some (⟨(tat t (gd r n).1).1.f0, s2, false⟩, (gd r n).2.1 + u2)
      | none => none
    else none
  else none
theorem lits_bd {t : S79} {r : List Int} {n : Int} {f : S52} {u : Int} (ht : Tok t) (hb : byts r) (hl : r.length ≤ 100000) (h1 : 1 ≤ n) (h2 : n ≤ 8) (h : lits t r n = some (f, u)) : 1 ≤ u ∧ u ≤ r.length ∧ big f := by
  unfold lits at h
  by_cases he : (gd r n).2.2 = 0
  · obtain ⟨v0, v1, u1, u2⟩ := gd_bd hb h1 h2 he
    rw [if_pos he] at h
    by_cases hv : (gd r n).1 = 0
    · rw [if_pos hv] at h
      split at h
      · rename_i s u3 e3
        have b3 := txs_bd (byts_drop hb _) e3
        simp only [List.length_drop] at b3
        split at h
        · rename_i s4 u4 e4
          have b4 := txs_bd (byts_drop (byts_drop hb _) _) e4
          simp only [List.length_drop] at b4
          simp only [Option.some.injEq, Prod.mk.injEq] at h
          obtain ⟨rfl, rfl⟩ := h
          unfold big
          dsimp only
          omega
        · cases h
      · cases h
    · rw [if_neg hv] at h
      by_cases ho : (tat t (gd r n).1).2 = true
      · rw [if_pos ho] at h
        split at h
        · rename_i s4 u4 e4
          have b4 := txs_bd (byts_drop hb _) e4
          simp only [List.length_drop] at b4
          have b5 := tat_len t ht (gd r n).1 ⟨v0, v1⟩
          simp only [Option.some.injEq, Prod.mk.injEq] at h
          obtain ⟨rfl, rfl⟩ := h
          unfold big
          dsimp only
          omega
        · cases h
      · rw [if_neg ho] at h
        cases h
  · rw [if_neg he] at h
    cases h
theorem drop2 (l : List Int) {a b : Int} (ha : 0 ≤ a) (hb : 0 ≤ b) : (l.drop a.toNat).drop b.toNat = l.drop (a + b).toNat := by
  rw [List.drop_drop]
  congr 1
  omega
theorem rfield_f (r : S66) (hf : r.f2 = false) (ht : Tok r.f0) (hb : byts r.f1) (hl : r.f1.length ≤ 100000) (n : Int) (h1 : 1 ≤ n) (h2 : n ≤ 8) (k : Nat) (hk : 2000000 ≤ k) : ∃ f r', hpack_reader_field.f k r n = some (f, r') ∧ r'.f0 = r.f0 ∧ r'.f1 <:+ r.f1 ∧
    ((∃ u, lits r.f0 r.f1 n = some (f, u) ∧ r' = ⟨r.f0, r.f1.drop u.toNat, false⟩) ∨ (r'.f2 = true ∧ lits r.f0 r.f1 n = none)) := by
  unfold hpack_reader_field.f
  rw [number_f r n hb hl h1 h2 k (by omega)]
  by_cases he : (gd r.f1 n).2.2 = 0
  · obtain ⟨v0, v1, u1, u2⟩ := gd_bd hb h1 h2 he
    rw [if_pos he]
    simp only [bnd2]
    by_cases hv : (gd r.f1 n).1 = 0
    · rw [if_pos hv]
      obtain ⟨s, r1, e1, a1, b1, c1⟩ := rdtext_f (⟨r.f0, r.f1.drop (gd r.f1 n).2.1.toNat, r.f2⟩ : S66) (byts_drop hb _) (by simp only [List.length_drop]; omega) k hk
      rw [e1]
      simp only [bnd2]
      dsimp only at a1 b1 c1
      have b1l := b1.length_le
      obtain ⟨s2, r2, e2, a2, b2, c2⟩ := rdtext_f r1 (fun x hx => hb x (List.mem_of_mem_drop (b1.subset hx))) (by simp only [List.length_drop] at b1l; omega) k hk
      rw [e2]
      simp only [bnd2]
      refine ⟨_, _, rfl, by rw [a2, a1], (b2.trans b1).trans (List.drop_suffix _ _), ?_⟩
      rcases c1 with ⟨_, u, c3, rfl⟩ | ⟨c3, c4⟩
      · dsimp only at a2 b2 c2
        have b3 := txs_bd (byts_drop hb _) c3
        rcases c2 with ⟨_, w, c5, rfl⟩ | ⟨c5, c6⟩
        · have b5 := txs_bd (byts_drop (byts_drop hb _) _) c5
          refine .inl ⟨(gd r.f1 n).2.1 + u + w, by unfold lits; rw [if_pos he, if_pos hv, c3]; dsimp only; rw [c5], ?_⟩
          rw [drop2 _ (by omega) (by omega), drop2 _ (by omega) (by omega), Int.add_assoc]
        · refine .inr ⟨c5, ?_⟩
          unfold lits
          rw [if_pos he, if_pos hv, c3]
          dsimp only
          rcases c6 with c6 | c6
          · cases c6
          · rw [c6]
      · rcases c4 with c4 | c4
        · rw [hf] at c4
          cases c4
        · refine .inr ⟨?_, by unfold lits; rw [if_pos he, if_pos hv, c4]⟩
          rcases c2 with ⟨c5, _⟩ | ⟨c5, _⟩
          · rw [c3] at c5
            cases c5
          · exact c5
    · rw [if_neg hv, tat_c r.f0 _ ⟨v0, v1⟩ ht.len]
      simp only [bnd2]
      rw [if_neg (by simp [hf])]
      obtain ⟨s, r1, e1, a1, b1, c1⟩ := rdtext_f (⟨r.f0, r.f1.drop (gd r.f1 n).2.1.toNat, !(tat r.f0 (gd r.f1 n).1).2⟩ : S66) (byts_drop hb _) (by simp only [List.length_drop]; omega) k hk
      rw [e1]
      simp only [bnd2]
      dsimp only at a1 b1 c1
      refine ⟨_, _, rfl, a1, b1.trans (List.drop_suffix _ _), ?_⟩
      rcases c1 with ⟨c0, u, c3, rfl⟩ | ⟨c3, c4⟩
      · have b3 := txs_bd (byts_drop hb _) c3
        have ho : (tat r.f0 (gd r.f1 n).1).2 = true := by simpa using c0
        refine .inl ⟨(gd r.f1 n).2.1 + u, by unfold lits; rw [if_pos he, if_neg hv, if_pos ho, c3], ?_⟩
        rw [drop2 _ (by omega) (by omega)]
      · refine .inr ⟨c3, ?_⟩
        unfold lits
        rw [if_pos he, if_neg hv]
        by_cases ho : (tat r.f0 (gd r.f1 n).1).2 = true
        · rw [if_pos ho]
          rcases c4 with c4 | c4
          · rw [ho] at c4
            cases c4
          · rw [c4]
        · rw [if_neg ho]
  · rw [if_neg he]
    simp only [bnd2]
    rw [if_pos trivial]
    obtain ⟨s, r1, e1, a1, b1, c1⟩ := rdtext_f (⟨r.f0, [], true⟩ : S66) (by simp [byts]) (by simp) k hk
    rw [e1]
    simp only [bnd2]
    dsimp only at a1 b1 c1
    have h1t : r1.f2 = true := by
      rcases c1 with ⟨c0, _⟩ | ⟨c0, _⟩
      · cases c0
      · exact c0
    have h1n : r1.f1 = [] := List.suffix_nil.1 b1
    obtain ⟨s2, r2, e2, a2, b2, c2⟩ := rdtext_f r1 (by rw [h1n]; simp [byts]) (by rw [h1n]; simp) k hk
    rw [e2]
    simp only [bnd2]
    refine ⟨_, _, rfl, by rw [a2, a1], (b2.trans b1).trans List.nil_suffix, .inr ⟨?_, by unfold lits; rw [if_neg he]⟩⟩
    rcases c2 with ⟨c0, _⟩ | ⟨c0, _⟩
    · rw [h1t] at c0
      cases c0
    · exact c0
def pcs (cap : Int) (t : S79) (first : Bool) (r : List Int) : Option (Option S52 × S79 × Int) :=
  if gt 0 r 0 ≥ 128 then
    if (gd r 7).2.2 = 0 ∧ (tat t (gd r 7).1).2 = true then some (some (tat t (gd r 7).1).1, t, (gd r 7).2.1) else none
  else if gt 0 r 0 ≥ 64 then
    match lits t r 6 with
    | some (f, u) => some (some f, tb (addL t.f0 t.f2 f) t.f2, u)
    | none => none
  else if gt 0 r 0 ≥ 32 then
    if (gd r 5).2.2 = 0 ∧ first = true ∧ (gd r 5).1 ≤ cap then some (none, tb (keep t.f0 (gd r 5).1) (gd r 5).1, (gd r 5).2.1) else none
  else match lits t r 4 with
    | some (f, u) => some (some ⟨f.f0, f.f1, decide (gt 0 r 0 ≥ 16)⟩, t, u)
    | none => none
theorem pcs_bd {cap : Int} {t t' : S79} {first : Bool} {r : List Int} {fo : Option S52} {u : Int} (hc : 0 ≤ cap ∧ cap ≤ 4096) (ht : Tok t) (hm : t.f2 ≤ 4096) (hb : byts r) (hl : r.length ≤ 100000)
    (h : pcs cap t first r = some (fo, t', u)) : 1 ≤ u ∧ u ≤ r.length ∧ Tok t' ∧ t'.f2 ≤ 4096 ∧ ∀ f, fo = some f → big f := by
  have hmo := ht.mo
  unfold pcs at h
  by_cases c1 : gt 0 r 0 ≥ 128
  · rw [if_pos c1] at h
    by_cases c2 : (gd r 7).2.2 = 0 ∧ (tat t (gd r 7).1).2 = true
    · rw [if_pos c2] at h
      obtain ⟨v0, v1, u1, u2⟩ := gd_bd hb (by omega) (by omega) c2.1
      simp only [Option.some.injEq, Prod.mk.injEq] at h
      obtain ⟨rfl, rfl, rfl⟩ := h
      refine ⟨u1, u2, ht, hm, fun f hf => ?_⟩
      obtain rfl := Option.some.inj hf
      exact tat_len t ht _ ⟨v0, v1⟩
    · rw [if_neg c2] at h
      cases h
  · rw [if_neg c1] at h
    by_cases c3 : gt 0 r 0 ≥ 64
    · rw [if_pos c3] at h
      split at h
      · rename_i f u' e
        obtain ⟨b1, b2, b3⟩ := lits_bd ht hb hl (by omega) (by omega) e
        simp only [Option.some.injEq, Prod.mk.injEq] at h
        obtain ⟨rfl, rfl, rfl⟩ := h
        refine ⟨b1, b2, tb_ok (addL_le _ _ hmo.1) hmo, hm, fun g hg => ?_⟩
        obtain rfl := Option.some.inj hg
        exact b3
      · cases h
    · rw [if_neg c3] at h
      by_cases c4 : gt 0 r 0 ≥ 32
      · rw [if_pos c4] at h
        by_cases c2 : (gd r 5).2.2 = 0 ∧ first = true ∧ (gd r 5).1 ≤ cap
        · rw [if_pos c2] at h
          obtain ⟨v0, v1, u1, u2⟩ := gd_bd hb (by omega) (by omega) c2.1
          simp only [Option.some.injEq, Prod.mk.injEq] at h
          obtain ⟨rfl, rfl, rfl⟩ := h
          have := c2.2.2
          exact ⟨u1, u2, tb_ok (keep_le0 _ v0) (by omega), by show (gd r 5).1 ≤ 4096; omega, fun g hg => by cases hg⟩
        · rw [if_neg c2] at h
          cases h
      · rw [if_neg c4] at h
        split at h
        · rename_i f u' e
          obtain ⟨b1, b2, b3⟩ := lits_bd ht hb hl (by omega) (by omega) e
          simp only [Option.some.injEq, Prod.mk.injEq] at h
          obtain ⟨rfl, rfl, rfl⟩ := h
          refine ⟨b1, b2, ht, hm, fun g hg => ?_⟩
          obtain rfl := Option.some.inj hg
          exact b3
        · cases h
theorem piece_f (r : S66) (cap : Int) (first : Bool) (hf : r.f2 = false) (hne : 0 < r.f1.length) (ht : Tok r.f0) (hm : r.f0.f2 ≤ 4096) (hc : 0 ≤ cap ∧ cap ≤ 4096) (hb : byts r.f1) (hl : r.f1.length ≤ 100000) (k : Nat) (hk : 200000000 ≤ k) :
    ∃ f is r', hpack_reader_piece.f k r cap first = some (f, is, r') ∧ ((∃ fo t' u, pcs cap r.f0 first r.f1 = some (fo, t', u) ∧ r' = ⟨t', r.f1.drop u.toNat, false⟩ ∧ ((fo = some f ∧ is = true) ∨ (fo = none ∧ is = false))) ∨ (pcs cap r.f0 first r.f1 = none ∧ r'.f2 = true)) := by
  have hmo := ht.mo
  unfold hpack_reader_piece.f
  rw [if_pos (by omega)]
  by_cases c1 : gt 0 r.f1 0 ≥ 128
  · rw [if_pos c1, number_f r 7 hb hl (by omega) (by omega) k (by omega)]
    by_cases he : (gd r.f1 7).2.2 = 0
    · obtain ⟨v0, v1, u1, u2⟩ := gd_bd hb (by omega) (by omega) he
      rw [if_pos he]
      simp only [bnd2]
      rw [tat_c r.f0 _ ⟨v0, v1⟩ ht.len]
      simp only [bnd2]
      rw [if_neg (by simp [hf])]
      refine ⟨_, _, _, rfl, ?_⟩
      by_cases ho : (tat r.f0 (gd r.f1 7).1).2 = true
      · exact .inl ⟨_, _, _, by unfold pcs; rw [if_pos c1, if_pos ⟨he, ho⟩], by simp only [ho]; rfl, .inl ⟨rfl, rfl⟩⟩
      · exact .inr ⟨by unfold pcs; rw [if_pos c1, if_neg (fun q => ho q.2)], by simpa using ho⟩
    · rw [if_neg he]
      simp only [bnd2]
      rw [tat_c r.f0 0 (by omega) ht.len]
      simp only [bnd2]
      rw [if_pos trivial]
      exact ⟨_, _, _, rfl, .inr ⟨by unfold pcs; rw [if_pos c1, if_neg (fun q => he q.1)], rfl⟩⟩
  · rw [if_neg c1]
    by_cases c3 : gt 0 r.f1 0 ≥ 64
    · rw [if_pos c3]
      obtain ⟨f, r1, e1, a1, b1, q⟩ := rfield_f r hf ht hb hl 6 (by omega) (by omega) k (by omega)
      obtain ⟨k, rfl⟩ : ∃ k', k = k' + 1 := ⟨k - 1, by omega⟩
      rw [e1]
      simp only [bnd2]
      rcases q with ⟨u, q1, rfl⟩ | ⟨q1, q2⟩
      · obtain ⟨b1, b2, b3⟩ := lits_bd ht hb hl (by omega) (by omega) q1
        rw [if_neg (by simp)]
        simp only [eta]
        rw [add_f r.f0 f ht (big_ok b3) _ (by omega)]
        simp only [bnd1]
        rw [hpack_reader_piece.j0]
        exact ⟨_, _, _, rfl, .inl ⟨_, _, _, by unfold pcs; rw [if_neg c1, if_pos c3, q1], rfl, .inl ⟨rfl, rfl⟩⟩⟩
      · rw [if_pos q1, hpack_reader_piece.j0]
        exact ⟨_, _, _, rfl, .inr ⟨by unfold pcs; rw [if_neg c1, if_pos c3, q2], q1⟩⟩
    · rw [if_neg c3]
      by_cases c4 : gt 0 r.f1 0 ≥ 32
      · rw [if_pos c4, number_f r 5 hb hl (by omega) (by omega) k (by omega)]
        by_cases he : (gd r.f1 5).2.2 = 0
        · obtain ⟨v0, v1, u1, u2⟩ := gd_bd hb (by omega) (by omega) he
          rw [if_pos he]
          simp only [bnd2]
          rw [if_neg (by simp [hf]), wi64 (x := cap) (by omega) (by omega)]
          by_cases hfi : first = true
          · rw [if_pos hfi]
            by_cases hv : (gd r.f1 5).1 > cap
            · rw [if_pos hv]
              exact ⟨_, _, _, rfl, .inr ⟨by unfold pcs; rw [if_neg c1, if_neg c3, if_pos c4, if_neg (fun q => by omega)], by simpa using hv⟩⟩
            · rw [if_neg hv, wu32 (by omega) (by omega), limit_f r.f0 _ ht (by omega) k (by omega)]
              simp only [bnd1]
              refine ⟨_, _, _, rfl, .inl ⟨none, _, _, by unfold pcs; rw [if_neg c1, if_neg c3, if_pos c4, if_pos ⟨he, hfi, by omega⟩], ?_, .inr ⟨rfl, rfl⟩⟩⟩
              rw [decide_eq_false hv]
          · rw [if_neg hfi]
            exact ⟨_, _, _, rfl, .inr ⟨by unfold pcs; rw [if_neg c1, if_neg c3, if_pos c4, if_neg (fun q => hfi q.2.1)], rfl⟩⟩
        · rw [if_neg he]
          simp only [bnd2]
          rw [if_pos trivial]
          exact ⟨_, _, _, rfl, .inr ⟨by unfold pcs; rw [if_neg c1, if_neg c3, if_pos c4, if_neg (fun q => he q.1)], rfl⟩⟩
      · rw [if_neg c4]
        obtain ⟨f, r1, e1, a1, b1, q⟩ := rfield_f r hf ht hb hl 4 (by omega) (by omega) k (by omega)
        rw [e1]
        simp only [bnd2]
        by_cases c5 : gt 0 r.f1 0 ≥ 16
        · rw [if_pos c5]
          refine ⟨_, _, _, rfl, ?_⟩
          rcases q with ⟨u, q1, rfl⟩ | ⟨q1, q2⟩
          · exact .inl ⟨_, _, _, by unfold pcs; rw [if_neg c1, if_neg c3, if_neg c4, q1], rfl, .inl ⟨by rw [decide_eq_true c5], rfl⟩⟩
          · exact .inr ⟨by unfold pcs; rw [if_neg c1, if_neg c3, if_neg c4, q2], q1⟩
        · rw [if_neg c5]
          refine ⟨_, _, _, rfl, ?_⟩
          rcases q with ⟨u, q1, rfl⟩ | ⟨q1, q2⟩
          · exact .inl ⟨_, _, _, by unfold pcs; rw [if_neg c1, if_neg c3, if_neg c4, q1], rfl, .inl ⟨by rw [decide_eq_false c5], rfl⟩⟩
          · exact .inr ⟨by unfold pcs; rw [if_neg c1, if_neg c3, if_neg c4, q2], q1⟩
def gets (cap : Int) : Nat → S79 → List S52 → List Int → Option (S79 × List S52)
  | 0, t, out, r => some (t, out)
  | n + 1, t, out, r => if r = [] then some (t, out) else match pcs cap t out.isEmpty r with
    | none => none
    | some (fo, t', u) => gets cap n t' (out ++ fo.toList) (r.drop u.toNat)
def gres : Option (S79 × List S52) → List S52 × Int
  | none => ([], 9)
  | some (_, o) => if tsz o > 4096 then ([], 11) else (o, 0)
def flt (c : Int) : S31 := if c = 0 then ⟨0, 0⟩ else ⟨1, c⟩
theorem empty_dec (l : List S52) : decide ((l.length : Int) = 0) = l.isEmpty := by cases l <;> simp; omega
theorem get_l0 (p0 : S64) (hc : 0 ≤ p0.f1 ∧ p0.f1 ≤ 4096) : ∀ (n k : Nat) (x y : Int) (t : S79) (out : List S52) (r : List Int), r.length ≤ n → Tok t → t.f2 ≤ 4096 → byts r → out.length + r.length ≤ 100000 → tsz out + 20000000000 * (r.length : Int) ≤ 2000000000000000 → n + 200000001 ≤ k →
    ∃ d', hpack_Decoder_Get.l0 k x y (⟨t, r, false⟩ : S66) out (tsz out) p0 = some ((gres (gets p0.f1 n t out r)).1, flt (gres (gets p0.f1 n t out r)).2, d') ∧ ∀ t' o, gets p0.f1 n t out r = some (t', o) → d' = ⟨t', p0.f1⟩ ∧ Tok t' ∧ t'.f2 ≤ 4096 := by
  have fin : ∀ (k : Nat) (x y : Int) (t : S79) (out : List S52) (r : List Int) (g : Option (S79 × List S52)), g = some (t, out) → r.length = 0 → Tok t → t.f2 ≤ 4096 → ∃ d', hpack_Decoder_Get.l0 (k + 1) x y (⟨t, r, false⟩ : S66) out (tsz out) p0 = some ((gres g).1, flt (gres g).2, d') ∧ ∀ t' o, g = some (t', o) → d' = ⟨t', p0.f1⟩ ∧ Tok t' ∧ t'.f2 ≤ 4096 := by
    intro k x y t out r g hg hr ht hm
    subst hg
    rw [hpack_Decoder_Get.l0, if_neg (by dsimp only; omega)]
    simp only [gres]
    by_cases h4 : tsz out > 4096
    · rw [if_pos h4, if_pos h4]
      exact ⟨_, rfl, fun t' o h => by simp only [Option.some.injEq, Prod.mk.injEq] at h; obtain ⟨rfl, rfl⟩ := h; exact ⟨rfl, ht, hm⟩⟩
    · rw [if_neg h4, if_neg h4]
      exact ⟨_, rfl, fun t' o h => by simp only [Option.some.injEq, Prod.mk.injEq] at h; obtain ⟨rfl, rfl⟩ := h; exact ⟨rfl, ht, hm⟩⟩
  intro n
  induction n with
  | zero =>
    intro k x y t out r hn ht hm hb hl hs hk
    obtain ⟨k, rfl⟩ : ∃ k', k = k' + 1 := ⟨k - 1, by omega⟩
    exact fin k x y t out r _ rfl (by omega) ht hm
  | succ n ih =>
    intro k x y t out r hn ht hm hb hl hs hk
    obtain ⟨k, rfl⟩ : ∃ k', k = k' + 1 := ⟨k - 1, by omega⟩
    by_cases hr : r = []
    · exact fin k x y t out r _ (by rw [gets, if_pos hr]) (by rw [hr]; rfl) ht hm
    · have hlen : 0 < r.length := List.length_pos_iff.2 hr
      rw [gets, if_neg hr, hpack_Decoder_Get.l0, if_pos (by dsimp only; omega), empty_dec]
      obtain ⟨f, is, r', e, q⟩ := piece_f (⟨t, r, false⟩ : S66) p0.f1 out.isEmpty rfl hlen ht hm hc hb (by dsimp only; omega) k (by omega)
      rw [e]
      simp only [bnd3]
      dsimp only at q
      rcases q with ⟨fo, t', u, q1, rfl, q2⟩ | ⟨q1, q2⟩
      · obtain ⟨b1, b2, b3, b4, b5⟩ := pcs_bd hc ht hm hb (by omega) q1
        rw [if_neg (by simp), q1]
        dsimp only
        have hdl : (r.drop u.toNat).length + 1 ≤ r.length := by simp only [List.length_drop]; omega
        rcases q2 with ⟨rfl, rfl⟩ | ⟨rfl, rfl⟩
        · have b6 := b5 f rfl
          have b7 := fsz_hi (big_ok b6)
          have b8 := fsz_lo f
          have b9 := tsz_lo out
          have hft : tsz (out ++ [f]) = tsz out + fsz f := by rw [tsz_app]; simp [tsz]
          rw [if_pos rfl, if_pos (by omega), eta]
          simp only [lt1]
          have b6' : f.f0.length ≤ 4294967296 ∧ f.f1.length ≤ 4294967296 := b6
          have hfs : fsz f ≤ 8589934624 := by unfold fsz; omega
          rw [size_f f (by omega)]
          simp only [bnd1]
          rw [wi64 (by omega) (by omega), ← hft]
          exact ih k x y t' (out ++ [f]) _ (by omega) b3 b4 (byts_drop hb _) (by simp only [List.length_append, List.length_cons, List.length_nil]; omega) (by rw [hft]; omega) (by omega)
        · rw [if_neg (by simp)]
          simp only [Option.toList, List.append_nil]
          exact ih k x y t' out _ (by omega) b3 b4 (byts_drop hb _) (by omega) (by omega) (by omega)
      · rw [if_pos q2, q1]
        exact ⟨_, rfl, fun t' o h => by cases h⟩
theorem get_f (p0 : S64) (b : List Int) (hc : 0 ≤ p0.f1 ∧ p0.f1 ≤ 4096) (ht : Tok p0.f0) (hm : p0.f0.f2 ≤ 4096) (hb : byts b) (hl : b.length ≤ 100000) (k : Nat) (hk : 200200000 ≤ k) :
    ∃ d', hpack_Decoder_Get.f k p0 b = some ((gres (gets p0.f1 b.length p0.f0 [] b)).1, flt (gres (gets p0.f1 b.length p0.f0 [] b)).2, d') ∧ ∀ t' o, gets p0.f1 b.length p0.f0 [] b = some (t', o) → d' = ⟨t', p0.f1⟩ ∧ Tok t' ∧ t'.f2 ≤ 4096 := by
  unfold hpack_Decoder_Get.f
  exact get_l0 p0 hc b.length k 0 0 p0.f0 [] b (Nat.le_refl _) ht hm hb (by simpa using hl) (by simp only [tsz]; omega) (by omega)
theorem same_l0' (l : List S52) (hl : l.length < 4611686018427387904) : ∀ (m k i : Nat), i + m = l.length → m < k → louverref06qSame.l0 k i l l = some true := by
  intro m
  induction m with
  | zero =>
    intro k i hi hk
    obtain ⟨k, rfl⟩ : ∃ k', k = k' + 1 := ⟨k - 1, by omega⟩
    rw [louverref06qSame.l0, if_neg (by omega)]
  | succ m ih =>
    intro k i hi hk
    obtain ⟨k, rfl⟩ : ∃ k', k = k' + 1 := ⟨k - 1, by omega⟩
    rw [louverref06qSame.l0, if_pos (by omega), if_pos (by omega), if_pos (by omega), if_pos (by simp), wi64 (by omega) (by omega), show (i : Int) + 1 = ((i + 1 : Nat) : Int) by omega]
    exact ih k (i + 1) (by omega) (by omega)
theorem same_f (l : List S52) (hl : l.length < 4611686018427387904) (k : Nat) (hk : l.length < k) : louverref06qSame.f k l l = some true := by
  unfold louverref06qSame.f
  rw [if_pos rfl]
  exact same_l0' l hl l.length k 0 (by omega) hk
theorem newd_f (p0 : Int) (h0 : 0 ≤ p0 ∧ p0 < 4294967296) : hpack_NewDecoder.f p0 = some (⟨tb [] (min p0 4096), min p0 4096⟩ : S64) := by
  unfold hpack_NewDecoder.f dyntable_New.f
  rw [mn_eq, wi64 (by omega) (by omega)]
  rfl
theorem byts_app {a b : List Int} (ha : byts a) (hb : byts b) : byts (a ++ b) := fun x hx => by
  rcases List.mem_append.1 hx with h | h
  · exact ha x h
  · exact hb x h
theorem byts_ofS (s : List UInt8) : byts (ofS s) := fun x hx => by
  simp only [ofS, List.mem_map] at hx
  obtain ⟨c, _, rfl⟩ := hx
  have := c.toNat_lt
  omega
theorem hd_enc {s : List UInt8} {res : List Int} (h : HX.Eout s res) : hd res = (s, 0) := by
  unfold hd
  have hp := HX.pad_lt (HX.flat s).length
  obtain ⟨j, p, h1, h2, h3, h4⟩ := HX.dec_cut (HX.pad (HX.flat s).length) hp s [] (HX.bitsL res) ⟨[], by rw [h.bits]; simp⟩
  obtain ⟨rfl, rfl⟩ := h4 h.bits
  rw [h2]
  simp only [HX.fin, HX.ones_len, List.nil_append, List.take_length]
  rw [if_neg (by omega), HX.vb_ones, if_pos rfl, HX.toS_sg]
theorem pre_first {n b v : Int} (tl : List Int) (h1 : 1 ≤ n) (h2 : n ≤ 8) (hb : 0 ≤ b ∧ b < 256) (hv : 0 ≤ v) (hv2 : v ≤ 268435456) : gt 0 (pre n b v ++ tl) 0 / tp n = b / tp n := by
  obtain ⟨t, r, e, h, h3, _⟩ := PX.pre_ok h1 h2 hb hv hv2
  rw [e]
  simpa [gt] using h3
theorem drop_app_len {a b : List Int} : (a ++ b).drop ((a.length : Int).toNat) = b := by simp
theorem txs_made {first : Int} {x tl : List Int} (hf : first = 0 ∨ first = 128) (hx : x.length ≤ 100000) : txs ((pre 7 first x.length ++ x) ++ tl) =
    if first = 0 then some (toS x, ((pre 7 first x.length ++ x).length : Int)) else if (hd x).2 = 0 then some ((hd x).1, ((pre 7 first x.length ++ x).length : Int)) else none := by
  have hg := PX.gd_pre (n := 7) (b := first) (v := x.length) (x ++ tl) (by omega) (by omega) (by omega) (by omega) (by omega)
  have hf1 := pre_first (n := 7) (b := first) (v := x.length) (x ++ tl) (by omega) (by omega) (by omega) (by omega) (by omega)
  have ht : tp 7 = 128 := rfl
  rw [ht] at hf1
  have hd1 : ((pre 7 first x.length ++ (x ++ tl)).drop ((pre 7 first x.length).length : Int).toNat).take ((x.length : Int)).toNat = x := by
    rw [drop_app_len]
    simp
  rw [List.append_assoc]
  unfold txs
  rw [hg]
  dsimp only
  rw [if_pos rfl, if_neg (by simp only [List.length_append]; omega), hd1]
  have hl : ((pre 7 first x.length ++ x).length : Int) = ((pre 7 first x.length).length : Int) + (x.length : Int) := by simp
  rw [hl]
  rcases hf with rfl | rfl
  · rw [if_pos (by omega), if_pos rfl]
  · rw [if_neg (by omega), if_neg (show ¬ (128 : Int) = 0 by omega)]
theorem wput_f {p : List Int} {n b v : Int} (k : Nat) (hk : 4 ≤ k) (hp : p.length ≤ 2000000) (h1 : 1 ≤ n) (h2 : n ≤ 8) (hb : 0 ≤ b ∧ b < 256) (hv : 0 ≤ v) (hv2 : v ≤ 268435456) : prefix_Put.f k p n b v = some (p ++ pre n b v) := by
  obtain ⟨k, rfl⟩ : ∃ k', k = k' + 4 := ⟨k - 4, by omega⟩
  exact PX.put_f k (by omega) h1 h2 hb hv hv2
theorem text_e (b : List Int) (s : List UInt8) (hs : s.length < 9000) (hb : b.length ≤ 900000) (k : Nat) (hk : 70000 ≤ k) : ∃ y, hpack_text.f k b s = some (b ++ y) ∧ byts y ∧ y.length ≤ s.length + 5 ∧ 1 ≤ y.length ∧ ∀ tl, txs (y ++ tl) = some (s, (y.length : Int)) := by
  obtain ⟨x, hx, he⟩ := HX.encode_f s (by omega) k hk
  unfold hpack_text.f
  rw [hx]
  simp only [bnd1]
  by_cases hc : (x.length : Int) < (s.length : Int)
  · have hpl := PX.pre_len (n := 7) (b := 128) (v := x.length) (by omega) (by omega) (by omega) (by omega)
    rw [if_pos hc, wu32 (by omega) (by omega), wput_f k (by omega) (by omega) (by omega) (by omega) (by omega) (by omega) (by omega)]
    simp only [bnd1, lt1]
    rw [if_pos (by simp only [List.length_append]; omega), List.append_assoc]
    refine ⟨_, rfl, byts_app (PX.pre_byts (by omega) (by omega) (by omega) (by omega) (by omega)) he.ok, by simp only [List.length_append]; omega, by simp only [List.length_append]; omega, fun tl => ?_⟩
    rw [txs_made (.inr rfl) (by omega), if_neg (by omega), hd_enc he]
    rfl
  · have hpl := PX.pre_len (n := 7) (b := 0) (v := s.length) (by omega) (by omega) (by omega) (by omega)
    rw [if_neg hc, wu32 (by omega) (by omega), wput_f k (by omega) (by omega) (by omega) (by omega) (by omega) (by omega) (by omega)]
    simp only [bnd1, lt1]
    rw [if_pos (by simp only [List.length_append]; omega), List.append_assoc]
    refine ⟨_, rfl, byts_app (PX.pre_byts (by omega) (by omega) (by omega) (by omega) (by omega)) (byts_ofS s), by simp only [List.length_append, ofS_length]; omega, by simp only [List.length_append]; omega, fun tl => ?_⟩
    have h := txs_made (first := 0) (x := ofS s) (tl := tl) (.inl rfl) (by rw [ofS_length]; omega)
    rw [ofS_length] at h
    rw [h, if_pos rfl, show toS (ofS s) = s from HX.toS_sg s]
theorem literal_e (t : S79) (b : List Int) (bits first n : Int) (f : S52) (hbits : (bits = 4 ∧ first = 16) ∨ (bits = 6 ∧ first = 64) ∨ (bits = 4 ∧ first = 0)) (h0 : 0 ≤ n) (h1 : n ≤ 16383) (hf : small f) (hb : b.length ≤ 800000) (hn : n = 0 ∨ ((tat t n).2 = true ∧ (tat t n).1.f0 = f.f0)) (k : Nat) (hk : 70000 ≤ k) :
    ∃ y, hpack_literal.f k b bits first n f = some (b ++ y) ∧ byts y ∧ y.length ≤ f.f0.length + f.f1.length + 15 ∧ 1 ≤ y.length ∧ ∀ tl, lits t (y ++ tl) bits = some (⟨f.f0, f.f1, false⟩, (y.length : Int)) ∧ gt 0 (y ++ tl) 0 / tp bits = first / tp bits := by
  have hf' : f.f0.length < 9000 ∧ f.f1.length < 9000 := hf
  have hpl := PX.pre_len (n := bits) (b := first) (v := n) (by omega) (by omega) (by omega) (by omega)
  unfold hpack_literal.f
  rw [wu32 (by omega) (by omega), wput_f k (by omega) (by omega) (by omega) (by omega) (by omega) (by omega) (by omega)]
  simp only [bnd1]
  have hpb := PX.pre_byts (n := bits) (b := first) (v := n) (by omega) (by omega) (by omega) (by omega) (by omega)
  by_cases hz : n = 0
  · rw [if_pos hz]
    obtain ⟨y1, e1, b1, l1, m1, t1⟩ := text_e (b ++ pre bits first n) f.f0 hf'.1 (by simp only [List.length_append]; omega) k hk
    rw [e1]
    simp only
    obtain ⟨y2, e2, b2, l2, m2, t2⟩ := text_e (b ++ pre bits first n ++ y1) f.f1 hf'.2 (by simp only [List.length_append]; omega) k hk
    rw [e2]
    refine ⟨pre bits first n ++ (y1 ++ y2), by simp only [List.append_assoc], byts_app hpb (byts_app b1 b2), by simp only [List.length_append]; omega, by simp only [List.length_append]; omega, fun tl => ⟨?_, ?_⟩⟩
    · rw [List.append_assoc]
      unfold lits
      rw [PX.gd_pre _ (by omega) (by omega) (by omega) (by omega) (by omega)]
      dsimp only
      rw [if_pos rfl, if_pos hz, drop_app_len, List.append_assoc, t1]
      dsimp only
      rw [drop_app_len, t2]
      simp only [List.length_append, Option.some.injEq, Prod.mk.injEq, true_and]
      omega
    · rw [List.append_assoc]
      exact pre_first _ (by omega) (by omega) (by omega) (by omega) (by omega)
  · rw [if_neg hz]
    obtain ⟨ho, hnm⟩ := hn.resolve_left hz
    obtain ⟨y2, e2, b2, l2, m2, t2⟩ := text_e (b ++ pre bits first n) f.f1 hf'.2 (by simp only [List.length_append]; omega) k hk
    rw [e2]
    refine ⟨pre bits first n ++ y2, by simp only [List.append_assoc], byts_app hpb b2, by simp only [List.length_append]; omega, by simp only [List.length_append]; omega, fun tl => ⟨?_, ?_⟩⟩
    · rw [List.append_assoc]
      unfold lits
      rw [PX.gd_pre _ (by omega) (by omega) (by omega) (by omega) (by omega)]
      dsimp only
      rw [if_pos rfl, if_neg hz, if_pos ho, drop_app_len, t2, hnm]
      simp only [List.length_append, Option.some.injEq, Prod.mk.injEq, true_and]
      omega
    · rw [List.append_assoc]
      exact pre_first _ (by omega) (by omega) (by omega) (by omega) (by omega)
/-! what is found is there -/
def plain (t : S79) : Prop := ∀ x ∈ t.f0, x.f2 = false
theorem fnd_pr (name value : List UInt8) (Q : Int → S52 → Prop) : ∀ (l : List S52) (first : Int) (i : Nat), (∀ (j : Nat) x, l[j]? = some x → Q ((i + j : Nat) + 1) x) →
    ((fnd name value l first i).2 = true → ∃ x, Q (fnd name value l first i).1 x ∧ x.f0 = name ∧ x.f1 = value) ∧ ((fnd name value l first i).2 = false → (fnd name value l first i).1 = first ∨ ∃ x, Q (fnd name value l first i).1 x ∧ x.f0 = name)
  | [], first, i, h => ⟨fun h => (by cases h), fun _ => .inl rfl⟩
  | x :: l, first, i, h => by
    have h0 : Q ((i : Int) + 1) x := by simpa using h 0 x rfl
    have hs : ∀ (j : Nat) y, l[j]? = some y → Q (((i + 1 : Nat) + j : Nat) + 1) y := fun j y hy => by
      have := h (j + 1) y (by simpa using hy)
      rw [show i + (j + 1) = i + 1 + j by omega] at this
      exact this
    simp only [fnd]
    rw [show (i : Int) + 1 = ((i + 1 : Nat) : Int) by omega] at h0 ⊢
    by_cases h1 : x.f0 = name
    · rw [if_pos h1]
      by_cases h2 : x.f1 = value
      · rw [if_pos h2]
        exact ⟨fun _ => ⟨x, h0, h1, h2⟩, fun q => by cases q⟩
      · rw [if_neg h2]
        by_cases h3 : first = 0
        · rw [if_pos h3]
          obtain ⟨a, b⟩ := fnd_pr name value Q l ((i + 1 : Nat) : Int) (i + 1) hs
          refine ⟨a, fun q => ?_⟩
          rcases b q with b | b
          · exact .inr ⟨x, by rw [b]; exact h0, h1⟩
          · exact .inr b
        · rw [if_neg h3]
          exact fnd_pr name value Q l first (i + 1) hs
    · rw [if_neg h1]
      exact fnd_pr name value Q l first (i + 1) hs
theorem fdl_pr (name value : List UInt8) (Q : Int → S52 → Prop) : ∀ (l : List S52) (first : Int) (i : Nat), (∀ (j : Nat) x, l[j]? = some x → Q (62 + ((i + j : Nat) : Int)) x) →
    ((fdl name value l first i).2 = true → ∃ x, Q (fdl name value l first i).1 x ∧ x.f0 = name ∧ x.f1 = value) ∧ ((fdl name value l first i).2 = false → (fdl name value l first i).1 = first ∨ ∃ x, Q (fdl name value l first i).1 x ∧ x.f0 = name)
  | [], first, i, h => ⟨fun h => (by cases h), fun _ => .inl rfl⟩
  | x :: l, first, i, h => by
    have h0 : Q (62 + (i : Int)) x := by simpa using h 0 x rfl
    have hs : ∀ (j : Nat) y, l[j]? = some y → Q (62 + (((i + 1 : Nat) + j : Nat) : Int)) y := fun j y hy => by
      have := h (j + 1) y (by simpa using hy)
      rw [show i + (j + 1) = i + 1 + j by omega] at this
      exact this
    simp only [fdl]
    rw [show (i : Int) + 1 = ((i + 1 : Nat) : Int) by omega]
    by_cases h1 : x.f0 = name
    · rw [if_pos h1]
      by_cases h2 : x.f1 = value
      · rw [if_pos h2]
        exact ⟨fun _ => ⟨x, h0, h1, h2⟩, fun q => by cases q⟩
      · rw [if_neg h2]
        by_cases h3 : first = 0
        · rw [if_pos h3]
          obtain ⟨a, b⟩ := fdl_pr name value Q l (62 + (i : Int)) (i + 1) hs
          refine ⟨a, fun q => ?_⟩
          rcases b q with b | b
          · exact .inr ⟨x, by rw [b]; exact h0, h1⟩
          · exact .inr b
        · rw [if_neg h3]
          exact fdl_pr name value Q l first (i + 1) hs
    · rw [if_neg h1]
      exact fdl_pr name value Q l first (i + 1) hs
theorem tat_lo (n : Nat) (h : n < 61) (t : S79) : ∃ x, G0[n]? = some x ∧ tat t ((n + 1 : Nat) : Int) = (x, true) ∧ x.f2 = false := by
  obtain ⟨f, ok, h1, h3, h4, h5, _⟩ := at1 ((n + 1 : Nat) : Int)
  obtain rfl : ok = true := h4.2 (by omega)
  have e : tat t ((n + 1 : Nat) : Int) = (f, true) := by
    unfold tat dyntable_Table_At.f
    rw [h1]
    rfl
  refine ⟨f, ?_, e, h3⟩
  have hi : IntKind.i64.wrap (((n + 1 : Nat) : Int) - 1) = (n : Int) := by rw [wi64 (by omega) (by omega)]; omega
  unfold statics_At.f at h1
  rw [if_neg (by omega), if_neg (by omega), hi, if_pos (by omega), if_pos (by omega)] at h1
  simp only [Option.some.injEq, Prod.mk.injEq, and_true] at h1
  rw [eta, gt_nat z52 G0 n (by rw [G0qlen]; omega)] at h1
  rw [← h1, List.getElem?_eq_getElem (by rw [G0qlen]; omega)]
theorem tat_hi (t : S79) (h : Tok t) (n : Nat) (hn : n < t.f0.length) : tat t (62 + (n : Int)) = (gt z52 t.f0.reverse (n : Int), true) := by
  unfold tat
  rw [show 62 + (n : Int) = ((62 + n : Nat) : Int) by omega, at_hi1 t n hn h.len]
  rfl
theorem find_e (t : S79) (ht : Tok t) (hp : plain t) (name value : List UInt8) (k : Nat) (hk : 134217728 < k) : ∃ n is, dyntable_Table_Find.f k t name value = some (n, is) ∧ 0 ≤ n ∧ n ≤ 62 + t.f0.length ∧ (is = true → 1 ≤ n ∧ tat t n = (⟨name, value, false⟩, true)) ∧ (n = 0 ∨ ((tat t n).2 = true ∧ (tat t n).1.f0 = name)) := by
  obtain ⟨n, is, e, n0, n1⟩ := find_bd t name value ht.len k hk
  refine ⟨n, is, e, n0, n1, ?_⟩
  rw [tfind_f t name value ht.len k hk] at e
  have hQ : ∀ (j : Nat) x, G0[j]? = some x → (fun (m : Int) (x : S52) => 1 ≤ m ∧ tat t m = (x, true) ∧ x.f2 = false) (((0 + j : Nat) : Int) + 1) x := fun j x hx => by
    have hj : j < 61 := by rw [← G0qlen]; exact (List.getElem?_eq_some_iff.1 hx).1
    obtain ⟨y, hy, h1, h2⟩ := tat_lo j hj t
    obtain rfl := Option.some.inj (hx.symm.trans hy)
    rw [Nat.zero_add, show (j : Int) + 1 = ((j + 1 : Nat) : Int) by omega]
    exact ⟨by omega, h1, h2⟩
  have hR : ∀ (j : Nat) x, t.f0.reverse[j]? = some x → (fun (m : Int) (x : S52) => 1 ≤ m ∧ tat t m = (x, true) ∧ x.f2 = false) (62 + ((0 + j : Nat) : Int)) x := fun j x hx => by
    have hj : j < t.f0.length := by have := (List.getElem?_eq_some_iff.1 hx).1; simpa using this
    have he : gt z52 t.f0.reverse (j : Int) = x := by simp [gt, List.getD_eq_getElem?_getD, hx]
    rw [Nat.zero_add]
    refine ⟨by omega, by rw [tat_hi t ht j hj, he], hp x ?_⟩
    exact List.mem_reverse.1 (List.mem_of_getElem? hx)
  obtain ⟨a1, a2⟩ := fnd_pr name value (fun (m : Int) (x : S52) => 1 ≤ m ∧ tat t m = (x, true) ∧ x.f2 = false) G0 0 0 hQ
  have fin : ∀ x, (1 ≤ n ∧ tat t n = (x, true) ∧ x.f2 = false) → x.f0 = name → x.f1 = value → 1 ≤ n ∧ tat t n = (⟨name, value, false⟩, true) := by
    rintro ⟨x0, x1, x2⟩ ⟨q1, q2, q3⟩ rfl rfl
    dsimp only at q3
    rw [q3] at q2
    exact ⟨q1, q2⟩
  by_cases hc : (fnd name value G0 0 0).2 = true
  · rw [if_pos hc] at e
    simp only [Option.some.injEq, Prod.mk.injEq] at e
    obtain ⟨rfl, rfl⟩ := e
    obtain ⟨x, q1, q2, q3⟩ := a1 hc
    refine ⟨fun _ => fin x q1 q2 q3, .inr ?_⟩
    have q12 : tat t (fnd name value G0 0 0).1 = (x, true) := q1.2.1
    rw [q12]
    exact ⟨rfl, q2⟩
  · rw [if_neg hc] at e
    obtain ⟨b1, b2⟩ := fdl_pr name value (fun (m : Int) (x : S52) => 1 ≤ m ∧ tat t m = (x, true) ∧ x.f2 = false) t.f0.reverse (fnd name value G0 0 0).1 0 hR
    have hsm := a2 (by simpa using hc)
    have e0 : fdl name value t.f0.reverse (fnd name value G0 0 0).1 0 = (n, is) := Option.some.inj e
    have e0' : fdl name value t.f0.reverse (fnd name value G0 0 0).1 ((0 : Nat) : Int) = (n, is) := e0
    rw [e0'] at b1 b2
    dsimp only at b1 b2
    cases is with
    | true =>
      obtain ⟨x, q1, q2, q3⟩ := b1 rfl
      refine ⟨fun _ => fin x q1 q2 q3, .inr ?_⟩
      rw [q1.2.1]
      exact ⟨rfl, q2⟩
    | false =>
      refine ⟨fun q => (by cases q), ?_⟩
      rcases b2 rfl with b2 | ⟨x, q1, q2⟩
      · rw [b2]
        rcases hsm with hsm | ⟨x, q1, q2⟩
        · exact .inl hsm
        · refine .inr ?_
          have q12 : tat t (fnd name value G0 0 0).1 = (x, true) := q1.2.1
          rw [q12]
          exact ⟨rfl, q2⟩
      · refine .inr ?_
        rw [q1.2.1]
        exact ⟨rfl, q2⟩
def found (t : S79) (f : S52) : Prop := (fnd f.f0 f.f1 G0 0 0).2 = true ∨ ∃ x ∈ t.f0, x.f0 = f.f0 ∧ x.f1 = f.f1
theorem fdl_in (name value : List UInt8) : ∀ (l : List S52) (first i : Int), (∃ x ∈ l, x.f0 = name ∧ x.f1 = value) → (fdl name value l first i).2 = true
  | [], first, i, h => by obtain ⟨x, hx, _⟩ := h; cases hx
  | y :: l, first, i, h => by
    simp only [fdl]
    by_cases h1 : y.f0 = name
    · rw [if_pos h1]
      by_cases h2 : y.f1 = value
      · rw [if_pos h2]
      · rw [if_neg h2]
        refine fdl_in name value l _ _ ?_
        obtain ⟨x, hx, a, b⟩ := h
        rcases List.mem_cons.1 hx with rfl | hx
        · exact absurd b h2
        · exact ⟨x, hx, a, b⟩
    · rw [if_neg h1]
      refine fdl_in name value l _ _ ?_
      obtain ⟨x, hx, a, b⟩ := h
      rcases List.mem_cons.1 hx with rfl | hx
      · exact absurd a h1
      · exact ⟨x, hx, a, b⟩
theorem find_in (t : S79) (ht : Tok t) (f : S52) (h : found t f) (k : Nat) (hk : 134217728 < k) (n : Int) (is : Bool) (e : dyntable_Table_Find.f k t f.f0 f.f1 = some (n, is)) : is = true := by
  rw [tfind_f t _ _ ht.len k hk] at e
  by_cases hc : (fnd f.f0 f.f1 G0 0 0).2 = true
  · rw [if_pos hc] at e
    simp only [Option.some.injEq, Prod.mk.injEq] at e
    exact e.2.symm
  · rw [if_neg hc] at e
    have h1 := fdl_in f.f0 f.f1 t.f0.reverse (fnd f.f0 f.f1 G0 0 0).1 0 (by
      obtain ⟨x, hx, a⟩ := h.resolve_left hc
      exact ⟨x, List.mem_reverse.2 hx, a⟩)
    rw [Option.some.inj e] at h1
    exact h1
theorem found_of (t : S79) (ht : Tok t) (f : S52) (k : Nat) (hk : 134217728 < k) (n : Int) (e : dyntable_Table_Find.f k t f.f0 f.f1 = some (n, true)) (hp : plain t) : found t f := by
  rw [tfind_f t _ _ ht.len k hk] at e
  by_cases hc : (fnd f.f0 f.f1 G0 0 0).2 = true
  · exact .inl hc
  · rw [if_neg hc] at e
    have := fdl_pr f.f0 f.f1 (fun (m : Int) (x : S52) => x ∈ t.f0) t.f0.reverse (fnd f.f0 f.f1 G0 0 0).1 0 (fun j x hx => List.mem_reverse.1 (List.mem_of_getElem? hx))
    have e' : fdl f.f0 f.f1 t.f0.reverse (fnd f.f0 f.f1 G0 0 0).1 ((0 : Nat) : Int) = (n, true) := Option.some.inj e
    rw [e'] at this
    obtain ⟨x, h1, h2⟩ := this.1 rfl
    exact .inr ⟨x, h1, h2⟩
theorem plain_addL {t : S79} (h : plain t) (m : Int) (f : S52) : plain (tb (addL t.f0 m f) m) := by
  intro x hx
  unfold tb addL at hx
  dsimp only at hx
  split at hx
  · cases hx
  · rcases List.mem_append.1 hx with hx | hx
    · exact h x ((keep_suf _ _).subset hx)
    · rw [List.mem_singleton.1 hx]
      rfl
theorem addL_all {l : List S52} {m : Int} {f : S52} (h : tsz l + fsz f ≤ m) : addL l m f = l ++ [strip f] := by
  have := tsz_lo l
  unfold addL
  rw [if_neg (by omega), keep_all (by omega)]
theorem field_e (p : S61) (b : List Int) (f : S52) (h : Eok p) (hp : plain p.f0) (hf : small f) (hb : b.length ≤ 700000) (k : Nat) (hk : 134300000 ≤ k) : ∃ y t', hpack_Encoder_field.f k p b f = some (b ++ y, (⟨t', p.f1, p.f2, p.f3⟩ : S61)) ∧ byts y ∧ y.length ≤ f.f0.length + f.f1.length + 15 ∧ 1 ≤ y.length ∧ Tok t' ∧ plain t' ∧ t'.f2 = p.f0.f2 ∧
    (∀ cap first tl, pcs cap p.f0 first (y ++ tl) = some (some f, t', (y.length : Int))) ∧
    (f.f2 = false → tsz p.f0.f0 + fsz f ≤ p.f0.f2 → (found p.f0 f ∧ t' = p.f0) ∨ t' = tb (p.f0.f0 ++ [strip f]) p.f0.f2) ∧
    (f.f2 = false → found p.f0 f → p.f0.f0.length ≤ 60 → t' = p.f0 ∧ y.length = 1) := by
  have hlen := h.len
  have hmo := h.t.mo
  have hf' : f.f0.length < 9000 ∧ f.f1.length < 9000 := hf
  obtain ⟨n, is, e1, n0, n1, q1, q2⟩ := find_e p.f0 h.t hp f.f0 f.f1 k (by omega)
  have hokf : okF f := ⟨by have := hf.1; unfold okS; omega, by have := hf.2; unfold okS; omega, trivial⟩
  have t4 : tp 4 = 16 := rfl
  have t6 : tp 6 = 64 := rfl
  have t7 : tp 7 = 128 := rfl
  unfold hpack_Encoder_field.f
  rw [e1]
  simp only [bnd2, eta]
  by_cases hn : f.f2 = true
  · rw [if_pos hn]
    obtain ⟨y, hy, b1, l1, m1, g1⟩ := literal_e p.f0 b 4 16 n f (.inl ⟨rfl, rfl⟩) n0 (by omega) hf (by omega) q2 k (by omega)
    rw [hy]
    refine ⟨y, p.f0, rfl, b1, l1, m1, h.t, hp, rfl, fun cap first tl => ?_, fun q => ?_, fun q => ?_⟩
    · obtain ⟨g2, g3⟩ := g1 tl
      rw [t4] at g3
      unfold pcs
      rw [if_neg (by omega), if_neg (by omega), if_neg (by omega), g2]
      dsimp only
      rw [decide_eq_true (by omega), ← hn]
    · rw [hn] at q
      cases q
    · rw [hn] at q
      cases q
  · rw [if_neg hn]
    have hn' : f.f2 = false := by simpa using hn
    by_cases hi : is = true
    · rw [if_pos hi, wu32 (by omega) (by omega), wput_f k (by omega) (by omega) (by omega) (by omega) (by omega) (by omega) (by omega)]
      obtain ⟨q3, q4⟩ := q1 hi
      have hpl := PX.pre_len (n := 7) (b := 128) (v := n) (by omega) (by omega) (by omega) (by omega)
      subst hi
      refine ⟨pre 7 128 n, p.f0, rfl, PX.pre_byts (by omega) (by omega) (by omega) (by omega) (by omega), by omega, by omega, h.t, hp, rfl, fun cap first tl => ?_, fun _ _ => .inl ⟨found_of p.f0 h.t f k (by omega) n e1 hp, rfl⟩, fun _ _ hle => ⟨rfl, ?_⟩⟩
      · have g3 := pre_first (n := 7) (b := 128) (v := n) tl (by omega) (by omega) (by omega) (by omega) (by omega)
        rw [t7] at g3
        unfold pcs
        rw [if_pos (by omega), PX.gd_pre _ (by omega) (by omega) (by omega) (by omega) (by omega)]
        dsimp only
        rw [q4, if_pos ⟨rfl, rfl⟩, ← hn']
      · unfold pre
        rw [if_pos (by rw [t7]; omega)]
        rfl
    · rw [if_neg hi, add_f p.f0 f h.t hokf k (by omega)]
      obtain ⟨y, hy, b1, l1, m1, g1⟩ := literal_e p.f0 b 6 64 n f (.inr (.inl ⟨rfl, rfl⟩)) n0 (by omega) hf (by omega) q2 k (by omega)
      simp only [bnd1]
      rw [hy]
      refine ⟨y, _, rfl, b1, l1, m1, tb_ok (addL_le _ _ hmo.1) hmo, plain_addL hp _ _, rfl, fun cap first tl => ?_, fun _ hle => .inr (by rw [addL_all hle]), fun _ hfo => ?_⟩
      · obtain ⟨g2, g3⟩ := g1 tl
        rw [t6] at g3
        unfold pcs
        rw [if_neg (by omega), if_pos (by omega), g2]
        dsimp only
        have e9 : addL p.f0.f0 p.f0.f2 (⟨f.f0, f.f1, false⟩ : S52) = addL p.f0.f0 p.f0.f2 f := rfl
        rw [e9, ← hn']
      · exact absurd (find_in p.f0 h.t f hfo k (by omega) n is e1) hi
def qsum : List S52 → Int
  | [] => 0
  | f :: l => f.f0.length + f.f1.length + 15 + qsum l
theorem qsum_lo : ∀ l, 0 ≤ qsum l
  | [] => by simp [qsum]
  | f :: l => by have := qsum_lo l; simp only [qsum]; omega
theorem gets_nil (cap : Int) (n : Nat) (t : S79) (out : List S52) : gets cap n t out [] = some (t, out) := by
  cases n with
  | zero => rfl
  | succ n => rw [gets, if_pos rfl]
theorem gets_step {cap : Int} {n : Nat} {t t1 : S79} {out : List S52} {fo : Option S52} {y tl : List Int} (h : pcs cap t out.isEmpty (y ++ tl) = some (fo, t1, (y.length : Int))) (h1 : 1 ≤ y.length) (hn : y.length + tl.length ≤ n) :
    ∃ n', tl.length ≤ n' ∧ gets cap n t out (y ++ tl) = gets cap n' t1 (out ++ fo.toList) tl := by
  obtain ⟨n, rfl⟩ : ∃ n', n = n' + 1 := ⟨n - 1, by omega⟩
  refine ⟨n, by omega, ?_⟩
  rw [gets, if_neg (by intro q; have := congrArg List.length q; simp only [List.length_append, List.length_nil] at this; omega), h]
  dsimp only
  rw [drop_app_len]
theorem found_mono {t t' : S79} {f : S52} {e : List S52} (h : found t f) (ht : t'.f0 = t.f0 ++ e) : found t' f := by
  rcases h with h | ⟨x, hx, h⟩
  · exact .inl h
  · exact .inr ⟨x, by rw [ht]; exact List.mem_append_left _ hx, h⟩
theorem put_e (l : List S52) (hl : l.length ≤ 9000) (hs : ∀ f ∈ l, small f) : ∀ (m k i : Nat) (p : S61) (b : List Int), i + m = l.length → Eok p → plain p.f0 → (b.length : Int) + qsum (l.drop i) ≤ 700000 → m + 134300000 < k →
    ∃ Y t', hpack_Encoder_Put.l2 k p b i l = some (b ++ Y, (⟨t', p.f1, p.f2, p.f3⟩ : S61)) ∧ byts Y ∧ (Y.length : Int) ≤ qsum (l.drop i) ∧ Tok t' ∧ plain t' ∧ t'.f2 = p.f0.f2 ∧
      (∀ cap n out, Y.length ≤ n → gets cap n p.f0 out Y = some (t', out ++ l.drop i)) ∧
      ((∀ f ∈ l.drop i, f.f2 = false) → tsz p.f0.f0 + tsz (l.drop i) ≤ p.f0.f2 → (∃ e, t'.f0 = p.f0.f0 ++ e ∧ e.length ≤ m) ∧ ∀ f ∈ l.drop i, found t' f) ∧
      ((∀ f ∈ l.drop i, f.f2 = false ∧ found p.f0 f) → p.f0.f0.length ≤ 60 → t' = p.f0 ∧ Y.length = m) := by
  intro m
  induction m with
  | zero =>
    intro k i p b hi hp hpl hb hk
    obtain ⟨k, rfl⟩ : ∃ k', k = k' + 1 := ⟨k - 1, by omega⟩
    rw [hpack_Encoder_Put.l2, if_neg (by omega), List.drop_eq_nil_of_le (by omega)]
    exact ⟨[], p.f0, by simp, by simp [byts], by simp [qsum], hp.t, hpl, rfl, fun cap n out _ => by rw [gets_nil]; simp, fun _ _ => ⟨⟨[], by simp, by simp⟩, by simp⟩, fun _ _ => ⟨rfl, rfl⟩⟩
  | succ m ih =>
    intro k i p b hi hp hpl hb hk
    obtain ⟨k, rfl⟩ : ∃ k', k = k' + 1 := ⟨k - 1, by omega⟩
    have hd := drop_at' z52 l i (by omega)
    have hsm : small (gt z52 l (i : Int)) := hs _ (by rw [gt_nat z52 l i (by omega)]; exact List.getElem_mem _)
    rw [hd] at hb ⊢
    have hq0 := qsum_lo (l.drop (i + 1))
    rw [hpack_Encoder_Put.l2, if_pos (by omega), if_pos (by omega), eta]
    revert hsm hb
    generalize gt z52 l (i : Int) = f
    intro hb hsm
    simp only [qsum] at hb ⊢
    obtain ⟨y, t1, e, b1, l1, m1, k1, k2, k3, k4, k5, k6⟩ := field_e p b f hp hpl hsm (by omega) k (by omega)
    have hp1 : Eok (⟨t1, p.f1, p.f2, p.f3⟩ : S61) := ⟨k1, by rw [k3]; exact hp.m, hp.l, hp.n⟩
    obtain ⟨Y, t', e2, c1, c2, c3, c4, c5, c6, c7, c8⟩ := ih k (i + 1) (⟨t1, p.f1, p.f2, p.f3⟩ : S61) (b ++ y) (by omega) hp1 k2 (by simp only [List.length_append]; omega) (by omega)
    dsimp only at c5 c6 c7 c8
    rw [e]
    simp only [bnd2]
    rw [wi64 (by omega) (by omega), show (i : Int) + 1 = ((i + 1 : Nat) : Int) by omega, e2]
    refine ⟨y ++ Y, t', by rw [List.append_assoc], byts_app b1 c1, by simp only [List.length_append]; omega, c3, c4, by rw [c5, k3], fun cap n out hn => ?_, fun ha hb2 => ?_, fun ha hb2 => ?_⟩
    · obtain ⟨n', h1, h2⟩ := gets_step (n := n) (k4 cap out.isEmpty Y) m1 (by simpa using hn)
      rw [h2, c6 cap n' _ h1]
      simp [Option.toList]
    · have hf2 := ha f (List.mem_cons_self ..)
      simp only [tsz] at hb2
      have h0 := tsz_lo (l.drop (i + 1))
      have h00 := fsz_lo f
      obtain ⟨e1, h1, h2⟩ : ∃ e1, t1.f0 = p.f0.f0 ++ e1 ∧ e1.length ≤ 1 ∧ found t1 f ∧ tsz t1.f0 ≤ tsz p.f0.f0 + fsz f := by
        rcases k5 hf2 (by omega) with ⟨h3, rfl⟩ | rfl
        · exact ⟨[], by simp, by simp, h3, by omega⟩
        · refine ⟨[strip f], rfl, by simp, .inr ⟨strip f, by simp [tb], rfl, rfl⟩, ?_⟩
          show tsz (p.f0.f0 ++ [strip f]) ≤ _
          rw [tsz_app]
          simp [tsz, strip, fsz]
      obtain ⟨⟨e3, h3, h4⟩, h5⟩ := c7 (fun g hg => ha g (List.mem_cons_of_mem _ hg)) (by omega)
      refine ⟨⟨e1 ++ e3, by rw [h3, h1, List.append_assoc], by simp only [List.length_append]; omega⟩, fun g hg => ?_⟩
      rcases List.mem_cons.1 hg with rfl | hg
      · exact found_mono h2.2.1 h3
      · exact h5 g hg
    · obtain ⟨hf2, hfo⟩ := ha f (List.mem_cons_self ..)
      obtain ⟨rfl, h1⟩ := k6 hf2 hfo hb2
      obtain ⟨rfl, h2⟩ := c8 (fun g hg => ha g (List.mem_cons_of_mem _ hg)) hb2
      exact ⟨rfl, by simp only [List.length_append]; omega⟩
theorem nil_ok {m : Int} (h : 0 ≤ m ∧ m ≤ 4096) (told : Bool) (l : Int) (hl : 0 ≤ l ∧ l ≤ 4096) : Eok (⟨tb [] m, told, l, m⟩ : S61) ∧ plain (tb [] m) :=
  ⟨⟨tb_ok (by simp only [tsz]; omega) (by omega), by show m ≤ 4096; omega, hl, h⟩, fun x hx => by cases hx⟩
theorem newe_f (p0 : Int) (h0 : 0 ≤ p0 ∧ p0 < 4294967296) : hpack_NewEncoder.f p0 = some (⟨tb [] (min p0 4096), true, 0, min p0 4096⟩ : S61) := by
  unfold hpack_NewEncoder.f dyntable_New.f
  rw [mn_eq, wi64 (by omega) (by omega)]
  rfl
theorem told_e (p : S61) (l : List S52) (hl : l.length ≤ 9000) (hs : ∀ f ∈ l, small f) (hq : qsum l ≤ 90000) (h : Eok p) (hp : plain p.f0) (ht : p.f1 = true) (k : Nat) (hk : l.length + 134300000 < k) :
    ∃ Y t', hpack_Encoder_Put.f k p l = some (Y, (⟨t', true, p.f2, p.f3⟩ : S61)) ∧ byts Y ∧ (Y.length : Int) ≤ qsum l ∧ Tok t' ∧ plain t' ∧ t'.f2 = p.f0.f2 ∧
      (∀ cap n out, Y.length ≤ n → gets cap n p.f0 out Y = some (t', out ++ l)) ∧
      ((∀ f ∈ l, f.f2 = false) → tsz p.f0.f0 + tsz l ≤ p.f0.f2 → (∃ e, t'.f0 = p.f0.f0 ++ e ∧ e.length ≤ l.length) ∧ ∀ f ∈ l, found t' f) ∧
      ((∀ f ∈ l, f.f2 = false ∧ found p.f0 f) → p.f0.f0.length ≤ 60 → t' = p.f0 ∧ Y.length = l.length) := by
  obtain ⟨Y, t', e, q⟩ := put_e l hl hs l.length k 0 (⟨p.f0, true, p.f2, p.f3⟩ : S61) [] (by omega) ⟨h.t, h.m, h.l, h.n⟩ hp (by simp only [List.drop_zero, List.length_nil]; omega) (by omega)
  simp only [List.drop_zero, List.nil_append] at e q
  unfold hpack_Encoder_Put.f
  rw [if_pos ht]
  exact ⟨Y, t', e, q⟩
theorem louverlaw06qHpackGreat_true (p0 : List UInt8) (p1 : Int) (h0 : okS p0) (h1 : okI .u16 p1) : ∃ k, louverlaw06qHpackGreat.f k p0 p1 = some true := by
  obtain ⟨K, hK⟩ : ∃ K : Nat, K = 300000100 := ⟨_, rfl⟩
  refine ⟨K, ?_⟩
  have h1' : 0 ≤ p1 ∧ p1 < 65536 := okI_u16.1 h1
  unfold louverlaw06qHpackGreat.f
  by_cases hc : (p0.length : Int) > 100
  · rw [if_pos hc, fixed_true K (by omega)]
    rfl
  · rw [if_neg hc, wi64 (x := 4064 - (p0.length : Int)) (by omega) (by omega), wi64 (x := 4064 - (p0.length : Int) - 50) (by omega) (by omega), wi64 (x := p1) (by omega) (by omega), Int.tmod_eq_emod_of_nonneg (by omega), wi64 (x := 4064 - (p0.length : Int) - 50 + p1 % 100) (by omega) (by omega)]
    obtain ⟨n, hn⟩ : ∃ n : Int, n = 4064 - (p0.length : Int) - 50 + p1 % 100 := ⟨_, rfl⟩
    rw [← hn, if_pos (by omega), if_pos (by omega)]
    simp only [lt1]
    have hlen : (toS (List.replicate n.toNat (0 : Int))).length = n.toNat := by rw [toS_len]; simp
    revert hlen
    generalize toS (List.replicate n.toNat (0 : Int)) = v
    intro hlen
    have e0 : hpack_NewEncoder.f 4096 = some (⟨tb [] 4096, true, 0, 4096⟩ : S61) := newe_f 4096 (by omega)
    have e00 : hpack_NewDecoder.f 4096 = some (⟨tb [] 4096, 4096⟩ : S64) := newd_f 4096 (by omega)
    obtain ⟨o1, o2⟩ := nil_ok (m := 4096) (by omega) true 0 (by omega)
    have hsm : ∀ f ∈ [(⟨p0, v, true⟩ : S52)], small f := fun f hf => by
      rw [List.mem_singleton.1 hf]
      unfold small
      dsimp only
      omega
    have hq : qsum [(⟨p0, v, true⟩ : S52)] ≤ 90000 := by simp only [qsum]; omega
    obtain ⟨Y, t1, e1, b1, c1, d1, d2, d3, d4, d5, _⟩ := told_e _ [(⟨p0, v, true⟩ : S52)] (by simp) hsm hq o1 o2 rfl K (by simp only [List.length_singleton]; omega)
    dsimp only at d3 d4 d5
    obtain ⟨d', e3, h3⟩ := get_f (⟨tb [] 4096, 4096⟩ : S64) Y (by dsimp only; omega) o1.t (by show (4096 : Int) ≤ 4096; omega) b1 (by omega) K (by omega)
    dsimp only at e3 h3
    have hg1 := d4 4096 Y.length [] (Nat.le_refl _)
    rw [List.nil_append] at hg1
    rw [hg1] at e3 h3
    have hgt : gt z52 [(⟨p0, v, true⟩ : S52)] (0 : Int) = ⟨p0, v, true⟩ := rfl
    have hfs : fsz (⟨p0, v, true⟩ : S52) = (p0.length : Int) + v.length + 32 := rfl
    have hts : tsz [(⟨p0, v, true⟩ : S52)] = fsz (⟨p0, v, true⟩ : S52) := by simp [tsz]
    rw [e00, e0]
    simp only [bnd1]
    rw [e1]
    simp only [bnd2]
    by_cases h4 : fsz (⟨p0, v, true⟩ : S52) > 4096
    · have hr : gres (some (t1, [(⟨p0, v, true⟩ : S52)])) = ([], 11) := by simp only [gres]; rw [if_pos (by rw [hts]; exact h4)]
      rw [hr] at e3
      rw [e3]
      simp only [bnd3]
      rw [if_pos (by simp), hgt, TX.rsize_f _ (by rw [hfs]; omega)]
      simp only
      rw [if_pos h4, fixed_true K (by omega)]
      rfl
    · have hr : gres (some (t1, [(⟨p0, v, true⟩ : S52)])) = ([(⟨p0, v, true⟩ : S52)], 0) := by simp only [gres]; rw [if_neg (by rw [hts]; exact h4)]
      rw [hr] at e3
      rw [e3]
      simp only [bnd3]
      rw [if_pos (by simp), hgt, TX.rsize_f _ (by rw [hfs]; omega)]
      simp only
      rw [if_neg h4, fixed_true K (by omega)]
      simp only
      rw [if_pos trivial, if_pos (by simp [flt]), same_f _ (by simp) K (by simp only [List.length_singleton]; omega)]
end Go.Proofs.YtinebjcfgmoniaaDoor.Sl
