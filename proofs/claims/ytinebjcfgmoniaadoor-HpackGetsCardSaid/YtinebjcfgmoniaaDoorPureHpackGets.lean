/- louverlaw06qHpackGets_true, plain: what the program's functions compute answers as the statement says. -/
import Derived.Test.YtinebjcfgmoniaaDoorCodeHpackGets4
import Derived.Test.YtinebjcfgmoniaaDoorSlP
import Derived.KernelRfl
set_option linter.unusedVariables false
set_option linter.unusedSimpArgs false
namespace Go.Proofs.YtinebjcfgmoniaaDoor.Sl
open Go Go.Proofs.Sl
theorem mn_eq (x y : Int) : mnI x y = min x y := by unfold mnI; split <;> omega
theorem gt_nat {α : Type} (z : α) (l : List α) (i : Nat) (h : i < l.length) : gt z l (i : Int) = l[i] := by simp [gt, List.getD_eq_getElem?_getD, h]
theorem drop_at' {α : Type} (z : α) (l : List α) (i : Nat) (h : i < l.length) : l.drop i = gt z l (i : Int) :: l.drop (i + 1) := by
  rw [List.drop_eq_getElem_cons h, gt_nat z l i h]
def r1 (name : List UInt8) : List S52 → Int → Int × Bool
  | [], i => (0, false)
  | x :: l, i => if x.f0 = name then (i + 1, false) else r1 name l (i + 1)
def fsz (f : S52) : Int := f.f0.length + f.f1.length + 32
def strip (f : S52) : S52 := ⟨f.f0, f.f1, false⟩
def tsz : List S52 → Int
  | [] => 0
  | x :: l => fsz x + tsz l
def okF (f : S52) : Prop := okS f.f0 ∧ okS f.f1 ∧ okB f.f2
theorem fsz_lo (f : S52) : 32 ≤ fsz f := by unfold fsz; omega
theorem fsz_hi {f : S52} (h : okF f) : fsz f ≤ 281474976702496 := by
  have h1 : f.f0.length ≤ 140737488351232 := h.1
  have h2 : f.f1.length ≤ 140737488351232 := h.2.1
  unfold fsz
  omega
theorem tsz_lo : ∀ l, 32 * (l.length : Int) ≤ tsz l
  | [] => by simp [tsz]
  | x :: l => by have := tsz_lo l; have := fsz_lo x; simp only [tsz, List.length_cons]; omega
theorem tsz_app (a b : List S52) : tsz (a ++ b) = tsz a + tsz b := by
  induction a with
  | nil => simp [tsz]
  | cons x a ih => simp only [List.cons_append, tsz, ih]; omega
theorem tsz_rev (a : List S52) : tsz a.reverse = tsz a := by
  induction a with
  | nil => rfl
  | cons x a ih => rw [List.reverse_cons, tsz_app, ih]; simp only [tsz]; omega
/-- What is kept within a room: the oldest go first. -/
def keep : List S52 → Int → List S52
  | [], _ => []
  | x :: l, lim => if tsz (x :: l) > lim then keep l lim else x :: l
theorem keep_suf : ∀ (l : List S52) (lim : Int), keep l lim <:+ l
  | [], _ => List.suffix_refl _
  | x :: l, lim => by
    unfold keep
    split
    · exact (keep_suf l lim).trans (List.suffix_cons x l)
    · exact List.suffix_refl _
theorem keep_le : ∀ (l : List S52) (lim : Int), tsz (keep l lim) ≤ lim ∨ keep l lim = []
  | [], _ => .inr rfl
  | x :: l, lim => by
    unfold keep
    split
    · exact keep_le l lim
    · exact .inl (by omega)
theorem keep_all {l : List S52} {lim : Int} (h : tsz l ≤ lim) : keep l lim = l := by
  cases l with
  | nil => rfl
  | cons x l => unfold keep; rw [if_neg (by omega)]
theorem keep_none : ∀ (l : List S52) {lim : Int}, lim < 32 → keep l lim = []
  | [], _, _ => rfl
  | x :: l, lim, h => by
    unfold keep
    have h1 := tsz_lo (x :: l)
    simp only [List.length_cons] at h1
    rw [if_pos (by omega)]
    exact keep_none l h
theorem suf_len {a l : List S52} (h : a <:+ l) : tsz a ≤ tsz l := by
  obtain ⟨p, rfl⟩ := h
  rw [tsz_app]
  have := tsz_lo p
  omega
theorem size_f (f : S52) (h : fsz f < 4611686018427387904) : dyntable_Size.f f = some (fsz f) := by
  have := fsz_lo f
  unfold fsz at h this
  unfold dyntable_Size.f fsz
  rw [wi64 (by rw [wi64] <;> omega) (by rw [wi64] <;> omega), wi64 (by omega) (by omega)]
theorem del_f (l : List S52) (j : Nat) (h : j ≤ l.length) : api_Field.f l 0 (j : Int) = some (l.drop j) := by
  unfold api_Field.f
  rw [if_pos (by omega), if_pos (by omega), if_pos (by omega)]
  by_cases h0 : (0 : Int) = (j : Int)
  · rw [if_pos h0]
    have : j = 0 := by omega
    subst this
    rfl
  · rw [if_neg h0]
    simp
theorem eta (f : S52) : (⟨f.f0, f.f1, f.f2⟩ : S52) = f := rfl
theorem within_l0 (l : List S52) (most room : Int) (hr : -4611686018427387904 < most - room ∧ most - room < 4611686018427387904) (ht : tsz l < 4611686018427387904) : ∀ (m k j : Nat), j + m = l.length → m < k →
    dyntable_Table_within.l0 k (⟨l, tsz (l.drop j), most⟩ : S79) j room = some (⟨keep (l.drop j) (most - room), tsz (keep (l.drop j) (most - room)), most⟩ : S79) := by
  intro m
  induction m with
  | zero =>
    intro k j hj hk
    obtain ⟨k, rfl⟩ : ∃ k', k = k' + 1 := ⟨k - 1, by omega⟩
    rw [dyntable_Table_within.l0, if_neg (by dsimp only; omega), del_f _ _ (by dsimp only; omega)]
    simp only [bnd1]
    rw [List.drop_eq_nil_of_le (by omega)]
    rfl
  | succ m ih =>
    intro k j hj hk
    obtain ⟨k, rfl⟩ : ∃ k', k = k' + 1 := ⟨k - 1, by omega⟩
    have hd := drop_at' z52 l j (by omega)
    have h1 : tsz (l.drop j) = fsz (gt z52 l (j : Int)) + tsz (l.drop (j + 1)) := by rw [hd]; rfl
    have h2 := suf_len (List.drop_suffix j l)
    have h0 := tsz_lo l
    have h3 := tsz_lo (l.drop (j + 1))
    have h4 := fsz_lo (gt z52 l (j : Int))
    rw [dyntable_Table_within.l0, if_pos (by dsimp only; omega)]
    simp only
    rw [wi64 (by omega) (by omega), eta, size_f _ (by omega), del_f _ _ (by omega)]
    simp only [bnd1]
    by_cases hc : tsz (l.drop j) > most - room
    · rw [if_pos hc, if_pos (by omega), wi64 (by omega) (by omega), wi64 (by omega) (by omega)]
      have e1 : tsz (l.drop j) - fsz (gt z52 l (j : Int)) = tsz (l.drop (j + 1)) := by omega
      rw [e1, show (j : Int) + 1 = ((j + 1 : Nat) : Int) by omega, ih k (j + 1) (by omega) (by omega)]
      have e2 : keep (l.drop j) (most - room) = keep (l.drop (j + 1)) (most - room) := by
        rw [hd, keep, if_pos (by rw [← hd]; exact hc)]
      rw [e2]
    · rw [if_neg hc, keep_all (by omega)]
structure Tok (t : S79) : Prop where
  sz : t.f1 = tsz t.f0
  le : t.f1 ≤ t.f2
  mo : 0 ≤ t.f2 ∧ t.f2 < 4294967296
theorem Tok.len {t : S79} (h : Tok t) : t.f0.length ≤ 134217728 := by
  have := tsz_lo t.f0
  have := h.sz
  have := h.le
  have := h.mo
  omega
theorem within_f (t : S79) (room : Int) (hs : t.f1 = tsz t.f0) (hr : -4611686018427387904 < t.f2 - room ∧ t.f2 - room < 4611686018427387904) (ht : tsz t.f0 < 4611686018427387904) (k : Nat) (hk : t.f0.length < k) :
    dyntable_Table_within.f k t room = some (⟨keep t.f0 (t.f2 - room), tsz (keep t.f0 (t.f2 - room)), t.f2⟩ : S79) := by
  obtain ⟨l, s, most⟩ := t
  simp only at hs hr ht hk ⊢
  subst hs
  have := within_l0 l most room hr ht l.length k 0 (by omega) hk
  simpa [dyntable_Table_within.f] using this
def addL (l : List S52) (most : Int) (f : S52) : List S52 := if fsz f > most then [] else keep l (most - fsz f) ++ [strip f]
def tb (l : List S52) (most : Int) : S79 := ⟨l, tsz l, most⟩
theorem addL_le (l : List S52) {most : Int} (f : S52) (hm : 0 ≤ most) : tsz (addL l most f) ≤ most := by
  unfold addL
  split
  · simp [tsz]; exact hm
  · rename_i h
    rw [tsz_app]
    have e : tsz [strip f] = fsz f := by simp [tsz, strip, fsz]
    rw [e]
    rcases keep_le l (most - fsz f) with h2 | h2
    · omega
    · rw [h2]
      simp only [tsz]
      omega
theorem tb_ok {l : List S52} {most : Int} (h : tsz l ≤ most) (hm : 0 ≤ most ∧ most < 4294967296) : Tok (tb l most) := ⟨rfl, h, hm⟩
theorem add_f (t : S79) (f : S52) (h : Tok t) (hf : okF f) (k : Nat) (hk : 134217728 < k) : dyntable_Table_Add.f k t f = some (tb (addL t.f0 t.f2 f) t.f2) := by
  have h1 := fsz_hi hf
  have h2 := fsz_lo f
  have h3 := tsz_lo t.f0
  obtain ⟨a, b, c⟩ := id h
  unfold dyntable_Table_Add.f
  rw [eta, size_f f (by omega)]
  simp only [bnd1]
  rw [within_f t (fsz f) a (by omega) (by omega) k (by have := h.len; omega)]
  simp only [bnd1, lt1]
  unfold addL
  by_cases hc : fsz f > t.f2
  · rw [if_pos hc, if_pos hc, keep_none _ (by omega)]
    rfl
  · have h5 := keep_le t.f0 (t.f2 - fsz f)
    have h6 := tsz_lo (keep t.f0 (t.f2 - fsz f))
    have h7 : tsz (keep t.f0 (t.f2 - fsz f)) ≤ t.f2 - fsz f := by
      rcases h5 with h5 | h5
      · exact h5
      · rw [h5]
        simp only [tsz]
        omega
    rw [if_neg hc, if_neg hc, if_pos (by omega), wi64 (by omega) (by omega)]
    unfold tb
    rw [tsz_app]
    have e : tsz [strip f] = fsz f := by simp [tsz, strip, fsz]
    rw [e]
    rfl
theorem limit_f (t : S79) (m : Int) (h : Tok t) (hm : 0 ≤ m ∧ m < 4294967296) (k : Nat) (hk : 134217728 < k) : dyntable_Table_Limit.f k t m = some (tb (keep t.f0 m) m) := by
  obtain ⟨a, b, c⟩ := id h
  have h3 := tsz_lo t.f0
  unfold dyntable_Table_Limit.f
  rw [wi64 (by omega) (by omega), within_f (⟨t.f0, t.f1, m⟩ : S79) 0 a (by dsimp only; omega) (by dsimp only; omega) k (by have := h.len; dsimp only; omega)]
  simp only [bnd1, Int.sub_zero]
  rfl
theorem keep_le0 (l : List S52) {m : Int} (hm : 0 ≤ m) : tsz (keep l m) ≤ m := by
  rcases keep_le l m with h | h
  · exact h
  · rw [h]
    simp only [tsz]
    exact hm
/-! numbers and fields -/
theorem gt_rev (l : List S52) (i : Nat) (h : i < l.length) : gt z52 l.reverse (i : Int) = gt z52 l ((l.length - 1 - i : Nat) : Int) := by
  rw [gt_nat z52 _ i (by simpa using h), gt_nat z52 l (l.length - 1 - i) (by omega), List.getElem_reverse]
/-! finding -/
def CODES : List S116 := [⟨8184, 13⟩, ⟨8388568, 23⟩, ⟨268435426, 28⟩, ⟨268435427, 28⟩, ⟨268435428, 28⟩, ⟨268435429, 28⟩, ⟨268435430, 28⟩, ⟨268435431, 28⟩, ⟨268435432, 28⟩,
  ⟨16777194, 24⟩, ⟨1073741820, 30⟩, ⟨268435433, 28⟩, ⟨268435434, 28⟩, ⟨1073741821, 30⟩, ⟨268435435, 28⟩, ⟨268435436, 28⟩, ⟨268435437, 28⟩, ⟨268435438,
  28⟩, ⟨268435439, 28⟩, ⟨268435440, 28⟩, ⟨268435441, 28⟩, ⟨268435442, 28⟩, ⟨1073741822, 30⟩, ⟨268435443, 28⟩, ⟨268435444, 28⟩, ⟨268435445, 28⟩,
  ⟨268435446, 28⟩, ⟨268435447, 28⟩, ⟨268435448, 28⟩, ⟨268435449, 28⟩, ⟨268435450, 28⟩, ⟨268435451, 28⟩, ⟨20, 6⟩, ⟨1016, 10⟩, ⟨1017, 10⟩, ⟨4090, 12⟩,
  ⟨8185, 13⟩, ⟨21, 6⟩, ⟨248, 8⟩, ⟨2042, 11⟩, ⟨1018, 10⟩, ⟨1019, 10⟩, ⟨249, 8⟩, ⟨2043, 11⟩, ⟨250, 8⟩, ⟨22, 6⟩, ⟨23, 6⟩, ⟨24, 6⟩, ⟨0, 5⟩, ⟨1, 5⟩, ⟨2, 5⟩,
  ⟨25, 6⟩, ⟨26, 6⟩, ⟨27, 6⟩, ⟨28, 6⟩, ⟨29, 6⟩, ⟨30, 6⟩, ⟨31, 6⟩, ⟨92, 7⟩, ⟨251, 8⟩, ⟨32764, 15⟩, ⟨32, 6⟩, ⟨4091, 12⟩, ⟨1020, 10⟩, ⟨8186, 13⟩, ⟨33, 6⟩,
  ⟨93, 7⟩, ⟨94, 7⟩, ⟨95, 7⟩, ⟨96, 7⟩, ⟨97, 7⟩, ⟨98, 7⟩, ⟨99, 7⟩, ⟨100, 7⟩, ⟨101, 7⟩, ⟨102, 7⟩, ⟨103, 7⟩, ⟨104, 7⟩, ⟨105, 7⟩, ⟨106, 7⟩, ⟨107, 7⟩, ⟨108,
  7⟩, ⟨109, 7⟩, ⟨110, 7⟩, ⟨111, 7⟩, ⟨112, 7⟩, ⟨113, 7⟩, ⟨114, 7⟩, ⟨252, 8⟩, ⟨115, 7⟩, ⟨253, 8⟩, ⟨8187, 13⟩, ⟨524272, 19⟩, ⟨8188, 13⟩, ⟨16380, 14⟩, ⟨34,
  6⟩, ⟨32765, 15⟩, ⟨3, 5⟩, ⟨35, 6⟩, ⟨4, 5⟩, ⟨36, 6⟩, ⟨5, 5⟩, ⟨37, 6⟩, ⟨38, 6⟩, ⟨39, 6⟩, ⟨6, 5⟩, ⟨116, 7⟩, ⟨117, 7⟩, ⟨40, 6⟩, ⟨41, 6⟩, ⟨42, 6⟩, ⟨7, 5⟩,
  ⟨43, 6⟩, ⟨118, 7⟩, ⟨44, 6⟩, ⟨8, 5⟩, ⟨9, 5⟩, ⟨45, 6⟩, ⟨119, 7⟩, ⟨120, 7⟩, ⟨121, 7⟩, ⟨122, 7⟩, ⟨123, 7⟩, ⟨32766, 15⟩, ⟨2044, 11⟩, ⟨16381, 14⟩, ⟨8189,
  13⟩, ⟨268435452, 28⟩, ⟨1048550, 20⟩, ⟨4194258, 22⟩, ⟨1048551, 20⟩, ⟨1048552, 20⟩, ⟨4194259, 22⟩, ⟨4194260, 22⟩, ⟨4194261, 22⟩, ⟨8388569, 23⟩,
  ⟨4194262, 22⟩, ⟨8388570, 23⟩, ⟨8388571, 23⟩, ⟨8388572, 23⟩, ⟨8388573, 23⟩, ⟨8388574, 23⟩, ⟨16777195, 24⟩, ⟨8388575, 23⟩, ⟨16777196, 24⟩, ⟨16777197,
  24⟩, ⟨4194263, 22⟩, ⟨8388576, 23⟩, ⟨16777198, 24⟩, ⟨8388577, 23⟩, ⟨8388578, 23⟩, ⟨8388579, 23⟩, ⟨8388580, 23⟩, ⟨2097116, 21⟩, ⟨4194264, 22⟩, ⟨8388581,
  23⟩, ⟨4194265, 22⟩, ⟨8388582, 23⟩, ⟨8388583, 23⟩, ⟨16777199, 24⟩, ⟨4194266, 22⟩, ⟨2097117, 21⟩, ⟨1048553, 20⟩, ⟨4194267, 22⟩, ⟨4194268, 22⟩, ⟨8388584,
  23⟩, ⟨8388585, 23⟩, ⟨2097118, 21⟩, ⟨8388586, 23⟩, ⟨4194269, 22⟩, ⟨4194270, 22⟩, ⟨16777200, 24⟩, ⟨2097119, 21⟩, ⟨4194271, 22⟩, ⟨8388587, 23⟩, ⟨8388588,
  23⟩, ⟨2097120, 21⟩, ⟨2097121, 21⟩, ⟨4194272, 22⟩, ⟨2097122, 21⟩, ⟨8388589, 23⟩, ⟨4194273, 22⟩, ⟨8388590, 23⟩, ⟨8388591, 23⟩, ⟨1048554, 20⟩, ⟨4194274,
  22⟩, ⟨4194275, 22⟩, ⟨4194276, 22⟩, ⟨8388592, 23⟩, ⟨4194277, 22⟩, ⟨4194278, 22⟩, ⟨8388593, 23⟩, ⟨67108832, 26⟩, ⟨67108833, 26⟩, ⟨1048555, 20⟩, ⟨524273,
  19⟩, ⟨4194279, 22⟩, ⟨8388594, 23⟩, ⟨4194280, 22⟩, ⟨33554412, 25⟩, ⟨67108834, 26⟩, ⟨67108835, 26⟩, ⟨67108836, 26⟩, ⟨134217694, 27⟩, ⟨134217695, 27⟩,
  ⟨67108837, 26⟩, ⟨16777201, 24⟩, ⟨33554413, 25⟩, ⟨524274, 19⟩, ⟨2097123, 21⟩, ⟨67108838, 26⟩, ⟨134217696, 27⟩, ⟨134217697, 27⟩, ⟨67108839, 26⟩,
  ⟨134217698, 27⟩, ⟨16777202, 24⟩, ⟨2097124, 21⟩, ⟨2097125, 21⟩, ⟨67108840, 26⟩, ⟨67108841, 26⟩, ⟨268435453, 28⟩, ⟨134217699, 27⟩, ⟨134217700, 27⟩,
  ⟨134217701, 27⟩, ⟨1048556, 20⟩, ⟨16777203, 24⟩, ⟨1048557, 20⟩, ⟨2097126, 21⟩, ⟨4194281, 22⟩, ⟨2097127, 21⟩, ⟨2097128, 21⟩, ⟨8388595, 23⟩, ⟨4194282,
  22⟩, ⟨4194283, 22⟩, ⟨33554414, 25⟩, ⟨33554415, 25⟩, ⟨16777204, 24⟩, ⟨16777205, 24⟩, ⟨67108842, 26⟩, ⟨8388596, 23⟩, ⟨67108843, 26⟩, ⟨134217702, 27⟩,
  ⟨67108844, 26⟩, ⟨67108845, 26⟩, ⟨134217703, 27⟩, ⟨134217704, 27⟩, ⟨134217705, 27⟩, ⟨134217706, 27⟩, ⟨134217707, 27⟩, ⟨268435454, 28⟩, ⟨134217708, 27⟩,
  ⟨134217709, 27⟩, ⟨134217710, 27⟩, ⟨134217711, 27⟩, ⟨134217712, 27⟩, ⟨67108846, 26⟩, ⟨1073741823, 30⟩]
theorem codes_f (k : Nat) : huffman_codes.f (k + 7800) = some CODES := by kernel_rfl
theorem codes_at (k : Nat) (hk : 7800 ≤ k) : huffman_codes.f k = some CODES := by
  obtain ⟨k, rfl⟩ : ∃ k', k = k' + 7800 := ⟨k - 7800, by omega⟩
  exact codes_f k
/-! sizes -/
theorem all_sizes : ((List.range 256).all fun i => decide (5 ≤ gt (0 : Int) G1 (i : Int)) && decide (gt (0 : Int) G1 (i : Int) ≤ 30)) = true := by kernel_rfl
def szc (c : UInt8) : Int := gt (0 : Int) G1 (c.toNat : Int)
theorem szc_bd (c : UInt8) : 5 ≤ szc c ∧ szc c ≤ 30 := by
  have := List.all_eq_true.1 all_sizes c.toNat (by simpa using c.toNat_lt)
  simpa [szc] using this
def bits : List UInt8 → Int
  | [] => 0
  | c :: l => szc c + bits l
theorem size_l0 (s : List UInt8) (hs : s.length ≤ 100000000000000) : ∀ (m k i : Nat) (n : Int), i + m = s.length → m < k → 0 ≤ n → n ≤ 30 * (i : Int) → huffman_Size.l0 k n i s = some ((n + bits (s.drop i) + 7) / 8) := by
  intro m
  induction m with
  | zero =>
    intro k i n hi hk h0 h1
    obtain ⟨k, rfl⟩ : ∃ k', k = k' + 1 := ⟨k - 1, by omega⟩
    rw [huffman_Size.l0, if_neg (by omega), List.drop_eq_nil_of_le (by omega)]
    simp only [bits]
    rw [wi64 (x := n + 7) (by omega) (by omega), Int.tdiv_eq_ediv_of_nonneg (by omega), wi64 (by omega) (by omega), Int.add_zero]
  | succ m ih =>
    intro k i n hi hk h0 h1
    obtain ⟨k, rfl⟩ : ∃ k', k = k' + 1 := ⟨k - 1, by omega⟩
    have hlt : i < s.length := by omega
    have eb : btI s (i : Int) = ((s[i]).toNat : Int) := by simp [btI, List.getD_eq_getElem?_getD, hlt]
    have hu := (s[i]).toNat_lt
    have hz := szc_bd s[i]
    rw [huffman_Size.l0, if_pos (by omega), if_pos (by omega), eb, if_pos (by omega), if_pos (by omega)]
    have e1 : gt (0 : Int) G1 ((s[i]).toNat : Int) = szc s[i] := rfl
    rw [e1, wi64 (x := szc s[i]) (by omega) (by omega), wi64 (by omega) (by omega), wi64 (by omega) (by omega), show (i : Int) + 1 = ((i + 1 : Nat) : Int) by omega, ih k (i + 1) _ (by omega) (by omega) (by omega) (by omega)]
    rw [List.drop_eq_getElem_cons hlt, bits]
    congr 2
    omega
theorem fixed_f (k : Nat) : louverlaw06qfixed.f (k + 300) = some true := by kernel_rfl
theorem fixed_true (k : Nat) (hk : 300 ≤ k) : louverlaw06qfixed.f k = some true := by
  obtain ⟨k, rfl⟩ : ∃ k', k = k' + 300 := ⟨k - 300, by omega⟩
  exact fixed_f k
namespace PX
def byts (l : List Int) : Prop := ∀ x ∈ l, 0 ≤ x ∧ x < 256
def vi : Nat → Int → List Int
  | 0, x => [x]
  | m + 1, x => if x > 127 then (x % 128 + 128) :: vi m (x / 128) else [x]
def dv : Nat → Int → List Int → Int × Int × Int
  | _, _, [] => (0, 0, 2)
  | i, acc, t :: r => if i = 4 then (0, 0, 4) else if t < 128 then (if acc + t % 128 * 128 ^ i > 268435456 then (0, 0, 4) else (acc + t % 128 * 128 ^ i, i + 2, 0)) else dv (i + 1) (acc + t % 128 * 128 ^ i) r
theorem and127 {t : Int} (h0 : 0 ≤ t) (h1 : t < 256) : bAnd .u8 t 127 = t % 128 := bAnd_mask .u8 rfl 7 (by decide) h0 h1
theorem drop_cons {l : List Int} {i : Nat} (h : i < l.length) : l.drop i = gt 0 l i :: l.drop (i + 1) := by
  rw [List.drop_eq_getElem_cons h]
  simp [gt, List.getD_eq_getElem?_getD, List.getElem?_eq_getElem h]
theorem gt_mem {l : List Int} {i : Nat} (h : i < l.length) : gt 0 l (i : Int) ∈ l := by
  simp [gt, List.getD_eq_getElem?_getD, List.getElem?_eq_getElem h]
theorem get_l0 : ∀ (k i : Nat) (acc : Int) (p0 : List Int), byts p0 → i ≤ 4 → 4 - i < k → 0 ≤ acc → acc < 128 ^ i * 256 → prefix_Get.l0 k acc i p0 = some (dv i acc ((p0.drop 1).drop i)) := by
  intro k
  induction k with
  | zero => intro i acc p0 _ _ h; omega
  | succ k ih =>
    intro i acc p0 hb hi hk h0 ha
    have e1 : ((1 : Int).toNat) = 1 := rfl
    rw [prefix_Get.l0, e1]
    by_cases hl : (i : Int) < ((p0.drop 1).length : Int)
    · rw [if_pos hl, if_pos (show (0 : Int) ≤ i by omega)]
      have hl' : i < (p0.drop 1).length := by omega
      rw [drop_cons hl', dv]
      generalize ht : gt 0 (p0.drop 1) (i : Int) = t
      have htb : 0 ≤ t ∧ t < 256 := hb t (List.mem_of_mem_drop (ht ▸ gt_mem hl'))
      by_cases h4 : i = 4
      · rw [if_pos (by omega), if_pos h4]
      · rw [if_neg (by omega), if_neg h4]
        have e7 : IntKind.i64.wrap (7 * (i : Int)) = 7 * (i : Int) := wi64 (by omega) (by omega)
        have hs : shlI .u64 (IntKind.u64.wrap (bAnd .u8 t 127)) (7 * (i : Int)) = t % 128 * 128 ^ i := by
          rw [and127 htb.1 htb.2, wu64 (by omega) (by omega)]
          have : i = 0 ∨ i = 1 ∨ i = 2 ∨ i = 3 := by omega
          rcases this with rfl | rfl | rfl | rfl <;> rw [shlI_eq .u64 rfl (by decide) (by omega) (by simp [IntKind.bits]; omega)] <;> rfl
        rw [e7, hs]
        have hw : IntKind.u64.wrap (acc + t % 128 * 128 ^ i) = acc + t % 128 * 128 ^ i := by
          have : i = 0 ∨ i = 1 ∨ i = 2 ∨ i = 3 := by omega
          rcases this with rfl | rfl | rfl | rfl <;> simp at ha ⊢ <;> refine wu64 ?_ ?_ <;> omega
        rw [hw, if_pos (show (0 : Int) ≤ 7 * (i : Int) by omega)]
        have hn : acc + t % 128 * 128 ^ i < 128 ^ (i + 1) * 256 ∧ 0 ≤ acc + t % 128 * 128 ^ i := by
          have : i = 0 ∨ i = 1 ∨ i = 2 ∨ i = 3 := by omega
          rcases this with rfl | rfl | rfl | rfl <;> simp at ha ⊢ <;> omega
        by_cases hc : t < 128
        · rw [if_pos hc, if_pos hc]
          split
          · rfl
          · rw [wu32 hn.2 (by omega), wi64 (by omega) (by omega)]
        · rw [if_neg hc, if_neg hc, wi64 (by omega) (by omega)]
          exact ih (i + 1) _ p0 hb (by omega) (by omega) hn.2 hn.1
    · rw [if_neg hl, List.drop_eq_nil_of_le (by omega)]
      rfl
theorem rget_l0 : ∀ (k i : Nat) (acc : Int) (p0 : List Int), byts p0 → i ≤ 4 → 4 - i < k → 0 ≤ acc → acc < 128 ^ i * 256 → louverref02qGet.l0 k acc (128 ^ i) (i + 1) p0 = some (dv i acc ((p0.drop 1).drop i)) := by
  intro k
  induction k with
  | zero => intro i acc p0 _ _ h; omega
  | succ k ih =>
    intro i acc p0 hb hi hk h0 ha
    rw [louverref02qGet.l0]
    rw [List.drop_drop]
    by_cases hl : (i : Int) + 1 < (p0.length : Int)
    · rw [if_pos hl]
      have hl' : 1 + i < p0.length := by omega
      have ei : ((1 + i : Nat) : Int) = (i : Int) + 1 := by omega
      rw [drop_cons hl', dv, ei]
      generalize ht : gt 0 p0 ((i : Int) + 1) = t
      have htb : 0 ≤ t ∧ t < 256 := hb t (by rw [← ht, ← ei]; exact gt_mem hl')
      by_cases h4 : i = 4
      · rw [if_pos (by omega), if_pos h4]
      · rw [if_neg (by omega), if_neg h4, if_pos (show (0 : Int) ≤ (i : Int) + 1 by omega)]
        have hs : IntKind.u64.wrap (Int.tmod (IntKind.u64.wrap t) 128 * 128 ^ i) = t % 128 * 128 ^ i := by
          rw [wu64 htb.1 (by omega), Int.tmod_eq_emod_of_nonneg htb.1]
          have : i = 0 ∨ i = 1 ∨ i = 2 ∨ i = 3 := by omega
          rcases this with rfl | rfl | rfl | rfl <;> simp <;> refine wu64 ?_ ?_ <;> omega
        rw [hs]
        have hw : IntKind.u64.wrap (acc + t % 128 * 128 ^ i) = acc + t % 128 * 128 ^ i := by
          have : i = 0 ∨ i = 1 ∨ i = 2 ∨ i = 3 := by omega
          rcases this with rfl | rfl | rfl | rfl <;> simp at ha ⊢ <;> refine wu64 ?_ ?_ <;> omega
        rw [hw]
        have hn : acc + t % 128 * 128 ^ i < 128 ^ (i + 1) * 256 ∧ 0 ≤ acc + t % 128 * 128 ^ i := by
          have : i = 0 ∨ i = 1 ∨ i = 2 ∨ i = 3 := by omega
          rcases this with rfl | rfl | rfl | rfl <;> simp at ha ⊢ <;> omega
        by_cases hc : t < 128
        · rw [if_pos hc, if_pos hc]
          split
          · rfl
          · rw [wu32 hn.2 (by omega), wi64 (by omega) (by omega)]
            simp
            omega
        · rw [if_neg hc, if_neg hc, wi64 (by omega) (by omega)]
          have hm : IntKind.u64.wrap ((128 : Int) ^ i * 128) = 128 ^ (i + 1) := by
            have : i = 0 ∨ i = 1 ∨ i = 2 ∨ i = 3 := by omega
            rcases this with rfl | rfl | rfl | rfl <;> rfl
          rw [hm]
          have := ih (i + 1) _ p0 hb (by omega) (by omega) hn.2 hn.1
          rw [List.drop_drop] at this
          have e9 : ((i + 1 : Nat) : Int) + 1 = (i : Int) + 1 + 1 := by omega
          rw [e9, show 1 + (i + 1) = 1 + i + 1 by omega] at this
          exact this
    · rw [if_neg hl, List.drop_eq_nil_of_le (by omega)]
      rfl
def tp (n : Int) : Int := 2 ^ n.toNat
def low (n b v : Int) : Int := b / tp n * tp n + v
def pre (n b v : Int) : List Int := if v < tp n - 1 then [low n b v] else low n b (tp n - 1) :: vi 3 (v - (tp n - 1))
theorem tp_cases {n : Int} (h1 : 1 ≤ n) (h2 : n ≤ 8) : (n = 1 ∧ tp n = 2) ∨ (n = 2 ∧ tp n = 4) ∨ (n = 3 ∧ tp n = 8) ∨ (n = 4 ∧ tp n = 16) ∨ (n = 5 ∧ tp n = 32) ∨ (n = 6 ∧ tp n = 64) ∨ (n = 7 ∧ tp n = 128) ∨ (n = 8 ∧ tp n = 256) := by
  have : n = 1 ∨ n = 2 ∨ n = 3 ∨ n = 4 ∨ n = 5 ∨ n = 6 ∨ n = 7 ∨ n = 8 := by omega
  rcases this with rfl | rfl | rfl | rfl | rfl | rfl | rfl | rfl <;> simp [tp]
theorem tp_bd {n : Int} (h1 : 1 ≤ n) (h2 : n ≤ 8) : 2 ≤ tp n ∧ tp n ≤ 256 := by
  rcases tp_cases h1 h2 with h | h | h | h | h | h | h | h <;> omega
theorem top_eq {n : Int} (h1 : 1 ≤ n) (h2 : n ≤ 8) : IntKind.u32.wrap (shlI .u32 1 n - 1) = tp n - 1 := by
  rcases tp_cases h1 h2 with ⟨rfl, h⟩ | ⟨rfl, h⟩ | ⟨rfl, h⟩ | ⟨rfl, h⟩ | ⟨rfl, h⟩ | ⟨rfl, h⟩ | ⟨rfl, h⟩ | ⟨rfl, h⟩ <;> rfl
theorem right_f (n : Int) : prefix_right.f n = some (decide (1 ≤ n ∧ n ≤ 8)) := by
  unfold prefix_right.f
  split
  · congr 1
    simp
    omega
  · congr 1
    simp
    omega
theorem rtop_f {n : Int} (k : Nat) (h1 : 1 ≤ n) (h2 : n ≤ 8) : louverref02qtop.f (k + 9) n = some (tp n - 1) := by
  have : n = 1 ∨ n = 2 ∨ n = 3 ∨ n = 4 ∨ n = 5 ∨ n = 6 ∨ n = 7 ∨ n = 8 := by omega
  rcases this with rfl | rfl | rfl | rfl | rfl | rfl | rfl | rfl <;> rfl
def gd (p : List Int) (n : Int) : Int × Int × Int := match p with
  | [] => (0, 0, 2)
  | t :: r => if t % tp n < tp n - 1 then (t % tp n, 1, 0) else dv 0 (t % tp n) r
theorem get_f {p : List Int} {n : Int} (k : Nat) (hb : byts p) (h1 : 1 ≤ n) (h2 : n ≤ 8) : prefix_Get.f (k + 6) p n = some (gd p n) := by
  have ht := tp_bd h1 h2
  unfold prefix_Get.f
  rw [right_f]
  simp only [bnd1]
  rw [if_pos (by simp; omega)]
  cases p with
  | nil => rfl
  | cons t r =>
    have htb := hb t List.mem_cons_self
    have e0 : gt (0 : Int) (t :: r) (0 : Int) = t := rfl
    have ea : bAnd .u64 (IntKind.u64.wrap t) (IntKind.u64.wrap (tp n - 1)) = t % tp n := by
      rw [wu64 htb.1 (by omega), wu64 (by omega) (by omega)]
      exact bAnd_mask .u64 rfl n.toNat (by simp [IntKind.bits]; omega) htb.1 (by simp [IntKind.bits]; omega)
    have eb : IntKind.u64.wrap (tp n - 1) = tp n - 1 := wu64 (by omega) (by omega)
    have hm : 0 ≤ t % tp n ∧ t % tp n < tp n := ⟨Int.emod_nonneg _ (by omega), Int.emod_lt_of_pos _ (by omega)⟩
    rw [if_neg (by simp <;> omega), if_pos (by omega), if_pos (by simp <;> omega), e0, top_eq h1 h2, ea, eb]
    rw [show gd (t :: r) n = if t % tp n < tp n - 1 then (t % tp n, 1, 0) else dv 0 (t % tp n) r from rfl]
    by_cases hc : t % tp n < tp n - 1
    · rw [if_pos hc, if_pos hc, wu32 hm.1 (by omega)]
    · rw [if_neg hc, if_neg hc, if_pos (by simp <;> omega)]
      have := get_l0 (k + 6) 0 (t % tp n) (t :: r) hb (by omega) (by omega) hm.1 (by simp; omega)
      simpa using this
theorem rget_f {p : List Int} {n : Int} (k : Nat) (hb : byts p) (h1 : 1 ≤ n) (h2 : n ≤ 8) : louverref02qGet.f (k + 9) p n = some (gd p n) := by
  have ht := tp_bd h1 h2
  unfold louverref02qGet.f
  rw [if_neg (by omega), if_neg (by omega), rtop_f k h1 h2]
  cases p with
  | nil => rfl
  | cons t r =>
    have htb := hb t List.mem_cons_self
    have e0 : gt (0 : Int) (t :: r) (0 : Int) = t := rfl
    have e1 : IntKind.u64.wrap (tp n - 1 + 1) = tp n := by rw [Int.sub_add_cancel, wu64 (by omega) (by omega)]
    have ea : Int.tmod (IntKind.u64.wrap t) (tp n) = t % tp n := by rw [wu64 htb.1 (by omega), Int.tmod_eq_emod_of_nonneg htb.1]
    have hm : 0 ≤ t % tp n ∧ t % tp n < tp n := ⟨Int.emod_nonneg _ (by omega), Int.emod_lt_of_pos _ (by omega)⟩
    simp only [bnd1]
    rw [if_neg (by simp <;> omega), if_pos (by simp <;> omega), e0, e1, if_pos (by omega), ea]
    rw [show gd (t :: r) n = if t % tp n < tp n - 1 then (t % tp n, 1, 0) else dv 0 (t % tp n) r from rfl]
    by_cases hc : t % tp n < tp n - 1
    · rw [if_pos hc, if_pos hc, wu32 hm.1 (by omega)]
    · rw [if_neg hc, if_neg hc]
      have := rget_l0 (k + 9) 0 (t % tp n) (t :: r) hb (by omega) (by omega) hm.1 (by simp; omega)
      simpa using this
end PX
namespace HX
def CODES : List S116 := [⟨8184, 13⟩, ⟨8388568, 23⟩, ⟨268435426, 28⟩, ⟨268435427, 28⟩, ⟨268435428, 28⟩, ⟨268435429, 28⟩, ⟨268435430, 28⟩, ⟨268435431, 28⟩, ⟨268435432, 28⟩,
  ⟨16777194, 24⟩, ⟨1073741820, 30⟩, ⟨268435433, 28⟩, ⟨268435434, 28⟩, ⟨1073741821, 30⟩, ⟨268435435, 28⟩, ⟨268435436, 28⟩, ⟨268435437, 28⟩, ⟨268435438,
  28⟩, ⟨268435439, 28⟩, ⟨268435440, 28⟩, ⟨268435441, 28⟩, ⟨268435442, 28⟩, ⟨1073741822, 30⟩, ⟨268435443, 28⟩, ⟨268435444, 28⟩, ⟨268435445, 28⟩,
  ⟨268435446, 28⟩, ⟨268435447, 28⟩, ⟨268435448, 28⟩, ⟨268435449, 28⟩, ⟨268435450, 28⟩, ⟨268435451, 28⟩, ⟨20, 6⟩, ⟨1016, 10⟩, ⟨1017, 10⟩, ⟨4090, 12⟩,
  ⟨8185, 13⟩, ⟨21, 6⟩, ⟨248, 8⟩, ⟨2042, 11⟩, ⟨1018, 10⟩, ⟨1019, 10⟩, ⟨249, 8⟩, ⟨2043, 11⟩, ⟨250, 8⟩, ⟨22, 6⟩, ⟨23, 6⟩, ⟨24, 6⟩, ⟨0, 5⟩, ⟨1, 5⟩, ⟨2, 5⟩,
  ⟨25, 6⟩, ⟨26, 6⟩, ⟨27, 6⟩, ⟨28, 6⟩, ⟨29, 6⟩, ⟨30, 6⟩, ⟨31, 6⟩, ⟨92, 7⟩, ⟨251, 8⟩, ⟨32764, 15⟩, ⟨32, 6⟩, ⟨4091, 12⟩, ⟨1020, 10⟩, ⟨8186, 13⟩, ⟨33, 6⟩,
  ⟨93, 7⟩, ⟨94, 7⟩, ⟨95, 7⟩, ⟨96, 7⟩, ⟨97, 7⟩, ⟨98, 7⟩, ⟨99, 7⟩, ⟨100, 7⟩, ⟨101, 7⟩, ⟨102, 7⟩, ⟨103, 7⟩, ⟨104, 7⟩, ⟨105, 7⟩, ⟨106, 7⟩, ⟨107, 7⟩, ⟨108,
  7⟩, ⟨109, 7⟩, ⟨110, 7⟩, ⟨111, 7⟩, ⟨112, 7⟩, ⟨113, 7⟩, ⟨114, 7⟩, ⟨252, 8⟩, ⟨115, 7⟩, ⟨253, 8⟩, ⟨8187, 13⟩, ⟨524272, 19⟩, ⟨8188, 13⟩, ⟨16380, 14⟩, ⟨34,
  6⟩, ⟨32765, 15⟩, ⟨3, 5⟩, ⟨35, 6⟩, ⟨4, 5⟩, ⟨36, 6⟩, ⟨5, 5⟩, ⟨37, 6⟩, ⟨38, 6⟩, ⟨39, 6⟩, ⟨6, 5⟩, ⟨116, 7⟩, ⟨117, 7⟩, ⟨40, 6⟩, ⟨41, 6⟩, ⟨42, 6⟩, ⟨7, 5⟩,
  ⟨43, 6⟩, ⟨118, 7⟩, ⟨44, 6⟩, ⟨8, 5⟩, ⟨9, 5⟩, ⟨45, 6⟩, ⟨119, 7⟩, ⟨120, 7⟩, ⟨121, 7⟩, ⟨122, 7⟩, ⟨123, 7⟩, ⟨32766, 15⟩, ⟨2044, 11⟩, ⟨16381, 14⟩, ⟨8189,
  13⟩, ⟨268435452, 28⟩, ⟨1048550, 20⟩, ⟨4194258, 22⟩, ⟨1048551, 20⟩, ⟨1048552, 20⟩, ⟨4194259, 22⟩, ⟨4194260, 22⟩, ⟨4194261, 22⟩, ⟨8388569, 23⟩,
  ⟨4194262, 22⟩, ⟨8388570, 23⟩, ⟨8388571, 23⟩, ⟨8388572, 23⟩, ⟨8388573, 23⟩, ⟨8388574, 23⟩, ⟨16777195, 24⟩, ⟨8388575, 23⟩, ⟨16777196, 24⟩, ⟨16777197,
  24⟩, ⟨4194263, 22⟩, ⟨8388576, 23⟩, ⟨16777198, 24⟩, ⟨8388577, 23⟩, ⟨8388578, 23⟩, ⟨8388579, 23⟩, ⟨8388580, 23⟩, ⟨2097116, 21⟩, ⟨4194264, 22⟩, ⟨8388581,
  23⟩, ⟨4194265, 22⟩, ⟨8388582, 23⟩, ⟨8388583, 23⟩, ⟨16777199, 24⟩, ⟨4194266, 22⟩, ⟨2097117, 21⟩, ⟨1048553, 20⟩, ⟨4194267, 22⟩, ⟨4194268, 22⟩, ⟨8388584,
  23⟩, ⟨8388585, 23⟩, ⟨2097118, 21⟩, ⟨8388586, 23⟩, ⟨4194269, 22⟩, ⟨4194270, 22⟩, ⟨16777200, 24⟩, ⟨2097119, 21⟩, ⟨4194271, 22⟩, ⟨8388587, 23⟩, ⟨8388588,
  23⟩, ⟨2097120, 21⟩, ⟨2097121, 21⟩, ⟨4194272, 22⟩, ⟨2097122, 21⟩, ⟨8388589, 23⟩, ⟨4194273, 22⟩, ⟨8388590, 23⟩, ⟨8388591, 23⟩, ⟨1048554, 20⟩, ⟨4194274,
  22⟩, ⟨4194275, 22⟩, ⟨4194276, 22⟩, ⟨8388592, 23⟩, ⟨4194277, 22⟩, ⟨4194278, 22⟩, ⟨8388593, 23⟩, ⟨67108832, 26⟩, ⟨67108833, 26⟩, ⟨1048555, 20⟩, ⟨524273,
  19⟩, ⟨4194279, 22⟩, ⟨8388594, 23⟩, ⟨4194280, 22⟩, ⟨33554412, 25⟩, ⟨67108834, 26⟩, ⟨67108835, 26⟩, ⟨67108836, 26⟩, ⟨134217694, 27⟩, ⟨134217695, 27⟩,
  ⟨67108837, 26⟩, ⟨16777201, 24⟩, ⟨33554413, 25⟩, ⟨524274, 19⟩, ⟨2097123, 21⟩, ⟨67108838, 26⟩, ⟨134217696, 27⟩, ⟨134217697, 27⟩, ⟨67108839, 26⟩,
  ⟨134217698, 27⟩, ⟨16777202, 24⟩, ⟨2097124, 21⟩, ⟨2097125, 21⟩, ⟨67108840, 26⟩, ⟨67108841, 26⟩, ⟨268435453, 28⟩, ⟨134217699, 27⟩, ⟨134217700, 27⟩,
  ⟨134217701, 27⟩, ⟨1048556, 20⟩, ⟨16777203, 24⟩, ⟨1048557, 20⟩, ⟨2097126, 21⟩, ⟨4194281, 22⟩, ⟨2097127, 21⟩, ⟨2097128, 21⟩, ⟨8388595, 23⟩, ⟨4194282,
  22⟩, ⟨4194283, 22⟩, ⟨33554414, 25⟩, ⟨33554415, 25⟩, ⟨16777204, 24⟩, ⟨16777205, 24⟩, ⟨67108842, 26⟩, ⟨8388596, 23⟩, ⟨67108843, 26⟩, ⟨134217702, 27⟩,
  ⟨67108844, 26⟩, ⟨67108845, 26⟩, ⟨134217703, 27⟩, ⟨134217704, 27⟩, ⟨134217705, 27⟩, ⟨134217706, 27⟩, ⟨134217707, 27⟩, ⟨268435454, 28⟩, ⟨134217708, 27⟩,
  ⟨134217709, 27⟩, ⟨134217710, 27⟩, ⟨134217711, 27⟩, ⟨134217712, 27⟩, ⟨67108846, 26⟩, ⟨1073741823, 30⟩]
def TEXTS : List (List UInt8) := [[49, 49, 49, 49, 49, 49, 49, 49, 49, 49, 48, 48, 48], [49, 49, 49, 49, 49, 49, 49, 49, 49, 49, 49, 49, 49, 49, 49, 49, 49, 48, 49, 49, 48, 48, 48],
  [49, 49, 49, 49, 49, 49, 49, 49, 49, 49, 49, 49, 49, 49, 49, 49, 49, 49, 49, 49, 49, 49, 49, 48, 48, 48, 49, 48], [49, 49, 49, 49, 49, 49, 49, 49, 49,
  49, 49, 49, 49, 49, 49, 49, 49, 49, 49, 49, 49, 49, 49, 48, 48, 48, 49, 49], [49, 49, 49, 49, 49, 49, 49, 49, 49, 49, 49, 49, 49, 49, 49, 49, 49, 49,
  49, 49, 49, 49, 49, 48, 48, 49, 48, 48], [49, 49, 49, 49, 49, 49, 49, 49, 49, 49, 49, 49, 49, 49, 49, 49, 49, 49, 49, 49, 49, 49, 49, 48, 48, 49, 48,
  49], [49, 49, 49, 49, 49, 49, 49, 49, 49, 49, 49, 49, 49, 49, 49, 49, 49, 49, 49, 49, 49, 49, 49, 48, 48, 49, 49, 48], [49, 49, 49, 49, 49, 49, 49,
  49, 49, 49, 49, 49, 49, 49, 49, 49, 49, 49, 49, 49, 49, 49, 49, 48, 48, 49, 49, 49], [49, 49, 49, 49, 49, 49, 49, 49, 49, 49, 49, 49, 49, 49, 49, 49,
  49, 49, 49, 49, 49, 49, 49, 48, 49, 48, 48, 48], [49, 49, 49, 49, 49, 49, 49, 49, 49, 49, 49, 49, 49, 49, 49, 49, 49, 49, 49, 48, 49, 48, 49, 48],
  [49, 49, 49, 49, 49, 49, 49, 49, 49, 49, 49, 49, 49, 49, 49, 49, 49, 49, 49, 49, 49, 49, 49, 49, 49, 49, 49, 49, 48, 48], [49, 49, 49, 49, 49, 49, 49,
  49, 49, 49, 49, 49, 49, 49, 49, 49, 49, 49, 49, 49, 49, 49, 49, 48, 49, 48, 48, 49], [49, 49, 49, 49, 49, 49, 49, 49, 49, 49, 49, 49, 49, 49, 49, 49,
  49, 49, 49, 49, 49, 49, 49, 48, 49, 48, 49, 48], [49, 49, 49, 49, 49, 49, 49, 49, 49, 49, 49, 49, 49, 49, 49, 49, 49, 49, 49, 49, 49, 49, 49, 49, 49,
  49, 49, 49, 48, 49], [49, 49, 49, 49, 49, 49, 49, 49, 49, 49, 49, 49, 49, 49, 49, 49, 49, 49, 49, 49, 49, 49, 49, 48, 49, 48, 49, 49], [49, 49, 49,
  49, 49, 49, 49, 49, 49, 49, 49, 49, 49, 49, 49, 49, 49, 49, 49, 49, 49, 49, 49, 48, 49, 49, 48, 48], [49, 49, 49, 49, 49, 49, 49, 49, 49, 49, 49, 49,
  49, 49, 49, 49, 49, 49, 49, 49, 49, 49, 49, 48, 49, 49, 48, 49], [49, 49, 49, 49, 49, 49, 49, 49, 49, 49, 49, 49, 49, 49, 49, 49, 49, 49, 49, 49, 49,
  49, 49, 48, 49, 49, 49, 48], [49, 49, 49, 49, 49, 49, 49, 49, 49, 49, 49, 49, 49, 49, 49, 49, 49, 49, 49, 49, 49, 49, 49, 48, 49, 49, 49, 49], [49,
  49, 49, 49, 49, 49, 49, 49, 49, 49, 49, 49, 49, 49, 49, 49, 49, 49, 49, 49, 49, 49, 49, 49, 48, 48, 48, 48], [49, 49, 49, 49, 49, 49, 49, 49, 49, 49,
  49, 49, 49, 49, 49, 49, 49, 49, 49, 49, 49, 49, 49, 49, 48, 48, 48, 49], [49, 49, 49, 49, 49, 49, 49, 49, 49, 49, 49, 49, 49, 49, 49, 49, 49, 49, 49,
  49, 49, 49, 49, 49, 48, 48, 49, 48], [49, 49, 49, 49, 49, 49, 49, 49, 49, 49, 49, 49, 49, 49, 49, 49, 49, 49, 49, 49, 49, 49, 49, 49, 49, 49, 49, 49,
  49, 48], [49, 49, 49, 49, 49, 49, 49, 49, 49, 49, 49, 49, 49, 49, 49, 49, 49, 49, 49, 49, 49, 49, 49, 49, 48, 48, 49, 49], [49, 49, 49, 49, 49, 49,
  49, 49, 49, 49, 49, 49, 49, 49, 49, 49, 49, 49, 49, 49, 49, 49, 49, 49, 48, 49, 48, 48], [49, 49, 49, 49, 49, 49, 49, 49, 49, 49, 49, 49, 49, 49, 49,
  49, 49, 49, 49, 49, 49, 49, 49, 49, 48, 49, 48, 49], [49, 49, 49, 49, 49, 49, 49, 49, 49, 49, 49, 49, 49, 49, 49, 49, 49, 49, 49, 49, 49, 49, 49, 49,
  48, 49, 49, 48], [49, 49, 49, 49, 49, 49, 49, 49, 49, 49, 49, 49, 49, 49, 49, 49, 49, 49, 49, 49, 49, 49, 49, 49, 48, 49, 49, 49], [49, 49, 49, 49,
  49, 49, 49, 49, 49, 49, 49, 49, 49, 49, 49, 49, 49, 49, 49, 49, 49, 49, 49, 49, 49, 48, 48, 48], [49, 49, 49, 49, 49, 49, 49, 49, 49, 49, 49, 49, 49,
  49, 49, 49, 49, 49, 49, 49, 49, 49, 49, 49, 49, 48, 48, 49], [49, 49, 49, 49, 49, 49, 49, 49, 49, 49, 49, 49, 49, 49, 49, 49, 49, 49, 49, 49, 49, 49,
  49, 49, 49, 48, 49, 48], [49, 49, 49, 49, 49, 49, 49, 49, 49, 49, 49, 49, 49, 49, 49, 49, 49, 49, 49, 49, 49, 49, 49, 49, 49, 48, 49, 49], [48, 49,
  48, 49, 48, 48], [49, 49, 49, 49, 49, 49, 49, 48, 48, 48], [49, 49, 49, 49, 49, 49, 49, 48, 48, 49], [49, 49, 49, 49, 49, 49, 49, 49, 49, 48, 49, 48],
  [49, 49, 49, 49, 49, 49, 49, 49, 49, 49, 48, 48, 49], [48, 49, 48, 49, 48, 49], [49, 49, 49, 49, 49, 48, 48, 48], [49, 49, 49, 49, 49, 49, 49, 49, 48,
  49, 48], [49, 49, 49, 49, 49, 49, 49, 48, 49, 48], [49, 49, 49, 49, 49, 49, 49, 48, 49, 49], [49, 49, 49, 49, 49, 48, 48, 49], [49, 49, 49, 49, 49,
  49, 49, 49, 48, 49, 49], [49, 49, 49, 49, 49, 48, 49, 48], [48, 49, 48, 49, 49, 48], [48, 49, 48, 49, 49, 49], [48, 49, 49, 48, 48, 48], [48, 48, 48,
  48, 48], [48, 48, 48, 48, 49], [48, 48, 48, 49, 48], [48, 49, 49, 48, 48, 49], [48, 49, 49, 48, 49, 48], [48, 49, 49, 48, 49, 49], [48, 49, 49, 49,
  48, 48], [48, 49, 49, 49, 48, 49], [48, 49, 49, 49, 49, 48], [48, 49, 49, 49, 49, 49], [49, 48, 49, 49, 49, 48, 48], [49, 49, 49, 49, 49, 48, 49, 49],
  [49, 49, 49, 49, 49, 49, 49, 49, 49, 49, 49, 49, 49, 48, 48], [49, 48, 48, 48, 48, 48], [49, 49, 49, 49, 49, 49, 49, 49, 49, 48, 49, 49], [49, 49, 49,
  49, 49, 49, 49, 49, 48, 48], [49, 49, 49, 49, 49, 49, 49, 49, 49, 49, 48, 49, 48], [49, 48, 48, 48, 48, 49], [49, 48, 49, 49, 49, 48, 49], [49, 48,
  49, 49, 49, 49, 48], [49, 48, 49, 49, 49, 49, 49], [49, 49, 48, 48, 48, 48, 48], [49, 49, 48, 48, 48, 48, 49], [49, 49, 48, 48, 48, 49, 48], [49, 49,
  48, 48, 48, 49, 49], [49, 49, 48, 48, 49, 48, 48], [49, 49, 48, 48, 49, 48, 49], [49, 49, 48, 48, 49, 49, 48], [49, 49, 48, 48, 49, 49, 49], [49, 49,
  48, 49, 48, 48, 48], [49, 49, 48, 49, 48, 48, 49], [49, 49, 48, 49, 48, 49, 48], [49, 49, 48, 49, 48, 49, 49], [49, 49, 48, 49, 49, 48, 48], [49, 49,
  48, 49, 49, 48, 49], [49, 49, 48, 49, 49, 49, 48], [49, 49, 48, 49, 49, 49, 49], [49, 49, 49, 48, 48, 48, 48], [49, 49, 49, 48, 48, 48, 49], [49, 49,
  49, 48, 48, 49, 48], [49, 49, 49, 49, 49, 49, 48, 48], [49, 49, 49, 48, 48, 49, 49], [49, 49, 49, 49, 49, 49, 48, 49], [49, 49, 49, 49, 49, 49, 49,
  49, 49, 49, 48, 49, 49], [49, 49, 49, 49, 49, 49, 49, 49, 49, 49, 49, 49, 49, 49, 49, 48, 48, 48, 48], [49, 49, 49, 49, 49, 49, 49, 49, 49, 49, 49,
  48, 48], [49, 49, 49, 49, 49, 49, 49, 49, 49, 49, 49, 49, 48, 48], [49, 48, 48, 48, 49, 48], [49, 49, 49, 49, 49, 49, 49, 49, 49, 49, 49, 49, 49, 48,
  49], [48, 48, 48, 49, 49], [49, 48, 48, 48, 49, 49], [48, 48, 49, 48, 48], [49, 48, 48, 49, 48, 48], [48, 48, 49, 48, 49], [49, 48, 48, 49, 48, 49],
  [49, 48, 48, 49, 49, 48], [49, 48, 48, 49, 49, 49], [48, 48, 49, 49, 48], [49, 49, 49, 48, 49, 48, 48], [49, 49, 49, 48, 49, 48, 49], [49, 48, 49, 48,
  48, 48], [49, 48, 49, 48, 48, 49], [49, 48, 49, 48, 49, 48], [48, 48, 49, 49, 49], [49, 48, 49, 48, 49, 49], [49, 49, 49, 48, 49, 49, 48], [49, 48,
  49, 49, 48, 48], [48, 49, 48, 48, 48], [48, 49, 48, 48, 49], [49, 48, 49, 49, 48, 49], [49, 49, 49, 48, 49, 49, 49], [49, 49, 49, 49, 48, 48, 48],
  [49, 49, 49, 49, 48, 48, 49], [49, 49, 49, 49, 48, 49, 48], [49, 49, 49, 49, 48, 49, 49], [49, 49, 49, 49, 49, 49, 49, 49, 49, 49, 49, 49, 49, 49,
  48], [49, 49, 49, 49, 49, 49, 49, 49, 49, 48, 48], [49, 49, 49, 49, 49, 49, 49, 49, 49, 49, 49, 49, 48, 49], [49, 49, 49, 49, 49, 49, 49, 49, 49, 49,
  49, 48, 49], [49, 49, 49, 49, 49, 49, 49, 49, 49, 49, 49, 49, 49, 49, 49, 49, 49, 49, 49, 49, 49, 49, 49, 49, 49, 49, 48, 48], [49, 49, 49, 49, 49,
  49, 49, 49, 49, 49, 49, 49, 49, 49, 49, 48, 48, 49, 49, 48], [49, 49, 49, 49, 49, 49, 49, 49, 49, 49, 49, 49, 49, 49, 49, 49, 48, 49, 48, 48, 49, 48],
  [49, 49, 49, 49, 49, 49, 49, 49, 49, 49, 49, 49, 49, 49, 49, 48, 48, 49, 49, 49], [49, 49, 49, 49, 49, 49, 49, 49, 49, 49, 49, 49, 49, 49, 49, 48, 49,
  48, 48, 48], [49, 49, 49, 49, 49, 49, 49, 49, 49, 49, 49, 49, 49, 49, 49, 49, 48, 49, 48, 48, 49, 49], [49, 49, 49, 49, 49, 49, 49, 49, 49, 49, 49,
  49, 49, 49, 49, 49, 48, 49, 48, 49, 48, 48], [49, 49, 49, 49, 49, 49, 49, 49, 49, 49, 49, 49, 49, 49, 49, 49, 48, 49, 48, 49, 48, 49], [49, 49, 49,
  49, 49, 49, 49, 49, 49, 49, 49, 49, 49, 49, 49, 49, 49, 48, 49, 49, 48, 48, 49], [49, 49, 49, 49, 49, 49, 49, 49, 49, 49, 49, 49, 49, 49, 49, 49, 48,
  49, 48, 49, 49, 48], [49, 49, 49, 49, 49, 49, 49, 49, 49, 49, 49, 49, 49, 49, 49, 49, 49, 48, 49, 49, 48, 49, 48], [49, 49, 49, 49, 49, 49, 49, 49,
  49, 49, 49, 49, 49, 49, 49, 49, 49, 48, 49, 49, 48, 49, 49], [49, 49, 49, 49, 49, 49, 49, 49, 49, 49, 49, 49, 49, 49, 49, 49, 49, 48, 49, 49, 49, 48,
  48], [49, 49, 49, 49, 49, 49, 49, 49, 49, 49, 49, 49, 49, 49, 49, 49, 49, 48, 49, 49, 49, 48, 49], [49, 49, 49, 49, 49, 49, 49, 49, 49, 49, 49, 49,
  49, 49, 49, 49, 49, 48, 49, 49, 49, 49, 48], [49, 49, 49, 49, 49, 49, 49, 49, 49, 49, 49, 49, 49, 49, 49, 49, 49, 49, 49, 48, 49, 48, 49, 49], [49,
  49, 49, 49, 49, 49, 49, 49, 49, 49, 49, 49, 49, 49, 49, 49, 49, 48, 49, 49, 49, 49, 49], [49, 49, 49, 49, 49, 49, 49, 49, 49, 49, 49, 49, 49, 49, 49,
  49, 49, 49, 49, 48, 49, 49, 48, 48], [49, 49, 49, 49, 49, 49, 49, 49, 49, 49, 49, 49, 49, 49, 49, 49, 49, 49, 49, 48, 49, 49, 48, 49], [49, 49, 49,
  49, 49, 49, 49, 49, 49, 49, 49, 49, 49, 49, 49, 49, 48, 49, 48, 49, 49, 49], [49, 49, 49, 49, 49, 49, 49, 49, 49, 49, 49, 49, 49, 49, 49, 49, 49, 49,
  48, 48, 48, 48, 48], [49, 49, 49, 49, 49, 49, 49, 49, 49, 49, 49, 49, 49, 49, 49, 49, 49, 49, 49, 48, 49, 49, 49, 48], [49, 49, 49, 49, 49, 49, 49,
  49, 49, 49, 49, 49, 49, 49, 49, 49, 49, 49, 48, 48, 48, 48, 49], [49, 49, 49, 49, 49, 49, 49, 49, 49, 49, 49, 49, 49, 49, 49, 49, 49, 49, 48, 48, 48,
  49, 48], [49, 49, 49, 49, 49, 49, 49, 49, 49, 49, 49, 49, 49, 49, 49, 49, 49, 49, 48, 48, 48, 49, 49], [49, 49, 49, 49, 49, 49, 49, 49, 49, 49, 49,
  49, 49, 49, 49, 49, 49, 49, 48, 48, 49, 48, 48], [49, 49, 49, 49, 49, 49, 49, 49, 49, 49, 49, 49, 49, 49, 49, 48, 49, 49, 49, 48, 48], [49, 49, 49,
  49, 49, 49, 49, 49, 49, 49, 49, 49, 49, 49, 49, 49, 48, 49, 49, 48, 48, 48], [49, 49, 49, 49, 49, 49, 49, 49, 49, 49, 49, 49, 49, 49, 49, 49, 49, 49,
  48, 48, 49, 48, 49], [49, 49, 49, 49, 49, 49, 49, 49, 49, 49, 49, 49, 49, 49, 49, 49, 48, 49, 49, 48, 48, 49], [49, 49, 49, 49, 49, 49, 49, 49, 49,
  49, 49, 49, 49, 49, 49, 49, 49, 49, 48, 48, 49, 49, 48], [49, 49, 49, 49, 49, 49, 49, 49, 49, 49, 49, 49, 49, 49, 49, 49, 49, 49, 48, 48, 49, 49, 49],
  [49, 49, 49, 49, 49, 49, 49, 49, 49, 49, 49, 49, 49, 49, 49, 49, 49, 49, 49, 48, 49, 49, 49, 49], [49, 49, 49, 49, 49, 49, 49, 49, 49, 49, 49, 49, 49,
  49, 49, 49, 48, 49, 49, 48, 49, 48], [49, 49, 49, 49, 49, 49, 49, 49, 49, 49, 49, 49, 49, 49, 49, 48, 49, 49, 49, 48, 49], [49, 49, 49, 49, 49, 49,
  49, 49, 49, 49, 49, 49, 49, 49, 49, 48, 49, 48, 48, 49], [49, 49, 49, 49, 49, 49, 49, 49, 49, 49, 49, 49, 49, 49, 49, 49, 48, 49, 49, 48, 49, 49],
  [49, 49, 49, 49, 49, 49, 49, 49, 49, 49, 49, 49, 49, 49, 49, 49, 48, 49, 49, 49, 48, 48], [49, 49, 49, 49, 49, 49, 49, 49, 49, 49, 49, 49, 49, 49, 49,
  49, 49, 49, 48, 49, 48, 48, 48], [49, 49, 49, 49, 49, 49, 49, 49, 49, 49, 49, 49, 49, 49, 49, 49, 49, 49, 48, 49, 48, 48, 49], [49, 49, 49, 49, 49,
  49, 49, 49, 49, 49, 49, 49, 49, 49, 49, 48, 49, 49, 49, 49, 48], [49, 49, 49, 49, 49, 49, 49, 49, 49, 49, 49, 49, 49, 49, 49, 49, 49, 49, 48, 49, 48,
  49, 48], [49, 49, 49, 49, 49, 49, 49, 49, 49, 49, 49, 49, 49, 49, 49, 49, 48, 49, 49, 49, 48, 49], [49, 49, 49, 49, 49, 49, 49, 49, 49, 49, 49, 49,
  49, 49, 49, 49, 48, 49, 49, 49, 49, 48], [49, 49, 49, 49, 49, 49, 49, 49, 49, 49, 49, 49, 49, 49, 49, 49, 49, 49, 49, 49, 48, 48, 48, 48], [49, 49,
  49, 49, 49, 49, 49, 49, 49, 49, 49, 49, 49, 49, 49, 48, 49, 49, 49, 49, 49], [49, 49, 49, 49, 49, 49, 49, 49, 49, 49, 49, 49, 49, 49, 49, 49, 48, 49,
  49, 49, 49, 49], [49, 49, 49, 49, 49, 49, 49, 49, 49, 49, 49, 49, 49, 49, 49, 49, 49, 49, 48, 49, 48, 49, 49], [49, 49, 49, 49, 49, 49, 49, 49, 49,
  49, 49, 49, 49, 49, 49, 49, 49, 49, 48, 49, 49, 48, 48], [49, 49, 49, 49, 49, 49, 49, 49, 49, 49, 49, 49, 49, 49, 49, 49, 48, 48, 48, 48, 48], [49,
  49, 49, 49, 49, 49, 49, 49, 49, 49, 49, 49, 49, 49, 49, 49, 48, 48, 48, 48, 49], [49, 49, 49, 49, 49, 49, 49, 49, 49, 49, 49, 49, 49, 49, 49, 49, 49,
  48, 48, 48, 48, 48], [49, 49, 49, 49, 49, 49, 49, 49, 49, 49, 49, 49, 49, 49, 49, 49, 48, 48, 48, 49, 48], [49, 49, 49, 49, 49, 49, 49, 49, 49, 49,
  49, 49, 49, 49, 49, 49, 49, 49, 48, 49, 49, 48, 49], [49, 49, 49, 49, 49, 49, 49, 49, 49, 49, 49, 49, 49, 49, 49, 49, 49, 48, 48, 48, 48, 49], [49,
  49, 49, 49, 49, 49, 49, 49, 49, 49, 49, 49, 49, 49, 49, 49, 49, 49, 48, 49, 49, 49, 48], [49, 49, 49, 49, 49, 49, 49, 49, 49, 49, 49, 49, 49, 49, 49,
  49, 49, 49, 48, 49, 49, 49, 49], [49, 49, 49, 49, 49, 49, 49, 49, 49, 49, 49, 49, 49, 49, 49, 48, 49, 48, 49, 48], [49, 49, 49, 49, 49, 49, 49, 49,
  49, 49, 49, 49, 49, 49, 49, 49, 49, 48, 48, 48, 49, 48], [49, 49, 49, 49, 49, 49, 49, 49, 49, 49, 49, 49, 49, 49, 49, 49, 49, 48, 48, 48, 49, 49],
  [49, 49, 49, 49, 49, 49, 49, 49, 49, 49, 49, 49, 49, 49, 49, 49, 49, 48, 48, 49, 48, 48], [49, 49, 49, 49, 49, 49, 49, 49, 49, 49, 49, 49, 49, 49, 49,
  49, 49, 49, 49, 48, 48, 48, 48], [49, 49, 49, 49, 49, 49, 49, 49, 49, 49, 49, 49, 49, 49, 49, 49, 49, 48, 48, 49, 48, 49], [49, 49, 49, 49, 49, 49,
  49, 49, 49, 49, 49, 49, 49, 49, 49, 49, 49, 48, 48, 49, 49, 48], [49, 49, 49, 49, 49, 49, 49, 49, 49, 49, 49, 49, 49, 49, 49, 49, 49, 49, 49, 48, 48,
  48, 49], [49, 49, 49, 49, 49, 49, 49, 49, 49, 49, 49, 49, 49, 49, 49, 49, 49, 49, 49, 49, 49, 48, 48, 48, 48, 48], [49, 49, 49, 49, 49, 49, 49, 49,
  49, 49, 49, 49, 49, 49, 49, 49, 49, 49, 49, 49, 49, 48, 48, 48, 48, 49], [49, 49, 49, 49, 49, 49, 49, 49, 49, 49, 49, 49, 49, 49, 49, 48, 49, 48, 49,
  49], [49, 49, 49, 49, 49, 49, 49, 49, 49, 49, 49, 49, 49, 49, 49, 48, 48, 48, 49], [49, 49, 49, 49, 49, 49, 49, 49, 49, 49, 49, 49, 49, 49, 49, 49,
  49, 48, 48, 49, 49, 49], [49, 49, 49, 49, 49, 49, 49, 49, 49, 49, 49, 49, 49, 49, 49, 49, 49, 49, 49, 48, 48, 49, 48], [49, 49, 49, 49, 49, 49, 49,
  49, 49, 49, 49, 49, 49, 49, 49, 49, 49, 48, 49, 48, 48, 48], [49, 49, 49, 49, 49, 49, 49, 49, 49, 49, 49, 49, 49, 49, 49, 49, 49, 49, 49, 49, 48, 49,
  49, 48, 48], [49, 49, 49, 49, 49, 49, 49, 49, 49, 49, 49, 49, 49, 49, 49, 49, 49, 49, 49, 49, 49, 48, 48, 48, 49, 48], [49, 49, 49, 49, 49, 49, 49,
  49, 49, 49, 49, 49, 49, 49, 49, 49, 49, 49, 49, 49, 49, 48, 48, 48, 49, 49], [49, 49, 49, 49, 49, 49, 49, 49, 49, 49, 49, 49, 49, 49, 49, 49, 49, 49,
  49, 49, 49, 48, 48, 49, 48, 48], [49, 49, 49, 49, 49, 49, 49, 49, 49, 49, 49, 49, 49, 49, 49, 49, 49, 49, 49, 49, 49, 48, 49, 49, 49, 49, 48], [49,
  49, 49, 49, 49, 49, 49, 49, 49, 49, 49, 49, 49, 49, 49, 49, 49, 49, 49, 49, 49, 48, 49, 49, 49, 49, 49], [49, 49, 49, 49, 49, 49, 49, 49, 49, 49, 49,
  49, 49, 49, 49, 49, 49, 49, 49, 49, 49, 48, 48, 49, 48, 49], [49, 49, 49, 49, 49, 49, 49, 49, 49, 49, 49, 49, 49, 49, 49, 49, 49, 49, 49, 49, 48, 48,
  48, 49], [49, 49, 49, 49, 49, 49, 49, 49, 49, 49, 49, 49, 49, 49, 49, 49, 49, 49, 49, 49, 48, 49, 49, 48, 49], [49, 49, 49, 49, 49, 49, 49, 49, 49,
  49, 49, 49, 49, 49, 49, 48, 48, 49, 48], [49, 49, 49, 49, 49, 49, 49, 49, 49, 49, 49, 49, 49, 49, 49, 49, 48, 48, 48, 49, 49], [49, 49, 49, 49, 49,
  49, 49, 49, 49, 49, 49, 49, 49, 49, 49, 49, 49, 49, 49, 49, 49, 48, 48, 49, 49, 48], [49, 49, 49, 49, 49, 49, 49, 49, 49, 49, 49, 49, 49, 49, 49, 49,
  49, 49, 49, 49, 49, 49, 48, 48, 48, 48, 48], [49, 49, 49, 49, 49, 49, 49, 49, 49, 49, 49, 49, 49, 49, 49, 49, 49, 49, 49, 49, 49, 49, 48, 48, 48, 48,
  49], [49, 49, 49, 49, 49, 49, 49, 49, 49, 49, 49, 49, 49, 49, 49, 49, 49, 49, 49, 49, 49, 48, 48, 49, 49, 49], [49, 49, 49, 49, 49, 49, 49, 49, 49,
  49, 49, 49, 49, 49, 49, 49, 49, 49, 49, 49, 49, 49, 48, 48, 48, 49, 48], [49, 49, 49, 49, 49, 49, 49, 49, 49, 49, 49, 49, 49, 49, 49, 49, 49, 49, 49,
  49, 48, 48, 49, 48], [49, 49, 49, 49, 49, 49, 49, 49, 49, 49, 49, 49, 49, 49, 49, 49, 48, 48, 49, 48, 48], [49, 49, 49, 49, 49, 49, 49, 49, 49, 49,
  49, 49, 49, 49, 49, 49, 48, 48, 49, 48, 49], [49, 49, 49, 49, 49, 49, 49, 49, 49, 49, 49, 49, 49, 49, 49, 49, 49, 49, 49, 49, 49, 48, 49, 48, 48, 48],
  [49, 49, 49, 49, 49, 49, 49, 49, 49, 49, 49, 49, 49, 49, 49, 49, 49, 49, 49, 49, 49, 48, 49, 48, 48, 49], [49, 49, 49, 49, 49, 49, 49, 49, 49, 49, 49,
  49, 49, 49, 49, 49, 49, 49, 49, 49, 49, 49, 49, 49, 49, 49, 48, 49], [49, 49, 49, 49, 49, 49, 49, 49, 49, 49, 49, 49, 49, 49, 49, 49, 49, 49, 49, 49,
  49, 49, 48, 48, 48, 49, 49], [49, 49, 49, 49, 49, 49, 49, 49, 49, 49, 49, 49, 49, 49, 49, 49, 49, 49, 49, 49, 49, 49, 48, 48, 49, 48, 48], [49, 49,
  49, 49, 49, 49, 49, 49, 49, 49, 49, 49, 49, 49, 49, 49, 49, 49, 49, 49, 49, 49, 48, 48, 49, 48, 49], [49, 49, 49, 49, 49, 49, 49, 49, 49, 49, 49, 49,
  49, 49, 49, 48, 49, 49, 48, 48], [49, 49, 49, 49, 49, 49, 49, 49, 49, 49, 49, 49, 49, 49, 49, 49, 49, 49, 49, 49, 48, 48, 49, 49], [49, 49, 49, 49,
  49, 49, 49, 49, 49, 49, 49, 49, 49, 49, 49, 48, 49, 49, 48, 49], [49, 49, 49, 49, 49, 49, 49, 49, 49, 49, 49, 49, 49, 49, 49, 49, 48, 48, 49, 49, 48],
  [49, 49, 49, 49, 49, 49, 49, 49, 49, 49, 49, 49, 49, 49, 49, 49, 49, 48, 49, 48, 48, 49], [49, 49, 49, 49, 49, 49, 49, 49, 49, 49, 49, 49, 49, 49, 49,
  49, 48, 48, 49, 49, 49], [49, 49, 49, 49, 49, 49, 49, 49, 49, 49, 49, 49, 49, 49, 49, 49, 48, 49, 48, 48, 48], [49, 49, 49, 49, 49, 49, 49, 49, 49,
  49, 49, 49, 49, 49, 49, 49, 49, 49, 49, 48, 48, 49, 49], [49, 49, 49, 49, 49, 49, 49, 49, 49, 49, 49, 49, 49, 49, 49, 49, 49, 48, 49, 48, 49, 48],
  [49, 49, 49, 49, 49, 49, 49, 49, 49, 49, 49, 49, 49, 49, 49, 49, 49, 48, 49, 48, 49, 49], [49, 49, 49, 49, 49, 49, 49, 49, 49, 49, 49, 49, 49, 49, 49,
  49, 49, 49, 49, 49, 48, 49, 49, 49, 48], [49, 49, 49, 49, 49, 49, 49, 49, 49, 49, 49, 49, 49, 49, 49, 49, 49, 49, 49, 49, 48, 49, 49, 49, 49], [49,
  49, 49, 49, 49, 49, 49, 49, 49, 49, 49, 49, 49, 49, 49, 49, 49, 49, 49, 49, 48, 49, 48, 48], [49, 49, 49, 49, 49, 49, 49, 49, 49, 49, 49, 49, 49, 49,
  49, 49, 49, 49, 49, 49, 48, 49, 48, 49], [49, 49, 49, 49, 49, 49, 49, 49, 49, 49, 49, 49, 49, 49, 49, 49, 49, 49, 49, 49, 49, 48, 49, 48, 49, 48],
  [49, 49, 49, 49, 49, 49, 49, 49, 49, 49, 49, 49, 49, 49, 49, 49, 49, 49, 49, 48, 49, 48, 48], [49, 49, 49, 49, 49, 49, 49, 49, 49, 49, 49, 49, 49, 49,
  49, 49, 49, 49, 49, 49, 49, 48, 49, 48, 49, 49], [49, 49, 49, 49, 49, 49, 49, 49, 49, 49, 49, 49, 49, 49, 49, 49, 49, 49, 49, 49, 49, 49, 48, 48, 49,
  49, 48], [49, 49, 49, 49, 49, 49, 49, 49, 49, 49, 49, 49, 49, 49, 49, 49, 49, 49, 49, 49, 49, 48, 49, 49, 48, 48], [49, 49, 49, 49, 49, 49, 49, 49,
  49, 49, 49, 49, 49, 49, 49, 49, 49, 49, 49, 49, 49, 48, 49, 49, 48, 49], [49, 49, 49, 49, 49, 49, 49, 49, 49, 49, 49, 49, 49, 49, 49, 49, 49, 49, 49,
  49, 49, 49, 48, 48, 49, 49, 49], [49, 49, 49, 49, 49, 49, 49, 49, 49, 49, 49, 49, 49, 49, 49, 49, 49, 49, 49, 49, 49, 49, 48, 49, 48, 48, 48], [49,
  49, 49, 49, 49, 49, 49, 49, 49, 49, 49, 49, 49, 49, 49, 49, 49, 49, 49, 49, 49, 49, 48, 49, 48, 48, 49], [49, 49, 49, 49, 49, 49, 49, 49, 49, 49, 49,
  49, 49, 49, 49, 49, 49, 49, 49, 49, 49, 49, 48, 49, 48, 49, 48], [49, 49, 49, 49, 49, 49, 49, 49, 49, 49, 49, 49, 49, 49, 49, 49, 49, 49, 49, 49, 49,
  49, 48, 49, 48, 49, 49], [49, 49, 49, 49, 49, 49, 49, 49, 49, 49, 49, 49, 49, 49, 49, 49, 49, 49, 49, 49, 49, 49, 49, 49, 49, 49, 49, 48], [49, 49,
  49, 49, 49, 49, 49, 49, 49, 49, 49, 49, 49, 49, 49, 49, 49, 49, 49, 49, 49, 49, 48, 49, 49, 48, 48], [49, 49, 49, 49, 49, 49, 49, 49, 49, 49, 49, 49,
  49, 49, 49, 49, 49, 49, 49, 49, 49, 49, 48, 49, 49, 48, 49], [49, 49, 49, 49, 49, 49, 49, 49, 49, 49, 49, 49, 49, 49, 49, 49, 49, 49, 49, 49, 49, 49,
  48, 49, 49, 49, 48], [49, 49, 49, 49, 49, 49, 49, 49, 49, 49, 49, 49, 49, 49, 49, 49, 49, 49, 49, 49, 49, 49, 48, 49, 49, 49, 49], [49, 49, 49, 49,
  49, 49, 49, 49, 49, 49, 49, 49, 49, 49, 49, 49, 49, 49, 49, 49, 49, 49, 49, 48, 48, 48, 48], [49, 49, 49, 49, 49, 49, 49, 49, 49, 49, 49, 49, 49, 49,
  49, 49, 49, 49, 49, 49, 49, 48, 49, 49, 49, 48], [49, 49, 49, 49, 49, 49, 49, 49, 49, 49, 49, 49, 49, 49, 49, 49, 49, 49, 49, 49, 49, 49, 49, 49, 49,
  49, 49, 49, 49, 49]]
theorem codes_f (k : Nat) : huffman_codes.f (k + 7800) = some CODES := by kernel_rfl
theorem texts_f (k : Nat) : louverref03qCodes.f (k + 20000) = some TEXTS := by kernel_rfl
theorem gt_nat {α : Type} (z : α) (l : List α) (i : Nat) (h : i < l.length) : gt z l (i : Int) = l[i] := by simp [gt, List.getD_eq_getElem?_getD, h]
theorem CODES_len : CODES.length = 257 := by kernel_rfl
theorem TEXTS_len : TEXTS.length = 257 := by kernel_rfl
theorem codes_at (k : Nat) (hk : 7800 ≤ k) : huffman_codes.f k = some CODES := by
  obtain ⟨k, rfl⟩ : ∃ k', k = k' + 7800 := ⟨k - 7800, by omega⟩
  exact codes_f k
theorem texts_at (k : Nat) (hk : 20000 ≤ k) : louverref03qCodes.f k = some TEXTS := by
  obtain ⟨k, rfl⟩ : ∃ k', k = k' + 20000 := ⟨k - 20000, by omega⟩
  exact texts_f k
theorem all_sizes : ((List.range 256).all fun i => decide (5 ≤ gt (0 : Int) G1 (i : Int)) && decide (gt (0 : Int) G1 (i : Int) ≤ 30)) = true := by kernel_rfl
def szc (c : UInt8) : Int := gt (0 : Int) G1 (c.toNat : Int)
theorem szc_bd (c : UInt8) : 5 ≤ szc c ∧ szc c ≤ 30 := by
  have := List.all_eq_true.1 all_sizes c.toNat (by simpa using c.toNat_lt)
  simpa [szc] using this
def bits : List UInt8 → Int
  | [] => 0
  | c :: l => szc c + bits l
theorem size_l0 (s : List UInt8) (hs : s.length ≤ 100000000000000) : ∀ (m k i : Nat) (n : Int), i + m = s.length → m < k → 0 ≤ n → n ≤ 30 * (i : Int) → huffman_Size.l0 k n i s = some ((n + bits (s.drop i) + 7) / 8) := by
  intro m
  induction m with
  | zero =>
    intro k i n hi hk h0 h1
    obtain ⟨k, rfl⟩ : ∃ k', k = k' + 1 := ⟨k - 1, by omega⟩
    rw [huffman_Size.l0, if_neg (by omega), List.drop_eq_nil_of_le (by omega)]
    simp only [bits]
    rw [wi64 (x := n + 7) (by omega) (by omega), Int.tdiv_eq_ediv_of_nonneg (by omega), wi64 (by omega) (by omega), Int.add_zero]
  | succ m ih =>
    intro k i n hi hk h0 h1
    obtain ⟨k, rfl⟩ : ∃ k', k = k' + 1 := ⟨k - 1, by omega⟩
    have hlt : i < s.length := by omega
    have eb : btI s (i : Int) = ((s[i]).toNat : Int) := by simp [btI, List.getD_eq_getElem?_getD, hlt]
    have hu := (s[i]).toNat_lt
    have hz := szc_bd s[i]
    rw [huffman_Size.l0, if_pos (by omega), if_pos (by omega), eb, if_pos (by omega), if_pos (by omega)]
    have e1 : gt (0 : Int) G1 ((s[i]).toNat : Int) = szc s[i] := rfl
    rw [e1, wi64 (x := szc s[i]) (by omega) (by omega), wi64 (by omega) (by omega), wi64 (by omega) (by omega), show (i : Int) + 1 = ((i + 1 : Nat) : Int) by omega, ih k (i + 1) _ (by omega) (by omega) (by omega) (by omega)]
    rw [List.drop_eq_getElem_cons hlt, bits]
    congr 2
    omega
theorem size_f (s : List UInt8) (hs : s.length ≤ 100000000000000) (k : Nat) (hk : s.length < k) : huffman_Size.f k s = some ((bits s + 7) / 8) := by
  have := size_l0 s hs s.length k 0 0 (by omega) hk (by omega) (by omega)
  simpa [huffman_Size.f] using this
def begins (a b : List UInt8) : Bool := match a, b with
  | [], _ => true
  | _ :: _, [] => false
  | x :: a, y :: b => x == y && begins a b
theorem begins_of : ∀ (a b : List UInt8), b.take a.length = a → begins a b = true
  | [], b, _ => by cases b <;> rfl
  | x :: a, [], h => by simp at h
  | x :: a, y :: b, h => by
    simp only [List.length_cons, List.take_succ_cons, List.cons.injEq] at h
    simp only [begins, begins_of a b h.2, h.1, beq_self_eq_true, Bool.and_self]
theorem all_apart : (TEXTS.zipIdx.all fun a => TEXTS.zipIdx.all fun b => Nat.beq a.2 b.2 || !begins a.1 b.1) = true := by kernel_rfl
theorem zipIdx_mem {α : Type} (l : List α) (i : Nat) (h : i < l.length) : (l[i], i) ∈ l.zipIdx := by
  rw [List.mem_iff_getElem?]
  exact ⟨i, by simp [h]⟩
theorem apart (i j : Nat) (hi : i < TEXTS.length) (hj : j < TEXTS.length) (h : i ≠ j) : begins TEXTS[i] TEXTS[j] = false := by
  have h1 := List.all_eq_true.1 all_apart _ (zipIdx_mem TEXTS i hi)
  have h2 := List.all_eq_true.1 h1 _ (zipIdx_mem TEXTS j hj)
  have h3 : Nat.beq i j = false := Bool.eq_false_iff.2 fun q => h (Nat.eq_of_beq_eq_true q)
  simpa [h3] using h2
theorem snoc_ind {α : Type} {P : List α → Prop} (h0 : P []) (h1 : ∀ l c, P l → P (l ++ [c])) (l : List α) : P l := by
  have : ∀ n (l : List α), l.length = n → P l := by
    intro n
    induction n with
    | zero => intro l hl; rw [List.eq_nil_of_length_eq_zero hl]; exact h0
    | succ n ih =>
      intro l hl
      have hne : l ≠ [] := by intro h; rw [h] at hl; simp at hl
      rw [← List.dropLast_concat_getLast hne]
      exact h1 _ _ (ih _ (by simp [hl]))
  exact this _ l rfl
def isB (c : UInt8) : Bool := c == 48 || c == 49
def dg (c : UInt8) : Int := (c.toNat : Int) - 48
def vb (l : List UInt8) : Int := l.foldl (fun m c => 2 * m + dg c) 0
theorem isB_dg {c : UInt8} (h : isB c = true) : (c = 48 ∧ dg c = 0) ∨ (c = 49 ∧ dg c = 1) := by
  simp only [isB, Bool.or_eq_true, beq_iff_eq] at h
  rcases h with rfl | rfl
  · exact .inl ⟨rfl, rfl⟩
  · exact .inr ⟨rfl, rfl⟩
theorem vb_nil : vb [] = 0 := rfl
theorem vb_snoc (l : List UInt8) (c : UInt8) : vb (l ++ [c]) = 2 * vb l + dg c := by simp [vb, List.foldl_append]
theorem pow_pos' (n : Nat) : (0 : Int) < 2 ^ n := Int.pow_pos (by decide)
theorem vb_bd : ∀ l : List UInt8, l.all isB = true → 0 ≤ vb l ∧ vb l < 2 ^ l.length := by
  refine snoc_ind (fun _ => ⟨Int.le_refl 0, by decide⟩) fun l c ih h => ?_
  rw [List.all_append, Bool.and_eq_true] at h
  have h1 := ih h.1
  have h2 := isB_dg (c := c) (by simpa using h.2)
  rw [vb_snoc, List.length_append, List.length_singleton, Int.pow_succ]
  omega
theorem vb_inj : ∀ a b : List UInt8, a.all isB = true → b.all isB = true → a.length = b.length → vb a = vb b → a = b := by
  refine snoc_ind (fun b _ _ hl _ => (List.eq_nil_of_length_eq_zero (by simpa using hl.symm)).symm) fun a c ih => ?_
  refine snoc_ind (fun _ _ hl _ => by simp at hl) fun b d _ => ?_
  intro ha hb hl hv
  rw [List.all_append, Bool.and_eq_true] at ha hb
  rw [vb_snoc, vb_snoc] at hv
  have h1 := isB_dg (c := c) (by simpa using ha.2)
  have h2 := isB_dg (c := d) (by simpa using hb.2)
  have h3 : vb a = vb b := by omega
  have h4 := ih b ha.1 hb.1 (by simpa using hl) h3
  have h5 : c = d := by
    rcases h1 with ⟨rfl, e1⟩ | ⟨rfl, e1⟩ <;> rcases h2 with ⟨rfl, e2⟩ | ⟨rfl, e2⟩ <;> first | rfl | omega
  rw [h4, h5]
def ones (n : Nat) : List UInt8 := List.replicate n 49
theorem ones_all (n : Nat) : (ones n).all isB = true := by
  unfold ones
  rw [List.all_eq_true]
  intro c hc
  rw [List.eq_of_mem_replicate hc]
  rfl
theorem vb_ones : ∀ n : Nat, vb (ones n) = 2 ^ n - 1
  | 0 => rfl
  | n + 1 => by
    have : ones (n + 1) = ones n ++ [49] := by simp [ones, List.replicate_succ']
    rw [this, vb_snoc, vb_ones n, Int.pow_succ]
    have : dg 49 = 1 := rfl
    omega
theorem ones_iff (l : List UInt8) (h : l.all isB = true) : vb l = 2 ^ l.length - 1 ↔ l = ones l.length := by
  constructor
  · intro hv
    exact vb_inj l (ones l.length) h (ones_all _) (by simp [ones]) (by rw [hv, vb_ones])
  · intro hl
    have := vb_ones l.length
    rw [← hl] at this
    exact this
/-! a byte's bits -/
def b8 (x : Int) : List UInt8 := (List.range 8).map fun j => if (x / 2 ^ (7 - j)) % 2 = 1 then 49 else 48
theorem b8qlen (x : Int) : (b8 x).length = 8 := by simp [b8]
theorem b8qall (x : Int) : (b8 x).all isB = true := by
  rw [List.all_eq_true]
  intro c hc
  simp only [b8, List.mem_map] at hc
  obtain ⟨j, _, rfl⟩ := hc
  split <;> rfl
def bitsL (l : List Int) : List UInt8 := l.flatMap b8
theorem bitsL_cons (x : Int) (l : List Int) : bitsL (x :: l) = b8 x ++ bitsL l := by simp [bitsL]
theorem bitsL_len : ∀ l : List Int, (bitsL l).length = 8 * l.length
  | [] => rfl
  | x :: l => by
    rw [bitsL_cons, List.length_append, b8qlen, bitsL_len l, List.length_cons]
    omega
theorem bitsL_all : ∀ l : List Int, (bitsL l).all isB = true
  | [] => rfl
  | x :: l => by
    rw [bitsL_cons, List.all_append, b8qall, bitsL_all l]
    rfl
theorem bitsL_app (a b : List Int) : bitsL (a ++ b) = bitsL a ++ bitsL b := by simp [bitsL]
def tx (i : Nat) : List UInt8 := TEXTS.getD i []
def TT : List (List UInt8 × Int) := TEXTS.zipIdx.map fun q => (q.1, (q.2 : Int))
def ti (p : List UInt8) : Option Int := mget TT p
def enc (t : List UInt8) : S116 := ⟨vb t, t.length⟩
theorem codes_enc : CODES = TEXTS.map enc := by kernel_rfl
theorem texts_bits : (TEXTS.all fun t => t.all isB && Nat.ble 5 t.length && Nat.ble t.length 30) = true := by kernel_rfl
theorem all_ti : ((List.range 257).all fun i => ti (tx i) == some (i : Int)) = true := by kernel_rfl
/-! the codes' tree -/
inductive Tr
  | lf (i : Nat)
  | nd (l r : Tr)
def go : Tr → List UInt8 → Option Tr
  | t, [] => some t
  | .nd l r, c :: p => if c = 48 then go l p else go r p
  | .lf _, _ :: _ => none
def paths : Tr → List UInt8 → List (List UInt8 × Nat)
  | .lf i, pre => [(pre, i)]
  | .nd l r, pre => paths l (pre ++ [48]) ++ paths r (pre ++ [49])
def dep : Tr → Nat
  | .lf _ => 0
  | .nd l r => max (dep l) (dep r) + 1
theorem go_nil (t : Tr) : go t [] = some t := by cases t <;> rfl
theorem go_paths : ∀ (t : Tr) (p pre : List UInt8) (i : Nat), p.all isB = true → go t p = some (.lf i) → (pre ++ p, i) ∈ paths t pre := by
  intro t
  induction t with
  | lf j =>
    intro p pre i _ h
    cases p with
    | nil =>
      rw [go_nil] at h
      injection h with h
      injection h with h
      subst h
      simp [paths]
    | cons c p => simp [go] at h
  | nd l r ihl ihr =>
    intro p pre i hb h
    cases p with
    | nil =>
      rw [go_nil] at h
      injection h with h
      cases h
    | cons c p =>
      rw [List.all_cons, Bool.and_eq_true] at hb
      simp only [go] at h
      simp only [paths, List.mem_append]
      rcases isB_dg hb.1 with ⟨rfl, _⟩ | ⟨rfl, _⟩
      · rw [if_pos rfl] at h
        have := ihl p (pre ++ [48]) i hb.2 h
        rw [List.append_assoc] at this
        exact .inl this
      · rw [if_neg (by decide)] at h
        have := ihr p (pre ++ [49]) i hb.2 h
        rw [List.append_assoc] at this
        exact .inr this
theorem go_snoc : ∀ (t : Tr) (p : List UInt8) (c : UInt8), go t (p ++ [c]) = match go t p with | some (.nd l r) => some (if c = 48 then l else r) | _ => none := by
  intro t
  induction t with
  | lf j =>
    intro p c
    cases p with
    | nil => simp [go, go_nil]
    | cons d p => simp [go]
  | nd l r ihl ihr =>
    intro p c
    cases p with
    | nil =>
      simp only [List.nil_append, go, go_nil]
      split <;> rfl
    | cons d p =>
      simp only [List.cons_append, go]
      by_cases h : d = 48
      · rw [if_pos h, if_pos h]
        exact ihl p c
      · rw [if_neg h, if_neg h]
        exact ihr p c
theorem go_dep : ∀ (t : Tr) (p : List UInt8) (q : Tr), go t p = some q → p.length + dep q ≤ dep t := by
  intro t
  induction t with
  | lf j =>
    intro p q h
    cases p with
    | nil =>
      rw [go_nil] at h
      injection h with h
      subst h
      simp
    | cons d p => simp [go] at h
  | nd l r ihl ihr =>
    intro p q h
    cases p with
    | nil =>
      rw [go_nil] at h
      injection h with h
      subst h
      simp
    | cons d p =>
      simp only [go] at h
      simp only [dep, List.length_cons]
      by_cases hd : d = 48
      · rw [if_pos hd] at h
        have := ihl p q h
        omega
      · rw [if_neg hd] at h
        have := ihr p q h
        omega
def ROOT : Tr := .nd (.nd (.nd (.nd (.nd (.lf 48) (.lf 49)) (.nd (.lf 50) (.lf 97))) (.nd (.nd (.lf 99) (.lf 101)) (.nd (.lf 105) (.lf 111)))) (.nd (.nd (.nd (.lf 115)
  (.lf 116)) (.nd (.nd (.lf 32) (.lf 37)) (.nd (.lf 45) (.lf 46)))) (.nd (.nd (.nd (.lf 47) (.lf 51)) (.nd (.lf 52) (.lf 53))) (.nd (.nd (.lf 54) (.lf
  55)) (.nd (.lf 56) (.lf 57)))))) (.nd (.nd (.nd (.nd (.nd (.lf 61) (.lf 65)) (.nd (.lf 95) (.lf 98))) (.nd (.nd (.lf 100) (.lf 102)) (.nd (.lf 103)
  (.lf 104)))) (.nd (.nd (.nd (.lf 108) (.lf 109)) (.nd (.lf 110) (.lf 112))) (.nd (.nd (.lf 114) (.lf 117)) (.nd (.nd (.lf 58) (.lf 66)) (.nd (.lf 67)
  (.lf 68)))))) (.nd (.nd (.nd (.nd (.nd (.lf 69) (.lf 70)) (.nd (.lf 71) (.lf 72))) (.nd (.nd (.lf 73) (.lf 74)) (.nd (.lf 75) (.lf 76)))) (.nd (.nd
  (.nd (.lf 77) (.lf 78)) (.nd (.lf 79) (.lf 80))) (.nd (.nd (.lf 81) (.lf 82)) (.nd (.lf 83) (.lf 84))))) (.nd (.nd (.nd (.nd (.lf 85) (.lf 86)) (.nd
  (.lf 87) (.lf 89))) (.nd (.nd (.lf 106) (.lf 107)) (.nd (.lf 113) (.lf 118)))) (.nd (.nd (.nd (.lf 119) (.lf 120)) (.nd (.lf 121) (.lf 122))) (.nd
  (.nd (.nd (.lf 38) (.lf 42)) (.nd (.lf 44) (.lf 59))) (.nd (.nd (.lf 88) (.lf 90)) (.nd (.nd (.nd (.lf 33) (.lf 34)) (.nd (.lf 40) (.lf 41))) (.nd
  (.nd (.lf 63) (.nd (.lf 39) (.lf 43))) (.nd (.nd (.lf 124) (.nd (.lf 35) (.lf 62))) (.nd (.nd (.nd (.lf 0) (.lf 36)) (.nd (.lf 64) (.lf 91))) (.nd
  (.nd (.lf 93) (.lf 126)) (.nd (.nd (.lf 94) (.lf 125)) (.nd (.nd (.lf 60) (.lf 96)) (.nd (.lf 123) (.nd (.nd (.nd (.nd (.lf 92) (.lf 195)) (.nd (.lf
  208) (.nd (.lf 128) (.lf 130)))) (.nd (.nd (.nd (.lf 131) (.lf 162)) (.nd (.lf 184) (.lf 194))) (.nd (.nd (.lf 224) (.lf 226)) (.nd (.nd (.lf 153)
  (.lf 161)) (.nd (.lf 167) (.lf 172)))))) (.nd (.nd (.nd (.nd (.nd (.lf 176) (.lf 177)) (.nd (.lf 179) (.lf 209))) (.nd (.nd (.lf 216) (.lf 217)) (.nd
  (.lf 227) (.lf 229)))) (.nd (.nd (.nd (.lf 230) (.nd (.lf 129) (.lf 132))) (.nd (.nd (.lf 133) (.lf 134)) (.nd (.lf 136) (.lf 146)))) (.nd (.nd (.nd
  (.lf 154) (.lf 156)) (.nd (.lf 160) (.lf 163))) (.nd (.nd (.lf 164) (.lf 169)) (.nd (.lf 170) (.lf 173)))))) (.nd (.nd (.nd (.nd (.nd (.lf 178) (.lf
  181)) (.nd (.lf 185) (.lf 186))) (.nd (.nd (.lf 187) (.lf 189)) (.nd (.lf 190) (.lf 196)))) (.nd (.nd (.nd (.lf 198) (.lf 228)) (.nd (.lf 232) (.lf
  233))) (.nd (.nd (.nd (.lf 1) (.lf 135)) (.nd (.lf 137) (.lf 138))) (.nd (.nd (.lf 139) (.lf 140)) (.nd (.lf 141) (.lf 143)))))) (.nd (.nd (.nd (.nd
  (.nd (.lf 147) (.lf 149)) (.nd (.lf 150) (.lf 151))) (.nd (.nd (.lf 152) (.lf 155)) (.nd (.lf 157) (.lf 158)))) (.nd (.nd (.nd (.lf 165) (.lf 166))
  (.nd (.lf 168) (.lf 174))) (.nd (.nd (.lf 175) (.lf 180)) (.nd (.lf 182) (.lf 183))))) (.nd (.nd (.nd (.nd (.lf 188) (.lf 191)) (.nd (.lf 197) (.lf
  231))) (.nd (.nd (.lf 239) (.nd (.lf 9) (.lf 142))) (.nd (.nd (.lf 144) (.lf 145)) (.nd (.lf 148) (.lf 159))))) (.nd (.nd (.nd (.nd (.lf 171) (.lf
  206)) (.nd (.lf 215) (.lf 225))) (.nd (.nd (.lf 236) (.lf 237)) (.nd (.nd (.lf 199) (.lf 207)) (.nd (.lf 234) (.lf 235))))) (.nd (.nd (.nd (.nd (.nd
  (.lf 192) (.lf 193)) (.nd (.lf 200) (.lf 201))) (.nd (.nd (.lf 202) (.lf 205)) (.nd (.lf 210) (.lf 213)))) (.nd (.nd (.nd (.lf 218) (.lf 219)) (.nd
  (.lf 238) (.lf 240))) (.nd (.nd (.lf 242) (.lf 243)) (.nd (.lf 255) (.nd (.lf 203) (.lf 204)))))) (.nd (.nd (.nd (.nd (.nd (.lf 211) (.lf 212)) (.nd
  (.lf 214) (.lf 221))) (.nd (.nd (.lf 222) (.lf 223)) (.nd (.lf 241) (.lf 244)))) (.nd (.nd (.nd (.lf 245) (.lf 246)) (.nd (.lf 247) (.lf 248))) (.nd
  (.nd (.lf 250) (.lf 251)) (.nd (.lf 252) (.lf 253))))) (.nd (.nd (.nd (.nd (.lf 254) (.nd (.lf 2) (.lf 3))) (.nd (.nd (.lf 4) (.lf 5)) (.nd (.lf 6)
  (.lf 7)))) (.nd (.nd (.nd (.lf 8) (.lf 11)) (.nd (.lf 12) (.lf 14))) (.nd (.nd (.lf 15) (.lf 16)) (.nd (.lf 17) (.lf 18))))) (.nd (.nd (.nd (.nd (.lf
  19) (.lf 20)) (.nd (.lf 21) (.lf 23))) (.nd (.nd (.lf 24) (.lf 25)) (.nd (.lf 26) (.lf 27)))) (.nd (.nd (.nd (.lf 28) (.lf 29)) (.nd (.lf 30) (.lf
  31))) (.nd (.nd (.lf 127) (.lf 220)) (.nd (.lf 249) (.nd (.nd (.lf 10) (.lf 13)) (.nd (.lf 22) (.lf 256))))))))))))))))))))))))))))))
theorem root_dep : dep ROOT = 30 := by kernel_rfl
def isLf (t : Option Tr) (i : Nat) : Bool := match t with
  | some (.lf j) => Nat.beq i j
  | _ => false
theorem isLf_iff {t : Option Tr} {i : Nat} (h : isLf t i = true) : t = some (.lf i) := by
  match t, h with
  | some (.lf j), h =>
    have := Nat.eq_of_beq_eq_true h
    rw [this]
theorem all_go : (TEXTS.zipIdx.all fun q => isLf (go ROOT q.1) q.2) = true := by kernel_rfl
theorem all_paths : ((paths ROOT []).all fun q => Nat.blt q.2 257 && q.1 == tx q.2) = true := by kernel_rfl
theorem tx_eq (i : Nat) (h : i < TEXTS.length) : tx i = TEXTS[i] := by simp [tx, List.getD_eq_getElem?_getD, h]
theorem tx_bits (i : Nat) (hi : i < 257) : (tx i).all isB = true ∧ 5 ≤ (tx i).length ∧ (tx i).length ≤ 30 := by
  have h : i < TEXTS.length := by rw [TEXTS_len]; exact hi
  have := List.all_eq_true.1 texts_bits _ (List.getElem_mem h)
  rw [← tx_eq i h] at this
  simp only [Bool.and_eq_true] at this
  exact ⟨this.1.1, Nat.le_of_ble_eq_true this.1.2, Nat.le_of_ble_eq_true this.2⟩
theorem go_tx (i : Nat) (hi : i < 257) : go ROOT (tx i) = some (.lf i) := by
  have h : i < TEXTS.length := by rw [TEXTS_len]; exact hi
  have := List.all_eq_true.1 all_go _ (zipIdx_mem TEXTS i h)
  rw [tx_eq i h]
  exact isLf_iff this
theorem go_lf {p : List UInt8} {i : Nat} (hp : p.all isB = true) (h : go ROOT p = some (.lf i)) : i < 257 ∧ p = tx i := by
  have := List.all_eq_true.1 all_paths _ (go_paths ROOT p [] i hp h)
  simp only [List.nil_append, Bool.and_eq_true, beq_iff_eq] at this
  exact ⟨by have := this.1; simpa [Nat.blt, Nat.succ_le_iff] using this, this.2⟩
theorem mget_some {κ ν : Type} [DecidableEq κ] : ∀ (m : List (κ × ν)) (k : κ) (v : ν), mget m k = some v → (k, v) ∈ m
  | [], k, v, h => by simp [mget, midx] at h
  | p :: m, k, v, h => by
    unfold mget at h
    simp only [midx] at h
    by_cases hk : p.1 = k
    · rw [if_pos hk] at h
      simp only [Option.map_some, Option.some.injEq] at h
      subst hk
      subst h
      exact List.mem_cons_self
    · rw [if_neg hk] at h
      refine List.mem_cons_of_mem _ (mget_some m k v ?_)
      unfold mget
      cases hi : midx m k with
      | none => rw [hi] at h; simp at h
      | some q => rw [hi] at h; simpa using h
theorem ti_tx (i : Nat) (hi : i < 257) : ti (tx i) = some (i : Int) := by
  have := List.all_eq_true.1 all_ti i (by simpa using hi)
  simpa using this
theorem ti_some {p : List UInt8} {v : Int} (h : ti p = some v) : ∃ i : Nat, i < 257 ∧ v = (i : Int) ∧ p = tx i := by
  have := mget_some TT p v h
  simp only [TT, List.mem_map] at this
  obtain ⟨q, hq, e⟩ := this
  rw [List.mem_iff_getElem?] at hq
  obtain ⟨j, hj⟩ := hq
  rw [List.getElem?_zipIdx] at hj
  obtain ⟨w, hw, hj⟩ := Option.map_eq_some_iff.1 hj
  obtain ⟨hlt, hw⟩ := List.getElem?_eq_some_iff.1 hw
  subst hj
  simp only [Prod.mk.injEq] at e
  refine ⟨j, by rw [← TEXTS_len]; exact hlt, ?_, ?_⟩
  · rw [← e.2]
    simp
  · rw [tx_eq j hlt, hw]
    exact e.1.symm
/-- A path that ends inside the tree is no code. -/
theorem ti_inner {p : List UInt8} {l r : Tr} (h : go ROOT p = some (.nd l r)) : ti p = none := by
  cases hv : ti p with
  | none => rfl
  | some v =>
    obtain ⟨i, hi, _, rfl⟩ := ti_some hv
    rw [go_tx i hi] at h
    injection h with h
    cases h
def dec : List UInt8 → List UInt8 → List Int → Option (List Int × List UInt8)
  | p, [], out => some (out, p)
  | p, c :: s, out => match ti (p ++ [c]) with
    | some i => if i = 256 then none else dec [] s (out ++ [i])
    | none => dec (p ++ [c]) s out
def inner (p : List UInt8) : Prop := p.all isB = true ∧ ∃ l r, go ROOT p = some (.nd l r)
theorem inner_nil : inner [] := by
  refine ⟨rfl, ?_⟩
  rw [go_nil]
  exact ⟨_, _, rfl⟩
theorem inner_len {p : List UInt8} (h : inner p) : p.length ≤ 29 := by
  obtain ⟨_, l, r, h⟩ := h
  have := go_dep ROOT p _ h
  rw [root_dep] at this
  simp only [dep] at this
  omega
theorem inner_next {p : List UInt8} {c : UInt8} (h : inner p) (hc : isB c = true) : (∃ i, i < 257 ∧ p ++ [c] = tx i) ∨ inner (p ++ [c]) := by
  obtain ⟨hb, l, r, h⟩ := h
  have hb' : (p ++ [c]).all isB = true := by rw [List.all_append, hb]; simpa using hc
  have hs := go_snoc ROOT p c
  rw [h] at hs
  simp only at hs
  cases ht : (if c = 48 then l else r) with
  | lf i =>
    rw [ht] at hs
    obtain ⟨a, b⟩ := go_lf hb' hs
    exact .inl ⟨i, a, b⟩
  | nd l' r' =>
    rw [ht] at hs
    exact .inr ⟨hb', l', r', hs⟩
def KN : List (S116 × Int) := TT.map fun q => (enc q.1, q.2)
theorem enc_inj {a b : List UInt8} (ha : a.all isB = true) (hb : b.all isB = true) (h : enc a = enc b) : a = b := by
  simp only [enc, S116.mk.injEq] at h
  exact vb_inj a b ha hb (by omega) h.1
theorem mget_map {κ κ' ν : Type} [DecidableEq κ] [DecidableEq κ'] (f : κ → κ') : ∀ (l : List (κ × ν)) (k : κ), (∀ q ∈ l, f q.1 = f k → q.1 = k) → mget (l.map fun q => (f q.1, q.2)) (f k) = mget l k
  | [], k, _ => rfl
  | q :: l, k, h => by
    have ih := mget_map f l k fun q hq => h q (List.mem_cons_of_mem _ hq)
    unfold mget at ih ⊢
    simp only [List.map_cons, midx]
    by_cases hk : q.1 = k
    · rw [if_pos (by rw [hk]), if_pos hk]
    · rw [if_neg (fun e => hk (h q List.mem_cons_self e)), if_neg hk]
      simp only [Option.map_map] at ih ⊢
      exact ih
theorem TT_bits {q : List UInt8 × Int} (h : q ∈ TT) : q.1.all isB = true := by
  simp only [TT, List.mem_map] at h
  obtain ⟨w, hw, rfl⟩ := h
  have hw2 : w.1 ∈ TEXTS := by
    rw [List.mem_iff_getElem?] at hw
    obtain ⟨j, hj⟩ := hw
    rw [List.getElem?_zipIdx] at hj
    obtain ⟨v, hv, rfl⟩ := Option.map_eq_some_iff.1 hj
    exact List.mem_iff_getElem?.2 ⟨j, hv⟩
  have := List.all_eq_true.1 texts_bits _ hw2
  simp only [Bool.and_eq_true] at this
  exact this.1.1
theorem mget_KN (p : List UInt8) (hp : p.all isB = true) : mget KN (enc p) = ti p :=
  mget_map enc TT p fun q hq h => enc_inj (TT_bits hq) hp h
theorem TT_at (i : Nat) (hi : i < 257) : TT[i]? = some (tx i, (i : Int)) := by
  have h : i < TEXTS.length := by rw [TEXTS_len]; exact hi
  unfold TT
  rw [List.getElem?_map, List.getElem?_zipIdx, List.getElem?_eq_getElem h, tx_eq i h]
  simp
theorem TT_len : TT.length = 257 := by simp [TT, TEXTS_len]
theorem KN_at (i : Nat) (hi : i < 257) : KN[i]? = some (enc (tx i), (i : Int)) := by
  unfold KN
  rw [List.getElem?_map, TT_at i hi]
  rfl
theorem KN_len : KN.length = 257 := by simp [KN, TT_len]
theorem map_at {α β : Type} (l : List α) (f : α → β) (i : Nat) (h : i < l.length) : (l.map f)[i]? = some (f l[i]) := by simp [h]
theorem cd_at (i : Nat) (hi : i < 257) : gt z116 CODES (i : Int) = enc (tx i) := by
  have h : i < TEXTS.length := by rw [TEXTS_len]; exact hi
  have h2 : i < CODES.length := by rw [CODES_len]; exact hi
  rw [gt_nat z116 CODES i h2, tx_eq i h]
  have := map_at TEXTS enc i h
  rw [← codes_enc, List.getElem?_eq_getElem h2] at this
  exact Option.some.inj this
theorem known_no (i : Nat) (hi : i < 257) : mget (KN.take i) (enc (tx i)) = none := by
  cases hm : mget (KN.take i) (enc (tx i)) with
  | none => rfl
  | some v =>
    have h1 := mget_some _ _ _ hm
    rw [List.mem_iff_getElem?] at h1
    obtain ⟨j, hj⟩ := h1
    rw [List.getElem?_take] at hj
    split at hj
    · rename_i hlt
      rw [KN_at j (by omega)] at hj
      simp only [Option.some.injEq, Prod.mk.injEq] at hj
      have e := enc_inj (tx_bits j (by omega)).1 (tx_bits i hi).1 hj.1
      have e1 := ti_tx j (by omega)
      rw [e, ti_tx i hi] at e1
      simp only [Option.some.injEq] at e1
      omega
    · cases hj
/-- The answer, off what was read. -/
def fin : Option (List Int × List UInt8) → List UInt8 × Int
  | none => ([], 3)
  | some (out, p) => if p.length > 7 then ([], 3) else if vb p = 2 ^ p.length - 1 then (toS out, 0) else ([], 3)
theorem decode_l0 (p0 : List Int) (R : List UInt8 × Int) (F : Nat) (h1 : ∀ k, F ≤ k → huffman_Decode.l1 k [] 0 0 0 p0 KN = some R) : ∀ (m k i : Nat), i + m = 257 → F + m + 1 ≤ k → huffman_Decode.l0 k (KN.take i) i CODES p0 = some R := by
  intro m
  induction m with
  | zero =>
    intro k i hi hk
    obtain ⟨k, rfl⟩ : ∃ k', k = k' + 1 := ⟨k - 1, by omega⟩
    rw [huffman_Decode.l0, if_neg (by omega), List.take_of_length_le (by rw [KN_len]; omega)]
    exact h1 k (by omega)
  | succ m ih =>
    intro k i hi hk
    obtain ⟨k, rfl⟩ : ∃ k', k = k' + 1 := ⟨k - 1, by omega⟩
    have e : (⟨(gt z116 CODES (i : Int)).f0, (gt z116 CODES (i : Int)).f1⟩ : S116) = enc (tx i) := cd_at i (by omega)
    rw [huffman_Decode.l0, if_pos (by omega), if_pos (by omega), if_pos (by omega), e, if_pos (known_no i (by omega)), wi64 (by omega) (by omega), show (i : Int) + 1 = ((i + 1 : Nat) : Int) by omega]
    have e2 : KN.take i ++ [(enc (tx i), (i : Int))] = KN.take (i + 1) := by
      rw [List.take_add_one, KN_at i (by omega)]
      rfl
    rw [e2]
    exact ih k (i + 1) (by omega) (by omega)
def bitc (x : Int) (j : Nat) : UInt8 := if (x / 2 ^ j) % 2 = 1 then 49 else 48
theorem bitc_dg (x : Int) (j : Nat) : dg (bitc x j) = (x / 2 ^ j) % 2 := by
  unfold bitc
  split
  · rename_i h
    rw [h]
    rfl
  · have : (x / 2 ^ j) % 2 = 0 := by omega
    rw [this]
    rfl
theorem bitc_isB (x : Int) (j : Nat) : isB (bitc x j) = true := by
  unfold bitc
  split <;> rfl
theorem b8qdrop (x : Int) (m : Nat) (h : m < 8) : (b8 x).drop (8 - (m + 1)) = bitc x m :: (b8 x).drop (8 - m) := by
  have hlt : 8 - (m + 1) < (b8 x).length := by rw [b8qlen]; omega
  rw [List.drop_eq_getElem_cons hlt, show 8 - (m + 1) + 1 = 8 - m by omega]
  congr 1
  simp only [b8, List.getElem_map, List.getElem_range]
  rw [show 7 - (8 - (m + 1)) = m by omega]
  rfl
theorem step_key {p : List UInt8} (hp : inner p) {x : Int} (h0 : 0 ≤ x) (h1 : x < 256) (j : Nat) (hj : j < 8) :
    (⟨bOr .u32 (shlI .u32 (vb p) 1) (bAnd .u32 (IntKind.u32.wrap (shrI .u8 x (j : Int))) 1), IntKind.u8.wrap ((p.length : Int) + 1)⟩ : S116) = enc (p ++ [bitc x j]) := by
  have hb := vb_bd p hp.1
  have hl := inner_len hp
  have hpow : (2 : Int) ^ p.length ≤ 2 ^ 29 := pow_le hl
  have e0 : (2 : Int) ^ 29 = 536870912 := by decide
  have ej : (0 : Int) < 2 ^ j := pow_pos' j
  have hq0 : 0 ≤ x / 2 ^ j := Int.ediv_nonneg h0 (by omega)
  have hq1 : x / 2 ^ j ≤ x := Int.ediv_le_self _ h0
  have e1 : shlI .u32 (vb p) 1 = 2 ^ 1 * vb p := by
    rw [shlI_eq .u32 rfl (by decide) hb.1 (by show vb p * 2 ^ 1 < 2 ^ 32; omega)]
    show vb p * 2 ^ 1 = _
    omega
  have e2 : shrI .u8 x (j : Int) = x / 2 ^ j := by
    rw [shrI_eq .u8 (by rw [Int.toNat_natCast]; show j ≤ 8; omega), Int.toNat_natCast]
  have e3 : bAnd .u32 (x / 2 ^ j) 1 = (x / 2 ^ j) % 2 := by
    have := bAnd_mask .u32 rfl 1 (by decide) (x := x / 2 ^ j) hq0 (by show x / 2 ^ j < 2 ^ 32; omega)
    simpa using this
  rw [e1, e2, wu32 (by omega) (by omega), e3]
  have e4 := bOr_add .u32 rfl 1 (q := vb p) (c := (x / 2 ^ j) % 2) hb.1 (by omega) (by omega) (by show 2 ^ 1 * vb p + (x / 2 ^ j) % 2 < 2 ^ 32; omega)
  rw [e4, wu8 (by omega) (by omega)]
  unfold enc
  rw [vb_snoc, bitc_dg]
  simp
theorem decode_l2 (p0 : List Int) (i : Nat) (hi : i < p0.length) (hil : p0.length ≤ 100000) (x : Int) (hx : gt (0 : Int) p0 (i : Int) = x) (h0 : 0 ≤ x) (h1 : x < 256) (F : Nat)
    (hl1 : ∀ (k : Nat) (p : List UInt8) (out : List Int), inner p → out.length ≤ 8 * (i + 1) → F ≤ k → huffman_Decode.l1 k out (vb p) p.length ((i + 1 : Nat) : Int) p0 KN = some (fin (dec p (bitsL (p0.drop (i + 1))) out))) :
    ∀ (m k : Nat) (p : List UInt8) (out : List Int), m ≤ 8 → inner p → out.length + m ≤ 8 * (i + 1) → F + m + 1 ≤ k → huffman_Decode.l2 k out (vb p) p.length ((m : Int) - 1) p0 KN i = some (fin (dec p ((b8 x).drop (8 - m) ++ bitsL (p0.drop (i + 1))) out)) := by
  intro m
  induction m with
  | zero =>
    intro k p out hm hp ho hk
    obtain ⟨k, rfl⟩ : ∃ k', k = k' + 1 := ⟨k - 1, by omega⟩
    rw [huffman_Decode.l2, if_neg (by omega), wi64 (by omega) (by omega), show (i : Int) + 1 = ((i + 1 : Nat) : Int) by omega, List.drop_eq_nil_of_le (by rw [b8qlen]; omega), List.nil_append]
    exact hl1 k p out hp (by omega) (by omega)
  | succ m ih =>
    intro k p out hm hp ho hk
    obtain ⟨k, rfl⟩ : ∃ k', k = k' + 1 := ⟨k - 1, by omega⟩
    have ej : (((m + 1 : Nat) : Int) - 1) = (m : Int) := by omega
    have hpb : (p ++ [bitc x m]).all isB = true := by rw [List.all_append, hp.1]; simpa using bitc_isB x m
    rw [ej, huffman_Decode.l2, if_pos (by omega), if_pos (by omega), hx, step_key hp h0 h1 m (by omega), mget_KN _ hpb, b8qdrop x m (by omega), List.cons_append, dec]
    rw [wi64 (x := (m : Int) - 1) (by omega) (by omega)]
    rcases inner_next hp (bitc_isB x m) with ⟨s, hs, e⟩ | hn
    · rw [e, ti_tx s hs]
      simp only [Option.isSome_some, Option.getD_some, if_true]
      by_cases h256 : (s : Int) = 256
      · rw [if_pos h256, if_pos h256]
        rfl
      · rw [if_neg h256, if_neg h256, if_pos (by omega)]
        simp only [lt1]
        rw [wu8 (by omega) (by omega)]
        exact ih k [] (out ++ [(s : Int)]) (by omega) inner_nil (by simp; omega) (by omega)
    · obtain ⟨_, l, r, hg⟩ := id hn
      rw [ti_inner hg]
      simp only [Option.isSome_none, Bool.false_eq_true, if_false]
      have hk2 := step_key hp h0 h1 m (by omega)
      simp only [enc, S116.mk.injEq] at hk2
      rw [hk2.1, hk2.2]
      exact ih k (p ++ [bitc x m]) out (by omega) hn (by omega) (by omega)
theorem decode_l1 (p0 : List Int) (hil : p0.length ≤ 100000) (hb : ∀ x ∈ p0, 0 ≤ x ∧ x < 256) : ∀ (n k i : Nat) (p : List UInt8) (out : List Int), i + n = p0.length → inner p → out.length ≤ 8 * i → 10 * n + 1 ≤ k → huffman_Decode.l1 k out (vb p) p.length i p0 KN = some (fin (dec p (bitsL (p0.drop i)) out)) := by
  intro n
  induction n with
  | zero =>
    intro k i p out hi hp ho hk
    obtain ⟨k, rfl⟩ : ∃ k', k = k' + 1 := ⟨k - 1, by omega⟩
    rw [huffman_Decode.l1, if_neg (by omega), List.drop_eq_nil_of_le (by omega)]
    show _ = some (if p.length > 7 then ([], 3) else if vb p = 2 ^ p.length - 1 then (toS out, 0) else ([], 3))
    by_cases h7 : p.length > 7
    · rw [if_pos (by omega), if_pos h7]
    · rw [if_neg (by omega), if_neg h7, if_pos (by omega)]
      have hpw : (2 : Int) ^ p.length ≤ 2 ^ 7 := pow_le (by omega)
      have hp0 := pow_pos' p.length
      have e7 : (2 : Int) ^ 7 = 128 := by decide
      have e1 : shlI .u32 1 (p.length : Int) = 2 ^ p.length := by
        rw [shlI_eq .u32 rfl (by rw [Int.toNat_natCast]; show p.length ≤ 32; omega) (by omega) (by rw [Int.toNat_natCast, Int.one_mul]; show (2 : Int) ^ p.length < 2 ^ 32; omega), Int.toNat_natCast, Int.one_mul]
      rw [e1, wu32 (by omega) (by omega)]
      by_cases hv : vb p = 2 ^ p.length - 1
      · rw [if_pos hv, if_pos hv]
      · rw [if_neg hv, if_neg hv]
  | succ n ih =>
    intro k i p out hi hp ho hk
    obtain ⟨k, rfl⟩ : ∃ k', k = k' + 1 := ⟨k - 1, by omega⟩
    have hlt : i < p0.length := by omega
    have hx : gt (0 : Int) p0 (i : Int) = p0[i] := gt_nat 0 p0 i hlt
    have hb2 := hb _ (List.getElem_mem hlt)
    have := decode_l2 p0 i hlt hil p0[i] hx hb2.1 hb2.2 (10 * n + 1) (fun k p out hp ho hk => ih k (i + 1) p out (by omega) hp ho hk) 8 k p out (by omega) hp (by omega) (by omega)
    rw [huffman_Decode.l1, if_pos (by omega), if_pos (by omega), List.drop_eq_getElem_cons hlt, bitsL_cons]
    simpa using this
theorem decode_f (p0 : List Int) (hil : p0.length ≤ 100000) (hb : ∀ x ∈ p0, 0 ≤ x ∧ x < 256) (k : Nat) (hk : 2000000 ≤ k) : huffman_Decode.f k p0 = some (fin (dec [] (bitsL p0) [])) := by
  unfold huffman_Decode.f
  rw [codes_at k (by omega)]
  simp only [bnd1]
  have h1 : ∀ k, 10 * p0.length + 1 ≤ k → huffman_Decode.l1 k [] 0 0 0 p0 KN = some (fin (dec [] (bitsL p0) [])) := by
    intro k hk
    have := decode_l1 p0 hil hb p0.length k 0 [] [] (by omega) inner_nil (by simp) hk
    simpa [vb_nil] using this
  have := decode_l0 p0 _ _ h1 257 k 0 (by omega) (by omega)
  simpa using this
theorem drop_all {r : List UInt8} (h : r.all isB = true) (n : Nat) : (r.drop n).all isB = true := by
  rw [List.all_eq_true] at h ⊢
  exact fun c hc => h c (List.mem_of_mem_drop hc)
theorem bitsL_one (x : Int) : bitsL [x] = b8 x := by simp [bitsL]
theorem pick_bit (d : Int) (h : d = 0 ∨ d = 1) : ((([48, 49] : List UInt8).take (IntKind.u8.wrap (d + 1)).toNat).drop d.toNat) = [if d = 1 then 49 else 48] := by
  rcases h with rfl | rfl <;> rfl
theorem bits_l1 (p0 : List Int) (i : Nat) (hi : i < p0.length) (acc : List UInt8) (hacc : acc.length ≤ 100000000) (x : Int) (h0 : 0 ≤ x) (h1 : x < 256) (F : Nat) (R : List UInt8) (hl0 : ∀ k, F ≤ k → louverref03qbits.l0 k (acc ++ b8 x) ((i + 1 : Nat) : Int) p0 = some R) (hil : p0.length ≤ 100000) :
    ∀ (m k j : Nat), j + m = 8 → F + m + 1 ≤ k → louverref03qbits.l1 k (x / 2 ^ j) ((b8 x).drop (8 - j)) j p0 acc i = some R := by
  intro m
  induction m with
  | zero =>
    intro k j hj hk
    obtain ⟨k, rfl⟩ : ∃ k', k = k' + 1 := ⟨k - 1, by omega⟩
    have : j = 8 := by omega
    subst this
    rw [louverref03qbits.l1, if_neg (by omega), List.drop_zero, if_pos (by rw [b8qlen]; omega), wi64 (by omega) (by omega), show (i : Int) + 1 = ((i + 1 : Nat) : Int) by omega]
    exact hl0 k (by omega)
  | succ m ih =>
    intro k j hj hk
    obtain ⟨k, rfl⟩ : ∃ k', k = k' + 1 := ⟨k - 1, by omega⟩
    have ej := pow_pos' j
    have hq0 : 0 ≤ x / 2 ^ j := Int.ediv_nonneg h0 (by omega)
    have hq1 : x / 2 ^ j ≤ x := Int.ediv_le_self _ h0
    have ed : Int.tmod (x / 2 ^ j) 2 = (x / 2 ^ j) % 2 := Int.tmod_eq_emod_of_nonneg hq0
    have ed2 : Int.tdiv (x / 2 ^ j) 2 = (x / 2 ^ j) / 2 := Int.tdiv_eq_ediv_of_nonneg hq0
    have hd : (x / 2 ^ j) % 2 = 0 ∨ (x / 2 ^ j) % 2 = 1 := by omega
    have ep : x / 2 ^ j / 2 = x / 2 ^ (j + 1) := by rw [Int.pow_succ, ← Int.ediv_ediv_of_nonneg (by omega)]
    have hlen : ((b8 x).drop (8 - j)).length ≤ 8 := by rw [List.length_drop, b8qlen]; omega
    have hw : IntKind.u8.wrap ((x / 2 ^ j) % 2 + 1) = (x / 2 ^ j) % 2 + 1 := wu8 (by omega) (by omega)
    have hb := b8qdrop x j (by omega)
    rw [louverref03qbits.l1, if_pos (by omega), ed, if_pos (by omega), if_pos (by rw [hw]; omega), if_pos (by rw [hw]; simp; omega), pick_bit _ hd, if_pos (by simp only [List.length_singleton]; omega), ed2, ep, wu8 (by rw [← ep]; omega) (by rw [← ep]; omega), wi64 (by omega) (by omega), show (j : Int) + 1 = ((j + 1 : Nat) : Int) by omega]
    have e2 : [if (x / 2 ^ j) % 2 = 1 then (49 : UInt8) else 48] ++ (b8 x).drop (8 - j) = (b8 x).drop (8 - (j + 1)) := by
      rw [hb]
      rfl
    rw [e2]
    exact ih k (j + 1) (by omega) (by omega)
theorem bits_l0 (p0 : List Int) (hil : p0.length ≤ 100000) (hb : ∀ x ∈ p0, 0 ≤ x ∧ x < 256) : ∀ (n k i : Nat), i + n = p0.length → 10 * n + 1 ≤ k → louverref03qbits.l0 k (bitsL (p0.take i)) i p0 = some (bitsL p0) := by
  intro n
  induction n with
  | zero =>
    intro k i hi hk
    obtain ⟨k, rfl⟩ : ∃ k', k = k' + 1 := ⟨k - 1, by omega⟩
    rw [louverref03qbits.l0, if_neg (by omega), List.take_of_length_le (by omega)]
  | succ n ih =>
    intro k i hi hk
    obtain ⟨k, rfl⟩ : ∃ k', k = k' + 1 := ⟨k - 1, by omega⟩
    have hlt : i < p0.length := by omega
    have hb2 := hb _ (List.getElem_mem hlt)
    have e : gt (0 : Int) p0 (i : Int) = p0[i] := gt_nat 0 p0 i hlt
    have e2 : bitsL (p0.take i) ++ b8 p0[i] = bitsL (p0.take (i + 1)) := by
      rw [List.take_succ_eq_append_getElem hlt, bitsL_app, bitsL_one]
    have := bits_l1 p0 i hlt (bitsL (p0.take i)) (by rw [bitsL_len, List.length_take]; omega) p0[i] hb2.1 hb2.2 (10 * n + 1) (bitsL p0) (fun k hk => by rw [e2]; exact ih k (i + 1) (by omega) hk) hil 8 k 0 (by omega) (by omega)
    rw [louverref03qbits.l0, if_pos (by omega), if_pos (by omega), e]
    have e8 : (b8 p0[i]).drop (8 - 0) = [] := List.drop_eq_nil_of_le (by rw [b8qlen]; omega)
    rw [e8] at this
    simpa using this
theorem bits_f (p0 : List Int) (hil : p0.length ≤ 100000) (hb : ∀ x ∈ p0, 0 ≤ x ∧ x < 256) (k : Nat) (hk : 10 * p0.length + 1 ≤ k) : louverref03qbits.f k p0 = some (bitsL p0) := by
  have := bits_l0 p0 hil hb p0.length k 0 (by omega) hk
  simpa [louverref03qbits.f, bitsL] using this
/-! codes at a place -/
theorem begins_f (T s : List UInt8) (a : Nat) (ha : a ≤ s.length) (hs : s.length ≤ 100000000) (hT : T.length ≤ 1000) : louverref03qbegins.f T s a = some (decide ((s.drop a).take T.length = T)) := by
  unfold louverref03qbegins.f
  have e : IntKind.i64.wrap ((a : Int) + (T.length : Int)) = ((a + T.length : Nat) : Int) := by rw [wi64 (by omega) (by omega)]; omega
  rw [e]
  by_cases h : ((a + T.length : Nat) : Int) ≤ (s.length : Int)
  · rw [if_pos h, if_pos (by omega), if_pos (by omega), Int.toNat_natCast, Int.toNat_natCast]
    have : (s.take (a + T.length)).drop a = (s.drop a).take T.length := by
      rw [List.drop_take, show a + T.length - a = T.length by omega]
    rw [this]
  · rw [if_neg h]
    have : ¬ ((s.drop a).take T.length = T) := by
      intro q
      have := congrArg List.length q
      rw [List.length_take, List.length_drop] at this
      omega
    simp [this]
def at_ (r : List UInt8) (i : Nat) : Prop := r.take (tx i).length = tx i
theorem at_one {r : List UInt8} {i j : Nat} (hi : i < 257) (hj : j < 257) (h1 : at_ r i) (h2 : at_ r j) : i = j := by
  have ti' : i < TEXTS.length := by rw [TEXTS_len]; exact hi
  have tj' : j < TEXTS.length := by rw [TEXTS_len]; exact hj
  have key : ∀ i j : Nat, ∀ (hi : i < TEXTS.length) (hj : j < TEXTS.length), at_ r i → at_ r j → (tx i).length ≤ (tx j).length → i = j := by
    intro i j hi hj h1 h2 hl
    refine Classical.byContradiction fun hne => ?_
    have h3 := apart i j hi hj hne
    have h4 : (tx j).take (tx i).length = tx i := by
      unfold at_ at h1 h2
      rw [← h2, List.take_take, Nat.min_eq_left hl]
      exact h1
    rw [tx_eq i hi, tx_eq j hj] at h4
    rw [begins_of _ _ h4] at h3
    cases h3
  rcases Nat.le_total (tx i).length (tx j).length with h | h
  · exact key i j ti' tj' h1 h2 h
  · exact (key j i tj' ti' h2 h1 h).symm
theorem dec_code_aux (i : Nat) (hi : i < 257) (r : List UInt8) (out : List Int) : ∀ (q p : List UInt8), inner p → p ++ q = tx i → q ≠ [] → dec p (q ++ r) out = if (i : Int) = 256 then none else dec [] r (out ++ [(i : Int)])
  | [], p, _, _, hq => absurd rfl hq
  | c :: q, p, hp, h, _ => by
    have hb := (tx_bits i hi).1
    rw [← h, List.all_append, Bool.and_eq_true, List.all_cons, Bool.and_eq_true] at hb
    rw [List.cons_append, dec]
    have e : p ++ [c] ++ q = tx i := by rw [← h]; simp
    rcases inner_next hp hb.2.1 with ⟨j, hj, ej⟩ | hn
    · have h1 : at_ (tx i) i := by unfold at_; rw [List.take_length]
      have h2 : at_ (tx i) j := by
        unfold at_
        rw [← ej, ← e, List.take_left']
        rfl
      have := at_one hi hj h1 h2
      subst this
      have hq : q = [] := by
        have := congrArg List.length e
        rw [List.length_append, ej] at this
        exact List.eq_nil_of_length_eq_zero (by omega)
      rw [ej, ti_tx i hi, hq]
      rfl
    · obtain ⟨_, l, r', hg⟩ := id hn
      rw [ti_inner hg]
      refine dec_code_aux i hi r out q (p ++ [c]) hn e ?_
      intro hq
      rw [hq, List.append_nil] at e
      rw [e, go_tx i hi] at hg
      injection hg with hg
      cases hg
theorem dec_code (i : Nat) (hi : i < 257) (r : List UInt8) (out : List Int) : dec [] (tx i ++ r) out = if (i : Int) = 256 then none else dec [] r (out ++ [(i : Int)]) := by
  refine dec_code_aux i hi r out (tx i) [] inner_nil rfl ?_
  intro h
  have := (tx_bits i hi).2.1
  rw [h] at this
  simp at this
theorem dec_none_aux (r : List UInt8) (hn : ∀ i, i < 257 → ¬ at_ r i) (hr : r.all isB = true) (out : List Int) : ∀ (q p : List UInt8), inner p → p ++ q = r → dec p q out = some (out, r)
  | [], p, hp, h => by
    rw [List.append_nil] at h
    rw [dec, h]
  | c :: q, p, hp, h => by
    have hb := hr
    rw [← h, List.all_append, Bool.and_eq_true, List.all_cons, Bool.and_eq_true] at hb
    have e : p ++ [c] ++ q = r := by rw [← h]; simp
    rw [dec]
    rcases inner_next hp hb.2.1 with ⟨j, hj, ej⟩ | hi
    · refine absurd ?_ (hn j hj)
      unfold at_
      rw [← ej, ← e, List.take_left']
      rfl
    · obtain ⟨_, l, r', hg⟩ := id hi
      rw [ti_inner hg]
      exact dec_none_aux r hn hr out q (p ++ [c]) hi e
theorem dec_none (r : List UInt8) (hn : ∀ i, i < 257 → ¬ at_ r i) (hr : r.all isB = true) (out : List Int) : dec [] r out = some (out, r) := dec_none_aux r hn hr out r [] inner_nil rfl
/-! the document's Decode -/
theorem l3qf (s : List UInt8) (out : List Int) (hs : s.length ≤ 1000000) (hb : s.all isB = true) : ∀ (n k a : Nat), a + n = s.length → n + 1 ≤ k → louverref03qDecode.l3 k a s out = some (if s.drop a = ones n then (toS out, 0) else ([], 3)) := by
  intro n
  induction n with
  | zero =>
    intro k a ha hk
    obtain ⟨k, rfl⟩ : ∃ k', k = k' + 1 := ⟨k - 1, by omega⟩
    rw [louverref03qDecode.l3, if_neg (by omega), List.drop_eq_nil_of_le (by omega), if_pos (by rfl)]
  | succ n ih =>
    intro k a ha hk
    obtain ⟨k, rfl⟩ : ∃ k', k = k' + 1 := ⟨k - 1, by omega⟩
    have hlt : a < s.length := by omega
    have eb : btI s (a : Int) = ((s[a]).toNat : Int) := by simp [btI, List.getD_eq_getElem?_getD, hlt]
    have hbb := isB_dg (List.all_eq_true.1 hb _ (List.getElem_mem hlt))
    have eo : ones (n + 1) = 49 :: ones n := rfl
    rw [louverref03qDecode.l3, if_pos (by omega), if_pos (by omega), eb, List.drop_eq_getElem_cons hlt, eo]
    rcases hbb with ⟨e, _⟩ | ⟨e, _⟩
    · rw [e, if_neg (by decide), if_neg (by simp)]
    · rw [e, if_pos (by decide), wi64 (by omega) (by omega), show (a : Int) + 1 = ((a + 1 : Nat) : Int) by omega, ih k (a + 1) (by omega) (by omega)]
      by_cases h : s.drop (a + 1) = ones n
      · rw [if_pos h, if_pos (by rw [h])]
      · rw [if_neg h, if_neg (by simpa using h)]
theorem j0qf (s : List UInt8) (out : List Int) (hs : s.length ≤ 1000000) (hb : s.all isB = true) (k a : Nat) (ha : a ≤ s.length) (hk : s.length + 10 ≤ k) : louverref03qDecode.j0 k out a s = some (fin (some (out, s.drop a))) := by
  obtain ⟨k, rfl⟩ : ∃ k', k = k' + 1 := ⟨k - 1, by omega⟩
  have hl : (s.drop a).length = s.length - a := List.length_drop
  rw [louverref03qDecode.j0, wi64 (by omega) (by omega)]
  show _ = some (if (s.drop a).length > 7 then ([], 3) else if vb (s.drop a) = 2 ^ (s.drop a).length - 1 then (toS out, 0) else ([], 3))
  by_cases h7 : (s.drop a).length > 7
  · rw [if_pos (by omega), if_pos h7]
  · rw [if_neg (by omega), if_neg h7, l3qf s out hs hb (s.length - a) k a (by omega) (by omega)]
    have := ones_iff (s.drop a) (drop_all hb a)
    rw [hl] at this ⊢
    by_cases hv : s.drop a = ones (s.length - a)
    · rw [if_pos hv, if_pos (this.2 hv)]
    · rw [if_neg hv, if_neg (fun q => hv (this.1 q))]
theorem txg (i : Nat) : gt [] TEXTS (i : Int) = tx i := by simp [gt, tx]
def fnum : Option Nat → Nat → Int
  | some i, j => if i < j then (i : Int) else -1
  | none, _ => -1
theorem l2qf (s : List UInt8) (out : List Int) (hs : s.length ≤ 1000000) (a : Nat) (ha : a ≤ s.length) (M : Option Nat) (hM : ∀ j, j < 257 → (at_ (s.drop a) j ↔ M = some j)) (F : Nat) (R : Option (List UInt8 × Int))
    (hend : ∀ k, F ≤ k → louverref03qDecode.l2 (k + 1) (fnum M 257) 257 TEXTS s out a = R) : ∀ (m k j : Nat), j + m = 257 → F + m + 1 ≤ k → louverref03qDecode.l2 k (fnum M j) j TEXTS s out a = R := by
  intro m
  induction m with
  | zero =>
    intro k j hj hk
    obtain ⟨k, rfl⟩ : ∃ k', k = k' + 1 := ⟨k - 1, by omega⟩
    have hj2 : j = 257 := by omega
    subst hj2
    exact hend k (by omega)
  | succ m ih =>
    intro k j hj hk
    obtain ⟨k, rfl⟩ : ∃ k', k = k' + 1 := ⟨k - 1, by omega⟩
    have hb := tx_bits j (by omega)
    rw [louverref03qDecode.l2, if_pos (by rw [TEXTS_len]; omega), if_pos (by omega), txg, begins_f _ _ a ha (by omega) (by omega)]
    simp only [bnd1, decide_eq_true_eq]
    rw [wi64 (by omega) (by omega), show (j : Int) + 1 = ((j + 1 : Nat) : Int) by omega]
    have hiff := hM j (by omega)
    unfold at_ at hiff
    by_cases h : (s.drop a).take (tx j).length = tx j
    · rw [if_pos h]
      have e := hiff.1 h
      have := ih k (j + 1) (by omega) (by omega)
      have e2 : fnum M (j + 1) = (j : Int) := by
        rw [e]
        show (if j < j + 1 then (j : Int) else -1) = _
        rw [if_pos (by omega)]
      rw [e2] at this
      exact this
    · rw [if_neg h]
      have := ih k (j + 1) (by omega) (by omega)
      have e2 : fnum M (j + 1) = fnum M j := by
        cases hMM : M with
        | none => rfl
        | some i =>
          have hne : i ≠ j := fun q => h (hiff.2 (by rw [hMM, q]))
          show (if i < j + 1 then (i : Int) else -1) = (if i < j then (i : Int) else -1)
          by_cases h2 : i < j
          · rw [if_pos h2, if_pos (by omega)]
          · rw [if_neg h2, if_neg (by omega)]
      rw [e2] at this
      exact this
theorem rdec_l1 (s : List UInt8) (hs : s.length ≤ 1000000) (hb : s.all isB = true) : ∀ (n k a : Nat) (out : List Int), s.length - a ≤ n → a ≤ s.length → out.length ≤ a → 300 * n + 2000000 ≤ k → louverref03qDecode.l1 k out a s TEXTS = some (fin (dec [] (s.drop a) out)) := by
  intro n
  induction n with
  | zero =>
    intro k a out hn ha ho hk
    obtain ⟨k, rfl⟩ : ∃ k', k = k' + 1 := ⟨k - 1, by omega⟩
    rw [louverref03qDecode.l1, if_neg (by omega), j0qf s out (by omega) hb k a ha (by omega), List.drop_eq_nil_of_le (by omega)]
    rfl
  | succ n ih =>
    intro k a out hn ha ho hk
    obtain ⟨k, rfl⟩ : ∃ k', k = k' + 1 := ⟨k - 1, by omega⟩
    by_cases hlt : a < s.length
    · rw [louverref03qDecode.l1, if_pos (by omega)]
      have hdb := drop_all hb a
      by_cases hex : ∃ i, i < 257 ∧ at_ (s.drop a) i
      · obtain ⟨i, hi, hat⟩ := hex
        have hsp : s.drop a = tx i ++ s.drop (a + (tx i).length) := by
          unfold at_ at hat
          have := List.take_append_drop (tx i).length (s.drop a)
          rw [hat, List.drop_drop] at this
          exact this.symm
        have hle : a + (tx i).length ≤ s.length := by
          have := congrArg List.length hsp
          rw [List.length_append, List.length_drop, List.length_drop] at this
          omega
        have htb := tx_bits i hi
        refine l2qf s out (by omega) a ha (some i) (fun j hj => ⟨fun h => by rw [at_one hi hj hat h], fun h => by injection h with h; subst h; exact hat⟩) (300 * n + 2000000) _ ?_ 257 k 0 (by omega) (by omega)
        intro k hk
        have e257 : fnum (some i) 257 = (i : Int) := if_pos hi
        rw [louverref03qDecode.l2, if_neg (by rw [TEXTS_len]; omega), hsp, dec_code i hi, e257]
        by_cases h256 : (i : Int) = 256
        · rw [if_pos h256, if_pos h256]
          rfl
        · rw [if_neg h256, if_neg h256, if_neg (by omega), if_pos (by omega)]
          simp only [lt1]
          rw [if_pos (by omega), if_pos (by rw [TEXTS_len]; omega), txg, wu8 (by omega) (by omega), wi64 (by omega) (by omega)]
          have e : (a : Int) + ((tx i).length : Int) = ((a + (tx i).length : Nat) : Int) := by omega
          rw [e]
          exact ih k (a + (tx i).length) _ (by omega) hle (by simp; omega) hk
      · have hno : ∀ i, i < 257 → ¬ at_ (s.drop a) i := fun i hi h => hex ⟨i, hi, h⟩
        refine l2qf s out (by omega) a ha none (fun j hj => ⟨fun h => absurd h (hno j hj), fun h => by cases h⟩) (300 * n + 2000000) _ ?_ 257 k 0 (by omega) (by omega)
        intro k hk
        rw [louverref03qDecode.l2, if_neg (by rw [TEXTS_len]; omega), dec_none _ hno hdb]
        show (if (-1 : Int) = 256 then _ else if (-1 : Int) < 0 then _ else _) = _
        rw [if_neg (by omega), if_pos (by omega)]
        exact j0qf s out (by omega) hb k a ha (by omega)
    · rw [louverref03qDecode.l1, if_neg (by omega), j0qf s out (by omega) hb k a ha (by omega), List.drop_eq_nil_of_le (by omega)]
      rfl
theorem rdecode_f (p0 : List Int) (hil : p0.length ≤ 100000) (hb : ∀ x ∈ p0, 0 ≤ x ∧ x < 256) (k : Nat) (hk : 400000000 ≤ k) : louverref03qDecode.f k p0 = some (fin (dec [] (bitsL p0) [])) := by
  unfold louverref03qDecode.f
  rw [texts_at k (by omega), bits_f p0 (by omega) hb k (by omega)]
  simp only [bnd1]
  have hl := bitsL_len p0
  have := rdec_l1 (bitsL p0) (by omega) (bitsL_all p0) (bitsL p0).length k 0 [] (by omega) (by omega) (by simp) (by omega)
  simpa using this
end HX
namespace TX
def tab : List S52 → List (List UInt8)
  | [] => []
  | x :: l => x.f0 :: x.f1 :: tab l
theorem table_f : louverref04qTable.f = some (tab G0) := by kernel_rfl
theorem tab_len : ∀ l : List S52, (tab l).length = 2 * l.length
  | [] => rfl
  | x :: l => by simp only [tab, List.length_cons, tab_len l]; omega
theorem all_at : ((List.range 61).all fun (i : Nat) => match statics_At.f ((i + 1 : Nat) : Int), louverref04qAt.f ((i + 1 : Nat) : Int) with
  | some (f, ok), some (a, b, ok2) => decide (f.f0 = a) && decide (f.f1 = b) && !f.f2 && ok && ok2
  | _, _ => false) = true := by kernel_rfl
theorem at_in {n : Int} (h : 1 ≤ n ∧ n ≤ 61) : ∃ i : Nat, i ∈ List.range 61 ∧ n = ((i + 1 : Nat) : Int) := ⟨(n - 1).toNat, by simp; omega, by omega⟩
theorem at_eq (n : Int) : ∃ f ok, statics_At.f n = some (f, ok) ∧ louverref04qAt.f n = some (f.f0, f.f1, ok) ∧ f.f2 = false ∧ (ok = true ↔ 1 ≤ n ∧ n ≤ 61) ∧ (ok = false → f = ⟨[], [], false⟩) := by
  by_cases h : 1 ≤ n ∧ n ≤ 61
  · obtain ⟨i, hi, rfl⟩ := at_in h
    have := List.all_eq_true.1 all_at i hi
    revert this
    generalize statics_At.f ((i + 1 : Nat) : Int) = x
    generalize louverref04qAt.f ((i + 1 : Nat) : Int) = y
    intro this
    match x, y, this with
    | some (f, ok), some (a, b, ok2), this =>
      simp only [Bool.and_eq_true, decide_eq_true_eq, Bool.not_eq_true'] at this
      obtain ⟨⟨⟨⟨rfl, rfl⟩, h3⟩, rfl⟩, rfl⟩ := this
      exact ⟨f, true, rfl, rfl, h3, by simpa using h, by simp⟩
  · have e1 : statics_At.f n = some ((⟨[], [], false⟩ : S52), false) := by
      unfold statics_At.f
      by_cases h1 : n < 1
      · rw [if_pos h1]
      · rw [if_neg h1, if_pos (by omega)]
    have e2 : louverref04qAt.f n = some ([], [], false) := by
      unfold louverref04qAt.f
      rw [table_f]
      simp only [bnd1]
      by_cases h1 : n < 1
      · rw [if_pos h1]
      · rw [if_neg h1, if_pos]
        rw [tab_len, G0qlen]
        have : IntKind.i64.wrap (Int.tdiv ((2 * 61 : Nat) : Int) 2) = 61 := by decide
        rw [this]
        omega
    exact ⟨_, false, e1, e2, rfl, by simpa using h, by simp⟩
def rwl : List S52 → Int → Int → List S52
  | [], _, _ => []
  | x :: l, n, m => if n + fsz x > m then [] else x :: rwl l (n + fsz x) m
theorem rwl_all : ∀ (l : List S52) (n m : Int), n + tsz l ≤ m → rwl l n m = l
  | [], _, _, _ => rfl
  | x :: l, n, m, h => by
    simp only [tsz] at h
    have := tsz_lo l
    unfold rwl
    rw [if_neg (by omega), rwl_all l (n + fsz x) m (by omega)]
theorem rwl_more : ∀ (l : List S52) (x : S52) (n m : Int), n + tsz l + fsz x > m → rwl (l ++ [x]) n m = rwl l n m
  | [], x, n, m, h => by
    simp only [tsz] at h
    simp only [List.nil_append, rwl]
    rw [if_pos (by omega)]
  | y :: l, x, n, m, h => by
    simp only [tsz] at h
    simp only [List.cons_append, rwl]
    split
    · rfl
    · rw [rwl_more l x (n + fsz y) m (by omega)]
theorem keep_rwl : ∀ (l : List S52) (lim : Int), (keep l lim).reverse = rwl l.reverse 0 lim
  | [], _ => rfl
  | x :: l, lim => by
    unfold keep
    split
    · rename_i h
      simp only [tsz] at h
      rw [keep_rwl l lim, List.reverse_cons, rwl_more _ _ _ _ (by rw [tsz_rev]; omega)]
    · rename_i h
      rw [rwl_all _ _ _ (by rw [tsz_rev]; omega)]
/-! the code -/
theorem rsize_f (f : S52) (h : fsz f < 4611686018427387904) : louverref05qSize.f f = some (fsz f) := by
  have := fsz_lo f
  unfold fsz at h this
  unfold louverref05qSize.f fsz
  rw [wi64 (by rw [wi64] <;> omega) (by rw [wi64] <;> omega), wi64 (by omega) (by omega)]
  congr 1
  omega
def twin (t : S79) : S43 := ⟨t.f0.reverse, t.f2⟩
theorem rwithin_l0 (T : S43) (m : Int) (ht : tsz T.f0 < 4294967296) (hl : T.f0.length < 4294967296) : ∀ (q k j : Nat) (out : List S52) (n : Int), j + q = T.f0.length → q < k → 0 ≤ n → n + tsz (T.f0.drop j) ≤ tsz T.f0 → out.length ≤ j →
    louverref05qT_Within.l0 k out n j T m = some (⟨out ++ rwl (T.f0.drop j) n m, T.f1⟩ : S43) := by
  intro q
  induction q with
  | zero =>
    intro k j out n hj hk hn hs ho
    obtain ⟨k, rfl⟩ : ∃ k', k = k' + 1 := ⟨k - 1, by omega⟩
    rw [louverref05qT_Within.l0, if_neg (by omega), List.drop_eq_nil_of_le (by omega)]
    simp [rwl]
  | succ q ih =>
    intro k j out n hj hk hn hs ho
    obtain ⟨k, rfl⟩ : ∃ k', k = k' + 1 := ⟨k - 1, by omega⟩
    have hd := drop_at' z52 T.f0 j (by omega)
    rw [hd] at hs ⊢
    simp only [tsz] at hs
    have h1 := tsz_lo (T.f0.drop (j + 1))
    have h2 := fsz_lo (gt z52 T.f0 (j : Int))
    rw [louverref05qT_Within.l0, if_pos (by omega), if_pos (by omega), eta, rsize_f _ (by omega)]
    simp only [bnd1, lt1]
    rw [wi64 (by omega) (by omega), wi64 (by omega) (by omega), rwl]
    by_cases hc : n + fsz (gt z52 T.f0 (j : Int)) > m
    · rw [if_pos hc, if_pos hc, List.append_nil]
    · rw [if_neg hc, if_neg hc, if_pos (by omega), show (j : Int) + 1 = ((j + 1 : Nat) : Int) by omega, ih k (j + 1) _ _ (by omega) (by omega) (by omega) (by omega) (by simp; omega)]
      simp
theorem rwithin_f (l : List S52) (M m : Int) (ht : tsz l < 4294967296) (k : Nat) (hk : l.length < k) : louverref05qT_Within.f k (⟨l.reverse, M⟩ : S43) m = some (⟨(keep l m).reverse, M⟩ : S43) := by
  have h1 := tsz_lo l
  have := rwithin_l0 (⟨l.reverse, M⟩ : S43) m (by dsimp only; rw [tsz_rev]; exact ht) (by simp; omega) l.length k 0 [] 0 (by simp) hk (by omega) (by simp) (by simp)
  simp only [List.drop_zero, List.nil_append] at this
  rw [keep_rwl]
  exact this
theorem radd_f (t : S79) (f : S52) (h : Tok t) (hf : okF f) (k : Nat) (hk : 134217728 < k) : louverref05qT_Add.f k (twin t) f = some (twin (tb (addL t.f0 t.f2 f) t.f2)) := by
  have h1 := fsz_hi hf
  have h2 := fsz_lo f
  have h3 := tsz_lo t.f0
  have hlen := h.len
  obtain ⟨a, b, c⟩ := id h
  unfold louverref05qT_Add.f
  rw [eta, rsize_f f (by omega)]
  simp only [bnd1]
  have e0 : (⟨(twin t).f0, IntKind.i64.wrap ((twin t).f1 - fsz f)⟩ : S43) = ⟨t.f0.reverse, t.f2 - fsz f⟩ := by
    show (⟨t.f0.reverse, IntKind.i64.wrap (t.f2 - fsz f)⟩ : S43) = _
    rw [wi64 (by omega) (by omega)]
  have e1 : IntKind.i64.wrap ((twin t).f1 - fsz f) = t.f2 - fsz f := by
    show IntKind.i64.wrap (t.f2 - fsz f) = _
    rw [wi64 (by omega) (by omega)]
  rw [e1]
  have e2 : (⟨(twin t).f0, (twin t).f1⟩ : S43) = ⟨t.f0.reverse, t.f2⟩ := rfl
  rw [e2, rwithin_f t.f0 t.f2 _ (by omega) k (by omega)]
  simp only [bnd1, lt1]
  unfold addL
  by_cases hc : fsz f > t.f2
  · rw [if_pos hc, if_pos hc, keep_none _ (by omega)]
    rfl
  · have h6 := tsz_lo (keep t.f0 (t.f2 - fsz f))
    have h7 := suf_len (keep_suf t.f0 (t.f2 - fsz f))
    rw [if_neg hc, if_neg hc, if_pos (by simp; omega)]
    simp [twin, tb, strip]
theorem rlimit_f (t : S79) (m : Int) (h : Tok t) (k : Nat) (hk : 134217728 < k) : louverref05qT_Limit.f k (twin t) m = some (twin (tb (keep t.f0 m) m)) := by
  have hlen := h.len
  obtain ⟨a, b, c⟩ := id h
  unfold louverref05qT_Limit.f
  have e2 : (⟨(twin t).f0, m⟩ : S43) = ⟨t.f0.reverse, m⟩ := rfl
  rw [e2, rwithin_f t.f0 m _ (by omega) k (by omega)]
  rfl
theorem rsize_l0 (T : S43) (ht : tsz T.f0 < 4294967296) (hl : T.f0.length < 4294967296) : ∀ (q k j : Nat) (n : Int), j + q = T.f0.length → q < k → 0 ≤ n → n + tsz (T.f0.drop j) = tsz T.f0 → louverref05qT_Size.l0 k n j T = some (tsz T.f0) := by
  intro q
  induction q with
  | zero =>
    intro k j n hj hk hn hs
    obtain ⟨k, rfl⟩ : ∃ k', k = k' + 1 := ⟨k - 1, by omega⟩
    rw [List.drop_eq_nil_of_le (by omega)] at hs
    simp only [tsz] at hs
    rw [louverref05qT_Size.l0, if_neg (by omega), ← hs]
    simp
  | succ q ih =>
    intro k j n hj hk hn hs
    obtain ⟨k, rfl⟩ : ∃ k', k = k' + 1 := ⟨k - 1, by omega⟩
    have hd := drop_at' z52 T.f0 j (by omega)
    rw [hd] at hs
    simp only [tsz] at hs
    have h1 := tsz_lo (T.f0.drop (j + 1))
    have h2 := fsz_lo (gt z52 T.f0 (j : Int))
    rw [louverref05qT_Size.l0, if_pos (by omega), if_pos (by omega), eta, rsize_f _ (by omega)]
    simp only [bnd1]
    rw [wi64 (by omega) (by omega), wi64 (by omega) (by omega), show (j : Int) + 1 = ((j + 1 : Nat) : Int) by omega]
    exact ih k (j + 1) _ (by omega) (by omega) (by omega) (by omega)
theorem tsize_f (t : S79) (h : Tok t) (k : Nat) (hk : 134217728 < k) : louverref05qT_Size.f k (twin t) = some t.f1 := by
  have hlen := h.len
  have h3 := tsz_lo t.f0
  obtain ⟨a, b, c⟩ := id h
  have e : tsz (twin t).f0 = t.f1 := by
    show tsz t.f0.reverse = _
    rw [tsz_rev, a]
  unfold louverref05qT_Size.f
  have := rsize_l0 (twin t) (by omega) (by simp [twin]; omega) (twin t).f0.length k 0 0 (by omega) (by simp [twin]; omega) (by omega) (by simp)
  rw [e] at this
  exact this
/-! numbers and fields -/
theorem at_hi (t : S79) (i : Nat) (h : i < t.f0.length) (hl : t.f0.length ≤ 134217728) : dyntable_Table_At.f t ((62 + i : Nat) : Int) = some (gt z52 t.f0.reverse (i : Int), true) := by
  obtain ⟨f, ok, h1, h2, h3, h4, h5⟩ := at_eq ((62 + i : Nat) : Int)
  have hok : ok = false := by
    cases ok with
    | false => rfl
    | true => have := h4.1 rfl; omega
  unfold dyntable_Table_At.f statics_Len.f dyntable_Table_Len.f
  rw [h1, hok]
  simp only [bnd1, bnd2]
  rw [if_neg (by simp), if_neg (by omega), wi64 (by omega) (by omega), if_neg (by omega), wi64 (by omega) (by omega), if_pos (by omega), if_pos (by omega), gt_rev _ _ h]
  have e : (t.f0.length : Int) - (((62 + i : Nat) : Int) - 61) = ((t.f0.length - 1 - i : Nat) : Int) := by omega
  rw [e]
theorem tat_eq (t : S79) (n : Int) (hn : okI .i64 n) (hl : t.f0.length ≤ 134217728) : ∃ r ok, dyntable_Table_At.f t n = some (r, ok) ∧ louverref05qT_At.f (twin t) n = some (r, ok) := by
  rw [okI_i64] at hn
  obtain ⟨f, ok, h1, h2, h3, h4, h5⟩ := at_eq n
  have e0 : (twin t).f0.length = t.f0.length := by simp [twin]
  cases ok with
  | true =>
    refine ⟨f, true, ?_, ?_⟩
    · unfold dyntable_Table_At.f
      rw [h1]
      rfl
    · unfold louverref05qT_At.f
      rw [h2, ← h3]
      rfl
  | false =>
    have hr : ¬ (1 ≤ n ∧ n ≤ 61) := fun h => by have := h4.2 h; simp at this
    by_cases hi : n < 62
    · refine ⟨⟨[], [], false⟩, false, ?_, ?_⟩
      · unfold dyntable_Table_At.f statics_Len.f
        rw [h1]
        simp only [bnd1, bnd2]
        rw [if_neg (by simp), if_pos (by omega)]
      · unfold louverref05qT_At.f
        rw [h2]
        simp only [bnd3]
        rw [if_neg (by simp), if_pos hi]
    · by_cases hj : n - 62 < t.f0.length
      · obtain ⟨i, rfl⟩ : ∃ i : Nat, n = ((62 + i : Nat) : Int) := ⟨(n - 62).toNat, by omega⟩
        refine ⟨_, true, at_hi t i (by omega) hl, ?_⟩
        unfold louverref05qT_At.f
        rw [h2]
        simp only [bnd3]
        rw [if_neg (by simp), if_neg hi, wi64 (by omega) (by omega), e0, if_neg (by omega), if_pos (by omega), if_pos (by omega)]
        have e : ((62 + i : Nat) : Int) - 62 = (i : Int) := by omega
        rw [e]
        rfl
      · refine ⟨⟨[], [], false⟩, false, ?_, ?_⟩
        · unfold dyntable_Table_At.f statics_Len.f dyntable_Table_Len.f
          rw [h1]
          simp only [bnd1, bnd2]
          rw [if_neg (by simp), if_neg (by omega), wi64 (by omega) (by omega), if_pos (by omega)]
        · unfold louverref05qT_At.f
          rw [h2]
          simp only [bnd3]
          rw [if_neg (by simp), if_neg hi, wi64 (by omega) (by omega), e0, if_pos (by omega)]
/-! finding -/
end TX
open PX (byts gd tp pre)
open TX (twin)
def hd (x : List Int) : List UInt8 × Int := HX.fin (HX.dec [] (HX.bitsL x) [])
theorem hdec_f (x : List Int) (hl : x.length ≤ 100000) (hb : byts x) (k : Nat) (hk : 2000000 ≤ k) : huffman_Decode.f k x = some (hd x) := HX.decode_f x hl hb k hk
theorem rhdec_f (x : List Int) (hl : x.length ≤ 100000) (hb : byts x) (k : Nat) (hk : 400000000 ≤ k) : louverref03qDecode.f k x = some (hd x) := HX.rdecode_f x hl hb k hk
theorem dv_bd : ∀ (r : List Int) (i : Nat) (acc : Int), 0 ≤ acc → byts r → (PX.dv i acc r).2.2 = 0 → 0 ≤ (PX.dv i acc r).1 ∧ (PX.dv i acc r).1 ≤ 268435456 ∧ (i : Int) + 2 ≤ (PX.dv i acc r).2.1 ∧ (PX.dv i acc r).2.1 ≤ i + 1 + r.length
  | [], i, acc, h, hb, he => by simp [PX.dv] at he
  | t :: r, i, acc, h, hb, he => by
    have hp : (0 : Int) < 128 ^ i := Int.pow_pos (by decide)
    have ht : 0 ≤ t % 128 * 128 ^ i := Int.mul_nonneg (by omega) (by omega)
    unfold PX.dv at he ⊢
    by_cases h4 : i = 4
    · rw [if_pos h4] at he
      cases he
    · rw [if_neg h4] at he ⊢
      by_cases h5 : t < 128
      · rw [if_pos h5] at he ⊢
        by_cases h6 : acc + t % 128 * 128 ^ i > 268435456
        · rw [if_pos h6] at he
          cases he
        · rw [if_neg h6]
          simp only [List.length_cons]
          omega
      · rw [if_neg h5] at he ⊢
        have := dv_bd r (i + 1) (acc + t % 128 * 128 ^ i) (by omega) (fun x hx => hb x (List.mem_cons_of_mem _ hx)) he
        simp only [List.length_cons]
        omega
theorem gd_bd {p : List Int} {n : Int} (hb : byts p) (h1 : 1 ≤ n) (h2 : n ≤ 8) (he : (gd p n).2.2 = 0) : 0 ≤ (gd p n).1 ∧ (gd p n).1 ≤ 268435456 ∧ 1 ≤ (gd p n).2.1 ∧ (gd p n).2.1 ≤ p.length := by
  have ht := PX.tp_bd h1 h2
  cases p with
  | nil => simp [gd] at he
  | cons t r =>
    have hm : 0 ≤ t % tp n ∧ t % tp n < tp n := ⟨Int.emod_nonneg _ (by omega), Int.emod_lt_of_pos _ (by omega)⟩
    unfold gd at he ⊢
    simp only at he ⊢
    by_cases hc : t % tp n < tp n - 1
    · rw [if_pos hc]
      simp only [List.length_cons]
      omega
    · rw [if_neg hc] at he ⊢
      have := dv_bd r 0 (t % tp n) hm.1 (fun x hx => hb x (List.mem_cons_of_mem _ hx)) he
      simp only [List.length_cons]
      omega
theorem byts_drop {l : List Int} (h : byts l) (n : Nat) : byts (l.drop n) := fun x hx => h x (List.mem_of_mem_drop hx)
theorem byts_take {l : List Int} (h : byts l) (n : Nat) : byts (l.take n) := fun x hx => h x (List.mem_of_mem_take hx)
theorem number_f (r : S66) (n : Int) (hb : byts r.f1) (hl : r.f1.length ≤ 100000) (h1 : 1 ≤ n) (h2 : n ≤ 8) (k : Nat) (hk : 6 ≤ k) :
    hpack_reader_number.f k r n = some (if (gd r.f1 n).2.2 = 0 then ((gd r.f1 n).1, (⟨r.f0, r.f1.drop (gd r.f1 n).2.1.toNat, r.f2⟩ : S66)) else (0, ⟨r.f0, [], true⟩)) := by
  obtain ⟨k, rfl⟩ : ∃ k', k = k' + 6 := ⟨k - 6, by omega⟩
  unfold hpack_reader_number.f
  rw [PX.get_f k hb h1 h2]
  have hg := gd_bd hb h1 h2
  revert hg
  obtain ⟨v, u, e⟩ := gd r.f1 n
  intro hg
  simp only [bnd3] at hg ⊢
  by_cases he : e = 0
  · have := hg he
    rw [if_pos he, if_pos (by omega), if_pos (by omega), wi64 (by omega) (by omega), if_pos he]
  · rw [if_neg he, if_neg he]
def txs (r : List Int) : Option (List UInt8 × Int) :=
  if (gd r 7).2.2 = 0 then
    if (gd r 7).2.1 + (gd r 7).1 > r.length then none
    else if gt 0 r 0 < 128 then some (toS ((r.drop (gd r 7).2.1.toNat).take (gd r 7).1.toNat), (gd r 7).2.1 + (gd r 7).1)
    else if (hd ((r.drop (gd r 7).2.1.toNat).take (gd r 7).1.toNat)).2 = 0 then some ((hd ((r.drop (gd r 7).2.1.toNat).take (gd r 7).1.toNat)).1, (gd r 7).2.1 + (gd r 7).1) else none
  else none
theorem txs_nil : txs [] = none := by simp [txs, gd]
theorem rdtext_f (r : S66) (hb : byts r.f1) (hl : r.f1.length ≤ 100000) (k : Nat) (hk : 2000000 ≤ k) : ∃ s r', hpack_reader_text.f k r = some (s, r') ∧ r'.f0 = r.f0 ∧ r'.f1 <:+ r.f1 ∧
    ((r.f2 = false ∧ ∃ u, txs r.f1 = some (s, u) ∧ r' = ⟨r.f0, r.f1.drop u.toNat, false⟩) ∨ (r'.f2 = true ∧ (r.f2 = true ∨ txs r.f1 = none))) := by
  unfold hpack_reader_text.f
  by_cases h0 : r.f1.length = 0
  · have h0' : r.f1 = [] := List.eq_nil_of_length_eq_zero h0
    rw [if_pos (by omega)]
    exact ⟨_, _, rfl, rfl, List.suffix_refl _, .inr ⟨rfl, .inr (by rw [h0', txs_nil])⟩⟩
  · rw [if_neg (by omega), if_pos (by omega), number_f r 7 hb hl (by omega) (by omega) k (by omega)]
    by_cases he : (gd r.f1 7).2.2 = 0
    · obtain ⟨v0, v1, u1, u2⟩ := gd_bd hb (by omega) (by omega) he
      rw [if_pos he]
      simp only [bnd2, List.length_drop]
      by_cases hv : (gd r.f1 7).2.1 + (gd r.f1 7).1 > r.f1.length
      · rw [if_pos (by omega)]
        exact ⟨_, _, rfl, rfl, List.nil_suffix, .inr ⟨rfl, .inr (by unfold txs; rw [if_pos he, if_pos hv])⟩⟩
      · rw [if_neg (by omega), if_pos v0, if_pos (by omega)]
        have hdd : (r.f1.drop (gd r.f1 7).2.1.toNat).drop (gd r.f1 7).1.toNat = r.f1.drop ((gd r.f1 7).2.1 + (gd r.f1 7).1).toNat := by
          rw [List.drop_drop]
          congr 1
          omega
        by_cases hc : gt 0 r.f1 0 < 128
        · rw [if_pos hc]
          refine ⟨_, _, rfl, rfl, (List.drop_suffix _ _).trans (List.drop_suffix _ _), ?_⟩
          by_cases hf : r.f2 = true
          · exact .inr ⟨hf, .inl hf⟩
          · refine .inl ⟨by simpa using hf, _, by unfold txs; rw [if_pos he, if_neg hv, if_pos hc], ?_⟩
            rw [hdd, Bool.not_eq_true] at *
            rw [hf]
        · rw [if_neg hc, hdec_f _ (by simp only [List.length_take, List.length_drop]; omega) (byts_take (byts_drop hb _) _) k hk]
          simp only [bnd2]
          by_cases hf : r.f2 = true
          · rw [if_pos hf]
            exact ⟨_, _, rfl, rfl, (List.drop_suffix _ _).trans (List.drop_suffix _ _), .inr ⟨rfl, .inl hf⟩⟩
          · rw [if_neg hf]
            refine ⟨_, _, rfl, rfl, (List.drop_suffix _ _).trans (List.drop_suffix _ _), ?_⟩
            by_cases h2 : (hd ((r.f1.drop (gd r.f1 7).2.1.toNat).take (gd r.f1 7).1.toNat)).2 = 0
            · exact .inl ⟨by simpa using hf, _, by unfold txs; rw [if_pos he, if_neg hv, if_neg hc, if_pos h2], by rw [hdd, h2]; rfl⟩
            · exact .inr ⟨by simp [h2], .inr (by unfold txs; rw [if_pos he, if_neg hv, if_neg hc, if_neg h2])⟩
    · rw [if_neg he]
      simp only [bnd2]
      rw [if_neg (by simp), if_pos (by omega), if_pos (by simp)]
      have hn : txs r.f1 = none := by unfold txs; rw [if_neg he]
      by_cases hc : gt 0 r.f1 0 < 128
      · rw [if_pos hc]
        exact ⟨_, _, rfl, rfl, by simp, .inr ⟨rfl, .inr hn⟩⟩
      · rw [if_neg hc, hdec_f _ (by simp) (by simp [byts]) k hk]
        simp only [bnd2]
        rw [if_pos trivial]
        exact ⟨_, _, rfl, rfl, by simp, .inr ⟨rfl, .inr hn⟩⟩
theorem gt_drop (b : List Int) (i : Nat) : gt 0 b (i : Int) = gt 0 (b.drop i) 0 := by simp [gt, List.getD_eq_getElem?_getD]
theorem rtext_f (b : List Int) (i : Nat) (hb : byts b) (hl : b.length ≤ 100000) (h : i ≤ b.length) (k : Nat) (hk : 400000000 ≤ k) : ∃ s nx ok, louverref06qtext.f k b i = some (s, nx, ok) ∧
    ((∃ u, txs (b.drop i) = some (s, u) ∧ nx = i + u ∧ ok = true) ∨ (txs (b.drop i) = none ∧ ok = false)) := by
  obtain ⟨k, rfl⟩ : ∃ k', k = k' + 9 := ⟨k - 9, by omega⟩
  unfold louverref06qtext.f
  rw [if_pos (by omega), if_pos (by omega), Int.toNat_natCast, PX.rget_f k (byts_drop hb i) (by omega) (by omega)]
  have hg := gd_bd (byts_drop hb i) (n := 7) (by omega) (by omega)
  by_cases he : (gd (b.drop i) 7).2.2 = 0
  · obtain ⟨v0, v1, u1, u2⟩ := hg he
    rw [List.length_drop] at u2
    simp only [bnd3]
    rw [if_pos he, wi64 (x := (gd (b.drop i) 7).1) (by omega) (by omega), wi64 (x := (i : Int) + (gd (b.drop i) 7).2.1) (by omega) (by omega), wi64 (by omega) (by omega)]
    by_cases hv : (gd (b.drop i) 7).2.1 + (gd (b.drop i) 7).1 > (b.drop i).length
    · rw [if_pos (by rw [List.length_drop] at hv; omega)]
      exact ⟨_, _, _, rfl, .inr ⟨by unfold txs; rw [if_pos he, if_pos hv], rfl⟩⟩
    · have hv' := hv
      rw [List.length_drop] at hv'
      rw [if_neg (by omega), if_pos (by omega), if_pos (by omega), if_pos (by omega), if_pos (by omega)]
      have hx : (b.take ((i : Int) + (gd (b.drop i) 7).2.1 + (gd (b.drop i) 7).1).toNat).drop ((i : Int) + (gd (b.drop i) 7).2.1).toNat = ((b.drop i).drop (gd (b.drop i) 7).2.1.toNat).take (gd (b.drop i) 7).1.toNat := by
        rw [List.drop_take, List.drop_drop]
        congr 1
        · omega
        · congr 1
          omega
      rw [hx, gt_drop b i]
      by_cases hc : gt 0 (b.drop i) 0 < 128
      · rw [if_pos hc]
        exact ⟨_, _, _, rfl, .inl ⟨_, by unfold txs; rw [if_pos he, if_neg hv, if_pos hc], by omega, rfl⟩⟩
      · rw [if_neg hc, rhdec_f _ (by simp only [List.length_take, List.length_drop]; omega) (byts_take (byts_drop (byts_drop hb _) _) _) _ (by omega)]
        simp only [bnd2]
        by_cases h2 : (hd (((b.drop i).drop (gd (b.drop i) 7).2.1.toNat).take (gd (b.drop i) 7).1.toNat)).2 = 0
        · exact ⟨_, _, _, rfl, .inl ⟨_, by unfold txs; rw [if_pos he, if_neg hv, if_neg hc, if_pos h2], by omega, decide_eq_true h2⟩⟩
        · exact ⟨_, _, _, rfl, .inr ⟨by unfold txs; rw [if_pos he, if_neg hv, if_neg hc, if_neg h2], decide_eq_false h2⟩⟩
  · simp only [bnd3]
    rw [if_neg he]
    exact ⟨_, _, _, rfl, .inr ⟨by unfold txs; rw [if_neg he], rfl⟩⟩
theorem dec_len : ∀ (q p : List UInt8) (out o : List Int) (p' : List UInt8), HX.dec p q out = some (o, p') → o.length ≤ out.length + q.length
  | [], p, out, o, p', h => by
    simp only [HX.dec, Option.some.injEq, Prod.mk.injEq] at h
    obtain ⟨rfl, _⟩ := h
    omega
  | c :: s, p, out, o, p', h => by
    unfold HX.dec at h
    simp only [List.length_cons]
    split at h
    · split at h
      · cases h
      · have := dec_len s _ _ _ _ h
        simp only [List.length_append, List.length_cons, List.length_nil] at this
        omega
    · have := dec_len s _ _ _ _ h
      omega
theorem toS_len (l : List Int) : (toS l).length = l.length := by simp [toS]
theorem hd_len (x : List Int) : (hd x).1.length ≤ 8 * x.length := by
  have h0 := HX.bitsL_len x
  unfold hd
  match e : HX.dec [] (HX.bitsL x) [] with
  | none => simp [HX.fin]
  | some (o, p) =>
    have := dec_len _ _ _ _ _ e
    simp only [List.length_nil] at this
    simp only [HX.fin]
    split
    · simp
    · split
      · rw [toS_len]
        omega
      · simp
theorem txs_bd {r : List Int} {s : List UInt8} {u : Int} (hb : byts r) (h : txs r = some (s, u)) : 1 ≤ u ∧ u ≤ r.length ∧ s.length ≤ 8 * r.length := by
  unfold txs at h
  by_cases he : (gd r 7).2.2 = 0
  · obtain ⟨v0, v1, u1, u2⟩ := gd_bd hb (by omega) (by omega) he
    rw [if_pos he] at h
    by_cases hv : (gd r 7).2.1 + (gd r 7).1 > r.length
    · rw [if_pos hv] at h
      cases h
    · rw [if_neg hv] at h
      by_cases hc : gt 0 r 0 < 128
      · rw [if_pos hc] at h
        simp only [Option.some.injEq, Prod.mk.injEq] at h
        obtain ⟨rfl, rfl⟩ := h
        rw [toS_len]
        simp only [List.length_take, List.length_drop]
        omega
      · rw [if_neg hc] at h
        split at h
        · simp only [Option.some.injEq, Prod.mk.injEq] at h
          obtain ⟨rfl, rfl⟩ := h
          have := hd_len ((r.drop (gd r 7).2.1.toNat).take (gd r 7).1.toNat)
          simp only [List.length_take, List.length_drop] at this
          omega
        · cases h
  · rw [if_neg he] at h
    cases h
def tat (t : S79) (n : Int) : S52 × Bool := (dyntable_Table_At.f t n).getD (z52, false)
theorem all_small : ((List.range 61).all fun (i : Nat) => match statics_At.f ((i + 1 : Nat) : Int) with
    | some (f, ok) => decide (f.f0.length ≤ 1000) && decide (f.f1.length ≤ 1000) && !f.f2 && ok
    | _ => false) = true := by kernel_rfl
theorem at1 (n : Int) : ∃ f ok, statics_At.f n = some (f, ok) ∧ f.f2 = false ∧ (ok = true ↔ 1 ≤ n ∧ n ≤ 61) ∧ (ok = false → f = ⟨[], [], false⟩) ∧ f.f0.length ≤ 1000 ∧ f.f1.length ≤ 1000 := by
  by_cases h : 1 ≤ n ∧ n ≤ 61
  · obtain ⟨i, rfl⟩ : ∃ i : Nat, n = ((i + 1 : Nat) : Int) := ⟨(n - 1).toNat, by omega⟩
    have ha := (List.all_eq_true.1 all_small) i (by simp; omega)
    revert ha
    match statics_At.f ((i + 1 : Nat) : Int) with
    | none => intro ha; cases ha
    | some (f, ok) =>
      intro ha
      simp only [Bool.and_eq_true, decide_eq_true_eq, Bool.not_eq_true'] at ha
      exact ⟨f, ok, rfl, ha.1.2, ⟨fun _ => h, fun _ => ha.2⟩, fun q => (by rw [ha.2] at q; cases q), ha.1.1.1, ha.1.1.2⟩
  · refine ⟨⟨[], [], false⟩, false, ?_, rfl, ⟨fun q => (by cases q), fun q => absurd q h⟩, fun _ => rfl, by simp, by simp⟩
    unfold statics_At.f
    by_cases h1 : n < 1
    · rw [if_pos h1]
    · rw [if_neg h1, if_pos (by omega)]
theorem at_hi1 (t : S79) (i : Nat) (h : i < t.f0.length) (hl : t.f0.length ≤ 134217728) : dyntable_Table_At.f t ((62 + i : Nat) : Int) = some (gt z52 t.f0.reverse (i : Int), true) := by
  obtain ⟨f, ok, h1, h3, h4, h5, _⟩ := at1 ((62 + i : Nat) : Int)
  have hok : ok = false := by
    cases ok with
    | false => rfl
    | true => have := h4.1 rfl; omega
  subst hok
  unfold dyntable_Table_At.f statics_Len.f dyntable_Table_Len.f
  rw [h1]
  simp only [bnd1, bnd2]
  rw [if_neg (by simp), if_neg (by omega), wi64 (x := ((62 + i : Nat) : Int) - 61) (by omega) (by omega), if_neg (by omega), wi64 (by omega) (by omega), if_pos (by omega), if_pos (by omega)]
  rw [gt_rev _ _ h, show (t.f0.length : Int) - (((62 + i : Nat) : Int) - 61) = ((t.f0.length - 1 - i : Nat) : Int) by omega]
theorem tat_c (t : S79) (n : Int) (hn : 0 ≤ n ∧ n ≤ 268435456) (hl : t.f0.length ≤ 134217728) : dyntable_Table_At.f t n = some (tat t n) := by
  have key : ∃ r, dyntable_Table_At.f t n = some r := by
    obtain ⟨f, ok, h1, h3, h4, h5, _⟩ := at1 n
    cases ok with
    | true =>
      refine ⟨(f, true), ?_⟩
      unfold dyntable_Table_At.f
      rw [h1]
      rfl
    | false =>
      have hr : ¬ (1 ≤ n ∧ n ≤ 61) := fun h => by have := h4.2 h; simp at this
      by_cases hi : n < 62
      · refine ⟨(⟨[], [], false⟩, false), ?_⟩
        unfold dyntable_Table_At.f statics_Len.f
        rw [h1]
        simp only [bnd1, bnd2]
        rw [if_neg (by simp), if_pos (by omega)]
      · by_cases hj : n - 62 < t.f0.length
        · obtain ⟨i, rfl⟩ : ∃ i : Nat, n = ((62 + i : Nat) : Int) := ⟨(n - 62).toNat, by omega⟩
          exact ⟨_, at_hi1 t i (by omega) hl⟩
        · refine ⟨(⟨[], [], false⟩, false), ?_⟩
          unfold dyntable_Table_At.f statics_Len.f dyntable_Table_Len.f
          rw [h1]
          simp only [bnd1, bnd2]
          rw [if_neg (by simp), if_neg (by omega), wi64 (by omega) (by omega), if_pos (by omega)]
  obtain ⟨r, h⟩ := key
  unfold tat
  rw [h]
  rfl
theorem tat_f (t : S79) (n : Int) (hn : 0 ≤ n ∧ n ≤ 268435456) (hl : t.f0.length ≤ 134217728) : louverref05qT_At.f (twin t) n = some (tat t n) := by
  obtain ⟨r, ok, h1, h2⟩ := TX.tat_eq t n (by rw [okI_i64]; omega) hl
  have : tat t n = (r, ok) := by unfold tat; rw [h1]; rfl
  rw [this]
  exact h2
theorem mem_fsz : ∀ {l : List S52} {x : S52}, x ∈ l → fsz x ≤ tsz l
  | y :: l, x, h => by
    have h1 := tsz_lo l
    have h2 := fsz_lo y
    simp only [tsz]
    rcases List.mem_cons.1 h with rfl | h
    · omega
    · have := mem_fsz h
      omega
theorem tat_len (t : S79) (h : Tok t) (n : Int) (hn : 0 ≤ n ∧ n ≤ 268435456) : (tat t n).1.f0.length ≤ 4294967296 ∧ (tat t n).1.f1.length ≤ 4294967296 := by
  obtain ⟨f, ok, h1, h3, h4, h5, h6, h7⟩ := at1 n
  cases ok with
  | true =>
    have e : tat t n = (f, true) := by
      unfold tat dyntable_Table_At.f
      rw [h1]
      rfl
    rw [e]
    dsimp only
    omega
  | false =>
    have hr : ¬ (1 ≤ n ∧ n ≤ 61) := fun h => by have := h4.2 h; simp at this
    have e0 : (⟨[], [], false⟩ : S52).f0.length = 0 := rfl
    have e1 : (⟨[], [], false⟩ : S52).f1.length = 0 := rfl
    by_cases hi : n < 62
    · have e : tat t n = (⟨[], [], false⟩, false) := by
        unfold tat dyntable_Table_At.f statics_Len.f
        rw [h1]
        simp only [bnd1, bnd2]
        rw [if_neg (by simp), if_pos (by omega)]
        rfl
      rw [e]
      skip
      exact ⟨by simp, by simp⟩
    · by_cases hj : n - 62 < t.f0.length
      · obtain ⟨i, rfl⟩ : ∃ i : Nat, n = ((62 + i : Nat) : Int) := ⟨(n - 62).toNat, by omega⟩
        have e : tat t ((62 + i : Nat) : Int) = (gt z52 t.f0.reverse (i : Int), true) := by
          unfold tat
          rw [at_hi1 t i (by omega) h.len]
          rfl
        rw [e]
        dsimp only
        have hm : gt z52 t.f0.reverse (i : Int) ∈ t.f0 := by
          rw [gt_nat z52 _ i (by simp; omega)]
          exact List.mem_reverse.1 (List.getElem_mem _)
        have h6 := mem_fsz hm
        have h7 := h.sz
        have h8 := h.le
        have h9 := h.mo
        unfold fsz at h6
        omega
      · have e : tat t n = (⟨[], [], false⟩, false) := by
          unfold tat dyntable_Table_At.f statics_Len.f dyntable_Table_Len.f
          rw [h1]
          have hlen := h.len
          simp only [bnd1, bnd2]
          rw [if_neg (by simp), if_neg (by omega), wi64 (by omega) (by omega), if_pos (by omega)]
          rfl
        rw [e]
        skip
        exact ⟨by simp, by simp⟩
def big (f : S52) : Prop := f.f0.length ≤ 4294967296 ∧ f.f1.length ≤ 4294967296
theorem big_ok {f : S52} (h : big f) : okF f := ⟨by have := h.1; unfold okS; omega, by have := h.2; unfold okS; omega, trivial⟩
def lits (t : S79) (r : List Int) (n : Int) : Option (S52 × Int) :=
  if (gd r n).2.2 = 0 then
    if (gd r n).1 = 0 then
      match txs (r.drop (gd r n).2.1.toNat) with
      | some (s, u) => match txs ((r.drop (gd r n).2.1.toNat).drop u.toNat) with
        | some (s2, u2) => some (⟨s, s2, false⟩, (gd r n).2.1 + u + u2)
        | none => none
      | none => none
    else if (tat t (gd r n).1).2 = true then
      match txs (r.drop (gd r n).2.1.toNat) with
      | some (s2, u2) => some (⟨(tat t (gd r n).1).1.f0, s2, false⟩, (gd r n).2.1 + u2)
      | none => none
    else none
  else none
theorem lits_bd {t : S79} {r : List Int} {n : Int} {f : S52} {u : Int} (ht : Tok t) (hb : byts r) (hl : r.length ≤ 100000) (h1 : 1 ≤ n) (h2 : n ≤ 8) (h : lits t r n = some (f, u)) : 1 ≤ u ∧ u ≤ r.length ∧ big f := by
  unfold lits at h
  by_cases he : (gd r n).2.2 = 0
  · obtain ⟨v0, v1, u1, u2⟩ := gd_bd hb h1 h2 he
    rw [if_pos he] at h
    by_cases hv : (gd r n).1 = 0
    · rw [if_pos hv] at h
      split at h
      · rename_i s u3 e3
        have b3 := txs_bd (byts_drop hb _) e3
        simp only [List.length_drop] at b3
        split at h
        · rename_i s4 u4 e4
          have b4 := txs_bd (byts_drop (byts_drop hb _) _) e4
          simp only [List.length_drop] at b4
          simp only [Option.some.injEq, Prod.mk.injEq] at h
          obtain ⟨rfl, rfl⟩ := h
          unfold big
          dsimp only
          omega
        · cases h
      · cases h
    · rw [if_neg hv] at h
      by_cases ho : (tat t (gd r n).1).2 = true
      · rw [if_pos ho] at h
        split at h
        · rename_i s4 u4 e4
          have b4 := txs_bd (byts_drop hb _) e4
          simp only [List.length_drop] at b4
          have b5 := tat_len t ht (gd r n).1 ⟨v0, v1⟩
          simp only [Option.some.injEq, Prod.mk.injEq] at h
          obtain ⟨rfl, rfl⟩ := h
          unfold big
          dsimp only
          omega
        · cases h
      · rw [if_neg ho] at h
        cases h
  · rw [if_neg he] at h
    cases h
theorem drop2 (l : List Int) {a b : Int} (ha : 0 ≤ a) (hb : 0 ≤ b) : (l.drop a.toNat).drop b.toNat = l.drop (a + b).toNat := by
  rw [List.drop_drop]
  congr 1
  omega
theorem rfield_f (r : S66) (hf : r.f2 = false) (ht : Tok r.f0) (hb : byts r.f1) (hl : r.f1.length ≤ 100000) (n : Int) (h1 : 1 ≤ n) (h2 : n ≤ 8) (k : Nat) (hk : 2000000 ≤ k) : ∃ f r', hpack_reader_field.f k r n = some (f, r') ∧ r'.f0 = r.f0 ∧ r'.f1 <:+ r.f1 ∧
    ((∃ u, lits r.f0 r.f1 n = some (f, u) ∧ r' = ⟨r.f0, r.f1.drop u.toNat, false⟩) ∨ (r'.f2 = true ∧ lits r.f0 r.f1 n = none)) := by
  unfold hpack_reader_field.f
  rw [number_f r n hb hl h1 h2 k (by omega)]
  by_cases he : (gd r.f1 n).2.2 = 0
  · obtain ⟨v0, v1, u1, u2⟩ := gd_bd hb h1 h2 he
    rw [if_pos he]
    simp only [bnd2]
    by_cases hv : (gd r.f1 n).1 = 0
    · rw [if_pos hv]
      obtain ⟨s, r1, e1, a1, b1, c1⟩ := rdtext_f (⟨r.f0, r.f1.drop (gd r.f1 n).2.1.toNat, r.f2⟩ : S66) (byts_drop hb _) (by simp only [List.length_drop]; omega) k hk
      rw [e1]
      simp only [bnd2]
      dsimp only at a1 b1 c1
      have b1l := b1.length_le
      obtain ⟨s2, r2, e2, a2, b2, c2⟩ := rdtext_f r1 (fun x hx => hb x (List.mem_of_mem_drop (b1.subset hx))) (by simp only [List.length_drop] at b1l; omega) k hk
      rw [e2]
      simp only [bnd2]
      refine ⟨_, _, rfl, by rw [a2, a1], (b2.trans b1).trans (List.drop_suffix _ _), ?_⟩
      rcases c1 with ⟨_, u, c3, rfl⟩ | ⟨c3, c4⟩
      · dsimp only at a2 b2 c2
        have b3 := txs_bd (byts_drop hb _) c3
        rcases c2 with ⟨_, w, c5, rfl⟩ | ⟨c5, c6⟩
        · have b5 := txs_bd (byts_drop (byts_drop hb _) _) c5
          refine .inl ⟨(gd r.f1 n).2.1 + u + w, by unfold lits; rw [if_pos he, if_pos hv, c3]; dsimp only; rw [c5], ?_⟩
          rw [drop2 _ (by omega) (by omega), drop2 _ (by omega) (by omega), Int.add_assoc]
        · refine .inr ⟨c5, ?_⟩
          unfold lits
          rw [if_pos he, if_pos hv, c3]
          dsimp only
          rcases c6 with c6 | c6
          · cases c6
          · rw [c6]
      · rcases c4 with c4 | c4
        · rw [hf] at c4
          cases c4
        · refine .inr ⟨?_, by unfold lits; rw [if_pos he, if_pos hv, c4]⟩
          rcases c2 with ⟨c5, _⟩ | ⟨c5, _⟩
          · rw [c3] at c5
            cases c5
          · exact c5
    · rw [if_neg hv, tat_c r.f0 _ ⟨v0, v1⟩ ht.len]
      simp only [bnd2]
      rw [if_neg (by simp [hf])]
      obtain ⟨s, r1, e1, a1, b1, c1⟩ := rdtext_f (⟨r.f0, r.f1.drop (gd r.f1 n).2.1.toNat, !(tat r.f0 (gd r.f1 n).1).2⟩ : S66) (byts_drop hb _) (by simp only [List.length_drop]; omega) k hk
      rw [e1]
      simp only [bnd2]
      dsimp only at a1 b1 c1
      refine ⟨_, _, rfl, a1, b1.trans (List.drop_suffix _ _), ?_⟩
      rcases c1 with ⟨c0, u, c3, rfl⟩ | ⟨c3, c4⟩
      · have b3 := txs_bd (byts_drop hb _) c3
        have ho : (tat r.f0 (gd r.f1 n).1).2 = true := by simpa using c0
        refine .inl ⟨(gd r.f1 n).2.1 + u, by unfold lits; rw [if_pos he, if_neg hv, if_pos ho, c3], ?_⟩
        rw [drop2 _ (by omega) (by omega)]
      · refine .inr ⟨c3, ?_⟩
        unfold lits
        rw [if_pos he, if_neg hv]
        by_cases ho : (tat r.f0 (gd r.f1 n).1).2 = true
        · rw [if_pos ho]
          rcases c4 with c4 | c4
          · rw [ho] at c4
            cases c4
          · rw [c4]
        · rw [if_neg ho]
  · rw [if_neg he]
    simp only [bnd2]
    rw [if_pos trivial]
    obtain ⟨s, r1, e1, a1, b1, c1⟩ := rdtext_f (⟨r.f0, [], true⟩ : S66) (by simp [byts]) (by simp) k hk
    rw [e1]
    simp only [bnd2]
    dsimp only at a1 b1 c1
    have h1t : r1.f2 = true := by
      rcases c1 with ⟨c0, _⟩ | ⟨c0, _⟩
      · cases c0
      · exact c0
    have h1n : r1.f1 = [] := List.suffix_nil.1 b1
    obtain ⟨s2, r2, e2, a2, b2, c2⟩ := rdtext_f r1 (by rw [h1n]; simp [byts]) (by rw [h1n]; simp) k hk
    rw [e2]
    simp only [bnd2]
    refine ⟨_, _, rfl, by rw [a2, a1], (b2.trans b1).trans List.nil_suffix, .inr ⟨?_, by unfold lits; rw [if_neg he]⟩⟩
    rcases c2 with ⟨c0, _⟩ | ⟨c0, _⟩
    · rw [h1t] at c0
      cases c0
    · exact c0
theorem rlit_f (t : S79) (cap : Int) (ht : Tok t) (b : List Int) (i : Nat) (n : Int) (hb : byts b) (hl : b.length ≤ 100000) (hi : i ≤ b.length) (h1 : 1 ≤ n) (h2 : n ≤ 8) (k : Nat) (hk : 400000000 ≤ k) : ∃ f nx ok, louverref06qD_literal.f k (⟨twin t, cap⟩ : S45) b i n = some (f, nx, ok) ∧
    ((∃ u, lits t (b.drop i) n = some (f, u) ∧ nx = i + u ∧ ok = true) ∨ (lits t (b.drop i) n = none ∧ ok = false)) := by
  unfold louverref06qD_literal.f
  obtain ⟨k9, rfl⟩ : ∃ k', k = k' + 9 := ⟨k - 9, by omega⟩
  rw [if_pos (by omega), if_pos (by omega), Int.toNat_natCast, PX.rget_f k9 (byts_drop hb i) h1 h2]
  have hg := gd_bd (byts_drop hb i) h1 h2
  simp only [bnd3]
  by_cases he : (gd (b.drop i) n).2.2 = 0
  · obtain ⟨v0, v1, u1, u2⟩ := hg he
    rw [List.length_drop] at u2
    rw [if_pos he, wi64 (x := (i : Int) + (gd (b.drop i) n).2.1) (by omega) (by omega), show (i : Int) + (gd (b.drop i) n).2.1 = ((i + (gd (b.drop i) n).2.1.toNat : Nat) : Int) by omega]
    have hd1 : b.drop (i + (gd (b.drop i) n).2.1.toNat) = (b.drop i).drop (gd (b.drop i) n).2.1.toNat := by rw [List.drop_drop]
    obtain ⟨s, nx, ok, e1, c1⟩ := rtext_f b (i + (gd (b.drop i) n).2.1.toNat) hb hl (by omega) (k9 + 9) hk
    rw [hd1] at c1
    by_cases hv : (gd (b.drop i) n).1 = 0
    · rw [if_pos hv, e1]
      simp only [bnd3]
      rcases c1 with ⟨u, c3, rfl, rfl⟩ | ⟨c3, rfl⟩
      · have b3 := txs_bd (byts_drop (byts_drop hb _) _) c3
        simp only [List.length_drop] at b3
        rw [if_pos rfl, show ((i + (gd (b.drop i) n).2.1.toNat : Nat) : Int) + u = ((i + (gd (b.drop i) n).2.1.toNat + u.toNat : Nat) : Int) by omega]
        obtain ⟨s2, nx2, ok2, e2, c2⟩ := rtext_f b (i + (gd (b.drop i) n).2.1.toNat + u.toNat) hb hl (by omega) (k9 + 9) hk
        have hd2 : b.drop (i + (gd (b.drop i) n).2.1.toNat + u.toNat) = ((b.drop i).drop (gd (b.drop i) n).2.1.toNat).drop u.toNat := by rw [← hd1, List.drop_drop]
        rw [hd2] at c2
        rw [e2]
        refine ⟨_, _, _, rfl, ?_⟩
        rcases c2 with ⟨w, c5, rfl, rfl⟩ | ⟨c5, rfl⟩
        · exact .inl ⟨_, by unfold lits; rw [if_pos he, if_pos hv, c3]; dsimp only; rw [c5], by omega, rfl⟩
        · exact .inr ⟨by unfold lits; rw [if_pos he, if_pos hv, c3]; dsimp only; rw [c5], rfl⟩
      · rw [if_neg (by simp)]
        exact ⟨_, _, _, rfl, .inr ⟨by unfold lits; rw [if_pos he, if_pos hv, c3], rfl⟩⟩
    · rw [if_neg hv, wi64 (by omega) (by omega)]
      have h9 := tat_f t (gd (b.drop i) n).1 ⟨v0, v1⟩ ht.len
      have h9' : louverref05qT_At.f (⟨(twin t).f0, (twin t).f1⟩ : S43) (gd (b.drop i) n).1 = some (tat t (gd (b.drop i) n).1) := h9
      rw [h9']
      simp only [bnd2]
      by_cases ho : (tat t (gd (b.drop i) n).1).2 = true
      · rw [if_pos ho, e1]
        simp only [bnd3]
        refine ⟨_, _, _, rfl, ?_⟩
        rcases c1 with ⟨u, c3, rfl, rfl⟩ | ⟨c3, rfl⟩
        · exact .inl ⟨_, by unfold lits; rw [if_pos he, if_neg hv, if_pos ho, c3], by omega, rfl⟩
        · exact .inr ⟨by unfold lits; rw [if_pos he, if_neg hv, if_pos ho, c3], rfl⟩
      · rw [if_neg ho]
        exact ⟨_, _, _, rfl, .inr ⟨by unfold lits; rw [if_pos he, if_neg hv, if_neg ho], rfl⟩⟩
  · rw [if_neg he]
    exact ⟨_, _, _, rfl, .inr ⟨by unfold lits; rw [if_neg he], rfl⟩⟩
def pcs (cap : Int) (t : S79) (first : Bool) (r : List Int) : Option (Option S52 × S79 × Int) :=
  if gt 0 r 0 ≥ 128 then
    if (gd r 7).2.2 = 0 ∧ (tat t (gd r 7).1).2 = true then some (some (tat t (gd r 7).1).1, t, (gd r 7).2.1) else none
  else if gt 0 r 0 ≥ 64 then
    match lits t r 6 with
    | some (f, u) => some (some f, tb (addL t.f0 t.f2 f) t.f2, u)
    | none => none
  else if gt 0 r 0 ≥ 32 then
    if (gd r 5).2.2 = 0 ∧ first = true ∧ (gd r 5).1 ≤ cap then some (none, tb (keep t.f0 (gd r 5).1) (gd r 5).1, (gd r 5).2.1) else none
  else match lits t r 4 with
    | some (f, u) => some (some ⟨f.f0, f.f1, decide (gt 0 r 0 ≥ 16)⟩, t, u)
    | none => none
theorem pcs_bd {cap : Int} {t t' : S79} {first : Bool} {r : List Int} {fo : Option S52} {u : Int} (hc : 0 ≤ cap ∧ cap ≤ 4096) (ht : Tok t) (hm : t.f2 ≤ 4096) (hb : byts r) (hl : r.length ≤ 100000)
    (h : pcs cap t first r = some (fo, t', u)) : 1 ≤ u ∧ u ≤ r.length ∧ Tok t' ∧ t'.f2 ≤ 4096 ∧ ∀ f, fo = some f → big f := by
  have hmo := ht.mo
  unfold pcs at h
  by_cases c1 : gt 0 r 0 ≥ 128
  · rw [if_pos c1] at h
    by_cases c2 : (gd r 7).2.2 = 0 ∧ (tat t (gd r 7).1).2 = true
    · rw [if_pos c2] at h
      obtain ⟨v0, v1, u1, u2⟩ := gd_bd hb (by omega) (by omega) c2.1
      simp only [Option.some.injEq, Prod.mk.injEq] at h
      obtain ⟨rfl, rfl, rfl⟩ := h
      refine ⟨u1, u2, ht, hm, fun f hf => ?_⟩
      obtain rfl := Option.some.inj hf
      exact tat_len t ht _ ⟨v0, v1⟩
    · rw [if_neg c2] at h
      cases h
  · rw [if_neg c1] at h
    by_cases c3 : gt 0 r 0 ≥ 64
    · rw [if_pos c3] at h
      split at h
      · rename_i f u' e
        obtain ⟨b1, b2, b3⟩ := lits_bd ht hb hl (by omega) (by omega) e
        simp only [Option.some.injEq, Prod.mk.injEq] at h
        obtain ⟨rfl, rfl, rfl⟩ := h
        refine ⟨b1, b2, tb_ok (addL_le _ _ hmo.1) hmo, hm, fun g hg => ?_⟩
        obtain rfl := Option.some.inj hg
        exact b3
      · cases h
    · rw [if_neg c3] at h
      by_cases c4 : gt 0 r 0 ≥ 32
      · rw [if_pos c4] at h
        by_cases c2 : (gd r 5).2.2 = 0 ∧ first = true ∧ (gd r 5).1 ≤ cap
        · rw [if_pos c2] at h
          obtain ⟨v0, v1, u1, u2⟩ := gd_bd hb (by omega) (by omega) c2.1
          simp only [Option.some.injEq, Prod.mk.injEq] at h
          obtain ⟨rfl, rfl, rfl⟩ := h
          have := c2.2.2
          exact ⟨u1, u2, tb_ok (keep_le0 _ v0) (by omega), by show (gd r 5).1 ≤ 4096; omega, fun g hg => by cases hg⟩
        · rw [if_neg c2] at h
          cases h
      · rw [if_neg c4] at h
        split at h
        · rename_i f u' e
          obtain ⟨b1, b2, b3⟩ := lits_bd ht hb hl (by omega) (by omega) e
          simp only [Option.some.injEq, Prod.mk.injEq] at h
          obtain ⟨rfl, rfl, rfl⟩ := h
          refine ⟨b1, b2, ht, hm, fun g hg => ?_⟩
          obtain rfl := Option.some.inj hg
          exact b3
        · cases h
theorem piece_f (r : S66) (cap : Int) (first : Bool) (hf : r.f2 = false) (hne : 0 < r.f1.length) (ht : Tok r.f0) (hm : r.f0.f2 ≤ 4096) (hc : 0 ≤ cap ∧ cap ≤ 4096) (hb : byts r.f1) (hl : r.f1.length ≤ 100000) (k : Nat) (hk : 200000000 ≤ k) :
    ∃ f is r', hpack_reader_piece.f k r cap first = some (f, is, r') ∧ ((∃ fo t' u, pcs cap r.f0 first r.f1 = some (fo, t', u) ∧ r' = ⟨t', r.f1.drop u.toNat, false⟩ ∧ ((fo = some f ∧ is = true) ∨ (fo = none ∧ is = false))) ∨ (pcs cap r.f0 first r.f1 = none ∧ r'.f2 = true)) := by
  have hmo := ht.mo
  unfold hpack_reader_piece.f
  rw [if_pos (by omega)]
  by_cases c1 : gt 0 r.f1 0 ≥ 128
  · rw [if_pos c1, number_f r 7 hb hl (by omega) (by omega) k (by omega)]
    by_cases he : (gd r.f1 7).2.2 = 0
    · obtain ⟨v0, v1, u1, u2⟩ := gd_bd hb (by omega) (by omega) he
      rw [if_pos he]
      simp only [bnd2]
      rw [tat_c r.f0 _ ⟨v0, v1⟩ ht.len]
      simp only [bnd2]
      rw [if_neg (by simp [hf])]
      refine ⟨_, _, _, rfl, ?_⟩
      by_cases ho : (tat r.f0 (gd r.f1 7).1).2 = true
      · exact .inl ⟨_, _, _, by unfold pcs; rw [if_pos c1, if_pos ⟨he, ho⟩], by simp only [ho]; rfl, .inl ⟨rfl, rfl⟩⟩
      · exact .inr ⟨by unfold pcs; rw [if_pos c1, if_neg (fun q => ho q.2)], by simpa using ho⟩
    · rw [if_neg he]
      simp only [bnd2]
      rw [tat_c r.f0 0 (by omega) ht.len]
      simp only [bnd2]
      rw [if_pos trivial]
      exact ⟨_, _, _, rfl, .inr ⟨by unfold pcs; rw [if_pos c1, if_neg (fun q => he q.1)], rfl⟩⟩
  · rw [if_neg c1]
    by_cases c3 : gt 0 r.f1 0 ≥ 64
    · rw [if_pos c3]
      obtain ⟨f, r1, e1, a1, b1, q⟩ := rfield_f r hf ht hb hl 6 (by omega) (by omega) k (by omega)
      obtain ⟨k, rfl⟩ : ∃ k', k = k' + 1 := ⟨k - 1, by omega⟩
      rw [e1]
      simp only [bnd2]
      rcases q with ⟨u, q1, rfl⟩ | ⟨q1, q2⟩
      · obtain ⟨b1, b2, b3⟩ := lits_bd ht hb hl (by omega) (by omega) q1
        rw [if_neg (by simp)]
        simp only [eta]
        rw [add_f r.f0 f ht (big_ok b3) _ (by omega)]
        simp only [bnd1]
        rw [hpack_reader_piece.j0]
        exact ⟨_, _, _, rfl, .inl ⟨_, _, _, by unfold pcs; rw [if_neg c1, if_pos c3, q1], rfl, .inl ⟨rfl, rfl⟩⟩⟩
      · rw [if_pos q1, hpack_reader_piece.j0]
        exact ⟨_, _, _, rfl, .inr ⟨by unfold pcs; rw [if_neg c1, if_pos c3, q2], q1⟩⟩
    · rw [if_neg c3]
      by_cases c4 : gt 0 r.f1 0 ≥ 32
      · rw [if_pos c4, number_f r 5 hb hl (by omega) (by omega) k (by omega)]
        by_cases he : (gd r.f1 5).2.2 = 0
        · obtain ⟨v0, v1, u1, u2⟩ := gd_bd hb (by omega) (by omega) he
          rw [if_pos he]
          simp only [bnd2]
          rw [if_neg (by simp [hf]), wi64 (x := cap) (by omega) (by omega)]
          by_cases hfi : first = true
          · rw [if_pos hfi]
            by_cases hv : (gd r.f1 5).1 > cap
            · rw [if_pos hv]
              exact ⟨_, _, _, rfl, .inr ⟨by unfold pcs; rw [if_neg c1, if_neg c3, if_pos c4, if_neg (fun q => by omega)], by simpa using hv⟩⟩
            · rw [if_neg hv, wu32 (by omega) (by omega), limit_f r.f0 _ ht (by omega) k (by omega)]
              simp only [bnd1]
              refine ⟨_, _, _, rfl, .inl ⟨none, _, _, by unfold pcs; rw [if_neg c1, if_neg c3, if_pos c4, if_pos ⟨he, hfi, by omega⟩], ?_, .inr ⟨rfl, rfl⟩⟩⟩
              rw [decide_eq_false hv]
          · rw [if_neg hfi]
            exact ⟨_, _, _, rfl, .inr ⟨by unfold pcs; rw [if_neg c1, if_neg c3, if_pos c4, if_neg (fun q => hfi q.2.1)], rfl⟩⟩
        · rw [if_neg he]
          simp only [bnd2]
          rw [if_pos trivial]
          exact ⟨_, _, _, rfl, .inr ⟨by unfold pcs; rw [if_neg c1, if_neg c3, if_pos c4, if_neg (fun q => he q.1)], rfl⟩⟩
      · rw [if_neg c4]
        obtain ⟨f, r1, e1, a1, b1, q⟩ := rfield_f r hf ht hb hl 4 (by omega) (by omega) k (by omega)
        rw [e1]
        simp only [bnd2]
        by_cases c5 : gt 0 r.f1 0 ≥ 16
        · rw [if_pos c5]
          refine ⟨_, _, _, rfl, ?_⟩
          rcases q with ⟨u, q1, rfl⟩ | ⟨q1, q2⟩
          · exact .inl ⟨_, _, _, by unfold pcs; rw [if_neg c1, if_neg c3, if_neg c4, q1], rfl, .inl ⟨by rw [decide_eq_true c5], rfl⟩⟩
          · exact .inr ⟨by unfold pcs; rw [if_neg c1, if_neg c3, if_neg c4, q2], q1⟩
        · rw [if_neg c5]
          refine ⟨_, _, _, rfl, ?_⟩
          rcases q with ⟨u, q1, rfl⟩ | ⟨q1, q2⟩
          · exact .inl ⟨_, _, _, by unfold pcs; rw [if_neg c1, if_neg c3, if_neg c4, q1], rfl, .inl ⟨by rw [decide_eq_false c5], rfl⟩⟩
          · exact .inr ⟨by unfold pcs; rw [if_neg c1, if_neg c3, if_neg c4, q2], q1⟩
def gets (cap : Int) : Nat → S79 → List S52 → List Int → Option (S79 × List S52)
  | 0, t, out, r => some (t, out)
  | n + 1, t, out, r => if r = [] then some (t, out) else match pcs cap t out.isEmpty r with
    | none => none
    | some (fo, t', u) => gets cap n t' (out ++ fo.toList) (r.drop u.toNat)
def gres : Option (S79 × List S52) → List S52 × Int
  | none => ([], 9)
  | some (_, o) => if tsz o > 4096 then ([], 11) else (o, 0)
def flt (c : Int) : S31 := if c = 0 then ⟨0, 0⟩ else ⟨1, c⟩
theorem empty_dec (l : List S52) : decide ((l.length : Int) = 0) = l.isEmpty := by cases l <;> simp; omega
theorem get_l0 (p0 : S64) (hc : 0 ≤ p0.f1 ∧ p0.f1 ≤ 4096) : ∀ (n k : Nat) (x y : Int) (t : S79) (out : List S52) (r : List Int), r.length ≤ n → Tok t → t.f2 ≤ 4096 → byts r → out.length + r.length ≤ 100000 → tsz out + 20000000000 * (r.length : Int) ≤ 2000000000000000 → n + 200000001 ≤ k →
    ∃ d', hpack_Decoder_Get.l0 k x y (⟨t, r, false⟩ : S66) out (tsz out) p0 = some ((gres (gets p0.f1 n t out r)).1, flt (gres (gets p0.f1 n t out r)).2, d') ∧ ∀ t' o, gets p0.f1 n t out r = some (t', o) → d' = ⟨t', p0.f1⟩ ∧ Tok t' ∧ t'.f2 ≤ 4096 := by
  have fin : ∀ (k : Nat) (x y : Int) (t : S79) (out : List S52) (r : List Int) (g : Option (S79 × List S52)), g = some (t, out) → r.length = 0 → Tok t → t.f2 ≤ 4096 → ∃ d', hpack_Decoder_Get.l0 (k + 1) x y (⟨t, r, false⟩ : S66) out (tsz out) p0 = some ((gres g).1, flt (gres g).2, d') ∧ ∀ t' o, g = some (t', o) → d' = ⟨t', p0.f1⟩ ∧ Tok t' ∧ t'.f2 ≤ 4096 := by
    intro k x y t out r g hg hr ht hm
    subst hg
    rw [hpack_Decoder_Get.l0, if_neg (by dsimp only; omega)]
    simp only [gres]
    by_cases h4 : tsz out > 4096
    · rw [if_pos h4, if_pos h4]
      exact ⟨_, rfl, fun t' o h => by simp only [Option.some.injEq, Prod.mk.injEq] at h; obtain ⟨rfl, rfl⟩ := h; exact ⟨rfl, ht, hm⟩⟩
    · rw [if_neg h4, if_neg h4]
      exact ⟨_, rfl, fun t' o h => by simp only [Option.some.injEq, Prod.mk.injEq] at h; obtain ⟨rfl, rfl⟩ := h; exact ⟨rfl, ht, hm⟩⟩
  intro n
  induction n with
  | zero =>
    intro k x y t out r hn ht hm hb hl hs hk
    obtain ⟨k, rfl⟩ : ∃ k', k = k' + 1 := ⟨k - 1, by omega⟩
    exact fin k x y t out r _ rfl (by omega) ht hm
  | succ n ih =>
    intro k x y t out r hn ht hm hb hl hs hk
    obtain ⟨k, rfl⟩ : ∃ k', k = k' + 1 := ⟨k - 1, by omega⟩
    by_cases hr : r = []
    · exact fin k x y t out r _ (by rw [gets, if_pos hr]) (by rw [hr]; rfl) ht hm
    · have hlen : 0 < r.length := List.length_pos_iff.2 hr
      rw [gets, if_neg hr, hpack_Decoder_Get.l0, if_pos (by dsimp only; omega), empty_dec]
      obtain ⟨f, is, r', e, q⟩ := piece_f (⟨t, r, false⟩ : S66) p0.f1 out.isEmpty rfl hlen ht hm hc hb (by dsimp only; omega) k (by omega)
      rw [e]
      simp only [bnd3]
      dsimp only at q
      rcases q with ⟨fo, t', u, q1, rfl, q2⟩ | ⟨q1, q2⟩
      · obtain ⟨b1, b2, b3, b4, b5⟩ := pcs_bd hc ht hm hb (by omega) q1
        rw [if_neg (by simp), q1]
        dsimp only
        have hdl : (r.drop u.toNat).length + 1 ≤ r.length := by simp only [List.length_drop]; omega
        rcases q2 with ⟨rfl, rfl⟩ | ⟨rfl, rfl⟩
        · have b6 := b5 f rfl
          have b7 := fsz_hi (big_ok b6)
          have b8 := fsz_lo f
          have b9 := tsz_lo out
          have hft : tsz (out ++ [f]) = tsz out + fsz f := by rw [tsz_app]; simp [tsz]
          rw [if_pos rfl, if_pos (by omega), eta]
          simp only [lt1]
          have b6' : f.f0.length ≤ 4294967296 ∧ f.f1.length ≤ 4294967296 := b6
          have hfs : fsz f ≤ 8589934624 := by unfold fsz; omega
          rw [size_f f (by omega)]
          simp only [bnd1]
          rw [wi64 (by omega) (by omega), ← hft]
          exact ih k x y t' (out ++ [f]) _ (by omega) b3 b4 (byts_drop hb _) (by simp only [List.length_append, List.length_cons, List.length_nil]; omega) (by rw [hft]; omega) (by omega)
        · rw [if_neg (by simp)]
          simp only [Option.toList, List.append_nil]
          exact ih k x y t' out _ (by omega) b3 b4 (byts_drop hb _) (by omega) (by omega) (by omega)
      · rw [if_pos q2, q1]
        exact ⟨_, rfl, fun t' o h => by cases h⟩
theorem get_f (p0 : S64) (b : List Int) (hc : 0 ≤ p0.f1 ∧ p0.f1 ≤ 4096) (ht : Tok p0.f0) (hm : p0.f0.f2 ≤ 4096) (hb : byts b) (hl : b.length ≤ 100000) (k : Nat) (hk : 200200000 ≤ k) :
    ∃ d', hpack_Decoder_Get.f k p0 b = some ((gres (gets p0.f1 b.length p0.f0 [] b)).1, flt (gres (gets p0.f1 b.length p0.f0 [] b)).2, d') ∧ ∀ t' o, gets p0.f1 b.length p0.f0 [] b = some (t', o) → d' = ⟨t', p0.f1⟩ ∧ Tok t' ∧ t'.f2 ≤ 4096 := by
  unfold hpack_Decoder_Get.f
  exact get_l0 p0 hc b.length k 0 0 p0.f0 [] b (Nat.le_refl _) ht hm hb (by simpa using hl) (by simp only [tsz]; omega) (by omega)
theorem dv_err : ∀ (r : List Int) (i : Nat) (acc : Int), (PX.dv i acc r).2.2 ≠ 0 → (PX.dv i acc r).1 = 0 ∧ (PX.dv i acc r).2.1 = 0
  | [], i, acc, he => ⟨rfl, rfl⟩
  | t :: r, i, acc, he => by
    unfold PX.dv at he ⊢
    by_cases h4 : i = 4
    · rw [if_pos h4]
      exact ⟨rfl, rfl⟩
    · rw [if_neg h4] at he ⊢
      by_cases h5 : t < 128
      · rw [if_pos h5] at he ⊢
        by_cases h6 : acc + t % 128 * 128 ^ i > 268435456
        · rw [if_pos h6]
          exact ⟨rfl, rfl⟩
        · rw [if_neg h6] at he
          exact absurd rfl he
      · rw [if_neg h5] at he ⊢
        exact dv_err r (i + 1) _ he
theorem gd_err {p : List Int} {n : Int} (he : (gd p n).2.2 ≠ 0) : (gd p n).1 = 0 ∧ (gd p n).2.1 = 0 := by
  cases p with
  | nil => exact ⟨rfl, rfl⟩
  | cons t r =>
    unfold gd at he ⊢
    simp only at he ⊢
    by_cases hc : t % tp n < tp n - 1
    · rw [if_pos hc] at he
      exact absurd rfl he
    · rw [if_neg hc] at he ⊢
      exact dv_err r 0 _ he
theorem twin_eta (t : S79) : (⟨(twin t).f0, (twin t).f1⟩ : S43) = twin t := rfl
theorem rdfield_f (t : S79) (cap : Int) (first : Bool) (ht : Tok t) (b : List Int) (i : Nat) (hb : byts b) (hl : b.length ≤ 100000) (hi : i < b.length) (hk2 : ¬ (32 ≤ gt 0 (b.drop i) 0 ∧ gt 0 (b.drop i) 0 < 64)) (k : Nat) (hk : 400000000 ≤ k) :
    ∃ f nx D ok, louverref06qD_field.f k (⟨twin t, cap⟩ : S45) b i = some (f, nx, D, ok) ∧ ((∃ t' u, pcs cap t first (b.drop i) = some (some f, t', u) ∧ nx = i + u ∧ D = ⟨twin t', cap⟩ ∧ ok = true) ∨ (pcs cap t first (b.drop i) = none ∧ ok = false)) := by
  unfold louverref06qD_field.f louverref06qkind.f
  rw [if_pos (by omega), if_pos (by omega), gt_drop b i]
  by_cases c1 : gt 0 (b.drop i) 0 ≥ 128
  · rw [if_pos c1]
    simp only [bnd1]
    obtain ⟨k9, rfl⟩ : ∃ k', k = k' + 9 := ⟨k - 9, by omega⟩
    rw [if_pos trivial, if_pos (by omega), Int.toNat_natCast, PX.rget_f k9 (byts_drop hb i) (by omega) (by omega)]
    have hg := gd_bd (byts_drop hb i) (n := 7) (by omega) (by omega)
    have hv : 0 ≤ (gd (b.drop i) 7).1 ∧ (gd (b.drop i) 7).1 ≤ 268435456 := by
      by_cases he : (gd (b.drop i) 7).2.2 = 0
      · exact ⟨(hg he).1, (hg he).2.1⟩
      · rw [(gd_err he).1]
        omega
    simp only [bnd3]
    rw [wi64 (x := (gd (b.drop i) 7).1) (by omega) (by omega), twin_eta, tat_f t _ hv ht.len]
    simp only [bnd2]
    by_cases he : (gd (b.drop i) 7).2.2 = 0
    · obtain ⟨v0, v1, u1, u2⟩ := hg he
      rw [List.length_drop] at u2
      by_cases ho : (tat t (gd (b.drop i) 7).1).2 = true
      · rw [if_pos ho, wi64 (x := (i : Int) + (gd (b.drop i) 7).2.1) (by omega) (by omega)]
        exact ⟨_, _, _, _, rfl, .inl ⟨_, _, by unfold pcs; rw [if_pos c1, if_pos ⟨he, ho⟩], rfl, rfl, decide_eq_true he⟩⟩
      · rw [if_neg ho]
        exact ⟨_, _, _, _, rfl, .inr ⟨by unfold pcs; rw [if_pos c1, if_neg (fun q => ho q.2)], rfl⟩⟩
    · have hn : pcs cap t first (b.drop i) = none := by unfold pcs; rw [if_pos c1, if_neg (fun q => he q.1)]
      by_cases ho : (tat t (gd (b.drop i) 7).1).2 = true
      · rw [if_pos ho]
        exact ⟨_, _, _, _, rfl, .inr ⟨hn, decide_eq_false he⟩⟩
      · rw [if_neg ho]
        exact ⟨_, _, _, _, rfl, .inr ⟨hn, rfl⟩⟩
  · rw [if_neg c1]
    by_cases c3 : gt 0 (b.drop i) 0 ≥ 64
    · rw [if_pos c3]
      simp only [bnd1]
      rw [if_neg (by omega), if_pos trivial]
      obtain ⟨f, nx, ok, e1, q⟩ := rlit_f t cap ht b i 6 hb hl (by omega) (by omega) (by omega) k hk
      have e1' : louverref06qD_literal.f k (⟨(⟨(twin t).f0, (twin t).f1⟩ : S43), cap⟩ : S45) b i 6 = some (f, nx, ok) := e1
      rw [e1']
      simp only [bnd3]
      rcases q with ⟨u, q1, rfl, rfl⟩ | ⟨q1, rfl⟩
      · obtain ⟨b1, b2, b3⟩ := lits_bd ht (byts_drop hb _) (by simp only [List.length_drop]; omega) (by omega) (by omega) q1
        rw [if_pos rfl, twin_eta, eta, TX.radd_f t f ht (big_ok b3) k (by omega)]
        exact ⟨_, _, _, _, rfl, .inl ⟨_, _, by unfold pcs; rw [if_neg c1, if_pos c3, q1], rfl, rfl, rfl⟩⟩
      · rw [if_neg (by simp)]
        exact ⟨_, _, _, _, rfl, .inr ⟨by unfold pcs; rw [if_neg c1, if_pos c3, q1], rfl⟩⟩
    · rw [if_neg c3, if_neg (by omega)]
      have c4 : ¬ gt 0 (b.drop i) 0 ≥ 32 := by omega
      obtain ⟨f, nx, ok, e1, q⟩ := rlit_f t cap ht b i 4 hb hl (by omega) (by omega) (by omega) k hk
      have e1' : louverref06qD_literal.f k (⟨(⟨(twin t).f0, (twin t).f1⟩ : S43), cap⟩ : S45) b i 4 = some (f, nx, ok) := e1
      by_cases c5 : gt 0 (b.drop i) 0 ≥ 16
      · rw [if_pos c5]
        simp only [bnd1]
        rw [if_neg (by omega), if_neg (by omega), e1']
        simp only [bnd3]
        refine ⟨_, _, _, _, rfl, ?_⟩
        rcases q with ⟨u, q1, rfl, rfl⟩ | ⟨q1, rfl⟩
        · exact .inl ⟨_, _, by unfold pcs; rw [if_neg c1, if_neg c3, if_neg c4, q1]; dsimp only; rw [decide_eq_true c5]; rfl, rfl, rfl, rfl⟩
        · exact .inr ⟨by unfold pcs; rw [if_neg c1, if_neg c3, if_neg c4, q1], rfl⟩
      · rw [if_neg c5]
        simp only [bnd1]
        rw [if_neg (by omega), if_neg (by omega), e1']
        simp only [bnd3]
        refine ⟨_, _, _, _, rfl, ?_⟩
        rcases q with ⟨u, q1, rfl, rfl⟩ | ⟨q1, rfl⟩
        · exact .inl ⟨_, _, by unfold pcs; rw [if_neg c1, if_neg c3, if_neg c4, q1]; dsimp only; rw [decide_eq_false c5]; rfl, rfl, rfl, rfl⟩
        · exact .inr ⟨by unfold pcs; rw [if_neg c1, if_neg c3, if_neg c4, q1], rfl⟩
theorem rget_l0 (cap : Int) (hc : 0 ≤ cap ∧ cap ≤ 4096) (b : List Int) (hb : byts b) (hbl : b.length ≤ 100000) : ∀ (n k : Nat) (dm : S45) (t : S79) (out : List S52) (i : Nat), b.length - i ≤ n → i ≤ b.length → Tok t → t.f2 ≤ 4096 → out.length ≤ i → tsz out ≤ 20000000000 * (i : Int) → n + 400000001 ≤ k →
    ∃ D', louverref06qD_Get.l0 k (⟨twin t, cap⟩ : S45) dm out i (tsz out) b = some ((gres (gets cap n t out (b.drop i))).1, D', (gres (gets cap n t out (b.drop i))).2) ∧ ∀ t' o, gets cap n t out (b.drop i) = some (t', o) → D' = ⟨twin t', cap⟩ := by
  have fin : ∀ (k : Nat) (dm : S45) (t : S79) (out : List S52) (i : Nat) (g : Option (S79 × List S52)), g = some (t, out) → b.length ≤ i → ∃ D', louverref06qD_Get.l0 (k + 1) (⟨twin t, cap⟩ : S45) dm out i (tsz out) b = some ((gres g).1, D', (gres g).2) ∧ ∀ t' o, g = some (t', o) → D' = ⟨twin t', cap⟩ := by
    intro k dm t out i g hg hr
    subst hg
    rw [louverref06qD_Get.l0, if_neg (by omega)]
    simp only [gres]
    by_cases h4 : tsz out > 4096
    · rw [if_pos h4, if_pos h4]
      exact ⟨_, rfl, fun t' o h => by simp only [Option.some.injEq, Prod.mk.injEq] at h; obtain ⟨rfl, rfl⟩ := h; rfl⟩
    · rw [if_neg h4, if_neg h4]
      exact ⟨_, rfl, fun t' o h => by simp only [Option.some.injEq, Prod.mk.injEq] at h; obtain ⟨rfl, rfl⟩ := h; rfl⟩
  intro n
  induction n with
  | zero =>
    intro k dm t out i hn hi ht hm hl hs hk
    obtain ⟨k, rfl⟩ : ∃ k', k = k' + 1 := ⟨k - 1, by omega⟩
    exact fin k dm t out i _ rfl (by omega)
  | succ n ih =>
    intro k dm t out i hn hi ht hm hl hs hk
    obtain ⟨k, rfl⟩ : ∃ k', k = k' + 1 := ⟨k - 1, by omega⟩
    by_cases hr : b.drop i = []
    · exact fin k dm t out i _ (by rw [gets, if_pos hr]) (List.drop_eq_nil_iff.1 hr)
    · have hlen : i < b.length := by
        by_cases h : i < b.length
        · exact h
        · exact absurd (List.drop_eq_nil_of_le (by omega)) hr
      have hdl : (b.drop i).length = b.length - i := List.length_drop ..
      rw [gets, if_neg hr, louverref06qD_Get.l0, if_pos (by omega), if_pos (by omega), gt_drop b i]
      by_cases c4 : 32 ≤ gt 0 (b.drop i) 0 ∧ gt 0 (b.drop i) 0 < 64
      · have hkd : louverref06qkind.f (gt 0 (b.drop i) 0) = some 2 := by
          unfold louverref06qkind.f
          rw [if_neg (by omega), if_neg (by omega), if_pos (by omega)]
        rw [hkd]
        simp only [bnd1]
        obtain ⟨k9, rfl⟩ : ∃ k', k = k' + 9 := ⟨k - 9, by omega⟩
        rw [if_pos trivial, if_pos (by omega), Int.toNat_natCast, PX.rget_f k9 (byts_drop hb i) (by omega) (by omega)]
        simp only [bnd3]
        have hp : pcs cap t out.isEmpty (b.drop i) = if (gd (b.drop i) 5).2.2 = 0 ∧ out.isEmpty = true ∧ (gd (b.drop i) 5).1 ≤ cap then some (none, tb (keep t.f0 (gd (b.drop i) 5).1) (gd (b.drop i) 5).1, (gd (b.drop i) 5).2.1) else none := by
          unfold pcs
          rw [if_neg (by omega), if_neg (by omega), if_pos (by omega)]
        rw [hp]
        by_cases he : (gd (b.drop i) 5).2.2 = 0
        · obtain ⟨v0, v1, u1, u2⟩ := gd_bd (byts_drop hb i) (by omega) (by omega) he
          rw [if_pos he]
          by_cases h0 : (out.length : Int) > 0
          · rw [if_pos h0, if_neg (fun q => by have := q.2.1; cases out <;> simp at this h0)]
            exact ⟨_, rfl, fun t' o h => by cases h⟩
          · rw [if_neg h0, wi64 (x := (gd (b.drop i) 5).1) (by omega) (by omega)]
            by_cases hv : (gd (b.drop i) 5).1 > cap
            · rw [if_pos hv, if_neg (fun q => by omega)]
              exact ⟨_, rfl, fun t' o h => by cases h⟩
            · rw [if_neg hv, if_pos ⟨he, by cases out <;> simp at h0 ⊢, by omega⟩, twin_eta, TX.rlimit_f t _ ht _ (by omega)]
              simp only [Option.toList, List.append_nil]
              rw [wi64 (x := (i : Int) + (gd (b.drop i) 5).2.1) (by omega) (by omega), show (i : Int) + (gd (b.drop i) 5).2.1 = ((i + (gd (b.drop i) 5).2.1.toNat : Nat) : Int) by omega, List.drop_drop, twin_eta]
              exact ih (k9 + 9) dm (tb (keep t.f0 (gd (b.drop i) 5).1) (gd (b.drop i) 5).1) out _ (by omega) (by omega) (tb_ok (keep_le0 _ v0) (by omega)) (by show (gd (b.drop i) 5).1 ≤ 4096; omega) (by omega) (by omega) (by omega)
        · rw [if_neg he, if_neg (fun q => he q.1)]
          exact ⟨_, rfl, fun t' o h => by cases h⟩
      · obtain ⟨kd, hkd, hk2⟩ : ∃ x, louverref06qkind.f (gt 0 (b.drop i) 0) = some x ∧ x ≠ 2 := by
          unfold louverref06qkind.f
          by_cases d1 : gt 0 (b.drop i) 0 ≥ 128
          · rw [if_pos d1]
            exact ⟨_, rfl, by omega⟩
          · rw [if_neg d1]
            by_cases d2 : gt 0 (b.drop i) 0 ≥ 64
            · rw [if_pos d2]
              exact ⟨_, rfl, by omega⟩
            · rw [if_neg d2, if_neg (by omega)]
              by_cases d3 : gt 0 (b.drop i) 0 ≥ 16
              · rw [if_pos d3]
                exact ⟨_, rfl, by omega⟩
              · rw [if_neg d3]
                exact ⟨_, rfl, by omega⟩
        rw [hkd]
        simp only [bnd1]
        obtain ⟨f, nx, D, ok, e1, q⟩ := rdfield_f t cap out.isEmpty ht b i hb hbl hlen c4 k (by omega)
        have e1' : louverref06qD_field.f k (⟨(⟨(twin t).f0, (twin t).f1⟩ : S43), cap⟩ : S45) b i = some (f, nx, D, ok) := e1
        rw [if_neg hk2, e1']
        simp only [bnd4]
        rcases q with ⟨t', u, q1, rfl, rfl, rfl⟩ | ⟨q1, rfl⟩
        · obtain ⟨b1, b2, b3, b4, b5⟩ := pcs_bd hc ht hm (byts_drop hb i) (by omega) q1
          have b6 := b5 f rfl
          have b7 := fsz_hi (big_ok b6)
          have b8 := fsz_lo f
          have b9 := tsz_lo out
          have hft : tsz (out ++ [f]) = tsz out + fsz f := by rw [tsz_app]; simp [tsz]
          have b6' : f.f0.length ≤ 4294967296 ∧ f.f1.length ≤ 4294967296 := b6
          have hfs : fsz f ≤ 8589934624 := by unfold fsz; omega
          rw [if_pos rfl, if_pos (by omega), eta, q1]
          simp only [lt1]
          rw [TX.rsize_f f (by omega)]
          simp only [bnd1, Option.toList]
          rw [wi64 (x := tsz out + fsz f) (by omega) (by omega), ← hft, show (i : Int) + u = ((i + u.toNat : Nat) : Int) by omega, List.drop_drop, twin_eta]
          exact ih k dm t' (out ++ [f]) _ (by omega) (by omega) b3 b4 (by simp only [List.length_append, List.length_cons, List.length_nil]; omega) (by rw [hft]; omega) (by omega)
        · rw [if_neg (by simp), q1]
          exact ⟨_, rfl, fun t' o h => by cases h⟩
theorem rget_f (t : S79) (cap : Int) (b : List Int) (hc : 0 ≤ cap ∧ cap ≤ 4096) (ht : Tok t) (hm : t.f2 ≤ 4096) (hb : byts b) (hl : b.length ≤ 100000) (k : Nat) (hk : 400200000 ≤ k) :
    ∃ D', louverref06qD_Get.f k (⟨twin t, cap⟩ : S45) b = some ((gres (gets cap b.length t [] b)).1, D', (gres (gets cap b.length t [] b)).2) ∧ ∀ t' o, gets cap b.length t [] b = some (t', o) → D' = ⟨twin t', cap⟩ := by
  unfold louverref06qD_Get.f
  have := rget_l0 cap hc b hb hl b.length k (⟨(⟨([] : List S52), 0⟩ : S43), 0⟩ : S45) t [] 0 (by omega) (by omega) ht hm (by simp) (by simp [tsz]) (by omega)
  rw [List.drop_zero] at this
  exact this
theorem same_l0' (l : List S52) (hl : l.length < 4611686018427387904) : ∀ (m k i : Nat), i + m = l.length → m < k → louverref06qSame.l0 k i l l = some true := by
  intro m
  induction m with
  | zero =>
    intro k i hi hk
    obtain ⟨k, rfl⟩ : ∃ k', k = k' + 1 := ⟨k - 1, by omega⟩
    rw [louverref06qSame.l0, if_neg (by omega)]
  | succ m ih =>
    intro k i hi hk
    obtain ⟨k, rfl⟩ : ∃ k', k = k' + 1 := ⟨k - 1, by omega⟩
    rw [louverref06qSame.l0, if_pos (by omega), if_pos (by omega), if_pos (by omega), if_pos (by simp), wi64 (by omega) (by omega), show (i : Int) + 1 = ((i + 1 : Nat) : Int) by omega]
    exact ih k (i + 1) (by omega) (by omega)
theorem same_f (l : List S52) (hl : l.length < 4611686018427387904) (k : Nat) (hk : l.length < k) : louverref06qSame.f k l l = some true := by
  unfold louverref06qSame.f
  rw [if_pos rfl]
  exact same_l0' l hl l.length k 0 (by omega) hk
theorem gres_ok {g : Option (S79 × List S52)} (h : (gres g).2 = 0) : ∃ t o, g = some (t, o) ∧ tsz o ≤ 4096 ∧ gres g = (o, 0) := by
  match g with
  | none => simp [gres] at h
  | some (t, o) =>
    simp only [gres] at h
    by_cases h4 : tsz o > 4096
    · rw [if_pos h4] at h
      cases h
    · refine ⟨t, o, rfl, by omega, ?_⟩
      simp only [gres]
      rw [if_neg h4]
theorem gres_bad {g : Option (S79 × List S52)} (h : (gres g).2 ≠ 0) : (gres g).1 = [] ∧ ((gres g).2 = 9 ∨ (gres g).2 = 11) := by
  match g with
  | none => exact ⟨rfl, .inl rfl⟩
  | some (t, o) =>
    simp only [gres] at h ⊢
    by_cases h4 : tsz o > 4096
    · rw [if_pos h4]
      exact ⟨rfl, .inr rfl⟩
    · rw [if_neg h4] at h
      exact absurd rfl h
theorem gets_l1 (p1 : List (List Int)) (hp : p1.length ≤ 600) (hb : ∀ x ∈ p1, byts x ∧ x.length ≤ 600) (cap : Int) (hc : 0 ≤ cap ∧ cap ≤ 4096) : ∀ (m k i : Nat) (t : S79), i + m = p1.length → Tok t → t.f2 ≤ 4096 → 10 * m + 500000000 ≤ k →
    louverlaw06qHpackGets.l1 k (⟨t, cap⟩ : S64) (⟨twin t, cap⟩ : S45) i p1 = some true := by
  intro m
  induction m with
  | zero =>
    intro k i t hi ht hm hk
    obtain ⟨k, rfl⟩ : ∃ k', k = k' + 1 := ⟨k - 1, by omega⟩
    rw [louverlaw06qHpackGets.l1, if_neg (by omega), fixed_true k (by omega)]
    rfl
  | succ m ih =>
    intro k i t hi ht hm hk
    obtain ⟨k, rfl⟩ : ∃ k', k = k' + 1 := ⟨k - 1, by omega⟩
    have hx : gt [] p1 (i : Int) ∈ p1 := by rw [gt_nat [] p1 i (by omega)]; exact List.getElem_mem _
    obtain ⟨hby, hbl⟩ := hb _ hx
    rw [louverlaw06qHpackGets.l1, if_pos (by omega), if_pos (by omega)]
    revert hby hbl
    generalize gt [] p1 (i : Int) = b
    intro hby hbl
    obtain ⟨d', e1, d1⟩ := get_f (⟨t, cap⟩ : S64) b hc ht hm hby (by omega) k (by omega)
    obtain ⟨D', e2, d2⟩ := rget_f t cap b hc ht hm hby (by omega) k (by omega)
    dsimp only at e1 d1
    have e2' : louverref06qD_Get.f k (⟨(⟨(twin t).f0, (twin t).f1⟩ : S43), cap⟩ : S45) b = _ := e2
    rw [if_pos (by simp only [List.length_nil]; omega)]
    simp only [lt1, List.nil_append]
    rw [e1]
    simp only [bnd3]
    rw [e2']
    simp only [bnd3]
    by_cases h0 : (gres (gets cap b.length t [] b)).2 = 0
    · obtain ⟨t', o, hg, ho, hr⟩ := gres_ok h0
      obtain ⟨rfl, ht', hm'⟩ := d1 t' o hg
      obtain rfl := d2 t' o hg
      have h9 := tsz_lo o
      rw [hr]
      dsimp only
      rw [if_pos rfl, if_pos (by simp [flt]), same_f o (by omega) k (by omega)]
      simp only [bnd1]
      rw [if_pos trivial]
      unfold hpack_Decoder_Table.f dyntable_Table_Size.f
      simp only [bnd1]
      rw [twin_eta, TX.tsize_f t' ht' k (by omega)]
      simp only [bnd1]
      rw [if_pos trivial, wi64 (by omega) (by omega), show (i : Int) + 1 = ((i + 1 : Nat) : Int) by omega]
      exact ih k (i + 1) t' (by omega) ht' hm' (by omega)
    · obtain ⟨h1, h2⟩ := gres_bad h0
      rw [if_neg h0, fixed_true k (by omega)]
      simp only [bnd1]
      rw [if_pos trivial, h1]
      unfold flt
      rw [if_neg h0, wu32 (by omega) (by omega), if_pos (by simp)]
      rfl
theorem okL_byts {x : List Int} (h : okL 1 (okI .u8) x) : byts x := fun y hy => okI_u8.1 (h.2 y hy)
theorem gets_l0 (p0 : Int) (p1 : List (List Int)) (h1 : okL 24 (okL 1 (okI .u8)) p1) (K : Nat) (hK : (∀ x ∈ p1, x.length ≤ 600) → p1.length ≤ 600 → ∀ k, K ≤ k → bnd1 (hpack_NewDecoder.f p0) (fun r1842q => (bnd1 (louverref06qNew.f p0) fun r1858q => (louverlaw06qHpackGets.l1 k r1842q (⟨(⟨r1858q.f0.f0, r1858q.f0.f1⟩ : S43), r1858q.f1⟩ : S45) 0 p1))) = some true) :
    ∀ (m k i : Nat) (n : Int), i + m = p1.length → (i : Int) ≤ n → n ≤ 600 → (∀ x ∈ p1.take i, x.length ≤ 600) → m + K + 400 ≤ k → louverlaw06qHpackGets.l0 k n i p0 p1 = some true := by
  have hl : p1.length ≤ 5864062014804 := by have := h1.1; omega
  intro m
  induction m with
  | zero =>
    intro k i n hi h2 h3 h4 hk
    obtain ⟨k, rfl⟩ : ∃ k', k = k' + 1 := ⟨k - 1, by omega⟩
    rw [louverlaw06qHpackGets.l0, if_neg (by omega)]
    exact hK (by rw [List.take_of_length_le (by omega)] at h4; exact h4) (by omega) k (by omega)
  | succ m ih =>
    intro k i n hi h2 h3 h4 hk
    obtain ⟨k, rfl⟩ : ∃ k', k = k' + 1 := ⟨k - 1, by omega⟩
    have hx : gt [] p1 (i : Int) ∈ p1 := by rw [gt_nat [] p1 i (by omega)]; exact List.getElem_mem _
    have hxl := (h1.2 _ hx).1
    rw [louverlaw06qHpackGets.l0, if_pos (by omega), if_pos (by omega), wi64 (x := ((gt [] p1 (i : Int)).length : Int) + 1) (by omega) (by omega), wi64 (x := n + _) (by omega) (by omega)]
    by_cases hc : n + (((gt [] p1 (i : Int)).length : Int) + 1) > 600
    · rw [if_pos hc, fixed_true k (by omega)]
      rfl
    · rw [if_neg hc, wi64 (by omega) (by omega), show (i : Int) + 1 = ((i + 1 : Nat) : Int) by omega]
      refine ih k (i + 1) _ (by omega) (by omega) (by omega) (fun x hx => ?_) (by omega)
      rw [List.take_add_one, List.getElem?_eq_getElem (by omega)] at hx
      rcases List.mem_append.1 hx with hx | hx
      · exact h4 x hx
      · simp only [Option.toList, List.mem_singleton] at hx
        rw [hx, ← gt_nat [] p1 i (by omega)]
        omega
theorem newd_f (p0 : Int) (h0 : 0 ≤ p0 ∧ p0 < 4294967296) : hpack_NewDecoder.f p0 = some (⟨tb [] (min p0 4096), min p0 4096⟩ : S64) := by
  unfold hpack_NewDecoder.f dyntable_New.f
  rw [mn_eq, wi64 (by omega) (by omega)]
  rfl
theorem newr_f (p0 : Int) (h0 : 0 ≤ p0 ∧ p0 < 4294967296) : louverref06qNew.f p0 = some (⟨twin (tb [] (min p0 4096)), min p0 4096⟩ : S45) := by
  unfold louverref06qNew.f
  rw [mn_eq, wi64 (by omega) (by omega)]
  rfl
theorem louverlaw06qHpackGets_true (p0 : Int) (p1 : List (List Int)) (h0 : okI .u32 p0) (h1 : okL 24 (okL 1 (okI .u8)) p1) : ∃ k, louverlaw06qHpackGets.f k p0 p1 = some true := by
  rw [okI_u32] at h0
  obtain ⟨K, hK⟩ : ∃ K : Nat, K = p1.length + 500010400 + 400 := ⟨_, rfl⟩
  refine ⟨K, ?_⟩
  unfold louverlaw06qHpackGets.f
  refine gets_l0 p0 p1 h1 500010400 (fun ha hb k hk => ?_) p1.length K 0 0 (by omega) (by omega) (by omega) (by simp) (by omega)
  rw [newd_f p0 (by omega), newr_f p0 (by omega)]
  simp only [bnd1]
  exact gets_l1 p1 hb (fun x hx => ⟨okL_byts (h1.2 x hx), ha x hx⟩) (min p0 4096) (by omega) p1.length k 0 _ (by omega) (tb_ok (by simp only [tsz]; omega) (by omega)) (by show min p0 4096 ≤ 4096; omega) (by omega)
end Go.Proofs.YtinebjcfgmoniaaDoor.Sl
