/- Chapter 06, plain: the writings' lengths. -/
import Derived.Test.YtinebjcfgmoniaaDoorPureB
set_option linter.unusedVariables false
set_option linter.unusedSimpArgs false
namespace Go.Proofs.YtinebjcfgmoniaaDoor.Sl
open Go Go.Proofs.Sl

def CODES : List S116 := [⟨8184, 13⟩, ⟨8388568, 23⟩, ⟨268435426, 28⟩, ⟨268435427, 28⟩, ⟨268435428, 28⟩, ⟨268435429, 28⟩, ⟨268435430, 28⟩, ⟨268435431, 28⟩, ⟨268435432, 28⟩,
  ⟨16777194, 24⟩, ⟨1073741820, 30⟩, ⟨268435433, 28⟩, ⟨268435434, 28⟩, ⟨1073741821, 30⟩, ⟨268435435, 28⟩, ⟨268435436, 28⟩, ⟨268435437, 28⟩, ⟨268435438,
  28⟩, ⟨268435439, 28⟩, ⟨268435440, 28⟩, ⟨268435441, 28⟩, ⟨268435442, 28⟩, ⟨1073741822, 30⟩, ⟨268435443, 28⟩, ⟨268435444, 28⟩, ⟨268435445, 28⟩,
  ⟨268435446, 28⟩, ⟨268435447, 28⟩, ⟨268435448, 28⟩, ⟨268435449, 28⟩, ⟨268435450, 28⟩, ⟨268435451, 28⟩, ⟨20, 6⟩, ⟨1016, 10⟩, ⟨1017, 10⟩, ⟨4090, 12⟩,
  ⟨8185, 13⟩, ⟨21, 6⟩, ⟨248, 8⟩, ⟨2042, 11⟩, ⟨1018, 10⟩, ⟨1019, 10⟩, ⟨249, 8⟩, ⟨2043, 11⟩, ⟨250, 8⟩, ⟨22, 6⟩, ⟨23, 6⟩, ⟨24, 6⟩, ⟨0, 5⟩, ⟨1, 5⟩, ⟨2, 5⟩,
  ⟨25, 6⟩, ⟨26, 6⟩, ⟨27, 6⟩, ⟨28, 6⟩, ⟨29, 6⟩, ⟨30, 6⟩, ⟨31, 6⟩, ⟨92, 7⟩, ⟨251, 8⟩, ⟨32764, 15⟩, ⟨32, 6⟩, ⟨4091, 12⟩, ⟨1020, 10⟩, ⟨8186, 13⟩, ⟨33, 6⟩,
  ⟨93, 7⟩, ⟨94, 7⟩, ⟨95, 7⟩, ⟨96, 7⟩, ⟨97, 7⟩, ⟨98, 7⟩, ⟨99, 7⟩, ⟨100, 7⟩, ⟨101, 7⟩, ⟨102, 7⟩, ⟨103, 7⟩, ⟨104, 7⟩, ⟨105, 7⟩, ⟨106, 7⟩, ⟨107, 7⟩, ⟨108,
  7⟩, ⟨109, 7⟩, ⟨110, 7⟩, ⟨111, 7⟩, ⟨112, 7⟩, ⟨113, 7⟩, ⟨114, 7⟩, ⟨252, 8⟩, ⟨115, 7⟩, ⟨253, 8⟩, ⟨8187, 13⟩, ⟨524272, 19⟩, ⟨8188, 13⟩, ⟨16380, 14⟩, ⟨34,
  6⟩, ⟨32765, 15⟩, ⟨3, 5⟩, ⟨35, 6⟩, ⟨4, 5⟩, ⟨36, 6⟩, ⟨5, 5⟩, ⟨37, 6⟩, ⟨38, 6⟩, ⟨39, 6⟩, ⟨6, 5⟩, ⟨116, 7⟩, ⟨117, 7⟩, ⟨40, 6⟩, ⟨41, 6⟩, ⟨42, 6⟩, ⟨7, 5⟩,
  ⟨43, 6⟩, ⟨118, 7⟩, ⟨44, 6⟩, ⟨8, 5⟩, ⟨9, 5⟩, ⟨45, 6⟩, ⟨119, 7⟩, ⟨120, 7⟩, ⟨121, 7⟩, ⟨122, 7⟩, ⟨123, 7⟩, ⟨32766, 15⟩, ⟨2044, 11⟩, ⟨16381, 14⟩, ⟨8189,
  13⟩, ⟨268435452, 28⟩, ⟨1048550, 20⟩, ⟨4194258, 22⟩, ⟨1048551, 20⟩, ⟨1048552, 20⟩, ⟨4194259, 22⟩, ⟨4194260, 22⟩, ⟨4194261, 22⟩, ⟨8388569, 23⟩,
  ⟨4194262, 22⟩, ⟨8388570, 23⟩, ⟨8388571, 23⟩, ⟨8388572, 23⟩, ⟨8388573, 23⟩, ⟨8388574, 23⟩, ⟨16777195, 24⟩, ⟨8388575, 23⟩, ⟨16777196, 24⟩, ⟨16777197,
  24⟩, ⟨4194263, 22⟩, ⟨8388576, 23⟩, ⟨16777198, 24⟩, ⟨8388577, 23⟩, ⟨8388578, 23⟩, ⟨8388579, 23⟩, ⟨8388580, 23⟩, ⟨2097116, 21⟩, ⟨4194264, 22⟩, ⟨8388581,
  23⟩, ⟨4194265, 22⟩, ⟨8388582, 23⟩, ⟨8388583, 23⟩, ⟨16777199, 24⟩, ⟨4194266, 22⟩, ⟨2097117, 21⟩, ⟨1048553, 20⟩, ⟨4194267, 22⟩, ⟨4194268, 22⟩, ⟨8388584,
  23⟩, ⟨8388585, 23⟩, ⟨2097118, 21⟩, ⟨8388586, 23⟩, ⟨4194269, 22⟩, ⟨4194270, 22⟩, ⟨16777200, 24⟩, ⟨2097119, 21⟩, ⟨4194271, 22⟩, ⟨8388587, 23⟩, ⟨8388588,
  23⟩, ⟨2097120, 21⟩, ⟨2097121, 21⟩, ⟨4194272, 22⟩, ⟨2097122, 21⟩, ⟨8388589, 23⟩, ⟨4194273, 22⟩, ⟨8388590, 23⟩, ⟨8388591, 23⟩, ⟨1048554, 20⟩, ⟨4194274,
  22⟩, ⟨4194275, 22⟩, ⟨4194276, 22⟩, ⟨8388592, 23⟩, ⟨4194277, 22⟩, ⟨4194278, 22⟩, ⟨8388593, 23⟩, ⟨67108832, 26⟩, ⟨67108833, 26⟩, ⟨1048555, 20⟩, ⟨524273,
  19⟩, ⟨4194279, 22⟩, ⟨8388594, 23⟩, ⟨4194280, 22⟩, ⟨33554412, 25⟩, ⟨67108834, 26⟩, ⟨67108835, 26⟩, ⟨67108836, 26⟩, ⟨134217694, 27⟩, ⟨134217695, 27⟩,
  ⟨67108837, 26⟩, ⟨16777201, 24⟩, ⟨33554413, 25⟩, ⟨524274, 19⟩, ⟨2097123, 21⟩, ⟨67108838, 26⟩, ⟨134217696, 27⟩, ⟨134217697, 27⟩, ⟨67108839, 26⟩,
  ⟨134217698, 27⟩, ⟨16777202, 24⟩, ⟨2097124, 21⟩, ⟨2097125, 21⟩, ⟨67108840, 26⟩, ⟨67108841, 26⟩, ⟨268435453, 28⟩, ⟨134217699, 27⟩, ⟨134217700, 27⟩,
  ⟨134217701, 27⟩, ⟨1048556, 20⟩, ⟨16777203, 24⟩, ⟨1048557, 20⟩, ⟨2097126, 21⟩, ⟨4194281, 22⟩, ⟨2097127, 21⟩, ⟨2097128, 21⟩, ⟨8388595, 23⟩, ⟨4194282,
  22⟩, ⟨4194283, 22⟩, ⟨33554414, 25⟩, ⟨33554415, 25⟩, ⟨16777204, 24⟩, ⟨16777205, 24⟩, ⟨67108842, 26⟩, ⟨8388596, 23⟩, ⟨67108843, 26⟩, ⟨134217702, 27⟩,
  ⟨67108844, 26⟩, ⟨67108845, 26⟩, ⟨134217703, 27⟩, ⟨134217704, 27⟩, ⟨134217705, 27⟩, ⟨134217706, 27⟩, ⟨134217707, 27⟩, ⟨268435454, 28⟩, ⟨134217708, 27⟩,
  ⟨134217709, 27⟩, ⟨134217710, 27⟩, ⟨134217711, 27⟩, ⟨134217712, 27⟩, ⟨67108846, 26⟩, ⟨1073741823, 30⟩]
theorem codes_f (k : Nat) : huffman_codes.f (k + 7800) = some CODES := by kernel_rfl
theorem codes_at (k : Nat) (hk : 7800 ≤ k) : huffman_codes.f k = some CODES := by
  obtain ⟨k, rfl⟩ : ∃ k', k = k' + 7800 := ⟨k - 7800, by omega⟩
  exact codes_f k
/-! sizes -/
theorem all_sizes : ((List.range 256).all fun i => decide (5 ≤ gt (0 : Int) G1 (i : Int)) && decide (gt (0 : Int) G1 (i : Int) ≤ 30)) = true := by kernel_rfl
def szc (c : UInt8) : Int := gt (0 : Int) G1 (c.toNat : Int)
theorem szc_bd (c : UInt8) : 5 ≤ szc c ∧ szc c ≤ 30 := by
  have := List.all_eq_true.1 all_sizes c.toNat (by simpa using c.toNat_lt)
  simpa [szc] using this
def bits : List UInt8 → Int
  | [] => 0
  | c :: l => szc c + bits l
theorem bits_bd : ∀ l : List UInt8, 5 * (l.length : Int) ≤ bits l ∧ bits l ≤ 30 * (l.length : Int)
  | [] => by simp [bits]
  | c :: l => by
    have := bits_bd l
    have := szc_bd c
    simp only [bits, List.length_cons]
    omega
theorem bits_app : ∀ a b : List UInt8, bits (a ++ b) = bits a + bits b
  | [], b => by simp [bits]
  | c :: a, b => by simp only [List.cons_append, bits, bits_app a b]; omega
theorem size_l0 (s : List UInt8) (hs : s.length ≤ 100000000000000) : ∀ (m k i : Nat) (n : Int), i + m = s.length → m < k → 0 ≤ n → n ≤ 30 * (i : Int) → huffman_Size.l0 k n i s = some ((n + bits (s.drop i) + 7) / 8) := by
  intro m
  induction m with
  | zero =>
    intro k i n hi hk h0 h1
    obtain ⟨k, rfl⟩ : ∃ k', k = k' + 1 := ⟨k - 1, by omega⟩
    rw [huffman_Size.l0, if_neg (by omega), List.drop_eq_nil_of_le (by omega)]
    simp only [bits]
    rw [wi64 (x := n + 7) (by omega) (by omega), Int.tdiv_eq_ediv_of_nonneg (by omega), wi64 (by omega) (by omega), Int.add_zero]
  | succ m ih =>
    intro k i n hi hk h0 h1
    obtain ⟨k, rfl⟩ : ∃ k', k = k' + 1 := ⟨k - 1, by omega⟩
    have hlt : i < s.length := by omega
    have eb : btI s (i : Int) = ((s[i]).toNat : Int) := by simp [btI, List.getD_eq_getElem?_getD, hlt]
    have hu := (s[i]).toNat_lt
    have hz := szc_bd s[i]
    rw [huffman_Size.l0, if_pos (by omega), if_pos (by omega), eb, if_pos (by omega), if_pos (by omega)]
    have e1 : gt (0 : Int) G1 ((s[i]).toNat : Int) = szc s[i] := rfl
    rw [e1, wi64 (x := szc s[i]) (by omega) (by omega), wi64 (by omega) (by omega), wi64 (by omega) (by omega), show (i : Int) + 1 = ((i + 1 : Nat) : Int) by omega, ih k (i + 1) _ (by omega) (by omega) (by omega) (by omega)]
    rw [List.drop_eq_getElem_cons hlt, bits]
    congr 2
    omega
theorem hsize_f (s : List UInt8) (hs : s.length ≤ 100000000000000) (k : Nat) (hk : s.length < k) : huffman_Size.f k s = some ((bits s + 7) / 8) := by
  have := size_l0 s hs s.length k 0 0 (by omega) hk (by omega) (by omega)
  simpa [huffman_Size.f] using this
theorem all_f1 : ((List.range 256).all fun i => decide (5 ≤ (gt z116 CODES (i : Int)).f1) && decide ((gt z116 CODES (i : Int)).f1 ≤ 30)) = true := by kernel_rfl
theorem f1qbd (c : UInt8) : 5 ≤ (gt z116 CODES (c.toNat : Int)).f1 ∧ (gt z116 CODES (c.toNat : Int)).f1 ≤ 30 := by
  have := List.all_eq_true.1 all_f1 c.toNat (by simpa using c.toNat_lt)
  simpa using this
theorem enc_l1 (s : List UInt8) (i F : Nat) (hi : i < 10000) (hl0 : ∀ (k : Nat) (out : List Int) (kept bits : Int), 0 ≤ bits → bits < 8 → 8 * (out.length : Int) + bits ≤ 30 * ((i : Int) + 1) → F ≤ k → ∃ r, huffman_Encode.l0 k out kept bits ((i + 1 : Nat) : Int) s CODES = some r) :
    ∀ (m k : Nat) (out : List Int) (kept bits : Int), 0 ≤ bits → bits < 8 * ((m : Int) + 1) → 8 * (out.length : Int) + bits ≤ 30 * ((i : Int) + 1) → F + m + 1 ≤ k → ∃ r, huffman_Encode.l1 k out kept bits s CODES (i : Int) = some r := by
  have e3 : IntKind.i64.wrap ((i : Int) + 1) = ((i + 1 : Nat) : Int) := by rw [wi64 (by omega) (by omega)]; omega
  intro m
  induction m with
  | zero =>
    intro k out kept bits h0 h1 h2 hk
    obtain ⟨k, rfl⟩ : ∃ k', k = k' + 1 := ⟨k - 1, by omega⟩
    rw [huffman_Encode.l1, if_neg (by omega), e3]
    exact hl0 k out kept bits h0 (by omega) h2 (by omega)
  | succ m ih =>
    intro k out kept bits h0 h1 h2 hk
    obtain ⟨k, rfl⟩ : ∃ k', k = k' + 1 := ⟨k - 1, by omega⟩
    rw [huffman_Encode.l1]
    by_cases hb : bits ≥ 8
    · rw [if_pos hb]
      have e1 : IntKind.i64.wrap (bits - 8) = bits - 8 := wi64 (by omega) (by omega)
      rw [e1, if_pos (by omega), if_pos (by omega)]
      simp only [lt1]
      exact ih k _ _ _ (by omega) (by omega) (by simp only [List.length_append, List.length_singleton]; omega) (by omega)
    · rw [if_neg hb, e3]
      exact hl0 k out kept bits h0 (by omega) h2 (by omega)
theorem enc_l0 (s : List UInt8) (hs : s.length < 10000) : ∀ (n k i : Nat) (out : List Int) (kept bits : Int), i + n = s.length → 0 ≤ bits → bits < 8 → 8 * (out.length : Int) + bits ≤ 30 * (i : Int) → 6 * n + 1 ≤ k → ∃ r, huffman_Encode.l0 k out kept bits (i : Int) s CODES = some r := by
  intro n
  induction n with
  | zero =>
    intro k i out kept bits hi h0 h1 h2 hk
    obtain ⟨k, rfl⟩ : ∃ k', k = k' + 1 := ⟨k - 1, by omega⟩
    rw [huffman_Encode.l0, if_neg (by omega)]
    by_cases hb : bits > 0
    · rw [if_pos hb, if_pos (by rw [wi64 (by omega) (by omega)]; omega), if_pos (by omega)]
      exact ⟨_, rfl⟩
    · rw [if_neg hb]
      exact ⟨_, rfl⟩
  | succ n ih =>
    intro k i out kept bits hi h0 h1 h2 hk
    obtain ⟨k, rfl⟩ : ∃ k', k = k' + 1 := ⟨k - 1, by omega⟩
    have hlt : i < s.length := by omega
    have eb : btI s (i : Int) = ((s[i]).toNat : Int) := by simp [btI, List.getD_eq_getElem?_getD, hlt]
    have hu := (s[i]).toNat_lt
    have hf := f1qbd s[i]
    rw [huffman_Encode.l0, if_pos (by omega), if_pos (by omega), eb, if_pos (by omega), if_pos (by omega), if_pos (by omega)]
    rw [wi64 (x := (gt z116 CODES ((s[i]).toNat : Int)).f1) (by omega) (by omega), wi64 (x := bits + (gt z116 CODES ((s[i]).toNat : Int)).f1) (by omega) (by omega)]
    refine enc_l1 s i (6 * n + 1) (by omega) (fun k out kept bits a b c d => ih k (i + 1) out kept bits (by omega) a b (by omega) d) 4 k out _ _ (by omega) (by omega) (by omega) (by omega)
theorem enc_f (s : List UInt8) (hs : s.length < 10000) (k : Nat) (hk : 70000 ≤ k) : ∃ r, huffman_Encode.f k s = some r := by
  unfold huffman_Encode.f
  rw [codes_at k (by omega), hsize_f s (by omega) k (by omega)]
  have := bits_bd s
  simp only [bnd1, lt1]
  rw [if_pos (by omega), if_pos (by omega)]
  exact enc_l0 s hs s.length k 0 _ _ _ (by omega) (by omega) (by omega) (by simp) (by omega)
/-! numbers -/
theorem clone_f {p : List Int} (h : p.length ≤ 140737488355328) : slices_Clone_byte_byte.f p = some p := by
  unfold slices_Clone_byte_byte.f
  rw [if_pos (by simpa using h)]
  rfl
theorem put_l0 (n : Int) (b : List Int) (h0 : 0 ≤ n) (h1 : n ≤ 16383) (hb : b.length ≤ 2000000) (k : Nat) (hk : 5 ≤ k) : ∃ y, prefix_Put.l0 k n b = some y ∧ y.length ≤ b.length + 2 := by
  obtain ⟨k, rfl⟩ : ∃ k', k = k' + 2 := ⟨k - 2, by omega⟩
  rw [show k + 2 = (k + 1) + 1 from rfl, prefix_Put.l0]
  by_cases hn : n > 127
  · rw [if_pos hn, if_pos (by omega)]
    simp only [lt1]
    have e : shrI .u32 n 7 = n / 128 := by rw [shrI_eq _ (by decide)]; rfl
    rw [e, prefix_Put.l0, if_neg (by omega), if_pos (by simp; omega)]
    exact ⟨_, rfl, by simp⟩
  · rw [if_neg hn, if_pos (by omega)]
    exact ⟨_, rfl, by simp⟩
theorem put_f (b : List Int) (bits first n : Int) (hbits : bits = 4 ∨ bits = 5 ∨ bits = 6 ∨ bits = 7) (h0 : 0 ≤ n) (h1 : n ≤ 16383) (hb : b.length ≤ 1000000) (k : Nat) (hk : 5 ≤ k) : ∃ y, prefix_Put.f k b bits first n = some y ∧ y.length ≤ b.length + 3 ∧ (n = 0 → y.length ≤ b.length + 1) := by
  have key : ∀ top : Int, 15 ≤ top → top ≤ 127 → IntKind.u32.wrap (shlI .u32 1 bits - 1) = top → 0 ≤ bits → prefix_right.f bits = some true → ∃ y, prefix_Put.f k b bits first n = some y ∧ y.length ≤ b.length + 3 ∧ (n = 0 → y.length ≤ b.length + 1) := by
    intro top t1 t2 ht hb0 hr
    unfold prefix_Put.f
    rw [clone_f (by omega), hr]
    simp only [bnd1, lt1, if_true]
    rw [if_neg (by omega), if_pos hb0, ht]
    by_cases hn : n < top
    · rw [if_pos hn, if_pos (by omega)]
      exact ⟨_, rfl, by simp, fun _ => by simp⟩
    · rw [if_neg hn, if_pos (by omega), wu32 (by omega) (by omega)]
      obtain ⟨y, hy, hl⟩ := put_l0 (n - top) (b ++ [bOr .u8 (bAndNot .u8 first (IntKind.u8.wrap top)) (IntKind.u8.wrap top)]) (by omega) (by omega) (by simp; omega) k hk
      refine ⟨y, hy, ?_, fun h => by omega⟩
      simp only [List.length_append, List.length_singleton] at hl
      omega
  rcases hbits with rfl | rfl | rfl | rfl
  · exact key 15 (by omega) (by omega) (by decide) (by omega) (by decide)
  · exact key 31 (by omega) (by omega) (by decide) (by omega) (by decide)
  · exact key 63 (by omega) (by omega) (by decide) (by omega) (by decide)
  · exact key 127 (by omega) (by omega) (by decide) (by omega) (by decide)
theorem ofS_length (s : List UInt8) : (ofS s).length = s.length := by simp [ofS]
theorem text_f (b : List Int) (s : List UInt8) (hs : s.length < 9000) (hb : b.length ≤ 900000) (k : Nat) (hk : 70000 ≤ k) : ∃ y, hpack_text.f k b s = some y ∧ y.length ≤ b.length + s.length + 3 := by
  obtain ⟨x, hx⟩ := enc_f s (by omega) k hk
  unfold hpack_text.f
  rw [hx]
  simp only [bnd1]
  by_cases hc : (x.length : Int) < (s.length : Int)
  · rw [if_pos hc, wu32 (by omega) (by omega)]
    obtain ⟨y, hy, hl, _⟩ := put_f b 7 128 (x.length : Int) (by omega) (by omega) (by omega) (by omega) k (by omega)
    rw [hy]
    simp only [bnd1, lt1]
    rw [if_pos (by omega)]
    exact ⟨_, rfl, by simp; omega⟩
  · rw [if_neg hc, wu32 (by omega) (by omega)]
    obtain ⟨y, hy, hl, _⟩ := put_f b 7 0 (s.length : Int) (by omega) (by omega) (by omega) (by omega) k (by omega)
    rw [hy]
    simp only [bnd1, lt1]
    rw [if_pos (by omega)]
    exact ⟨_, rfl, by simp [ofS_length]; omega⟩
def small (f : S52) : Prop := f.f0.length < 9000 ∧ f.f1.length < 9000
theorem literal_f (b : List Int) (bits first n : Int) (f : S52) (hbits : bits = 4 ∨ bits = 6) (h0 : 0 ≤ n) (h1 : n ≤ 16383) (hf : small f) (hb : b.length ≤ 800000) (k : Nat) (hk : 70000 ≤ k) : ∃ y, hpack_literal.f k b bits first n f = some y ∧ y.length ≤ b.length + f.f0.length + f.f1.length + 10 := by
  obtain ⟨g0, g1⟩ := hf
  unfold hpack_literal.f
  rw [wu32 (by omega) (by omega)]
  obtain ⟨y, hy, hl, hz⟩ := put_f b bits first n (by omega) h0 h1 (by omega) k (by omega)
  rw [hy]
  simp only [bnd1]
  by_cases hc : n = 0
  · rw [if_pos hc]
    have := hz hc
    obtain ⟨y1, hy1, hl1⟩ := text_f y f.f0 g0 (by omega) k hk
    obtain ⟨y2, hy2, hl2⟩ := text_f y1 f.f1 g1 (by omega) k hk
    rw [hy1]
    simp only [bnd1]
    rw [hy2]
    exact ⟨_, rfl, by omega⟩
  · rw [if_neg hc]
    obtain ⟨y2, hy2, hl2⟩ := text_f y f.f1 g1 (by omega) k hk
    rw [hy2]
    exact ⟨_, rfl, by omega⟩
end Go.Proofs.YtinebjcfgmoniaaDoor.Sl
