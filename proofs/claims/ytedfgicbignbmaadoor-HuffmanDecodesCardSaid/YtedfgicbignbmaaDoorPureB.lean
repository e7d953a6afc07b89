/- Chapter 03, plain: the codes' laws. -/
import Derived.Test.YtedfgicbignbmaaDoorPureA
set_option linter.unusedVariables false
set_option linter.unusedSimpArgs false
namespace Go.Proofs.YtedfgicbignbmaaDoor.Sl
open Go Go.Proofs.Sl

theorem gt_nat {α : Type} (z : α) (l : List α) (i : Nat) (h : i < l.length) : gt z l (i : Int) = l[i] := by simp [gt, List.getD_eq_getElem?_getD, h]
theorem CODES_len : CODES.length = 257 := by kernel_rfl
theorem TEXTS_len : TEXTS.length = 257 := by kernel_rfl
theorem codes_at (k : Nat) (hk : 7800 ≤ k) : huffman_codes.f k = some CODES := by
  obtain ⟨k, rfl⟩ : ∃ k', k = k' + 7800 := ⟨k - 7800, by omega⟩
  exact codes_f k
theorem texts_at (k : Nat) (hk : 20000 ≤ k) : louverref03qCodes.f k = some TEXTS := by
  obtain ⟨k, rfl⟩ : ∃ k', k = k' + 20000 := ⟨k - 20000, by omega⟩
  exact texts_f k
theorem code_in (k : Nat) (hk : 7800 ≤ k) (i : Nat) (hi : i < 257) : huffman_Code.f k (i : Int) = some ((gt z45 CODES (i : Int)).f0, IntKind.i64.wrap (gt z45 CODES (i : Int)).f1) := by
  unfold huffman_Code.f
  rw [if_neg (by omega), if_neg (by omega), codes_at k hk]
  simp only [bnd1]
  rw [if_pos (by omega), if_pos (by omega)]
theorem code_out (k : Nat) (n : Int) (h : n < 0 ∨ 257 ≤ n) : huffman_Code.f k n = some (0, 0) := by
  unfold huffman_Code.f
  by_cases h1 : n < 0
  · rw [if_pos h1]
  · rw [if_neg h1, if_pos (by omega)]
theorem fixed_f (k : Nat) : louverlaw03qfixed.f (k + 8000) = some true := by kernel_rfl
theorem fixed_true (k : Nat) (hk : 8000 ≤ k) : louverlaw03qfixed.f k = some true := by
  obtain ⟨k, rfl⟩ : ∃ k', k = k' + 8000 := ⟨k - 8000, by omega⟩
  exact fixed_f k
/-! all bits -/
def part (i : Nat) : Int := ((CODES.take i).map fun c => (2 : Int) ^ (30 - c.f1.toNat)).sum
theorem all_full : ((List.range 257).all fun i => let b := IntKind.i64.wrap (gt z45 CODES (i : Int)).f1; decide (1 ≤ b) && decide (b ≤ 30) && decide (0 ≤ IntKind.i64.wrap (30 - b)) && decide (IntKind.u64.wrap (part i + shlI .u64 1 (IntKind.i64.wrap (30 - b))) = part (i + 1))) = true := by kernel_rfl
theorem full_at (i : Nat) (h : i < 257) : 1 ≤ IntKind.i64.wrap (gt z45 CODES (i : Int)).f1 ∧ IntKind.i64.wrap (gt z45 CODES (i : Int)).f1 ≤ 30 ∧ 0 ≤ IntKind.i64.wrap (30 - IntKind.i64.wrap (gt z45 CODES (i : Int)).f1) ∧
    IntKind.u64.wrap (part i + shlI .u64 1 (IntKind.i64.wrap (30 - IntKind.i64.wrap (gt z45 CODES (i : Int)).f1))) = part (i + 1) := by
  have := List.all_eq_true.1 all_full i (by simpa using h)
  simp only [Bool.and_eq_true, decide_eq_true_eq] at this
  exact ⟨this.1.1.1, this.1.1.2, this.1.2, this.2⟩
theorem part_all : part 257 = 1073741824 := by kernel_rfl
theorem full_l0 (p0 : Int) : ∀ (m k i : Nat), i + m = 257 → m + 8000 < k → louverlaw03qHuffmanFull.l0 k (part i) i p0 = some true := by
  intro m
  induction m with
  | zero =>
    intro k i hi hk
    obtain ⟨k, rfl⟩ : ∃ k', k = k' + 1 := ⟨k - 1, by omega⟩
    obtain rfl : i = 257 := by omega
    rw [louverlaw03qHuffmanFull.l0, if_neg (by omega), fixed_true k (by omega), part_all]
    by_cases h : 0 ≤ p0 ∧ p0 ≤ 256
    · obtain ⟨j, rfl⟩ : ∃ j : Nat, p0 = (j : Int) := ⟨p0.toNat, by omega⟩
      obtain ⟨h1, _⟩ := full_at j (by omega)
      rw [code_in k (by omega) j (by omega)]
      simp only [bnd1, bnd2, if_true]
      rw [if_neg (by omega)]
      have e1 : decide (IntKind.i64.wrap (gt z45 CODES (j : Int)).f1 = 0) = false := by simp; omega
      have e2 : decide ((j : Int) > 256) = false := by simp; omega
      rw [e1, e2]
      rfl
    · rw [code_out k p0 (by omega)]
      simp only [bnd1, bnd2, if_true]
      by_cases h1 : p0 < 0
      · rw [if_pos h1]
        rfl
      · rw [if_neg h1]
        have e2 : decide (p0 > 256) = true := by simp; omega
        rw [e2]
        rfl
  | succ m ih =>
    intro k i hi hk
    obtain ⟨k, rfl⟩ : ∃ k', k = k' + 1 := ⟨k - 1, by omega⟩
    obtain ⟨h1, h2, h3, h4⟩ := full_at i (by omega)
    rw [louverlaw03qHuffmanFull.l0, if_pos (by omega), code_in k (by omega) i (by omega)]
    simp only [bnd2]
    rw [if_neg (by omega), if_neg (by omega), if_pos h3, h4, wi64 (by omega) (by omega), show (i : Int) + 1 = ((i + 1 : Nat) : Int) by omega]
    exact ih k (i + 1) (by omega) (by omega)
theorem louverlaw03qHuffmanFull_true (p0 : Int) (h0 : okI .i64 p0) : ∃ k, louverlaw03qHuffmanFull.f k p0 = some true :=
  ⟨9000, full_l0 p0 257 9000 0 (by omega) (by omega)⟩
/-! sizes -/
theorem all_sizes : ((List.range 256).all fun i => decide (5 ≤ gt (0 : Int) G0 (i : Int)) && decide (gt (0 : Int) G0 (i : Int) ≤ 30)) = true := by kernel_rfl
def szc (c : UInt8) : Int := gt (0 : Int) G0 (c.toNat : Int)
theorem szc_bd (c : UInt8) : 5 ≤ szc c ∧ szc c ≤ 30 := by
  have := List.all_eq_true.1 all_sizes c.toNat (by simpa using c.toNat_lt)
  simpa [szc] using this
def bits : List UInt8 → Int
  | [] => 0
  | c :: l => szc c + bits l
theorem bits_bd : ∀ l : List UInt8, 5 * (l.length : Int) ≤ bits l ∧ bits l ≤ 30 * (l.length : Int)
  | [] => by simp [bits]
  | c :: l => by
    have := bits_bd l
    have := szc_bd c
    simp only [bits, List.length_cons]
    omega
theorem bits_app : ∀ a b : List UInt8, bits (a ++ b) = bits a + bits b
  | [], b => by simp [bits]
  | c :: a, b => by simp only [List.cons_append, bits, bits_app a b]; omega
theorem size_l0 (s : List UInt8) (hs : s.length ≤ 100000000000000) : ∀ (m k i : Nat) (n : Int), i + m = s.length → m < k → 0 ≤ n → n ≤ 30 * (i : Int) → huffman_Size.l0 k n i s = some ((n + bits (s.drop i) + 7) / 8) := by
  intro m
  induction m with
  | zero =>
    intro k i n hi hk h0 h1
    obtain ⟨k, rfl⟩ : ∃ k', k = k' + 1 := ⟨k - 1, by omega⟩
    rw [huffman_Size.l0, if_neg (by omega), List.drop_eq_nil_of_le (by omega)]
    simp only [bits]
    rw [wi64 (x := n + 7) (by omega) (by omega), Int.tdiv_eq_ediv_of_nonneg (by omega), wi64 (by omega) (by omega), Int.add_zero]
  | succ m ih =>
    intro k i n hi hk h0 h1
    obtain ⟨k, rfl⟩ : ∃ k', k = k' + 1 := ⟨k - 1, by omega⟩
    have hlt : i < s.length := by omega
    have eb : btI s (i : Int) = ((s[i]).toNat : Int) := by simp [btI, List.getD_eq_getElem?_getD, hlt]
    have hu := (s[i]).toNat_lt
    have hz := szc_bd s[i]
    rw [huffman_Size.l0, if_pos (by omega), if_pos (by omega), eb, if_pos (by omega), if_pos (by omega)]
    have e1 : gt (0 : Int) G0 ((s[i]).toNat : Int) = szc s[i] := rfl
    rw [e1, wi64 (x := szc s[i]) (by omega) (by omega), wi64 (by omega) (by omega), wi64 (by omega) (by omega), show (i : Int) + 1 = ((i + 1 : Nat) : Int) by omega, ih k (i + 1) _ (by omega) (by omega) (by omega) (by omega)]
    rw [List.drop_eq_getElem_cons hlt, bits]
    congr 2
    omega
theorem size_f (s : List UInt8) (hs : s.length ≤ 100000000000000) (k : Nat) (hk : s.length < k) : huffman_Size.f k s = some ((bits s + 7) / 8) := by
  have := size_l0 s hs s.length k 0 0 (by omega) hk (by omega) (by omega)
  simpa [huffman_Size.f] using this
theorem louverlaw03qHuffmanJoins_true (p0 p1 : List UInt8) (h0 : okS p0) (h1 : okS p1) : ∃ k, louverlaw03qHuffmanJoins.f k p0 p1 = some true := by
  refine ⟨9000, ?_⟩
  unfold louverlaw03qHuffmanJoins.f
  rw [fixed_true 9000 (by omega)]
  by_cases ha : (p0.length : Int) > 3000
  · rw [if_pos ha]
    rfl
  rw [if_neg ha]
  by_cases hb : (p1.length : Int) > 3000
  · rw [if_pos hb]
    rfl
  rw [if_neg hb, size_f p0 (by omega) _ (by omega), size_f p1 (by omega) _ (by omega), size_f (p0 ++ p1) (by simp; omega) _ (by simp; omega), bits_app]
  have b0 := bits_bd p0
  have b1 := bits_bd p1
  simp only [bnd1]
  rw [if_pos (by omega), if_pos trivial, wi64 (x := (bits p0 + 7) / 8 + (bits p1 + 7) / 8) (by omega) (by omega), if_pos (by omega), wi64 (x := (bits p0 + 7) / 8 + (bits p1 + 7) / 8 - 1) (by omega) (by omega), if_pos (by omega), wi64 (x := 4 * (p0.length : Int)) (by omega) (by omega), if_pos (by omega),
    wi64 (x := 8 * ((bits p0 + 7) / 8)) (by omega) (by omega), wi64 (x := 5 * (p0.length : Int)) (by omega) (by omega)]
  congr 1
  simp
  omega
end Go.Proofs.YtedfgicbignbmaaDoor.Sl
