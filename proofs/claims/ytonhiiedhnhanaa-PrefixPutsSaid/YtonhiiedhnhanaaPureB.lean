/- Chapter 02, plain: what the writers write, and that the readers read it. -/
import Derived.Test.YtonhiiedhnhanaaPureA
set_option linter.unusedVariables false
set_option linter.unusedSimpArgs false
namespace Go.Proofs.Ytonhiiedhnhanaa.Sl
open Go Go.Proofs.Sl

theorem fixed_true (k : Nat) : louverlaw02qfixed.f (k + 20) = some true := by rfl
/-- 2^n for a prefix of n bits. -/
def tp (n : Int) : Int := 2 ^ n.toNat
def low (n b v : Int) : Int := b / tp n * tp n + v
def pre (n b v : Int) : List Int := if v < tp n - 1 then [low n b v] else low n b (tp n - 1) :: vi 3 (v - (tp n - 1))
theorem tp_cases {n : Int} (h1 : 1 ≤ n) (h2 : n ≤ 8) : (n = 1 ∧ tp n = 2) ∨ (n = 2 ∧ tp n = 4) ∨ (n = 3 ∧ tp n = 8) ∨ (n = 4 ∧ tp n = 16) ∨ (n = 5 ∧ tp n = 32) ∨ (n = 6 ∧ tp n = 64) ∨ (n = 7 ∧ tp n = 128) ∨ (n = 8 ∧ tp n = 256) := by
  have : n = 1 ∨ n = 2 ∨ n = 3 ∨ n = 4 ∨ n = 5 ∨ n = 6 ∨ n = 7 ∨ n = 8 := by omega
  rcases this with rfl | rfl | rfl | rfl | rfl | rfl | rfl | rfl <;> simp [tp]
theorem tp_bd {n : Int} (h1 : 1 ≤ n) (h2 : n ≤ 8) : 2 ≤ tp n ∧ tp n ≤ 256 := by
  rcases tp_cases h1 h2 with h | h | h | h | h | h | h | h <;> omega
theorem top_eq {n : Int} (h1 : 1 ≤ n) (h2 : n ≤ 8) : IntKind.u32.wrap (shlI .u32 1 n - 1) = tp n - 1 := by
  rcases tp_cases h1 h2 with ⟨rfl, h⟩ | ⟨rfl, h⟩ | ⟨rfl, h⟩ | ⟨rfl, h⟩ | ⟨rfl, h⟩ | ⟨rfl, h⟩ | ⟨rfl, h⟩ | ⟨rfl, h⟩ <;> rfl
theorem right_f (n : Int) : prefix_right.f n = some (decide (1 ≤ n ∧ n ≤ 8)) := by
  unfold prefix_right.f
  split
  · congr 1
    simp
    omega
  · congr 1
    simp
    omega
theorem andNot_all : ∀ b < 256, ∀ n < 9, bAndNot .u8 (b : Nat) (IntKind.u8.wrap ((2 : Int) ^ (n : Nat) - 1)) = (b : Int) / 2 ^ n * 2 ^ n := by decide +kernel
theorem andNot_eq {n b : Int} (h1 : 1 ≤ n) (h2 : n ≤ 8) (hb : 0 ≤ b ∧ b < 256) : bAndNot .u8 b (IntKind.u8.wrap (tp n - 1)) = b / tp n * tp n := by
  have := andNot_all b.toNat (by omega) n.toNat (by omega)
  rw [Int.toNat_of_nonneg hb.1] at this
  exact this
theorem or_low {n b v : Int} (h1 : 1 ≤ n) (h2 : n ≤ 8) (hb : 0 ≤ b ∧ b < 256) (hv : 0 ≤ v) (hv2 : v < tp n) : bOr .u8 (b / tp n * tp n) v = low n b v := by
  have := bOr_add .u8 rfl n.toNat (q := b / tp n) (c := v) (by rcases tp_cases h1 h2 with h | h | h | h | h | h | h | h <;> rw [h.2] <;> omega) hv hv2 (by
    show tp n * (b / tp n) + v < 256
    rcases tp_cases h1 h2 with h | h | h | h | h | h | h | h <;> rw [h.2] at hv2 ⊢ <;> omega)
  rw [show (2 : Int) ^ n.toNat = tp n from rfl, Int.mul_comm] at this
  exact this
theorem low_ok {n b v : Int} (h1 : 1 ≤ n) (h2 : n ≤ 8) (hb : 0 ≤ b ∧ b < 256) (hv : 0 ≤ v) (hv2 : v < tp n) : (0 ≤ low n b v ∧ low n b v < 256) ∧ low n b v % tp n = v ∧ low n b v / tp n = b / tp n := by
  unfold low
  rcases tp_cases h1 h2 with h | h | h | h | h | h | h | h <;> rw [h.2] at hv2 ⊢ <;> omega
theorem put_l0 : ∀ (m k : Nat) (x : Int) (acc : List Int), 0 ≤ x → x < 268435456 → x < 128 ^ (m + 1) → m < k → acc.length + m + 1 ≤ 140737488355328 → prefix_Put.l0 k x acc = some (acc ++ vi m x)
  | m, 0, x, acc, _, _, _, h, _ => by omega
  | 0, k + 1, x, acc, h0, h1, h2, hk, hl => by
    rw [prefix_Put.l0, if_neg (by simp at h2; omega), if_pos (by omega), wu8 h0 (by simp at h2; omega)]
    rfl
  | m + 1, k + 1, x, acc, h0, h1, h2, hk, hl => by
    rw [prefix_Put.l0]
    unfold vi
    split
    · rw [if_pos (by omega), and127w h0 (by omega), wu8 (by omega) (by omega), bOr_comm]
      have e : bOr .u8 128 (x % 128) = x % 128 + 128 := by
        have := bOr_add .u8 rfl 7 (q := 1) (c := x % 128) (by omega) (by omega) (by simp; omega) (by simp [IntKind.bits]; omega)
        simp at this
        omega
      have e2 : shrI .u32 x 7 = x / 128 := shrI_eq .u32 (by decide)
      rw [e, e2]
      show prefix_Put.l0 k (x / 128) (acc ++ [x % 128 + 128]) = _
      rw [put_l0 m k (x / 128) (acc ++ [x % 128 + 128]) (by omega) (by omega) (by rw [Int.pow_succ] at h2; exact Int.ediv_lt_of_lt_mul (by omega) h2) (by omega) (by simp; omega)]
      simp
    · rw [if_pos (by omega), wu8 h0 (by omega)]
      rfl
theorem rput_l0 : ∀ (m k : Nat) (x : Int) (acc : List Int), 0 ≤ x → x < 268435456 → x < 128 ^ (m + 1) → m < k → acc.length + m + 1 ≤ 140737488355328 → louverref02qPut.l0 k acc x = some (acc ++ vi m x)
  | m, 0, x, acc, _, _, _, h, _ => by omega
  | 0, k + 1, x, acc, h0, h1, h2, hk, hl => by
    rw [louverref02qPut.l0, if_neg (by simp at h2; omega), if_pos (by omega), wu8 h0 (by simp at h2; omega)]
    rfl
  | m + 1, k + 1, x, acc, h0, h1, h2, hk, hl => by
    rw [louverref02qPut.l0]
    unfold vi
    by_cases hx : x > 127
    · rw [if_pos (by omega), if_pos hx, if_pos (by omega), Int.tmod_eq_emod_of_nonneg h0, Int.tdiv_eq_ediv_of_nonneg h0, wu64 (by omega) (by omega), wu8 (by omega) (by omega), wu64 (by omega) (by omega)]
      show louverref02qPut.l0 k (acc ++ [x % 128 + 128]) (x / 128) = _
      rw [rput_l0 m k (x / 128) (acc ++ [x % 128 + 128]) (by omega) (by omega) (by rw [Int.pow_succ] at h2; exact Int.ediv_lt_of_lt_mul (by omega) h2) (by omega) (by simp; omega)]
      simp
    · rw [if_neg (by omega), if_neg hx, if_pos (by omega), wu8 h0 (by omega)]
      rfl
theorem clone_f {p : List Int} (h : p.length ≤ 140737488355328) : slices_Clone_byte_byte.f p = some p := by
  unfold slices_Clone_byte_byte.f
  rw [if_pos (by simpa using h)]
  rfl
theorem put_f {p : List Int} {n b v : Int} (k : Nat) (hp : p.length + 5 ≤ 140737488355328) (h1 : 1 ≤ n) (h2 : n ≤ 8) (hb : 0 ≤ b ∧ b < 256) (hv : 0 ≤ v) (hv2 : v ≤ 268435456) : prefix_Put.f (k + 4) p n b v = some (p ++ pre n b v) := by
  have ht := tp_bd h1 h2
  unfold prefix_Put.f
  rw [clone_f (by omega), right_f]
  simp only [bnd1]
  rw [if_pos (by simp; omega), if_neg (by omega), if_pos (by omega), top_eq h1 h2]
  unfold pre
  split
  · rw [if_pos (by omega), andNot_eq h1 h2 hb, wu8 hv (by omega), or_low h1 h2 hb hv (by omega)]
    rfl
  · rw [if_pos (by omega), andNot_eq h1 h2 hb, wu8 (by omega) (by omega), or_low h1 h2 hb (by omega) (by omega), wu32 (by omega) (by omega)]
    show prefix_Put.l0 (k + 4) _ (p ++ [_]) = _
    rw [put_l0 3 (k + 4) _ _ (by omega) (by omega) (by simp; omega) (by omega) (by simp; omega)]
    simp
theorem put_bad {p : List Int} {n b v : Int} (k : Nat) (hp : p.length ≤ 140737488355328) (h : n < 1 ∨ n > 8 ∨ v > 268435456) : prefix_Put.f k p n b v = some p := by
  unfold prefix_Put.f
  rw [clone_f hp, right_f]
  simp only [bnd1]
  split
  · rename_i hr
    simp at hr
    rw [if_pos (by omega)]
  · rfl
theorem rtop_f {n : Int} (k : Nat) (h1 : 1 ≤ n) (h2 : n ≤ 8) : louverref02qtop.f (k + 9) n = some (tp n - 1) := by
  have : n = 1 ∨ n = 2 ∨ n = 3 ∨ n = 4 ∨ n = 5 ∨ n = 6 ∨ n = 7 ∨ n = 8 := by omega
  rcases this with rfl | rfl | rfl | rfl | rfl | rfl | rfl | rfl <;> rfl
theorem rput_f {n b v : Int} (k : Nat) (h1 : 1 ≤ n) (h2 : n ≤ 8) (hb : 0 ≤ b ∧ b < 256) (hv : 0 ≤ v) (hv2 : v ≤ 268435456) : louverref02qPut.f (k + 9) n b v = some (pre n b v) := by
  have ht := tp_bd h1 h2
  unfold louverref02qPut.f
  rw [rtop_f k h1 h2]
  simp only [bnd1]
  have e1 : IntKind.u64.wrap (tp n - 1 + 1) = tp n := by rw [Int.sub_add_cancel, wu64 (by omega) (by omega)]
  have e2 : IntKind.u64.wrap v = v := wu64 hv (by omega)
  have e3 : IntKind.u64.wrap (IntKind.u64.wrap (Int.tdiv (IntKind.u64.wrap b) (tp n)) * tp n) = b / tp n * tp n := by
    rw [wu64 hb.1 (by omega), Int.tdiv_eq_ediv_of_nonneg hb.1]
    rcases tp_cases h1 h2 with h | h | h | h | h | h | h | h <;> rw [h.2, wu64 (x := b / _) (by omega) (by omega), wu64 (by omega) (by omega)]
  have e4 : ∀ z, 0 ≤ z → z < tp n → IntKind.u8.wrap (IntKind.u64.wrap (b / tp n * tp n + z)) = low n b z := fun z z0 z1 => by
    have := (low_ok h1 h2 hb z0 z1).1
    unfold low at this ⊢
    rw [wu64 this.1 (by omega), wu8 this.1 this.2]
  rw [e1, e2, e3, if_pos (by omega)]
  unfold pre
  split
  · rw [e4 v hv (by omega)]
  · rw [e4 _ (by omega) (by omega), wu64 (by omega) (by omega), rput_l0 3 (k + 9) _ _ (by omega) (by omega) (by simp; omega) (by omega) (by simp)]
    rfl
end Go.Proofs.Ytonhiiedhnhanaa.Sl
