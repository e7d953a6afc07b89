/- Whole numbers as Go has them: what wraps, masks and shifts come to. -/
import Derived.Test.YtikfpmieadfllaaSlJ
set_option linter.unusedVariables false
set_option linter.unusedSimpArgs false
namespace Go.Proofs.Sl
open Go Go.RowKit
theorem wrap_u8 (x : Int) : IntKind.u8.wrap x = x % 256 := by simp [IntKind.wrap, IntKind.signed, IntKind.bits]
theorem wrap_u16 (x : Int) : IntKind.u16.wrap x = x % 65536 := by simp [IntKind.wrap, IntKind.signed, IntKind.bits]
theorem wrap_u32 (x : Int) : IntKind.u32.wrap x = x % 4294967296 := by simp [IntKind.wrap, IntKind.signed, IntKind.bits]
theorem wrap_u64 (x : Int) : IntKind.u64.wrap x = x % 18446744073709551616 := by simp [IntKind.wrap, IntKind.signed, IntKind.bits]
theorem wrap_i64 (x : Int) : IntKind.i64.wrap x = if x % 18446744073709551616 ≥ 9223372036854775808 then x % 18446744073709551616 - 18446744073709551616 else x % 18446744073709551616 := by simp [IntKind.wrap, IntKind.signed, IntKind.bits]
theorem wrap_i32 (x : Int) : IntKind.i32.wrap x = if x % 4294967296 ≥ 2147483648 then x % 4294967296 - 4294967296 else x % 4294967296 := by simp [IntKind.wrap, IntKind.signed, IntKind.bits]
theorem wi64 {x : Int} (h1 : -9223372036854775808 ≤ x) (h2 : x < 9223372036854775808) : IntKind.i64.wrap x = x := by
  rw [wrap_i64]
  split <;> omega
theorem wu64 {x : Int} (h1 : 0 ≤ x) (h2 : x < 18446744073709551616) : IntKind.u64.wrap x = x := by rw [wrap_u64]; omega
theorem wu32 {x : Int} (h1 : 0 ≤ x) (h2 : x < 4294967296) : IntKind.u32.wrap x = x := by rw [wrap_u32]; omega
theorem wu16 {x : Int} (h1 : 0 ≤ x) (h2 : x < 65536) : IntKind.u16.wrap x = x := by rw [wrap_u16]; omega
theorem wu8 {x : Int} (h1 : 0 ≤ x) (h2 : x < 256) : IntKind.u8.wrap x = x := by rw [wrap_u8]; omega
theorem okI_u8 {x : Int} : okI .u8 x ↔ 0 ≤ x ∧ x < 256 := by simp [okI, IntKind.min, IntKind.max, IntKind.signed, IntKind.bits]; omega
theorem okI_u16 {x : Int} : okI .u16 x ↔ 0 ≤ x ∧ x < 65536 := by simp [okI, IntKind.min, IntKind.max, IntKind.signed, IntKind.bits]; omega
theorem okI_u32 {x : Int} : okI .u32 x ↔ 0 ≤ x ∧ x < 4294967296 := by simp [okI, IntKind.min, IntKind.max, IntKind.signed, IntKind.bits]; omega
theorem okI_u64 {x : Int} : okI .u64 x ↔ 0 ≤ x ∧ x < 18446744073709551616 := by simp [okI, IntKind.min, IntKind.max, IntKind.signed, IntKind.bits]; omega
theorem okI_i64 {x : Int} : okI .i64 x ↔ -9223372036854775808 ≤ x ∧ x < 9223372036854775808 := by simp [okI, IntKind.min, IntKind.max, IntKind.signed, IntKind.bits]; omega
theorem ofInt_nat (w : Nat) (x : Int) (h0 : 0 ≤ x) (h1 : x < 2 ^ w) : (BitVec.ofInt w x).toNat = x.toNat := by
  rw [BitVec.toNat_ofInt]
  rw [Int.emod_eq_of_lt h0 (by simpa using h1)]
theorem wrap_id_uns (k : IntKind) (hk : k.signed = false) {x : Int} (h0 : 0 ≤ x) (h1 : x < 2 ^ k.bits) : k.wrap x = x := by
  simp only [IntKind.wrap, hk, Bool.false_and, Bool.false_eq_true, if_false]
  exact Int.emod_eq_of_lt h0 h1
theorem pow_le {a b : Nat} (h : a ≤ b) : (2 : Int) ^ a ≤ 2 ^ b := by
  have := Nat.pow_le_pow_right (n := 2) (by omega) h
  exact_mod_cast this
theorem bAnd_mask (k : IntKind) (hk : k.signed = false) (m : Nat) (hm : m ≤ k.bits) {x : Int} (h0 : 0 ≤ x) (h1 : x < 2 ^ k.bits) : bAnd k x (2 ^ m - 1) = x % 2 ^ m := by
  have hp : (0 : Int) < 2 ^ m := Int.pow_pos (by decide)
  unfold bAnd
  rw [BitVec.toNat_and, ofInt_nat _ x h0 h1, ofInt_nat _ (2 ^ m - 1) (by omega) (by have := pow_le hm; omega)]
  have e : (2 ^ m - 1 : Int).toNat = 2 ^ m - 1 := by
    have : (2 ^ m : Int) = ((2 ^ m : Nat) : Int) := by push_cast; rfl
    omega
  rw [e, Nat.and_two_pow_sub_one_eq_mod]
  have e2 : ((x.toNat % 2 ^ m : Nat) : Int) = x % 2 ^ m := by
    rw [Int.natCast_emod, Int.toNat_of_nonneg h0]
    push_cast
    rfl
  rw [e2]
  refine wrap_id_uns k hk (Int.emod_nonneg _ (by omega)) (Int.lt_of_lt_of_le (Int.emod_lt_of_pos _ hp) (pow_le hm))
theorem bOr_add (k : IntKind) (hk : k.signed = false) (m : Nat) {q c : Int} (hq : 0 ≤ q) (hc0 : 0 ≤ c) (hc : c < 2 ^ m) (h : 2 ^ m * q + c < 2 ^ k.bits) : bOr k (2 ^ m * q) c = 2 ^ m * q + c := by
  have hp : (0 : Int) < 2 ^ m := Int.pow_pos (by decide)
  have hpq : 0 ≤ 2 ^ m * q := Int.mul_nonneg (by omega) hq
  have hcast : (2 ^ m : Int) = ((2 ^ m : Nat) : Int) := by push_cast; rfl
  unfold bOr
  rw [BitVec.toNat_or, ofInt_nat _ _ hpq (by omega), ofInt_nat _ c hc0 (by omega)]
  have e : (2 ^ m * q).toNat = 2 ^ m * q.toNat := by
    have : 2 ^ m * q = ((2 ^ m * q.toNat : Nat) : Int) := by
      push_cast
      rw [Int.toNat_of_nonneg hq]
    exact (congrArg Int.toNat this).trans (Int.toNat_natCast _)
  have hc' : c.toNat < 2 ^ m := by omega
  rw [e, ← Nat.two_pow_add_eq_or_of_lt hc']
  have e2 : ((2 ^ m * q.toNat + c.toNat : Nat) : Int) = 2 ^ m * q + c := by
    push_cast
    rw [Int.toNat_of_nonneg hq, Int.toNat_of_nonneg hc0]
  rw [e2]
  exact wrap_id_uns k hk (by omega) h
theorem bOr_comm (k : IntKind) (x y : Int) : bOr k x y = bOr k y x := by
  unfold bOr
  rw [BitVec.or_comm]
theorem shrI_eq (k : IntKind) {x y : Int} (h : y.toNat ≤ k.bits) : shrI k x y = x / 2 ^ y.toNat := by
  unfold shrI
  rw [Nat.min_eq_left h]
  exact Int.fdiv_eq_ediv_of_nonneg _ (Int.le_of_lt (Int.pow_pos (by decide)))
theorem shlI_eq (k : IntKind) (hk : k.signed = false) {x y : Int} (h : y.toNat ≤ k.bits) (h0 : 0 ≤ x) (h1 : x * 2 ^ y.toNat < 2 ^ k.bits) : shlI k x y = x * 2 ^ y.toNat := by
  unfold shlI
  rw [Nat.min_eq_left h]
  exact wrap_id_uns k hk (Int.mul_nonneg h0 (Int.le_of_lt (Int.pow_pos (by decide)))) h1
theorem toS_inj {xs ys : List Int} (hx : ∀ x ∈ xs, 0 ≤ x ∧ x < 256) (hy : ∀ x ∈ ys, 0 ≤ x ∧ x < 256) (h : toS xs = toS ys) : xs = ys := by
  have key : ∀ x : Int, 0 ≤ x ∧ x < 256 → ((UInt8.ofNat x.toNat).toNat : Int) = x := by
    intro x hx
    rw [UInt8.toNat_ofNat']
    omega
  have e : ∀ zs : List Int, (∀ x ∈ zs, 0 ≤ x ∧ x < 256) → (toS zs).map (fun c => (c.toNat : Int)) = zs := by
    intro zs hz
    unfold toS
    rw [List.map_map]
    conv => rhs; rw [← List.map_id zs]
    exact List.map_congr_left fun x hx => key x (hz x hx)
  rw [← e xs hx, ← e ys hy, h]
theorem toS_append (xs ys : List Int) : toS (xs ++ ys) = toS xs ++ toS ys := by simp [toS]
theorem toS_length (xs : List Int) : (toS xs).length = xs.length := by simp [toS]
end Go.Proofs.Sl
