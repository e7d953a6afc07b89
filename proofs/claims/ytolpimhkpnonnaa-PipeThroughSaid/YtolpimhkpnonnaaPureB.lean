/- Chapter 26, plain: all that goes in comes out. -/
import Derived.Test.YtolpimhkpnonnaaPureA
set_option linter.unusedVariables false
set_option linter.unusedSimpArgs false
namespace Go.Proofs.Ytolpimhkpnonnaa.Sl
open Go Go.Proofs.Sl

theorem pok_wr {p : S36} (h : Pok p) (b : List Int) : Pok (⟨p.f0 ++ b.take (wr p b), p.f1, p.f2⟩ : S36) := by
  obtain ⟨a, hb, c⟩ := h
  refine ⟨a, ?_, ?_⟩
  · dsimp only
    unfold wr
    split
    · simp
      omega
    · simp
      omega
  · intro h2
    dsimp only at h2 ⊢
    unfold wr
    rw [if_pos h2, c h2]
    simp
theorem pok_rd {p : S36} (h : Pok p) (n : Int) : Pok (⟨p.f0.drop (rd p n), p.f1, p.f2⟩ : S36) := by
  obtain ⟨a, hb, c⟩ := h
  refine ⟨a, ?_, ?_⟩
  · dsimp only
    simp
    omega
  · intro h2
    dsimp only at h2 ⊢
    rw [c h2]
    simp
theorem through_l1 (b : List Int) (out : Int) (hb : b.length ≤ 3000) (ho : 0 ≤ out ∧ out < 256) : ∀ (m k j : Nat) (p : S36), Pok p → p.f0 = [] → j + m = b.length → louverlaw26qPipeThrough.l1 (k + m + 1) p (toS b) j b out = some true := by
  intro m
  induction m with
  | zero =>
    intro k j p hp h0 hj
    rw [louverlaw26qPipeThrough.l1, if_neg (by omega), fixed_true]
    simp [bnd1, pipe_Pipe_Len.f, h0]
  | succ m ih =>
    intro k j p hp h0 hj
    rw [show k + (m + 1) + 1 = (k + m + 1) + 1 by omega, louverlaw26qPipeThrough.l1, if_pos (by omega), read_f p _ hp, h0]
    simp only [List.take_nil, List.drop_nil, bnd2]
    rw [if_pos (by simp [toS]; omega)]
    have e1 : IntKind.i64.wrap ((j : Int) + 1) = ((j + 1 : Nat) : Int) := by rw [wi64 (by omega) (by omega)]; omega
    rw [e1]
    have e2 : toS b ++ toS [] = toS b := by simp [toS]
    rw [e2]
    have e3 : (⟨[], p.f1, p.f2⟩ : S36) = p := by
      obtain ⟨x, y, z⟩ := p
      simp only at h0
      subst h0
      rfl
    rw [e3]
    exact ih k (j + 1) p hp h0 (by omega)
theorem through_l0 (b : List Int) (inn out : Int) (hb : b.length ≤ 3000) (hi : 0 ≤ inn ∧ inn < 256) (ho : 0 ≤ out ∧ out < 256) : ∀ (n k i : Nat) (p : S36) (got : List UInt8) (left : List Int), Pok p → p.f2 = false →
    got ++ toS (p.f0 ++ left) = toS b → i + n = 2 * b.length + 2 → 2 * left.length + p.f0.length ≤ n → louverlaw26qPipeThrough.l0 (k + n + b.length + 2) p got left i b inn out = some true := by
  intro n
  induction n with
  | zero =>
    intro k i p got left hp hc hg hin hm
    have hl : left = [] := List.eq_nil_of_length_eq_zero (by omega)
    have h0 : p.f0 = [] := List.eq_nil_of_length_eq_zero (by omega)
    subst hl
    rw [h0] at hg
    have hg' : got = toS b := by simpa [toS] using hg
    subst hg'
    rw [show k + 0 + b.length + 2 = (k + b.length + 1) + 1 by omega, louverlaw26qPipeThrough.l0, wi64 (x := 2 * (b.length : Int)) (by omega) (by omega), wi64 (by omega) (by omega), if_neg (by omega)]
    exact through_l1 b out hb ho b.length k 0 p hp h0 (by omega)
  | succ n ih =>
    intro k i p got left hp hc hg hin hm
    obtain ⟨pa, pb, pc⟩ := id hp
    have hlen : got.length + (p.f0.length + left.length) = b.length := by
      have := congrArg List.length hg
      simpa [toS_length] using this
    rw [show k + (n + 1) + b.length + 2 = (k + n + b.length + 2) + 1 by omega, louverlaw26qPipeThrough.l0, wi64 (x := 2 * (b.length : Int)) (by omega) (by omega), wi64 (x := 2 * (b.length : Int) + 2) (by omega) (by omega), if_pos (by omega), mn_eq, wi64 (x := inn) (by omega) (by omega), wi64 (x := 1 + inn) (by omega) (by omega), if_pos (by omega), if_pos (by omega)]
    generalize hq : (min (left.length : Int) (1 + inn)).toNat = q
    have hq2 : q ≤ left.length ∧ (left ≠ [] → 1 ≤ q) := by
      refine ⟨by omega, fun h => ?_⟩
      have := List.length_pos_iff.2 h
      omega
    rw [write_f p _ hp]
    have hw : wr p (left.take q) ≤ q ∧ (wr p (left.take q) = q ∨ (p.f0.length + wr p (left.take q) : Int) = p.f1) := by
      unfold wr
      rw [if_neg (by simp [hc]), List.length_take]
      omega
    have hp1 := pok_wr hp (left.take q)
    generalize hwn : wr p (left.take q) = w at hw hp1
    have htt : (left.take q).take w = left.take w := by rw [List.take_take, Nat.min_eq_left hw.1]
    rw [htt] at hp1 ⊢
    simp only [bnd2]
    rw [if_pos (by omega), if_pos (by omega), wi64 (x := out) (by omega) (by omega), wi64 (x := 1 + out) (by omega) (by omega), read_f _ _ hp1]
    have hr : rd (⟨p.f0 ++ left.take w, p.f1, p.f2⟩ : S36) (1 + out) ≤ (p.f0 ++ left.take w).length ∧ (p.f0 ++ left.take w ≠ [] → 1 ≤ rd (⟨p.f0 ++ left.take w, p.f1, p.f2⟩ : S36) (1 + out)) := by
      unfold rd
      refine ⟨by dsimp only; omega, fun h => ?_⟩
      have := List.length_pos_iff.2 h
      dsimp only
      omega
    have hp2 := pok_rd hp1 (1 + out)
    generalize rd (⟨p.f0 ++ left.take w, p.f1, p.f2⟩ : S36) (1 + out) = r at hr hp2
    simp only [Int.toNat_natCast] at hp2 ⊢
    have hlw : (p.f0 ++ left.take w).length = p.f0.length + w := by simp; omega
    rw [if_pos (by simp only [toS_length, List.length_take]; omega), wi64 (x := (i : Int) + 1) (by omega) (by omega)]
    have e1 : (i : Int) + 1 = ((i + 1 : Nat) : Int) := by omega
    rw [e1]
    refine ih k (i + 1) _ _ _ hp2 hc ?_ (by omega) ?_
    · dsimp only
      rw [← hg, List.append_assoc, ← toS_append, ← List.append_assoc, List.take_append_drop, List.append_assoc, List.take_append_drop]
    · dsimp only
      rw [List.length_drop, List.length_drop, hlw]
      by_cases hl0 : left = []
      · subst hl0
        have hw0 : w = 0 := by
          have := hw.1
          simp at hq2
          omega
        subst hw0
        simp only [List.take_nil, List.append_nil, List.length_nil] at hr hm ⊢
        by_cases hp0 : p.f0 = []
        · rw [hp0]
          simp
        · have := hr.2 hp0
          have := List.length_pos_iff.2 hp0
          omega
      · have h1 := hq2.2 hl0
        rcases hw.2 with h2 | h2
        · omega
        · have hne : p.f0 ++ left.take w ≠ [] := by
            intro h
            have := congrArg List.length h
            rw [hlw, List.length_nil] at this
            omega
          have := hr.2 hne
          omega
theorem louverlaw26qPipeThrough_true (p0 : Int) (p1 : List Int) (p2 p3 : Int) (h0 : okI .i64 p0) (h1 : okL 1 (okI .u8) p1) (h2 : okI .u8 p2) (h3 : okI .u8 p3) : ∃ k, louverlaw26qPipeThrough.f k p0 p1 p2 p3 = some true := by
  refine ⟨2 * p1.length + 2 + p1.length + 2, ?_⟩
  have b2 := okI_u8.1 h2
  have b3 := okI_u8.1 h3
  unfold louverlaw26qPipeThrough.f pipe_New.f
  rw [fixed_true]
  by_cases c : (p1.length : Int) > 3000
  · rw [if_pos c]
    rfl
  rw [if_neg c, mn_eq, mx_eq]
  simp only [bnd1]
  have := through_l0 p1 p2 p3 (by omega) b2 b3 (2 * p1.length + 2) 0 0 ⟨[], min (max p0 1) 1048576, false⟩ [] p1 ⟨by dsimp only; omega, by dsimp only; simp; omega, fun h => by cases h⟩ rfl (by simp) (by omega) (by simp)
  simpa using this
end Go.Proofs.Ytolpimhkpnonnaa.Sl
