/- Chapter 06, plain: the known fields. -/
import Derived.Test.YtinebjcfgmoniaaDoorCode3
import Derived.Test.YtinebjcfgmoniaaDoorSlP
import Derived.KernelRfl
set_option linter.unusedVariables false
set_option linter.unusedSimpArgs false
namespace Go.Proofs.YtinebjcfgmoniaaDoor.Sl
open Go Go.Proofs.Sl

theorem mn_eq (x y : Int) : mnI x y = min x y := by unfold mnI; split <;> omega
def fnd (name value : List UInt8) : List S52 → Int → Int → Int × Bool
  | [], first, i => (first, false)
  | x :: l, first, i => if x.f0 = name then (if x.f1 = value then (i + 1, true) else fnd name value l (if first = 0 then i + 1 else first) (i + 1)) else fnd name value l first (i + 1)
theorem gt_nat {α : Type} (z : α) (l : List α) (i : Nat) (h : i < l.length) : gt z l (i : Int) = l[i] := by simp [gt, List.getD_eq_getElem?_getD, h]
theorem drop_at' {α : Type} (z : α) (l : List α) (i : Nat) (h : i < l.length) : l.drop i = gt z l (i : Int) :: l.drop (i + 1) := by
  rw [List.drop_eq_getElem_cons h, gt_nat z l i h]
theorem find_l0 (name value : List UInt8) : ∀ (m k i : Nat) (first : Int), i + m = 61 → m < k → statics_Find.l0 k first i name value = some (fnd name value (G0.drop i) first i) := by
  intro m
  induction m with
  | zero =>
    intro k i first hi hk
    obtain ⟨k, rfl⟩ : ∃ k', k = k' + 1 := ⟨k - 1, by omega⟩
    rw [statics_Find.l0, if_neg (by omega), List.drop_eq_nil_of_le (by rw [G0qlen]; omega)]
    rfl
  | succ m ih =>
    intro k i first hi hk
    obtain ⟨k, rfl⟩ : ∃ k', k = k' + 1 := ⟨k - 1, by omega⟩
    rw [statics_Find.l0, if_pos (by omega), if_pos (by omega), if_pos (by omega), drop_at' z52 G0 i (by rw [G0qlen]; omega), fnd]
    have e : IntKind.i64.wrap ((i : Int) + 1) = ((i + 1 : Nat) : Int) := by rw [wi64 (by omega) (by omega)]; omega
    simp only [e]
    have e2 : (i : Int) + 1 = ((i + 1 : Nat) : Int) := by omega
    rw [e2]
    by_cases h1 : (gt z52 G0 (i : Int)).f0 = name
    · rw [if_pos h1, if_pos h1]
      by_cases h2 : (gt z52 G0 (i : Int)).f1 = value
      · rw [if_pos h2, if_pos h2]
      · rw [if_neg h2, if_neg h2]
        by_cases h3 : first = 0
        · rw [if_pos h3, if_pos h3]
          exact ih k (i + 1) _ (by omega) (by omega)
        · rw [if_neg h3, if_neg h3]
          exact ih k (i + 1) _ (by omega) (by omega)
    · rw [if_neg h1, if_neg h1]
      exact ih k (i + 1) _ (by omega) (by omega)
theorem find_f (name value : List UInt8) (k : Nat) (hk : 61 < k) : statics_Find.f k name value = some (fnd name value G0 0 0) := by
  unfold statics_Find.f
  exact find_l0 name value 61 k 0 0 rfl hk
def r0 (name value : List UInt8) : List S52 → Int → Option (Int × Bool)
  | [], i => none
  | x :: l, i => if x.f0 = name ∧ x.f1 = value then some (i + 1, true) else r0 name value l (i + 1)
def r1 (name : List UInt8) : List S52 → Int → Int × Bool
  | [], i => (0, false)
  | x :: l, i => if x.f0 = name then (i + 1, false) else r1 name l (i + 1)
theorem fnd_eq (name value : List UInt8) : ∀ (l : List S52) (first i : Int), 0 ≤ i → fnd name value l first i = (r0 name value l i).getD (if first = 0 then r1 name l i else (first, false)) := by
  intro l
  induction l with
  | nil =>
    intro first i h
    simp only [fnd, r0, r1, Option.getD_none]
    by_cases h1 : first = 0
    · rw [if_pos h1, h1]
    · rw [if_neg h1]
  | cons x l ih =>
    intro first i h
    simp only [fnd, r0, r1]
    by_cases h1 : x.f0 = name
    · rw [if_pos h1, if_pos h1]
      by_cases h2 : x.f1 = value
      · rw [if_pos h2, if_pos ⟨h1, h2⟩]
        rfl
      · rw [if_neg h2, if_neg (c := x.f0 = name ∧ x.f1 = value) (fun q => h2 q.2), ih _ _ (by omega)]
        congr 1
        by_cases h3 : first = 0
        · rw [if_pos h3, if_neg (by omega), if_pos h3]
        · simp only [if_neg h3]
    · rw [if_neg h1, if_neg h1, if_neg (fun q => h1 q.1), ih _ _ (by omega)]
theorem mx_eq (x y : Int) : mxI x y = max x y := by unfold mxI; split <;> omega
end Go.Proofs.YtinebjcfgmoniaaDoor.Sl
