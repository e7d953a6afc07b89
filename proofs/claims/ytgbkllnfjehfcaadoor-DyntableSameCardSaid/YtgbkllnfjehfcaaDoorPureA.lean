/- Chapter 05, plain: the known fields, beside the document's. -/
import Derived.Test.YtgbkllnfjehfcaaDoorCode5
import Derived.Test.YtgbkllnfjehfcaaDoorSlP
import Derived.KernelRfl
set_option linter.unusedVariables false
set_option linter.unusedSimpArgs false
namespace Go.Proofs.YtgbkllnfjehfcaaDoor.Sl
open Go Go.Proofs.Sl

theorem mn_eq (x y : Int) : mnI x y = min x y := by unfold mnI; split <;> omega
def fnd (name value : List UInt8) : List S29 → Int → Int → Int × Bool
  | [], first, i => (first, false)
  | x :: l, first, i => if x.f0 = name then (if x.f1 = value then (i + 1, true) else fnd name value l (if first = 0 then i + 1 else first) (i + 1)) else fnd name value l first (i + 1)
theorem gt_nat {α : Type} (z : α) (l : List α) (i : Nat) (h : i < l.length) : gt z l (i : Int) = l[i] := by simp [gt, List.getD_eq_getElem?_getD, h]
theorem drop_at' {α : Type} (z : α) (l : List α) (i : Nat) (h : i < l.length) : l.drop i = gt z l (i : Int) :: l.drop (i + 1) := by
  rw [List.drop_eq_getElem_cons h, gt_nat z l i h]
theorem find_l0 (name value : List UInt8) : ∀ (m k i : Nat) (first : Int), i + m = 61 → m < k → statics_Find.l0 k first i name value = some (fnd name value (G0.drop i) first i) := by
  intro m
  induction m with
  | zero =>
    intro k i first hi hk
    obtain ⟨k, rfl⟩ : ∃ k', k = k' + 1 := ⟨k - 1, by omega⟩
    rw [statics_Find.l0, if_neg (by omega), List.drop_eq_nil_of_le (by rw [G0qlen]; omega)]
    rfl
  | succ m ih =>
    intro k i first hi hk
    obtain ⟨k, rfl⟩ : ∃ k', k = k' + 1 := ⟨k - 1, by omega⟩
    rw [statics_Find.l0, if_pos (by omega), if_pos (by omega), if_pos (by omega), drop_at' z29 G0 i (by rw [G0qlen]; omega), fnd]
    have e : IntKind.i64.wrap ((i : Int) + 1) = ((i + 1 : Nat) : Int) := by rw [wi64 (by omega) (by omega)]; omega
    simp only [e]
    have e2 : (i : Int) + 1 = ((i + 1 : Nat) : Int) := by omega
    rw [e2]
    by_cases h1 : (gt z29 G0 (i : Int)).f0 = name
    · rw [if_pos h1, if_pos h1]
      by_cases h2 : (gt z29 G0 (i : Int)).f1 = value
      · rw [if_pos h2, if_pos h2]
      · rw [if_neg h2, if_neg h2]
        by_cases h3 : first = 0
        · rw [if_pos h3, if_pos h3]
          exact ih k (i + 1) _ (by omega) (by omega)
        · rw [if_neg h3, if_neg h3]
          exact ih k (i + 1) _ (by omega) (by omega)
    · rw [if_neg h1, if_neg h1]
      exact ih k (i + 1) _ (by omega) (by omega)
theorem find_f (name value : List UInt8) (k : Nat) (hk : 61 < k) : statics_Find.f k name value = some (fnd name value G0 0 0) := by
  unfold statics_Find.f
  exact find_l0 name value 61 k 0 0 rfl hk
def r0 (name value : List UInt8) : List S29 → Int → Option (Int × Bool)
  | [], i => none
  | x :: l, i => if x.f0 = name ∧ x.f1 = value then some (i + 1, true) else r0 name value l (i + 1)
def r1 (name : List UInt8) : List S29 → Int → Int × Bool
  | [], i => (0, false)
  | x :: l, i => if x.f0 = name then (i + 1, false) else r1 name l (i + 1)
theorem fnd_eq (name value : List UInt8) : ∀ (l : List S29) (first i : Int), 0 ≤ i → fnd name value l first i = (r0 name value l i).getD (if first = 0 then r1 name l i else (first, false)) := by
  intro l
  induction l with
  | nil =>
    intro first i h
    simp only [fnd, r0, r1, Option.getD_none]
    by_cases h1 : first = 0
    · rw [if_pos h1, h1]
    · rw [if_neg h1]
  | cons x l ih =>
    intro first i h
    simp only [fnd, r0, r1]
    by_cases h1 : x.f0 = name
    · rw [if_pos h1, if_pos h1]
      by_cases h2 : x.f1 = value
      · rw [if_pos h2, if_pos ⟨h1, h2⟩]
        rfl
      · rw [if_neg h2, if_neg (c := x.f0 = name ∧ x.f1 = value) (fun q => h2 q.2), ih _ _ (by omega)]
        congr 1
        by_cases h3 : first = 0
        · rw [if_pos h3, if_neg (by omega), if_pos h3]
        · simp only [if_neg h3]
    · rw [if_neg h1, if_neg h1, if_neg (fun q => h1 q.1), ih _ _ (by omega)]
def tab : List S29 → List (List UInt8)
  | [] => []
  | x :: l => x.f0 :: x.f1 :: tab l
theorem table_f : louverref04qTable.f = some (tab G0) := by kernel_rfl
theorem tab_len : ∀ l : List S29, (tab l).length = 2 * l.length
  | [] => rfl
  | x :: l => by simp only [tab, List.length_cons, tab_len l]; omega
theorem tab_get : ∀ (l : List S29) (i : Nat), i < l.length → (tab l)[2 * i]? = some (gt z29 l (i : Int)).f0 ∧ (tab l)[2 * i + 1]? = some (gt z29 l (i : Int)).f1
  | [], i, h => by simp at h
  | x :: l, 0, h => by simp [tab, gt]
  | x :: l, i + 1, h => by
    have := tab_get l i (by simpa using h)
    have e : gt z29 (x :: l) ((i + 1 : Nat) : Int) = gt z29 l (i : Int) := by simp [gt, Int.toNat_natCast]
    rw [e, show 2 * (i + 1) = 2 * i + 1 + 1 by omega]
    simpa [tab] using this
theorem gt_some {α : Type} {z : α} {l : List α} {i : Nat} {x : α} (h : l[i]? = some x) : gt z l (i : Int) = x := by simp [gt, List.getD_eq_getElem?_getD, h]
theorem rfind_l1 (name : List UInt8) (G : List S29) (hG : G.length = 61) : ∀ (m k i : Nat), i + m = 61 → m < k → louverref04qFind.l1 k ((2 * i : Nat) : Int) name (tab G) = some (r1 name (G.drop i) i) := by
  intro m
  induction m with
  | zero =>
    intro k i hi hk
    obtain ⟨k, rfl⟩ : ∃ k', k = k' + 1 := ⟨k - 1, by omega⟩
    rw [louverref04qFind.l1, if_neg (by rw [tab_len]; omega), List.drop_eq_nil_of_le (by omega)]
    rfl
  | succ m ih =>
    intro k i hi hk
    obtain ⟨k, rfl⟩ : ∃ k', k = k' + 1 := ⟨k - 1, by omega⟩
    have h := tab_get G i (by omega)
    rw [louverref04qFind.l1, if_pos (by rw [tab_len]; omega), if_pos (by omega), gt_some h.1, drop_at' z29 G i (by omega), r1]
    by_cases h1 : (gt z29 G (i : Int)).f0 = name
    · rw [if_pos h1, if_pos h1]
      have e : Int.tdiv ((2 * i : Nat) : Int) 2 = (i : Int) := by rw [Int.tdiv_eq_ediv_of_nonneg (by omega)]; omega
      rw [e, wi64 (by rw [wi64] <;> omega) (by rw [wi64] <;> omega), wi64 (by omega) (by omega)]
    · rw [if_neg h1, if_neg h1]
      have e : IntKind.i64.wrap (((2 * i : Nat) : Int) + 2) = ((2 * (i + 1) : Nat) : Int) := by rw [wi64 (by omega) (by omega)]; omega
      rw [e, show (i : Int) + 1 = ((i + 1 : Nat) : Int) by omega]
      exact ih k (i + 1) (by omega) (by omega)
theorem rfind_l0 (name value : List UInt8) (G : List S29) (hG : G.length = 61) : ∀ (m k i : Nat), i + m = 61 → m + 62 < k → louverref04qFind.l0 k ((2 * i : Nat) : Int) name value (tab G) = some ((r0 name value (G.drop i) i).getD (r1 name G 0)) := by
  intro m
  induction m with
  | zero =>
    intro k i hi hk
    obtain ⟨k, rfl⟩ : ∃ k', k = k' + 1 := ⟨k - 1, by omega⟩
    rw [louverref04qFind.l0, if_neg (by rw [tab_len]; omega), List.drop_eq_nil_of_le (by omega)]
    exact rfind_l1 name G hG 61 k 0 rfl (by omega)
  | succ m ih =>
    intro k i hi hk
    obtain ⟨k, rfl⟩ : ∃ k', k = k' + 1 := ⟨k - 1, by omega⟩
    have h := tab_get G i (by omega)
    have e0 : IntKind.i64.wrap (((2 * i : Nat) : Int) + 1) = ((2 * i + 1 : Nat) : Int) := by rw [wi64 (by omega) (by omega)]; omega
    have e1 : IntKind.i64.wrap (((2 * i : Nat) : Int) + 2) = ((2 * (i + 1) : Nat) : Int) := by rw [wi64 (by omega) (by omega)]; omega
    have e2 : Int.tdiv ((2 * i : Nat) : Int) 2 = (i : Int) := by rw [Int.tdiv_eq_ediv_of_nonneg (by omega)]; omega
    rw [louverref04qFind.l0, if_pos (by rw [tab_len]; omega), if_pos (by omega), gt_some h.1, e0, e1, gt_some h.2, drop_at' z29 G i (by omega), r0]
    have e3 : (i : Int) + 1 = ((i + 1 : Nat) : Int) := by omega
    by_cases h1 : (gt z29 G (i : Int)).f0 = name
    · rw [if_pos h1, if_pos (by omega), if_pos (by rw [tab_len]; omega)]
      by_cases h2 : (gt z29 G (i : Int)).f1 = value
      · rw [if_pos h2, if_pos ⟨h1, h2⟩, e2, wi64 (by rw [wi64] <;> omega) (by rw [wi64] <;> omega), wi64 (by omega) (by omega)]
        rfl
      · rw [if_neg h2, if_neg (fun q => h2 q.2), e3]
        exact ih k (i + 1) (by omega) (by omega)
    · rw [if_neg h1, if_neg (fun q => h1 q.1), e3]
      exact ih k (i + 1) (by omega) (by omega)
theorem rfind_f (name value : List UInt8) (k : Nat) (hk : 124 < k) : louverref04qFind.f k name value = some (fnd name value G0 0 0) := by
  unfold louverref04qFind.f
  rw [table_f]
  simp only [bnd1]
  rw [fnd_eq name value G0 0 0 (by omega), if_pos rfl]
  exact rfind_l0 name value G0 G0qlen 61 k 0 rfl (by omega)
theorem mx_eq (x y : Int) : mxI x y = max x y := by unfold mxI; split <;> omega
theorem all_at : ((List.range 61).all fun (i : Nat) => match statics_At.f ((i + 1 : Nat) : Int), louverref04qAt.f ((i + 1 : Nat) : Int) with
  | some (f, ok), some (a, b, ok2) => decide (f.f0 = a) && decide (f.f1 = b) && !f.f2 && ok && ok2
  | _, _ => false) = true := by kernel_rfl
theorem at_in {n : Int} (h : 1 ≤ n ∧ n ≤ 61) : ∃ i : Nat, i ∈ List.range 61 ∧ n = ((i + 1 : Nat) : Int) := ⟨(n - 1).toNat, by simp; omega, by omega⟩
theorem at_eq (n : Int) : ∃ f ok, statics_At.f n = some (f, ok) ∧ louverref04qAt.f n = some (f.f0, f.f1, ok) ∧ f.f2 = false ∧ (ok = true ↔ 1 ≤ n ∧ n ≤ 61) ∧ (ok = false → f = ⟨[], [], false⟩) := by
  by_cases h : 1 ≤ n ∧ n ≤ 61
  · obtain ⟨i, hi, rfl⟩ := at_in h
    have := List.all_eq_true.1 all_at i hi
    revert this
    generalize statics_At.f ((i + 1 : Nat) : Int) = x
    generalize louverref04qAt.f ((i + 1 : Nat) : Int) = y
    intro this
    match x, y, this with
    | some (f, ok), some (a, b, ok2), this =>
      simp only [Bool.and_eq_true, decide_eq_true_eq, Bool.not_eq_true'] at this
      obtain ⟨⟨⟨⟨rfl, rfl⟩, h3⟩, rfl⟩, rfl⟩ := this
      exact ⟨f, true, rfl, rfl, h3, by simpa using h, by simp⟩
  · have e1 : statics_At.f n = some ((⟨[], [], false⟩ : S29), false) := by
      unfold statics_At.f
      by_cases h1 : n < 1
      · rw [if_pos h1]
      · rw [if_neg h1, if_pos (by omega)]
    have e2 : louverref04qAt.f n = some ([], [], false) := by
      unfold louverref04qAt.f
      rw [table_f]
      simp only [bnd1]
      by_cases h1 : n < 1
      · rw [if_pos h1]
      · rw [if_neg h1, if_pos]
        rw [tab_len, G0qlen]
        have : IntKind.i64.wrap (Int.tdiv ((2 * 61 : Nat) : Int) 2) = 61 := by decide
        rw [this]
        omega
    exact ⟨_, false, e1, e2, rfl, by simpa using h, by simp⟩
end Go.Proofs.YtgbkllnfjehfcaaDoor.Sl
