/- Chapter 03, plain: each code, and that none begins another one. -/
import Derived.Test.YtedfgicbignbmaaDoorPureB
set_option linter.unusedVariables false
set_option linter.unusedSimpArgs false
namespace Go.Proofs.YtedfgicbignbmaaDoor.Sl
open Go Go.Proofs.Sl

def stepv (m : Int) (c : UInt8) : Int := IntKind.u32.wrap (IntKind.u32.wrap (2 * m) + IntKind.u32.wrap (IntKind.u8.wrap ((c.toNat : Int) - 48)))
def val (l : List UInt8) : Int := l.foldl stepv 0
theorem all_vals : ((TEXTS.zip CODES).all fun p => decide (val p.1 = p.2.f0) && decide (IntKind.i64.wrap p.2.f1 = (p.1.length : Int))) = true := by kernel_rfl
def begins (a b : List UInt8) : Bool := match a, b with
  | [], _ => true
  | _ :: _, [] => false
  | x :: a, y :: b => x == y && begins a b
theorem begins_of : ∀ (a b : List UInt8), b.take a.length = a → begins a b = true
  | [], b, _ => by cases b <;> rfl
  | x :: a, [], h => by simp at h
  | x :: a, y :: b, h => by
    simp only [List.length_cons, List.take_succ_cons, List.cons.injEq] at h
    simp only [begins, begins_of a b h.2, h.1, beq_self_eq_true, Bool.and_self]
theorem all_apart : (TEXTS.zipIdx.all fun a => TEXTS.zipIdx.all fun b => Nat.beq a.2 b.2 || !begins a.1 b.1) = true := by kernel_rfl
theorem zipIdx_mem {α : Type} (l : List α) (i : Nat) (h : i < l.length) : (l[i], i) ∈ l.zipIdx := by
  rw [List.mem_iff_getElem?]
  exact ⟨i, by simp [h]⟩
theorem zip_all {α β : Type} (l : List α) (l' : List β) (P : α × β → Bool) (hP : (l.zip l').all P = true) (i : Nat) (h : i < l.length) (h' : i < l'.length) : P (l[i], l'[i]) = true := by
  refine List.all_eq_true.1 hP _ ?_
  rw [List.mem_iff_getElem?]
  exact ⟨i, List.getElem?_zip_eq_some.2 ⟨List.getElem?_eq_getElem h, List.getElem?_eq_getElem h'⟩⟩
theorem apart (i j : Nat) (hi : i < TEXTS.length) (hj : j < TEXTS.length) (h : i ≠ j) : begins TEXTS[i] TEXTS[j] = false := by
  have h1 := List.all_eq_true.1 all_apart _ (zipIdx_mem TEXTS i hi)
  have h2 := List.all_eq_true.1 h1 _ (zipIdx_mem TEXTS j hj)
  have h3 : Nat.beq i j = false := Bool.eq_false_iff.2 fun q => h (Nat.eq_of_beq_eq_true q)
  simpa [h3] using h2
theorem vals (i : Nat) (hi : i < 257) : val (gt [] TEXTS (i : Int)) = (gt z45 CODES (i : Int)).f0 ∧ IntKind.i64.wrap (gt z45 CODES (i : Int)).f1 = ((gt [] TEXTS (i : Int)).length : Int) := by
  have ht : i < TEXTS.length := by rw [TEXTS_len]; exact hi
  have hc : i < CODES.length := by rw [CODES_len]; exact hi
  have := zip_all TEXTS CODES _ all_vals i ht hc
  simp only [Bool.and_eq_true, decide_eq_true_eq] at this
  rw [gt_nat [] TEXTS i ht, gt_nat z45 CODES i hc]
  exact this
theorem code_l0 (p0 p1 n bs : Int) (s : Nat) (hs : s < 257) (hp : p0 = (s : Int)) (h1 : okI .i64 p1) (hn : n = val (gt [] TEXTS p0)) (hb : bs = ((gt [] TEXTS p0).length : Int)) (hlen : (gt [] TEXTS p0).length < 1000) : ∀ (m k i : Nat), i + m = (gt [] TEXTS p0).length → m + 9000 < k →
    louverlaw03qHuffmanCode.l0 k (((gt [] TEXTS p0).take i).foldl stepv 0) i p0 p1 n bs TEXTS = some true := by
  subst hp
  have ht : s < TEXTS.length := by rw [TEXTS_len]; exact hs
  intro m
  induction m with
  | zero =>
    intro k i hi hk
    obtain ⟨k, rfl⟩ : ∃ k', k = k' + 1 := ⟨k - 1, by omega⟩
    rw [louverlaw03qHuffmanCode.l0, if_neg (by omega), List.take_of_length_le (by omega), fixed_true k (by omega)]
    rw [if_pos (show n = List.foldl stepv 0 (gt [] TEXTS (s : Int)) from hn), if_pos hb]
    simp only [bnd1]
    by_cases a1 : p1 < 0
    · rw [if_pos a1]
    rw [if_neg a1]
    by_cases a2 : p1 > 256
    · rw [if_pos a2]
    rw [if_neg a2]
    by_cases a3 : p1 = (s : Int)
    · rw [if_pos a3]
    obtain ⟨j, rfl⟩ : ∃ j : Nat, p1 = (j : Int) := ⟨p1.toNat, by omega⟩
    have hj : j < TEXTS.length := by rw [TEXTS_len]; omega
    have hne : s ≠ j := fun q => a3 (by omega)
    have hap := apart s j ht hj hne
    rw [if_neg a3, if_pos (by omega), if_pos (by omega), if_pos trivial, gt_nat [] TEXTS s ht, gt_nat [] TEXTS j hj]
    by_cases a4 : ((TEXTS[s]).length : Int) > ((TEXTS[j]).length : Int)
    · rw [if_pos a4]
    · rw [if_neg a4, if_pos (by omega), if_pos (by omega), Int.toNat_natCast]
      have : ¬ ((TEXTS[j]).take (TEXTS[s]).length = TEXTS[s]) := fun q => by
        rw [begins_of _ _ q] at hap
        cases hap
      simp [this]
  | succ m ih =>
    intro k i hi hk
    obtain ⟨k, rfl⟩ : ∃ k', k = k' + 1 := ⟨k - 1, by omega⟩
    have hlt : i < (gt [] TEXTS (s : Int)).length := by omega
    have eb : btI (gt [] TEXTS (s : Int)) (i : Int) = ((gt [] TEXTS (s : Int))[i].toNat : Int) := by simp [btI, List.getD_eq_getElem?_getD, hlt]
    rw [louverlaw03qHuffmanCode.l0, if_pos (by omega), if_pos (by omega), eb, wi64 (by omega) (by omega), show (i : Int) + 1 = ((i + 1 : Nat) : Int) by omega]
    have := ih k (i + 1) (by omega) (by omega)
    rw [List.take_succ_eq_append_getElem hlt, List.foldl_append] at this
    exact this
theorem all_lens : (TEXTS.all fun t => decide (t.length < 1000)) = true := by kernel_rfl
theorem louverlaw03qHuffmanCode_true (p0 p1 : Int) (h0 : okI .i64 p0) (h1 : okI .i64 p1) : ∃ k, louverlaw03qHuffmanCode.f k p0 p1 = some true := by
  obtain ⟨K, hK⟩ : ∃ K : Nat, K = 30000 := ⟨_, rfl⟩
  refine ⟨K, ?_⟩
  unfold louverlaw03qHuffmanCode.f
  by_cases h : 0 ≤ p0 ∧ p0 ≤ 256
  · obtain ⟨s, hs⟩ : ∃ s : Nat, p0 = (s : Int) := ⟨p0.toNat, by omega⟩
    have hs2 : s < 257 := by omega
    obtain ⟨v1, v2⟩ := vals s hs2
    have ht : s < TEXTS.length := by rw [TEXTS_len]; exact hs2
    have hl : (gt [] TEXTS p0).length < 1000 := by
      rw [hs, gt_nat [] TEXTS s ht]
      exact of_decide_eq_true (List.all_eq_true.1 all_lens _ (List.getElem_mem ht))
    have e1 : huffman_Code.f K p0 = some ((gt z45 CODES p0).f0, IntKind.i64.wrap (gt z45 CODES p0).f1) := by
      rw [hs]
      exact code_in K (by omega) s hs2
    rw [e1, texts_at K (by omega)]
    simp only [bnd1, bnd2]
    rw [if_neg (by omega), if_neg (by omega), if_pos (by omega), if_pos (by rw [TEXTS_len]; omega)]
    rw [← hs] at v1 v2
    exact code_l0 p0 p1 _ _ s hs2 hs h1 v1.symm v2 hl (gt [] TEXTS p0).length K 0 (by omega) (by omega)
  · rw [code_out K p0 (by omega), fixed_true K (by omega)]
    simp only [bnd1, bnd2]
    by_cases a1 : p0 < 0
    · rw [if_pos a1]
      simp
    · rw [if_neg a1, if_pos (by omega)]
      simp
end Go.Proofs.YtedfgicbignbmaaDoor.Sl
