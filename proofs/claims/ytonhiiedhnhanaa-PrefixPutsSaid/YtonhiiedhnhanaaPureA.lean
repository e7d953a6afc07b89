/- Chapter 02, plain: numbers told with a prefix, byte by byte, and read back. -/
import Derived.Test.YtonhiiedhnhanaaCode2
import Derived.Test.YtonhiiedhnhanaaSlP
set_option linter.unusedVariables false
set_option linter.unusedSimpArgs false
namespace Go.Proofs.Ytonhiiedhnhanaa.Sl
open Go Go.Proofs.Sl

def byts (l : List Int) : Prop := ∀ x ∈ l, 0 ≤ x ∧ x < 256
def vi : Nat → Int → List Int
  | 0, x => [x]
  | m + 1, x => if x > 127 then (x % 128 + 128) :: vi m (x / 128) else [x]
def Wf : List Int → Prop
  | [] => False
  | [t] => 0 ≤ t ∧ t < 128
  | t :: u :: r => (128 ≤ t ∧ t < 256) ∧ Wf (u :: r)
def vs : List Int → Int
  | [] => 0
  | t :: r => t % 128 + 128 * vs r
theorem Wf.ne {l : List Int} (h : Wf l) : l ≠ [] := by
  rintro rfl
  exact h
theorem wf_cons {t : Int} {l : List Int} (h1 : 128 ≤ t) (h2 : t < 256) (h : Wf l) : Wf (t :: l) := by
  cases l with
  | nil => exact absurd h (by simp [Wf])
  | cons u r => exact ⟨⟨h1, h2⟩, h⟩
theorem vi_ok : ∀ (m : Nat) (x : Int), 0 ≤ x → x < 128 ^ (m + 1) → Wf (vi m x) ∧ vs (vi m x) = x ∧ (vi m x).length ≤ m + 1 ∧ byts (vi m x)
  | 0, x, h0, h1 => by
    simp [vi, Wf, vs, byts] at h1 ⊢
    omega
  | m + 1, x, h0, h1 => by
    unfold vi
    split
    · have hx : x / 128 < 128 ^ (m + 1) := by
        rw [Int.pow_succ] at h1
        exact Int.ediv_lt_of_lt_mul (by omega) h1
      obtain ⟨a, b, c, d⟩ := vi_ok m (x / 128) (by omega) hx
      refine ⟨wf_cons (by omega) (by omega) a, ?_, by simp; omega, ?_⟩
      · simp only [vs, b]
        omega
      · intro y hy
        rcases List.mem_cons.1 hy with rfl | hy
        · omega
        · exact d y hy
    · simp [Wf, vs, byts]
      omega
theorem vi_pos (m : Nat) (x : Int) : 1 ≤ (vi m x).length := by
  cases m with
  | zero => simp [vi]
  | succ m => unfold vi; split <;> simp
theorem vi_mono : ∀ (m : Nat) (x y : Int), 0 ≤ x → x ≤ y → (vi m x).length ≤ (vi m y).length
  | 0, x, y, _, _ => by simp [vi]
  | m + 1, x, y, h0, h => by
    unfold vi
    split
    · rw [if_pos (by omega)]
      simp only [List.length_cons]
      have := vi_mono m (x / 128) (y / 128) (by omega) (by omega)
      omega
    · split
      · simp
      · simp
/-- What both readers do, from place i on. -/
def dv : Nat → Int → List Int → Int × Int × Int
  | _, _, [] => (0, 0, 2)
  | i, acc, t :: r => if i = 4 then (0, 0, 4) else if t < 128 then (if acc + t % 128 * 128 ^ i > 268435456 then (0, 0, 4) else (acc + t % 128 * 128 ^ i, i + 2, 0)) else dv (i + 1) (acc + t % 128 * 128 ^ i) r
theorem dv_wf : ∀ (gs : List Int) (i : Nat) (acc : Int), Wf gs → i ≤ 4 →
    dv i acc gs = if i + gs.length ≤ 4 then (if acc + vs gs * 128 ^ i > 268435456 then (0, 0, 4) else (acc + vs gs * 128 ^ i, (i : Int) + (gs.length : Int) + 1, 0)) else (0, 0, 4)
  | [], i, acc, h, _ => absurd h (by simp [Wf])
  | [t], i, acc, h, hi => by
    have e1 : vs [t] = t % 128 := by simp [vs]
    rw [dv, e1, List.length_singleton]
    by_cases h4 : i = 4
    · rw [if_pos h4, if_neg (by omega)]
    · rw [if_neg h4, if_pos h.2, if_pos (show i + 1 ≤ 4 by omega)]
      have e2 : ((i : Int) + ((1 : Nat) : Int) + 1) = i + 2 := by omega
      rw [e2]
  | t :: u :: r, i, acc, h, hi => by
    obtain ⟨⟨h1, h2⟩, h3⟩ := h
    rw [dv]
    by_cases h4 : i = 4
    · rw [if_pos h4, if_neg (by simp; omega)]
    · rw [if_neg h4, if_neg (by omega), dv_wf (u :: r) (i + 1) _ h3 (by omega)]
      have e : acc + t % 128 * 128 ^ i + vs (u :: r) * 128 ^ (i + 1) = acc + vs (t :: u :: r) * 128 ^ i := by
        rw [show vs (t :: u :: r) = t % 128 + 128 * vs (u :: r) from rfl]
        grind
      have e2 : i + 1 + (u :: r).length = i + (t :: u :: r).length := by simp; omega
      have e3 : ((i + 1 : Nat) : Int) + ((u :: r).length : Int) + 1 = (i : Int) + ((t :: u :: r).length : Int) + 1 := by simp; omega
      rw [e, e2, e3]
theorem dv_short : ∀ (gs : List Int) (i : Nat) (acc : Int), (∀ x ∈ gs, 128 ≤ x) → i + gs.length ≤ 4 → dv i acc gs = (0, 0, 2)
  | [], i, acc, _, _ => rfl
  | t :: r, i, acc, h, hl => by
    simp only [List.length_cons] at hl
    have := h t List.mem_cons_self
    rw [dv, if_neg (by omega), if_neg (by omega)]
    exact dv_short r (i + 1) _ (fun x hx => h x (List.mem_cons_of_mem _ hx)) (by omega)
theorem and127 {t : Int} (h0 : 0 ≤ t) (h1 : t < 256) : bAnd .u8 t 127 = t % 128 := bAnd_mask .u8 rfl 7 (by decide) h0 h1
theorem and127w {t : Int} (h0 : 0 ≤ t) (h1 : t < 4294967296) : bAnd .u32 t 127 = t % 128 := bAnd_mask .u32 rfl 7 (by decide) h0 h1
theorem drop_cons {l : List Int} {i : Nat} (h : i < l.length) : l.drop i = gt 0 l i :: l.drop (i + 1) := by
  rw [List.drop_eq_getElem_cons h]
  simp [gt, List.getD_eq_getElem?_getD, List.getElem?_eq_getElem h]
theorem gt_mem {l : List Int} {i : Nat} (h : i < l.length) : gt 0 l (i : Int) ∈ l := by
  simp [gt, List.getD_eq_getElem?_getD, List.getElem?_eq_getElem h]
theorem get_l0 : ∀ (k i : Nat) (acc : Int) (p0 : List Int), byts p0 → i ≤ 4 → 4 - i < k → 0 ≤ acc → acc < 128 ^ i * 256 → prefix_Get.l0 k acc i p0 = some (dv i acc ((p0.drop 1).drop i)) := by
  intro k
  induction k with
  | zero => intro i acc p0 _ _ h; omega
  | succ k ih =>
    intro i acc p0 hb hi hk h0 ha
    have e1 : ((1 : Int).toNat) = 1 := rfl
    rw [prefix_Get.l0, e1]
    by_cases hl : (i : Int) < ((p0.drop 1).length : Int)
    · rw [if_pos hl, if_pos (show (0 : Int) ≤ i by omega)]
      have hl' : i < (p0.drop 1).length := by omega
      rw [drop_cons hl', dv]
      generalize ht : gt 0 (p0.drop 1) (i : Int) = t
      have htb : 0 ≤ t ∧ t < 256 := hb t (List.mem_of_mem_drop (ht ▸ gt_mem hl'))
      by_cases h4 : i = 4
      · rw [if_pos (by omega), if_pos h4]
      · rw [if_neg (by omega), if_neg h4]
        have e7 : IntKind.i64.wrap (7 * (i : Int)) = 7 * (i : Int) := wi64 (by omega) (by omega)
        have hs : shlI .u64 (IntKind.u64.wrap (bAnd .u8 t 127)) (7 * (i : Int)) = t % 128 * 128 ^ i := by
          rw [and127 htb.1 htb.2, wu64 (by omega) (by omega)]
          have : i = 0 ∨ i = 1 ∨ i = 2 ∨ i = 3 := by omega
          rcases this with rfl | rfl | rfl | rfl <;> rw [shlI_eq .u64 rfl (by decide) (by omega) (by simp [IntKind.bits]; omega)] <;> rfl
        rw [e7, hs]
        have hw : IntKind.u64.wrap (acc + t % 128 * 128 ^ i) = acc + t % 128 * 128 ^ i := by
          have : i = 0 ∨ i = 1 ∨ i = 2 ∨ i = 3 := by omega
          rcases this with rfl | rfl | rfl | rfl <;> simp at ha ⊢ <;> refine wu64 ?_ ?_ <;> omega
        rw [hw, if_pos (show (0 : Int) ≤ 7 * (i : Int) by omega)]
        have hn : acc + t % 128 * 128 ^ i < 128 ^ (i + 1) * 256 ∧ 0 ≤ acc + t % 128 * 128 ^ i := by
          have : i = 0 ∨ i = 1 ∨ i = 2 ∨ i = 3 := by omega
          rcases this with rfl | rfl | rfl | rfl <;> simp at ha ⊢ <;> omega
        by_cases hc : t < 128
        · rw [if_pos hc, if_pos hc]
          split
          · rfl
          · rw [wu32 hn.2 (by omega), wi64 (by omega) (by omega)]
        · rw [if_neg hc, if_neg hc, wi64 (by omega) (by omega)]
          exact ih (i + 1) _ p0 hb (by omega) (by omega) hn.2 hn.1
    · rw [if_neg hl, List.drop_eq_nil_of_le (by omega)]
      rfl
theorem rget_l0 : ∀ (k i : Nat) (acc : Int) (p0 : List Int), byts p0 → i ≤ 4 → 4 - i < k → 0 ≤ acc → acc < 128 ^ i * 256 → louverref02qGet.l0 k acc (128 ^ i) (i + 1) p0 = some (dv i acc ((p0.drop 1).drop i)) := by
  intro k
  induction k with
  | zero => intro i acc p0 _ _ h; omega
  | succ k ih =>
    intro i acc p0 hb hi hk h0 ha
    rw [louverref02qGet.l0]
    rw [List.drop_drop]
    by_cases hl : (i : Int) + 1 < (p0.length : Int)
    · rw [if_pos hl]
      have hl' : 1 + i < p0.length := by omega
      have ei : ((1 + i : Nat) : Int) = (i : Int) + 1 := by omega
      rw [drop_cons hl', dv, ei]
      generalize ht : gt 0 p0 ((i : Int) + 1) = t
      have htb : 0 ≤ t ∧ t < 256 := hb t (by rw [← ht, ← ei]; exact gt_mem hl')
      by_cases h4 : i = 4
      · rw [if_pos (by omega), if_pos h4]
      · rw [if_neg (by omega), if_neg h4, if_pos (show (0 : Int) ≤ (i : Int) + 1 by omega)]
        have hs : IntKind.u64.wrap (Int.tmod (IntKind.u64.wrap t) 128 * 128 ^ i) = t % 128 * 128 ^ i := by
          rw [wu64 htb.1 (by omega), Int.tmod_eq_emod_of_nonneg htb.1]
          have : i = 0 ∨ i = 1 ∨ i = 2 ∨ i = 3 := by omega
          rcases this with rfl | rfl | rfl | rfl <;> simp <;> refine wu64 ?_ ?_ <;> omega
        rw [hs]
        have hw : IntKind.u64.wrap (acc + t % 128 * 128 ^ i) = acc + t % 128 * 128 ^ i := by
          have : i = 0 ∨ i = 1 ∨ i = 2 ∨ i = 3 := by omega
          rcases this with rfl | rfl | rfl | rfl <;> simp at ha ⊢ <;> refine wu64 ?_ ?_ <;> omega
        rw [hw]
        have hn : acc + t % 128 * 128 ^ i < 128 ^ (i + 1) * 256 ∧ 0 ≤ acc + t % 128 * 128 ^ i := by
          have : i = 0 ∨ i = 1 ∨ i = 2 ∨ i = 3 := by omega
          rcases this with rfl | rfl | rfl | rfl <;> simp at ha ⊢ <;> omega
        by_cases hc : t < 128
        · rw [if_pos hc, if_pos hc]
          split
          · rfl
          · rw [wu32 hn.2 (by omega), wi64 (by omega) (by omega)]
            simp
            omega
        · rw [if_neg hc, if_neg hc, wi64 (by omega) (by omega)]
          have hm : IntKind.u64.wrap ((128 : Int) ^ i * 128) = 128 ^ (i + 1) := by
            have : i = 0 ∨ i = 1 ∨ i = 2 ∨ i = 3 := by omega
            rcases this with rfl | rfl | rfl | rfl <;> rfl
          rw [hm]
          have := ih (i + 1) _ p0 hb (by omega) (by omega) hn.2 hn.1
          rw [List.drop_drop] at this
          have e9 : ((i + 1 : Nat) : Int) + 1 = (i : Int) + 1 + 1 := by omega
          rw [e9, show 1 + (i + 1) = 1 + i + 1 by omega] at this
          exact this
    · rw [if_neg hl, List.drop_eq_nil_of_le (by omega)]
      rfl
end Go.Proofs.Ytonhiiedhnhanaa.Sl
