/- Chapter 03, plain: the document's side. -/
import Derived.Test.YtedfgicbignbmaaDoorPureF
set_option linter.unusedVariables false
set_option linter.unusedSimpArgs false
namespace Go.Proofs.YtedfgicbignbmaaDoor.Sl
open Go Go.Proofs.Sl

/-! bits of bytes -/
theorem pick_bit (d : Int) (h : d = 0 ∨ d = 1) : ((([48, 49] : List UInt8).take (IntKind.u8.wrap (d + 1)).toNat).drop d.toNat) = [if d = 1 then 49 else 48] := by
  rcases h with rfl | rfl <;> rfl
theorem bits_l1 (p0 : List Int) (i : Nat) (hi : i < p0.length) (acc : List UInt8) (hacc : acc.length ≤ 100000000) (x : Int) (h0 : 0 ≤ x) (h1 : x < 256) (F : Nat) (R : List UInt8) (hl0 : ∀ k, F ≤ k → louverref03qbits.l0 k (acc ++ b8 x) ((i + 1 : Nat) : Int) p0 = some R) (hil : p0.length ≤ 100000) :
    ∀ (m k j : Nat), j + m = 8 → F + m + 1 ≤ k → louverref03qbits.l1 k (x / 2 ^ j) ((b8 x).drop (8 - j)) j p0 acc i = some R := by
  intro m
  induction m with
  | zero =>
    intro k j hj hk
    obtain ⟨k, rfl⟩ : ∃ k', k = k' + 1 := ⟨k - 1, by omega⟩
    have : j = 8 := by omega
    subst this
    rw [louverref03qbits.l1, if_neg (by omega), List.drop_zero, if_pos (by rw [b8qlen]; omega), wi64 (by omega) (by omega), show (i : Int) + 1 = ((i + 1 : Nat) : Int) by omega]
    exact hl0 k (by omega)
  | succ m ih =>
    intro k j hj hk
    obtain ⟨k, rfl⟩ : ∃ k', k = k' + 1 := ⟨k - 1, by omega⟩
    have ej := pow_pos' j
    have hq0 : 0 ≤ x / 2 ^ j := Int.ediv_nonneg h0 (by omega)
    have hq1 : x / 2 ^ j ≤ x := Int.ediv_le_self _ h0
    have ed : Int.tmod (x / 2 ^ j) 2 = (x / 2 ^ j) % 2 := Int.tmod_eq_emod_of_nonneg hq0
    have ed2 : Int.tdiv (x / 2 ^ j) 2 = (x / 2 ^ j) / 2 := Int.tdiv_eq_ediv_of_nonneg hq0
    have hd : (x / 2 ^ j) % 2 = 0 ∨ (x / 2 ^ j) % 2 = 1 := by omega
    have ep : x / 2 ^ j / 2 = x / 2 ^ (j + 1) := by rw [Int.pow_succ, ← Int.ediv_ediv_of_nonneg (by omega)]
    have hlen : ((b8 x).drop (8 - j)).length ≤ 8 := by rw [List.length_drop, b8qlen]; omega
    have hw : IntKind.u8.wrap ((x / 2 ^ j) % 2 + 1) = (x / 2 ^ j) % 2 + 1 := wu8 (by omega) (by omega)
    have hb := b8qdrop x j (by omega)
    rw [louverref03qbits.l1, if_pos (by omega), ed, if_pos (by omega), if_pos (by rw [hw]; omega), if_pos (by rw [hw]; simp; omega), pick_bit _ hd, if_pos (by simp only [List.length_singleton]; omega), ed2, ep, wu8 (by rw [← ep]; omega) (by rw [← ep]; omega), wi64 (by omega) (by omega), show (j : Int) + 1 = ((j + 1 : Nat) : Int) by omega]
    have e2 : [if (x / 2 ^ j) % 2 = 1 then (49 : UInt8) else 48] ++ (b8 x).drop (8 - j) = (b8 x).drop (8 - (j + 1)) := by
      rw [hb]
      rfl
    rw [e2]
    exact ih k (j + 1) (by omega) (by omega)
theorem bits_l0 (p0 : List Int) (hil : p0.length ≤ 100000) (hb : ∀ x ∈ p0, 0 ≤ x ∧ x < 256) : ∀ (n k i : Nat), i + n = p0.length → 10 * n + 1 ≤ k → louverref03qbits.l0 k (bitsL (p0.take i)) i p0 = some (bitsL p0) := by
  intro n
  induction n with
  | zero =>
    intro k i hi hk
    obtain ⟨k, rfl⟩ : ∃ k', k = k' + 1 := ⟨k - 1, by omega⟩
    rw [louverref03qbits.l0, if_neg (by omega), List.take_of_length_le (by omega)]
  | succ n ih =>
    intro k i hi hk
    obtain ⟨k, rfl⟩ : ∃ k', k = k' + 1 := ⟨k - 1, by omega⟩
    have hlt : i < p0.length := by omega
    have hb2 := hb _ (List.getElem_mem hlt)
    have e : gt (0 : Int) p0 (i : Int) = p0[i] := gt_nat 0 p0 i hlt
    have e2 : bitsL (p0.take i) ++ b8 p0[i] = bitsL (p0.take (i + 1)) := by
      rw [List.take_succ_eq_append_getElem hlt, bitsL_app, bitsL_one]
    have := bits_l1 p0 i hlt (bitsL (p0.take i)) (by rw [bitsL_len, List.length_take]; omega) p0[i] hb2.1 hb2.2 (10 * n + 1) (bitsL p0) (fun k hk => by rw [e2]; exact ih k (i + 1) (by omega) hk) hil 8 k 0 (by omega) (by omega)
    rw [louverref03qbits.l0, if_pos (by omega), if_pos (by omega), e]
    have e8 : (b8 p0[i]).drop (8 - 0) = [] := List.drop_eq_nil_of_le (by rw [b8qlen]; omega)
    rw [e8] at this
    simpa using this
theorem bits_f (p0 : List Int) (hil : p0.length ≤ 100000) (hb : ∀ x ∈ p0, 0 ≤ x ∧ x < 256) (k : Nat) (hk : 10 * p0.length + 1 ≤ k) : louverref03qbits.f k p0 = some (bitsL p0) := by
  have := bits_l0 p0 hil hb p0.length k 0 (by omega) hk
  simpa [louverref03qbits.f, bitsL] using this
/-! codes at a place -/
theorem begins_f (T s : List UInt8) (a : Nat) (ha : a ≤ s.length) (hs : s.length ≤ 100000000) (hT : T.length ≤ 1000) : louverref03qbegins.f T s a = some (decide ((s.drop a).take T.length = T)) := by
  unfold louverref03qbegins.f
  have e : IntKind.i64.wrap ((a : Int) + (T.length : Int)) = ((a + T.length : Nat) : Int) := by rw [wi64 (by omega) (by omega)]; omega
  rw [e]
  by_cases h : ((a + T.length : Nat) : Int) ≤ (s.length : Int)
  · rw [if_pos h, if_pos (by omega), if_pos (by omega), Int.toNat_natCast, Int.toNat_natCast]
    have : (s.take (a + T.length)).drop a = (s.drop a).take T.length := by
      rw [List.drop_take, show a + T.length - a = T.length by omega]
    rw [this]
  · rw [if_neg h]
    have : ¬ ((s.drop a).take T.length = T) := by
      intro q
      have := congrArg List.length q
      rw [List.length_take, List.length_drop] at this
      omega
    simp [this]
def at_ (r : List UInt8) (i : Nat) : Prop := r.take (tx i).length = tx i
theorem at_one {r : List UInt8} {i j : Nat} (hi : i < 257) (hj : j < 257) (h1 : at_ r i) (h2 : at_ r j) : i = j := by
  have ti' : i < TEXTS.length := by rw [TEXTS_len]; exact hi
  have tj' : j < TEXTS.length := by rw [TEXTS_len]; exact hj
  have key : ∀ i j : Nat, ∀ (hi : i < TEXTS.length) (hj : j < TEXTS.length), at_ r i → at_ r j → (tx i).length ≤ (tx j).length → i = j := by
    intro i j hi hj h1 h2 hl
    refine Classical.byContradiction fun hne => ?_
    have h3 := apart i j hi hj hne
    have h4 : (tx j).take (tx i).length = tx i := by
      unfold at_ at h1 h2
      rw [← h2, List.take_take, Nat.min_eq_left hl]
      exact h1
    rw [tx_eq i hi, tx_eq j hj] at h4
    rw [begins_of _ _ h4] at h3
    cases h3
  rcases Nat.le_total (tx i).length (tx j).length with h | h
  · exact key i j ti' tj' h1 h2 h
  · exact (key j i tj' ti' h2 h1 h).symm
theorem dec_code_aux (i : Nat) (hi : i < 257) (r : List UInt8) (out : List Int) : ∀ (q p : List UInt8), inner p → p ++ q = tx i → q ≠ [] → dec p (q ++ r) out = if (i : Int) = 256 then none else dec [] r (out ++ [(i : Int)])
  | [], p, _, _, hq => absurd rfl hq
  | c :: q, p, hp, h, _ => by
    have hb := (tx_bits i hi).1
    rw [← h, List.all_append, Bool.and_eq_true, List.all_cons, Bool.and_eq_true] at hb
    rw [List.cons_append, dec]
    have e : p ++ [c] ++ q = tx i := by rw [← h]; simp
    rcases inner_next hp hb.2.1 with ⟨j, hj, ej⟩ | hn
    · have h1 : at_ (tx i) i := by unfold at_; rw [List.take_length]
      have h2 : at_ (tx i) j := by
        unfold at_
        rw [← ej, ← e, List.take_left']
        rfl
      have := at_one hi hj h1 h2
      subst this
      have hq : q = [] := by
        have := congrArg List.length e
        rw [List.length_append, ej] at this
        exact List.eq_nil_of_length_eq_zero (by omega)
      rw [ej, ti_tx i hi, hq]
      rfl
    · obtain ⟨_, l, r', hg⟩ := id hn
      rw [ti_inner hg]
      refine dec_code_aux i hi r out q (p ++ [c]) hn e ?_
      intro hq
      rw [hq, List.append_nil] at e
      rw [e, go_tx i hi] at hg
      injection hg with hg
      cases hg
theorem dec_code (i : Nat) (hi : i < 257) (r : List UInt8) (out : List Int) : dec [] (tx i ++ r) out = if (i : Int) = 256 then none else dec [] r (out ++ [(i : Int)]) := by
  refine dec_code_aux i hi r out (tx i) [] inner_nil rfl ?_
  intro h
  have := (tx_bits i hi).2.1
  rw [h] at this
  simp at this
theorem dec_none_aux (r : List UInt8) (hn : ∀ i, i < 257 → ¬ at_ r i) (hr : r.all isB = true) (out : List Int) : ∀ (q p : List UInt8), inner p → p ++ q = r → dec p q out = some (out, r)
  | [], p, hp, h => by
    rw [List.append_nil] at h
    rw [dec, h]
  | c :: q, p, hp, h => by
    have hb := hr
    rw [← h, List.all_append, Bool.and_eq_true, List.all_cons, Bool.and_eq_true] at hb
    have e : p ++ [c] ++ q = r := by rw [← h]; simp
    rw [dec]
    rcases inner_next hp hb.2.1 with ⟨j, hj, ej⟩ | hi
    · refine absurd ?_ (hn j hj)
      unfold at_
      rw [← ej, ← e, List.take_left']
      rfl
    · obtain ⟨_, l, r', hg⟩ := id hi
      rw [ti_inner hg]
      exact dec_none_aux r hn hr out q (p ++ [c]) hi e
theorem dec_none (r : List UInt8) (hn : ∀ i, i < 257 → ¬ at_ r i) (hr : r.all isB = true) (out : List Int) : dec [] r out = some (out, r) := dec_none_aux r hn hr out r [] inner_nil rfl
/-! the document's Decode -/
theorem l3qf (s : List UInt8) (out : List Int) (hs : s.length ≤ 100000) (hb : s.all isB = true) : ∀ (n k a : Nat), a + n = s.length → n + 1 ≤ k → louverref03qDecode.l3 k a s out = some (if s.drop a = ones n then (toS out, 0) else ([], 3)) := by
  intro n
  induction n with
  | zero =>
    intro k a ha hk
    obtain ⟨k, rfl⟩ : ∃ k', k = k' + 1 := ⟨k - 1, by omega⟩
    rw [louverref03qDecode.l3, if_neg (by omega), List.drop_eq_nil_of_le (by omega), if_pos (by rfl)]
  | succ n ih =>
    intro k a ha hk
    obtain ⟨k, rfl⟩ : ∃ k', k = k' + 1 := ⟨k - 1, by omega⟩
    have hlt : a < s.length := by omega
    have eb : btI s (a : Int) = ((s[a]).toNat : Int) := by simp [btI, List.getD_eq_getElem?_getD, hlt]
    have hbb := isB_dg (List.all_eq_true.1 hb _ (List.getElem_mem hlt))
    have eo : ones (n + 1) = 49 :: ones n := rfl
    rw [louverref03qDecode.l3, if_pos (by omega), if_pos (by omega), eb, List.drop_eq_getElem_cons hlt, eo]
    rcases hbb with ⟨e, _⟩ | ⟨e, _⟩
    · rw [e, if_neg (by decide), if_neg (by simp)]
    · rw [e, if_pos (by decide), wi64 (by omega) (by omega), show (a : Int) + 1 = ((a + 1 : Nat) : Int) by omega, ih k (a + 1) (by omega) (by omega)]
      by_cases h : s.drop (a + 1) = ones n
      · rw [if_pos h, if_pos (by rw [h])]
      · rw [if_neg h, if_neg (by simpa using h)]
theorem j0qf (s : List UInt8) (out : List Int) (hs : s.length ≤ 100000) (hb : s.all isB = true) (k a : Nat) (ha : a ≤ s.length) (hk : s.length + 10 ≤ k) : louverref03qDecode.j0 k out a s = some (fin (some (out, s.drop a))) := by
  obtain ⟨k, rfl⟩ : ∃ k', k = k' + 1 := ⟨k - 1, by omega⟩
  have hl : (s.drop a).length = s.length - a := List.length_drop
  rw [louverref03qDecode.j0, wi64 (by omega) (by omega)]
  show _ = some (if (s.drop a).length > 7 then ([], 3) else if vb (s.drop a) = 2 ^ (s.drop a).length - 1 then (toS out, 0) else ([], 3))
  by_cases h7 : (s.drop a).length > 7
  · rw [if_pos (by omega), if_pos h7]
  · rw [if_neg (by omega), if_neg h7, l3qf s out hs hb (s.length - a) k a (by omega) (by omega)]
    have := ones_iff (s.drop a) (drop_all hb a)
    rw [hl] at this ⊢
    by_cases hv : s.drop a = ones (s.length - a)
    · rw [if_pos hv, if_pos (this.2 hv)]
    · rw [if_neg hv, if_neg (fun q => hv (this.1 q))]
theorem txg (i : Nat) : gt [] TEXTS (i : Int) = tx i := by simp [gt, tx]
def fnum : Option Nat → Nat → Int
  | some i, j => if i < j then (i : Int) else -1
  | none, _ => -1
theorem l2qf (s : List UInt8) (out : List Int) (hs : s.length ≤ 100000) (a : Nat) (ha : a ≤ s.length) (M : Option Nat) (hM : ∀ j, j < 257 → (at_ (s.drop a) j ↔ M = some j)) (F : Nat) (R : Option (List UInt8 × Int))
    (hend : ∀ k, F ≤ k → louverref03qDecode.l2 (k + 1) (fnum M 257) 257 TEXTS s out a = R) : ∀ (m k j : Nat), j + m = 257 → F + m + 1 ≤ k → louverref03qDecode.l2 k (fnum M j) j TEXTS s out a = R := by
  intro m
  induction m with
  | zero =>
    intro k j hj hk
    obtain ⟨k, rfl⟩ : ∃ k', k = k' + 1 := ⟨k - 1, by omega⟩
    have hj2 : j = 257 := by omega
    subst hj2
    exact hend k (by omega)
  | succ m ih =>
    intro k j hj hk
    obtain ⟨k, rfl⟩ : ∃ k', k = k' + 1 := ⟨k - 1, by omega⟩
    have hb := tx_bits j (by omega)
    rw [louverref03qDecode.l2, if_pos (by rw [TEXTS_len]; omega), if_pos (by omega), txg, begins_f _ _ a ha (by omega) (by omega)]
    simp only [bnd1, decide_eq_true_eq]
    rw [wi64 (by omega) (by omega), show (j : Int) + 1 = ((j + 1 : Nat) : Int) by omega]
    have hiff := hM j (by omega)
    unfold at_ at hiff
    by_cases h : (s.drop a).take (tx j).length = tx j
    · rw [if_pos h]
      have e := hiff.1 h
      have := ih k (j + 1) (by omega) (by omega)
      have e2 : fnum M (j + 1) = (j : Int) := by
        rw [e]
        show (if j < j + 1 then (j : Int) else -1) = _
        rw [if_pos (by omega)]
      rw [e2] at this
      exact this
    · rw [if_neg h]
      have := ih k (j + 1) (by omega) (by omega)
      have e2 : fnum M (j + 1) = fnum M j := by
        cases hMM : M with
        | none => rfl
        | some i =>
          have hne : i ≠ j := fun q => h (hiff.2 (by rw [hMM, q]))
          show (if i < j + 1 then (i : Int) else -1) = (if i < j then (i : Int) else -1)
          by_cases h2 : i < j
          · rw [if_pos h2, if_pos (by omega)]
          · rw [if_neg h2, if_neg (by omega)]
      rw [e2] at this
      exact this
theorem rdec_l1 (s : List UInt8) (hs : s.length ≤ 3000) (hb : s.all isB = true) : ∀ (n k a : Nat) (out : List Int), s.length - a ≤ n → a ≤ s.length → out.length ≤ a → 300 * n + 10000 ≤ k → louverref03qDecode.l1 k out a s TEXTS = some (fin (dec [] (s.drop a) out)) := by
  intro n
  induction n with
  | zero =>
    intro k a out hn ha ho hk
    obtain ⟨k, rfl⟩ : ∃ k', k = k' + 1 := ⟨k - 1, by omega⟩
    rw [louverref03qDecode.l1, if_neg (by omega), j0qf s out (by omega) hb k a ha (by omega), List.drop_eq_nil_of_le (by omega)]
    rfl
  | succ n ih =>
    intro k a out hn ha ho hk
    obtain ⟨k, rfl⟩ : ∃ k', k = k' + 1 := ⟨k - 1, by omega⟩
    by_cases hlt : a < s.length
    · rw [louverref03qDecode.l1, if_pos (by omega)]
      have hdb := drop_all hb a
      by_cases hex : ∃ i, i < 257 ∧ at_ (s.drop a) i
      · obtain ⟨i, hi, hat⟩ := hex
        have hsp : s.drop a = tx i ++ s.drop (a + (tx i).length) := by
          unfold at_ at hat
          have := List.take_append_drop (tx i).length (s.drop a)
          rw [hat, List.drop_drop] at this
          exact this.symm
        have hle : a + (tx i).length ≤ s.length := by
          have := congrArg List.length hsp
          rw [List.length_append, List.length_drop, List.length_drop] at this
          omega
        have htb := tx_bits i hi
        refine l2qf s out (by omega) a ha (some i) (fun j hj => ⟨fun h => by rw [at_one hi hj hat h], fun h => by injection h with h; subst h; exact hat⟩) (300 * n + 10000) _ ?_ 257 k 0 (by omega) (by omega)
        intro k hk
        have e257 : fnum (some i) 257 = (i : Int) := if_pos hi
        rw [louverref03qDecode.l2, if_neg (by rw [TEXTS_len]; omega), hsp, dec_code i hi, e257]
        by_cases h256 : (i : Int) = 256
        · rw [if_pos h256, if_pos h256]
          rfl
        · rw [if_neg h256, if_neg h256, if_neg (by omega), if_pos (by omega)]
          simp only [lt1]
          rw [if_pos (by omega), if_pos (by rw [TEXTS_len]; omega), txg, wu8 (by omega) (by omega), wi64 (by omega) (by omega)]
          have e : (a : Int) + ((tx i).length : Int) = ((a + (tx i).length : Nat) : Int) := by omega
          rw [e]
          exact ih k (a + (tx i).length) _ (by omega) hle (by simp; omega) hk
      · have hno : ∀ i, i < 257 → ¬ at_ (s.drop a) i := fun i hi h => hex ⟨i, hi, h⟩
        refine l2qf s out (by omega) a ha none (fun j hj => ⟨fun h => absurd h (hno j hj), fun h => by cases h⟩) (300 * n + 10000) _ ?_ 257 k 0 (by omega) (by omega)
        intro k hk
        rw [louverref03qDecode.l2, if_neg (by rw [TEXTS_len]; omega), dec_none _ hno hdb]
        show (if (-1 : Int) = 256 then _ else if (-1 : Int) < 0 then _ else _) = _
        rw [if_neg (by omega), if_pos (by omega)]
        exact j0qf s out (by omega) hb k a ha (by omega)
    · rw [louverref03qDecode.l1, if_neg (by omega), j0qf s out (by omega) hb k a ha (by omega), List.drop_eq_nil_of_le (by omega)]
      rfl
theorem rdecode_f (p0 : List Int) (hil : p0.length ≤ 300) (hb : ∀ x ∈ p0, 0 ≤ x ∧ x < 256) (k : Nat) (hk : 1000000 ≤ k) : louverref03qDecode.f k p0 = some (fin (dec [] (bitsL p0) [])) := by
  unfold louverref03qDecode.f
  rw [texts_at k (by omega), bits_f p0 (by omega) hb k (by omega)]
  simp only [bnd1]
  have hl := bitsL_len p0
  have := rdec_l1 (bitsL p0) (by omega) (bitsL_all p0) (bitsL p0).length k 0 [] (by omega) (by omega) (by simp) (by omega)
  simpa using this
end Go.Proofs.YtedfgicbignbmaaDoor.Sl
