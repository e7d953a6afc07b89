/- Chapter 03, plain: what Decode does. -/
import Derived.Test.YtedfgicbignbmaaDoorPureD
set_option linter.unusedVariables false
set_option linter.unusedSimpArgs false
namespace Go.Proofs.YtedfgicbignbmaaDoor.Sl
open Go Go.Proofs.Sl

def dec : List UInt8 → List UInt8 → List Int → Option (List Int × List UInt8)
  | p, [], out => some (out, p)
  | p, c :: s, out => match ti (p ++ [c]) with
    | some i => if i = 256 then none else dec [] s (out ++ [i])
    | none => dec (p ++ [c]) s out
def inner (p : List UInt8) : Prop := p.all isB = true ∧ ∃ l r, go ROOT p = some (.nd l r)
theorem inner_nil : inner [] := by
  refine ⟨rfl, ?_⟩
  rw [go_nil]
  exact ⟨_, _, rfl⟩
theorem inner_len {p : List UInt8} (h : inner p) : p.length ≤ 29 := by
  obtain ⟨_, l, r, h⟩ := h
  have := go_dep ROOT p _ h
  rw [root_dep] at this
  simp only [dep] at this
  omega
theorem inner_next {p : List UInt8} {c : UInt8} (h : inner p) (hc : isB c = true) : (∃ i, i < 257 ∧ p ++ [c] = tx i) ∨ inner (p ++ [c]) := by
  obtain ⟨hb, l, r, h⟩ := h
  have hb' : (p ++ [c]).all isB = true := by rw [List.all_append, hb]; simpa using hc
  have hs := go_snoc ROOT p c
  rw [h] at hs
  simp only at hs
  cases ht : (if c = 48 then l else r) with
  | lf i =>
    rw [ht] at hs
    obtain ⟨a, b⟩ := go_lf hb' hs
    exact .inl ⟨i, a, b⟩
  | nd l' r' =>
    rw [ht] at hs
    exact .inr ⟨hb', l', r', hs⟩
def KN : List (S45 × Int) := TT.map fun q => (enc q.1, q.2)
theorem enc_inj {a b : List UInt8} (ha : a.all isB = true) (hb : b.all isB = true) (h : enc a = enc b) : a = b := by
  simp only [enc, S45.mk.injEq] at h
  exact vb_inj a b ha hb (by omega) h.1
theorem mget_map {κ κ' ν : Type} [DecidableEq κ] [DecidableEq κ'] (f : κ → κ') : ∀ (l : List (κ × ν)) (k : κ), (∀ q ∈ l, f q.1 = f k → q.1 = k) → mget (l.map fun q => (f q.1, q.2)) (f k) = mget l k
  | [], k, _ => rfl
  | q :: l, k, h => by
    have ih := mget_map f l k fun q hq => h q (List.mem_cons_of_mem _ hq)
    unfold mget at ih ⊢
    simp only [List.map_cons, midx]
    by_cases hk : q.1 = k
    · rw [if_pos (by rw [hk]), if_pos hk]
    · rw [if_neg (fun e => hk (h q List.mem_cons_self e)), if_neg hk]
      simp only [Option.map_map] at ih ⊢
      exact ih
theorem TT_bits {q : List UInt8 × Int} (h : q ∈ TT) : q.1.all isB = true := by
  simp only [TT, List.mem_map] at h
  obtain ⟨w, hw, rfl⟩ := h
  have hw2 : w.1 ∈ TEXTS := by
    rw [List.mem_iff_getElem?] at hw
    obtain ⟨j, hj⟩ := hw
    rw [List.getElem?_zipIdx] at hj
    obtain ⟨v, hv, rfl⟩ := Option.map_eq_some_iff.1 hj
    exact List.mem_iff_getElem?.2 ⟨j, hv⟩
  have := List.all_eq_true.1 texts_bits _ hw2
  simp only [Bool.and_eq_true] at this
  exact this.1.1
theorem mget_KN (p : List UInt8) (hp : p.all isB = true) : mget KN (enc p) = ti p :=
  mget_map enc TT p fun q hq h => enc_inj (TT_bits hq) hp h
theorem TT_at (i : Nat) (hi : i < 257) : TT[i]? = some (tx i, (i : Int)) := by
  have h : i < TEXTS.length := by rw [TEXTS_len]; exact hi
  unfold TT
  rw [List.getElem?_map, List.getElem?_zipIdx, List.getElem?_eq_getElem h, tx_eq i h]
  simp
theorem TT_len : TT.length = 257 := by simp [TT, TEXTS_len]
theorem KN_at (i : Nat) (hi : i < 257) : KN[i]? = some (enc (tx i), (i : Int)) := by
  unfold KN
  rw [List.getElem?_map, TT_at i hi]
  rfl
theorem KN_len : KN.length = 257 := by simp [KN, TT_len]
theorem map_at {α β : Type} (l : List α) (f : α → β) (i : Nat) (h : i < l.length) : (l.map f)[i]? = some (f l[i]) := by simp [h]
theorem cd_at (i : Nat) (hi : i < 257) : gt z45 CODES (i : Int) = enc (tx i) := by
  have h : i < TEXTS.length := by rw [TEXTS_len]; exact hi
  have h2 : i < CODES.length := by rw [CODES_len]; exact hi
  rw [gt_nat z45 CODES i h2, tx_eq i h]
  have := map_at TEXTS enc i h
  rw [← codes_enc, List.getElem?_eq_getElem h2] at this
  exact Option.some.inj this
theorem known_no (i : Nat) (hi : i < 257) : mget (KN.take i) (enc (tx i)) = none := by
  cases hm : mget (KN.take i) (enc (tx i)) with
  | none => rfl
  | some v =>
    have h1 := mget_some _ _ _ hm
    rw [List.mem_iff_getElem?] at h1
    obtain ⟨j, hj⟩ := h1
    rw [List.getElem?_take] at hj
    split at hj
    · rename_i hlt
      rw [KN_at j (by omega)] at hj
      simp only [Option.some.injEq, Prod.mk.injEq] at hj
      have e := enc_inj (tx_bits j (by omega)).1 (tx_bits i hi).1 hj.1
      have e1 := ti_tx j (by omega)
      rw [e, ti_tx i hi] at e1
      simp only [Option.some.injEq] at e1
      omega
    · cases hj
/-- The answer, off what was read. -/
def fin : Option (List Int × List UInt8) → List UInt8 × Int
  | none => ([], 3)
  | some (out, p) => if p.length > 7 then ([], 3) else if vb p = 2 ^ p.length - 1 then (toS out, 0) else ([], 3)
theorem decode_l0 (p0 : List Int) (R : List UInt8 × Int) (F : Nat) (h1 : ∀ k, F ≤ k → huffman_Decode.l1 k [] 0 0 0 p0 KN = some R) : ∀ (m k i : Nat), i + m = 257 → F + m + 1 ≤ k → huffman_Decode.l0 k (KN.take i) i CODES p0 = some R := by
  intro m
  induction m with
  | zero =>
    intro k i hi hk
    obtain ⟨k, rfl⟩ : ∃ k', k = k' + 1 := ⟨k - 1, by omega⟩
    rw [huffman_Decode.l0, if_neg (by omega), List.take_of_length_le (by rw [KN_len]; omega)]
    exact h1 k (by omega)
  | succ m ih =>
    intro k i hi hk
    obtain ⟨k, rfl⟩ : ∃ k', k = k' + 1 := ⟨k - 1, by omega⟩
    have e : (⟨(gt z45 CODES (i : Int)).f0, (gt z45 CODES (i : Int)).f1⟩ : S45) = enc (tx i) := cd_at i (by omega)
    rw [huffman_Decode.l0, if_pos (by omega), if_pos (by omega), if_pos (by omega), e, if_pos (known_no i (by omega)), wi64 (by omega) (by omega), show (i : Int) + 1 = ((i + 1 : Nat) : Int) by omega]
    have e2 : KN.take i ++ [(enc (tx i), (i : Int))] = KN.take (i + 1) := by
      rw [List.take_add_one, KN_at i (by omega)]
      rfl
    rw [e2]
    exact ih k (i + 1) (by omega) (by omega)
def bitc (x : Int) (j : Nat) : UInt8 := if (x / 2 ^ j) % 2 = 1 then 49 else 48
theorem bitc_dg (x : Int) (j : Nat) : dg (bitc x j) = (x / 2 ^ j) % 2 := by
  unfold bitc
  split
  · rename_i h
    rw [h]
    rfl
  · have : (x / 2 ^ j) % 2 = 0 := by omega
    rw [this]
    rfl
theorem bitc_isB (x : Int) (j : Nat) : isB (bitc x j) = true := by
  unfold bitc
  split <;> rfl
theorem b8qdrop (x : Int) (m : Nat) (h : m < 8) : (b8 x).drop (8 - (m + 1)) = bitc x m :: (b8 x).drop (8 - m) := by
  have hlt : 8 - (m + 1) < (b8 x).length := by rw [b8qlen]; omega
  rw [List.drop_eq_getElem_cons hlt, show 8 - (m + 1) + 1 = 8 - m by omega]
  congr 1
  simp only [b8, List.getElem_map, List.getElem_range]
  rw [show 7 - (8 - (m + 1)) = m by omega]
  rfl
theorem step_key {p : List UInt8} (hp : inner p) {x : Int} (h0 : 0 ≤ x) (h1 : x < 256) (j : Nat) (hj : j < 8) :
    (⟨bOr .u32 (shlI .u32 (vb p) 1) (bAnd .u32 (IntKind.u32.wrap (shrI .u8 x (j : Int))) 1), IntKind.u8.wrap ((p.length : Int) + 1)⟩ : S45) = enc (p ++ [bitc x j]) := by
  have hb := vb_bd p hp.1
  have hl := inner_len hp
  have hpow : (2 : Int) ^ p.length ≤ 2 ^ 29 := pow_le hl
  have e0 : (2 : Int) ^ 29 = 536870912 := by decide
  have ej : (0 : Int) < 2 ^ j := pow_pos' j
  have hq0 : 0 ≤ x / 2 ^ j := Int.ediv_nonneg h0 (by omega)
  have hq1 : x / 2 ^ j ≤ x := Int.ediv_le_self _ h0
  have e1 : shlI .u32 (vb p) 1 = 2 ^ 1 * vb p := by
    rw [shlI_eq .u32 rfl (by decide) hb.1 (by show vb p * 2 ^ 1 < 2 ^ 32; omega)]
    show vb p * 2 ^ 1 = _
    omega
  have e2 : shrI .u8 x (j : Int) = x / 2 ^ j := by
    rw [shrI_eq .u8 (by rw [Int.toNat_natCast]; show j ≤ 8; omega), Int.toNat_natCast]
  have e3 : bAnd .u32 (x / 2 ^ j) 1 = (x / 2 ^ j) % 2 := by
    have := bAnd_mask .u32 rfl 1 (by decide) (x := x / 2 ^ j) hq0 (by show x / 2 ^ j < 2 ^ 32; omega)
    simpa using this
  rw [e1, e2, wu32 (by omega) (by omega), e3]
  have e4 := bOr_add .u32 rfl 1 (q := vb p) (c := (x / 2 ^ j) % 2) hb.1 (by omega) (by omega) (by show 2 ^ 1 * vb p + (x / 2 ^ j) % 2 < 2 ^ 32; omega)
  rw [e4, wu8 (by omega) (by omega)]
  unfold enc
  rw [vb_snoc, bitc_dg]
  simp
theorem decode_l2 (p0 : List Int) (i : Nat) (hi : i < p0.length) (hil : p0.length ≤ 3000) (x : Int) (hx : gt (0 : Int) p0 (i : Int) = x) (h0 : 0 ≤ x) (h1 : x < 256) (F : Nat)
    (hl1 : ∀ (k : Nat) (p : List UInt8) (out : List Int), inner p → out.length ≤ 8 * (i + 1) → F ≤ k → huffman_Decode.l1 k out (vb p) p.length ((i + 1 : Nat) : Int) p0 KN = some (fin (dec p (bitsL (p0.drop (i + 1))) out))) :
    ∀ (m k : Nat) (p : List UInt8) (out : List Int), m ≤ 8 → inner p → out.length + m ≤ 8 * (i + 1) → F + m + 1 ≤ k → huffman_Decode.l2 k out (vb p) p.length ((m : Int) - 1) p0 KN i = some (fin (dec p ((b8 x).drop (8 - m) ++ bitsL (p0.drop (i + 1))) out)) := by
  intro m
  induction m with
  | zero =>
    intro k p out hm hp ho hk
    obtain ⟨k, rfl⟩ : ∃ k', k = k' + 1 := ⟨k - 1, by omega⟩
    rw [huffman_Decode.l2, if_neg (by omega), wi64 (by omega) (by omega), show (i : Int) + 1 = ((i + 1 : Nat) : Int) by omega, List.drop_eq_nil_of_le (by rw [b8qlen]; omega), List.nil_append]
    exact hl1 k p out hp (by omega) (by omega)
  | succ m ih =>
    intro k p out hm hp ho hk
    obtain ⟨k, rfl⟩ : ∃ k', k = k' + 1 := ⟨k - 1, by omega⟩
    have ej : (((m + 1 : Nat) : Int) - 1) = (m : Int) := by omega
    have hpb : (p ++ [bitc x m]).all isB = true := by rw [List.all_append, hp.1]; simpa using bitc_isB x m
    rw [ej, huffman_Decode.l2, if_pos (by omega), if_pos (by omega), hx, step_key hp h0 h1 m (by omega), mget_KN _ hpb, b8qdrop x m (by omega), List.cons_append, dec]
    rw [wi64 (x := (m : Int) - 1) (by omega) (by omega)]
    rcases inner_next hp (bitc_isB x m) with ⟨s, hs, e⟩ | hn
    · rw [e, ti_tx s hs]
      simp only [Option.isSome_some, Option.getD_some, if_true]
      by_cases h256 : (s : Int) = 256
      · rw [if_pos h256, if_pos h256]
        rfl
      · rw [if_neg h256, if_neg h256, if_pos (by omega)]
        simp only [lt1]
        rw [wu8 (by omega) (by omega)]
        exact ih k [] (out ++ [(s : Int)]) (by omega) inner_nil (by simp; omega) (by omega)
    · obtain ⟨_, l, r, hg⟩ := id hn
      rw [ti_inner hg]
      simp only [Option.isSome_none, Bool.false_eq_true, if_false]
      have hk2 := step_key hp h0 h1 m (by omega)
      simp only [enc, S45.mk.injEq] at hk2
      rw [hk2.1, hk2.2]
      exact ih k (p ++ [bitc x m]) out (by omega) hn (by omega) (by omega)
theorem decode_l1 (p0 : List Int) (hil : p0.length ≤ 3000) (hb : ∀ x ∈ p0, 0 ≤ x ∧ x < 256) : ∀ (n k i : Nat) (p : List UInt8) (out : List Int), i + n = p0.length → inner p → out.length ≤ 8 * i → 10 * n + 1 ≤ k → huffman_Decode.l1 k out (vb p) p.length i p0 KN = some (fin (dec p (bitsL (p0.drop i)) out)) := by
  intro n
  induction n with
  | zero =>
    intro k i p out hi hp ho hk
    obtain ⟨k, rfl⟩ : ∃ k', k = k' + 1 := ⟨k - 1, by omega⟩
    rw [huffman_Decode.l1, if_neg (by omega), List.drop_eq_nil_of_le (by omega)]
    show _ = some (if p.length > 7 then ([], 3) else if vb p = 2 ^ p.length - 1 then (toS out, 0) else ([], 3))
    by_cases h7 : p.length > 7
    · rw [if_pos (by omega), if_pos h7]
    · rw [if_neg (by omega), if_neg h7, if_pos (by omega)]
      have hpw : (2 : Int) ^ p.length ≤ 2 ^ 7 := pow_le (by omega)
      have hp0 := pow_pos' p.length
      have e7 : (2 : Int) ^ 7 = 128 := by decide
      have e1 : shlI .u32 1 (p.length : Int) = 2 ^ p.length := by
        rw [shlI_eq .u32 rfl (by rw [Int.toNat_natCast]; show p.length ≤ 32; omega) (by omega) (by rw [Int.toNat_natCast, Int.one_mul]; show (2 : Int) ^ p.length < 2 ^ 32; omega), Int.toNat_natCast, Int.one_mul]
      rw [e1, wu32 (by omega) (by omega)]
      by_cases hv : vb p = 2 ^ p.length - 1
      · rw [if_pos hv, if_pos hv]
      · rw [if_neg hv, if_neg hv]
  | succ n ih =>
    intro k i p out hi hp ho hk
    obtain ⟨k, rfl⟩ : ∃ k', k = k' + 1 := ⟨k - 1, by omega⟩
    have hlt : i < p0.length := by omega
    have hx : gt (0 : Int) p0 (i : Int) = p0[i] := gt_nat 0 p0 i hlt
    have hb2 := hb _ (List.getElem_mem hlt)
    have := decode_l2 p0 i hlt hil p0[i] hx hb2.1 hb2.2 (10 * n + 1) (fun k p out hp ho hk => ih k (i + 1) p out (by omega) hp ho hk) 8 k p out (by omega) hp (by omega) (by omega)
    rw [huffman_Decode.l1, if_pos (by omega), if_pos (by omega), List.drop_eq_getElem_cons hlt, bitsL_cons]
    simpa using this
theorem decode_f (p0 : List Int) (hil : p0.length ≤ 3000) (hb : ∀ x ∈ p0, 0 ≤ x ∧ x < 256) (k : Nat) (hk : 40000 ≤ k) : huffman_Decode.f k p0 = some (fin (dec [] (bitsL p0) [])) := by
  unfold huffman_Decode.f
  rw [codes_at k (by omega)]
  simp only [bnd1]
  have h1 : ∀ k, 10 * p0.length + 1 ≤ k → huffman_Decode.l1 k [] 0 0 0 p0 KN = some (fin (dec [] (bitsL p0) [])) := by
    intro k hk
    have := decode_l1 p0 hil hb p0.length k 0 [] [] (by omega) inner_nil (by simp) hk
    simpa [vb_nil] using this
  have := decode_l0 p0 _ _ h1 257 k 0 (by omega) (by omega)
  simpa using this
end Go.Proofs.YtedfgicbignbmaaDoor.Sl
