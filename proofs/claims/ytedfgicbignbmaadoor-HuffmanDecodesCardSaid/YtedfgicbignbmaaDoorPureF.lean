/- Chapter 03, plain: what Encode does. -/
import Derived.Test.YtedfgicbignbmaaDoorPureE
set_option linter.unusedVariables false
set_option linter.unusedSimpArgs false
namespace Go.Proofs.YtedfgicbignbmaaDoor.Sl
open Go Go.Proofs.Sl

def flat (s : List UInt8) : List UInt8 := s.flatMap fun c => tx c.toNat
def pad (n : Nat) : Nat := (8 - n % 8) % 8
theorem flat_cons (c : UInt8) (s : List UInt8) : flat (c :: s) = tx c.toNat ++ flat s := by simp [flat]
theorem flat_app (a b : List UInt8) : flat (a ++ b) = flat a ++ flat b := by simp [flat]
theorem tx_c (c : UInt8) : (tx c.toNat).all isB = true ∧ 5 ≤ (tx c.toNat).length ∧ (tx c.toNat).length ≤ 30 := tx_bits c.toNat (by have := c.toNat_lt; omega)
theorem flat_all : ∀ s : List UInt8, (flat s).all isB = true
  | [] => rfl
  | c :: s => by rw [flat_cons, List.all_append, (tx_c c).1, flat_all s]; rfl
theorem cd_c (c : UInt8) : gt z45 CODES ((c.toNat : Nat) : Int) = enc (tx c.toNat) := cd_at c.toNat (by have := c.toNat_lt; omega)
structure Eout (s : List UInt8) (res : List Int) : Prop where
  bits : bitsL res = flat s ++ ones (pad (flat s).length)
  ok : ∀ x ∈ res, 0 ≤ x ∧ x < 256
theorem vb_split (r : List UInt8) (h : r.all isB = true) (hl : 8 ≤ r.length) : vb r = 2 ^ (r.length - 8) * vb (r.take 8) + vb (r.drop 8) ∧ 0 ≤ vb (r.drop 8) ∧ vb (r.drop 8) < 2 ^ (r.length - 8) ∧ 0 ≤ vb (r.take 8) ∧ vb (r.take 8) < 256 := by
  have ht : (r.take 8).all isB = true := by
    rw [List.all_eq_true] at h ⊢
    exact fun c hc => h c (List.mem_of_mem_take hc)
  have hd : (r.drop 8).all isB = true := by
    rw [List.all_eq_true] at h ⊢
    exact fun c hc => h c (List.mem_of_mem_drop hc)
  have h1 := vb_bd _ ht
  have h2 := vb_bd _ hd
  have e1 : (r.take 8).length = 8 := by simp; omega
  rw [e1] at h1
  rw [List.length_drop] at h2
  refine ⟨?_, h2.1, h2.2, h1.1, by simpa using h1.2⟩
  have := vb_app (r.take 8) (r.drop 8)
  rw [List.take_append_drop, List.length_drop] at this
  exact this
theorem take_all {r : List UInt8} (h : r.all isB = true) (n : Nat) : (r.take n).all isB = true := by
  rw [List.all_eq_true] at h ⊢
  exact fun c hc => h c (List.mem_of_mem_take hc)
theorem drop_all {r : List UInt8} (h : r.all isB = true) (n : Nat) : (r.drop n).all isB = true := by
  rw [List.all_eq_true] at h ⊢
  exact fun c hc => h c (List.mem_of_mem_drop hc)
theorem bitsL_one (x : Int) : bitsL [x] = b8 x := by simp [bitsL]
theorem encode_l1 (s : List UInt8) (i F : Nat) (hi : i < 10000) (A : List UInt8) (hl0 : ∀ (k : Nat) (out : List Int) (r : List UInt8), r.all isB = true → r.length < 8 → bitsL out ++ r = A → (∀ x ∈ out, 0 ≤ x ∧ x < 256) → F ≤ k → ∃ res, huffman_Encode.l0 k out (vb r) r.length ((i + 1 : Nat) : Int) s CODES = some res ∧ Eout s res) (hA : A.length ≤ 400000) :
    ∀ (m k : Nat) (out : List Int) (r : List UInt8), r.all isB = true → r.length < 8 * (m + 1) → r.length ≤ 37 → bitsL out ++ r = A → (∀ x ∈ out, 0 ≤ x ∧ x < 256) → F + m + 1 ≤ k → ∃ res, huffman_Encode.l1 k out (vb r) r.length s CODES (i : Int) = some res ∧ Eout s res := by
  have e3 : IntKind.i64.wrap ((i : Int) + 1) = ((i + 1 : Nat) : Int) := by rw [wi64 (by omega) (by omega)]; omega
  intro m
  induction m with
  | zero =>
    intro k out r hr h1 h37 h2 hx hk
    obtain ⟨k, rfl⟩ : ∃ k', k = k' + 1 := ⟨k - 1, by omega⟩
    rw [huffman_Encode.l1, if_neg (by omega), e3]
    exact hl0 k out r hr (by omega) h2 hx (by omega)
  | succ m ih =>
    intro k out r hr h1 h37 h2 hx hk
    obtain ⟨k, rfl⟩ : ∃ k', k = k' + 1 := ⟨k - 1, by omega⟩
    rw [huffman_Encode.l1]
    by_cases hb : (r.length : Int) ≥ 8
    · rw [if_pos hb]
      obtain ⟨hv, v0, v1, w0, w1⟩ := vb_split r hr (by omega)
      have hpow := pow_pos' (r.length - 8)
      have hpw : (2 : Int) ^ (r.length - 8) ≤ 2 ^ 29 := pow_le (by omega)
      have e0 : (2 : Int) ^ 29 = 536870912 := by decide
      have e1 : IntKind.i64.wrap ((r.length : Int) - 8) = ((r.length - 8 : Nat) : Int) := by rw [wi64 (by omega) (by omega)]; omega
      have hprod : 2 ^ (r.length - 8) * vb (r.take 8) ≤ 2 ^ (r.length - 8) * 255 := Int.mul_le_mul_of_nonneg_left (by omega) (by omega)
      have hprod0 : 0 ≤ 2 ^ (r.length - 8) * vb (r.take 8) := Int.mul_nonneg (by omega) w0
      have e2 : shrI .u64 (vb r) ((r.length - 8 : Nat) : Int) = vb (r.take 8) := by
        rw [shrI_eq .u64 (by rw [Int.toNat_natCast]; show r.length - 8 ≤ 64; omega), Int.toNat_natCast, hv, Int.add_comm, Int.add_mul_ediv_left _ _ (by omega), Int.ediv_eq_zero_of_lt v0 v1]
        omega
      have e4 : shlI .u64 1 ((r.length - 8 : Nat) : Int) = 2 ^ (r.length - 8) := by
        rw [shlI_eq .u64 rfl (by rw [Int.toNat_natCast]; show r.length - 8 ≤ 64; omega) (by omega) (by rw [Int.toNat_natCast, Int.one_mul]; show (2 : Int) ^ (r.length - 8) < 2 ^ 64; omega), Int.toNat_natCast, Int.one_mul]
      have e5 : bAnd .u64 (vb r) (IntKind.u64.wrap (2 ^ (r.length - 8) - 1)) = vb (r.drop 8) := by
        rw [wu64 (by omega) (by omega), bAnd_mask .u64 rfl (r.length - 8) (by show r.length - 8 ≤ 64; omega) (by omega) (by show vb r < 2 ^ 64; omega), hv, Int.add_comm, Int.add_mul_emod_self_left, Int.emod_eq_of_lt v0 v1]
      have hol : bitsL out ++ r = A := h2
      have hlen : 8 * out.length + r.length ≤ 400000 := by
        have := congrArg List.length h2
        rw [List.length_append, bitsL_len] at this
        omega
      rw [e1, if_pos (by omega), if_pos (by omega), e2, e4, e5, wu8 w0 w1]
      simp only [lt1]
      have e6 : ((r.length - 8 : Nat) : Int) = ((r.drop 8).length : Int) := by simp
      rw [e6]
      have hb8 := b8qvb (r.take 8) (take_all hr 8) (by simp; omega)
      refine ih k _ (r.drop 8) (drop_all hr 8) (by simp; omega) (by simp; omega) ?_ ?_ (by omega)
      · rw [bitsL_app, bitsL_one, hb8, List.append_assoc, List.take_append_drop]
        exact h2
      · intro x hx2
        rcases List.mem_append.1 hx2 with h | h
        · exact hx x h
        · rw [List.mem_singleton.1 h]
          exact ⟨w0, w1⟩
    · rw [if_neg hb, e3]
      exact hl0 k out r hr (by omega) h2 hx (by omega)
theorem encode_l0 (s : List UInt8) (hs : s.length < 10000) : ∀ (n k i : Nat) (out : List Int) (r : List UInt8), i + n = s.length → r.all isB = true → r.length < 8 → bitsL out ++ r = flat (s.take i) → (∀ x ∈ out, 0 ≤ x ∧ x < 256) → 6 * n + 1 ≤ k →
    ∃ res, huffman_Encode.l0 k out (vb r) r.length (i : Int) s CODES = some res ∧ Eout s res := by
  have fl : ∀ t : List UInt8, (flat t).length ≤ 30 * t.length := by
    intro t
    induction t with
    | nil => simp [flat]
    | cons c t ih =>
      rw [flat_cons, List.length_append, List.length_cons]
      have := (tx_c c).2.2
      omega
  intro n
  induction n with
  | zero =>
    intro k i out r hi hr h8 hA hx hk
    obtain ⟨k, rfl⟩ : ∃ k', k = k' + 1 := ⟨k - 1, by omega⟩
    rw [List.take_of_length_le (by omega)] at hA
    have hlen : 8 * out.length + r.length = (flat s).length := by
      have := congrArg List.length hA
      rw [List.length_append, bitsL_len] at this
      exact this
    have hfl := fl s
    rw [huffman_Encode.l0, if_neg (by omega)]
    by_cases hb : (r.length : Int) > 0
    · have e1 : IntKind.i64.wrap (8 - (r.length : Int)) = ((8 - r.length : Nat) : Int) := by rw [wi64 (by omega) (by omega)]; omega
      have hv := vb_bd r hr
      have hpw : (2 : Int) ^ r.length ≤ 2 ^ 7 := pow_le (by omega)
      have hpl : (2 : Int) ^ (8 - r.length) ≤ 2 ^ 7 := pow_le (by omega)
      have hp0 := pow_pos' (8 - r.length)
      have e7 : (2 : Int) ^ 7 = 128 := by decide
      have hvo := vb_app r (ones (8 - r.length))
      rw [ones_len, vb_ones] at hvo
      have hro : (r ++ ones (8 - r.length)).all isB = true := by rw [List.all_append, hr, ones_all]; rfl
      have hrl : (r ++ ones (8 - r.length)).length = 8 := by rw [List.length_append, ones_len]; omega
      have hvb := vb_bd _ hro
      rw [hrl] at hvb
      have hvb2 : vb (r ++ ones (8 - r.length)) < 256 := by simpa using hvb.2
      have e4 : shlI .u64 1 ((8 - r.length : Nat) : Int) = 2 ^ (8 - r.length) := by
        rw [shlI_eq .u64 rfl (by rw [Int.toNat_natCast]; show 8 - r.length ≤ 64; omega) (by omega) (by rw [Int.toNat_natCast, Int.one_mul]; show (2 : Int) ^ (8 - r.length) < 2 ^ 64; omega), Int.toNat_natCast, Int.one_mul]
      have hmul : vb r * 2 ^ (8 - r.length) ≤ 128 * 128 := by
        have a1 : vb r * 2 ^ (8 - r.length) ≤ vb r * 128 := Int.mul_le_mul_of_nonneg_left (by omega) hv.1
        omega
      have e5 : shlI .u64 (vb r) ((8 - r.length : Nat) : Int) = 2 ^ (8 - r.length) * vb r := by
        rw [shlI_eq .u64 rfl (by rw [Int.toNat_natCast]; show 8 - r.length ≤ 64; omega) hv.1 (by rw [Int.toNat_natCast]; show vb r * (2 : Int) ^ (8 - r.length) < 2 ^ 64; omega), Int.toNat_natCast, Int.mul_comm]
      have e6 : bOr .u64 (2 ^ (8 - r.length) * vb r) (IntKind.u64.wrap (2 ^ (8 - r.length) - 1)) = vb (r ++ ones (8 - r.length)) := by
        rw [wu64 (by omega) (by omega), hvo]
        exact bOr_add .u64 rfl (8 - r.length) hv.1 (by omega) (by omega) (by show 2 ^ (8 - r.length) * vb r + (2 ^ (8 - r.length) - 1) < (2 : Int) ^ 64; omega)
      rw [if_pos hb, e1, if_pos (by omega), if_pos (by omega), e4, e5, e6, wu8 hvb.1 hvb2]
      refine ⟨_, rfl, ?_, ?_⟩
      · have ep : pad (flat s).length = 8 - r.length := by unfold pad; omega
        rw [bitsL_app, bitsL_one, b8qvb _ hro hrl, ep, ← hA, List.append_assoc]
      · intro x hx2
        rcases List.mem_append.1 hx2 with h | h
        · exact hx x h
        · rw [List.mem_singleton.1 h]
          exact ⟨hvb.1, hvb2⟩
    · rw [if_neg hb]
      have hr0 : r = [] := List.eq_nil_of_length_eq_zero (by omega)
      subst hr0
      refine ⟨_, rfl, ?_, hx⟩
      have ep : pad (flat s).length = 0 := by simp only [List.length_nil] at hlen; unfold pad; omega
      rw [ep, ← hA]
      simp [ones]
  | succ n ih =>
    intro k i out r hi hr h8 hA hx hk
    obtain ⟨k, rfl⟩ : ∃ k', k = k' + 1 := ⟨k - 1, by omega⟩
    have hlt : i < s.length := by omega
    have eb : btI s (i : Int) = ((s[i]).toNat : Int) := by simp [btI, List.getD_eq_getElem?_getD, hlt]
    have hu := (s[i]).toNat_lt
    obtain ⟨t1, t2, t3⟩ := tx_c s[i]
    have hv := vb_bd r hr
    have ht := vb_bd _ t1
    have hpw : (2 : Int) ^ r.length ≤ 2 ^ 7 := pow_le (by omega)
    have e7 : (2 : Int) ^ 7 = 128 := by decide
    have hpt : (2 : Int) ^ (tx (s[i]).toNat).length ≤ 2 ^ 30 := pow_le t3
    have hp0 := pow_pos' (tx (s[i]).toNat).length
    have e30 : (2 : Int) ^ 30 = 1073741824 := by decide
    have hvo := vb_app r (tx (s[i]).toNat)
    have f0 : (gt z45 CODES ((s[i]).toNat : Int)).f0 = vb (tx (s[i]).toNat) := by rw [cd_c]; rfl
    have f1 : (gt z45 CODES ((s[i]).toNat : Int)).f1 = ((tx (s[i]).toNat).length : Int) := by rw [cd_c]; rfl
    have hmul : vb r * 2 ^ (tx (s[i]).toNat).length ≤ 128 * 1073741824 := by
      have a1 : vb r * 2 ^ (tx (s[i]).toNat).length ≤ vb r * 1073741824 := Int.mul_le_mul_of_nonneg_left (by omega) hv.1
      omega
    have e5 : shlI .u64 (vb r) ((tx (s[i]).toNat).length : Int) = 2 ^ (tx (s[i]).toNat).length * vb r := by
      rw [shlI_eq .u64 rfl (by rw [Int.toNat_natCast]; show (tx (s[i]).toNat).length ≤ 64; omega) hv.1 (by rw [Int.toNat_natCast]; show vb r * (2 : Int) ^ (tx (s[i]).toNat).length < 2 ^ 64; omega), Int.toNat_natCast, Int.mul_comm]
    have e6 : bOr .u64 (2 ^ (tx (s[i]).toNat).length * vb r) (IntKind.u64.wrap (vb (tx (s[i]).toNat))) = vb (r ++ tx (s[i]).toNat) := by
      rw [wu64 ht.1 (by omega), hvo]
      exact bOr_add .u64 rfl _ hv.1 ht.1 ht.2 (by
        have : 2 ^ (tx (s[i]).toNat).length * vb r = vb r * 2 ^ (tx (s[i]).toNat).length := Int.mul_comm _ _
        show 2 ^ (tx (s[i]).toNat).length * vb r + vb (tx (s[i]).toNat) < (2 : Int) ^ 64
        omega)
    have hfl := fl (s.take (i + 1))
    have hA2 : bitsL out ++ (r ++ tx (s[i]).toNat) = flat (s.take (i + 1)) := by
      rw [List.take_succ_eq_append_getElem hlt, flat_app, ← hA, List.append_assoc]
      congr 1
      simp [flat]
    rw [huffman_Encode.l0, if_pos (by omega), if_pos (by omega), eb, if_pos (by omega), if_pos (by omega), f0, f1, if_pos (by omega), e5, e6, wi64 (x := ((tx (s[i]).toNat).length : Int)) (by omega) (by omega), wi64 (by omega) (by omega)]
    have e9 : (r.length : Int) + ((tx (s[i]).toNat).length : Int) = ((r ++ tx (s[i]).toNat).length : Int) := by rw [List.length_append]; omega
    rw [e9]
    refine encode_l1 s i (6 * n + 1) (by omega) (flat (s.take (i + 1))) (fun k out r a b c d e => ih k (i + 1) out r (by omega) a b c d e) (by simp at hfl; omega) 4 k out _ (by rw [List.all_append, hr, t1]; rfl) (by rw [List.length_append]; omega) (by rw [List.length_append]; omega) hA2 hx (by omega)
theorem flat_len : ∀ s : List UInt8, ((flat s).length : Int) = bits s := by
  have all_sz : ((List.range 256).all fun i => decide (((tx i).length : Int) = gt (0 : Int) G0 (i : Int))) = true := by kernel_rfl
  intro s
  induction s with
  | nil => rfl
  | cons c s ih =>
    rw [flat_cons, List.length_append, bits]
    have := List.all_eq_true.1 all_sz c.toNat (by simpa using c.toNat_lt)
    have e : ((tx c.toNat).length : Int) = szc c := of_decide_eq_true this
    omega
theorem encode_f (s : List UInt8) (hs : s.length < 10000) (k : Nat) (hk : 70000 ≤ k) : ∃ res, huffman_Encode.f k s = some res ∧ Eout s res := by
  unfold huffman_Encode.f
  rw [codes_at k (by omega), size_f s (by omega) k (by omega)]
  have := bits_bd s
  simp only [bnd1, lt1]
  rw [if_pos (by omega), if_pos (by omega)]
  exact encode_l0 s hs s.length k 0 [] [] (by omega) rfl (by simp) (by simp [flat, bitsL]) (by simp) (by omega)
end Go.Proofs.YtedfgicbignbmaaDoor.Sl
