/- Chapter 03, plain: the document's Encode, and the last three laws. -/
import Derived.Test.YtedfgicbignbmaaDoorPureG
set_option linter.unusedVariables false
set_option linter.unusedSimpArgs false
namespace Go.Proofs.YtedfgicbignbmaaDoor.Sl
open Go Go.Proofs.Sl

theorem flat_bd : ∀ t : List UInt8, (flat t).length ≤ 30 * t.length
  | [] => by simp [flat]
  | c :: t => by
    rw [flat_cons, List.length_append, List.length_cons]
    have := (tx_c c).2.2
    have := flat_bd t
    omega
theorem byte_step (n c : Int) (hn : 0 ≤ n) (hn2 : n < 128) (hc : c = 48 ∨ c = 49) : IntKind.u8.wrap (IntKind.u8.wrap (IntKind.u8.wrap (2 * n) + c) - 48) = 2 * n + (c - 48) := by
  rw [wrap_u8, wrap_u8, wrap_u8]
  omega
theorem bytes_l2 (x : List UInt8) (hx : x.all isB = true) (hl : x.length ≤ 400000) (out : List Int) (ho : out.length ≤ 100000) (i : Nat) (hi : i + 8 ≤ x.length) (F : Nat) (R : Option (List Int)) (hl1 : ∀ k, F ≤ k → louverref03qbytes.l1 k (out ++ [vb ((x.drop i).take 8)]) ((i + 8 : Nat) : Int) x = R) :
    ∀ (m k j : Nat), j + m = 8 → F + m + 1 ≤ k → louverref03qbytes.l2 k (vb ((x.drop i).take j)) ((i + j : Nat) : Int) x out i = R := by
  intro m
  induction m with
  | zero =>
    intro k j hj hk
    obtain ⟨k, rfl⟩ : ∃ k', k = k' + 1 := ⟨k - 1, by omega⟩
    have hj8 : j = 8 := by omega
    subst hj8
    have e : IntKind.i64.wrap ((i : Int) + 8) = ((i + 8 : Nat) : Int) := by rw [wi64 (by omega) (by omega)]; omega
    rw [louverref03qbytes.l2, e, if_neg (by omega), if_pos (by omega)]
    simp only [lt1]
    exact hl1 k (by omega)
  | succ m ih =>
    intro k j hj hk
    obtain ⟨k, rfl⟩ : ∃ k', k = k' + 1 := ⟨k - 1, by omega⟩
    have e : IntKind.i64.wrap ((i : Int) + 8) = ((i + 8 : Nat) : Int) := by rw [wi64 (by omega) (by omega)]; omega
    have hlt : i + j < x.length := by omega
    have eb : btI x ((i + j : Nat) : Int) = ((x[i + j]).toNat : Int) := by simp only [btI, Int.toNat_natCast]; simp [List.getD_eq_getElem?_getD, hlt]
    have hbb := isB_dg (List.all_eq_true.1 hx _ (List.getElem_mem hlt))
    have hta := take_all (drop_all hx i) j
    have hv := vb_bd _ hta
    have hpw : (2 : Int) ^ ((x.drop i).take j).length ≤ 2 ^ 7 := pow_le (by rw [List.length_take]; omega)
    have e7 : (2 : Int) ^ 7 = 128 := by decide
    have hc : ((x[i + j]).toNat : Int) = 48 ∨ ((x[i + j]).toNat : Int) = 49 := by
      rcases hbb with ⟨h, _⟩ | ⟨h, _⟩ <;> rw [h]
      · exact .inl rfl
      · exact .inr rfl
    have e2 : (x.drop i).take (j + 1) = (x.drop i).take j ++ [x[i + j]] := by
      rw [List.take_succ_eq_append_getElem (by rw [List.length_drop]; omega), List.getElem_drop]
    rw [louverref03qbytes.l2, e, if_pos (by omega), if_pos (by omega), if_pos (by omega), eb, byte_step _ _ hv.1 (by omega) hc, wi64 (by omega) (by omega)]
    have e3 : 2 * vb ((x.drop i).take j) + (((x[i + j]).toNat : Int) - 48) = vb ((x.drop i).take (j + 1)) := by
      rw [e2, vb_snoc]
      rfl
    have e4 : ((i + j : Nat) : Int) + 1 = ((i + (j + 1) : Nat) : Int) := by omega
    rw [e3, e4]
    exact ih k (j + 1) (by omega) (by omega)
theorem bytes_l1 (x : List UInt8) (hx : x.all isB = true) (hl : x.length ≤ 400000) (h8 : x.length % 8 = 0) : ∀ (n k i : Nat) (out : List Int), i + 8 * n = x.length → 8 * out.length = i → bitsL out = x.take i → (∀ y ∈ out, 0 ≤ y ∧ y < 256) → 20 * n + 1 ≤ k →
    ∃ res, louverref03qbytes.l1 k out i x = some res ∧ bitsL res = x ∧ ∀ y ∈ res, 0 ≤ y ∧ y < 256 := by
  intro n
  induction n with
  | zero =>
    intro k i out hi ho hb hr hk
    obtain ⟨k, rfl⟩ : ∃ k', k = k' + 1 := ⟨k - 1, by omega⟩
    rw [louverref03qbytes.l1, if_neg (by omega)]
    exact ⟨_, rfl, by rw [hb, List.take_of_length_le (by omega)], hr⟩
  | succ n ih =>
    intro k i out hi ho hb hr hk
    obtain ⟨k, rfl⟩ : ∃ k', k = k' + 1 := ⟨k - 1, by omega⟩
    have hta := take_all (drop_all hx i) 8
    have htl : ((x.drop i).take 8).length = 8 := by rw [List.length_take, List.length_drop]; omega
    have hv := vb_bd _ hta
    rw [htl] at hv
    have hv2 : vb ((x.drop i).take 8) < 256 := by simpa using hv.2
    have e8 : bitsL (out ++ [vb ((x.drop i).take 8)]) = x.take (i + 8) := by
      rw [bitsL_app, bitsL_one, b8qvb _ hta htl, hb, List.take_add]
    obtain ⟨res, h1, h2, h3⟩ := ih (20 * n + 1) (i + 8) (out ++ [vb ((x.drop i).take 8)]) (by omega) (by simp; omega) e8 (by
      intro y hy
      rcases List.mem_append.1 hy with h | h
      · exact hr y h
      · rw [List.mem_singleton.1 h]; exact ⟨hv.1, hv2⟩) (by omega)
    refine ⟨res, ?_, h2, h3⟩
    rw [louverref03qbytes.l1, if_pos (by omega)]
    have hany : ∀ k, 20 * n + 1 ≤ k → louverref03qbytes.l1 k (out ++ [vb ((x.drop i).take 8)]) ((i + 8 : Nat) : Int) x = some res := by
      intro k hk
      obtain ⟨res', a1, a2, a3⟩ := ih k (i + 8) (out ++ [vb ((x.drop i).take 8)]) (by omega) (by simp; omega) e8 (by
        intro y hy
        rcases List.mem_append.1 hy with h | h
        · exact hr y h
        · rw [List.mem_singleton.1 h]; exact ⟨hv.1, hv2⟩) hk
      have : res' = res := bitsL_inj res' res a3 h3 (by rw [a2, h2])
      rw [← this]
      exact a1
    have := bytes_l2 x hx hl out (by omega) i (by omega) (20 * n + 1) (some res) hany 8 k 0 (by omega) (by omega)
    simpa [vb_nil] using this
theorem bytes_l0 (hF : True) : ∀ (m k : Nat) (x : List UInt8), x.all isB = true → x.length ≤ 300000 → pad x.length = m → m + 1000000 ≤ k → ∃ res, louverref03qbytes.l0 k x = some res ∧ bitsL res = x ++ ones m ∧ ∀ y ∈ res, 0 ≤ y ∧ y < 256 := by
  intro m
  induction m with
  | zero =>
    intro k x hx hl hp hk
    obtain ⟨k, rfl⟩ : ∃ k', k = k' + 1 := ⟨k - 1, by omega⟩
    have h8 : x.length % 8 = 0 := by unfold pad at hp; omega
    have et : Int.tmod (x.length : Int) 8 = 0 := by rw [Int.tmod_eq_emod_of_nonneg (by omega)]; omega
    rw [louverref03qbytes.l0, if_pos et]
    have := bytes_l1 x hx (by omega) h8 (x.length / 8) k 0 [] (by omega) (by simp) (by simp [bitsL]) (by simp) (by omega)
    simpa [ones] using this
  | succ m ih =>
    intro k x hx hl hp hk
    obtain ⟨k, rfl⟩ : ∃ k', k = k' + 1 := ⟨k - 1, by omega⟩
    have et : ¬ (Int.tmod (x.length : Int) 8 = 0) := by rw [Int.tmod_eq_emod_of_nonneg (by omega)]; unfold pad at hp; omega
    have hp2 : pad (x ++ [49]).length = m := by rw [List.length_append, List.length_singleton]; unfold pad at hp ⊢; omega
    obtain ⟨res, h1, h2, h3⟩ := ih k (x ++ [49]) (by rw [List.all_append, hx]; rfl) (by
      rw [List.length_append, List.length_singleton]
      unfold pad at hp
      by_cases h : x.length = 300000
      · rw [h] at hp; omega
      · omega) hp2 (by omega)
    rw [louverref03qbytes.l0, if_neg et, if_pos (by simp; omega)]
    refine ⟨res, h1, ?_, h3⟩
    rw [h2, List.append_assoc]
    rfl
theorem rencode_l0 (s : List UInt8) (hs : s.length < 10000) : ∀ (n k i : Nat), i + n = s.length → n + 2000000 ≤ k → ∃ res, louverref03qEncode.l0 k (flat (s.take i)) i s TEXTS = some res ∧ Eout s res := by
  intro n
  induction n with
  | zero =>
    intro k i hi hk
    obtain ⟨k, rfl⟩ : ∃ k', k = k' + 1 := ⟨k - 1, by omega⟩
    have hfl := flat_bd s
    rw [louverref03qEncode.l0, if_neg (by omega), List.take_of_length_le (by omega)]
    obtain ⟨res, h1, h2, h3⟩ := bytes_l0 trivial (pad (flat s).length) k (flat s) (flat_all s) (by omega) rfl (by unfold pad; omega)
    unfold louverref03qbytes.f
    rw [h1]
    exact ⟨res, rfl, h2, h3⟩
  | succ n ih =>
    intro k i hi hk
    obtain ⟨k, rfl⟩ : ∃ k', k = k' + 1 := ⟨k - 1, by omega⟩
    have hlt : i < s.length := by omega
    have eb : btI s (i : Int) = ((s[i]).toNat : Int) := by simp [btI, List.getD_eq_getElem?_getD, hlt]
    have hu := (s[i]).toNat_lt
    have hfl := flat_bd (s.take i)
    rw [List.length_take] at hfl
    have ht := tx_c s[i]
    have e2 : flat (s.take i) ++ tx (s[i]).toNat = flat (s.take (i + 1)) := by
      rw [List.take_succ_eq_append_getElem hlt, flat_app]
      congr 1
      simp [flat]
    rw [louverref03qEncode.l0, if_pos (by omega), if_pos (by omega), eb, if_pos (by omega), if_pos (by rw [TEXTS_len]; omega), txg, if_pos (by omega), e2, wi64 (by omega) (by omega), show (i : Int) + 1 = ((i + 1 : Nat) : Int) by omega]
    exact ih k (i + 1) (by omega) (by omega)
theorem rencode_f (s : List UInt8) (hs : s.length < 10000) (k : Nat) (hk : 3000000 ≤ k) : ∃ res, louverref03qEncode.f k s = some res ∧ Eout s res := by
  unfold louverref03qEncode.f
  rw [texts_at k (by omega)]
  simp only [bnd1]
  have := rencode_l0 s hs s.length k 0 (by omega) (by omega)
  simpa [flat] using this
/-! what is read of what was written -/
def sg (s : List UInt8) : List Int := s.map fun c => (c.toNat : Int)
theorem toS_sg (s : List UInt8) : toS (sg s) = s := by
  unfold toS sg
  rw [List.map_map]
  conv => rhs; rw [← List.map_id s]
  refine List.map_congr_left fun c _ => ?_
  simp
theorem ones_split (n m : Nat) : ones (n + m) = ones n ++ ones m := by simp [ones, List.replicate_append_replicate]
theorem ones_no (n : Nat) (h : n < 8) (q : List UInt8) (hq : ∃ t, ones n = q ++ t) : ∀ i, i < 257 → ¬ at_ q i := by
  intro i hi hat
  have all_o : ((List.range 257).all fun i => !((ones 8).take (tx i).length == tx i && Nat.blt (tx i).length 8)) = true := by kernel_rfl
  have := List.all_eq_true.1 all_o i (by simpa using hi)
  obtain ⟨t, ht⟩ := hq
  unfold at_ at hat
  have hl : (tx i).length ≤ q.length := by
    have := congrArg List.length hat
    rw [List.length_take] at this
    omega
  have hql : q.length + t.length = n := by
    have := congrArg List.length ht
    rw [ones_len, List.length_append] at this
    omega
  have h1 : (ones 8).take (tx i).length = tx i := by
    have e : ones 8 = q ++ (t ++ ones (8 - n)) := by
      rw [← List.append_assoc, ← ht, ← ones_split, show n + (8 - n) = 8 by omega]
    have e3 : (q ++ (t ++ ones (8 - n))).take (tx i).length = q.take (tx i).length := List.take_append_of_le_length hl
    rw [e, e3]
    exact hat
  have h2 : Nat.blt (tx i).length 8 = true := by
    simp [Nat.blt, Nat.succ_le_iff]
    omega
  rw [h1, h2] at this
  simp at this
theorem dec_cut (n : Nat) (h : n < 8) : ∀ (s : List UInt8) (out : List Int) (q : List UInt8), (∃ t, flat s ++ ones n = q ++ t) → ∃ j p, j ≤ s.length ∧ dec [] q out = some (out ++ sg (s.take j), p) ∧ flat (s.take j) ++ p = q ∧ (q = flat s ++ ones n → j = s.length ∧ p = ones n)
  | [], out, q, ⟨t, ht⟩ => by
    have hq : ∃ t, ones n = q ++ t := ⟨t, by simpa [flat] using ht⟩
    have hqb : q.all isB = true := by
      have := ones_all n
      rw [hq.choose_spec, List.all_append, Bool.and_eq_true] at this
      exact this.1
    refine ⟨0, q, by simp, ?_, by simp [flat], fun e => ⟨rfl, by simpa [flat] using e⟩⟩
    rw [dec_none q (ones_no n h q hq) hqb]
    simp [sg]
  | c :: s, out, q, ⟨t, ht⟩ => by
    have hcu := c.toNat_lt
    rw [flat_cons, List.append_assoc] at ht
    have htb := tx_c c
    by_cases hl : (tx c.toNat).length ≤ q.length
    · obtain ⟨q', rfl⟩ : ∃ q', q = tx c.toNat ++ q' := by
        refine ⟨q.drop (tx c.toNat).length, ?_⟩
        have := congrArg (List.take (tx c.toNat).length) ht
        rw [List.take_left', List.take_append_of_le_length hl] at this
        · conv => lhs; rw [← List.take_append_drop (tx c.toNat).length q]
          rw [← this]
        · rfl
      rw [List.append_assoc] at ht
      have ht2 := List.append_cancel_left ht
      obtain ⟨j, p, h1, h2, h3, h4⟩ := dec_cut n h s (out ++ [(c.toNat : Int)]) q' ⟨t, ht2⟩
      refine ⟨j + 1, p, by simp; omega, ?_, ?_, ?_⟩
      · rw [dec_code c.toNat (by omega), if_neg (by omega), h2]
        simp [sg]
      · rw [List.take_succ_cons, flat_cons, List.append_assoc, h3]
      · intro e
        rw [flat_cons, List.append_assoc] at e
        obtain ⟨a, b⟩ := h4 (List.append_cancel_left e)
        exact ⟨by simp [a], b⟩
    · refine ⟨0, q, by simp, ?_, by simp [flat], ?_⟩
      · have hqb : q.all isB = true := by
          have : (tx c.toNat ++ (flat s ++ ones n)).all isB = true := by rw [List.all_append, htb.1, List.all_append, flat_all, ones_all]; rfl
          rw [ht, List.all_append, Bool.and_eq_true] at this
          exact this.1
        have hq : q = (tx c.toNat).take q.length := by
          have x1 : (tx c.toNat ++ (flat s ++ ones n)).take q.length = (tx c.toNat).take q.length := List.take_append_of_le_length (by omega)
          have x2 : (q ++ t).take q.length = q := List.take_left' rfl
          rw [← x1, ht, x2]
        have hno : ∀ i, i < 257 → ¬ at_ q i := by
          intro i hi hat
          unfold at_ at hat
          have hil : (tx i).length ≤ q.length := by
            have := congrArg List.length hat
            rw [List.length_take] at this
            omega
          have h1 : at_ (tx c.toNat) i := by
            unfold at_
            rw [hq, List.take_take, Nat.min_eq_left hil] at hat
            exact hat
          have h2 : at_ (tx c.toNat) c.toNat := by unfold at_; rw [List.take_length]
          have := at_one hi (by omega) h1 h2
          subst this
          omega
        rw [dec_none q hno hqb]
        simp [sg]
      · intro e
        rw [flat_cons, List.append_assoc] at e
        have := congrArg List.length e
        rw [List.length_append] at this
        omega
/-- What was read, written again. -/
theorem dec_inv : ∀ (q p : List UInt8) (out res : List Int) (p' : List UInt8), inner p → dec p q out = some (res, p') → q.all isB = true → ∃ s : List UInt8, res = out ++ sg s ∧ p ++ q = flat s ++ p' ∧ p'.all isB = true
  | [], p, out, res, p', hp, h, _ => by
    simp only [dec, Option.some.injEq, Prod.mk.injEq] at h
    obtain ⟨rfl, rfl⟩ := h
    exact ⟨[], by simp [sg], by simp [flat], hp.1⟩
  | c :: q, p, out, res, p', hp, h, hb => by
    rw [List.all_cons, Bool.and_eq_true] at hb
    rw [dec] at h
    rcases inner_next hp hb.1 with ⟨i, hi, e⟩ | hn
    · rw [e, ti_tx i hi] at h
      simp only at h
      by_cases h256 : (i : Int) = 256
      · rw [if_pos h256] at h
        cases h
      · rw [if_neg h256] at h
        obtain ⟨s, h1, h2, h3⟩ := dec_inv q [] _ res p' inner_nil h hb.2
        have hu : (UInt8.ofNat i).toNat = i := by rw [UInt8.toNat_ofNat']; omega
        refine ⟨UInt8.ofNat i :: s, ?_, ?_, h3⟩
        · rw [h1]
          simp [sg, hu]
        · rw [flat_cons, hu, ← e, List.append_assoc, ← h2]
          simp
    · obtain ⟨_, l, r, hg⟩ := id hn
      rw [ti_inner hg] at h
      simp only at h
      obtain ⟨s, h1, h2, h3⟩ := dec_inv q (p ++ [c]) out res p' hn h hb.2
      exact ⟨s, h1, by rw [← h2]; simp, h3⟩
theorem pad_lt (n : Nat) : pad n < 8 := by unfold pad; omega
/-! the laws -/
theorem louverlaw03qHuffmanEncodes_true (p0 : List UInt8) (h0 : okS p0) : ∃ k, louverlaw03qHuffmanEncodes.f k p0 = some true := by
  obtain ⟨K, hK⟩ : ∃ K : Nat, K = 5000000 := ⟨_, rfl⟩
  refine ⟨K, ?_⟩
  unfold louverlaw03qHuffmanEncodes.f
  rw [fixed_true K (by omega)]
  by_cases hl : (p0.length : Int) > 600
  · rw [if_pos hl]
    rfl
  rw [if_neg hl]
  obtain ⟨b, e1, hb⟩ := encode_f p0 (by omega) K (by omega)
  obtain ⟨b', e2, hb'⟩ := rencode_f p0 (by omega) K (by omega)
  have ebb : b = b' := bitsL_inj b b' hb.ok hb'.ok (by rw [hb.bits, hb'.bits])
  subst ebb
  have hfl := flat_bd p0
  have hbl : 8 * b.length = (flat p0).length + pad (flat p0).length := by
    have := congrArg List.length hb.bits
    rw [bitsL_len, List.length_append, ones_len] at this
    exact this
  have hpl := pad_lt (flat p0).length
  obtain ⟨j, p, h1, h2, h3, h4⟩ := dec_cut (pad (flat p0).length) hpl p0 [] (bitsL b) ⟨[], by rw [hb.bits]; simp⟩
  obtain ⟨rfl, rfl⟩ := h4 hb.bits
  rw [List.take_length, List.nil_append] at h2
  have efin : fin (dec [] (bitsL b) []) = (p0, 0) := by
    rw [h2]
    show (if (ones (pad (flat p0).length)).length > 7 then _ else if vb (ones (pad (flat p0).length)) = 2 ^ (ones (pad (flat p0).length)).length - 1 then (toS (sg p0), 0) else _) = _
    rw [ones_len, if_neg (by omega), vb_ones, if_pos rfl, toS_sg]
  rw [e1, e2, size_f p0 (by omega) K (by omega)]
  simp only [bnd1]
  rw [decode_f b (by omega) hb.ok K (by omega), efin]
  simp only [bnd2, if_true]
  have hsz : (bits p0 + 7) / 8 = (b.length : Int) := by
    rw [← flat_len]
    unfold pad at hbl hpl
    omega
  rw [if_pos hsz]
  simp
theorem louverlaw03qHuffmanDecodes_true (p0 : List Int) (h0 : okL 1 (okI .u8) p0) : ∃ k, louverlaw03qHuffmanDecodes.f k p0 = some true := by
  obtain ⟨K, hK⟩ : ∃ K : Nat, K = 5000000 := ⟨_, rfl⟩
  refine ⟨K, ?_⟩
  have hx : ∀ x ∈ p0, 0 ≤ x ∧ x < 256 := fun x hx => by
    have := h0.2 x hx
    rwa [okI_u8] at this
  unfold louverlaw03qHuffmanDecodes.f
  rw [fixed_true K (by omega)]
  by_cases hl : (p0.length : Int) > 300
  · rw [if_pos hl]
    rfl
  rw [if_neg hl, decode_f p0 (by omega) hx K (by omega), rdecode_f p0 (by omega) hx K (by omega)]
  cases hd : dec [] (bitsL p0) [] with
  | none => simp [fin, bnd1, bnd2]
  | some w =>
    obtain ⟨out, p⟩ := w
    obtain ⟨s, a1, a2, a3⟩ := dec_inv (bitsL p0) [] [] out p inner_nil hd (bitsL_all p0)
    rw [List.nil_append] at a1 a2
    subst a1
    by_cases h7 : p.length > 7
    · have : fin (some (sg s, p)) = ([], 3) := if_pos h7
      rw [this]
      simp [bnd1, bnd2]
    · by_cases hv : vb p = 2 ^ p.length - 1
      · have : fin (some (sg s, p)) = (s, 0) := by
          show (if p.length > 7 then _ else if vb p = 2 ^ p.length - 1 then (toS (sg s), 0) else _) = _
          rw [if_neg h7, if_pos hv, toS_sg]
        rw [this]
        have hlen : (flat s).length + p.length = 8 * p0.length := by
          have := congrArg List.length a2
          rw [bitsL_len, List.length_append] at this
          omega
        have hsl : s.length < 10000 := by
          have := bits_bd s
          have := flat_len s
          omega
        obtain ⟨b, e1, hb⟩ := encode_f s hsl K (by omega)
        have hp := (ones_iff p a3).1 hv
        have hpp : pad (flat s).length = p.length := by unfold pad; omega
        have : b = p0 := bitsL_inj b p0 hb.ok hx (by rw [hb.bits, hpp, ← hp, a2])
        subst this
        simp [bnd1, bnd2, e1]
      · have : fin (some (sg s, p)) = ([], 3) := by
          show (if p.length > 7 then _ else if vb p = 2 ^ p.length - 1 then _ else _) = _
          rw [if_neg h7, if_neg hv]
        rw [this]
        simp [bnd1, bnd2]
theorem bitsL_take : ∀ (l : List Int) (n : Nat), bitsL (l.take n) = (bitsL l).take (8 * n)
  | [], n => by simp [bitsL]
  | x :: l, 0 => by simp [bitsL]
  | x :: l, n + 1 => by
    rw [List.take_succ_cons, bitsL_cons, bitsL_cons, bitsL_take l n, List.take_append, b8qlen, List.take_of_length_le (l := b8 x) (by rw [b8qlen]; omega)]
    congr 2
theorem louverlaw03qHuffmanCuts_true (p0 : List UInt8) (p1 : Int) (h0 : okS p0) (h1 : okI .u16 p1) : ∃ k, louverlaw03qHuffmanCuts.f k p0 p1 = some true := by
  rw [okI_u16] at h1
  obtain ⟨K, hK⟩ : ∃ K : Nat, K = 5000000 := ⟨_, rfl⟩
  refine ⟨K, ?_⟩
  unfold louverlaw03qHuffmanCuts.f
  rw [fixed_true K (by omega)]
  by_cases hl : (p0.length : Int) > 600
  · rw [if_pos hl]
    rfl
  rw [if_neg hl]
  obtain ⟨b, e1, hb⟩ := encode_f p0 (by omega) K (by omega)
  have hfl := flat_bd p0
  have hbl : 8 * b.length = (flat p0).length + pad (flat p0).length := by
    have := congrArg List.length hb.bits
    rw [bitsL_len, List.length_append, ones_len] at this
    exact this
  have hpl := pad_lt (flat p0).length
  have ew : IntKind.i64.wrap ((b.length : Int) + 1) = (b.length : Int) + 1 := wi64 (by omega) (by omega)
  have ew2 : IntKind.i64.wrap p1 = p1 := wi64 (by omega) (by omega)
  have em : Int.tmod p1 ((b.length : Int) + 1) = p1 % ((b.length : Int) + 1) := Int.tmod_eq_emod_of_nonneg h1.1
  have m0 : 0 ≤ p1 % ((b.length : Int) + 1) := Int.emod_nonneg _ (by omega)
  have m1 : p1 % ((b.length : Int) + 1) < (b.length : Int) + 1 := Int.emod_lt_of_pos _ (by omega)
  rw [e1]
  simp only [bnd1]
  rw [ew, ew2, em, if_pos (by omega), if_pos m0, if_pos (by omega)]
  obtain ⟨n, hn⟩ : ∃ n : Nat, p1 % ((b.length : Int) + 1) = (n : Int) := ⟨(p1 % ((b.length : Int) + 1)).toNat, by omega⟩
  rw [hn, Int.toNat_natCast, decode_f (b.take n) (by rw [List.length_take]; omega) (fun x hx => hb.ok x (List.mem_of_mem_take hx)) K (by omega), bitsL_take]
  obtain ⟨j, p, a1, a2, a3, _⟩ := dec_cut (pad (flat p0).length) hpl p0 [] ((bitsL b).take (8 * n)) ⟨(bitsL b).drop (8 * n), by rw [List.take_append_drop, hb.bits]⟩
  rw [List.nil_append] at a2
  rw [a2]
  have hfin : fin (some (sg (p0.take j), p)) = ([], 3) ∨ fin (some (sg (p0.take j), p)) = (p0.take j, 0) := by
    show (if p.length > 7 then _ else if vb p = 2 ^ p.length - 1 then (toS (sg (p0.take j)), 0) else _) = _ ∨ (if p.length > 7 then _ else if vb p = 2 ^ p.length - 1 then (toS (sg (p0.take j)), 0) else _) = _
    rw [toS_sg]
    by_cases h7 : p.length > 7
    · left
      rw [if_pos h7]
    · by_cases hv : vb p = 2 ^ p.length - 1
      · right
        rw [if_neg h7, if_pos hv]
      · left
        rw [if_neg h7, if_neg hv]
  rcases hfin with h | h
  · rw [h]
    simp [bnd2]
  · rw [h]
    simp only [bnd2, if_true]
    rw [if_neg (by omega), if_pos (by rw [List.length_take]; omega), if_pos (by omega), Int.toNat_natCast, List.length_take, Nat.min_eq_left a1]
    simp
end Go.Proofs.YtedfgicbignbmaaDoor.Sl
