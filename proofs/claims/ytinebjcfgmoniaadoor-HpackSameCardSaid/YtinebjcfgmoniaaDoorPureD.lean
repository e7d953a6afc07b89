/- Chapter 06, plain: HpackNil, HpackSame. -/
import Derived.Test.YtinebjcfgmoniaaDoorPureC
set_option linter.unusedVariables false
set_option linter.unusedSimpArgs false
namespace Go.Proofs.YtinebjcfgmoniaaDoor.Sl
open Go Go.Proofs.Sl

theorem fixed_f (k : Nat) : louverlaw06qfixed.f (k + 300) = some true := by kernel_rfl
theorem fixed_true (k : Nat) (hk : 300 ≤ k) : louverlaw06qfixed.f k = some true := by
  obtain ⟨k, rfl⟩ : ∃ k', k = k' + 300 := ⟨k - 300, by omega⟩
  exact fixed_f k
theorem louverlaw06qHpackNil_true (p0 : List Int) (p1 : List S52) (h0 : okL 1 (okI .u8) p0) (h1 : okL 40 okF p1) : ∃ k, louverlaw06qHpackNil.f k p0 p1 = some true := by
  have hl : p1.length ≤ 4398046511104 := by have := h1.1; omega
  obtain ⟨K, hK⟩ : ∃ K : Nat, K = p1.length + 1000 := ⟨_, rfl⟩
  refine ⟨K, ?_⟩
  obtain ⟨r, hr⟩ := great_f p1 (by omega) K (by omega)
  unfold louverlaw06qHpackNil.f
  rw [hr, fixed_true K (by omega)]
  simp only [bnd1]
  by_cases hc : r = true
  · rw [if_pos hc]
  · rw [if_neg hc]
    by_cases hb : (p0.length : Int) > 600
    · rw [if_pos hb]
    · rw [if_neg hb]
      simp [bnd1, bnd2, hpack_Encoder_Limit_nil.f, hpack_Decoder_Get_nil.f, hpack_Encoder_Put_nil.f, hpack_Encoder_Table_nil.f, hpack_Decoder_Table_nil.f]
/-! what isn't great -/
def gsum : List S52 → Int
  | [] => 0
  | f :: l => 1 + f.f0.length + f.f1.length + gsum l
def nsum : List S52 → Int
  | [] => 0
  | f :: l => f.f0.length + f.f1.length + 10 + nsum l
theorem nsum_bd : ∀ l, 0 ≤ nsum l ∧ nsum l ≤ 10 * gsum l ∧ (l.length : Int) ≤ gsum l
  | [] => by simp [nsum, gsum]
  | f :: l => by
    have := nsum_bd l
    simp only [nsum, gsum, List.length_cons]
    omega
theorem great_small_l0 (l : List S52) (hl : l.length < 4611686018427387904) : ∀ (m k i : Nat) (n : Int), i + m = l.length → 0 ≤ n → n ≤ 9000 → louverref05qGreat.l0 k n i l = some false → (∀ f ∈ l.drop i, small f) ∧ n + gsum (l.drop i) ≤ 9000 := by
  intro m
  induction m with
  | zero =>
    intro k i n hi h0 h1 hg
    rw [List.drop_eq_nil_of_le (by omega)]
    exact ⟨by simp, by simp only [gsum]; omega⟩
  | succ m ih =>
    intro k i n hi h0 h1 hg
    cases k with
    | zero => simp [louverref05qGreat.l0] at hg
    | succ k =>
      rw [louverref05qGreat.l0, if_pos (by omega), if_pos (by omega), mn_eq, mn_eq] at hg
      rw [drop_at' z52 l i (by omega)]
      revert hg
      generalize gt z52 l (i : Int) = g
      intro hg
      have e : IntKind.i64.wrap (n + IntKind.i64.wrap (IntKind.i64.wrap (1 + min (g.f0.length : Int) 9000) + min (g.f1.length : Int) 9000)) = n + (1 + min (g.f0.length : Int) 9000 + min (g.f1.length : Int) 9000) := by
        rw [wi64 (x := 1 + min (g.f0.length : Int) 9000) (by omega) (by omega), wi64 (x := 1 + min (g.f0.length : Int) 9000 + min (g.f1.length : Int) 9000) (by omega) (by omega), wi64 (by omega) (by omega)]
      rw [e] at hg
      by_cases hc : n + (1 + min (g.f0.length : Int) 9000 + min (g.f1.length : Int) 9000) > 9000
      · rw [if_pos hc] at hg
        cases hg
      · rw [if_neg hc, wi64 (by omega) (by omega), show (i : Int) + 1 = ((i + 1 : Nat) : Int) by omega] at hg
        obtain ⟨a, b⟩ := ih k (i + 1) _ (by omega) (by omega) (by omega) hg
        refine ⟨fun f hf => ?_, ?_⟩
        · rcases List.mem_cons.1 hf with rfl | hf
          · exact ⟨by omega, by omega⟩
          · exact a f hf
        · simp only [gsum]
          omega
theorem great_small (l : List S52) (hl : l.length < 4611686018427387904) (k : Nat) (h : louverref05qGreat.f k l = some false) : (∀ f ∈ l, small f) ∧ gsum l ≤ 9000 := by
  obtain ⟨a, b⟩ := great_small_l0 l hl l.length k 0 0 (by omega) (by omega) (by omega) h
  simp only [List.drop_zero] at a b
  exact ⟨a, by omega⟩
/-! found numbers -/
theorem fnd_bd (name value : List UInt8) : ∀ (l : List S52) (first i : Int), 0 ≤ first → 0 ≤ i → 0 ≤ (fnd name value l first i).1 ∧ ((fnd name value l first i).1 ≤ first ∨ (fnd name value l first i).1 ≤ i + l.length)
  | [], first, i, h, h2 => by simp [fnd]; omega
  | x :: l, first, i, h, h2 => by
    simp only [fnd, List.length_cons]
    by_cases h1 : x.f0 = name
    · rw [if_pos h1]
      by_cases h3 : x.f1 = value
      · rw [if_pos h3]
        dsimp only
        omega
      · rw [if_neg h3]
        by_cases h4 : first = 0
        · rw [if_pos h4]
          have := fnd_bd name value l (i + 1) (i + 1) (by omega) (by omega)
          omega
        · rw [if_neg h4]
          have := fnd_bd name value l first (i + 1) h (by omega)
          omega
    · rw [if_neg h1]
      have := fnd_bd name value l first (i + 1) h (by omega)
      omega
theorem fdl_bd (name value : List UInt8) : ∀ (l : List S52) (first i : Int), 0 ≤ first → 0 ≤ i → 0 ≤ (fdl name value l first i).1 ∧ ((fdl name value l first i).1 ≤ first ∨ (fdl name value l first i).1 ≤ 62 + i + l.length)
  | [], first, i, h, h2 => by simp [fdl]; omega
  | x :: l, first, i, h, h2 => by
    simp only [fdl, List.length_cons]
    by_cases h1 : x.f0 = name
    · rw [if_pos h1]
      by_cases h3 : x.f1 = value
      · rw [if_pos h3]
        dsimp only
        omega
      · rw [if_neg h3]
        by_cases h4 : first = 0
        · rw [if_pos h4]
          have := fdl_bd name value l (62 + i) (i + 1) (by omega) (by omega)
          omega
        · rw [if_neg h4]
          have := fdl_bd name value l first (i + 1) h (by omega)
          omega
    · rw [if_neg h1]
      have := fdl_bd name value l first (i + 1) h (by omega)
      omega
theorem find_bd (t : S79) (name value : List UInt8) (hl : t.f0.length ≤ 134217728) (k : Nat) (hk : 134217728 < k) : ∃ n b, dyntable_Table_Find.f k t name value = some (n, b) ∧ 0 ≤ n ∧ n ≤ 62 + t.f0.length := by
  have h1 := fnd_bd name value G0 0 0 (by omega) (by omega)
  rw [G0qlen] at h1
  have h0 := tfind_f t name value hl k hk
  by_cases hc : (fnd name value G0 0 0).2 = true
  · rw [if_pos hc] at h0
    exact ⟨_, _, h0, by omega, by omega⟩
  · rw [if_neg hc] at h0
    have h2 := fdl_bd name value t.f0.reverse (fnd name value G0 0 0).1 0 h1.1 (by omega)
    simp only [List.length_reverse] at h2
    exact ⟨(fdl name value t.f0.reverse (fnd name value G0 0 0).1 0).1, (fdl name value t.f0.reverse (fnd name value G0 0 0).1 0).2, h0, h2.1, by omega⟩
/-! the encoder -/
structure Eok (p : S61) : Prop where
  t : Tok p.f0
  m : p.f0.f2 ≤ 4096
  l : 0 ≤ p.f2 ∧ p.f2 ≤ 4096
  n : 0 ≤ p.f3 ∧ p.f3 ≤ 4096
theorem Eok.len {p : S61} (h : Eok p) : p.f0.f0.length ≤ 128 := by
  have := tsz_lo p.f0.f0
  have := h.t.sz
  have := h.t.le
  have := h.m
  omega
theorem field_f (p : S61) (b : List Int) (f : S52) (h : Eok p) (hf : small f) (hb : b.length ≤ 700000) (k : Nat) (hk : 134300000 ≤ k) : ∃ y p', hpack_Encoder_field.f k p b f = some (y, p') ∧ Eok p' ∧ (y.length : Int) ≤ b.length + f.f0.length + f.f1.length + 10 := by
  have hlen := h.len
  have hmo := h.t.mo
  obtain ⟨n, is, e1, n0, n1⟩ := find_bd p.f0 f.f0 f.f1 (by omega) k (by omega)
  have hokf : okF f := ⟨by have := hf.1; unfold okS; omega, by have := hf.2; unfold okS; omega, trivial⟩
  unfold hpack_Encoder_field.f
  rw [e1]
  simp only [bnd2, eta]
  by_cases hn : f.f2 = true
  · rw [if_pos hn]
    obtain ⟨y, hy, hl⟩ := literal_f b 4 16 n f (by omega) n0 (by omega) hf (by omega) k (by omega)
    rw [hy]
    exact ⟨_, _, rfl, h, by omega⟩
  · rw [if_neg hn]
    by_cases hi : is = true
    · rw [if_pos hi, wu32 (by omega) (by omega)]
      obtain ⟨y, hy, hl, _⟩ := put_f b 7 128 n (by omega) n0 (by omega) (by omega) k (by omega)
      rw [hy]
      exact ⟨_, _, rfl, h, by omega⟩
    · rw [if_neg hi, add_f p.f0 f h.t hokf k (by omega)]
      obtain ⟨y, hy, hl⟩ := literal_f b 6 64 n f (by omega) n0 (by omega) hf (by omega) k (by omega)
      simp only [bnd1]
      rw [hy]
      exact ⟨_, _, rfl, ⟨tb_ok (addL_le _ _ hmo.1) hmo, h.m, h.l, h.n⟩, by omega⟩
theorem put_l2 (l : List S52) (hl : l.length ≤ 9000) (hs : ∀ f ∈ l, small f) : ∀ (m k i : Nat) (p : S61) (b : List Int), i + m = l.length → Eok p → (b.length : Int) + nsum (l.drop i) ≤ 700000 → m + 134300000 < k → ∃ y p', hpack_Encoder_Put.l2 k p b i l = some (y, p') ∧ Eok p' ∧ (y.length : Int) ≤ b.length + nsum (l.drop i) := by
  intro m
  induction m with
  | zero =>
    intro k i p b hi hp hb hk
    obtain ⟨k, rfl⟩ : ∃ k', k = k' + 1 := ⟨k - 1, by omega⟩
    rw [hpack_Encoder_Put.l2, if_neg (by omega), List.drop_eq_nil_of_le (by omega)]
    exact ⟨_, _, rfl, hp, by simp [nsum]⟩
  | succ m ih =>
    intro k i p b hi hp hb hk
    obtain ⟨k, rfl⟩ : ∃ k', k = k' + 1 := ⟨k - 1, by omega⟩
    have hd := drop_at' z52 l i (by omega)
    have hsm : small (gt z52 l (i : Int)) := hs _ (by rw [gt_nat z52 l i (by omega)]; exact List.getElem_mem _)
    rw [hd] at hb ⊢
    simp only [nsum] at hb ⊢
    have h9 := nsum_bd (l.drop (i + 1))
    obtain ⟨y, p', e, hp', hy⟩ := field_f p b (gt z52 l (i : Int)) hp hsm (by omega) k (by omega)
    obtain ⟨y2, p2, e2, hp2, hy2⟩ := ih k (i + 1) p' y (by omega) hp' (by omega) (by omega)
    rw [hpack_Encoder_Put.l2, if_pos (by omega), if_pos (by omega), eta, e]
    simp only [bnd2]
    rw [wi64 (by omega) (by omega), show (i : Int) + 1 = ((i + 1 : Nat) : Int) by omega]
    exact ⟨y2, p2, e2, hp2, by omega⟩
theorem eput_f (p : S61) (l : List S52) (hl : l.length ≤ 9000) (hs : ∀ f ∈ l, small f) (hn : nsum l ≤ 600000) (h : Eok p) (k : Nat) (hk : l.length + 134300010 < k) : ∃ y p', hpack_Encoder_Put.f k p l = some (y, p') ∧ Eok p' ∧ (y.length : Int) ≤ 6 + nsum l := by
  have base : ∀ (k : Nat) (b : List Int), (b.length : Int) ≤ 6 → l.length + 134300000 < k → ∃ y p', hpack_Encoder_Put.l2 k (⟨p.f0, true, p.f2, p.f3⟩ : S61) b 0 l = some (y, p') ∧ Eok p' ∧ (y.length : Int) ≤ 6 + nsum l := by
    intro k b hb hk
    obtain ⟨y, p', e, hp', hy⟩ := put_l2 l hl hs l.length k 0 (⟨p.f0, true, p.f2, p.f3⟩ : S61) b (by omega) ⟨h.t, h.m, h.l, h.n⟩ (by simp only [List.drop_zero]; omega) (by omega)
    simp only [List.drop_zero] at hy
    exact ⟨y, p', e, hp', by omega⟩
  have hpl := h.l
  have hpn := h.n
  have j1 : ∀ (k : Nat) (b : List Int), (b.length : Int) ≤ 6 → l.length + 134300001 < k → ∃ y p', hpack_Encoder_Put.j1 k b p l = some (y, p') ∧ Eok p' ∧ (y.length : Int) ≤ 6 + nsum l := by
    intro k b hb hk
    obtain ⟨k, rfl⟩ : ∃ k', k = k' + 1 := ⟨k - 1, by omega⟩
    rw [hpack_Encoder_Put.j1]
    exact base k b hb (by omega)
  have j0 : ∀ (k : Nat) (b : List Int), (b.length : Int) ≤ 3 → l.length + 134300002 < k → ∃ y p', hpack_Encoder_Put.j0 k b p l = some (y, p') ∧ Eok p' ∧ (y.length : Int) ≤ 6 + nsum l := by
    intro k b hb hk
    obtain ⟨k, rfl⟩ : ∃ k', k = k' + 1 := ⟨k - 1, by omega⟩
    rw [hpack_Encoder_Put.j0]
    by_cases ht : p.f1 = true
    · rw [if_pos ht]
      exact j1 k b (by omega) (by omega)
    · rw [if_neg ht]
      obtain ⟨y, hy, hl2, _⟩ := put_f b 5 32 p.f3 (by omega) hpn.1 (by omega) (by omega) k (by omega)
      rw [hy]
      exact j1 k y (by omega) (by omega)
  unfold hpack_Encoder_Put.f
  by_cases ht : p.f1 = true
  · rw [if_pos ht]
    exact base k [] (by simp) (by omega)
  · rw [if_neg ht]
    by_cases hm : p.f2 < p.f3
    · rw [if_pos hm]
      obtain ⟨y, hy, hl2, _⟩ := put_f [] 5 32 p.f2 (by omega) hpl.1 (by omega) (by simp) k (by omega)
      rw [hy]
      exact j0 k y (by simp only [List.length_nil] at hl2; omega) (by omega)
    · rw [if_neg hm]
      exact j0 k [] (by simp) (by omega)
theorem lgreat_l0 (p : List (List S52)) (hp : p.length < 4611686018427387904) (hin : ∀ l ∈ p, l.length < 1000000000000000) : ∀ (m k i : Nat) (n : Int), i + m = p.length → 0 ≤ n → n ≤ 100 → 1000000000000000 + m < k →
    ∃ r, louverlaw06qgreat.l0 k n i p = some r ∧ (r = false → n + m ≤ 100 ∧ ∀ l ∈ p.drop i, (∀ f ∈ l, small f) ∧ gsum l ≤ 9000) := by
  intro m
  induction m with
  | zero =>
    intro k i n hi h0 h1 hk
    obtain ⟨k, rfl⟩ : ∃ k', k = k' + 1 := ⟨k - 1, by omega⟩
    rw [louverlaw06qgreat.l0, if_neg (by omega), List.drop_eq_nil_of_le (by omega)]
    exact ⟨_, rfl, fun _ => ⟨by omega, by simp⟩⟩
  | succ m ih =>
    intro k i n hi h0 h1 hk
    obtain ⟨k, rfl⟩ : ∃ k', k = k' + 1 := ⟨k - 1, by omega⟩
    have hm : gt [] p (i : Int) ∈ p := by rw [gt_nat [] p i (by omega)]; exact List.getElem_mem _
    have hlx := hin _ hm
    rw [louverlaw06qgreat.l0, if_pos (by omega), if_pos (by omega), drop_at' [] p i (by omega)]
    revert hlx
    generalize gt [] p (i : Int) = l
    intro hlx
    have e : IntKind.i64.wrap (n + IntKind.i64.wrap ((l.length : Int) + 1)) = n + l.length + 1 := by
      rw [wi64 (x := (l.length : Int) + 1) (by omega) (by omega), wi64 (by omega) (by omega)]
      omega
    rw [e]
    by_cases hc : n + (l.length : Int) + 1 > 100
    · rw [if_pos hc]
      exact ⟨_, rfl, fun h => by cases h⟩
    · obtain ⟨r, hr⟩ := great_f l (by omega) k (by omega)
      rw [if_neg hc, hr]
      simp only [bnd1]
      cases r with
      | true =>
        rw [if_pos rfl]
        exact ⟨_, rfl, fun h => by cases h⟩
      | false =>
        rw [if_neg (by simp), wi64 (by omega) (by omega), show (i : Int) + 1 = ((i + 1 : Nat) : Int) by omega]
        obtain ⟨r2, e2, h2⟩ := ih k (i + 1) (n + (l.length : Int) + 1) (by omega) (by omega) (by omega) (by omega)
        refine ⟨r2, e2, fun h => ?_⟩
        obtain ⟨a, b⟩ := h2 h
        refine ⟨by omega, fun x hx => ?_⟩
        rcases List.mem_cons.1 hx with rfl | hx
        · exact great_small _ (by omega) k hr
        · exact b x hx
theorem same_l1 (p1 : List (List S52)) (i : Nat) (hi : i < 1000) (y : List Int) (p' : S61) (hl : (gt [] p1 (i : Int)).length ≤ 9000) (hn : nsum (gt [] p1 (i : Int)) ≤ 600000) (hy : (y.length : Int) ≤ 6 + nsum (gt [] p1 (i : Int))) (K : Nat) (ih : ∀ k, K ≤ k → louverlaw06qHpackSame.l0 k p' p' ((i + 1 : Nat) : Int) p1 = some true) :
    ∀ (m k j : Nat) (n : Int), j + m = (gt [] p1 (i : Int)).length → n + nsum ((gt [] p1 (i : Int)).drop j) = 10 + nsum (gt [] p1 (i : Int)) → 0 ≤ n → K + m + 1 ≤ k → louverlaw06qHpackSame.l1 k n j p1 y p' y p' i = some true := by
  revert hl hn hy
  generalize hg : gt [] p1 (i : Int) = l
  intro hl hn hy m
  induction m with
  | zero =>
    intro k j n hj hs h0 hk
    obtain ⟨k, rfl⟩ : ∃ k', k = k' + 1 := ⟨k - 1, by omega⟩
    rw [List.drop_eq_nil_of_le (by omega)] at hs
    simp only [nsum] at hs
    rw [louverlaw06qHpackSame.l1, hg, if_neg (by omega), if_pos rfl, if_neg (by omega)]
    simp only [lt1]
    rw [wi64 (by omega) (by omega), show (i : Int) + 1 = ((i + 1 : Nat) : Int) by omega]
    exact ih k (by omega)
  | succ m ihm =>
    intro k j n hj hs h0 hk
    obtain ⟨k, rfl⟩ : ∃ k', k = k' + 1 := ⟨k - 1, by omega⟩
    rw [drop_at' z52 l j (by omega)] at hs
    simp only [nsum] at hs
    have h9 := nsum_bd (l.drop (j + 1))
    rw [louverlaw06qHpackSame.l1, hg, if_pos (by omega), if_pos (by omega)]
    revert hs
    generalize gt z52 l (j : Int) = f
    intro hs
    have e : IntKind.i64.wrap (n + IntKind.i64.wrap (IntKind.i64.wrap ((f.f0.length : Int) + f.f1.length) + 10)) = n + (f.f0.length + f.f1.length + 10) := by
      rw [wi64 (x := (f.f0.length : Int) + f.f1.length) (by omega) (by omega), wi64 (x := (f.f0.length : Int) + f.f1.length + 10) (by omega) (by omega), wi64 (by omega) (by omega)]
    rw [e, wi64 (by omega) (by omega), show (j : Int) + 1 = ((j + 1 : Nat) : Int) by omega]
    exact ihm k (j + 1) _ (by omega) (by omega) (by omega) (by omega)
theorem same_l0 (p1 : List (List S52)) (hp : p1.length ≤ 100) (hs : ∀ l ∈ p1, (∀ f ∈ l, small f) ∧ gsum l ≤ 9000) : ∀ (m k i : Nat) (p : S61), i + m = p1.length → Eok p → 10000 * m + 134400000 ≤ k → louverlaw06qHpackSame.l0 k p p i p1 = some true := by
  intro m
  induction m with
  | zero =>
    intro k i p hi h hk
    obtain ⟨k, rfl⟩ : ∃ k', k = k' + 1 := ⟨k - 1, by omega⟩
    rw [louverlaw06qHpackSame.l0, if_neg (by omega), fixed_true k (by omega)]
    rfl
  | succ m ih =>
    intro k i p hi h hk
    obtain ⟨k, rfl⟩ : ∃ k', k = k' + 1 := ⟨k - 1, by omega⟩
    have hm : gt [] p1 (i : Int) ∈ p1 := by rw [gt_nat [] p1 i (by omega)]; exact List.getElem_mem _
    obtain ⟨hsm, hg⟩ := hs _ hm
    have hb := nsum_bd (gt [] p1 (i : Int))
    obtain ⟨y, p', e, hp', hy⟩ := eput_f p (gt [] p1 (i : Int)) (by omega) hsm (by omega) h k (by omega)
    rw [louverlaw06qHpackSame.l0, if_pos (by omega), if_pos (by omega), e]
    simp only [bnd2]
    exact same_l1 p1 i (by omega) y p' (by omega) (by omega) hy (10000 * m + 134400000) (fun k hk => ih k (i + 1) p' (by omega) hp' hk) (gt [] p1 (i : Int)).length k 0 10 (by omega) (by simp) (by omega) (by omega)
theorem louverlaw06qHpackSame_true (p0 : Int) (p1 : List (List S52)) (h0 : okI .u32 p0) (h1 : okL 24 (okL 40 okF) p1) : ∃ k, louverlaw06qHpackSame.f k p0 p1 = some true := by
  rw [okI_u32] at h0
  have hl : p1.length ≤ 5864062014804 := by have := h1.1; omega
  have hin : ∀ l ∈ p1, l.length < 1000000000000000 := fun l hl => by have := (h1.2 l hl).1; omega
  obtain ⟨K, hK⟩ : ∃ K : Nat, K = p1.length + 2000000000000000 := ⟨_, rfl⟩
  refine ⟨K, ?_⟩
  obtain ⟨r, hr, hr2⟩ := lgreat_l0 p1 (by omega) hin p1.length K 0 0 (by omega) (by omega) (by omega) (by omega)
  have hr' : louverlaw06qgreat.f K p1 = some r := hr
  have hnew : hpack_NewEncoder.f p0 = some (⟨tb [] (min p0 4096), true, 0, min p0 4096⟩ : S61) := by
    unfold hpack_NewEncoder.f dyntable_New.f
    rw [mn_eq, wi64 (by omega) (by omega)]
    rfl
  unfold louverlaw06qHpackSame.f
  rw [hr', hnew, fixed_true K (by omega)]
  simp only [bnd1]
  cases r with
  | true => rw [if_pos rfl]
  | false =>
    rw [if_neg (by simp)]
    obtain ⟨a, b⟩ := hr2 rfl
    simp only [List.drop_zero] at b
    refine same_l0 p1 (by omega) b p1.length K 0 _ (by omega) ⟨tb_ok (by simp only [tsz]; omega) (by omega), ?_, ?_, ?_⟩ (by omega)
    · show min p0 4096 ≤ 4096
      omega
    · dsimp only
      omega
    · dsimp only
      omega
end Go.Proofs.YtinebjcfgmoniaaDoor.Sl
