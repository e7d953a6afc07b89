/- Chapter 03, plain: bits. -/
import Derived.Test.YtedfgicbignbmaaDoorPureC
import Derived.Test.YtedfgicbignbmaaDoorCode3
set_option linter.unusedVariables false
set_option linter.unusedSimpArgs false
namespace Go.Proofs.YtedfgicbignbmaaDoor.Sl
open Go Go.Proofs.Sl

/-! bits, as signs 0 and 1 -/
theorem snoc_ind {α : Type} {P : List α → Prop} (h0 : P []) (h1 : ∀ l c, P l → P (l ++ [c])) (l : List α) : P l := by
  have : ∀ n (l : List α), l.length = n → P l := by
    intro n
    induction n with
    | zero => intro l hl; rw [List.eq_nil_of_length_eq_zero hl]; exact h0
    | succ n ih =>
      intro l hl
      have hne : l ≠ [] := by intro h; rw [h] at hl; simp at hl
      rw [← List.dropLast_concat_getLast hne]
      exact h1 _ _ (ih _ (by simp [hl]))
  exact this _ l rfl
def isB (c : UInt8) : Bool := c == 48 || c == 49
def dg (c : UInt8) : Int := (c.toNat : Int) - 48
def vb (l : List UInt8) : Int := l.foldl (fun m c => 2 * m + dg c) 0
theorem isB_dg {c : UInt8} (h : isB c = true) : (c = 48 ∧ dg c = 0) ∨ (c = 49 ∧ dg c = 1) := by
  simp only [isB, Bool.or_eq_true, beq_iff_eq] at h
  rcases h with rfl | rfl
  · exact .inl ⟨rfl, rfl⟩
  · exact .inr ⟨rfl, rfl⟩
theorem vb_nil : vb [] = 0 := rfl
theorem vb_snoc (l : List UInt8) (c : UInt8) : vb (l ++ [c]) = 2 * vb l + dg c := by simp [vb, List.foldl_append]
theorem vb_app (a : List UInt8) : ∀ b : List UInt8, vb (a ++ b) = 2 ^ b.length * vb a + vb b := by
  refine snoc_ind (by simp [vb_nil]) fun b c ih => ?_
  rw [← List.append_assoc, vb_snoc, ih, vb_snoc, List.length_append, List.length_singleton, Int.pow_succ]
  have e : (2 : Int) ^ b.length * 2 * vb a = 2 * (2 ^ b.length * vb a) := by
    rw [Int.mul_comm ((2 : Int) ^ b.length) 2, Int.mul_assoc]
  omega
theorem pow_pos' (n : Nat) : (0 : Int) < 2 ^ n := Int.pow_pos (by decide)
theorem vb_bd : ∀ l : List UInt8, l.all isB = true → 0 ≤ vb l ∧ vb l < 2 ^ l.length := by
  refine snoc_ind (fun _ => ⟨Int.le_refl 0, by decide⟩) fun l c ih h => ?_
  rw [List.all_append, Bool.and_eq_true] at h
  have h1 := ih h.1
  have h2 := isB_dg (c := c) (by simpa using h.2)
  rw [vb_snoc, List.length_append, List.length_singleton, Int.pow_succ]
  omega
theorem vb_inj : ∀ a b : List UInt8, a.all isB = true → b.all isB = true → a.length = b.length → vb a = vb b → a = b := by
  refine snoc_ind (fun b _ _ hl _ => (List.eq_nil_of_length_eq_zero (by simpa using hl.symm)).symm) fun a c ih => ?_
  refine snoc_ind (fun _ _ hl _ => by simp at hl) fun b d _ => ?_
  intro ha hb hl hv
  rw [List.all_append, Bool.and_eq_true] at ha hb
  rw [vb_snoc, vb_snoc] at hv
  have h1 := isB_dg (c := c) (by simpa using ha.2)
  have h2 := isB_dg (c := d) (by simpa using hb.2)
  have h3 : vb a = vb b := by omega
  have h4 := ih b ha.1 hb.1 (by simpa using hl) h3
  have h5 : c = d := by
    rcases h1 with ⟨rfl, e1⟩ | ⟨rfl, e1⟩ <;> rcases h2 with ⟨rfl, e2⟩ | ⟨rfl, e2⟩ <;> first | rfl | omega
  rw [h4, h5]
def ones (n : Nat) : List UInt8 := List.replicate n 49
theorem ones_len (n : Nat) : (ones n).length = n := by simp [ones]
theorem ones_all (n : Nat) : (ones n).all isB = true := by
  unfold ones
  rw [List.all_eq_true]
  intro c hc
  rw [List.eq_of_mem_replicate hc]
  rfl
theorem vb_ones : ∀ n : Nat, vb (ones n) = 2 ^ n - 1
  | 0 => rfl
  | n + 1 => by
    have : ones (n + 1) = ones n ++ [49] := by simp [ones, List.replicate_succ']
    rw [this, vb_snoc, vb_ones n, Int.pow_succ]
    have : dg 49 = 1 := rfl
    omega
theorem ones_iff (l : List UInt8) (h : l.all isB = true) : vb l = 2 ^ l.length - 1 ↔ l = ones l.length := by
  constructor
  · intro hv
    exact vb_inj l (ones l.length) h (ones_all _) (by simp [ones]) (by rw [hv, vb_ones])
  · intro hl
    have := vb_ones l.length
    rw [← hl] at this
    exact this
/-! a byte's bits -/
def b8 (x : Int) : List UInt8 := (List.range 8).map fun j => if (x / 2 ^ (7 - j)) % 2 = 1 then 49 else 48
theorem b8qlen (x : Int) : (b8 x).length = 8 := by simp [b8]
theorem b8qall (x : Int) : (b8 x).all isB = true := by
  rw [List.all_eq_true]
  intro c hc
  simp only [b8, List.mem_map] at hc
  obtain ⟨j, _, rfl⟩ := hc
  split <;> rfl
theorem all_b8 : ((List.range 256).all fun i => decide (vb (b8 (i : Int)) = (i : Int))) = true := by kernel_rfl
theorem vb_b8 {x : Int} (h0 : 0 ≤ x) (h1 : x < 256) : vb (b8 x) = x := by
  have := List.all_eq_true.1 all_b8 x.toNat (by simp; omega)
  have e : ((x.toNat : Nat) : Int) = x := by omega
  rw [e] at this
  exact of_decide_eq_true this
theorem b8qvb (r : List UInt8) (h : r.all isB = true) (hl : r.length = 8) : b8 (vb r) = r := by
  have hb := vb_bd r h
  rw [hl] at hb
  exact vb_inj _ _ (b8qall _) h (by rw [b8qlen, hl]) (vb_b8 hb.1 (by simpa using hb.2))
def bitsL (l : List Int) : List UInt8 := l.flatMap b8
theorem bitsL_cons (x : Int) (l : List Int) : bitsL (x :: l) = b8 x ++ bitsL l := by simp [bitsL]
theorem bitsL_len : ∀ l : List Int, (bitsL l).length = 8 * l.length
  | [] => rfl
  | x :: l => by
    rw [bitsL_cons, List.length_append, b8qlen, bitsL_len l, List.length_cons]
    omega
theorem bitsL_all : ∀ l : List Int, (bitsL l).all isB = true
  | [] => rfl
  | x :: l => by
    rw [bitsL_cons, List.all_append, b8qall, bitsL_all l]
    rfl
theorem bitsL_app (a b : List Int) : bitsL (a ++ b) = bitsL a ++ bitsL b := by simp [bitsL]
theorem bitsL_inj : ∀ a b : List Int, (∀ x ∈ a, 0 ≤ x ∧ x < 256) → (∀ x ∈ b, 0 ≤ x ∧ x < 256) → bitsL a = bitsL b → a = b
  | [], [], _, _, _ => rfl
  | [], y :: b, _, _, h => by have := congrArg List.length h; rw [bitsL_len, bitsL_len] at this; simp at this
  | x :: a, [], _, _, h => by have := congrArg List.length h; rw [bitsL_len, bitsL_len] at this; simp at this
  | x :: a, y :: b, ha, hb, h => by
    rw [bitsL_cons, bitsL_cons] at h
    obtain ⟨h2, h3⟩ := List.append_inj h (by rw [b8qlen, b8qlen])
    have hx := ha x (by simp)
    have hy := hb y (by simp)
    have e : x = y := by rw [← vb_b8 hx.1 hx.2, h2, vb_b8 hy.1 hy.2]
    rw [e, bitsL_inj a b (fun z hz => ha z (by simp [hz])) (fun z hz => hb z (by simp [hz])) h3]
/-! the codes, as bits -/
def tx (i : Nat) : List UInt8 := TEXTS.getD i []
def TT : List (List UInt8 × Int) := TEXTS.zipIdx.map fun q => (q.1, (q.2 : Int))
def ti (p : List UInt8) : Option Int := mget TT p
def enc (t : List UInt8) : S45 := ⟨vb t, t.length⟩
theorem codes_enc : CODES = TEXTS.map enc := by kernel_rfl
theorem texts_bits : (TEXTS.all fun t => t.all isB && Nat.ble 5 t.length && Nat.ble t.length 30) = true := by kernel_rfl
theorem all_ti : ((List.range 257).all fun i => ti (tx i) == some (i : Int)) = true := by kernel_rfl
/-! the codes' tree -/
inductive Tr
  | lf (i : Nat)
  | nd (l r : Tr)
def go : Tr → List UInt8 → Option Tr
  | t, [] => some t
  | .nd l r, c :: p => if c = 48 then go l p else go r p
  | .lf _, _ :: _ => none
def paths : Tr → List UInt8 → List (List UInt8 × Nat)
  | .lf i, pre => [(pre, i)]
  | .nd l r, pre => paths l (pre ++ [48]) ++ paths r (pre ++ [49])
def dep : Tr → Nat
  | .lf _ => 0
  | .nd l r => max (dep l) (dep r) + 1
theorem go_nil (t : Tr) : go t [] = some t := by cases t <;> rfl
theorem go_paths : ∀ (t : Tr) (p pre : List UInt8) (i : Nat), p.all isB = true → go t p = some (.lf i) → (pre ++ p, i) ∈ paths t pre := by
  intro t
  induction t with
  | lf j =>
    intro p pre i _ h
    cases p with
    | nil =>
      rw [go_nil] at h
      injection h with h
      injection h with h
      subst h
      simp [paths]
    | cons c p => simp [go] at h
  | nd l r ihl ihr =>
    intro p pre i hb h
    cases p with
    | nil =>
      rw [go_nil] at h
      injection h with h
      cases h
    | cons c p =>
      rw [List.all_cons, Bool.and_eq_true] at hb
      simp only [go] at h
      simp only [paths, List.mem_append]
      rcases isB_dg hb.1 with ⟨rfl, _⟩ | ⟨rfl, _⟩
      · rw [if_pos rfl] at h
        have := ihl p (pre ++ [48]) i hb.2 h
        rw [List.append_assoc] at this
        exact .inl this
      · rw [if_neg (by decide)] at h
        have := ihr p (pre ++ [49]) i hb.2 h
        rw [List.append_assoc] at this
        exact .inr this
theorem go_snoc : ∀ (t : Tr) (p : List UInt8) (c : UInt8), go t (p ++ [c]) = match go t p with | some (.nd l r) => some (if c = 48 then l else r) | _ => none := by
  intro t
  induction t with
  | lf j =>
    intro p c
    cases p with
    | nil => simp [go, go_nil]
    | cons d p => simp [go]
  | nd l r ihl ihr =>
    intro p c
    cases p with
    | nil =>
      simp only [List.nil_append, go, go_nil]
      split <;> rfl
    | cons d p =>
      simp only [List.cons_append, go]
      by_cases h : d = 48
      · rw [if_pos h, if_pos h]
        exact ihl p c
      · rw [if_neg h, if_neg h]
        exact ihr p c
theorem go_dep : ∀ (t : Tr) (p : List UInt8) (q : Tr), go t p = some q → p.length + dep q ≤ dep t := by
  intro t
  induction t with
  | lf j =>
    intro p q h
    cases p with
    | nil =>
      rw [go_nil] at h
      injection h with h
      subst h
      simp
    | cons d p => simp [go] at h
  | nd l r ihl ihr =>
    intro p q h
    cases p with
    | nil =>
      rw [go_nil] at h
      injection h with h
      subst h
      simp
    | cons d p =>
      simp only [go] at h
      simp only [dep, List.length_cons]
      by_cases hd : d = 48
      · rw [if_pos hd] at h
        have := ihl p q h
        omega
      · rw [if_neg hd] at h
        have := ihr p q h
        omega
def ROOT : Tr := .nd (.nd (.nd (.nd (.nd (.lf 48) (.lf 49)) (.nd (.lf 50) (.lf 97))) (.nd (.nd (.lf 99) (.lf 101)) (.nd (.lf 105) (.lf 111)))) (.nd (.nd (.nd (.lf 115)
  (.lf 116)) (.nd (.nd (.lf 32) (.lf 37)) (.nd (.lf 45) (.lf 46)))) (.nd (.nd (.nd (.lf 47) (.lf 51)) (.nd (.lf 52) (.lf 53))) (.nd (.nd (.lf 54) (.lf
  55)) (.nd (.lf 56) (.lf 57)))))) (.nd (.nd (.nd (.nd (.nd (.lf 61) (.lf 65)) (.nd (.lf 95) (.lf 98))) (.nd (.nd (.lf 100) (.lf 102)) (.nd (.lf 103)
  (.lf 104)))) (.nd (.nd (.nd (.lf 108) (.lf 109)) (.nd (.lf 110) (.lf 112))) (.nd (.nd (.lf 114) (.lf 117)) (.nd (.nd (.lf 58) (.lf 66)) (.nd (.lf 67)
  (.lf 68)))))) (.nd (.nd (.nd (.nd (.nd (.lf 69) (.lf 70)) (.nd (.lf 71) (.lf 72))) (.nd (.nd (.lf 73) (.lf 74)) (.nd (.lf 75) (.lf 76)))) (.nd (.nd
  (.nd (.lf 77) (.lf 78)) (.nd (.lf 79) (.lf 80))) (.nd (.nd (.lf 81) (.lf 82)) (.nd (.lf 83) (.lf 84))))) (.nd (.nd (.nd (.nd (.lf 85) (.lf 86)) (.nd
  (.lf 87) (.lf 89))) (.nd (.nd (.lf 106) (.lf 107)) (.nd (.lf 113) (.lf 118)))) (.nd (.nd (.nd (.lf 119) (.lf 120)) (.nd (.lf 121) (.lf 122))) (.nd
  (.nd (.nd (.lf 38) (.lf 42)) (.nd (.lf 44) (.lf 59))) (.nd (.nd (.lf 88) (.lf 90)) (.nd (.nd (.nd (.lf 33) (.lf 34)) (.nd (.lf 40) (.lf 41))) (.nd
  (.nd (.lf 63) (.nd (.lf 39) (.lf 43))) (.nd (.nd (.lf 124) (.nd (.lf 35) (.lf 62))) (.nd (.nd (.nd (.lf 0) (.lf 36)) (.nd (.lf 64) (.lf 91))) (.nd
  (.nd (.lf 93) (.lf 126)) (.nd (.nd (.lf 94) (.lf 125)) (.nd (.nd (.lf 60) (.lf 96)) (.nd (.lf 123) (.nd (.nd (.nd (.nd (.lf 92) (.lf 195)) (.nd (.lf
  208) (.nd (.lf 128) (.lf 130)))) (.nd (.nd (.nd (.lf 131) (.lf 162)) (.nd (.lf 184) (.lf 194))) (.nd (.nd (.lf 224) (.lf 226)) (.nd (.nd (.lf 153)
  (.lf 161)) (.nd (.lf 167) (.lf 172)))))) (.nd (.nd (.nd (.nd (.nd (.lf 176) (.lf 177)) (.nd (.lf 179) (.lf 209))) (.nd (.nd (.lf 216) (.lf 217)) (.nd
  (.lf 227) (.lf 229)))) (.nd (.nd (.nd (.lf 230) (.nd (.lf 129) (.lf 132))) (.nd (.nd (.lf 133) (.lf 134)) (.nd (.lf 136) (.lf 146)))) (.nd (.nd (.nd
  (.lf 154) (.lf 156)) (.nd (.lf 160) (.lf 163))) (.nd (.nd (.lf 164) (.lf 169)) (.nd (.lf 170) (.lf 173)))))) (.nd (.nd (.nd (.nd (.nd (.lf 178) (.lf
  181)) (.nd (.lf 185) (.lf 186))) (.nd (.nd (.lf 187) (.lf 189)) (.nd (.lf 190) (.lf 196)))) (.nd (.nd (.nd (.lf 198) (.lf 228)) (.nd (.lf 232) (.lf
  233))) (.nd (.nd (.nd (.lf 1) (.lf 135)) (.nd (.lf 137) (.lf 138))) (.nd (.nd (.lf 139) (.lf 140)) (.nd (.lf 141) (.lf 143)))))) (.nd (.nd (.nd (.nd
  (.nd (.lf 147) (.lf 149)) (.nd (.lf 150) (.lf 151))) (.nd (.nd (.lf 152) (.lf 155)) (.nd (.lf 157) (.lf 158)))) (.nd (.nd (.nd (.lf 165) (.lf 166))
  (.nd (.lf 168) (.lf 174))) (.nd (.nd (.lf 175) (.lf 180)) (.nd (.lf 182) (.lf 183))))) (.nd (.nd (.nd (.nd (.lf 188) (.lf 191)) (.nd (.lf 197) (.lf
  231))) (.nd (.nd (.lf 239) (.nd (.lf 9) (.lf 142))) (.nd (.nd (.lf 144) (.lf 145)) (.nd (.lf 148) (.lf 159))))) (.nd (.nd (.nd (.nd (.lf 171) (.lf
  206)) (.nd (.lf 215) (.lf 225))) (.nd (.nd (.lf 236) (.lf 237)) (.nd (.nd (.lf 199) (.lf 207)) (.nd (.lf 234) (.lf 235))))) (.nd (.nd (.nd (.nd (.nd
  (.lf 192) (.lf 193)) (.nd (.lf 200) (.lf 201))) (.nd (.nd (.lf 202) (.lf 205)) (.nd (.lf 210) (.lf 213)))) (.nd (.nd (.nd (.lf 218) (.lf 219)) (.nd
  (.lf 238) (.lf 240))) (.nd (.nd (.lf 242) (.lf 243)) (.nd (.lf 255) (.nd (.lf 203) (.lf 204)))))) (.nd (.nd (.nd (.nd (.nd (.lf 211) (.lf 212)) (.nd
  (.lf 214) (.lf 221))) (.nd (.nd (.lf 222) (.lf 223)) (.nd (.lf 241) (.lf 244)))) (.nd (.nd (.nd (.lf 245) (.lf 246)) (.nd (.lf 247) (.lf 248))) (.nd
  (.nd (.lf 250) (.lf 251)) (.nd (.lf 252) (.lf 253))))) (.nd (.nd (.nd (.nd (.lf 254) (.nd (.lf 2) (.lf 3))) (.nd (.nd (.lf 4) (.lf 5)) (.nd (.lf 6)
  (.lf 7)))) (.nd (.nd (.nd (.lf 8) (.lf 11)) (.nd (.lf 12) (.lf 14))) (.nd (.nd (.lf 15) (.lf 16)) (.nd (.lf 17) (.lf 18))))) (.nd (.nd (.nd (.nd (.lf
  19) (.lf 20)) (.nd (.lf 21) (.lf 23))) (.nd (.nd (.lf 24) (.lf 25)) (.nd (.lf 26) (.lf 27)))) (.nd (.nd (.nd (.lf 28) (.lf 29)) (.nd (.lf 30) (.lf
  31))) (.nd (.nd (.lf 127) (.lf 220)) (.nd (.lf 249) (.nd (.nd (.lf 10) (.lf 13)) (.nd (.lf 22) (.lf 256))))))))))))))))))))))))))))))
theorem root_dep : dep ROOT = 30 := by kernel_rfl
def isLf (t : Option Tr) (i : Nat) : Bool := match t with
  | some (.lf j) => Nat.beq i j
  | _ => false
theorem isLf_iff {t : Option Tr} {i : Nat} (h : isLf t i = true) : t = some (.lf i) := by
  match t, h with
  | some (.lf j), h =>
    have := Nat.eq_of_beq_eq_true h
    rw [this]
theorem all_go : (TEXTS.zipIdx.all fun q => isLf (go ROOT q.1) q.2) = true := by kernel_rfl
theorem all_paths : ((paths ROOT []).all fun q => Nat.blt q.2 257 && q.1 == tx q.2) = true := by kernel_rfl
theorem tx_eq (i : Nat) (h : i < TEXTS.length) : tx i = TEXTS[i] := by simp [tx, List.getD_eq_getElem?_getD, h]
theorem tx_bits (i : Nat) (hi : i < 257) : (tx i).all isB = true ∧ 5 ≤ (tx i).length ∧ (tx i).length ≤ 30 := by
  have h : i < TEXTS.length := by rw [TEXTS_len]; exact hi
  have := List.all_eq_true.1 texts_bits _ (List.getElem_mem h)
  rw [← tx_eq i h] at this
  simp only [Bool.and_eq_true] at this
  exact ⟨this.1.1, Nat.le_of_ble_eq_true this.1.2, Nat.le_of_ble_eq_true this.2⟩
theorem go_tx (i : Nat) (hi : i < 257) : go ROOT (tx i) = some (.lf i) := by
  have h : i < TEXTS.length := by rw [TEXTS_len]; exact hi
  have := List.all_eq_true.1 all_go _ (zipIdx_mem TEXTS i h)
  rw [tx_eq i h]
  exact isLf_iff this
theorem go_lf {p : List UInt8} {i : Nat} (hp : p.all isB = true) (h : go ROOT p = some (.lf i)) : i < 257 ∧ p = tx i := by
  have := List.all_eq_true.1 all_paths _ (go_paths ROOT p [] i hp h)
  simp only [List.nil_append, Bool.and_eq_true, beq_iff_eq] at this
  exact ⟨by have := this.1; simpa [Nat.blt, Nat.succ_le_iff] using this, this.2⟩
theorem mget_some {κ ν : Type} [DecidableEq κ] : ∀ (m : List (κ × ν)) (k : κ) (v : ν), mget m k = some v → (k, v) ∈ m
  | [], k, v, h => by simp [mget, midx] at h
  | p :: m, k, v, h => by
    unfold mget at h
    simp only [midx] at h
    by_cases hk : p.1 = k
    · rw [if_pos hk] at h
      simp only [Option.map_some, Option.some.injEq] at h
      subst hk
      subst h
      exact List.mem_cons_self
    · rw [if_neg hk] at h
      refine List.mem_cons_of_mem _ (mget_some m k v ?_)
      unfold mget
      cases hi : midx m k with
      | none => rw [hi] at h; simp at h
      | some q => rw [hi] at h; simpa using h
theorem ti_tx (i : Nat) (hi : i < 257) : ti (tx i) = some (i : Int) := by
  have := List.all_eq_true.1 all_ti i (by simpa using hi)
  simpa using this
theorem ti_some {p : List UInt8} {v : Int} (h : ti p = some v) : ∃ i : Nat, i < 257 ∧ v = (i : Int) ∧ p = tx i := by
  have := mget_some TT p v h
  simp only [TT, List.mem_map] at this
  obtain ⟨q, hq, e⟩ := this
  rw [List.mem_iff_getElem?] at hq
  obtain ⟨j, hj⟩ := hq
  rw [List.getElem?_zipIdx] at hj
  obtain ⟨w, hw, hj⟩ := Option.map_eq_some_iff.1 hj
  obtain ⟨hlt, hw⟩ := List.getElem?_eq_some_iff.1 hw
  subst hj
  simp only [Prod.mk.injEq] at e
  refine ⟨j, by rw [← TEXTS_len]; exact hlt, ?_, ?_⟩
  · rw [← e.2]
    simp
  · rw [tx_eq j hlt, hw]
    exact e.1.symm
/-- A path that ends inside the tree is no code. -/
theorem ti_inner {p : List UInt8} {l r : Tr} (h : go ROOT p = some (.nd l r)) : ti p = none := by
  cases hv : ti p with
  | none => rfl
  | some v =>
    obtain ⟨i, hi, _, rfl⟩ := ti_some hv
    rw [go_tx i hi] at h
    injection h with h
    cases h
end Go.Proofs.YtedfgicbignbmaaDoor.Sl
