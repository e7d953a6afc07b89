/- Kinds of data: what a value's cells say, read and held. -/
import Derived.Test.YtikfpmieadfllaaSlC
set_option linter.unusedVariables false
set_option linter.unusedSimpArgs false
namespace Go.Proofs.Sl
open Go Go.RowKit

def mkS (l : List UInt8) : ByteArray := ⟨⟨l⟩⟩
theorem mkS_of (s : ByteArray) : mkS s.data.toList = s := rfl
theorem mkS_inj {l l' : List UInt8} (h : mkS l = mkS l') : l = l' := by
  unfold mkS at h
  injection h with h
  injection h

structure Kd (α : Type) where
  sz : Nat
  rd : Nat → World → Frag → α → List Value → Prop
  rep : Nat → World → Frag → α → List Value → Frag → Prop
  rd_len : ∀ {b w0 R x cs}, rd b w0 R x cs → cs.length = sz
  rep_len : ∀ {b w0 R x cs M}, rep b w0 R x cs M → cs.length = sz
  rd_one : ∀ {b w0 R x cs}, rd b w0 R x cs → ∀ u ∈ cs, u.oneCell' = true
  rep_one : ∀ {b w0 R x cs M}, rep b w0 R x cs M → ∀ u ∈ cs, u.oneCell' = true
  rd_mono : ∀ {b w0 R R' x cs}, (∀ p ∈ R, p ∈ R') → rd b w0 R x cs → rd b w0 R' x cs
  rep_mono : ∀ {b w0 R R' x cs M}, (∀ p ∈ R, p ∈ R') → rep b w0 R x cs M → rep b w0 R' x cs M
  rep_rd : ∀ {b w0 R x cs M}, rep b w0 R x cs M → rd b w0 (M ++ R) x cs
/-- What is read may stand as a thing of one's own: there is nothing behind it that is held. -/
def Kd.Flat {α : Type} (d : Kd α) : Prop := ∀ {b w0 R x cs}, d.rd b w0 R x cs → d.rep b w0 R x cs []

/-- A slice that is read. -/
def Rds {α : Type} (d : Kd α) (b : Nat) (w0 : World) (R : Frag) (v : Value) (xs : List α) : Prop :=
  ∃ A c, v = .slice A xs.length c ∧ xs.length ≤ c ∧ c ≤ maxLen ∧ ∀ i x, xs[i]? = some x → ∃ ad cs, A = some ad ∧ ad.spot = none ∧ d.rd b w0 R x cs ∧ ∀ j u, cs[j]? = some u → Kn b w0 R (ad.add (i * d.sz + j)) u
theorem Rds.mono {α : Type} {d : Kd α} {b : Nat} {w0 : World} {R R' : Frag} {v : Value} {xs : List α} (hs : ∀ p ∈ R, p ∈ R') (h : Rds d b w0 R v xs) : Rds d b w0 R' v xs := by
  obtain ⟨A, c, rfl, h1, h2, h3⟩ := h
  refine ⟨A, c, rfl, h1, h2, fun i x hx => ?_⟩
  obtain ⟨ad, cs, ha, hs', hr, hk⟩ := h3 i x hx
  exact ⟨ad, cs, ha, hs', d.rd_mono hs hr, fun j u hj => (hk j u hj).mono hs⟩

/-- Elements one behind the other. -/
def Reps {α : Type} (d : Kd α) (b : Nat) (w0 : World) (R : Frag) : List α → List Value → Frag → Prop
  | [], cs, M => cs = [] ∧ M = []
  | x :: xs, cs, M => ∃ c1 c2 M1 M2, cs = c1 ++ c2 ∧ M = M1 ++ M2 ∧ d.rep b w0 R x c1 M1 ∧ Reps d b w0 R xs c2 M2
section
variable {α : Type} {d : Kd α} {b : Nat} {w0 W : World} {R R' : Frag} {v : Value} {xs ys : List α} {cs cs' : List Value} {M M' : Frag} {E : Nat} {Ms : List Frag}
theorem Reps.append : ∀ {xs : List α} {cs : List Value} {M : Frag}, Reps d b w0 R xs cs M → Reps d b w0 R ys cs' M' → Reps d b w0 R (xs ++ ys) (cs ++ cs') (M ++ M')
  | [], cs, M, h, h' => by
    obtain ⟨rfl, rfl⟩ := h
    exact h'
  | x :: xs, cs, M, h, h' => by
    obtain ⟨c1, c2, M1, M2, rfl, rfl, h1, h2⟩ := h
    exact ⟨c1, c2 ++ cs', M1, M2 ++ M', by simp, by simp, h1, h2.append h'⟩
theorem Reps.len : ∀ {xs : List α} {cs : List Value} {M : Frag}, Reps d b w0 R xs cs M → cs.length = xs.length * d.sz
  | [], cs, M, h => by
    obtain ⟨rfl, rfl⟩ := h
    simp
  | x :: xs, cs, M, h => by
    obtain ⟨c1, c2, M1, M2, rfl, rfl, h1, h2⟩ := h
    simp [d.rep_len h1, h2.len, Nat.add_mul, Nat.add_comm]
theorem Reps.one : ∀ {xs : List α} {cs : List Value} {M : Frag}, Reps d b w0 R xs cs M → ∀ u ∈ cs, u.oneCell' = true
  | [], cs, M, h => by
    obtain ⟨rfl, rfl⟩ := h
    simp
  | x :: xs, cs, M, h => by
    obtain ⟨c1, c2, M1, M2, rfl, rfl, h1, h2⟩ := h
    intro u hu
    rcases List.mem_append.1 hu with hu | hu
    · exact d.rep_one h1 u hu
    · exact h2.one u hu
theorem Reps.mono (hs : ∀ p ∈ R, p ∈ R') : ∀ {xs : List α} {cs : List Value} {M : Frag}, Reps d b w0 R xs cs M → Reps d b w0 R' xs cs M
  | [], cs, M, h => h
  | x :: xs, cs, M, h => by
    obtain ⟨c1, c2, M1, M2, rfl, rfl, h1, h2⟩ := h
    exact ⟨c1, c2, M1, M2, rfl, rfl, d.rep_mono hs h1, h2.mono hs⟩
/-- Element i, and what stands before and behind it. -/
theorem Reps.at_ : ∀ {xs : List α} {cs : List Value} {M : Frag} {i : Nat} {x : α}, Reps d b w0 R xs cs M → xs[i]? = some x →
    ∃ c1 c c2 M1 Mx M2, cs = c1 ++ c ++ c2 ∧ M = M1 ++ Mx ++ M2 ∧ Reps d b w0 R (xs.take i) c1 M1 ∧ d.rep b w0 R x c Mx ∧ Reps d b w0 R (xs.drop (i + 1)) c2 M2
  | [], cs, M, i, x, h, hx => by simp at hx
  | y :: xs, cs, M, 0, x, h, hx => by
    obtain ⟨c1, c2, M1, M2, rfl, rfl, h1, h2⟩ := h
    simp only [List.getElem?_cons_zero, Option.some.injEq] at hx
    subst hx
    exact ⟨[], c1, c2, [], M1, M2, by simp, by simp, ⟨rfl, rfl⟩, h1, by simpa using h2⟩
  | y :: xs, cs, M, i + 1, x, h, hx => by
    obtain ⟨c1, c2, M1, M2, rfl, rfl, h1, h2⟩ := h
    simp only [List.getElem?_cons_succ] at hx
    obtain ⟨e1, e, e2, N1, Nx, N2, rfl, rfl, g1, g, g2⟩ := h2.at_ hx
    exact ⟨c1 ++ e1, e, e2, M1 ++ N1, Nx, N2, by simp, by simp, ⟨c1, e1, M1, N1, rfl, rfl, h1, g1⟩, g, by simpa using g2⟩
theorem Reps.put {i : Nat} {x : α} {c1 c c2 : List Value} {M1 Mx M2 : Frag} (h1 : Reps d b w0 R (xs.take i) c1 M1) (h : d.rep b w0 R x c Mx) (h2 : Reps d b w0 R (xs.drop (i + 1)) c2 M2) (hi : i < xs.length) :
    Reps d b w0 R (xs.set i x) (c1 ++ c ++ c2) (M1 ++ Mx ++ M2) := by
  rw [List.set_eq_take_append_cons_drop, if_pos hi, List.append_assoc, List.append_assoc]
  exact h1.append ⟨c, c2, Mx, M2, rfl, rfl, h, h2⟩
theorem Reps.take_len {i : Nat} {c1 : List Value} {M1 : Frag} (h1 : Reps d b w0 R (xs.take i) c1 M1) (hi : i ≤ xs.length) : c1.length = i * d.sz := by
  rw [h1.len, List.length_take, Nat.min_eq_left hi]

/-- A slice of one's own. -/
def Row (d : Kd α) (E : Nat) (b : Nat) (w0 : World) (R : Frag) (v : Value) (xs : List α) (M : Frag) : Prop :=
  ∃ cs blk Mi, RowC E d.sz v xs.length cs blk ∧ M = blk ++ Mi ∧ Reps d b w0 R xs cs Mi
theorem Row.nil : Row d E b w0 R (.slice none 0 0) [] [] := ⟨[], [], [], RowC.nil, rfl, rfl, rfl⟩
theorem Row.mono (hs : ∀ p ∈ R, p ∈ R') (h : Row d E b w0 R v xs M) : Row d E b w0 R' v xs M := by
  obtain ⟨cs, blk, Mi, h1, h2, h3⟩ := h
  exact ⟨cs, blk, Mi, h1, h2, h3.mono hs⟩
theorem Row.slice (h : Row d E b w0 R v xs M) : ∃ A c, v = .slice A xs.length c ∧ xs.length ≤ c ∧ c ≤ maxLen := by
  obtain ⟨cs, blk, Mi, h1, h2, h3⟩ := h
  exact h1.slice
/-- What is held may be read. -/
theorem Row.rds (h : Row d E b w0 R v xs M) : Rds d b w0 (M ++ R) v xs := by
  obtain ⟨cs, blk, Mi, h1, rfl, h3⟩ := h
  obtain ⟨A, c, hv, hc, hm⟩ := h1.slice
  refine ⟨A, c, hv, hc, hm, fun i x hx => ?_⟩
  obtain ⟨c1, cx, c2, M1, Mx, M2, hcs, hMi, g1, g, g2⟩ := h3.at_ hx
  obtain ⟨hlt, _⟩ := List.getElem?_eq_some_iff.1 hx
  have hl1 := g1.take_len (Nat.le_of_lt hlt)
  rcases h1 with ⟨rfl, h0, _⟩ | ⟨g', off, cap, pre, post, rfl, rfl, rfl, hl, hcp, hn, hmm⟩
  · omega
  · injection hv with e1 e2 e3
    subst e1
    refine ⟨_, cx, rfl, rfl, d.rd_mono (fun p hp => ?_) (d.rep_rd g), fun j u hj => ⟨?_, .inr ⟨(pre ++ cs ++ post).toArray, E, (0, 0), ?_, ?_⟩⟩⟩
    · rcases List.mem_append.1 hp with hp | hp
      · refine List.mem_append_left _ (List.mem_append_right _ ?_)
        rw [hMi]
        simp [hp]
      · exact List.mem_append_right _ hp
    · rw [Addr.add_lit]
    · rw [Addr.add_lit]
      exact List.mem_append_left _ (List.mem_append_left _ (List.mem_singleton.2 rfl))
    · rw [Addr.add_lit]
      obtain ⟨hjl, _⟩ := List.getElem?_eq_some_iff.1 hj
      simp only [List.getElem?_toArray, hcs, List.append_assoc]
      rw [List.getElem?_append_right (by omega), Nat.add_sub_cancel_left, List.getElem?_append_right (by omega), hl1, Nat.add_sub_cancel_left, List.getElem?_append_left hjl]
      exact hj
/-- What is read, as a source of append. -/
theorem Rds.src {P : Program} {t e : Nat} (h : Rds d b w0 R v xs) (hS : ∀ a u, Kn b w0 R a u → W.cell? a = some u) (hk : P.underlying t = some (.slice e)) :
    ∃ cs Mi, Src P d.sz t v xs.length cs W ∧ (d.Flat → Reps d b w0 R xs cs []) ∧ Mi = ([] : Frag) := by
  obtain ⟨A, c, rfl, h1, h2, h3⟩ := h
  have key : ∀ (ys : List α) (k : Nat), (∀ i x, ys[i]? = some x → xs[k + i]? = some x) → ∃ cs, cs.length = ys.length * d.sz ∧ (∀ u ∈ cs, u.oneCell' = true) ∧ (d.Flat → Reps d b w0 R ys cs []) ∧
      (∀ ad, A = some ad → ∀ j u, cs[j]? = some u → Kn b w0 R (ad.add (k * d.sz + j)) u) := by
    intro ys
    induction ys with
    | nil => intro k _; exact ⟨[], by simp, by simp, fun _ => ⟨rfl, rfl⟩, fun _ _ j u hj => by simp at hj⟩
    | cons y ys ih =>
      intro k hy
      obtain ⟨ad, cx, ha, hsp, hr, hkn⟩ := h3 k y (hy 0 y rfl)
      obtain ⟨cs, l1, l2, l3, l4⟩ := ih (k + 1) fun i x hx => by
        have := hy (i + 1) x (by simpa using hx)
        rwa [show k + (i + 1) = k + 1 + i by omega] at this
      refine ⟨cx ++ cs, by simp [d.rd_len hr, l1, Nat.add_mul, Nat.add_comm], ?_, fun hf => ⟨cx, cs, [], [], rfl, rfl, hf hr, l3 hf⟩, ?_⟩
      · intro u hu
        rcases List.mem_append.1 hu with hu | hu
        · exact d.rd_one hr u hu
        · exact l2 u hu
      · intro ad' ha' j u hj
        rw [ha] at ha'
        injection ha' with ha'
        subst ha'
        by_cases hjl : j < cx.length
        · rw [List.getElem?_append_left hjl] at hj
          exact hkn j u hj
        · rw [List.getElem?_append_right (by omega)] at hj
          have := l4 ad ha _ u hj
          rw [d.rd_len hr, Nat.add_mul, Nat.one_mul] at this
          rw [d.rd_len hr] at hjl
          rwa [show k * d.sz + d.sz + (j - d.sz) = k * d.sz + j by omega] at this
  obtain ⟨cs, l1, l2, l3, l4⟩ := key xs 0 (by simp)
  refine ⟨cs, [], ?_, l3, rfl⟩
  cases A with
  | none =>
    have hx : xs = [] := by
      cases xs with
      | nil => rfl
      | cons x xs =>
        obtain ⟨ad, _, ha, _⟩ := h3 0 x rfl
        cases ha
    subst hx
    have hcs : cs = [] := List.eq_nil_of_length_eq_zero (by simpa using l1)
    subst hcs
    exact Src.ofNil W hk c
  | some ad => exact Src.ofSlice W hk ad xs.length c cs l1 (fun j u hj => hS _ u (by have := l4 ad rfl j u hj; rwa [Nat.zero_mul, Nat.zero_add] at this)) l2
end

/-! ### the kinds -/
section
variable {α β γ : Type}
def kOne (α : Type) (f : α → Value) (h1 : ∀ x, (f x).oneCell' = true) : Kd α where
  sz := 1
  rd := fun _ _ _ x cs => cs = [f x]
  rep := fun _ _ _ x cs M => cs = [f x] ∧ M = []
  rd_len := by intro _ _ _ _ _ h; subst h; rfl
  rep_len := by intro _ _ _ _ _ _ h; obtain ⟨rfl, _⟩ := h; rfl
  rd_one := by intro _ _ _ _ _ h; subst h; simp [h1]
  rep_one := by intro _ _ _ _ _ _ h; obtain ⟨rfl, _⟩ := h; simp [h1]
  rd_mono := by intro _ _ _ _ _ _ _ h; exact h
  rep_mono := by intro _ _ _ _ _ _ _ _ h; exact h
  rep_rd := by intro _ _ _ _ _ _ h; exact h.1
theorem kOne_flat (f : α → Value) (h1) : (kOne α f h1).Flat := fun h => ⟨h, rfl⟩
def kInt (k : IntKind) : Kd Int := kOne Int (fun x => .int k x) (fun _ => rfl)
def kBool : Kd Bool := kOne Bool (fun x => .bool x) (fun _ => rfl)
def kStr : Kd (List UInt8) := kOne (List UInt8) (fun x => .string (mkS x)) (fun _ => rfl)
theorem kInt_flat (k : IntKind) : (kInt k).Flat := kOne_flat _ _
theorem kBool_flat : kBool.Flat := kOne_flat _ _
theorem kStr_flat : kStr.Flat := kOne_flat _ _
/-- Two in line. -/
def kPair (d : Kd α) (e : Kd β) : Kd (α × β) where
  sz := d.sz + e.sz
  rd := fun b w0 R x cs => ∃ c1 c2, cs = c1 ++ c2 ∧ d.rd b w0 R x.1 c1 ∧ e.rd b w0 R x.2 c2
  rep := fun b w0 R x cs M => ∃ c1 c2 M1 M2, cs = c1 ++ c2 ∧ M = M1 ++ M2 ∧ d.rep b w0 R x.1 c1 M1 ∧ e.rep b w0 R x.2 c2 M2
  rd_len := by rintro _ _ _ _ _ ⟨c1, c2, rfl, h1, h2⟩; simp [d.rd_len h1, e.rd_len h2]
  rep_len := by rintro _ _ _ _ _ _ ⟨c1, c2, M1, M2, rfl, _, h1, h2⟩; simp [d.rep_len h1, e.rep_len h2]
  rd_one := by rintro _ _ _ _ _ ⟨c1, c2, rfl, h1, h2⟩ u hu; exact (List.mem_append.1 hu).elim (d.rd_one h1 u) (e.rd_one h2 u)
  rep_one := by rintro _ _ _ _ _ _ ⟨c1, c2, M1, M2, rfl, _, h1, h2⟩ u hu; exact (List.mem_append.1 hu).elim (d.rep_one h1 u) (e.rep_one h2 u)
  rd_mono := by rintro _ _ _ _ _ _ hs ⟨c1, c2, rfl, h1, h2⟩; exact ⟨c1, c2, rfl, d.rd_mono hs h1, e.rd_mono hs h2⟩
  rep_mono := by rintro _ _ _ _ _ _ _ hs ⟨c1, c2, M1, M2, rfl, hM, h1, h2⟩; exact ⟨c1, c2, M1, M2, rfl, hM, d.rep_mono hs h1, e.rep_mono hs h2⟩
  rep_rd := by
    rintro _ _ R _ _ _ ⟨c1, c2, M1, M2, rfl, rfl, h1, h2⟩
    refine ⟨c1, c2, rfl, d.rd_mono (fun p hp => ?_) (d.rep_rd h1), e.rd_mono (fun p hp => ?_) (e.rep_rd h2)⟩
    · rcases List.mem_append.1 hp with hp | hp
      · simp [hp]
      · simp [hp]
    · rcases List.mem_append.1 hp with hp | hp
      · simp [hp]
      · simp [hp]
theorem kPair_flat {d : Kd α} {e : Kd β} (h1 : d.Flat) (h2 : e.Flat) : (kPair d e).Flat := fun ⟨c1, c2, hc, g1, g2⟩ => ⟨c1, c2, [], [], hc, rfl, h1 g1, h2 g2⟩
/-- A structure, by its fields. -/
def kIso (d : Kd α) (f : β → α) : Kd β where
  sz := d.sz
  rd := fun b w0 R x cs => d.rd b w0 R (f x) cs
  rep := fun b w0 R x cs M => d.rep b w0 R (f x) cs M
  rd_len := fun h => d.rd_len h
  rep_len := fun h => d.rep_len h
  rd_one := fun h => d.rd_one h
  rep_one := fun h => d.rep_one h
  rd_mono := fun hs h => d.rd_mono hs h
  rep_mono := fun hs h => d.rep_mono hs h
  rep_rd := fun h => d.rep_rd h
theorem kIso_flat {d : Kd α} {f : β → α} (h : d.Flat) : (kIso d f).Flat := fun g => h g
/-- A slice that is only read, as a part: nothing of it is held. -/
def kRds (d : Kd α) : Kd (List α) where
  sz := 1
  rd := fun b w0 R xs cs => ∃ v, cs = [v] ∧ Rds d b w0 R v xs
  rep := fun b w0 R xs cs M => (∃ v, cs = [v] ∧ Rds d b w0 R v xs) ∧ M = []
  rd_len := by rintro _ _ _ _ _ ⟨v, rfl, _⟩; rfl
  rep_len := by rintro _ _ _ _ _ _ ⟨⟨v, rfl, _⟩, _⟩; rfl
  rd_one := by rintro _ _ _ _ _ ⟨v, rfl, A, c, rfl, _⟩; simp [Value.oneCell']
  rep_one := by rintro _ _ _ _ _ _ ⟨⟨v, rfl, A, c, rfl, _⟩, _⟩; simp [Value.oneCell']
  rd_mono := by rintro _ _ _ _ _ _ hs ⟨v, rfl, h⟩; exact ⟨v, rfl, h.mono hs⟩
  rep_mono := by rintro _ _ _ _ _ _ _ hs ⟨⟨v, rfl, h⟩, hM⟩; exact ⟨⟨v, rfl, h.mono hs⟩, hM⟩
  rep_rd := by rintro _ _ _ _ _ _ ⟨⟨v, rfl, h⟩, rfl⟩; exact ⟨v, rfl, h⟩
theorem kRds_flat {d : Kd α} : (kRds d).Flat := fun h => ⟨h, rfl⟩
/-- A slice of one's own, as a part. -/
def kRow (d : Kd α) (E : Nat) : Kd (List α) where
  sz := 1
  rd := fun b w0 R xs cs => ∃ v, cs = [v] ∧ Rds d b w0 R v xs
  rep := fun b w0 R xs cs M => ∃ v, cs = [v] ∧ Row d E b w0 R v xs M
  rd_len := by rintro _ _ _ _ _ ⟨v, rfl, _⟩; rfl
  rep_len := by rintro _ _ _ _ _ _ ⟨v, rfl, _⟩; rfl
  rd_one := by rintro _ _ _ _ _ ⟨v, rfl, A, c, rfl, _⟩; simp [Value.oneCell']
  rep_one := by
    rintro _ _ _ _ _ _ ⟨v, rfl, h⟩
    obtain ⟨A, c, rfl, _⟩ := h.slice
    simp [Value.oneCell']
  rd_mono := by rintro _ _ _ _ _ _ hs ⟨v, rfl, h⟩; exact ⟨v, rfl, h.mono hs⟩
  rep_mono := by rintro _ _ _ _ _ _ _ hs ⟨v, rfl, h⟩; exact ⟨v, rfl, h.mono hs⟩
  rep_rd := by rintro _ _ _ _ _ _ ⟨v, rfl, h⟩; exact ⟨v, rfl, h.rds⟩
/-- A pointer to a thing of one's own. -/
def Ptr (d : Kd α) (T : Nat) (b : Nat) (w0 : World) (R : Frag) (v : Value) (x : α) (M : Frag) : Prop :=
  ∃ g cs M', v = .pointer (some ⟨g, 0, none⟩) ∧ M = (g, .cells cs.toArray T (0, 0)) :: M' ∧ d.rep b w0 R x cs M'
theorem Ptr.mono {d : Kd α} {T b : Nat} {w0 : World} {R R' : Frag} {v : Value} {x : α} {M : Frag} (hs : ∀ p ∈ R, p ∈ R') (h : Ptr d T b w0 R v x M) : Ptr d T b w0 R' v x M := by
  obtain ⟨g, cs, M', rfl, rfl, h⟩ := h
  exact ⟨g, cs, M', rfl, rfl, d.rep_mono hs h⟩
def kPtr (d : Kd α) (T : Nat) : Kd α where
  sz := 1
  rd := fun b w0 R x cs => ∃ ad c, cs = [.pointer (some ad)] ∧ ad.spot = none ∧ d.rd b w0 R x c ∧ ∀ j u, c[j]? = some u → Kn b w0 R (ad.add j) u
  rep := fun b w0 R x cs M => ∃ v, cs = [v] ∧ Ptr d T b w0 R v x M
  rd_len := by rintro _ _ _ _ _ ⟨ad, c, rfl, _⟩; rfl
  rep_len := by rintro _ _ _ _ _ _ ⟨v, rfl, _⟩; rfl
  rd_one := by rintro _ _ _ _ _ ⟨ad, c, rfl, _⟩; simp [Value.oneCell']
  rep_one := by rintro _ _ _ _ _ _ ⟨v, rfl, g, cs, M', rfl, _⟩; simp [Value.oneCell']
  rd_mono := by rintro _ _ _ _ _ _ hs ⟨ad, c, rfl, h1, h2, h3⟩; exact ⟨ad, c, rfl, h1, d.rd_mono hs h2, fun j u hj => (h3 j u hj).mono hs⟩
  rep_mono := by rintro _ _ _ _ _ _ _ hs ⟨v, rfl, h⟩; exact ⟨v, rfl, h.mono hs⟩
  rep_rd := by
    rintro _ _ R _ _ _ ⟨v, rfl, g, cs, M', rfl, rfl, h⟩
    refine ⟨_, cs, rfl, rfl, d.rd_mono (fun p hp => ?_) (d.rep_rd h), fun j u hj => ?_⟩
    · rcases List.mem_append.1 hp with hp | hp
      · simp [hp]
      · simp [hp]
    · rw [Addr.add_lit]
      exact ⟨rfl, .inr ⟨cs.toArray, T, (0, 0), by simp, by simpa using hj⟩⟩
end
end Go.Proofs.Sl
