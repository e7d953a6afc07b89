/- Cuts, indexes, strings, clear, make. -/
import Derived.Test.YtikfpmieadfllaaSlE
import Derived.Laws.DeepStrings4
set_option linter.unusedVariables false
set_option linter.unusedSimpArgs false
namespace Go.Proofs.Sl
open Go Go.RowKit
section
variable {P : Program} {Q : Exit → Act → World → Prop} {a : Act} {n : Nat} {L : LF} {W : World} {o : Oper} {K : Act → World → Prop} {d : Nat} {v : Value}
  {b : Nat} {w0 : World} {R : Frag} {Ms : List Frag} {m : Frag} {α : Type} {dk : Kd α} {E : Nat} {xs ys : List α} {M M2 : Frag}
/-! #### append as an operation -/
theorem owp_app_take {s x : Operand} {u : Value} {t e : Nat} {z : Value} {bytes : Nat} (h : Hd a n L) (hd : o.dst = some d) (hk : (Nat.blt d n && noSel o && okOp L o) = true)
    (hop : o.op = .call { callee := .builtin .append, args := #[s, x], argTypes := #[t, t] }) (hs : ev L s = some v) (hx : ev L x = some u)
    (h1 : Row dk e b w0 R v xs M) (h2 : Row dk E b w0 R u ys M2) (hS : St b w0 W R (M :: M2 :: Ms)) (ht : P.underlying t = some (.slice e))
    (hinfo : (P.info? e).map (fun i => (i.zero, i.size, i.bytes)) = some (some z, dk.sz, bytes)) (hz : z.cells.size = dk.sz) (hs0 : 0 < dk.sz) (hb0 : 0 < bytes) (hl : (xs.length + ys.length) * bytes ≤ 140737488355328)
    (k : ∀ a' W' v' M', Hd a' n ((d, v') :: L) → Row dk e b w0 R v' (xs ++ ys) M' → St b w0 W' R (M' :: Ms) → K a' W') : o.wp P a W K Q := by
  obtain ⟨v', W', M', hr, g1, g2⟩ := append_take (ty := o.type) h1 h2 hS ht hinfo hz hs0 hb0 hl
  exact owp_val h hd hk (exec_append hop hs hx hr) fun a' h' => k a' _ _ _ h' g1 g2
theorem owp_app_keep {s x : Operand} {u : Value} {t e : Nat} {z : Value} {bytes : Nat} (h : Hd a n L) (hd : o.dst = some d) (hk : (Nat.blt d n && noSel o && okOp L o) = true)
    (hop : o.op = .call { callee := .builtin .append, args := #[s, x], argTypes := #[t, t] }) (hs : ev L s = some v) (hx : ev L x = some u) (hno : ∀ {R x cs M}, dk.rep b w0 R x cs M → M = [])
    (h1 : Row dk e b w0 R v xs M) (h2 : Row dk E b w0 R u ys M2) (hS : St b w0 W R (M :: M2 :: Ms)) (ht : P.underlying t = some (.slice e))
    (hinfo : (P.info? e).map (fun i => (i.zero, i.size, i.bytes)) = some (some z, dk.sz, bytes)) (hz : z.cells.size = dk.sz) (hs0 : 0 < dk.sz) (hb0 : 0 < bytes) (hl : (xs.length + ys.length) * bytes ≤ 140737488355328)
    (k : ∀ a' W' v' M', Hd a' n ((d, v') :: L) → Row dk e b w0 R v' (xs ++ ys) M' → St b w0 W' R (M' :: M2 :: Ms) → K a' W') : o.wp P a W K Q := by
  obtain ⟨v', W', M', hr, g1, g2⟩ := append_keep (ty := o.type) hno h1 h2 hS ht hinfo hz hs0 hb0 hl
  exact owp_val h hd hk (exec_append hop hs hx hr) fun a' h' => k a' _ _ _ h' g1 g2
theorem owp_app_rds {s x : Operand} {u : Value} {t e : Nat} {z : Value} {bytes : Nat} (h : Hd a n L) (hd : o.dst = some d) (hk : (Nat.blt d n && noSel o && okOp L o) = true)
    (hop : o.op = .call { callee := .builtin .append, args := #[s, x], argTypes := #[t, t] }) (hs : ev L s = some v) (hx : ev L x = some u) (hf : dk.Flat)
    (h1 : Row dk e b w0 R v xs M) (h2 : Rds dk b w0 R u ys) (hS : St b w0 W R (M :: Ms)) (ht : P.underlying t = some (.slice e))
    (hinfo : (P.info? e).map (fun i => (i.zero, i.size, i.bytes)) = some (some z, dk.sz, bytes)) (hz : z.cells.size = dk.sz) (hs0 : 0 < dk.sz) (hb0 : 0 < bytes) (hl : (xs.length + ys.length) * bytes ≤ 140737488355328)
    (k : ∀ a' W' v' M', Hd a' n ((d, v') :: L) → Row dk e b w0 R v' (xs ++ ys) M' → St b w0 W' R (M' :: Ms) → K a' W') : o.wp P a W K Q := by
  obtain ⟨v', W', M', hr, g1, g2⟩ := append_rds (ty := o.type) hf h1 h2 hS ht hinfo hz hs0 hb0 hl
  exact owp_val h hd hk (exec_append hop hs hx hr) fun a' h' => k a' _ _ _ h' g1 g2
theorem owp_app_str {s x : Operand} {l : List UInt8} {xs : List Int} {t tx e : Nat} (h : Hd a n L) (hd : o.dst = some d) (hk : (Nat.blt d n && noSel o && okOp L o) = true)
    (hop : o.op = .call { callee := .builtin .append, args := #[s, x], argTypes := #[t, tx] }) (hs : ev L s = some v) (hx : ev L x = some (.string (mkS l)))
    (h1 : Row (kInt .u8) e b w0 R v xs M) (hS : St b w0 W R (M :: Ms)) (ht : P.underlying t = some (.slice e)) (htx : P.underlying tx = some .string)
    (hinfo : (P.info? e).map (fun i => (i.zero, i.size, i.bytes)) = some (some (.int .u8 0), 1, 1)) (hl : xs.length + l.length ≤ 140737488355328)
    (k : ∀ a' W' v' M', Hd a' n ((d, v') :: L) → Row (kInt .u8) e b w0 R v' (xs ++ ofS l) M' → St b w0 W' R (M' :: Ms) → K a' W') : o.wp P a W K Q := by
  obtain ⟨v', W', M', hr, g1, g2⟩ := append_str (ty := o.type) h1 hS ht htx hinfo hl
  exact owp_val h hd hk (exec_append hop hs hx hr) fun a' h' => k a' _ _ _ h' g1 g2
/-- A literal '[]T{..}'. -/
theorem Row.lit {g : Nat} {cs : List Value} {Mi : Frag} (hr : Reps dk b w0 R xs cs Mi) (hm : xs.length ≤ maxLen) : Row dk E b w0 R (.slice (some ⟨g, 0, none⟩) xs.length xs.length) xs ((g, .cells cs.toArray E (0, 0)) :: Mi) :=
  ⟨cs, [(g, .cells cs.toArray E (0, 0))], Mi, by simpa using RowC.lit (E := E) (sz := dk.sz) g cs [] xs.length xs.length hr.len (by rw [hr.len]; simp) (Nat.le_refl _) hm, rfl, hr⟩

/-! #### cuts -/
def loOf (L : LF) : Option Operand → Int → Prop
  | none, l => l = 0
  | some x, l => ∃ k, ev L x = some (.int k l)
def hiOf (L : LF) (len : Nat) : Option Operand → Int → Prop
  | none, h => h = len
  | some x, h => ∃ k, ev L x = some (.int k h)
theorem run_cut {t e : Nat} {x : Operand} {lo hi : Option Operand} {A : Option Addr} {len cap : Nat} {l h : Int} {sz : Nat} (hop : o.op = .slice t x lo hi none) (hx : ev L x = some (.slice A len cap)) (ht : P.underlying t = some (.slice e))
    (hsz : (P.info? e).map (·.size) = some sz) (hlo : loOf L lo l) (hhi : hiOf L len hi h) (h0 : 0 ≤ l) (h1 : l ≤ h) (h2 : h ≤ cap) (hlc : len ≤ cap) : (execOp (evT L) o).run P W = .ok (.value (sliced A l.toNat h.toNat cap sz)) W := by
  obtain ⟨i0, hi0, rfl⟩ := Option.map_eq_some_iff.1 hsz
  have hE : P.elem t = e := by simp [Program.elem, ht]
  have ht' : P.underlying t = some (.slice (P.elem t)) := by rw [hE]; exact ht
  have hs : ∀ w, (sizeOf (P.elem t)).run P w = .ok i0.size w := fun w => by rw [hE]; simp [sizeOf, typeInfo, hi0]
  unfold execOp
  simp only [hop, ev_eval hx]
  rw [show (Instr.sliceAt t (.slice A len cap) (lo.map (evT L)) (hi.map (evT L)) (Option.map (evT L) none)) = Instr.sliceAt t (.slice A len cap) (lo.map (evT L)) (hi.map (evT L)) none from rfl]
  simp only [Sem.run_bind, run_sliceAt_slice W t _ _ _ _ ht']
  cases lo with
  | none =>
    simp only [loOf] at hlo
    subst hlo
    cases hi with
    | none =>
      simp only [hiOf] at hhi
      subst hhi
      simp only [Option.map_none]
      rw [run_slice_all W t A len cap ht']
      simp [hs]
    | some y =>
      obtain ⟨k2, hy⟩ := hhi
      simp only [Option.map_none, Option.map_some, ev_eval hy]
      rw [run_slice_h W t A len cap ht' k2 h h1 h2]
      simp [hs]
  | some y =>
    obtain ⟨k1, hy⟩ := hlo
    cases hi with
    | none =>
      simp only [hiOf] at hhi
      subst hhi
      simp only [Option.map_none, Option.map_some, ev_eval hy]
      rw [run_slice_l W t A len cap ht' k1 l h0 h1]
      simp [hs]
    | some y2 =>
      obtain ⟨k2, hy2⟩ := hhi
      simp only [Option.map_some, ev_eval hy, ev_eval hy2]
      rw [run_slice_lh W t A len cap ht' k1 k2 l h h0 h1 h2]
      simp [hs]
theorem Rds.cut {A : Option Addr} {c : Nat} (hr : Rds dk b w0 R (.slice A xs.length c) xs) {l h : Nat} (h1 : l ≤ h) (h2 : h ≤ xs.length) : Rds dk b w0 R (sliced A l h c dk.sz) ((xs.take h).drop l) := by
  obtain ⟨A', c', e, g1, g2, g3⟩ := hr
  injection e with e1 e2 e3
  subst e1
  subst e3
  have hlen : ((xs.take h).drop l).length = h - l := by simp; omega
  refine ⟨if c = l then A else A.map (·.add (l * dk.sz)), c - l, by unfold sliced; rw [hlen], by omega, by omega, fun i x hx => ?_⟩
  rw [List.getElem?_drop, List.getElem?_take] at hx
  split at hx
  · obtain ⟨ad, cs, rfl, hs, hrd, hk⟩ := g3 (l + i) x hx
    have hlt : l + i < xs.length := by
      obtain ⟨q, _⟩ := List.getElem?_eq_some_iff.1 hx
      exact q
    rw [if_neg (by omega)]
    refine ⟨ad.add (l * dk.sz), cs, rfl, ?_, hrd, fun j u hj => ?_⟩
    · unfold Addr.add
      split <;> simp [hs]
    · have := hk j u hj
      have e : (ad.add (l * dk.sz)).add (i * dk.sz + j) = ad.add ((l + i) * dk.sz + j) := by
        rcases ad with ⟨g, off, sp⟩
        simp only at hs
        subst hs
        simp only [Addr.add_lit]
        rw [Nat.add_mul]
        simp [Nat.add_assoc]
      rw [e]
      exact this
  · cases hx
theorem owp_cut_rds {t e : Nat} {x : Operand} {lo hi : Option Operand} {l h : Int} (hh : Hd a n L) (hd : o.dst = some d) (hk : (Nat.blt d n && noSel o && okOp L o) = true) (hop : o.op = .slice t x lo hi none) (hx : ev L x = some v)
    (hr : Rds dk b w0 R v xs) (ht : P.underlying t = some (.slice e)) (hsz : (P.info? e).map (·.size) = some dk.sz) (hlo : loOf L lo l) (hhi : hiOf L xs.length hi h) (h0 : 0 ≤ l) (h1 : l ≤ h) (h2 : h ≤ xs.length)
    (k : ∀ a' v', Hd a' n ((d, v') :: L) → Rds dk b w0 R v' ((xs.take h.toNat).drop l.toNat) → K a' W) : o.wp P a W K Q := by
  obtain ⟨A, c, rfl, g1, _⟩ := id hr
  exact owp_val hh hd hk (run_cut hop hx ht hsz hlo hhi h0 h1 (by omega) g1) fun a' h' => k a' _ h' (hr.cut (by omega) (by omega))
theorem RowC.cut {sz n : Nat} {cs : List Value} {blk : Frag} {A : Option Addr} {c : Nat} (h : RowC E sz (.slice A n c) n cs blk) {l hi : Nat} (h1 : l ≤ hi) (h2 : hi ≤ n) : RowC E sz (sliced A l hi c sz) (hi - l) ((cs.take (hi * sz)).drop (l * sz)) blk := by
  rcases h with ⟨e, rfl, rfl, rfl⟩ | ⟨g, off, cap, pre, post, e, rfl, rfl, hl, hc, hn, hm⟩
  · injection e with e1 e2 e3
    subst e1
    subst e3
    have hl0 : l = 0 := by omega
    have hh0 : hi = 0 := by omega
    subst hl0
    subst hh0
    exact .inl ⟨by simp [sliced], rfl, by simp, rfl⟩
  · injection e with e1 e2 e3
    subst e1
    subst e3
    have q1 : l * sz ≤ hi * sz := Nat.mul_le_mul_right _ h1
    have q2 : hi * sz ≤ n * sz := Nat.mul_le_mul_right _ h2
    have q3 : n * sz ≤ c * sz := Nat.mul_le_mul_right _ hn
    by_cases he : c = l
    · have : hi = l := by omega
      subst this
      have hz : (cs.take (hi * sz)).drop (hi * sz) = [] := by
        rw [List.drop_eq_nil_iff]
        simp
        omega
      refine .inr ⟨g, pre.length, c - hi, pre, cs ++ post, by simp [sliced, he], by rw [hz]; simp, rfl, by rw [hz]; simp, by rw [hz]; subst he; simp, by omega, by omega⟩
    · refine .inr ⟨g, pre.length + l * sz, c - l, pre ++ cs.take (l * sz), cs.drop (hi * sz) ++ post, ?_, ?_, by simp; omega, by simp [Nat.sub_mul]; omega, ?_, by omega, by omega⟩
      · unfold sliced
        rw [if_neg he]
        simp [Addr.add_lit]
      · have e3 : cs.take (l * sz) ++ ((cs.take (hi * sz)).drop (l * sz) ++ cs.drop (hi * sz)) = cs := by
          rw [← List.append_assoc]
          have : cs.take (l * sz) = (cs.take (hi * sz)).take (l * sz) := by rw [List.take_take, Nat.min_eq_left q1]
          rw [this, List.take_append_drop, List.take_append_drop]
        have e4 : pre ++ cs ++ post = pre ++ List.take (l * sz) cs ++ List.drop (l * sz) (List.take (hi * sz) cs) ++ (List.drop (hi * sz) cs ++ post) := by
          have := congrArg (fun q => pre ++ q ++ post) e3
          simp only [List.append_assoc] at this ⊢
          exact this.symm
        rw [e4]
      · rw [Nat.sub_mul]
        simp
        omega
theorem Reps.cut {l hi : Nat} {cs : List Value} (h1 : l ≤ hi) (hr : Reps dk b w0 R xs cs M) : ∃ M1 Mx M2, M = M1 ++ Mx ++ M2 ∧ Reps dk b w0 R (xs.take l) (cs.take (l * dk.sz)) M1 ∧ Reps dk b w0 R ((xs.take hi).drop l) ((cs.take (hi * dk.sz)).drop (l * dk.sz)) Mx ∧ Reps dk b w0 R (xs.drop hi) (cs.drop (hi * dk.sz)) M2 := by
  have sp : ∀ {xs : List α} {cs : List Value} {M : Frag} (k : Nat), Reps dk b w0 R xs cs M → ∃ M1 M2, M = M1 ++ M2 ∧ Reps dk b w0 R (xs.take k) (cs.take (k * dk.sz)) M1 ∧ Reps dk b w0 R (xs.drop k) (cs.drop (k * dk.sz)) M2 := by
    intro xs
    induction xs with
    | nil =>
      intro cs M k h
      obtain ⟨rfl, rfl⟩ := h
      exact ⟨[], [], rfl, by simpa using ⟨rfl, rfl⟩, by simpa using ⟨rfl, rfl⟩⟩
    | cons x xs ih =>
      intro cs M k h
      cases k with
      | zero => exact ⟨[], M, rfl, by simpa using ⟨rfl, rfl⟩, by simpa using h⟩
      | succ k =>
        obtain ⟨c1, c2, M1, M2, rfl, rfl, g1, g2⟩ := h
        obtain ⟨N1, N2, rfl, q1, q2⟩ := ih k g2
        have hl := dk.rep_len g1
        refine ⟨M1 ++ N1, N2, by simp, ?_, ?_⟩
        · rw [List.take_succ_cons, Nat.add_mul, Nat.one_mul, List.take_append, (show List.take (k * dk.sz + dk.sz) c1 = c1 from List.take_of_length_le (by omega)), (show k * dk.sz + dk.sz - c1.length = k * dk.sz by omega)]
          exact ⟨c1, _, M1, N1, rfl, rfl, g1, q1⟩
        · rw [List.drop_succ_cons, Nat.add_mul, Nat.one_mul, List.drop_append, (show List.drop (k * dk.sz + dk.sz) c1 = [] from List.drop_eq_nil_of_le (by omega)), List.nil_append, (show k * dk.sz + dk.sz - c1.length = k * dk.sz by omega)]
          exact q2
  obtain ⟨M1, M2, rfl, g1, g2⟩ := sp hi hr
  obtain ⟨N1, N2, rfl, q1, q2⟩ := sp l g1
  rw [List.take_take, Nat.min_eq_left h1] at q1
  rw [List.take_take, Nat.min_eq_left (Nat.mul_le_mul_right _ h1)] at q1
  exact ⟨N1, N2, M2, rfl, q1, q2, g2⟩
/-- A cut of a row of one's own: it stays one; what is cut off is let go. -/
theorem owp_cut_row {t e : Nat} {x : Operand} {lo hi : Option Operand} {l h : Int} (hh : Hd a n L) (hd : o.dst = some d) (hk : (Nat.blt d n && noSel o && okOp L o) = true) (hop : o.op = .slice t x lo hi none) (hx : ev L x = some v)
    (hr : Row dk E b w0 R v xs M) (hS : St b w0 W R (M :: Ms)) (ht : P.underlying t = some (.slice e)) (hsz : (P.info? e).map (·.size) = some dk.sz) (hlo : loOf L lo l) (hhi : hiOf L xs.length hi h) (h0 : 0 ≤ l) (h1 : l ≤ h) (h2 : h ≤ xs.length)
    (k : ∀ a' v' M', Hd a' n ((d, v') :: L) → Row dk E b w0 R v' ((xs.take h.toNat).drop l.toNat) M' → St b w0 W R (M' :: Ms) → K a' W) : o.wp P a W K Q := by
  obtain ⟨A, c, rfl, g1, _⟩ := hr.slice
  obtain ⟨cs, blk, Mi, q1, rfl, q3⟩ := hr
  obtain ⟨M1, Mx, M2, rfl, r1, r2, r3⟩ := q3.cut (l := l.toNat) (hi := h.toNat) (by omega)
  refine owp_val hh hd hk (run_cut hop hx ht hsz hlo hhi h0 h1 (by omega) g1) fun a' h' => k a' _ (blk ++ Mx) h' ?_ ?_
  · have := q1.cut (l := l.toNat) (hi := h.toNat) (by omega) (by omega)
    refine ⟨_, blk, Mx, ?_, rfl, r2⟩
    have hlen : ((xs.take h.toNat).drop l.toNat).length = h.toNat - l.toNat := by simp; omega
    rw [hlen]
    exact this
  · have : St b w0 W R ((M1 ++ M2) :: (blk ++ Mx) :: Ms) := by
      refine hS.perm (List.Perm.append_left R ?_)
      simp only [List.flatten_cons, ← List.append_assoc]
      refine List.Perm.append_right _ ?_
      have e1 : (blk ++ M1).Perm (M1 ++ blk) := List.perm_append_comm
      have e2 : (blk ++ M1 ++ Mx ++ M2).Perm (M1 ++ blk ++ Mx ++ M2) := (e1.append_right Mx).append_right M2
      have e3 : (blk ++ Mx ++ M2).Perm (M2 ++ (blk ++ Mx)) := List.perm_append_comm
      have e4 := e3.append_left M1
      refine List.Perm.trans (by simpa [List.append_assoc] using e2) ?_
      simpa [List.append_assoc] using e4
    exact this.drop_

/-! #### indexes -/
theorem owp_idx {t e : Nat} {x y : Operand} {ad : Addr} {len cap : Nat} {k : IntKind} {i : Int} {sz : Nat} (hh : Hd a n L) (hd : o.dst = some d) (hk : (Nat.blt d n && noSel o && okOp L o) = true) (hop : o.op = .indexAddr t x y) (hx : ev L x = some (.slice (some ad) len cap))
    (hy : ev L y = some (.int k i)) (ht : P.underlying t = some (.slice e)) (hsz : (P.info? e).map (·.size) = some sz) (h0 : 0 ≤ i) (h1 : i < len) (kk : ∀ a', Hd a' n ((d, .pointer (some (ad.add (i.toNat * sz)))) :: L) → K a' W) : o.wp P a W K Q := by
  obtain ⟨i0, hi0, rfl⟩ := Option.map_eq_some_iff.1 hsz
  have hE : P.elem t = e := by simp [Program.elem, ht]
  refine owp_val hh hd hk (v := .pointer (some (ad.add (i.toNat * i0.size)))) (W' := W) ?_ kk
  unfold execOp
  simp only [hop, ev_eval hx, ev_eval hy, Sem.run_bind, run_indexAt_slice W t ad len cap k i (by rw [hE]; exact ht)]
  rw [if_pos ⟨h0, h1⟩, hE]
  simp [sizeOf, typeInfo, hi0]
/-- Element i of what is read: its cells. -/
theorem Rds.elem {A : Option Addr} {len c : Nat} (hr : Rds dk b w0 R (.slice A len c) xs) (hkn : ∀ a u, Kn b w0 R a u → W.cell? a = some u) {i : Int} {x : α} (h0 : 0 ≤ i) (hx : xs[i.toNat]? = some x) :
    ∃ ad cs, A = some ad ∧ len = xs.length ∧ i < len ∧ dk.rd b w0 R x cs ∧ ∀ j u, cs[j]? = some u → W.cell? ((ad.add (i.toNat * dk.sz)).add j) = some u := by
  obtain ⟨A', c', e, g1, g2, g3⟩ := hr
  injection e with e1 e2 e3
  subst e1
  obtain ⟨ad, cs, rfl, hs, hrd, hk⟩ := g3 i.toNat x hx
  obtain ⟨hlt, _⟩ := List.getElem?_eq_some_iff.1 hx
  refine ⟨ad, cs, rfl, e2, by omega, hrd, fun j u hj => ?_⟩
  have := hkn _ u (hk j u hj)
  rcases ad with ⟨g, off, sp⟩
  simp only at hs
  subst hs
  simp only [Addr.add_lit] at this ⊢
  rw [Nat.add_assoc]
  exact this
/-! #### strings -/
theorem mkS_append (l l' : List UInt8) : mkS l ++ mkS l' = mkS (l ++ l') := by
  apply ByteArray.ext
  simp [mkS]
theorem mkS_size (l : List UInt8) : (mkS l).size = l.length := rfl
theorem mkS_extract (l : List UInt8) (i j : Nat) : (mkS l).extract i j = mkS ((l.drop i).take (j - i)) := by
  rw [Lib.extract_eq]
  rfl
theorem mkS_toList (l : List UInt8) : (mkS l).toList = l := by rw [Lib.toList_data]; rfl
theorem run_binstr {op : BinOp} {t t' : Nat} {x y : Operand} {l l' : List UInt8} (hop : o.op = .binOp op t x y t') (hx : ev L x = some (.string (mkS l))) (hy : ev L y = some (.string (mkS l'))) {v : Value}
    (hr : (Op.stringOp op (mkS l) (mkS l')).run P W = .ok v W) (hb : op ≠ .shl ∧ op ≠ .shr) : (execOp (evT L) o).run P W = .ok (.value v) W := by
  unfold execOp
  have hg : (eqGuard op t x y (.string (mkS l)) (.string (mkS l'))).run P W = .ok () W := by cases op <;> rfl
  have hbin : binOp op t (.string (mkS l)) (.string (mkS l')) = Op.stringOp op (mkS l) (mkS l') := by cases op <;> first | rfl | simp at hb
  simp only [hop, ev_eval hx, ev_eval hy, Sem.run_bind, hg, Result.andThen_ok, hbin, hr]
  rfl
theorem owp_concat {t t' : Nat} {x y : Operand} {l l' : List UInt8} (hh : Hd a n L) (hd : o.dst = some d) (hk : (Nat.blt d n && noSel o && okOp L o) = true) (hop : o.op = .binOp .add t x y t') (hx : ev L x = some (.string (mkS l))) (hy : ev L y = some (.string (mkS l')))
    (hl : l.length + l'.length ≤ 9223372036854775807) (k : ∀ a', Hd a' n ((d, .string (mkS (l ++ l'))) :: L) → K a' W) : o.wp P a W K Q := by
  refine owp_val hh hd hk (run_binstr hop hx hy ?_ ⟨by decide, by decide⟩) k
  have : ¬ (((mkS l).size + (mkS l').size : Nat) : Int) > IntKind.i64.max := by
    rw [mkS_size, mkS_size, show IntKind.i64.max = 9223372036854775807 from rfl]
    omega
  simp only [Op.stringOp]
  rw [if_neg this, mkS_append]
  rfl
theorem run_streq {t t' : Nat} {x y : Operand} {l l' : List UInt8} (hop : o.op = .binOp .eql t x y t') (hx : ev L x = some (.string (mkS l))) (hy : ev L y = some (.string (mkS l'))) : (execOp (evT L) o).run P W = .ok (.value (.bool (decide (l = l')))) W := by
  refine run_binstr hop hx hy ?_ ⟨by decide, by decide⟩
  simp only [Op.stringOp, mkS_toList]
  rw [show (l == l') = decide (l = l') by by_cases e : l = l' <;> simp [e]]
  rfl
theorem run_strne {t t' : Nat} {x y : Operand} {l l' : List UInt8} (hop : o.op = .binOp .neq t x y t') (hx : ev L x = some (.string (mkS l))) (hy : ev L y = some (.string (mkS l'))) : (execOp (evT L) o).run P W = .ok (.value (.bool (!decide (l = l')))) W := by
  refine run_binstr hop hx hy ?_ ⟨by decide, by decide⟩
  simp only [Op.stringOp, mkS_toList]
  rw [show (l == l') = decide (l = l') by by_cases e : l = l' <;> simp [e]]
  rfl
theorem run_strcut {t : Nat} {x : Operand} {lo hi : Option Operand} {s : List UInt8} {l h : Int} (hop : o.op = .slice t x lo hi none) (hx : ev L x = some (.string (mkS s))) (ht : P.underlying t = some .string)
    (hlo : loOf L lo l) (hhi : hiOf L s.length hi h) (h0 : 0 ≤ l) (h1 : l ≤ h) (h2 : h ≤ s.length) : (execOp (evT L) o).run P W = .ok (.value (.string (mkS ((s.take h.toNat).drop l.toNat)))) W := by
  have e : mkS ((s.take h.toNat).drop l.toNat) = (mkS s).extract l.toNat h.toNat := by
    rw [mkS_extract, List.drop_take]
  rw [e]
  unfold execOp
  simp only [hop, ev_eval hx, Option.map_none, Sem.run_bind, run_sliceAt_string W t _ _ _ _ ht]
  have h2' : h ≤ ((mkS s).size : Int) := h2
  cases lo with
  | none =>
    simp only [loOf] at hlo
    subst hlo
    cases hi with
    | none =>
      simp only [hiOf] at hhi
      subst hhi
      simp only [Option.map_none]
      rw [run_slice_string_all W t _ ht]
      rfl
    | some y =>
      obtain ⟨k2, hy⟩ := hhi
      simp only [Option.map_none, Option.map_some, ev_eval hy]
      rw [run_slice_string_h W t _ ht k2 h h1 h2']
      rfl
  | some y =>
    obtain ⟨k1, hy⟩ := hlo
    cases hi with
    | none =>
      simp only [hiOf] at hhi
      subst hhi
      simp only [Option.map_none, Option.map_some, ev_eval hy]
      rw [run_slice_string_l W t (mkS s) ht k1 l h0 h1]
      rfl
    | some y2 =>
      obtain ⟨k2, hy2⟩ := hhi
      simp only [Option.map_some, ev_eval hy, ev_eval hy2]
      have := run_slice_string_if (P := P) W t (mkS s) k1 k2 l h ht
      rw [this]
      simp only [show (0 ≤ h ∧ h ≤ ((mkS s).size : Int)) from ⟨by omega, h2'⟩, if_true, show (0 ≤ l ∧ l ≤ h) from ⟨h0, h1⟩]
      rfl
theorem run_stridx {t : Nat} {x y : Operand} {s : List UInt8} {k : IntKind} {i : Int} (hop : o.op = .index t x y) (hx : ev L x = some (.string (mkS s))) (hy : ev L y = some (.int k i)) (ht : P.underlying t = some .string) (h0 : 0 ≤ i) (h1 : i < s.length) :
    (execOp (evT L) o).run P W = .ok (.value (.int .u8 (btI s i))) W := by
  unfold execOp
  simp only [hop, ev_eval hx, ev_eval hy, Sem.run_bind, run_index_string W t _ k i ht]
  have h1' : i < ((mkS s).size : Int) := h1
  rw [dif_pos ⟨h0, h1'⟩]
  have h2 : i.toNat < s.length := by omega
  have e : (mkS s)[i.toNat]'(by rw [mkS_size]; exact h2) = s[i.toNat] := rfl
  simp only [Result.andThen_ok, e]
  simp [btI, List.getD_eq_getElem?_getD, List.getElem?_eq_getElem h2]
/-- string(b). -/
theorem toS_mk (xs : List Int) : strOfNums xs = mkS (toS xs) := rfl
theorem run_tostr {t e ts : Nat} {x : Operand} {xs : List Int} (hop : o.op = .convert t ts x) (hx : ev L x = some v) (hr : Rds (kInt .u8) b w0 R v xs) (hkn : ∀ a u, Kn b w0 R a u → W.cell? a = some u)
    (ht : P.underlying t = some (.slice e)) (he : P.underlying e = some (.int .u8)) (hs : P.underlying ts = some .string) : (execOp (evT L) o).run P W = .ok (.value (.string (mkS (toS xs)))) W := by
  obtain ⟨A, c, rfl, g1, g2, g3⟩ := hr
  have hc : (convert t ts (.slice A xs.length c)).run P W = .ok (.string (mkS (toS xs))) W := by
    cases A with
    | none =>
      have hx0 : xs = [] := by
        cases xs with
        | nil => rfl
        | cons x xs =>
          obtain ⟨ad, _, ha, _⟩ := g3 0 x rfl
          cases ha
      subst hx0
      exact run_convert_bytes_nil W t e ht he 0 c ts hs
    | some ad =>
      have hsp : xs ≠ [] → ad.spot = none := fun hne => by
        cases xs with
        | nil => exact absurd rfl hne
        | cons x xs =>
          obtain ⟨ad', _, ha, hs, _⟩ := g3 0 x rfl
          injection ha with ha
          rw [ha]
          exact hs
      by_cases hne : xs = []
      · subst hne
        rw [List.length_nil, run_convert_bytes_string W t ts e _ 0 c ht he hs]
        simp [Conv.bytesToString, loadCells, loadCellsFrom]
        rfl
      · rcases ad with ⟨g, off, sp⟩
        have := hsp hne
        simp only at this
        subst this
        rw [← toS_mk]
        refine run_convert_bytes_arg W t e ht he g off xs.length c xs rfl (fun i hi => ?_) ts hs
        obtain ⟨ad, cs, ha, _, hrd, hk⟩ := g3 i xs[i] (List.getElem?_eq_getElem hi)
        injection ha with ha
        subst ha
        have hcs : cs = [.int .u8 xs[i]] := hrd
        subst hcs
        have := hkn _ _ (hk 0 _ rfl)
        rw [Addr.add_lit] at this
        simpa [kInt, kOne, List.getD_eq_getElem?_getD, List.getElem?_eq_getElem hi] using this
  unfold execOp
  simp only [hop, ev_eval hx, Sem.run_bind, hc]
  rfl
/-! #### what reckons, in a region that does not draw: as a step -/
theorem owp_run (hh : Hd a n L) (hd : o.dst = some d) (hk : (Nat.blt d n && noSel o && okOp L o) = true) (hrun : (execOp (evT L) o).run P W = .ok (.value v) W) (k : ∀ a', Hd a' n ((d, v) :: L) → K a' W) : o.wp P a W K Q := owp_val hh hd hk hrun k
/-! #### clear -/
theorem RowC.fill {sz n : Nat} {cs blk} (h : RowC E sz v n cs blk) (hS : St b w0 W R (blk :: Ms)) {t e ty : Nat} {z : Value} (ht : P.underlying t = some (.slice e)) (hinfo : (P.info? e).map (fun i => (i.zero, i.size)) = some (some z, sz)) (hz : z.cells.size = sz)
    (h1 : ∀ u ∈ z.cells.toList, u.oneCell' = true) : ∃ W' blk', (Builtin.clear_ #[t] ty #[v]).run P W = .ok (.tuple #[]) W' ∧ RowC E sz v n (Builtin.zeroCells z.cells n).toList blk' ∧ St b w0 W' R (blk' :: Ms) := by
  obtain ⟨i0, hi, hzz⟩ := Option.map_eq_some_iff.1 hinfo
  simp only [Prod.mk.injEq] at hzz
  obtain ⟨hz0, hz1⟩ := hzz
  have hzl : (Builtin.zeroCells z.cells n).toList.length = n * sz := by simp [Builtin.zeroCells, hz]
  have hone : ∀ u ∈ (Builtin.zeroCells z.cells n).toList, u.oneCell' = true := by
    intro u hu
    simp only [Builtin.zeroCells, Array.toList_map, List.mem_map, Array.mem_toList_iff, Array.mem_range] at hu
    obtain ⟨j, hj, rfl⟩ := hu
    have hp : 0 < z.cells.size := by
      rcases Nat.eq_zero_or_pos z.cells.size with h0 | h0
      · rw [h0] at hj; omega
      · exact h0
    have hlt := Nat.mod_lt j hp
    rw [getElem!_pos z.cells _ hlt]
    exact h1 _ (Array.mem_toList_iff.2 (Array.getElem_mem hlt))
  rcases h with ⟨rfl, rfl, rfl, rfl⟩ | ⟨g, off, cap, pre, post, rfl, rfl, rfl, hl, hc, hn, hm⟩
  · refine ⟨W, [], ?_, .inl ⟨rfl, rfl, by simp [Builtin.zeroCells], rfl⟩, hS⟩
    simp [Builtin.clear_, run_underlying ht]
  · have hb := hS.blk
    obtain ⟨Z, hZ⟩ : ∃ Z, Z = (Builtin.zeroCells z.cells n).toList := ⟨_, rfl⟩
    rw [← hZ] at hzl hone
    have hst := run_storeCells_at (P := P) g pre.length E Z 0 (pre ++ cs ++ post).toArray W hb (by simp; omega) hone
    simp only [Nat.add_zero] at hst
    have ew : (pre ++ cs ++ post).take pre.length ++ Z ++ (pre ++ cs ++ post).drop (pre.length + Z.length) = pre ++ Z ++ post := by
      have e1 : Z.length = cs.length := by omega
      rw [e1, ← List.length_append, List.drop_left', List.append_assoc pre cs post, List.take_left']
      · rfl
      · rfl
    rw [ew] at hst
    refine ⟨W.setRow g (pre ++ Z ++ post).toArray, [(g, .cells (pre ++ Z ++ post).toArray E (0, 0))], ?_, .inr ⟨g, pre.length, cap, pre, post, rfl, by rw [hZ], rfl, by rw [← hZ]; exact hzl, by rw [← hZ, hzl]; omega, hn, hm⟩, ?_⟩
    rw [hZ] at hst ⊢
    · cases n with
      | zero =>
        have e0 : (Builtin.zeroCells z.cells 0).toList = [] := by simp [Builtin.zeroCells]
        have ec : cs = [] := List.eq_nil_of_length_eq_zero (by simpa using hl)
        subst ec
        have hs0 : W.setRow g (pre ++ ([] : List Value) ++ post).toArray = W := setRow_self W g _ E (0, 0) hb
        rw [e0, hs0]
        simp [Builtin.clear_, run_underlying ht]
      | succ n =>
        simp only [Builtin.clear_, List.getElem?_toArray]
        simp [run_underlying ht, zeroValue, typeInfo, hi, hz0, hst]
    · refine St.turn (m := []) hS rfl rfl rfl (by simp [World.setRow]) (setRow_heap W g _ _ E (0, 0) hb) fun k _ hk => ?_
      simp only [World.setRow, Array.getElem?_modify]
      rw [if_neg (by omega)]
end
end Go.Proofs.Sl
