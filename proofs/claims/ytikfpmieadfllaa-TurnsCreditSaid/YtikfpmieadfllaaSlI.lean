/- Elements of a row that turn; a cut that is kept; a literal []byte(".."). -/
import Derived.Test.YtikfpmieadfllaaSlH
set_option linter.unusedVariables false
set_option linter.unusedSimpArgs false
namespace Go.Proofs.Sl
open Go Go.RowKit
section
variable {P : Program} {Q : Exit → Act → World → Prop} {a : Act} {n : Nat} {L : LF} {W : World} {o : Oper} {K : Act → World → Prop} {d : Nat} {v : Value}
  {b : Nat} {w0 : World} {R R' : Frag} {Ms Ms' : List Frag} {m : Frag} {α : Type} {dk : Kd α} {E : Nat} {xs ys : List α} {M M2 : Frag}
/-- A store into element i, its cells from j on: the element is x' now, and all that it held is still held. -/
theorem owp_setelem {t : Nat} {x y : Operand} {A : Option Addr} {ad : Addr} {len c j : Nat} {i : Int} {x0 x' : α} {u : Value} {vs : List Value} (h : Hd a n L) (hd : o.dst = none) (hk : (noSel o && okOp L o) = true) (hop : o.op = .store t x y)
    (hx : ev L x = some (.pointer (some ((ad.add (i.toNat * dk.sz)).add j)))) (hy : ev L y = some u) (hv : u.cells = vs.toArray) (h1 : ∀ u ∈ vs, u.oneCell' = true) (hsz : (P.info? t).map (·.size) = some vs.length) (hA : A = some ad)
    (hr : Row dk E b w0 R (.slice A len c) xs M) (hS : St b w0 W R (M :: Ms)) (h0 : 0 ≤ i) (hi : xs[i.toNat]? = some x0) (hj : j + vs.length ≤ dk.sz)
    (hrep : ∀ cs Mx, dk.rep b w0 R x0 cs Mx → dk.rep b w0 R x' (cs.take j ++ vs ++ cs.drop (j + vs.length)) Mx)
    (k : ∀ a' W' M', Hd a' n L → Row dk E b w0 R (.slice A len c) (xs.set i.toNat x') M' → St b w0 W' R (M' :: Ms) → K a' W') : o.wp P a W K Q := by
  subst hA
  obtain ⟨cs, blk, Mi, q1, rfl, q3⟩ := hr
  obtain ⟨hlt, _⟩ := List.getElem?_eq_some_iff.1 hi
  obtain ⟨c1, cx, c2, M1, Mx, M2, rfl, rfl, g1, g, g2⟩ := q3.at_ hi
  have hl1 := g1.take_len (Nat.le_of_lt hlt)
  have hlx := dk.rep_len g
  rcases q1 with ⟨e, h0', _⟩ | ⟨g', off, cap, pre, post, e, rfl, rfl, hl, hcp, hn, hmm⟩
  · omega
  injection e with e1 e2 e3
  injection e1 with e1
  subst e1
  subst e3
  subst e2
  have hS' : St b w0 W R (((g', .cells (pre ++ (c1 ++ cx ++ c2) ++ post).toArray E (0, 0)) :: (M1 ++ Mx ++ M2)) :: Ms) := hS
  have hb := hS'.blk
  have hx2 : ev L x = some (.pointer (some ⟨g', pre.length + i.toNat * dk.sz + j, none⟩)) := by
    rw [hx]
    simp only [Addr.add_lit]
  have hlen : pre.length + i.toNat * dk.sz + j + vs.length ≤ (pre ++ (c1 ++ cx ++ c2) ++ post).length := by
    simp only [List.length_append]
    omega
  refine owp_skip h hd hk (run_storeL hop hx2 hy hv h1 hsz hb hlen) fun a' h' => k a' _ ((g', .cells (pre ++ (c1 ++ (cx.take j ++ vs ++ cx.drop (j + vs.length)) ++ c2) ++ post).toArray E (0, 0)) :: (M1 ++ Mx ++ M2)) h' ?_ ?_
  · refine ⟨c1 ++ (cx.take j ++ vs ++ cx.drop (j + vs.length)) ++ c2, [_], M1 ++ Mx ++ M2, .inr ⟨g', pre.length, c, pre, post, by simp, rfl, rfl, ?_, ?_, ?_, hmm⟩, rfl, ?_⟩
    · simp only [List.length_append, List.length_take, List.length_drop, List.length_set] at hl ⊢
      omega
    · simp only [List.length_append, List.length_take, List.length_drop] at hcp ⊢
      omega
    · simpa using hn
    · exact g1.put (hrep _ _ g) g2 hlt
  · have ew : (pre ++ (c1 ++ cx ++ c2) ++ post).take (pre.length + i.toNat * dk.sz + j) ++ vs ++ (pre ++ (c1 ++ cx ++ c2) ++ post).drop (pre.length + i.toNat * dk.sz + j + vs.length) = pre ++ (c1 ++ (cx.take j ++ vs ++ cx.drop (j + vs.length)) ++ c2) ++ post := by
      have e1 : pre.length + i.toNat * dk.sz + j = (pre ++ c1).length + j := by simp [hl1]
      have e2 : pre.length + i.toNat * dk.sz + j + vs.length = (pre ++ c1).length + (j + vs.length) := by simp [hl1]; omega
      have e3 : pre ++ (c1 ++ cx ++ c2) ++ post = (pre ++ c1) ++ (cx ++ (c2 ++ post)) := by simp
      rw [e1, show (pre ++ c1).length + j + vs.length = (pre ++ c1).length + (j + vs.length) by omega, e3, List.take_length_add_append, List.drop_length_add_append, List.take_append_of_le_length (by omega), List.drop_append_of_le_length (by omega)]
      simp
    rw [ew]
    refine St.turn (m := M1 ++ Mx ++ M2) hS' rfl rfl rfl (by simp [World.setRow]) (setRow_heap W g' _ _ E (0, 0) hb) fun q _ hq => ?_
    simp only [World.setRow, Array.getElem?_modify]
    rw [if_neg (by omega)]
/-- A cut of a row of one's own, kept as a row: what is cut off is let go. -/
theorem Row.cut {A : Option Addr} {len c l h : Nat} (hr : Row dk E b w0 R (.slice A len c) xs M) (h1 : l ≤ h) (h2 : h ≤ xs.length) :
    ∃ M', Row dk E b w0 R (sliced A l h c dk.sz) ((xs.take h).drop l) M' ∧ ∀ W Ms, St b w0 W R (M :: Ms) → St b w0 W R (M' :: Ms) := by
  obtain ⟨A', c', e, g1, _⟩ := hr.slice
  injection e with e1 e2 e3
  subst e1
  subst e2
  subst e3
  obtain ⟨cs, blk, Mi, q1, rfl, q3⟩ := hr
  obtain ⟨M1, Mx, M2, rfl, r1, r2, r3⟩ := q3.cut h1
  refine ⟨blk ++ Mx, ?_, fun W Ms hS => ?_⟩
  · have := q1.cut h1 h2
    refine ⟨_, blk, Mx, ?_, rfl, r2⟩
    have hlen : ((xs.take h).drop l).length = h - l := by simp; omega
    rw [hlen]
    exact this
  · have : St b w0 W R ((M1 ++ M2) :: (blk ++ Mx) :: Ms) := by
      refine hS.perm (List.Perm.append_left R ?_)
      simp only [List.flatten_cons, ← List.append_assoc]
      refine List.Perm.append_right _ ?_
      have e1 : (blk ++ M1).Perm (M1 ++ blk) := List.perm_append_comm
      have e2 : (blk ++ M1 ++ Mx ++ M2).Perm (M1 ++ blk ++ Mx ++ M2) := (e1.append_right Mx).append_right M2
      have e3 : (blk ++ Mx ++ M2).Perm (M2 ++ (blk ++ Mx)) := List.perm_append_comm
      have e4 := e3.append_left M1
      refine List.Perm.trans (by simpa [List.append_assoc] using e2) ?_
      simpa [List.append_assoc] using e4
    exact this.drop_
theorem up {M R : Frag} : ∀ p ∈ R, p ∈ M ++ R := fun _ hp => List.mem_append_right _ hp
end
end Go.Proofs.Sl
