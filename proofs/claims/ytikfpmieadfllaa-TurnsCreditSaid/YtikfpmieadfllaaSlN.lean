/- Rows of rows of one's own: an element taken out. -/
import Derived.Test.YtikfpmieadfllaaSlM
set_option linter.unusedVariables false
set_option linter.unusedSimpArgs false
namespace Go.Proofs.Sl
open Go Go.RowKit
section
variable {P : Program} {Q : Exit → Act → World → Prop} {a : Act} {n : Nat} {L : LF} {W : World} {o : Oper} {K : Act → World → Prop} {d : Nat} {v : Value}
  {b : Nat} {w0 : World} {R R' : Frag} {Ms Ms' : List Frag} {m : Frag} {α : Type} {dk : Kd α} {E Ee : Nat} {xs : List (List α)} {M M2 : Frag}
/-- Element i is set to nil: what it held is one's own now. -/
theorem owp_takeelem {t : Nat} {x y : Operand} {A : Option Addr} {ad : Addr} {len c : Nat} {i : Int} {x0 : List α} {u : Value} (h : Hd a n L) (hd : o.dst = none) (hk : (noSel o && okOp L o) = true) (hop : o.op = .store t x y)
    (hx : ev L x = some (.pointer (some (ad.add (i.toNat * 1))))) (hy : ev L y = some (.slice none 0 0)) (hsz : (P.info? t).map (·.size) = some 1) (hA : A = some ad)
    (hr : Row (kRow dk Ee) E b w0 R (.slice A len c) xs M) (hS : St b w0 W R (M :: Ms)) (h0 : 0 ≤ i) (hi : xs[i.toNat]? = some x0) (hu : W.cell? (ad.add (i.toNat * 1)) = some u)
    (k : ∀ a' W' M' Mx, Hd a' n L → Row (kRow dk Ee) E b w0 R (.slice A len c) (xs.set i.toNat []) M' → Row dk Ee b w0 R u x0 Mx → St b w0 W' R (M' :: Mx :: Ms) → K a' W') : o.wp P a W K Q := by
  subst hA
  obtain ⟨cs, blk, Mi, q1, rfl, q3⟩ := hr
  obtain ⟨hlt, _⟩ := List.getElem?_eq_some_iff.1 hi
  obtain ⟨c1, cx, c2, M1, Mx, M2, rfl, rfl, g1, ⟨u0, rfl, gx⟩, g2⟩ := q3.at_ hi
  have hl1 : c1.length = i.toNat * 1 := g1.take_len (Nat.le_of_lt hlt)
  rcases q1 with ⟨e, h0', _⟩ | ⟨g', off, cap, pre, post, e, rfl, rfl, hl, hcp, hn, hmm⟩
  · omega
  injection e with e1 e2 e3
  injection e1 with e1
  subst e1
  subst e3
  subst e2
  have hS' : St b w0 W R (((g', .cells (pre ++ (c1 ++ [u0] ++ c2) ++ post).toArray E (0, 0)) :: (M1 ++ Mx ++ M2)) :: Ms) := hS
  have hb := hS'.blk
  have huu : u = u0 := by
    rw [Addr.add_lit] at hu
    simp only [World.cell?, hb, Option.isSome_none, Bool.false_eq_true, if_false, List.getElem?_toArray] at hu
    rw [List.append_assoc, List.getElem?_append_right (by omega), Nat.add_sub_cancel_left, List.append_assoc, List.append_assoc, List.getElem?_append_right (by omega), hl1, Nat.sub_self] at hu
    simpa using hu.symm
  subst huu
  have hx2 : ev L x = some (.pointer (some ⟨g', pre.length + i.toNat * 1, none⟩)) := by
    rw [hx]
    simp only [Addr.add_lit]
  have hlen : pre.length + i.toNat * 1 + [(Value.slice none 0 0)].length ≤ (pre ++ (c1 ++ [u] ++ c2) ++ post).length := by
    simp only [List.length_append, List.length_singleton]
    omega
  refine owp_skip h hd hk (run_storeL hop hx2 hy rfl (by simp [Value.oneCell']) (by simpa using hsz) hb hlen) fun a' h' => k a' _ ((g', .cells (pre ++ (c1 ++ [Value.slice none 0 0] ++ c2) ++ post).toArray E (0, 0)) :: (M1 ++ [] ++ M2)) Mx h' ?_ gx ?_
  · refine ⟨c1 ++ [Value.slice none 0 0] ++ c2, [_], M1 ++ [] ++ M2, .inr ⟨g', pre.length, c, pre, post, by simp, rfl, rfl, ?_, ?_, ?_, hmm⟩, rfl, ?_⟩
    · simp only [List.length_append, List.length_singleton, List.length_set] at hl ⊢
      exact hl
    · simp only [List.length_append, List.length_singleton] at hcp ⊢
      exact hcp
    · simpa using hn
    · exact g1.put ⟨_, rfl, Row.nil⟩ g2 hlt
  · have ew : (pre ++ (c1 ++ [u] ++ c2) ++ post).take (pre.length + i.toNat * 1) ++ [Value.slice none 0 0] ++ (pre ++ (c1 ++ [u] ++ c2) ++ post).drop (pre.length + i.toNat * 1 + [Value.slice none 0 0].length) = pre ++ (c1 ++ [Value.slice none 0 0] ++ c2) ++ post := by
      have e1 : pre.length + i.toNat * 1 = (pre ++ c1).length := by simp [hl1]
      have e3 : pre ++ (c1 ++ [u] ++ c2) ++ post = (pre ++ c1) ++ ([u] ++ (c2 ++ post)) := by simp
      rw [e1, e3, List.take_left', ← List.drop_drop, List.drop_left']
      · simp
      · rfl
      · rfl
    rw [ew]
    have ht : St b w0 (W.setRow g' (pre ++ (c1 ++ [Value.slice none 0 0] ++ c2) ++ post).toArray) R (((g', .cells (pre ++ (c1 ++ [Value.slice none 0 0] ++ c2) ++ post).toArray E (0, 0)) :: (M1 ++ Mx ++ M2)) :: Ms) := by
      refine St.turn (m := M1 ++ Mx ++ M2) hS' rfl rfl rfl (by simp [World.setRow]) (setRow_heap W g' _ _ E (0, 0) hb) fun q _ hq => ?_
      simp only [World.setRow, Array.getElem?_modify]
      rw [if_neg (by omega)]
    refine ht.perm (List.Perm.append_left R ?_)
    simp only [List.flatten_cons, List.cons_append, List.append_nil]
    refine List.Perm.cons _ ?_
    simp only [← List.append_assoc]
    refine List.Perm.append_right _ ?_
    rw [List.append_assoc, List.append_assoc]
    exact List.Perm.append_left _ List.perm_append_comm
end
end Go.Proofs.Sl
