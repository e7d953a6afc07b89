/- []byte("..") of a constant: its block is marked; from then on it is only read. -/
import Derived.Test.YtikfpmieadfllaaSlL
set_option linter.unusedVariables false
set_option linter.unusedSimpArgs false
namespace Go.Proofs.Sl
open Go Go.RowKit
section
variable {P : Program} {Q : Exit → Act → World → Prop} {a : Act} {n : Nat} {L : LF} {W : World} {o : Oper} {K : Act → World → Prop} {d : Nat} {v : Value}
  {b : Nat} {w0 : World} {R R' : Frag} {Ms Ms' : List Frag} {m : Frag} {α : Type} {dk : Kd α} {E : Nat} {xs ys : List α} {M M2 : Frag}
theorem rd_blk {x : α} {cx : List Value} {F : Frag} (gx : dk.rep b w0 R x cx []) : dk.rd b w0 (F ++ R) x cx :=
  dk.rd_mono (fun p hp => List.mem_append_right _ (by simpa using hp)) (dk.rep_rd gx)
/-- A block whose cells tell xs, read out of the pool, marked or not. -/
theorem Rds.blk {g : Nat} {cs : List Value} {fr : Nat × Nat} (hr : Reps dk b w0 R xs cs []) (hm : xs.length ≤ maxLen) : Rds dk b w0 ([(g, .cells cs.toArray E fr)] ++ R) (.slice (some ⟨g, 0, none⟩) xs.length xs.length) xs := by
  refine ⟨_, _, rfl, Nat.le_refl _, hm, fun i x hx => ?_⟩
  obtain ⟨c1, cx, c2, M1, Mx, M2, rfl, hM, g1, gx, g2⟩ := hr.at_ hx
  obtain ⟨hlt, _⟩ := List.getElem?_eq_some_iff.1 hx
  have hl1 := g1.take_len (Nat.le_of_lt hlt)
  have hMx : Mx = [] := by
    have := congrArg List.length hM
    simp only [List.length_nil, List.length_append] at this
    exact List.eq_nil_of_length_eq_zero (by omega)
  subst hMx
  refine ⟨_, cx, rfl, rfl, rd_blk gx, fun j u hj => ⟨?_, .inr ⟨(c1 ++ cx ++ c2).toArray, E, fr, ?_, ?_⟩⟩⟩
  · rw [Addr.add_lit]
  · rw [Addr.add_lit]
    exact List.mem_append_left _ (List.mem_singleton.2 rfl)
  · rw [Addr.add_lit]
    obtain ⟨hjl, _⟩ := List.getElem?_eq_some_iff.1 hj
    simp only [List.getElem?_toArray, List.append_assoc, Nat.zero_add]
    rw [List.getElem?_append_right (by omega), hl1, Nat.add_sub_cancel_left, List.getElem?_append_left hjl]
    exact hj
theorem owp_mark {t e g len c : Nat} {x : Operand} {cs : List Value} (h : Hd a n L) (hd : o.dst = some d) (hk : (Nat.blt d n && noSel o && okOp L o) = true) (hop : o.op = .convert t t x) (hx : ev L x = some (.slice (some ⟨g, 0, none⟩) len c))
    (ht : P.underlying t = some (.slice e)) (he : P.underlying e = some (.int .u8)) (hS : St b w0 W R ([(g, .cells cs.toArray E (0, 0))] :: Ms))
    (k : ∀ a' W', Hd a' n ((d, .slice (some ⟨g, 0, none⟩) len c) :: L) → St b w0 W' ([(g, .cells cs.toArray E (cs.length, cs.length + 1))] ++ R) Ms → K a' W') : o.wp P a W K Q := by
  have hb := hS.blk
  have hsh : W.shape? g = some (E, cs.length) := by simp [World.shape?, hb]
  have hrun : (execOp (evT L) o).run P W = .ok (.value (.slice (some ⟨g, 0, none⟩) len c)) (W.freeze ⟨g, cs.length, none⟩ 1) := by
    unfold execOp
    simp only [hop, ev_eval hx, Sem.run_bind]
    have : (convert t t (.slice (some ⟨g, 0, none⟩) len c)).run P W = .ok (.slice (some ⟨g, 0, none⟩) len c) (W.freeze ⟨g, cs.length, none⟩ 1) := by
      simp [convert, run_underlying ht, run_underlying he, markStringish, hsh]
    simp only [this]
    rfl
  refine owp_val h hd hk hrun fun a' h' => k a' _ h' ?_
  have hg : (W.freeze ⟨g, cs.length, none⟩ 1).heap[g]? = some (.cells cs.toArray E (cs.length, cs.length + 1)) := by
    simp [World.freeze, Array.getElem?_modify, hb]
  have hoth : ∀ q, q ≠ g → (W.freeze ⟨g, cs.length, none⟩ 1).heap[q]? = W.heap[q]? := by
    intro q hq
    simp only [World.freeze, Array.getElem?_modify]
    rw [if_neg (by decide)]
    simp only [Array.getElem?_modify]
    rw [if_neg (fun e => hq e.symm)]
  exact St.pool (St.turn (m := []) hS (by simp [World.freeze]) (by simp [World.freeze]) (by simp [World.freeze]) (by simp [World.freeze]) hg fun q _ hq => hoth q hq)
theorem St.shed (h : St b w0 W (M ++ R) Ms) : St b w0 W R Ms := h.unpool.drop_
end
end Go.Proofs.Sl
