/- Rows of pointers, each to a thing of one's own; functions that are handed over. -/
import Derived.Test.YtikfpmieadfllaaSlX
set_option linter.unusedVariables false
set_option linter.unusedSimpArgs false
namespace Go.Proofs.Sl
open Go Go.RowKit
section
variable {α : Type} {dk : Kd α} {T E b : Nat} {w0 W : World} {R : Frag} {xs : List α} {M : Frag} {v : Value} {i : Int} {z : α} {g : Nat} {M1 : Frag}
/-- A row of pointers without what its element i leads to. -/
def Hole (dk : Kd α) (T E b : Nat) (w0 : World) (R : Frag) (v : Value) (xs : List α) (i : Int) (g : Nat) (M1 : Frag) : Prop :=
  ∀ x' Mx', Ptr dk T b w0 R (.pointer (some ⟨g, 0, none⟩)) x' Mx' → ∃ M', Row (kPtr dk T) E b w0 R v (xs.set i.toNat x') M' ∧ ∀ (W : World) (Ms : List Frag), St b w0 W R (Mx' :: M1 :: Ms) → St b w0 W R (M' :: Ms)
theorem Row.openp {A : Option Addr} {ad : Addr} {len c : Nat} (z : α) (h : Row (kPtr dk T) E b w0 R (.slice A len c) xs M) (hA : A = some ad) (h0 : 0 ≤ i) (h1 : i < (xs.length : Int)) :
    ∃ g M1 Mx, Ptr dk T b w0 R (.pointer (some ⟨g, 0, none⟩)) (gt z xs i) Mx ∧ Hole dk T E b w0 R (.slice A len c) xs i g M1 ∧ (∀ (W : World) (Ms : List Frag), St b w0 W R (M :: Ms) → St b w0 W R (Mx :: M1 :: Ms)) ∧
      (∀ (W : World) (Ms : List Frag), St b w0 W R (M1 :: Ms) → W.cell? (ad.add (i.toNat * 1)) = some (.pointer (some ⟨g, 0, none⟩))) := by
  obtain ⟨cs, blk, Mi, q1, rfl, q3⟩ := h
  have hi := gt_get (z := z) h0 h1
  obtain ⟨hlt, _⟩ := List.getElem?_eq_some_iff.1 hi
  obtain ⟨c1, cx, c2, N1, Mx, N2, rfl, rfl, g1, gg, g2⟩ := q3.at_ hi
  have hl1 := g1.take_len (Nat.le_of_lt hlt)
  obtain ⟨pv, rfl, hp⟩ := gg
  obtain ⟨g, cs', M', hv, hM, hr⟩ := id hp
  subst hv
  refine ⟨g, blk ++ (N1 ++ N2), Mx, hp, fun x' Mx' hp' => ⟨blk ++ (N1 ++ Mx' ++ N2), ⟨_, blk, _, by rw [List.length_set]; exact q1, rfl, Reps.put g1 ⟨_, rfl, hp'⟩ g2 hlt⟩, fun W Ms hS => hS.perm (List.Perm.append_left R ?_)⟩, fun W Ms hS => hS.perm (List.Perm.append_left R ?_), fun W Ms hS => ?_⟩
  · simp only [List.flatten_cons, ← List.append_assoc]
    refine List.Perm.append_right _ (List.Perm.append_right _ ?_)
    simp only [List.append_assoc]
    exact (List.perm_append_comm (l₁ := Mx') (l₂ := blk ++ N1)).trans (by simp)
  · simp only [List.flatten_cons, ← List.append_assoc]
    refine List.Perm.append_right _ (List.Perm.append_right _ ?_)
    simp only [List.append_assoc]
    have hq : ((blk ++ N1) ++ Mx).Perm (Mx ++ (blk ++ N1)) := List.perm_append_comm
    rw [List.append_assoc] at hq
    exact hq
  · rcases q1 with ⟨e, h0', _⟩ | ⟨g', off, cap, pre, post, e, rfl, rfl, hl, hcp, hn, hmm⟩
    · omega
    injection e with e1 e2 e3
    rw [hA] at e1
    injection e1 with e1
    subst e1
    have hS' : St b w0 W R (((g', .cells (pre ++ (c1 ++ [Value.pointer (some ⟨g, 0, none⟩)] ++ c2) ++ post).toArray E (0, 0)) :: (N1 ++ N2)) :: Ms) := hS
    have hb := hS'.blk
    rw [Addr.add_lit]
    simp only [World.cell?, hb, Option.isSome_none, Bool.false_eq_true, if_false, List.getElem?_toArray, List.append_assoc]
    have hl1' : c1.length = i.toNat * 1 := hl1
    rw [List.getElem?_append_right (by omega), Nat.add_sub_cancel_left, List.getElem?_append_right (by omega), hl1', Nat.sub_self]
    rfl
theorem set_gt (h0 : 0 ≤ i) (h1 : i < (xs.length : Int)) : xs.set i.toNat (gt z xs i) = xs := by
  have := gt_get (z := z) h0 h1
  refine List.ext_getElem? fun j => ?_
  rw [List.getElem?_set]
  split
  · next h => subst h; rw [this]; split <;> simp_all
  · rfl
theorem Hole.same {y : α} {Mx' : Frag} (hh : Hole dk T E b w0 R v xs i g M1) (hy : y = gt z xs i) (h0 : 0 ≤ i) (h1 : i < (xs.length : Int)) (hp : Ptr dk T b w0 R (.pointer (some ⟨g, 0, none⟩)) y Mx') :
    ∃ M', Row (kPtr dk T) E b w0 R v xs M' ∧ ∀ (W : World) (Ms : List Frag), St b w0 W R (Mx' :: M1 :: Ms) → St b w0 W R (M' :: Ms) := by
  have h := hh _ _ hp
  rw [hy, set_gt h0 h1] at h
  exact h
/-- A function value that tells of a thing what pf tells of it; Q: what it holds itself. -/
def Clos (P : Program) (dk : Kd α) (T b : Nat) (w0 : World) (R : Frag) (fv : Value) (pf : α → Bool) (Q : Frag → Prop) : Prop :=
  ∃ f cap fn, fv = .func (.func f) #[] cap ∧ P.funcs[f]? = some fn ∧ (fn.name == "runtime.NumGoroutine") = false ∧ fn.body.isSome = true ∧
    ∀ (W : World) (x : α) (v : Value) (Mx C : Frag) (Fs : List Frag), Ptr dk T b w0 R v x Mx → Q C → St b w0 W R (Mx :: C :: Fs) →
      Calls P f (#[v] ++ cap) W (fun e W' => ∃ O C', e = .returned (.bool (pf x)) ∧ Ptr dk T b w0 R v x O ∧ Q C' ∧ St b w0 W' R (O :: C' :: Fs))
end
section
variable {P : Program} {Q : Exit → Act → World → Prop} {a : Act} {n : Nat} {L : LF} {W : World} {o : Oper} {K : Act → World → Prop} {d : Nat} {v : Value}
  {b : Nat} {w0 : World} {R : Frag} {Ms : List Frag} {α : Type} {dk : Kd α} {T : Nat}
theorem run_callv {f : FuncId} {fn : Func} {fo : Operand} {cap : Array Value} {as : Array Operand} {ts : Array TypeId} {args : Array Value} (hop : o.op = .call { callee := .value fo, args := as, argTypes := ts }) (hfo : ev L fo = some (.func (.func f) #[] cap)) (hf : P.funcs[f]? = some fn)
    (hs : (fn.name == "runtime.NumGoroutine") = false) (hb : fn.body.isSome = true) (hargs : as.map (evT L) = args) : (execOp (evT L) o).run P W = .ok (.enter f (args ++ cap)) W := by
  unfold execOp
  rw [← hargs]
  simp [hop, resolve, Deferred.ofValue, invoke, ev_eval hfo, run_enter hf hs hb]
theorem owp_callv {fo ao : Operand} {ts : Array TypeId} {fv : Value} {pf : α → Bool} {Qc : Frag → Prop} {x : α} {Mx C : Frag} (h : Hd a n L) (hd : o.dst = some d) (hop : o.op = .call { callee := .value fo, args := #[ao], argTypes := ts })
    (hfo : ev L fo = some fv) (hao : ev L ao = some v) (hc : Clos P dk T b w0 R fv pf Qc) (hp : Ptr dk T b w0 R v x Mx) (hq : Qc C) (hS : St b w0 W R (Mx :: C :: Ms))
    (k : ∀ a' W' O C', Hd a' n ((d, .bool (pf x)) :: L) → Ptr dk T b w0 R v x O → Qc C' → St b w0 W' R (O :: C' :: Ms) → K a' W') (hk : (Nat.blt d n && noSel o && okOp L o) = true := by kernel_rfl) : o.wp P a W K Q := by
  obtain ⟨f, cap, fn, rfl, hf, hs, hb, hcl⟩ := hc
  simp only [Bool.and_eq_true] at hk
  have hlt : d < n := by simpa [Nat.blt, Nat.succ_le_iff] using hk.1.1
  unfold Oper.wp
  rw [exec_eq h hk.1.2 hk.2, run_callv (args := #[v]) hop hfo hf hs hb (by simp [ev_eval hao]), Oper.upon_enter]
  refine (hcl W x v Mx C Ms hp hq hS).mono fun e W1 hR => ?_
  obtain ⟨O, C', rfl, ho, hq', hS'⟩ := hR
  show K (a.put o.dst _) W1
  rw [hd]
  exact k _ _ _ _ (h.put hlt _) ho hq' hS'
end
end Go.Proofs.Sl
