/- Regions that draw their order, some facts being held; loops. -/
import Derived.Test.YtikfpmieadfllaaSlF
set_option linter.unusedVariables false
set_option linter.unusedSimpArgs false
namespace Go.Proofs.Sl
open Go Go.RowKit
section
variable {P : Program} {Q : Exit → Act → World → Prop} {ops : Array Oper} {a : Act} {n : Nat} {L : LF} {W : World} {listed : Array Bool} {fuel : Nat} {S : World → Prop}
def WH (P : Program) (Q : Exit → Act → World → Prop) (ops : Array Oper) (S : World → Prop) (listed : Array Bool) (fuel : Nat) (a : Act) (w : World) : Prop := wpAnyH P .any ops Q S fuel listed a w
theorem WH.start {id : Nat} (S : World → Prop) (hm : P.follows .mixedOrders = true) (listed : Array Bool) (fuel : Nat) (hl : Array.replicate ops.size false = listed) (hf : ops.size = fuel) (h : WH P Q ops S listed fuel a W.drew) : (Code.region id ops true).wp P Q a W := by
  subst hl
  subst hf
  exact wp_region_held hm h
theorem WH.done (hr : (Region.ready .any ops listed).isEmpty = true) (h : Q .normal a W) : WH P Q ops S listed fuel a W := wpAnyH_done (by simpa using hr) h fuel
theorem WH.take (i : Nat) {o : Oper} {d : Nat} {listed' : Array Bool} (h : Hd a n L) (hi : ops[i]? = some o) (hd : o.dst = some d) (hst : (freeAt ops listed i && (Nat.blt d n && noSel o && okOp L o)) = true) (hw : wantL ops L o = some true)
    (hl : listed.setIfInBounds i true = listed') (v : Value) (hrun : ∀ w, S w → (execOp (evT L) o).run P w = .ok (.value v) w) (hS : S W)
    (hQ : ∀ c a w, Q (.panic c) (a.put o.dst v) w → Q (.panic c) a w) (k : ∀ a', Hd a' n ((d, v) :: L) → WH P Q ops S listed' fuel a' W) : WH P Q ops S listed (fuel + 1) a W := by
  subst hl
  simp only [freeAt, Bool.and_eq_true] at hst
  have hlt : d < n := by simpa [Nat.blt, Nat.succ_le_iff] using hst.2.1.1
  refine wpAnyH_take (v := v) hi hst.1.1.1 hst.1.1.2 hst.1.2 hQ (.inl ⟨want_eq h hw, fun w hs => by rw [exec_eq h hst.2.1.2 hst.2.2]; exact hrun w hs⟩) hS ?_
  rw [hd]
  exact k _ (h.put hlt v)
theorem WH.skip (i : Nat) {o : Oper} {d : Nat} {listed' : Array Bool} (h : Hd a n L) (hi : ops[i]? = some o) (hd : o.dst = some d) (hst : (freeAt ops listed i && Nat.blt d n) = true) (hw : wantL ops L o = some false)
    (hl : listed.setIfInBounds i true = listed') (hS : S W)
    (hQ : ∀ c a w, Q (.panic c) (a.put o.dst undef) w → Q (.panic c) a w) (k : ∀ a', Hd a' n ((d, undef) :: L) → WH P Q ops S listed' fuel a' W) : WH P Q ops S listed (fuel + 1) a W := by
  subst hl
  simp only [freeAt, Bool.and_eq_true] at hst
  have hlt : d < n := by simpa [Nat.blt, Nat.succ_le_iff] using hst.2
  refine wpAnyH_take (v := undef) hi hst.1.1.1 hst.1.1.2 hst.1.2 hQ (.inr ⟨want_eq h hw, rfl⟩) hS ?_
  rw [hd]
  exact k _ (h.put hlt undef)
theorem WH.op (i : Nat) {o : Oper} {listed' : Array Bool} (h : Hd a n L) (hi : ops[i]? = some o) (hr : Region.ready .any ops listed = [i]) (hw : wantL ops L o = some true) (hl : listed.setIfInBounds i true = listed')
    (k : o.wp P a W (fun a' w' => S w' ∧ WH P Q ops S listed' fuel a' w') Q) : WH P Q ops S listed (fuel + 1) a W := by
  subst hl
  refine wpAnyH_all hr (by simp) fun j hj => ?_
  obtain rfl : j = i := by simpa using hj
  unfold wpOp
  simp only [hi, want_eq h hw, if_true]
  exact .inl k
/-- Two may come up. -/
theorem WH.two (i j : Nat) {o o2 : Oper} (h : Hd a n L) (hi : ops[i]? = some o) (hj : ops[j]? = some o2) (hr : Region.ready .any ops listed = [i, j]) (hw : wantL ops L o = some true) (hw2 : wantL ops L o2 = some true)
    (k : o.wp P a W (fun a' w' => S w' ∧ WH P Q ops S (listed.setIfInBounds i true) fuel a' w') Q) (k2 : o2.wp P a W (fun a' w' => S w' ∧ WH P Q ops S (listed.setIfInBounds j true) fuel a' w') Q) : WH P Q ops S listed (fuel + 1) a W := by
  refine wpAnyH_all hr (by simp) fun q hq => ?_
  simp only [List.mem_cons, List.not_mem_nil, or_false] at hq
  unfold wpOp
  rcases hq with rfl | rfl
  · simp only [hi, want_eq h hw, if_true]
    exact .inl k
  · simp only [hj, want_eq h hw2, if_true]
    exact .inl k2
/-- In a region that doesn't draw: an operation whose guard is told. -/
theorem WL.skipped {m : Nat} {o : Oper} {d : Nat} (h : Hd a n L) (ho : ops[m]? = some o) (hd : o.dst = some d) (hlt : Nat.blt d n = true) (hw : wantL ops L o = some false) (k : ∀ a', Hd a' n ((d, undef) :: L) → WL P Q ops (m + 1) a' W) : WL P Q ops m a W := by
  unfold WL
  rw [drop_at ho]
  simp only [wpList, want_eq h hw, Bool.false_eq_true, if_false]
  rw [hd]
  exact k _ (h.put (by simpa [Nat.blt, Nat.succ_le_iff] using hlt) undef)
theorem WL.op' {m : Nat} {o : Oper} (h : Hd a n L) (ho : ops[m]? = some o) (hw : wantL ops L o = some true) (hwp : o.wp P a W (WL P Q ops (m + 1)) Q) : WL P Q ops m a W := by
  unfold WL
  rw [drop_at ho]
  simp only [wpList, want_eq h hw, if_true]
  exact .inl hwp
end
structure Asd (p : Prop) : Prop where mk :: (out : p)
end Go.Proofs.Sl
