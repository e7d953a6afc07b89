/- Regions that draw their order, whose last operations (from number s on) may break what was held. -/
import Derived.Test.YtikfpmieadfllaaSlS
set_option linter.unusedVariables false
set_option linter.unusedSimpArgs false
namespace Go.Proofs.Sl
open Go Go.RowKit
section
variable {P : Program} {md : Region.Mode} {Q : Exit → Act → World → Prop} {ops : Array Oper} {S T : World → Prop} {s : Nat}
def wpAnyT (P : Program) (md : Region.Mode) (ops : Array Oper) (Q : Exit → Act → World → Prop) (s : Nat) (S : World → Prop) : Nat → Array Bool → Act → World → Prop
  | 0, l, a, w => Region.ready md ops l = [] ∧ Q .normal a w
  | f + 1, l, a, w => (Region.ready md ops l = [] → Q .normal a w) ∧ ∀ j ∈ Region.ready md ops l, wpOp P ops Q j (fun a' w' => (s ≤ j ∨ S w') ∧ wpAnyT P md ops Q s S f (l.setIfInBounds j true) a' w') a w
theorem wpAnyT_plain : ∀ (f : Nat) (l : Array Bool) (a : Act) (w : World), wpAnyT P md ops Q s S f l a w → wpAny P md ops Q f l a w
  | 0, _, _, _, h => h
  | f + 1, _, _, _, h => ⟨h.1, fun j hj => wpOp_mono (fun a' w' q => wpAnyT_plain f _ a' w' q.2) (h.2 j hj)⟩
/-- i is taken first: it comes up late, and asks nothing of the world; or all late ones wait for it. -/
theorem wpAnyT_first {i : Nat} {oi : Oper} {v : Value} (hi : ops[i]? = some oi) (hsel : ∀ (j : Nat) (o : Oper) cs b, ops[j]? = some o → o.op ≠ .select cs b) (hQ : ∀ c a w, Q (.panic c) (a.put oi.dst v) w → Q (.panic c) a w)
    (hST : ∀ w, S w → T w) (hwait : (s ≤ i ∧ ∀ w, T w) ∨ ∀ j oj, s ≤ j → ops[j]? = some oj → ∃ e ∈ oj.after, Region.binds md e = true ∧ e.on = i) :
    ∀ (f : Nat) (l : Array Bool) (a : Act) (w : World),
      (∀ j oj, ops[j]? = some oj → j ≠ i → l.getD j true = false → (∀ e ∈ oj.after, Region.binds md e = true → e.on ≠ i) → oi.apart ops oj = true) →
      i ∈ Region.ready md ops l → YieldsIf P ops T oi v a → (s ≤ i ∨ S w) →
      wpAnyT P md ops Q s S f (l.setIfInBounds i true) (a.put oi.dst v) w → wpAnyT P md ops Q s S (f + 1) l a w := by
  have hTo : ∀ w, (s ≤ i ∧ ∀ w, T w) ∨ S w → T w := fun w h => h.elim (fun h => h.2 w) (hST w)
  intro f
  induction f with
  | zero =>
    intro l a w _ hr hy hS H
    refine ⟨fun h0 => (by rw [h0] at hr; cases hr), fun j hj => ?_⟩
    by_cases hji : j = i
    · subst hji
      have hT : T w := by
        rcases hwait with hw | hw
        · exact hw.2 w
        · rcases hS with hS | hS
          · obtain ⟨e, he, hb, heq⟩ := hw j oi hS hi
            have h2 := (mem_ready.1 hj).2
            obtain ⟨oj, hoj, hall⟩ := h2
            have hun := (mem_ready.1 hj).1
            have h3 := hall e (by rw [hi] at hoj; injection hoj with hoj; rw [← hoj]; exact he) hb
            rw [heq] at h3
            rcases Nat.lt_or_ge j l.size with h' | h'
            · simp [h'] at hun h3
              rw [hun] at h3
              cases h3
            · simp [Array.getElem?_eq_none h'] at h3
          · exact hST w hS
      exact hy.wpOp hi hT ⟨hS, H⟩
    · have := ready_mono hj hji
      rw [H.1] at this
      cases this
  | succ f ih =>
    intro l a w hfree hr hy hS H
    refine ⟨fun h0 => (by rw [h0] at hr; cases hr), fun j hj => ?_⟩
    have hself : T w := by
      rcases hwait with hw | hw
      · exact hw.2 w
      · rcases hS with hS | hS
        · obtain ⟨e, he, hb, heq⟩ := hw i oi hS hi
          obtain ⟨oj, hoj, hall⟩ := (mem_ready.1 hr).2
          have hun := (mem_ready.1 hr).1
          have h3 := hall e (by rw [hi] at hoj; injection hoj with hoj; rw [← hoj]; exact he) hb
          rw [heq] at h3
          rcases Nat.lt_or_ge i l.size with h' | h'
          · simp [h'] at hun h3
            rw [hun] at h3
            cases h3
          · simp [Array.getElem?_eq_none h'] at h3
        · exact hST w hS
    by_cases hji : j = i
    · subst hji
      exact hy.wpOp hi hself ⟨hS, H⟩
    · have h1 := H.2 j (ready_mono hj hji)
      obtain ⟨hjun, oj, hoj, hall⟩ := mem_ready.1 hj
      have hun := (mem_ready.1 hr).1
      have hnot : ∀ e ∈ oj.after, Region.binds md e = true → e.on ≠ i := by
        intro e he hb heq
        have h2 := hall e he hb
        rw [heq] at h2
        rcases Nat.lt_or_ge i l.size with h' | h'
        · simp [h'] at hun h2
          rw [hun] at h2
          cases h2
        · simp [Array.getElem?_eq_none h'] at h2
      have hSw : ∀ w', (s ≤ j ∨ S w') → (s ≤ i ∨ S w') := by
        intro w' h2
        rcases h2 with h2 | h2
        · rcases hwait with hw | hw
          · exact .inl hw.1
          · obtain ⟨e, he, hb, heq⟩ := hw j oj h2 hoj
            exact absurd heq (hnot e he hb)
        · exact .inr h2
      have h2 := wpOp_putIf hoj (hfree j oj hoj hji hjun hnot) (fun cs b => hsel i oi cs b hi) (fun cs b => hsel j oj cs b hoj) hQ hy h1
      have hfree' : ∀ k ok, ops[k]? = some ok → k ≠ i → (l.setIfInBounds j true).getD k true = false → (∀ e ∈ ok.after, Region.binds md e = true → e.on ≠ i) → oi.apart ops ok = true := by
        intro k ok hk hki hun2 hno
        refine hfree k ok hk hki ?_ hno
        by_cases hjk : j = k
        · subst hjk
          exact hjun
        · rw [getD_set_ne true hjk] at hun2
          exact hun2
      refine wpOp_mono (fun a' w' h3 => ⟨h3.2.1, ?_⟩) h2
      have h4 := h3.2.2
      rw [Array.setIfInBounds_comm _ _ (Ne.symm hji)] at h4
      exact ih (l.setIfInBounds j true) a' w' hfree' (ready_mono hr (Ne.symm hji)) h3.1 (hSw w' h3.2.1) h4
end
section
variable {P : Program} {Q : Exit → Act → World → Prop} {ops : Array Oper} {a : Act} {n : Nat} {L : LF} {W : World} {listed : Array Bool} {fuel s : Nat} {S : World → Prop}
def WT (P : Program) (Q : Exit → Act → World → Prop) (ops : Array Oper) (s : Nat) (S : World → Prop) (listed : Array Bool) (fuel : Nat) (a : Act) (w : World) : Prop := wpAnyT P .any ops Q s S fuel listed a w
theorem WT.start {id : Nat} (s : Nat) (S : World → Prop) (hm : P.follows .mixedOrders = true) (listed : Array Bool) (fuel : Nat) (hl : Array.replicate ops.size false = listed) (hf : ops.size = fuel) (h : WT P Q ops s S listed fuel a W.drew) : (Code.region id ops true).wp P Q a W := by
  subst hl
  subst hf
  exact wp_region_any hm (wpAnyT_plain _ _ _ _ h)
theorem WT.done (hr : (Region.ready .any ops listed).isEmpty = true) (h : Q .normal a W) : WT P Q ops s S listed fuel a W := by
  have hr : Region.ready .any ops listed = [] := by simpa using hr
  cases fuel with
  | zero => exact ⟨hr, h⟩
  | succ f => exact ⟨fun _ => h, by rw [hr]; simp⟩
/-- All late ones wait for i. -/
def lateWaits (ops : Array Oper) (s i : Nat) : Bool := (ops.toList.drop s).all fun o => o.after.any fun e => Region.binds .any e && Nat.beq e.on i
theorem lateWaits_spec {i : Nat} (h : lateWaits ops s i = true) : ∀ j oj, s ≤ j → ops[j]? = some oj → ∃ e ∈ oj.after, Region.binds .any e = true ∧ e.on = i := by
  intro j oj hj ho
  have hm : oj ∈ ops.toList.drop s := by
    rw [List.mem_iff_getElem?]
    refine ⟨j - s, ?_⟩
    rw [List.getElem?_drop, show s + (j - s) = j by omega]
    simpa using ho
  have := List.all_eq_true.1 h oj hm
  obtain ⟨q, hq, hb⟩ := Array.any_eq_true.1 this
  simp only [Bool.and_eq_true] at hb
  exact ⟨oj.after[q], Array.getElem_mem hq, hb.1, Nat.eq_of_beq_eq_true hb.2⟩
theorem WT.take (i : Nat) {o : Oper} {d : Nat} {listed' : Array Bool} (h : Hd a n L) (hi : ops[i]? = some o) (hd : o.dst = some d) (hst : (freeAt ops listed i && (Nat.blt d n && noSel o && okOp L o) && lateWaits ops s i) = true) (hw : wantL ops L o = some true)
    (hl : listed.setIfInBounds i true = listed') (v : Value) (hrun : ∀ w, S w → (execOp (evT L) o).run P w = .ok (.value v) w) (hS : S W)
    (hQ : ∀ c a w, Q (.panic c) (a.put o.dst v) w → Q (.panic c) a w) (k : ∀ a', Hd a' n ((d, v) :: L) → WT P Q ops s S listed' fuel a' W) : WT P Q ops s S listed (fuel + 1) a W := by
  subst hl
  simp only [freeAt, Bool.and_eq_true] at hst
  have hlt : d < n := by simpa [Nat.blt, Nat.succ_le_iff] using hst.1.2.1.1
  refine wpAnyT_first (T := S) (v := v) hi (Region.noSelect_spec hst.1.1.1.1) hQ (fun _ h => h) (.inr (lateWaits_spec hst.2)) fuel listed a W (Region.free_spec hi hst.1.1.1.2) (by simpa using hst.1.1.2) (.inl ⟨want_eq h hw, fun w hs => by rw [exec_eq h hst.1.2.1.2 hst.1.2.2]; exact hrun w hs⟩) (.inr hS) ?_
  rw [hd]
  exact k _ (h.put hlt v)
theorem WT.skip (i : Nat) {o : Oper} {d : Nat} {listed' : Array Bool} (h : Hd a n L) (hi : ops[i]? = some o) (hd : o.dst = some d) (hst : (freeAt ops listed i && Nat.blt d n && lateWaits ops s i) = true) (hw : wantL ops L o = some false)
    (hl : listed.setIfInBounds i true = listed') (hS : S W)
    (hQ : ∀ c a w, Q (.panic c) (a.put o.dst undef) w → Q (.panic c) a w) (k : ∀ a', Hd a' n ((d, undef) :: L) → WT P Q ops s S listed' fuel a' W) : WT P Q ops s S listed (fuel + 1) a W := by
  subst hl
  simp only [freeAt, Bool.and_eq_true] at hst
  have hlt : d < n := by simpa [Nat.blt, Nat.succ_le_iff] using hst.1.2
  refine wpAnyT_first (T := S) (v := undef) hi (Region.noSelect_spec hst.1.1.1.1) hQ (fun _ h => h) (.inr (lateWaits_spec hst.2)) fuel listed a W (Region.free_spec hi hst.1.1.1.2) (by simpa using hst.1.1.2) (.inr ⟨want_eq h hw, rfl⟩) (.inr hS) ?_
  rw [hd]
  exact k _ (h.put hlt undef)
theorem WT.late (i : Nat) {o : Oper} {d : Nat} {listed' : Array Bool} (h : Hd a n L) (hi : ops[i]? = some o) (hd : o.dst = some d) (hst : (freeAt ops listed i && (Nat.blt d n && noSel o && okOp L o) && Nat.ble s i) = true) (hw : wantL ops L o = some true)
    (hl : listed.setIfInBounds i true = listed') (v : Value) (hrun : ∀ w, (execOp (evT L) o).run P w = .ok (.value v) w)
    (hQ : ∀ c a w, Q (.panic c) (a.put o.dst v) w → Q (.panic c) a w) (k : ∀ a', Hd a' n ((d, v) :: L) → WT P Q ops s S listed' fuel a' W) : WT P Q ops s S listed (fuel + 1) a W := by
  subst hl
  simp only [freeAt, Bool.and_eq_true] at hst
  have hlt : d < n := by simpa [Nat.blt, Nat.succ_le_iff] using hst.1.2.1.1
  have hsi := Nat.le_of_ble_eq_true hst.2
  refine wpAnyT_first (T := fun _ => True) (v := v) hi (Region.noSelect_spec hst.1.1.1.1) hQ (fun _ _ => trivial) (.inl ⟨hsi, fun _ => trivial⟩) fuel listed a W (Region.free_spec hi hst.1.1.1.2) (by simpa using hst.1.1.2) (.inl ⟨want_eq h hw, fun w hs => by rw [exec_eq h hst.1.2.1.2 hst.1.2.2]; exact hrun w⟩) (.inl hsi) ?_
  rw [hd]
  exact k _ (h.put hlt v)
theorem WT.op (i : Nat) {o : Oper} {listed' : Array Bool} (h : Hd a n L) (hi : ops[i]? = some o) (hr : Region.ready .any ops listed = [i]) (hw : wantL ops L o = some true) (hl : listed.setIfInBounds i true = listed')
    (k : o.wp P a W (fun a' w' => (s ≤ i ∨ S w') ∧ WT P Q ops s S listed' fuel a' w') Q) : WT P Q ops s S listed (fuel + 1) a W := by
  subst hl
  refine ⟨fun h0 => (by rw [hr] at h0; cases h0), fun j hj => ?_⟩
  rw [hr] at hj
  obtain rfl : j = i := by simpa using hj
  unfold wpOp
  simp only [hi, want_eq h hw, if_true]
  exact .inl k
/-- Several may come up. -/
theorem WT.all (rs : List Nat) (hr : Region.ready .any ops listed = rs) (hne : rs ≠ []) (k : ∀ j ∈ rs, wpOp P ops Q j (fun a' w' => (s ≤ j ∨ S w') ∧ WT P Q ops s S (listed.setIfInBounds j true) fuel a' w') a W) : WT P Q ops s S listed (fuel + 1) a W :=
  ⟨fun h0 => absurd (hr ▸ h0) hne, hr ▸ k⟩
theorem wpOp_go {i : Nat} {o : Oper} {K : Act → World → Prop} (h : Hd a n L) (hi : ops[i]? = some o) (hw : wantL ops L o = some true) (k : o.wp P a W K Q) : wpOp P ops Q i K a W := by
  unfold wpOp
  simp only [hi, want_eq h hw, if_true]
  exact .inl k
theorem WT.two (i j : Nat) {o o2 : Oper} (h : Hd a n L) (hi : ops[i]? = some o) (hj : ops[j]? = some o2) (hr : Region.ready .any ops listed = [i, j]) (hw : wantL ops L o = some true) (hw2 : wantL ops L o2 = some true)
    (k : o.wp P a W (fun a' w' => (s ≤ i ∨ S w') ∧ WT P Q ops s S (listed.setIfInBounds i true) fuel a' w') Q) (k2 : o2.wp P a W (fun a' w' => (s ≤ j ∨ S w') ∧ WT P Q ops s S (listed.setIfInBounds j true) fuel a' w') Q) : WT P Q ops s S listed (fuel + 1) a W := by
  refine WT.all [i, j] hr (by simp) fun q hq => ?_
  simp only [List.mem_cons, List.not_mem_nil, or_false] at hq
  rcases hq with rfl | rfl
  · exact wpOp_go h hi hw k
  · exact wpOp_go h hj hw2 k2
theorem WT.three (i j l : Nat) {o o2 o3 : Oper} (h : Hd a n L) (hi : ops[i]? = some o) (hj : ops[j]? = some o2) (hl : ops[l]? = some o3) (hr : Region.ready .any ops listed = [i, j, l]) (hw : wantL ops L o = some true) (hw2 : wantL ops L o2 = some true) (hw3 : wantL ops L o3 = some true)
    (k : o.wp P a W (fun a' w' => (s ≤ i ∨ S w') ∧ WT P Q ops s S (listed.setIfInBounds i true) fuel a' w') Q) (k2 : o2.wp P a W (fun a' w' => (s ≤ j ∨ S w') ∧ WT P Q ops s S (listed.setIfInBounds j true) fuel a' w') Q)
    (k3 : o3.wp P a W (fun a' w' => (s ≤ l ∨ S w') ∧ WT P Q ops s S (listed.setIfInBounds l true) fuel a' w') Q) : WT P Q ops s S listed (fuel + 1) a W := by
  refine WT.all [i, j, l] hr (by simp) fun q hq => ?_
  simp only [List.mem_cons, List.not_mem_nil, or_false] at hq
  rcases hq with rfl | rfl | rfl
  · exact wpOp_go h hi hw k
  · exact wpOp_go h hj hw2 k2
  · exact wpOp_go h hl hw3 k3
end
end Go.Proofs.Sl
