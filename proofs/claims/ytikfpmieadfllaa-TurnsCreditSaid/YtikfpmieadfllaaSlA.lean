/- Frames, blocks of plain operations, control: the steps of our own walk. -/
import Derived.Tactics
import Derived.Orders
import Derived.OrdersHeld
import Derived.Below
import Derived.KernelRfl
import Derived.Deep.LoopGhost
set_option linter.unusedVariables false
set_option linter.unusedSimpArgs false
namespace Go.Proofs.Sl
open Go Go.RowKit

/-! ### frames -/
abbrev LF := List (Nat × Value)
def lk : LF → Nat → Option Value
  | [], _ => none
  | (j, v) :: r, i => bif Nat.beq j i then some v else lk r i
structure Hd (a : Act) (n : Nat) (L : LF) : Prop where
  df : a.defers = []
  sz : a.tmps.size = n
  at_ : ∀ i v, lk L i = some v → a.tmps[i]? = some v
def ev (L : LF) : Operand → Option Value
  | .tmp i => lk L i
  | .const v => some v
  | .global g => some (.pointer (some ⟨g, 0, none⟩))
  | .func f => some (.func (.func f) #[] #[])
def evT (L : LF) (x : Operand) : Value := (ev L x).getD undef
section
variable {a : Act} {n : Nat} {L : LF} {x : Operand} {v : Value} {d : Nat}
theorem Hd.ev (h : Hd a n L) (hx : ev L x = some v) : a.eval x = v := by
  cases x with
  | tmp i => simp only [Act.eval, Array.getD_eq_getD_getElem?, h.at_ i v hx, Option.getD_some]
  | const c => simp only [Sl.ev, Option.some.injEq] at hx; exact hx
  | global g => simp only [Sl.ev, Option.some.injEq] at hx; exact hx
  | func f => simp only [Sl.ev, Option.some.injEq] at hx; exact hx
theorem Hd.evT (h : Hd a n L) (hx : (Sl.ev L x).isSome = true) : a.eval x = Sl.evT L x := by
  obtain ⟨v, hv⟩ := Option.isSome_iff_exists.1 hx
  rw [h.ev hv, Sl.evT, hv]
  rfl
theorem Hd.put (h : Hd a n L) (hd : d < n) (v : Value) : Hd (a.put (some d) v) n ((d, v) :: L) := by
  refine ⟨h.df, by simp [Act.put, h.sz], fun i u hi => ?_⟩
  simp only [Act.put, Array.getElem?_setIfInBounds, h.sz]
  simp only [lk] at hi
  by_cases e : d = i
  · subst e
    simp only [Nat.beq_refl, cond_true] at hi
    simp [hd, hi]
  · have e2 : Nat.beq d i = false := Bool.eq_false_iff.2 fun h => e (Nat.eq_of_beq_eq_true h)
    rw [e2, cond_false] at hi
    simp [e, h.at_ i u hi]
theorem Hd.none_ (h : Hd a n L) : Hd a n [] := ⟨h.df, h.sz, fun i v hi => by simp [lk] at hi⟩
theorem Hd.more {L' : LF} (h : Hd a n L) (h' : Hd a n L') {i : Nat} {v : Value} (e : lk L i = some v) : Hd a n ((i, v) :: L') :=
  ⟨h.df, h.sz, fun j u hj => by
    simp only [lk] at hj
    by_cases e2 : i = j
    · subst e2
      simp only [Nat.beq_refl, cond_true] at hj
      rw [h.at_ i v e]
      exact hj
    · have e3 : Nat.beq i j = false := Bool.eq_false_iff.2 fun h => e2 (Nat.eq_of_beq_eq_true h)
      rw [e3, cond_false] at hj
      exact h'.at_ j u hj⟩
/-- Only what L' says is kept. -/
def sub (L : LF) : LF → Prop
  | [] => True
  | (i, v) :: r => lk L i = some v ∧ sub L r
theorem Hd.keep {L' : LF} (h : Hd a n L) (hs : sub L L') : Hd a n L' := by
  induction L' with
  | nil => exact h.none_
  | cons p r ih => exact h.more (ih hs.2) hs.1
end

/-! ### blocks of plain operations -/
def noSel (o : Oper) : Bool := match o.op with | .select .. => false | _ => true
def okOp (L : LF) (o : Oper) : Bool := o.op.operands.all fun x => (ev L x).isSome
section
variable {P : Program} {Q : Exit → Act → World → Prop} {ops : Array Oper} {a : Act} {n : Nat} {L : LF} {W : World}
theorem noSel_spec {o : Oper} (h : noSel o = true) : ∀ cs b, o.op ≠ .select cs b := by
  intro cs b e
  simp [noSel, e] at h
theorem exec_eq {o : Oper} (h : Hd a n L) (hs : noSel o = true) (hk : okOp L o = true) : execOp a.eval o = execOp (evT L) o := by
  refine execOp_congr o (noSel_spec hs) fun x hx => h.evT ?_
  have := Array.all_eq_true_iff_forall_mem.1 hk x hx
  exact this
/-- One operation of a region that does not draw. -/
def WL (P : Program) (Q : Exit → Act → World → Prop) (ops : Array Oper) (m : Nat) (a : Act) (w : World) : Prop := wpList P ops Q (ops.toList.drop m) a w
theorem WL.start {id : Nat} (h : WL P Q ops 0 a W) : (Code.region id ops false).wp P Q a W := wp_region_list (by simpa [WL] using h)
theorem WL.done {m : Nat} (hm : Nat.ble ops.size m = true) (h : Q .normal a W) : WL P Q ops m a W := by
  unfold WL
  rw [List.drop_eq_nil_of_le (by simpa using Nat.le_of_ble_eq_true hm)]
  exact h
theorem drop_at {m : Nat} {o : Oper} (ho : ops[m]? = some o) : ops.toList.drop m = o :: ops.toList.drop (m + 1) := by
  obtain ⟨hlt, e⟩ := Array.getElem?_eq_some_iff.1 ho
  rw [List.drop_eq_getElem_cons (by simpa using hlt)]
  simp [← e]
/-- An operation without a guard, by what it does. -/
theorem WL.op {m : Nat} {o : Oper} (ho : ops[m]? = some o) (hg : o.guard = none) (hwp : o.wp P a W (WL P Q ops (m + 1)) Q) : WL P Q ops m a W := by
  unfold WL
  rw [drop_at ho]
  simp only [wpList, Region.wanted, hg, if_true]
  exact .inl hwp
theorem WL.run {m : Nat} {o : Oper} {v : Value} {w' : World} (ho : ops[m]? = some o) (hg : o.guard = none) (h : Hd a n L) (hs : (noSel o && okOp L o) = true)
    (hrun : (execOp (evT L) o).run P W = .ok (.value v) w') (k : WL P Q ops (m + 1) (a.put o.dst v) w') : WL P Q ops m a W := by
  have hs2 := Bool.and_eq_true_iff.1 hs
  refine WL.op ho hg ?_
  unfold Oper.wp
  rw [exec_eq h hs2.1 hs2.2, hrun]
  exact k
theorem WL.runU {m : Nat} {o : Oper} {w' : World} (ho : ops[m]? = some o) (hg : o.guard = none) (h : Hd a n L) (hs : (noSel o && okOp L o) = true)
    (hrun : (execOp (evT L) o).run P W = .ok .skip w') (k : WL P Q ops (m + 1) (a.put o.dst undef) w') : WL P Q ops m a W := by
  have hs2 := Bool.and_eq_true_iff.1 hs
  refine WL.op ho hg ?_
  unfold Oper.wp
  rw [exec_eq h hs2.1 hs2.2, hrun]
  exact k

/-- Several operations at once, one behind the other. -/
def seqOps (n : Nat) : List Oper → LF → Sem LF
  | [], L => pure L
  | o :: os, L =>
    match o.dst with
    | none => stuck "no slot"
    | some d =>
      bif Nat.blt d n && o.guard.isNone && noSel o && okOp L o then
        execOp (evT L) o >>= fun r => match r with
          | .value v => seqOps n os ((d, v) :: L)
          | _ => stuck "no value"
      else stuck "not plain"
theorem seq_ok {os : List Oper} : ∀ {a : Act} {L L' : LF} {W W' : World}, Hd a n L → (seqOps n os L).run P W = .ok L' W' →
    ∀ {rest : List Oper}, (∀ a', Hd a' n L' → wpList P ops Q rest a' W') → wpList P ops Q (os ++ rest) a W := by
  induction os with
  | nil =>
    intro a L L' W W' h hr rest k
    have e : Result.ok L W = Result.ok L' W' := hr
    injection e with e1 e2
    subst e1
    subst e2
    exact k a h
  | cons o os ih =>
    intro a L L' W W' h hr rest k
    unfold seqOps at hr
    cases hd : o.dst with
    | none =>
      rw [hd] at hr
      exact absurd hr (by simp [stuck, Sem.run])
    | some d =>
      rw [hd] at hr
      dsimp only at hr
      cases hb : (Nat.blt d n && o.guard.isNone && noSel o && okOp L o) with
      | false =>
        rw [hb, cond_false] at hr
        exact absurd hr (by simp [stuck, Sem.run])
      | true =>
        rw [hb, cond_true, Sem.run_bind] at hr
        simp only [Bool.and_eq_true] at hb
        obtain ⟨⟨⟨h1, h2⟩, h3⟩, h4⟩ := hb
        have hlt : d < n := by simpa [Nat.blt, Nat.succ_le_iff] using h1
        have hg : o.guard = none := by simpa using h2
        simp only [List.cons_append, wpList, Region.wanted, hg, if_true]
        refine .inl ?_
        unfold Oper.wp
        rw [exec_eq h h3 h4]
        generalize (execOp (evT L) o).run P W = x at hr ⊢
        cases x with
        | halt y w => exact absurd hr (by simp [Result.andThen])
        | ok r w1 =>
          rw [Result.andThen_ok] at hr
          cases r with
          | value v =>
            show wpList P ops Q (os ++ rest) (a.put o.dst v) w1
            rw [hd]
            exact ih (h.put hlt v) hr k
          | _ => exact absurd hr (by simp [stuck, Sem.run])
theorem WL.block {m c m' : Nat} (h : Hd a n L) (hm : m + c = m') (news : LF) (hrun : (seqOps n ((ops.toList.drop m).take c) L).run P W = .ok (news ++ L) W)
    (k : ∀ a', Hd a' n (news ++ L) → WL P Q ops m' a' W) : WL P Q ops m a W := by
  subst hm
  unfold WL at *
  rw [← List.take_append_drop c (ops.toList.drop m), List.drop_drop]
  exact seq_ok h hrun k
end

/-! ### control -/
section
variable {P : Program} {Q : Exit → Act → World → Prop} {a : Act} {n : Nat} {L : LF} {W : World}
theorem wp_then {c : Operand} {x y : Code} (h : Hd a n L) (hc : ev L c = some (.bool true)) (k : x.wp P Q a W) : (Code.cond c x y).wp P Q a W := wp_cond_true (h.ev hc) k
theorem wp_else {c : Operand} {x y : Code} (h : Hd a n L) (hc : ev L c = some (.bool false)) (k : y.wp P Q a W) : (Code.cond c x y).wp P Q a W := wp_cond_false (h.ev hc) k
/-- The results, off the frame. -/
def resL (fn : Func) (L : LF) : Sem Value := do
  let vs ← fn.results.mapM fun
    | .tmp t => pure (evT L (.tmp t))
    | .cell a t => do loadVar t (← asAddr (evT L (.tmp a)))
  pure (if h : vs.size = 1 then vs[0] else .tuple vs)
def okRes (fn : Func) (L : LF) : Bool := fn.results.all fun
  | .tmp t => (lk L t).isSome
  | .cell a _ => (lk L a).isSome
theorem loop_congr {f g : ResultVar → Sem Value} : ∀ (l : List ResultVar) (acc : List Value), (∀ x ∈ l, f x = g x) → List.mapM.loop f l acc = List.mapM.loop g l acc
  | [], acc, h => rfl
  | x :: l, acc, h => by
    simp only [List.mapM.loop]
    rw [h x List.mem_cons_self]
    congr 1
    funext y
    exact loop_congr l _ fun z hz => h z (List.mem_cons_of_mem _ hz)
theorem res_eq {fn : Func} (h : Hd a n L) (hk : okRes fn L = true) : results fn a.tmps = resL fn L := by
  unfold results resL
  rw [Array.mapM_eq_mapM_toList, Array.mapM_eq_mapM_toList]
  congr 1
  congr 1
  refine loop_congr _ _ fun x hx => ?_
  have hx2 := Array.all_eq_true_iff_forall_mem.1 hk x (Array.mem_toList_iff.1 hx)
  cases x with
  | tmp t =>
    have := h.evT (x := .tmp t) hx2
    simp only [Act.eval] at this
    simp only [this]
  | cell q t =>
    have := h.evT (x := .tmp q) hx2
    simp only [Act.eval] at this
    simp only [this]
theorem body_ret {fn : Func} {R : Ending → World → Prop} {v : Value} (h : Hd a n L) (hk : okRes fn L = true) (hr : (resL fn L).run P W = .ok v W) (k : R (.returned v) W) : bodyPost P fn R .ret a W :=
  ⟨h.df, v, by rw [res_eq h hk]; exact hr, k⟩
theorem body_end {fn : Func} {R : Ending → World → Prop} {v : Value} (h : Hd a n L) (hk : okRes fn L = true) (hr : (resL fn L).run P W = .ok v W) (k : R (.returned v) W) : bodyPost P fn R .normal a W :=
  ⟨h.df, v, by rw [res_eq h hk]; exact hr, k⟩
/-- The frame at the beginning. -/
def args0 : Nat → List Value → LF
  | _, [] => []
  | i, v :: r => (i, v) :: args0 (i + 1) r
theorem lk_args : ∀ (vs : List Value) (i j : Nat) (v : Value), lk (args0 i vs) j = some v → i ≤ j ∧ vs[j - i]? = some v
  | [], i, j, v, h => by simp [args0, lk] at h
  | u :: vs, i, j, v, h => by
    simp only [args0, lk] at h
    by_cases e : i = j
    · subst e
      simp only [Nat.beq_refl, cond_true] at h
      simp [h]
    · have e2 : Nat.beq i j = false := Bool.eq_false_iff.2 fun h => e (Nat.eq_of_beq_eq_true h)
      rw [e2, cond_false] at h
      obtain ⟨h1, h2⟩ := lk_args vs (i + 1) j v h
      refine ⟨by omega, ?_⟩
      have : j - i = (j - (i + 1)) + 1 := by omega
      rw [this, List.getElem?_cons_succ]
      exact h2
theorem calls_enter {f : FuncId} {fn : Func} {c : Code} {args : List Value} {R : Ending → World → Prop} (hf : P.funcs[f]? = some fn) (hb : fn.body = some c) (n : Nat) (hn : fn.ntmps = n) (hl : Nat.ble args.length n = true)
    (k : ∀ a, Hd a n (args0 0 args) → c.wp P (bodyPost P fn R) a W) : Calls P f args.toArray W R := by
  refine calls_of_wp hf hb (k _ ⟨rfl, ?_, ?_⟩)
  · have := Nat.le_of_ble_eq_true hl
    simp [hn]
    omega
  · intro i v hi
    have := (lk_args args 0 i v hi).2
    simp only [Nat.sub_zero] at this
    obtain ⟨hlt, _⟩ := List.getElem?_eq_some_iff.1 this
    rw [Array.getElem?_append_left (by simpa using hlt)]
    simpa using this
end

/-! ### regions that draw their order -/
def WA (P : Program) (Q : Exit → Act → World → Prop) (ops : Array Oper) (listed : Array Bool) (fuel : Nat) (a : Act) (w : World) : Prop := wpAny P .any ops Q fuel listed a w
section
variable {P : Program} {Q : Exit → Act → World → Prop} {ops : Array Oper} {a : Act} {n : Nat} {L : LF} {W : World} {listed : Array Bool} {fuel : Nat}
theorem WA.start {id : Nat} (hm : P.follows .mixedOrders = true) (h : WA P Q ops (Array.replicate ops.size false) ops.size a W.drew) : (Code.region id ops true).wp P Q a W := wp_region_any hm h
theorem WA.done (hr : (Region.ready .any ops listed).isEmpty = true) (h : Q .normal a W) : WA P Q ops listed fuel a W := wpAny_done (by simpa using hr) h fuel
/-- Is the operation carried out? (its guard's slot holds what it asks) -/
def wantL (ops : Array Oper) (L : LF) (o : Oper) : Option Bool :=
  match o.guard with
  | none => some true
  | some (g, want) => match (ops[g]?).bind (·.dst) with
    | some t => match lk L t with
      | some (.bool x) => some (x == want)
      | some (.tuple _) => some false
      | _ => none
    | none => none
theorem want_eq {o : Oper} {t : Bool} (h : Hd a n L) (hw : wantL ops L o = some t) : Region.wanted o (yielded ops a.tmps) = t := by
  unfold wantL at hw
  unfold Region.wanted
  cases hg : o.guard with
  | none => simpa [hg] using hw
  | some p =>
    obtain ⟨g, want⟩ := p
    rw [hg] at hw
    simp only at hw ⊢
    unfold yielded
    cases hd : (ops[g]?).bind (·.dst) with
    | none => rw [hd] at hw; simp at hw
    | some s =>
      rw [hd] at hw
      simp only at hw
      cases hl : lk L s with
      | none => rw [hl] at hw; simp at hw
      | some v =>
        rw [hl] at hw
        have := h.at_ s v hl
        simp only [Option.bind_some, this]
        cases v <;> simp_all
/-- A static look: it may come up, nobody who could come before it touches its slots. -/
def freeAt (ops : Array Oper) (listed : Array Bool) (i : Nat) : Bool := Region.noSelect ops && Region.free .any ops listed i && (Region.ready .any ops listed).contains i
/-- An operation that gives its value in any world is taken first. -/
theorem WA.take (i : Nat) {o : Oper} {d : Nat} {v : Value} {listed' : Array Bool} (h : Hd a n L) (hi : ops[i]? = some o) (hd : o.dst = some d) (hf : freeAt ops listed i = true)
    (hk : (Nat.blt d n && noSel o && okOp L o) = true) (hw : wantL ops L o = some true) (hrun : ∀ w, (execOp (evT L) o).run P w = .ok (.value v) w)
    (hQ : ∀ c a w, Q (.panic c) (a.put o.dst v) w → Q (.panic c) a w) (hl : listed.setIfInBounds i true = listed') (k : ∀ a', Hd a' n ((d, v) :: L) → WA P Q ops listed' fuel a' W) : WA P Q ops listed (fuel + 1) a W := by
  subst hl
  simp only [freeAt, Bool.and_eq_true] at hf
  simp only [Bool.and_eq_true] at hk
  have hlt : d < n := by simpa [Nat.blt, Nat.succ_le_iff] using hk.1.1
  refine wpAny_take (v := v) hi hf.1.1 hf.1.2 hf.2 hQ (.inl ⟨want_eq h hw, fun w => by rw [exec_eq h hk.1.2 hk.2]; exact hrun w⟩) ?_
  rw [hd]
  exact k _ (h.put hlt v)
/-- An operation whose guard says no. -/
theorem WA.skip (i : Nat) {o : Oper} {d : Nat} {listed' : Array Bool} (h : Hd a n L) (hi : ops[i]? = some o) (hd : o.dst = some d) (hf : freeAt ops listed i = true)
    (hk : Nat.blt d n = true) (hw : wantL ops L o = some false)
    (hQ : ∀ c a w, Q (.panic c) (a.put o.dst undef) w → Q (.panic c) a w) (hl : listed.setIfInBounds i true = listed') (k : ∀ a', Hd a' n ((d, undef) :: L) → WA P Q ops listed' fuel a' W) : WA P Q ops listed (fuel + 1) a W := by
  subst hl
  simp only [freeAt, Bool.and_eq_true] at hf
  have hlt : d < n := by simpa [Nat.blt, Nat.succ_le_iff] using hk
  refine wpAny_take (v := undef) hi hf.1.1 hf.1.2 hf.2 hQ (.inr ⟨want_eq h hw, rfl⟩) ?_
  rw [hd]
  exact k _ (h.put hlt undef)
/-- The one that must come up now. -/
theorem WA.op (i : Nat) {o : Oper} {listed' : Array Bool} (h : Hd a n L) (hi : ops[i]? = some o) (hr : Region.ready .any ops listed = [i]) (hw : wantL ops L o = some true) (hl : listed.setIfInBounds i true = listed')
    (k : o.wp P a W (WA P Q ops listed' fuel) Q) : WA P Q ops listed (fuel + 1) a W := by
  subst hl
  refine wpAny_all hr (by simp) fun j hj => ?_
  obtain rfl : j = i := by simpa using hj
  unfold wpOp
  simp only [hi, want_eq h hw, if_true]
  exact .inl k
/-- Any of several may come up. -/
theorem WA.any_ (js : List Nat) (hr : Region.ready .any ops listed = js) (hne : js ≠ []) (k : ∀ j ∈ js, ∃ o, ops[j]? = some o ∧ Region.wanted o (yielded ops a.tmps) = true ∧ o.wp P a W (WA P Q ops (listed.setIfInBounds j true) fuel) Q) : WA P Q ops listed (fuel + 1) a W := by
  refine wpAny_all hr hne fun j hj => ?_
  obtain ⟨o, hi, hw, hk⟩ := k j hj
  unfold wpOp
  simp only [hi, hw, if_true]
  exact .inl hk
end
end Go.Proofs.Sl
