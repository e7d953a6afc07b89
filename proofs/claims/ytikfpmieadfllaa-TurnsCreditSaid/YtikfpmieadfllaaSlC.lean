/- Rows: slices that are held, appended to, cut, read. -/
import Derived.Test.YtikfpmieadfllaaSlB
import Derived.Deep.AppendSrc
import Derived.Laws.Slices
import Derived.Laws.MakeOwn
import Derived.Lib.SliceRun
set_option linter.unusedVariables false
set_option linter.unusedSimpArgs false
namespace Go.Proofs.Sl
open Go Go.RowKit

section
variable {P : Program} {Q : Exit → Act → World → Prop} {a : Act} {n : Nat} {L : LF} {W W' : World} {o : Oper} {K : Act → World → Prop} {d : Nat} {v : Value}
theorem owp_val (h : Hd a n L) (hd : o.dst = some d) (hk : (Nat.blt d n && noSel o && okOp L o) = true) (hrun : (execOp (evT L) o).run P W = .ok (.value v) W') (k : ∀ a', Hd a' n ((d, v) :: L) → K a' W') : o.wp P a W K Q := by
  simp only [Bool.and_eq_true] at hk
  have hlt : d < n := by simpa [Nat.blt, Nat.succ_le_iff] using hk.1.1
  unfold Oper.wp
  rw [exec_eq h hk.1.2 hk.2, hrun]
  show K (a.put o.dst v) W'
  rw [hd]
  exact k _ (h.put hlt v)
theorem owp_val0 (h : Hd a n L) (hd : o.dst = none) (hk : (noSel o && okOp L o) = true) (hrun : (execOp (evT L) o).run P W = .ok (.value v) W') (k : ∀ a', Hd a' n L → K a' W') : o.wp P a W K Q := by
  simp only [Bool.and_eq_true] at hk
  unfold Oper.wp
  rw [exec_eq h hk.1 hk.2, hrun]
  show K (a.put o.dst v) W'
  rw [hd]
  exact k _ h
theorem owp_skip (h : Hd a n L) (hd : o.dst = none) (hk : (noSel o && okOp L o) = true) (hrun : (execOp (evT L) o).run P W = .ok .skip W') (k : ∀ a', Hd a' n L → K a' W') : o.wp P a W K Q := by
  simp only [Bool.and_eq_true] at hk
  unfold Oper.wp
  rw [exec_eq h hk.1 hk.2, hrun]
  show K (a.put o.dst undef) W'
  rw [hd]
  exact k _ h
theorem run_enter {f : FuncId} {fn : Func} (hf : P.funcs[f]? = some fn) (hname : (fn.name == "runtime.NumGoroutine") = false) (hb : fn.body.isSome = true) (args : Array Value) :
    (callFunc f args).run P W = .ok (.enter f args) W := by
  have hb2 : ¬ (fn.body = none) := by cases h : fn.body <;> simp_all
  have hn2 : ¬ (fn.name = "runtime.NumGoroutine") := by simpa using hname
  simp [callFunc, hf, hn2, hb2]
theorem run_call {f : FuncId} {fn : Func} {as : Array Operand} {ts : Array TypeId} {args : Array Value} (hop : o.op = .call { callee := .value (.func f), args := as, argTypes := ts }) (hf : P.funcs[f]? = some fn)
    (hs : (fn.name == "runtime.NumGoroutine") = false) (hb : fn.body.isSome = true) (hargs : as.map (evT L) = args) : (execOp (evT L) o).run P W = .ok (.enter f args) W := by
  unfold execOp
  rw [← hargs]
  simp [hop, resolve, Deferred.ofValue, invoke, evT, ev, run_enter hf hs hb]
theorem owp_call {f : FuncId} {fn : Func} {as : Array Operand} {ts : Array TypeId} (args : List Value) {R : Ending → World → Prop} (h : Hd a n L) (hd : o.dst = some d) (hk : (Nat.blt d n && noSel o && okOp L o) = true)
    (hop : o.op = .call { callee := .value (.func f), args := as, argTypes := ts }) (hf : P.funcs[f]? = some fn) (hs : (fn.name == "runtime.NumGoroutine") = false) (hb : fn.body.isSome = true)
    (hargs : as.map (evT L) = args.toArray) (hc : Calls P f args.toArray W R) (k : ∀ e W', R e W' → ∃ v, e = .returned v ∧ ∀ a', Hd a' n ((d, v) :: L) → K a' W') : o.wp P a W K Q := by
  simp only [Bool.and_eq_true] at hk
  have hlt : d < n := by simpa [Nat.blt, Nat.succ_le_iff] using hk.1.1
  unfold Oper.wp
  rw [exec_eq h hk.1.2 hk.2, run_call hop hf hs hb hargs, Oper.upon_enter]
  refine hc.mono fun e W1 hR => ?_
  obtain ⟨v, rfl, hk2⟩ := k e W1 hR
  show K (a.put o.dst v) W1
  rw [hd]
  exact hk2 _ (h.put hlt v)
theorem owp_call0 {f : FuncId} {fn : Func} {as : Array Operand} {ts : Array TypeId} (args : List Value) {R : Ending → World → Prop} (h : Hd a n L) (hd : o.dst = none) (hk : (noSel o && okOp L o) = true)
    (hop : o.op = .call { callee := .value (.func f), args := as, argTypes := ts }) (hf : P.funcs[f]? = some fn) (hs : (fn.name == "runtime.NumGoroutine") = false) (hb : fn.body.isSome = true)
    (hargs : as.map (evT L) = args.toArray) (hc : Calls P f args.toArray W R) (k : ∀ e W', R e W' → ∃ v, e = .returned v ∧ ∀ a', Hd a' n L → K a' W') : o.wp P a W K Q := by
  simp only [Bool.and_eq_true] at hk
  unfold Oper.wp
  rw [exec_eq h hk.1 hk.2, run_call hop hf hs hb hargs, Oper.upon_enter]
  refine hc.mono fun e W1 hR => ?_
  obtain ⟨v, rfl, hk2⟩ := k e W1 hR
  show K (a.put o.dst v) W1
  rw [hd]
  exact hk2 _ h
end

/-! ### cells of a row -/
/-- v is a slice of n elements (type E, sz cells each) whose cells are cs; blk: its block. -/
def RowC (E sz : Nat) (v : Value) (n : Nat) (cs : List Value) (blk : Frag) : Prop :=
  (v = .slice none 0 0 ∧ n = 0 ∧ cs = [] ∧ blk = []) ∨
  ∃ g off cap pre post, v = .slice (some ⟨g, off, none⟩) n cap ∧ blk = [(g, .cells (pre ++ cs ++ post).toArray E (0, 0))] ∧ pre.length = off ∧ cs.length = n * sz ∧
    cap * sz ≤ cs.length + post.length ∧ n ≤ cap ∧ cap ≤ maxLen
section
variable {P : Program} {b : Nat} {w0 W : World} {R : Frag} {Ms : List Frag} {E sz n : Nat} {v : Value} {cs : List Value} {blk : Frag}
theorem RowC.len (h : RowC E sz v n cs blk) : cs.length = n * sz := by
  rcases h with ⟨_, rfl, rfl, _⟩ | ⟨_, _, _, _, _, _, _, _, h, _⟩
  · simp
  · exact h
theorem RowC.slice (h : RowC E sz v n cs blk) : ∃ A c, v = .slice A n c ∧ n ≤ c ∧ c ≤ maxLen := by
  rcases h with ⟨rfl, rfl, _, _⟩ | ⟨g, off, cap, _, _, rfl, _, _, _, _, h1, h2⟩
  · exact ⟨none, 0, rfl, Nat.le_refl _, by simp [maxLen]⟩
  · exact ⟨_, cap, rfl, h1, h2⟩
theorem RowC.nil : RowC E sz (.slice none 0 0) 0 [] [] := .inl ⟨rfl, rfl, rfl, rfl⟩
/-- A new block: a literal, a make. -/
theorem RowC.lit (g : Nat) (cs post : List Value) (n cap : Nat) (hl : cs.length = n * sz) (hc : cap * sz ≤ cs.length + post.length) (hn : n ≤ cap) (hm : cap ≤ maxLen) : RowC E sz (.slice (some ⟨g, 0, none⟩) n cap) n cs [(g, .cells (cs ++ post).toArray E (0, 0))] :=
  .inr ⟨g, 0, cap, [], post, rfl, by simp, rfl, hl, hc, hn, hm⟩
/-- Its cells, read. -/
theorem RowC.cell (h : RowC E sz v n cs blk) (hS : St b w0 W R (blk :: Ms)) {j : Nat} {u : Value} (hj : cs[j]? = some u) : ∃ ad c, v = .slice (some ad) n c ∧ ad.spot = none ∧ W.cell? (ad.add j) = some u ∧ W.frozen? (ad.add j) = false := by
  rcases h with ⟨rfl, rfl, rfl, _⟩ | ⟨g, off, cap, pre, post, rfl, rfl, rfl, hl, hc, hn, hm⟩
  · simp at hj
  · have hb := hS.blk
    obtain ⟨hlt, e⟩ := List.getElem?_eq_some_iff.1 hj
    refine ⟨_, cap, rfl, rfl, ?_, ?_⟩
    · rw [Addr.add_lit]
      simp only [World.cell?, hb, Option.isSome_none, Bool.false_eq_true, if_false]
      simp only [List.getElem?_toArray, List.append_assoc]
      rw [List.getElem?_append_right (by omega), List.getElem?_append_left (by omega)]
      rw [Nat.add_sub_cancel_left]
      exact hj
    · rw [Addr.add_lit]
      simp [World.frozen?, hb]
/-- Another value in one of its cells. -/
theorem RowC.set (h : RowC E sz v n cs blk) (hS : St b w0 W R (blk :: Ms)) {j : Nat} (hj : j < cs.length) (u : Value) :
    ∃ ad c blk', v = .slice (some ad) n c ∧ ad.spot = none ∧ RowC E sz v n (cs.set j u) blk' ∧ St b w0 (W.setCell (ad.add j) u) R (blk' :: Ms) := by
  rcases h with ⟨rfl, rfl, rfl, _⟩ | ⟨g, off, cap, pre, post, rfl, rfl, rfl, hl, hc, hn, hm⟩
  · simp at hj
  · have hb := hS.blk
    refine ⟨_, cap, [(g, .cells (pre ++ cs.set j u ++ post).toArray E (0, 0))], rfl, rfl, .inr ⟨g, pre.length, cap, pre, post, rfl, rfl, rfl, by simpa using hl, by simpa using hc, hn, hm⟩, ?_⟩
    rw [Addr.add_lit]
    refine St.turn (m := []) hS (W1 := W.setCell ⟨g, pre.length + j, none⟩ u) (o' := .cells (pre ++ cs.set j u ++ post).toArray E (0, 0)) rfl rfl rfl (by simp [World.setCell]) ?_ ?_
    · rw [heap_setCell_same W g (pre.length + j) _ E u hb]
      congr 3
      apply Array.ext'
      simp only [Array.toList_setIfInBounds, List.append_assoc]
      rw [List.set_append_right _ _ (by omega), List.set_append_left _ _ (by omega), Nat.add_sub_cancel_left]
    · intro k _ hk
      exact heap_setCell_other W _ k u hk
theorem first_cells (h : RowC E sz v n cs blk) (hS : St b w0 W R (blk :: Ms)) : (Builtin.firstCells sz n v).run P W = .ok cs.toArray W := by
  rcases h with ⟨rfl, rfl, rfl, _⟩ | ⟨g, off, cap, pre, post, rfl, rfl, rfl, hl, hc, hn, hm⟩
  · simp [Builtin.firstCells]
  · refine run_firstCells_some W sz n _ n cap cs hl fun j u hj => ?_
    obtain ⟨ad, c, e, _, hcell, _⟩ := RowC.cell (v := .slice (some ⟨g, pre.length, none⟩) n cap) (n := n) (sz := sz) (.inr ⟨g, pre.length, cap, pre, post, rfl, rfl, rfl, hl, hc, hn, hm⟩) hS hj
    injection e with e1 e2 e3
    injection e1 with e1
    subst e1
    exact hcell
/-- append(v, ..): whatever is appended. -/
theorem append_core {t tx ty e : TypeId} {z : Value} {bytes : Nat} (h : RowC e sz v n cs blk) (hS : St b w0 W R (blk :: Ms)) (ht : P.underlying t = some (.slice e))
    (hinfo : (P.info? e).map (fun i => (i.zero, i.size, i.bytes)) = some (some z, sz, bytes)) (hz : z.cells.size = sz) (hs0 : 0 < sz) (hb0 : 0 < bytes)
    {x : Value} {m : Nat} {news : List Value} (hx : Src P sz tx x m news W) (hl : (n + m) * bytes ≤ 140737488355328) :
    ∃ v' W' blk', (Builtin.append_ #[t, tx] ty #[v, x]).run P W = .ok v' W' ∧ RowC e sz v' (n + m) (cs ++ news) blk' ∧ St b w0 W' R (blk' :: Ms) := by
  obtain ⟨i0, hi, hzz⟩ := Option.map_eq_some_iff.1 hinfo
  simp only [Prod.mk.injEq] at hzz
  obtain ⟨hz0, rfl, rfl⟩ := hzz
  have hlen : n + m ≤ 140737488355328 := Nat.le_trans (Nat.le_mul_of_pos_right _ hb0) hl
  obtain ⟨A, c, hv, hnc, hcm⟩ := h.slice
  by_cases hroom : n + m ≤ c
  · rcases h with ⟨rfl, rfl, rfl, rfl⟩ | ⟨g, off, cap, pre, post, rfl, rfl, rfl, hcl, hc, hn, hm⟩
    · injection hv with _ _ e3
      subst e3
      have hm0 : m = 0 := by omega
      subst hm0
      have hnews : news = [] := List.eq_nil_of_length_eq_zero (by rw [hx.newsLen, Nat.zero_mul])
      subst hnews
      refine ⟨.slice none 0 0, W, [], ?_, .inl ⟨rfl, rfl, rfl, rfl⟩, hS⟩
      rcases hx.kind with ⟨e', hk⟩ | hk <;> simp [Builtin.append_, run_underlying ht, run_underlying hk, sizeOf, typeInfo, hi, hx.len, hx.cells]
    · injection hv with _ _ e3
      subst e3
      have hb := hS.blk
      have hnl := hx.newsLen
      have hsz : (n + m) * i0.size ≤ cap * i0.size := Nat.mul_le_mul_right _ hroom
      rw [Nat.add_mul] at hsz
      have hst := run_storeCells_at (P := P) g (pre.length + n * i0.size) e news 0 (pre ++ cs ++ post).toArray W hb (by simp; omega) hx.one
      refine ⟨.slice (some ⟨g, pre.length, none⟩) (n + m) cap, W.setRow g (pre ++ (cs ++ news) ++ post.drop news.length).toArray, [(g, .cells (pre ++ (cs ++ news) ++ post.drop news.length).toArray e (0, 0))], ?_, .inr ⟨g, pre.length, cap, pre, post.drop news.length, rfl, rfl, rfl, by simp [hcl, hnl, Nat.add_mul], by simp; omega, hroom, hm⟩, ?_⟩
      · have ew : (List.take (pre.length + n * i0.size + 0) (pre ++ cs ++ post).toArray.toList ++ news ++ List.drop (pre.length + n * i0.size + 0 + news.length) (pre ++ cs ++ post).toArray.toList) = pre ++ (cs ++ news) ++ post.drop news.length := by
          have e1 : pre.length + n * i0.size + 0 = (pre ++ cs).length := by simp [hcl]
          simp only [Nat.add_zero] at e1 ⊢
          rw [e1, List.take_left', ← List.append_assoc, List.append_assoc, ← List.drop_drop]
          · simp [List.append_assoc]
          · rfl
        rw [ew] at hst
        rcases hx.kind with ⟨e', hk⟩ | hk <;> simp [Builtin.append_, run_underlying ht, run_underlying hk, sizeOf, typeInfo, hi, hx.len, hroom, hx.cells, Addr.add_lit, hst]
      · refine St.turn (m := []) hS rfl rfl rfl (by simp [World.setRow]) (setRow_heap W g _ _ e (0, 0) hb) fun k _ hk => ?_
        simp only [World.setRow, Array.getElem?_modify]
        rw [if_neg (by omega)]
  · have hold : (Builtin.firstCells i0.size n (.slice A n c)).run P W.drew = .ok cs.toArray W.drew := by
      rw [← hv]
      exact first_cells h hS.drew
    have hgrow := run_append_grow_src W t tx ty e i0 z ht hi hz0 A n c cs hold x m news hx (by omega) (by omega) (growslice_fits (by omega) hl)
    rw [← hv] at hgrow
    have hgc : n + m ≤ grownCap W (n + m) c e ∧ grownCap W (n + m) c e ≤ maxLen := by
      unfold grownCap Question.cut maxLen
      have hp : 0 < 2 ^ 63 - (n + m) := by omega
      have := Nat.mod_lt (W.tape W.drawn (.appendCap (n + m) c e)) hp
      simp only
      omega
    refine ⟨_, _, [(W.heap.size, .cells ((cs ++ news) ++ (Builtin.zeroCells z.cells (grownCap W (n + m) c e - (n + m))).toList).toArray e (0, 0))], hgrow, ?_, ?_⟩
    · refine RowC.lit _ (cs ++ news) _ _ _ (by simp [h.len, hx.newsLen, Nat.add_mul]) ?_ hgc.1 hgc.2
      have hzl : (Builtin.zeroCells z.cells (grownCap W (n + m) c e - (n + m))).toList.length = (grownCap W (n + m) c e - (n + m)) * i0.size := by simp [Builtin.zeroCells, hz]
      rw [hzl, List.length_append, h.len, hx.newsLen, ← Nat.add_mul, ← Nat.add_mul]
      exact Nat.mul_le_mul_right _ (by omega)
    · have ha := (hS.drop_.drew).alloc (.cells ((cs ++ news).toArray ++ Builtin.zeroCells z.cells (grownCap W (n + m) c e - (n + m))) e)
      have ee : ((cs ++ news).toArray ++ Builtin.zeroCells z.cells (grownCap W (n + m) c e - (n + m))) = ((cs ++ news) ++ (Builtin.zeroCells z.cells (grownCap W (n + m) c e - (n + m))).toList).toArray := by
        apply Array.ext'
        simp
      rw [ee] at ha ⊢
      exact ha
end
end Go.Proofs.Sl
