/- Arrays that are variables; make. -/
import Derived.Test.YtikfpmieadfllaaSlT
set_option linter.unusedVariables false
set_option linter.unusedSimpArgs false
namespace Go.Proofs.Sl
open Go Go.RowKit
section
variable {P : Program} {Q : Exit → Act → World → Prop} {a : Act} {n : Nat} {L : LF} {W : World} {o : Oper} {K : Act → World → Prop} {d : Nat} {v : Value}
  {b : Nat} {w0 : World} {R R' : Frag} {Ms Ms' : List Frag} {m : Frag} {α : Type} {dk : Kd α} {E : Nat} {xs ys : List α} {M M2 : Frag}
theorem Ptr.ptr_form {T : Nat} {x : α} (h : Ptr dk T b w0 R v x M) : ∃ g, v = .pointer (some ⟨g, 0, none⟩) := by
  obtain ⟨g, cs, M', rfl, _, _⟩ := h
  exact ⟨g, rfl⟩
theorem reps_flat {f : α → List Value} (hf : ∀ x, dk.rep b w0 R x (f x) []) : ∀ xs : List α, Reps dk b w0 R xs (xs.flatMap f) []
  | [] => ⟨rfl, rfl⟩
  | x :: xs => ⟨f x, xs.flatMap f, [], [], by rw [List.flatMap_cons], rfl, hf x, reps_flat hf xs⟩
theorem reps_same {c : List Value} {z0 : α} (h : dk.rep b w0 R z0 c []) : ∀ n : Nat, Reps dk b w0 R (List.replicate n z0) (List.replicate n c).flatten []
  | 0 => ⟨rfl, rfl⟩
  | n + 1 => ⟨c, (List.replicate n c).flatten, [], [], by rw [List.replicate_succ, List.flatten_cons], rfl, h, reps_same h n⟩
theorem made_eq (z : Array Value) (sz : Nat) (hz : z.size = sz) : ∀ n : Nat, (madeCells z (n * sz)).toList = (List.replicate n z.toList).flatten := by
  intro n
  apply List.ext_getElem
  · simp [madeCells, List.length_flatten, hz]
  · intro j h1 h2
    have hj : j < n * sz := by simpa [madeCells] using h1
    have hp : 0 < sz := by
      rcases Nat.eq_zero_or_pos sz with h0 | h0
      · rw [h0] at hj; omega
      · exact h0
    have hm : j % sz < z.size := by rw [hz]; exact Nat.mod_lt _ hp
    have e1 : (madeCells z (n * sz)).toList[j] = z[j % sz] := by
      simp only [madeCells, Array.getElem_toList, Array.getElem_map, Array.getElem_range, hz]
      rw [getElem!_pos z _ hm]
    rw [e1]
    clear e1 h1
    induction n generalizing j with
    | zero => omega
    | succ n ih =>
      simp only [List.replicate_succ, List.flatten_cons]
      rw [Nat.add_mul, Nat.one_mul] at hj
      by_cases h : j < sz
      · rw [List.getElem_append_left (by rw [Array.length_toList, hz]; exact h)]
        simp [Nat.mod_eq_of_lt h]
      · rw [List.getElem_append_right (by rw [Array.length_toList, hz]; omega)]
        have e2 : j % sz = (j - z.toList.length) % sz := by
          rw [Array.length_toList, hz]
          exact (Nat.mod_eq_sub_mod (by omega))
        have hm2 : (j - z.toList.length) % sz < z.size := by rw [hz]; exact Nat.mod_lt _ hp
        have := ih (j - z.toList.length) (by simpa [List.length_flatten, hz] using (by rw [Array.length_toList, hz]; omega : j - z.toList.length < n * sz)) (by rw [Array.length_toList, hz]; omega) hm2
        rw [← this]
        congr 1
theorem owp_make {t e : Nat} {x y : Operand} {k1 k2 : IntKind} {l c : Int} {z : Value} {z0 : α} {bytes : Nat} (h : Hd a n L) (hd : o.dst = some d) (hk : (Nat.blt d n && noSel o && okOp L o) = true) (hop : o.op = .makeSlice t x y)
    (hx : ev L x = some (.int k1 l)) (hy : ev L y = some (.int k2 c)) (ht : P.underlying t = some (.slice e)) (hinfo : (P.info? e).map (fun i => (i.zero, i.size, i.bytes)) = some (some z, dk.sz, bytes)) (hz : z.cells.size = dk.sz) (hb0 : 0 < bytes)
    (hz0 : dk.rep b w0 R z0 z.cells.toList []) (hS : St b w0 W R Ms) (h0 : 0 ≤ l) (h1 : l ≤ c) (hb : c * bytes ≤ 140737488355328)
    (k : ∀ a' W' g M', Hd a' n ((d, .slice (some ⟨g, 0, none⟩) l.toNat c.toNat) :: L) → Row dk e b w0 R (.slice (some ⟨g, 0, none⟩) l.toNat c.toNat) (List.replicate l.toNat z0) M' → St b w0 W' R (M' :: Ms) → K a' W') : o.wp P a W K Q := by
  obtain ⟨i0, hi, hzz⟩ := Option.map_eq_some_iff.1 hinfo
  simp only [Prod.mk.injEq] at hzz
  obtain ⟨hzz0, hsz, rfl⟩ := hzz
  have hcb : c ≤ c * i0.bytes := by
    have : c * 1 ≤ c * (i0.bytes : Int) := Int.mul_le_mul_of_nonneg_left (by omega) (by omega)
    omega
  have hrun0 := run_make (P := P) W t e i0 z ht hi hzz0 k1 k2 l c h0 h1 (by rw [Int.mul_comm]; omega) (by omega)
  have e1 : madeCells z.cells (c.toNat * i0.size) = ((List.replicate l.toNat z.cells.toList).flatten ++ (List.replicate (c.toNat - l.toNat) z.cells.toList).flatten).toArray := by
    apply Array.ext'
    rw [hsz, made_eq z.cells dk.sz hz, ← List.flatten_append, List.replicate_append_replicate]
    rw [show l.toNat + (c.toNat - l.toNat) = c.toNat by omega]
  rw [e1] at hrun0
  have hrun : (execOp (evT L) o).run P W = .ok (.value (.slice (some ⟨W.heap.size, 0, none⟩) l.toNat c.toNat)) (W.alloc (.cells ((List.replicate l.toNat z.cells.toList).flatten ++ (List.replicate (c.toNat - l.toNat) z.cells.toList).flatten).toArray e)) := by
    unfold execOp
    simp only [hop, ev_eval hx, ev_eval hy, Sem.run_bind, hrun0]
    rfl
  refine owp_val h hd hk hrun fun a' h' => k a' _ W.heap.size [(W.heap.size, .cells ((List.replicate l.toNat z.cells.toList).flatten ++ (List.replicate (c.toNat - l.toNat) z.cells.toList).flatten).toArray e (0, 0))] h' ?_ (hS.alloc _)
  have el : ∀ q : Nat, ((List.replicate q z.cells.toList).flatten).length = q * dk.sz := by
    intro q
    simp [List.length_flatten, hz]
  refine ⟨(List.replicate l.toNat z.cells.toList).flatten, [_], [], .inr ⟨W.heap.size, 0, c.toNat, [], (List.replicate (c.toNat - l.toNat) z.cells.toList).flatten, ?_, rfl, rfl, ?_, ?_, ?_, ?_⟩, by simp, reps_same hz0 _⟩
  · rw [List.length_replicate]
  · rw [el, List.length_replicate]
  · rw [el, el, ← Nat.add_mul]
    exact Nat.mul_le_mul_right _ (by omega)
  · rw [List.length_replicate]
    omega
  · simp only [maxLen]
    omega
theorem owp_make' {t e : Nat} {x y : Operand} {k1 k2 : IntKind} {l c : Int} {z : Value} {z0 : α} {bytes : Nat} (h : Hd a n L) (hd : o.dst = some d) (hk : (Nat.blt d n && noSel o && okOp L o) = true) (hop : o.op = .makeSlice t x y)
    (hx : ev L x = some (.int k1 l)) (hy : ev L y = some (.int k2 c)) (ht : P.underlying t = some (.slice e)) (hinfo : (P.info? e).map (fun i => (i.zero, i.size, i.bytes)) = some (some z, dk.sz, bytes)) (hz : z.cells.size = dk.sz) (hb0 : 0 < bytes)
    (hz0 : dk.rep b w0 R z0 z.cells.toList []) (hS : St b w0 W R Ms) (h0 : 0 ≤ l) (h1 : l ≤ c) (hb : c * bytes ≤ 140737488355328)
    (k : ∀ a' W' v' M', Hd a' n ((d, v') :: L) → Row dk e b w0 R v' (List.replicate l.toNat z0) M' → St b w0 W' R (M' :: Ms) → K a' W') : o.wp P a W K Q :=
  owp_make h hd hk hop hx hy ht hinfo hz hb0 hz0 hS h0 h1 hb fun a' W' g M' q1 q2 q3 => k a' W' _ M' q1 q2 q3
/-- An array is a row whose length is told. -/
theorem Row.arr {g T N : Nat} {cs : List Value} (hr : Reps dk b w0 R xs cs []) (hl : xs.length = N) (hm : N ≤ maxLen) : Row dk T b w0 R (.slice (some ⟨g, 0, none⟩) N N) xs [(g, .cells cs.toArray T (0, 0))] := by
  subst hl
  have := Row.lit (E := T) (g := g) hr hm
  simpa using this
theorem Row.arr_cells {f : α → List Value} {g len c : Nat} (h0 : 0 < dk.sz) (hf : ∀ {R x cs}, dk.rd b w0 R x cs → cs = f x) (hl : ∀ x, (f x).length = dk.sz) (h : Row dk E b w0 R (.slice (some ⟨g, 0, none⟩) len c) xs M) (hS : St b w0 W R (M :: Ms)) :
    ∀ j u, (xs.flatMap f)[j]? = some u → W.cell? ((⟨g, 0, none⟩ : Addr).add j) = some u :=
  fun j u hj => hS.pool.kn (Rds.flat_cells h0 hf hl h.rds j u hj)
theorem owp_storearr {f : α → List Value} {T g N : Nat} {x y : Operand} (h : Hd a n L) (hd : o.dst = none) (hk : (noSel o && okOp L o) = true) (hop : o.op = .store T x y) (hx : ev L x = some (.pointer (some ⟨g, 0, none⟩))) (hy : ev L y = some (.agg (ys.flatMap f).toArray))
    (hsz : (P.info? T).map (·.size) = some (N * dk.sz)) (hf : ∀ x, dk.rep b w0 R x (f x) []) (hlx : xs.length = N) (hly : ys.length = N) (hN : 0 < N)
    (hr : Row dk E b w0 R (.slice (some ⟨g, 0, none⟩) N N) xs M) (hS : St b w0 W R (M :: Ms))
    (k : ∀ a' W' M', Hd a' n L → Row dk E b w0 R (.slice (some ⟨g, 0, none⟩) N N) ys M' → St b w0 W' R (M' :: Ms) → K a' W') : o.wp P a W K Q := by
  obtain ⟨cs, blk, Mi, q1, rfl, q3⟩ := hr
  rcases q1 with ⟨e1, _, _, _⟩ | ⟨g', off, cap, pre, post, e1, rfl, rfl, hl, hc, hn, hm⟩
  · cases e1
  injection e1 with e1 e2 e3
  injection e1 with e1
  injection e1 with e1 e4
  subst e1
  subst e3
  have hpre : pre = [] := List.eq_nil_of_length_eq_zero e4.symm
  subst hpre
  have hreps := reps_flat hf ys
  have hfl : (ys.flatMap f).length = N * dk.sz := by rw [hreps.len, hly]
  have hS' : St b w0 W R (((g, .cells (cs ++ post).toArray E (0, 0)) :: Mi) :: Ms) := by simpa using hS
  have hb := hS'.blk
  have hcl : cs.length = N * dk.sz := by rw [hl, hlx]
  refine owp_skip h hd hk (run_storeL (i := 0) (vs := ys.flatMap f) hop hx hy rfl hreps.one (by rw [hsz, hfl]) hb (by rw [hfl, List.length_append]; omega)) fun a' h' => k a' _ ((g, .cells ((ys.flatMap f) ++ post).toArray E (0, 0)) :: []) h' ?_ ?_
  · refine ⟨ys.flatMap f, [_], [], .inr ⟨g, 0, N, [], post, by rw [hly], by simp, rfl, by rw [hfl, hly], by rw [hfl]; omega, by omega, hm⟩, rfl, hreps⟩
  · have ew : (cs ++ post).take 0 ++ ys.flatMap f ++ (cs ++ post).drop (0 + (ys.flatMap f).length) = ys.flatMap f ++ post := by
      rw [Nat.zero_add, List.take_zero, List.nil_append, hfl, ← hcl, List.drop_left']
      rfl
    rw [ew]
    have ht : St b w0 (W.setRow g (ys.flatMap f ++ post).toArray) R (((g, .cells (ys.flatMap f ++ post).toArray E (0, 0)) :: Mi) :: Ms) := by
      refine St.turn (m := Mi) hS' rfl rfl rfl (by simp [World.setRow]) (setRow_heap W g _ _ E (0, 0) hb) fun q _ hq => ?_
      simp only [World.setRow, Array.getElem?_modify]
      rw [if_neg (by omega)]
    have h2 : St b w0 (W.setRow g (ys.flatMap f ++ post).toArray) R (Mi :: [(g, .cells (ys.flatMap f ++ post).toArray E (0, 0))] :: Ms) := by
      refine ht.perm (List.Perm.append_left R ?_)
      simp only [List.flatten_cons, List.cons_append, List.nil_append]
      exact List.perm_middle.symm
    exact h2.drop_
end
end Go.Proofs.Sl
