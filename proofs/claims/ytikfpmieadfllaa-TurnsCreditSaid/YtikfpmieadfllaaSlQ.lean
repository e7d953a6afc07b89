/- Arrays that are only read: those of the package's variables. -/
import Derived.Test.YtikfpmieadfllaaSlN
set_option linter.unusedVariables false
set_option linter.unusedSimpArgs false
namespace Go.Proofs.Sl
open Go Go.RowKit
section
variable {P : Program} {Q : Exit → Act → World → Prop} {a : Act} {n : Nat} {L : LF} {W : World} {o : Oper} {K : Act → World → Prop} {d : Nat} {v : Value}
  {b : Nat} {w0 : World} {R R' : Frag} {Ms Ms' : List Frag} {m : Frag} {α : Type} {dk : Kd α} {E : Nat} {xs ys : List α} {M M2 : Frag}
theorem run_idxarr {t e N : Nat} {x y : Operand} {ad : Addr} {k : IntKind} {i : Int} {sz : Nat} (hop : o.op = .indexAddr t x y) (hx : ev L x = some (.pointer (some ad)))
    (hy : ev L y = some (.int k i)) (ht : P.underlying t = some (.array N e)) (hsz : (P.info? e).map (·.size) = some sz) (h0 : 0 ≤ i) (h1 : i < (N : Int)) : (execOp (evT L) o).run P W = .ok (.value (.pointer (some (ad.add (i.toNat * sz))))) W := by
  obtain ⟨i0, hi0, rfl⟩ := Option.map_eq_some_iff.1 hsz
  have hE : P.elem t = e := by simp [Program.elem, ht]
  have hN : P.arrayLen t = N := by simp [Program.arrayLen, ht]
  unfold execOp
  simp only [hop, ev_eval hx, ev_eval hy, Sem.run_bind, run_indexAt_array (P := P) (w := W) t ad k i (by rw [hE, hN]; exact ht)]
  rw [hN, if_pos ⟨h0, h1⟩, hE]
  simp [sizeOf, typeInfo, hi0]
theorem run_index_st {t e N : Nat} {x y : Operand} {cs cs' : List Value} {k : IntKind} {i : Int} {sz : Nat} {D : TypeDesc} (hop : o.op = .index t x y) (hx : ev L x = some (.agg cs.toArray))
    (hy : ev L y = some (.int k i)) (ht : P.underlying t = some (.array N e)) (he : P.underlying e = some D) (hD : isAggB D = true) (hsz : (P.info? e).map (·.size) = some sz) (h0 : 0 ≤ i) (h1 : i < (N : Int)) (hc : (cs.drop (i.toNat * sz)).take sz = cs') :
    (execOp (evT L) o).run P W = .ok (.value (.agg cs'.toArray)) W := by
  obtain ⟨i0, hi0, rfl⟩ := Option.map_eq_some_iff.1 hsz
  subst hc
  have hg : isAgg e = pure true ∨ True := .inr trivial
  unfold execOp
  cases D <;> simp_all [hop, ev_eval hx, ev_eval hy, Instr.index, run_underlying ht, run_underlying he, asIntOf, part, isAgg, isAggB, sizeOf, typeInfo, hi0, List.extract_toArray, List.extract_eq_take_drop]
theorem run_index_one {t e N : Nat} {x y : Operand} {cs : List Value} {k : IntKind} {i : Int} {D : TypeDesc} (hop : o.op = .index t x y) (hx : ev L x = some (.agg cs.toArray))
    (hy : ev L y = some (.int k i)) (ht : P.underlying t = some (.array N e)) (he : P.underlying e = some D) (hD : notAgg D = true) (hsz : (P.info? e).map (·.size) = some 1) (h0 : 0 ≤ i) (h1 : i < (N : Int)) (hc : cs[i.toNat]? = some v) :
    (execOp (evT L) o).run P W = .ok (.value v) W := by
  obtain ⟨i0, hi0, hz⟩ := Option.map_eq_some_iff.1 hsz
  have hg : (isAgg e).run P W = .ok false W := by
    cases D with
    | struct f => simp [notAgg] at hD
    | array m e => simp [notAgg] at hD
    | _ => simp [isAgg, run_underlying he]
  unfold execOp
  simp only [hop, ev_eval hx, ev_eval hy]
  simp [Instr.index, run_underlying ht, asIntOf, part, hg, sizeOf, typeInfo, hi0, hz, h0, h1, hc]
/-- The cells of elements whose cells are told by a function. -/
theorem flat_len {f : α → List Value} {sz : Nat} (hl : ∀ x, (f x).length = sz) : ∀ xs : List α, (xs.flatMap f).length = xs.length * sz
  | [] => by simp
  | x :: xs => by rw [List.flatMap_cons, List.length_append, hl, flat_len hl xs, List.length_cons, Nat.add_mul]; omega
theorem flat_at {f : α → List Value} {sz : Nat} (hl : ∀ x, (f x).length = sz) : ∀ (xs : List α) (i : Nat) (x : α), xs[i]? = some x → ((xs.flatMap f).drop (i * sz)).take sz = f x
  | [], i, x, h => by simp at h
  | y :: xs, 0, x, h => by
    simp only [List.getElem?_cons_zero, Option.some.injEq] at h
    subst h
    rw [Nat.zero_mul, List.drop_zero, List.flatMap_cons, List.take_append_of_le_length (by rw [hl]; omega), List.take_of_length_le (by rw [hl]; omega)]
  | y :: xs, i + 1, x, h => by
    rw [List.flatMap_cons, Nat.add_mul, Nat.one_mul, Nat.add_comm, ← List.drop_drop, List.drop_left' (hl y)]
    exact flat_at hl xs i x (by simpa using h)
theorem flat_one {f : α → Value} : ∀ (xs : List α) {i : Nat} {x : α}, xs[i]? = some x → (xs.flatMap (fun x => [f x]))[i]? = some (f x)
  | [], i, x, h => by simp at h
  | y :: xs, 0, x, h => by
    simp only [List.getElem?_cons_zero, Option.some.injEq] at h
    subst h
    rfl
  | y :: xs, i + 1, x, h => by
    rw [List.flatMap_cons, List.singleton_append, List.getElem?_cons_succ]
    exact flat_one xs (by simpa using h)
theorem flat_get {f : α → List Value} {sz : Nat} (h0 : 0 < sz) (hl : ∀ x, (f x).length = sz) (xs : List α) (j : Nat) (u : Value) (h : (xs.flatMap f)[j]? = some u) : ∃ x, xs[j / sz]? = some x ∧ (f x)[j % sz]? = some u := by
  obtain ⟨hlt, _⟩ := List.getElem?_eq_some_iff.1 h
  rw [flat_len hl] at hlt
  have hq : j / sz < xs.length := (Nat.div_lt_iff_lt_mul h0).2 hlt
  refine ⟨xs[j / sz], List.getElem?_eq_getElem hq, ?_⟩
  have := flat_at hl xs (j / sz) xs[j / sz] (List.getElem?_eq_getElem hq)
  rw [← this, List.getElem?_take, if_pos (Nat.mod_lt _ h0), List.getElem?_drop, Nat.div_add_mod']
  exact h
theorem Rds.flat_cells {f : α → List Value} {g len c : Nat} {G : List α} (h0 : 0 < dk.sz) (hf : ∀ {x cs}, dk.rd b w0 R x cs → cs = f x) (hl : ∀ x, (f x).length = dk.sz) (h : Rds dk b w0 R (.slice (some ⟨g, 0, none⟩) len c) G) :
    ∀ j u, (G.flatMap f)[j]? = some u → Kn b w0 R ((⟨g, 0, none⟩ : Addr).add j) u := by
  intro j u hj
  obtain ⟨x, hx, hu⟩ := flat_get h0 hl G j u hj
  obtain ⟨A, c', e, _, _, h3⟩ := h
  obtain ⟨ad, cs, rfl, _, hrd, hk⟩ := h3 _ _ hx
  injection e with e
  injection e with e
  subst e
  have := hk (j % dk.sz) u (by rw [hf hrd]; exact hu)
  rwa [Nat.div_add_mod'] at this
/-- A global array, off its cells. -/
theorem Rds.glob {f : α → List Value} {g N : Nat} {G : List α} {cs : List Value} (h0 : 0 < dk.sz) (hf : ∀ x, dk.rd w0.heap.size w0 [] x (f x)) (hl : ∀ x, (f x).length = dk.sz) (hG : G.length = N) (hm : N ≤ maxLen) (hcs : cs = G.flatMap f)
    (hc : ∀ j u, cs[j]? = some u → w0.cell? ⟨g, j, none⟩ = some u) (hg : g < w0.heap.size) : Rds dk w0.heap.size w0 [] (.slice (some ⟨g, 0, none⟩) N N) G := by
  subst hG
  refine ⟨_, _, rfl, Nat.le_refl _, hm, fun i x hx => ⟨_, f x, rfl, rfl, hf x, fun j u hj => ?_⟩⟩
  have hjl : j < dk.sz := by
    obtain ⟨q, _⟩ := List.getElem?_eq_some_iff.1 hj
    rw [hl] at q
    exact q
  rw [Addr.add_lit, Nat.zero_add]
  refine ⟨rfl, .inl ⟨hg, hc _ _ ?_⟩⟩
  rw [hcs]
  have := flat_at hl G i x hx
  rw [← this, List.getElem?_take, if_pos hjl, List.getElem?_drop] at hj
  exact hj
theorem reps_one {f : α → Value} {hf} : ∀ xs : List α, Reps (kOne α f hf) b w0 R xs (xs.map f) []
  | [] => ⟨rfl, rfl⟩
  | x :: xs => ⟨[f x], xs.map f, [], [], rfl, rfl, ⟨rfl, rfl⟩, reps_one xs⟩
theorem reps_int (k : IntKind) (xs : List Int) : Reps (kInt k) b w0 R xs (xs.map fun x => .int k x) [] := reps_one xs
theorem reps_str (xs : List (List UInt8)) : Reps kStr b w0 R xs (xs.map fun x => .string (mkS x)) [] := reps_one xs
theorem reps_bool (xs : List Bool) : Reps kBool b w0 R xs (xs.map fun x => .bool x) [] := reps_one xs
end
end Go.Proofs.Sl
