/- slices.Delete: a piece of a row is taken out, in place. -/
import Derived.Test.YtikfpmieadfllaaSlQ
set_option linter.unusedVariables false
set_option linter.unusedSimpArgs false
namespace Go.Proofs.Sl
open Go Go.RowKit
section
variable {P : Program} {Q : Exit → Act → World → Prop} {a : Act} {n : Nat} {L : LF} {W : World} {o : Oper} {K : Act → World → Prop} {d : Nat} {v : Value}
  {b : Nat} {w0 : World} {R R' : Frag} {Ms Ms' : List Frag} {m : Frag} {α : Type} {dk : Kd α} {E : Nat} {xs ys : List α} {M M2 : Frag}
theorem sliced_lo (g off i c sz : Nat) : sliced (some ⟨g, off, none⟩) 0 i c sz = .slice (some ⟨g, off, none⟩) i c := by
  unfold sliced
  by_cases h : c = 0
  · simp [h]
  · simp [h, Addr.add_lit]
theorem sliced_hi (g off j len c sz : Nat) : sliced (some ⟨g, off, none⟩) j len c sz = .slice (some ⟨g, if c = j then off else off + j * sz, none⟩) (len - j) (c - j) := by
  unfold sliced
  by_cases h : c = j
  · simp [h]
  · simp [h, Addr.add_lit]
theorem RowC.del {A : Option Addr} {len c sz i j : Nat} {cs blk} {t e ty : Nat} {z : Value} {bytes : Nat} (h : RowC e sz (.slice A len c) len cs blk) (hS : St b w0 W R (blk :: Ms)) (ht : P.underlying t = some (.slice e))
    (hinfo : (P.info? e).map (·.size) = some sz) (hone : ∀ u ∈ cs, u.oneCell' = true) (hij : i ≤ j) (hj : j ≤ len) :
    ∃ W' blk', (Builtin.append_ #[t, t] ty #[sliced A 0 i c sz, sliced A j len c sz]).run P W = .ok (.slice A (i + (len - j)) c) W' ∧
      RowC e sz (.slice A len c) len ((cs.take (i * sz) ++ cs.drop (j * sz)) ++ cs.drop ((i + (len - j)) * sz)) blk' ∧ St b w0 W' R (blk' :: Ms) := by
  obtain ⟨i0, hi, rfl⟩ := Option.map_eq_some_iff.1 hinfo
  rcases h with ⟨e1, rfl, rfl, rfl⟩ | ⟨g, off, cap, pre, post, e1, rfl, rfl, hcl, hc, hn, hm⟩
  · injection e1 with e1 _ e3
    subst e1
    subst e3
    obtain rfl : j = 0 := by omega
    obtain rfl : i = 0 := by omega
    have hx : Src P i0.size t (.slice none 0 0) 0 [] W := Src.ofNil W ht 0
    refine ⟨W, [], ?_, .inl ⟨by simp, rfl, by simp, rfl⟩, hS⟩
    have e0 : sliced none 0 0 0 i0.size = .slice none 0 0 := by simp [sliced]
    rw [e0]
    simp [Builtin.append_, run_underlying ht, sizeOf, typeInfo, hi, hx.len, hx.cells]
  · injection e1 with e1 _ e3
    subst e1
    subst e3
    have hb := hS.blk
    rw [sliced_lo, sliced_hi]
    have q1 : i * i0.size ≤ j * i0.size := Nat.mul_le_mul_right _ hij
    have q2 : j * i0.size ≤ len * i0.size := Nat.mul_le_mul_right _ hj
    have q3 : len * i0.size ≤ c * i0.size := Nat.mul_le_mul_right _ hn
    have q4 : (len - j) * i0.size = len * i0.size - j * i0.size := Nat.sub_mul _ _ _
    have q5 : (i + (len - j)) * i0.size = i * i0.size + (len * i0.size - j * i0.size) := by rw [Nat.add_mul, q4]
    have hx : Src P i0.size t (.slice (some ⟨g, if c = j then pre.length else pre.length + j * i0.size, none⟩) (len - j) (c - j)) (len - j) (cs.drop (j * i0.size)) W := by
      refine Src.ofSlice W ht _ _ _ _ (by rw [List.length_drop, hcl, q4]) (fun q u hq => ?_) fun u hu => hone u (List.mem_of_mem_drop hu)
      obtain ⟨hlt, _⟩ := List.getElem?_eq_some_iff.1 hq
      rw [List.length_drop] at hlt
      rw [List.getElem?_drop] at hq
      have hcj : c ≠ j := by
        intro hcj
        subst hcj
        omega
      rw [if_neg hcj, Addr.add_lit]
      simp only [World.cell?, hb, Option.isSome_none, Bool.false_eq_true, if_false, List.getElem?_toArray]
      rw [List.append_assoc, List.getElem?_append_right (by omega), List.getElem?_append_left (by omega)]
      rw [show pre.length + j * i0.size + q - pre.length = j * i0.size + q by omega]
      exact hq
    have hnl : (cs.drop (j * i0.size)).length = (len - j) * i0.size := hx.newsLen
    have hst := run_storeCells_at (P := P) g (pre.length + i * i0.size) e (cs.drop (j * i0.size)) 0 (pre ++ cs ++ post).toArray W hb (by simp; omega) hx.one
    have ew : (pre ++ cs ++ post).take (pre.length + i * i0.size + 0) ++ cs.drop (j * i0.size) ++ (pre ++ cs ++ post).drop (pre.length + i * i0.size + 0 + (cs.drop (j * i0.size)).length) = pre ++ ((cs.take (i * i0.size) ++ cs.drop (j * i0.size)) ++ cs.drop ((i + (len - j)) * i0.size)) ++ post := by
      rw [Nat.add_zero, hnl, show pre.length + i * i0.size + (len - j) * i0.size = pre.length + (i + (len - j)) * i0.size by rw [q5, q4]; omega]
      rw [List.append_assoc pre cs post, List.take_append, List.drop_append, List.take_append, List.drop_append]
      rw [List.take_of_length_le (show pre.length ≤ pre.length + i * i0.size by omega), List.drop_eq_nil_of_le (show pre.length ≤ pre.length + (i + (len - j)) * i0.size by omega)]
      rw [show pre.length + i * i0.size - pre.length = i * i0.size by omega, show pre.length + (i + (len - j)) * i0.size - pre.length = (i + (len - j)) * i0.size by omega]
      rw [show i * i0.size - cs.length = 0 by omega, show (i + (len - j)) * i0.size - cs.length = 0 by omega]
      simp
    rw [ew] at hst
    refine ⟨W.setRow g (pre ++ ((cs.take (i * i0.size) ++ cs.drop (j * i0.size)) ++ cs.drop ((i + (len - j)) * i0.size)) ++ post).toArray, _, ?_, .inr ⟨g, pre.length, c, pre, post, rfl, rfl, rfl, ?_, ?_, hn, hm⟩, ?_⟩
    · have hroom : i + (len - j) ≤ c := by omega
      simp [Builtin.append_, run_underlying ht, sizeOf, typeInfo, hi, hx.len, hroom, hx.cells, Addr.add_lit, hst]
    · simp only [List.length_append, List.length_take, List.length_drop]
      omega
    · simp only [List.length_append, List.length_take, List.length_drop]
      omega
    · refine St.turn (m := []) hS rfl rfl rfl (by simp [World.setRow]) (setRow_heap W g _ _ e (0, 0) hb) fun k _ hk => ?_
      simp only [World.setRow, Array.getElem?_modify]
      rw [if_neg (by omega)]
theorem RowC.clear_tail {A : Option Addr} {len c sz l : Nat} {cs1 rest blk} {t e ty : Nat} {z : Value} (h : RowC E sz (.slice A len c) len (cs1 ++ rest) blk) (hl1 : cs1.length = l * sz) (hle : l ≤ len) (hS : St b w0 W R (blk :: Ms)) (ht : P.underlying t = some (.slice e))
    (hinfo : (P.info? e).map (fun i => (i.zero, i.size)) = some (some z, sz)) (hz : z.cells.size = sz) (h1 : ∀ u ∈ z.cells.toList, u.oneCell' = true) :
    ∃ W' blk', (Builtin.clear_ #[t] ty #[sliced A l len c sz]).run P W = .ok (.tuple #[]) W' ∧ RowC E sz (.slice A l c) l cs1 blk' ∧ St b w0 W' R (blk' :: Ms) := by
  obtain ⟨i0, hi, hzz⟩ := Option.map_eq_some_iff.1 hinfo
  simp only [Prod.mk.injEq] at hzz
  obtain ⟨hz0, hz1⟩ := hzz
  by_cases hll : l = len
  · subst hll
    have hr : rest = [] := by
      have := h.len
      rw [List.length_append] at this
      exact List.eq_nil_of_length_eq_zero (by omega)
    subst hr
    rw [List.append_nil] at h
    refine ⟨W, blk, ?_, h, hS⟩
    unfold sliced
    rw [Nat.sub_self]
    generalize (if c = l then A else A.map (·.add (l * sz))) = B
    cases B with
    | none => simp [Builtin.clear_, run_underlying ht]
    | some B => simp [Builtin.clear_, run_underlying ht]
  · rcases h with ⟨e1, rfl, h3, rfl⟩ | ⟨g, off, cap, pre, post, e1, rfl, rfl, hl, hc, hn, hm⟩
    · omega
    injection e1 with e1 _ e3
    subst e1
    subst e3
    have hb := hS.blk
    rw [sliced_hi, if_neg (by omega)]
    obtain ⟨q, hq⟩ : ∃ q, len - l = q + 1 := ⟨len - l - 1, by omega⟩
    have hqs : (len - l) * sz = len * sz - l * sz := Nat.sub_mul _ _ _
    have q3 : l * sz ≤ len * sz := Nat.mul_le_mul_right _ hle
    have hzl : (Builtin.zeroCells z.cells (len - l)).toList.length = (len - l) * sz := by simp [Builtin.zeroCells, hz]
    have hone : ∀ u ∈ (Builtin.zeroCells z.cells (len - l)).toList, u.oneCell' = true := by
      intro u hu
      simp only [Builtin.zeroCells, Array.toList_map, List.mem_map, Array.mem_toList_iff, Array.mem_range] at hu
      obtain ⟨j, hj, rfl⟩ := hu
      have hp : 0 < z.cells.size := by
        rcases Nat.eq_zero_or_pos z.cells.size with h0 | h0
        · rw [h0] at hj; omega
        · exact h0
      have hlt := Nat.mod_lt j hp
      rw [getElem!_pos z.cells _ hlt]
      exact h1 _ (Array.mem_toList_iff.2 (Array.getElem_mem hlt))
    obtain ⟨Z, hZ⟩ : ∃ Z, Z = (Builtin.zeroCells z.cells (len - l)).toList := ⟨_, rfl⟩
    rw [← hZ] at hzl hone
    rw [List.length_append] at hl hc
    have hst := run_storeCells_at (P := P) g (pre.length + l * sz) E Z 0 (pre ++ (cs1 ++ rest) ++ post).toArray W hb (by simp; omega) hone
    simp only [Nat.add_zero] at hst
    have ew : (pre ++ (cs1 ++ rest) ++ post).take (pre.length + l * sz) ++ Z ++ (pre ++ (cs1 ++ rest) ++ post).drop (pre.length + l * sz + Z.length) = pre ++ cs1 ++ (Z ++ post) := by
      have e1 : pre.length + l * sz = (pre ++ cs1).length := by simp [hl1]
      have e2 : Z.length = rest.length := by omega
      have e3 : pre ++ (cs1 ++ rest) ++ post = (pre ++ cs1) ++ (rest ++ post) := by simp
      rw [e1, e2, e3, List.take_left', ← List.drop_drop, List.drop_left', List.drop_left']
      · simp
      · rfl
      · rfl
      · rfl
    rw [ew] at hst
    refine ⟨W.setRow g (pre ++ cs1 ++ (Z ++ post)).toArray, _, ?_, .inr ⟨g, pre.length, c, pre, Z ++ post, rfl, rfl, rfl, hl1, ?_, by omega, hm⟩, ?_⟩
    · rw [hZ] at hst ⊢
      rw [hq] at hst ⊢
      simp only [Builtin.clear_, List.getElem?_toArray]
      simp [run_underlying ht, zeroValue, typeInfo, hi, hz0, hst]
    · rw [List.length_append]
      omega
    · refine St.turn (m := []) hS rfl rfl rfl (by simp [World.setRow]) (setRow_heap W g _ _ E (0, 0) hb) fun k _ hk => ?_
      simp only [World.setRow, Array.getElem?_modify]
      rw [if_neg (by omega)]
/-- A row with leavings behind it. -/
def RowX (dk : Kd α) (E b : Nat) (w0 : World) (R : Frag) (A : Option Addr) (len c : Nat) (xs : List α) (M : Frag) : Prop :=
  ∃ cs1 rest blk Mi, RowC E dk.sz (.slice A len c) len (cs1 ++ rest) blk ∧ M = blk ++ Mi ∧ Reps dk b w0 R xs cs1 Mi ∧ xs.length ≤ len ∧ len ≤ c
theorem owp_del {s x : Operand} {t e len i j : Nat} {A : Option Addr} {c : Nat} (h : Hd a n L) (hd : o.dst = some d) (hk : (Nat.blt d n && noSel o && okOp L o) = true)
    (hop : o.op = .call { callee := .builtin .append, args := #[s, x], argTypes := #[t, t] }) (hs : ev L s = some (sliced A 0 i c dk.sz)) (hx : ev L x = some (sliced A j len c dk.sz))
    (hr : Row dk e b w0 R (.slice A len c) xs M) (hS : St b w0 W R (M :: Ms)) (ht : P.underlying t = some (.slice e)) (hinfo : (P.info? e).map (·.size) = some dk.sz) (hl : xs.length = len) (hij : i ≤ j) (hj : j ≤ len)
    (k : ∀ a' W' M', Hd a' n ((d, .slice A (i + (len - j)) c) :: L) → RowX dk e b w0 R A len c (xs.take i ++ xs.drop j) M' → St b w0 W' R (M' :: Ms) → K a' W') : o.wp P a W K Q := by
  subst hl
  obtain ⟨cs, blk, Mi, q1, rfl, q3⟩ := hr
  obtain ⟨M1, Mx, M2, rfl, r1, r2, r3⟩ := q3.cut (l := i) (hi := j) hij
  have hone : ∀ u ∈ cs, u.oneCell' = true := q3.one
  have hS2 : St b w0 W R (blk :: (M1 ++ Mx ++ M2) :: Ms) := hS.split
  obtain ⟨W', blk', hrun, g1, g2⟩ := q1.del (ty := o.type) (z := undef) (bytes := 0) hS2 ht hinfo hone hij hj
  have hcap := q1.slice
  refine owp_val h hd hk (exec_append hop hs hx hrun) fun a' h' => k a' W' (blk' ++ (M1 ++ M2)) h' ⟨_, _, blk', M1 ++ M2, g1, rfl, r1.append r3, by simp; omega, ?_⟩ ?_
  · obtain ⟨A', c', e1, e2, _⟩ := hcap
    injection e1 with _ _ e1
    omega
  · have : St b w0 W' R (Mx :: (blk' ++ (M1 ++ M2)) :: Ms) := by
      refine g2.perm (List.Perm.append_left R ?_)
      simp only [List.flatten_cons, ← List.append_assoc]
      refine List.Perm.append_right _ ?_
      have e1 : (blk' ++ M1 ++ Mx ++ M2).Perm (Mx ++ (blk' ++ M1) ++ M2) := (List.perm_append_comm (l₁ := blk' ++ M1) (l₂ := Mx)).append_right M2
      simpa [List.append_assoc] using e1
    exact this.drop_
theorem owp_deltail {x : Operand} {t e len l : Nat} {A : Option Addr} {c : Nat} {z : Value} (h : Hd a n L) (hd : o.dst = none) (hk : (noSel o && okOp L o) = true) (hop : o.op = .call { callee := .builtin .clear, args := #[x], argTypes := #[t] }) (hx : ev L x = some (sliced A l len c dk.sz))
    (hr : RowX dk E b w0 R A len c xs M) (hS : St b w0 W R (M :: Ms)) (hl : xs.length = l) (ht : P.underlying t = some (.slice e)) (hinfo : (P.info? e).map (fun i => (i.zero, i.size)) = some (some z, dk.sz)) (hz : z.cells.size = dk.sz) (h1 : ∀ u ∈ z.cells.toList, u.oneCell' = true)
    (k : ∀ a' W' M', Hd a' n L → Row dk E b w0 R (.slice A l c) xs M' → St b w0 W' R (M' :: Ms) → K a' W') : o.wp P a W K Q := by
  subst hl
  obtain ⟨cs1, rest, blk, Mi, q1, rfl, q3, q4, q5⟩ := hr
  obtain ⟨W', blk', hrun, g1, g2⟩ := q1.clear_tail (ty := o.type) q3.len q4 hS.split ht hinfo hz h1
  have hrun2 : (execOp (evT L) o).run P W = .ok (.value (.tuple #[])) W' := by
    unfold execOp
    simp only [hop, resolve, invoke, builtin, Sem.run_bind, Sem.run_pure, Result.andThen_ok, List.map_toArray, List.map_cons, List.map_nil, ev_eval hx, hrun]
  exact owp_val0 h hd hk hrun2 fun a' h' => k a' W' (blk' ++ Mi) h' ⟨cs1, blk', Mi, g1, rfl, q3⟩ g2.join
/-- A cut with its most told; a cut beyond the length. -/
theorem run_cut3 {t e : Nat} {x lo hi mx : Operand} {A : Option Addr} {len cap : Nat} {l h m : Int} {k1 k2 k3 : IntKind} {sz : Nat} (hop : o.op = .slice t x (some lo) (some hi) (some mx)) (hx : ev L x = some (.slice A len cap)) (ht : P.underlying t = some (.slice e))
    (hsz : (P.info? e).map (·.size) = some sz) (hlo : ev L lo = some (.int k1 l)) (hhi : ev L hi = some (.int k2 h)) (hmx : ev L mx = some (.int k3 m)) (h0 : 0 ≤ l) (h1 : l ≤ h) (h2 : h ≤ m) (h3 : m ≤ cap) (hlc : len ≤ cap) :
    (execOp (evT L) o).run P W = .ok (.value (sliced A l.toNat h.toNat m.toNat sz)) W := by
  obtain ⟨i0, hi0, rfl⟩ := Option.map_eq_some_iff.1 hsz
  have hE : P.elem t = e := by simp [Program.elem, ht]
  have ht' : P.underlying t = some (.slice (P.elem t)) := by rw [hE]; exact ht
  have hs : ∀ w, (sizeOf (P.elem t)).run P w = .ok i0.size w := fun w => by rw [hE]; simp [sizeOf, typeInfo, hi0]
  unfold execOp
  simp only [hop, ev_eval hx, Option.map_some, ev_eval hlo, ev_eval hhi, ev_eval hmx, Sem.run_bind, run_sliceAt_slice W t _ _ _ _ ht']
  rw [run_slice_lhm W t A len cap ht' k1 k2 k3 l h m h0 h1 h2 h3]
  simp [hs]
end
end Go.Proofs.Sl
