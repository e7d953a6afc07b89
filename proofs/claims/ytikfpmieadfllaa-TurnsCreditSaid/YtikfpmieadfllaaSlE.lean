/- What single operations do to what is held. -/
import Derived.Test.YtikfpmieadfllaaSlD
import Derived.Laws.BytesArg
import Derived.Lib.Strings
import Derived.Laws.Strings
import Derived.Laws.Concat
set_option linter.unusedVariables false
set_option linter.unusedSimpArgs false
namespace Go.Proofs.Sl
open Go Go.RowKit

def toS (xs : List Int) : List UInt8 := xs.map fun x => UInt8.ofNat x.toNat
def ofS (l : List UInt8) : List Int := l.map fun c => (c.toNat : Int)
def rdI (xs : List Int) (i : Int) : Int := xs.getD i.toNat 0
def btI (l : List UInt8) (i : Int) : Int := ((l.getD i.toNat 0).toNat : Int)
def notAgg : TypeDesc → Bool
  | .struct _ | .array _ _ => false
  | _ => true
def isAggB : TypeDesc → Bool
  | .struct _ | .array _ _ => true
  | _ => false

section
variable {P : Program} {Q : Exit → Act → World → Prop} {a : Act} {n : Nat} {L : LF} {W : World} {o : Oper} {K : Act → World → Prop} {d : Nat} {v : Value}
  {b : Nat} {w0 : World} {R : Frag} {Ms : List Frag} {m : Frag}
theorem ev_eval {x : Operand} {v : Value} (hx : ev L x = some v) : evT L x = v := by simp [evT, hx]
/-! #### loads and stores -/
theorem run_load1 {t : Nat} {x : Operand} {ad : Addr} {D : TypeDesc} (hop : o.op = .load t x) (hx : ev L x = some (.pointer (some ad))) (hu : P.underlying t = some D) (hD : notAgg D = true) (hc : W.cell? ad = some v) :
    (execOp (evT L) o).run P W = .ok (.value v) W := by
  unfold execOp
  cases D with
  | struct f => simp [notAgg] at hD
  | array m e => simp [notAgg] at hD
  | _ => simp [hop, ev_eval hx, Instr.loadAt, Instr.sureAddr, loadVar, isAgg, run_underlying hu, hc]
theorem owp_load1 {t : Nat} {x : Operand} {ad : Addr} {D : TypeDesc} (h : Hd a n L) (hd : o.dst = some d) (hk : (Nat.blt d n && noSel o && okOp L o) = true) (hop : o.op = .load t x) (hx : ev L x = some (.pointer (some ad)))
    (hu : P.underlying t = some D) (hD : notAgg D = true) (hc : W.cell? ad = some v) (k : ∀ a', Hd a' n ((d, v) :: L) → K a' W) : o.wp P a W K Q :=
  owp_val h hd hk (run_load1 hop hx hu hD hc) k
theorem run_loadN {t : Nat} {x : Operand} {ad : Addr} {D : TypeDesc} {cs : List Value} (hop : o.op = .load t x) (hx : ev L x = some (.pointer (some ad))) (hu : P.underlying t = some D) (hD : isAggB D = true)
    (hsz : (P.info? t).map (·.size) = some cs.length) (hc : ∀ j u, cs[j]? = some u → W.cell? (ad.add j) = some u) : (execOp (evT L) o).run P W = .ok (.value (.agg cs.toArray)) W := by
  obtain ⟨i0, hi, hz⟩ := Option.map_eq_some_iff.1 hsz
  have hl := run_loadCells_list (P := P) W ad cs hc
  unfold execOp
  cases D <;> simp_all [hop, ev_eval hx, Instr.loadAt, Instr.sureAddr, loadVar, isAgg, run_underlying hu, isAggB, sizeOf, typeInfo]
theorem owp_loadN {t : Nat} {x : Operand} {ad : Addr} {D : TypeDesc} {cs : List Value} (h : Hd a n L) (hd : o.dst = some d) (hk : (Nat.blt d n && noSel o && okOp L o) = true) (hop : o.op = .load t x) (hx : ev L x = some (.pointer (some ad)))
    (hu : P.underlying t = some D) (hD : isAggB D = true) (hsz : (P.info? t).map (·.size) = some cs.length) (hc : ∀ j u, cs[j]? = some u → W.cell? (ad.add j) = some u) (k : ∀ a', Hd a' n ((d, .agg cs.toArray) :: L) → K a' W) : o.wp P a W K Q :=
  owp_val h hd hk (run_loadN hop hx hu hD hsz hc) k
theorem run_storeL {t : Nat} {x y : Operand} {g i : Nat} {vs cs : List Value} {e : Nat} (hop : o.op = .store t x y) (hx : ev L x = some (.pointer (some ⟨g, i, none⟩))) (hy : ev L y = some v) (hv : v.cells = vs.toArray) (h1 : ∀ u ∈ vs, u.oneCell' = true)
    (hsz : (P.info? t).map (·.size) = some vs.length) (hb : W.heap[g]? = some (.cells cs.toArray e (0, 0))) (hlt : i + vs.length ≤ cs.length) :
    (execOp (evT L) o).run P W = .ok .skip (W.setRow g (cs.take i ++ vs ++ cs.drop (i + vs.length)).toArray) := by
  obtain ⟨i0, hi, hz⟩ := Option.map_eq_some_iff.1 hsz
  have hst := run_storeCells_at (P := P) g i e vs 0 cs.toArray W hb (by simpa using hlt) h1
  simp only [Nat.add_zero] at hst
  have hvl : v.cells.size = vs.length := by rw [hv]; simp
  have hvt : v.cells.toList = vs := by rw [hv]
  unfold execOp
  simp [hop, ev_eval hx, ev_eval hy, Instr.storeAt, Instr.sureAddr, storeVar, sizeOf, typeInfo, hi, hz, hvl, hvt, hst]
/-- A store into a block that is told cell by cell. -/
theorem owp_store {t : Nat} {x y : Operand} {g i : Nat} {vs cs cs' : List Value} {e : Nat} (h : Hd a n L) (hd : o.dst = none) (hk : (noSel o && okOp L o) = true) (hop : o.op = .store t x y)
    (hx : ev L x = some (.pointer (some ⟨g, i, none⟩))) (hy : ev L y = some v) (hv : v.cells = vs.toArray) (h1 : ∀ u ∈ vs, u.oneCell' = true) (hsz : (P.info? t).map (·.size) = some vs.length)
    (hS : St b w0 W R (((g, .cells cs.toArray e (0, 0)) :: m) :: Ms)) (hlt : i + vs.length ≤ cs.length) (hc : cs.take i ++ vs ++ cs.drop (i + vs.length) = cs')
    (k : ∀ a' W', Hd a' n L → St b w0 W' R (((g, .cells cs'.toArray e (0, 0)) :: m) :: Ms) → K a' W') : o.wp P a W K Q := by
  have hb := hS.blk
  refine owp_skip h hd hk (run_storeL hop hx hy hv h1 hsz hb hlt) fun a' h' => k a' _ h' ?_
  subst hc
  refine St.turn (m := m) hS rfl rfl rfl (by simp [World.setRow]) (setRow_heap W g _ _ e (0, 0) hb) fun j _ hj => ?_
  simp only [World.setRow, Array.getElem?_modify]
  rw [if_neg (by omega)]
/-- A cell of a block that is told cell by cell. -/
theorem St.cell {g i : Nat} {cs : List Value} {e : Nat} (hS : St b w0 W R (((g, .cells cs.toArray e (0, 0)) :: m) :: Ms)) (hi : cs[i]? = some v) : W.cell? ⟨g, i, none⟩ = some v := by
  have hb := hS.blk
  simp only [World.cell?, hb, Option.isSome_none, Bool.false_eq_true, if_false]
  simpa using hi
theorem St.cells {g i : Nat} {cs vs : List Value} {e : Nat} (hS : St b w0 W R (((g, .cells cs.toArray e (0, 0)) :: m) :: Ms)) (hi : (cs.drop i).take vs.length = vs) : ∀ j u, vs[j]? = some u → W.cell? ((⟨g, i, none⟩ : Addr).add j) = some u := by
  intro j u hj
  rw [Addr.add_lit]
  refine hS.cell ?_
  obtain ⟨hlt, _⟩ := List.getElem?_eq_some_iff.1 hj
  rw [← hi, List.getElem?_take, if_pos hlt, List.getElem?_drop] at hj
  exact hj
/-! #### new blocks -/
theorem owp_new (f : Nat → Value) (o' : Obj) (h : Hd a n L) (hd : o.dst = some d) (hk : (Nat.blt d n && noSel o && okOp L o) = true) (hrun : (execOp (evT L) o).run P W = .ok (.value (f W.heap.size)) (W.alloc o'))
    (hS : St b w0 W R Ms) (k : ∀ a' W' g, Hd a' n ((d, f g) :: L) → St b w0 W' R ([(g, o')] :: Ms) → K a' W') : o.wp P a W K Q :=
  owp_val h hd hk hrun fun a' h' => k a' _ _ h' (hS.alloc o')
theorem owp_box {T : Nat} {x : Operand} {cs : List Value} (h : Hd a n L) (hd : o.dst = some d) (hk : (Nat.blt d n && noSel o && okOp L o) = true) (hop : o.op = .box T x) (hx : ev L x = some v) (hv : v.cells = cs.toArray)
    (hS : St b w0 W R Ms) (k : ∀ a' W' g, Hd a' n ((d, .pointer (some ⟨g, 0, none⟩)) :: L) → St b w0 W' R ([(g, .cells cs.toArray T (0, 0))] :: Ms) → K a' W') : o.wp P a W K Q := by
  refine owp_new (fun g => .pointer (some ⟨g, 0, none⟩)) (.cells cs.toArray T (0, 0)) h hd hk ?_ hS k
  unfold execOp
  simp only [hop, ev_eval hx, Instr.box, newVar, newRow, hv]
  rfl
/-! #### append -/
theorem exec_append {s x : Operand} {u : Value} {t tx : Nat} (hop : o.op = .call { callee := .builtin .append, args := #[s, x], argTypes := #[t, tx] }) (hs : ev L s = some v) (hx : ev L x = some u) {v' : Value} {W' : World}
    (hr : (Builtin.append_ #[t, tx] o.type #[v, u]).run P W = .ok v' W') : (execOp (evT L) o).run P W = .ok (.value v') W' := by
  unfold execOp
  simp only [hop, resolve, invoke, builtin, Sem.run_bind, Sem.run_pure, Result.andThen_ok, List.map_toArray, List.map_cons, List.map_nil, ev_eval hs, ev_eval hx, hr]
section
variable {α : Type} {dk : Kd α} {E : Nat} {xs ys : List α} {M M2 : Frag}
/-- append of what is read and has nothing behind it. -/
theorem append_src {u : Value} {t tx e ty : Nat} {z : Value} {bytes : Nat} (h : Row dk e b w0 R v xs M) (hS : St b w0 W R (M :: Ms)) (ht : P.underlying t = some (.slice e))
    (hinfo : (P.info? e).map (fun i => (i.zero, i.size, i.bytes)) = some (some z, dk.sz, bytes)) (hz : z.cells.size = dk.sz) (hs0 : 0 < dk.sz) (hb0 : 0 < bytes)
    {cs2 : List Value} (hx : Src P dk.sz tx u ys.length cs2 W) (hr2 : Reps dk b w0 R ys cs2 []) (hl : (xs.length + ys.length) * bytes ≤ 140737488355328) :
    ∃ v' W' M', (Builtin.append_ #[t, tx] ty #[v, u]).run P W = .ok v' W' ∧ Row dk e b w0 R v' (xs ++ ys) M' ∧ St b w0 W' R (M' :: Ms) := by
  obtain ⟨cs, blk, Mi, h1, rfl, h3⟩ := h
  obtain ⟨v', W', blk', hrun, hrow, hSt⟩ := append_core (ty := ty) h1 hS.split ht hinfo hz hs0 hb0 hx hl
  have hrep := h3.append hr2
  rw [List.append_nil] at hrep
  exact ⟨v', W', blk' ++ Mi, hrun, ⟨cs ++ cs2, blk', Mi, by rw [List.length_append]; exact hrow, rfl, hrep⟩, hSt.join⟩
/-- append of a row of one's own, which is used up. -/
theorem append_take {u : Value} {t e ty : Nat} {z : Value} {bytes : Nat} (h : Row dk e b w0 R v xs M) (h2 : Row dk E b w0 R u ys M2) (hS : St b w0 W R (M :: M2 :: Ms)) (ht : P.underlying t = some (.slice e))
    (hinfo : (P.info? e).map (fun i => (i.zero, i.size, i.bytes)) = some (some z, dk.sz, bytes)) (hz : z.cells.size = dk.sz) (hs0 : 0 < dk.sz) (hb0 : 0 < bytes) (hl : (xs.length + ys.length) * bytes ≤ 140737488355328) :
    ∃ v' W' M', (Builtin.append_ #[t, t] ty #[v, u]).run P W = .ok v' W' ∧ Row dk e b w0 R v' (xs ++ ys) M' ∧ St b w0 W' R (M' :: Ms) := by
  obtain ⟨cs, blk, Mi, h1, rfl, h3⟩ := h
  obtain ⟨cs2, blk2, Mi2, g1, rfl, g3⟩ := h2
  have hS1 : St b w0 W R (blk :: Mi :: (blk2 ++ Mi2) :: Ms) := hS.split
  have hS3 : St b w0 W R (blk2 :: Mi2 :: blk :: Mi :: Ms) := by
    refine hS1.perm (List.Perm.append_left R ?_)
    simp only [List.flatten_cons, ← List.append_assoc]
    refine List.Perm.append_right _ ?_
    simp only [List.append_assoc]
    have : (blk ++ (Mi ++ (blk2 ++ Mi2))).Perm ((blk2 ++ Mi2) ++ (blk ++ Mi)) := by
      rw [← List.append_assoc]
      exact List.perm_append_comm
    simpa using this
  have hsrc : Src P dk.sz t u ys.length cs2 W := by
    rcases g1 with ⟨rfl, h0, rfl, rfl⟩ | hg
    · rw [h0]
      exact Src.ofNil W ht 0
    · have g1' : RowC E dk.sz u ys.length cs2 blk2 := .inr hg
      obtain ⟨g, off, cap, pre, post, rfl, _⟩ := hg
      refine Src.ofSlice W ht _ ys.length cap cs2 g1'.len (fun j w hj => ?_) g3.one
      obtain ⟨ad, c, e1, _, hc, _⟩ := g1'.cell hS3 hj
      injection e1 with e1 _ _
      injection e1 with e1
      subst e1
      exact hc
  obtain ⟨v', W', blk', hrun, hrow, hSt⟩ := append_core (ty := ty) h1 hS1 ht hinfo hz hs0 hb0 hsrc hl
  refine ⟨v', W', blk' ++ (Mi ++ Mi2), hrun, ⟨cs ++ cs2, blk', Mi ++ Mi2, by rw [List.length_append]; exact hrow, rfl, h3.append g3⟩, ?_⟩
  have hS4 : St b w0 W' R (blk2 :: (blk' ++ (Mi ++ Mi2)) :: Ms) := by
    refine hSt.perm (List.Perm.append_left R ?_)
    simp only [List.flatten_cons, ← List.append_assoc]
    refine List.Perm.append_right _ ?_
    refine List.Perm.append_right _ ?_
    exact List.perm_append_comm (l₁ := blk' ++ Mi) (l₂ := blk2) |>.trans (by simp)
  exact hS4.drop_
/-- append of a row of one's own that is kept: nothing stands behind its elements. -/
theorem append_keep {u : Value} {t e ty : Nat} {z : Value} {bytes : Nat} (hno : ∀ {R x cs M}, dk.rep b w0 R x cs M → M = []) (h : Row dk e b w0 R v xs M) (h2 : Row dk E b w0 R u ys M2) (hS : St b w0 W R (M :: M2 :: Ms)) (ht : P.underlying t = some (.slice e))
    (hinfo : (P.info? e).map (fun i => (i.zero, i.size, i.bytes)) = some (some z, dk.sz, bytes)) (hz : z.cells.size = dk.sz) (hs0 : 0 < dk.sz) (hb0 : 0 < bytes) (hl : (xs.length + ys.length) * bytes ≤ 140737488355328) :
    ∃ v' W' M', (Builtin.append_ #[t, t] ty #[v, u]).run P W = .ok v' W' ∧ Row dk e b w0 R v' (xs ++ ys) M' ∧ St b w0 W' R (M' :: M2 :: Ms) := by
  obtain ⟨cs2, blk2, Mi2, g1, rfl, g3⟩ := h2
  have hMi : ∀ {ys : List α} {cs : List Value} {M : Frag}, Reps dk b w0 R ys cs M → M = [] := by
    intro ys
    induction ys with
    | nil => intro cs M hr; exact hr.2
    | cons y ys ih =>
      intro cs M hr
      obtain ⟨c1, c2, M1, M2, _, rfl, r1, r2⟩ := hr
      rw [hno r1, ih r2]
      rfl
  obtain rfl := hMi g3
  rw [List.append_nil] at hS ⊢
  have hS3 : St b w0 W R (blk2 :: M :: Ms) := hS.bring 1 rfl rfl
  have hsrc : Src P dk.sz t u ys.length cs2 W := by
    rcases g1 with ⟨rfl, h0, rfl, rfl⟩ | hg
    · rw [h0]
      exact Src.ofNil W ht 0
    · have g1' : RowC E dk.sz u ys.length cs2 blk2 := .inr hg
      obtain ⟨g, off, cap, pre, post, rfl, _⟩ := hg
      refine Src.ofSlice W ht _ ys.length cap cs2 g1'.len (fun j w hj => ?_) g3.one
      obtain ⟨ad, c, e1, _, hc, _⟩ := g1'.cell hS3 hj
      injection e1 with e1 _ _
      injection e1 with e1
      subst e1
      exact hc
  exact append_src h hS ht hinfo hz hs0 hb0 hsrc g3 hl
theorem append_rds {u : Value} {t e ty : Nat} {z : Value} {bytes : Nat} (hf : dk.Flat) (h : Row dk e b w0 R v xs M) (h2 : Rds dk b w0 R u ys) (hS : St b w0 W R (M :: Ms)) (ht : P.underlying t = some (.slice e))
    (hinfo : (P.info? e).map (fun i => (i.zero, i.size, i.bytes)) = some (some z, dk.sz, bytes)) (hz : z.cells.size = dk.sz) (hs0 : 0 < dk.sz) (hb0 : 0 < bytes) (hl : (xs.length + ys.length) * bytes ≤ 140737488355328) :
    ∃ v' W' M', (Builtin.append_ #[t, t] ty #[v, u]).run P W = .ok v' W' ∧ Row dk e b w0 R v' (xs ++ ys) M' ∧ St b w0 W' R (M' :: Ms) := by
  obtain ⟨cs2, _, hsrc, hr, _⟩ := h2.src (fun a u hk => hS.kn hk) ht
  exact append_src h hS ht hinfo hz hs0 hb0 hsrc (hr hf) hl
theorem byteReps (l : List UInt8) : Reps (kInt .u8) b w0 R (ofS l) (byteCells (mkS l)) [] := by
  unfold byteCells ofS mkS
  simp only
  induction l with
  | nil => exact ⟨rfl, rfl⟩
  | cons c l ih => exact ⟨[.int .u8 c.toNat], _, [], [], rfl, rfl, ⟨rfl, rfl⟩, ih⟩
theorem append_str {l : List UInt8} {xs : List Int} {t tx e ty : Nat} (h : Row (kInt .u8) e b w0 R v xs M) (hS : St b w0 W R (M :: Ms)) (ht : P.underlying t = some (.slice e)) (htx : P.underlying tx = some .string)
    (hinfo : (P.info? e).map (fun i => (i.zero, i.size, i.bytes)) = some (some (.int .u8 0), 1, 1)) (hl : xs.length + l.length ≤ 140737488355328) :
    ∃ v' W' M', (Builtin.append_ #[t, tx] ty #[v, .string (mkS l)]).run P W = .ok v' W' ∧ Row (kInt .u8) e b w0 R v' (xs ++ ofS l) M' ∧ St b w0 W' R (M' :: Ms) := by
  have hs := Src.ofString W htx (mkS l)
  have e1 : (ofS l).length = (mkS l).size := by simp [ofS, mkS]; rfl
  exact append_src (ys := ofS l) h hS ht (z := .int .u8 0) (bytes := 1) hinfo rfl (by decide) (by decide) (by rw [e1]; exact hs) (byteReps l) (by rw [e1]; have : (mkS l).size = l.length := rfl; omega)
end
end
end Go.Proofs.Sl
