/- Results that lie in memory. -/
import Derived.Test.YtikfpmieadfllaaSlI
set_option linter.unusedVariables false
set_option linter.unusedSimpArgs false
namespace Go.Proofs.Sl
open Go Go.RowKit
section
variable {P : Program} {W : World} {L : LF} {v : Value} {b : Nat} {w0 : World} {R : Frag} {Ms : List Frag} {m : Frag}
def ResIs (P : Program) (W : World) (L : LF) : ResultVar → Value → Prop
  | .tmp t, v => evT L (.tmp t) = v
  | .cell a t, v => ∃ ad, evT L (.tmp a) = .pointer (some ad) ∧ (loadVar t ad).run P W = .ok v W
def ResAll (P : Program) (W : World) (L : LF) : List ResultVar → List Value → Prop
  | [], [] => True
  | x :: xs, v :: vs => ResIs P W L x v ∧ ResAll P W L xs vs
  | _, _ => False
def resOne (L : LF) (x : ResultVar) : Sem Value := match x with
  | ResultVar.tmp t => pure (evT L (Operand.tmp t))
  | ResultVar.cell a t => do loadVar t (← asAddr (evT L (Operand.tmp a)))
theorem res_loop : ∀ (xs : List ResultVar) (vs acc : List Value), ResAll P W L xs vs →
    (List.mapM.loop (resOne L) xs acc).run P W = .ok (acc.reverse ++ vs) W
  | [], [], acc, _ => by simp [List.mapM.loop]
  | [], _ :: _, _, h => h.elim
  | _ :: _, [], _, h => h.elim
  | x :: xs, v :: vs, acc, h => by
    obtain ⟨h1, h2⟩ := h
    have ih := res_loop xs vs (v :: acc) h2
    have e : acc.reverse ++ v :: vs = (v :: acc).reverse ++ vs := by simp
    rw [e]
    simp only [List.mapM.loop, Sem.run_bind]
    cases x with
    | tmp t =>
      have h1' : evT L (.tmp t) = v := h1
      simp only [resOne, h1', Sem.run_pure, Result.andThen_ok]
      exact ih
    | cell a t =>
      obtain ⟨ad, ha, hl⟩ := h1
      have hz : (asAddr (evT L (.tmp a))).run P W = .ok ad W := by rw [ha]; rfl
      simp only [resOne, Sem.run_bind, hz, Result.andThen_ok, hl]
      exact ih
theorem res_all {fn : Func} {vs : List Value} (h : ResAll P W L fn.results.toList vs) : (resL fn L).run P W = .ok (if h : vs.toArray.size = 1 then vs.toArray[0] else .tuple vs.toArray) W := by
  unfold resL
  rw [Array.mapM_eq_mapM_toList, List.mapM]
  rw [loop_congr (g := resOne L) fn.results.toList [] fun x _ => by cases x <;> rfl]
  simp only [Sem.run_bind, Sem.run_map, map_eq_pure_bind, Sem.run_pure]
  have := res_loop fn.results.toList vs [] h
  rw [List.reverse_nil, List.nil_append] at this
  rw [this]
  rfl
theorem res_one {fn : Func} {x : ResultVar} (hf : fn.results = #[x]) (h : ResIs P W L x v) : (resL fn L).run P W = .ok v W := by
  have := res_all (fn := fn) (P := P) (W := W) (L := L) (vs := [v]) (by rw [hf]; exact ⟨h, trivial⟩)
  simpa using this
theorem res_many {fn : Func} {xs : List ResultVar} {vs : List Value} (hf : fn.results = xs.toArray) (h : ResAll P W L xs vs) (hl : (vs.length == 1) = false) : (resL fn L).run P W = .ok (.tuple vs.toArray) W := by
  have := res_all (fn := fn) (P := P) (W := W) (L := L) (vs := vs) (by rw [hf]; exact h)
  have hn : ¬ (vs.length = 1) := by simpa using hl
  simpa [hn] using this
theorem loadVar1 {t : Nat} {ad : Addr} {D : TypeDesc} (hu : P.underlying t = some D) (hD : notAgg D = true) (hc : W.cell? ad = some v) : (loadVar t ad).run P W = .ok v W := by
  cases D with
  | struct f => simp [notAgg] at hD
  | array m e => simp [notAgg] at hD
  | _ => simp [loadVar, isAgg, run_underlying hu, hc]
theorem loadVarN {t : Nat} {ad : Addr} {D : TypeDesc} {cs : List Value} (hu : P.underlying t = some D) (hD : isAggB D = true) (hsz : (P.info? t).map (·.size) = some cs.length) (hc : ∀ j u, cs[j]? = some u → W.cell? (ad.add j) = some u) :
    (loadVar t ad).run P W = .ok (.agg cs.toArray) W := by
  obtain ⟨i0, hi, hz⟩ := Option.map_eq_some_iff.1 hsz
  have hl := run_loadCells_list (P := P) W ad cs hc
  cases D <;> simp_all [loadVar, isAgg, run_underlying hu, isAggB, sizeOf, typeInfo]
end
end Go.Proofs.Sl
