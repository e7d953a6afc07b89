/- '==' of structures, field by field. -/
import Derived.Test.YtikfpmieadfllaaSlK
import Derived.Laws.StructEq
import Derived.ChangeKeysEq
set_option linter.unusedVariables false
set_option linter.unusedSimpArgs false
namespace Go.Proofs.Sl
open Go Go.RowKit
section
variable {P : Program} {W : World} {L : LF} {v : Value} {o : Oper} {d : Nat} {xs ys : List Value} {f : Field} {fs : List Field} {a b : Value} {r s : Bool} {t : TypeId}
theorem eqi_int {k : IntKind} {m n : Int} (hu : P.underlying t = some (.int k)) : (Op.equalIn (d + 1) t (.int k m) (.int k n)).run P W = .ok (decide (m = n)) W := by
  simp only [Op.equalIn, Sem.run_bind, run_underlying hu, Result.andThen_ok, if_true, Sem.run_pure]
  congr 1
theorem eqi_bool {m n : Bool} (hu : P.underlying t = some .bool) : (Op.equalIn (d + 1) t (.bool m) (.bool n)).run P W = .ok (decide (m = n)) W := by
  simp only [Op.equalIn, Sem.run_bind, run_underlying hu, Result.andThen_ok, Sem.run_pure]
  cases m <;> cases n <;> rfl
theorem eqi_str {m n : List UInt8} (hu : P.underlying t = some .string) : (Op.equalIn (d + 1) t (.string (mkS m)) (.string (mkS n))).run P W = .ok (decide (m = n)) W := by
  simp only [Op.equalIn, Sem.run_bind, run_underlying hu, Result.andThen_ok, Sem.run_pure]
  congr 1
  rw [beq_toListBytes, mkS_toList, mkS_toList]
  by_cases h : m = n <;> simp [h]
theorem eqf_cons (hn : (f.name == "_") = false) (hp : P.plainKey f.type = true) (ha : xs[f.offset]? = some a) (hb : ys[f.offset]? = some b) (he : (Op.equalIn d f.type a b).run P W = .ok r W) (hr : (Op.eqFields d xs.toArray ys.toArray fs).run P W = .ok s W) :
    (Op.eqFields d xs.toArray ys.toArray (f :: fs)).run P W = .ok (r && s) W := by
  have hn' : f.name ≠ "_" := by simpa using hn
  have h1 : (part f.type xs.toArray f.offset).run P W = .ok a W := run_part_plain W hp (by simpa using ha)
  have h2 : (part f.type ys.toArray f.offset).run P W = .ok b W := run_part_plain W hp (by simpa using hb)
  rw [Op.eqFields]
  simp only [if_pos hn', Sem.run_bind, h1, h2, he, Result.andThen_ok]
  cases r
  · simp
  · simpa using hr
theorem eqf_last (hn : (f.name == "_") = false) (hp : P.plainKey f.type = true) (ha : xs[f.offset]? = some a) (hb : ys[f.offset]? = some b) (he : (Op.equalIn d f.type a b).run P W = .ok r W) :
    (Op.eqFields d xs.toArray ys.toArray [f]).run P W = .ok r W := by
  have := eqf_cons (s := true) hn hp ha hb he (by rw [Op.eqFields]; rfl)
  rwa [Bool.and_true] at this
theorem eqs_of {fa : Array Field} (hu : P.underlying t = some (.struct fa)) (hp : P.stoodInHeld t = false) (h : (Op.eqFields d xs.toArray ys.toArray fa.toList).run P W = .ok r W) : (Op.equalIn (d + 1) t (.agg xs.toArray) (.agg ys.toArray)).run P W = .ok r W := by
  have hf : P.fieldsOf t = fa := by simp [Program.fieldsOf, hu]
  rw [run_equalIn_struct (P := P) W d t xs.toArray ys.toArray (by rw [hf]; exact hu) hp, hf]
  exact h
theorem run_steq {t' : Nat} {x y : Operand} (hop : o.op = .binOp .eql t x y t') (hx : ev L x = some (.agg xs.toArray)) (hy : ev L y = some (.agg ys.toArray)) (hg : P.eqGuardType P.depth t = false) (h : (Op.equalIn 10000 t (.agg xs.toArray) (.agg ys.toArray)).run P W = .ok r W) :
    (execOp (evT L) o).run P W = .ok (.value (.bool r)) W := by
  unfold execOp
  simp only [hop, ev_eval hx, ev_eval hy, Sem.run_bind, run_eqGuard_agg W .eql t x y _ _ hg, Result.andThen_ok]
  have : (binOp .eql t (.agg xs.toArray) (.agg ys.toArray)).run P W = .ok (.bool r) W := by rw [run_eql_struct, h]; rfl
  simp only [this]
  rfl
theorem run_stne {t' : Nat} {x y : Operand} (hop : o.op = .binOp .neq t x y t') (hx : ev L x = some (.agg xs.toArray)) (hy : ev L y = some (.agg ys.toArray)) (hg : P.eqGuardType P.depth t = false) (h : (Op.equalIn 10000 t (.agg xs.toArray) (.agg ys.toArray)).run P W = .ok r W) :
    (execOp (evT L) o).run P W = .ok (.value (.bool (!r))) W := by
  unfold execOp
  simp only [hop, ev_eval hx, ev_eval hy, Sem.run_bind, run_eqGuard_agg W .neq t x y _ _ hg, Result.andThen_ok]
  have : (binOp .neq t (.agg xs.toArray) (.agg ys.toArray)).run P W = .ok (.bool (!r)) W := by
    simp only [binOp, Op.equal, Op.maxDepth, Sem.run_bind, h, Result.andThen_ok]
    rfl
  simp only [this]
  rfl
theorem wp_meet {Q : Exit → Act → World → Prop} {a : Act} {w : World} {x y : Code} (I : Act → World → Prop) (h : x.wp P (Exit.then I Q) a w) (h2 : ∀ a w, I a w → y.wp P Q a w) : x.wp P (Exit.then (y.wp P Q) Q) a w := by
  refine wp_mono h fun e a w hq => ?_
  cases e with
  | normal => exact h2 a w hq
  | _ => exact hq
end
end Go.Proofs.Sl
