/- Maps of one's own, their keys flat structures: made, added to (with a key that isn't there), looked up. -/
import Derived.Test.YtikfpmieadfllaaSlU
import Derived.MapKept
set_option linter.unusedVariables false
set_option linter.unusedSimpArgs false
namespace Go.Proofs.Sl
open Go Go.RowKit
def midx {κ ν : Type} [DecidableEq κ] : List (κ × ν) → κ → Option (Nat × ν)
  | [], _ => none
  | p :: m, k => if p.1 = k then some (0, p.2) else (midx m k).map fun q => (q.1 + 1, q.2)
def mget {κ ν : Type} [DecidableEq κ] (m : List (κ × ν)) (k : κ) : Option ν := (midx m k).map (·.2)
section
variable {P : Program} {Q : Exit → Act → World → Prop} {a : Act} {n : Nat} {L : LF} {W : World} {o : Oper} {K : Act → World → Prop} {d : Nat} {v : Value}
  {b : Nat} {w0 : World} {R R' : Frag} {Ms Ms' : List Frag} {M : Frag} {κ ν : Type} [DecidableEq κ]
/-- What is held: block g is a map with these keys and values. -/
def MapF (fk : κ → Value) (fv : ν → Value) (g : Nat) (m : List (κ × ν)) (M : Frag) : Prop := ∃ es c, M = [(g, .map es c)] ∧ es.toList.map (fun e => (e.key, e.val)) = m.map fun p => (fk p.1, fv p.2)
theorem ask_run {kt : TypeId} {fk : κ → Value} {fv : ν → Value} (heq : ∀ (x y : κ) (w : World), (Op.equal kt (fk x) (fk y)).run P w = .ok (decide (x = y)) w) (k : κ) (w : World) : ∀ (m : List (κ × ν)) (es : List MapEntry) (i : Nat), es.map (fun e => (e.key, e.val)) = m.map (fun p => (fk p.1, fv p.2)) →
    (Instr.findAsking kt (fk k) es i).run P w = .ok ((midx m k).map fun q => (i + q.1, fv q.2)) w := by
  intro m
  induction m with
  | nil =>
    intro es i h
    cases es with
    | nil => rfl
    | cons e es => simp at h
  | cons p m ih =>
    intro es i h
    cases es with
    | nil => simp at h
    | cons e es =>
      simp only [List.map_cons, List.cons.injEq, Prod.mk.injEq] at h
      obtain ⟨⟨h1, h2⟩, h3⟩ := h
      simp only [Instr.findAsking, Sem.run_bind, h1, heq, Result.andThen_ok, midx]
      by_cases hk : k = p.1
      · subst hk
        simp [h2]
      · have hk' : ¬ (p.1 = k) := fun q => hk q.symm
        simp only [hk, hk', decide_false, Bool.false_eq_true, if_false]
        rw [ih es (i + 1) h3]
        cases midx m k with
        | none => rfl
        | some q => simp; omega
theorem findKey_run {kt : TypeId} {fs : Array Field} {fk : κ → Value} {fv : ν → Value} (hu : P.underlying kt = some (.struct fs)) (heq : ∀ (x y : κ) (w : World), (Op.equal kt (fk x) (fk y)).run P w = .ok (decide (x = y)) w) (k : κ) (w : World) (m : List (κ × ν)) (es : List MapEntry) (h : es.map (fun e => (e.key, e.val)) = m.map (fun p => (fk p.1, fv p.2))) :
    (Instr.findKey kt (fk k) es).run P w = .ok ((midx m k).map fun q => (q.1, fv q.2)) w := by
  have h0 := ask_run (P := P) heq k w m es 0 h
  simp only [Nat.zero_add] at h0
  cases es with
  | nil =>
    cases m with
    | nil => simp [Instr.findKey, run_underlying hu, Instr.findNow, midx]
    | cons p m => simp at h
  | cons e es => simp [Instr.findKey, run_underlying hu, Instr.findNow, Instr.sameNow, h0]
omit [DecidableEq κ] in
theorem owp_makemap {t : Nat} {fk : κ → Value} {fv : ν → Value} (h : Hd a n L) (hd : o.dst = some d) (hk : (Nat.blt d n && noSel o && okOp L o) = true) (hop : o.op = .makeMap t none) (hS : St b w0 W R Ms)
    (k : ∀ a' W' g M', Hd a' n ((d, .map (some g)) :: L) → MapF fk fv g [] M' → St b w0 W' R (M' :: Ms) → K a' W') : o.wp P a W K Q := by
  have hrun : (execOp (evT L) o).run P W = .ok (.value (.map (some W.heap.size))) (W.alloc (.map #[] 0)) := by
    unfold execOp
    simp only [hop]
    rfl
  exact owp_val h hd hk hrun fun a' h' => k a' _ _ _ h' ⟨_, _, rfl, rfl⟩ (hS.alloc _)
theorem owp_mapput {t kt et : Nat} {x y z : Operand} {fs : Array Field} {fk : κ → Value} {fv : ν → Value} {g : Nat} {m : List (κ × ν)} {kk : κ} {vv : ν} (h : Hd a n L) (hd : o.dst = none) (hk : (noSel o && okOp L o) = true) (hop : o.op = .mapUpdate t x y z)
    (hx : ev L x = some (.map (some g))) (hy : ev L y = some (fk kk)) (hz : ev L z = some (fv vv)) (ht : P.underlying t = some (.map kt et)) (hu : P.underlying kt = some (.struct fs)) (hck : ∀ e w, (Instr.checkKey e 10000 kt (fk kk)).run P w = .ok () w)
    (heq : ∀ (x y : κ) (w : World), (Op.equal kt (fk x) (fk y)).run P w = .ok (decide (x = y)) w) (hno : mget m kk = none) (hm : MapF fk fv g m M) (hS : St b w0 W R (M :: Ms))
    (k : ∀ a' W' M', Hd a' n L → MapF fk fv g (m ++ [(kk, vv)]) M' → St b w0 W' R (M' :: Ms) → K a' W') : o.wp P a W K Q := by
  obtain ⟨es, c, rfl, hes⟩ := hm
  have hb := hS.blk
  have hi : midx m kk = none := by
    unfold mget at hno
    simpa using hno
  have hf := findKey_run (P := P) hu heq kk W m es.toList hes
  rw [hi] at hf
  have hrun : (execOp (evT L) o).run P W = .ok .skip { W with heap := W.heap.setIfInBounds g (.map (es.push { key := fk kk, val := fv vv, born := c }) (c + 1)) } := by
    unfold execOp
    simp only [hop, ev_eval hx, ev_eval hy, ev_eval hz]
    simp [Instr.mapUpdate, run_underlying ht, Go.MapKept.run_getObj_map hb, hck, hf, Go.MapKept.run_setObj_map _ hb]
  have hlt : g < W.heap.size := (Array.getElem?_eq_some_iff.1 hb).1
  refine owp_skip h hd hk hrun fun a' h' => k a' _ [(g, .map (es.push { key := fk kk, val := fv vv, born := c }) (c + 1))] h' ⟨_, _, rfl, by simp [hes]⟩ ?_
  refine St.turn (m := []) hS rfl rfl rfl (by simp) (by simp [hlt]) fun q _ hq => ?_
  simp only [Array.getElem?_setIfInBounds]
  rw [if_neg (by omega)]
theorem run_mapget {t kt et : Nat} {x y : Operand} {fs : Array Field} {fk : κ → Value} {fv : ν → Value} {g : Nat} {m : List (κ × ν)} {kk : κ} {z0 : ν} (hop : o.op = .lookup t x y true)
    (hx : ev L x = some (.map (some g))) (hy : ev L y = some (fk kk)) (ht : P.underlying t = some (.map kt et)) (hu : P.underlying kt = some (.struct fs)) (hck : ∀ e w, (Instr.checkKey e 10000 kt (fk kk)).run P w = .ok () w)
    (heq : ∀ (x y : κ) (w : World), (Op.equal kt (fk x) (fk y)).run P w = .ok (decide (x = y)) w) (hz : ∀ w, (zeroValue et).run P w = .ok (fv z0) w) (hm : MapF fk fv g m M) (hS : St b w0 W R (M :: Ms)) :
    (execOp (evT L) o).run P W = .ok (.value (.tuple #[fv ((mget m kk).getD z0), .bool (mget m kk).isSome])) W := by
  obtain ⟨es, c, rfl, hes⟩ := hm
  have hb := hS.blk
  have hf := findKey_run (P := P) hu heq kk W m es.toList hes
  unfold execOp
  simp only [hop, ev_eval hx, ev_eval hy]
  unfold mget
  cases hi : midx m kk with
  | none =>
    rw [hi] at hf
    simp [Instr.lookup, run_underlying ht, Go.MapKept.run_getObj_map hb, hck, hf, hz]
  | some q =>
    rw [hi] at hf
    simp [Instr.lookup, run_underlying ht, Go.MapKept.run_getObj_map hb, hck, hf]
theorem eq_dec {x y : κ} {r : Bool} {p : Sem Bool} {w : World} (h : p.run P w = .ok r w) (hr : r = decide (x = y)) : p.run P w = .ok (decide (x = y)) w := by rw [← hr]; exact h
end
end Go.Proofs.Sl
