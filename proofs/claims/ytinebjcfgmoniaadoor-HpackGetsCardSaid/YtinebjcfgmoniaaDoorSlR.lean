/- What the listed variables hold: their cells, off the datum that is told. -/
import Derived.Test.YtinebjcfgmoniaaDoorSlQ
import Derived.Test.YtinebjcfgmoniaaDoorSlJ
import Derived.OpenShut
import Derived.FnData
import Derived.MakeChecks
set_option linter.unusedVariables false
set_option linter.unusedSimpArgs false
namespace Go.Proofs.Sl
open Go Go.RowKit
section
variable {H : Type} {enc : TypeId × Value → H} {P : Program} {w : World} {α β : Type}
abbrev Dec (H : Type) := DataW H → Option (List Value)
def Inv (enc : TypeId × Value → H) (P : Program) (w : World) (t : TypeId) (dec : Dec H) : Prop :=
  ∀ spare held fuel cs x, DataW.trod enc P w 0 spare held fuel t cs = some x → dec x.1 = some cs
def decS : Dec H
  | .lit (.string b) => some [.string (mkS b)]
  | _ => none
def decB : Dec H
  | .lit (.bool b) => some [.bool b]
  | _ => none
def decI : Dec H
  | .lit (.int k n) => some [.int k n]
  | _ => none
def decF : List (Dec H) → List (DataW H) → Option (List Value)
  | [], [] => some []
  | d :: ds, x :: xs => match d x, decF ds xs with
    | some a, some b => some (a ++ b)
    | _, _ => none
  | _, _ => none
def decSt (ds : List (Dec H)) : Dec H
  | .agg xs => decF ds xs
  | _ => none
def decL (d : Dec H) : List (DataW H) → Option (List Value)
  | [] => some []
  | x :: xs => match d x, decL d xs with
    | some a, some b => some (a ++ b)
    | _, _ => none
def decA (d : Dec H) : Dec H
  | .agg xs => decL d xs
  | _ => none
theorem inv_str {t : TypeId} (ht : P.underlying t = some .string) : Inv enc P w t decS := by
  intro spare held fuel cs x h
  obtain ⟨s, rfl, rfl, _⟩ := DataW.trod_string ht h
  simp only [decS, mkS_of]
theorem inv_bool {t : TypeId} (ht : P.underlying t = some .bool) : Inv enc P w t decB := by
  intro spare held fuel cs x h
  obtain ⟨s, rfl, rfl⟩ := DataW.trod_bool ht h
  rfl
theorem inv_int {t : TypeId} {k : IntKind} (ht : P.underlying t = some (.int k)) : Inv enc P w t decI := by
  intro spare held fuel cs x h
  obtain ⟨s, rfl, rfl, _⟩ := DataW.trod_int ht h
  rfl
def FI (enc : TypeId × Value → H) (P : Program) (w : World) (o : Nat) (fs : List Field) (ds : List (Dec H)) (sz : Nat) : Prop :=
  ∀ spare held n (cs : List Value) (xs : List (DataW H × List MemPlace)), xs.length = fs.length → (∀ (i : Nat) (f : Field), fs[i]? = some f → DataW.trod enc P w 0 spare held n f.type ((cs.drop f.offset).take (P.cellsOf f.type)) = xs[i]?) →
    decF ds (xs.map (·.1)) = some ((cs.drop o).take sz)
theorem fi_nil {o : Nat} : FI enc P w o [] [] 0 := by
  intro spare held n cs xs hl hx
  cases xs with
  | nil => simp [decF]
  | cons x xs => simp at hl
theorem fi_cons {f : Field} {fs : List Field} {d : Dec H} {ds : List (Dec H)} {o c sz : Nat} (ho : f.offset = o) (hc : P.cellsOf f.type = c) (h : Inv enc P w f.type d) (h2 : FI enc P w (o + c) fs ds sz) :
    FI enc P w o (f :: fs) (d :: ds) (c + sz) := by
  intro spare held n cs xs hl hx
  obtain ⟨x, xs, rfl⟩ : ∃ x xs', xs = x :: xs' := by
    cases xs with
    | nil => simp at hl
    | cons x xs => exact ⟨x, xs, rfl⟩
  have := hx 0 f rfl
  rw [ho, hc] at this
  have r1 := h _ _ _ _ _ this
  have s1 := h2 spare held n cs xs (by simpa using hl) (fun i g hg => by simpa using hx (i + 1) g (by simpa using hg))
  simp only [List.map_cons, decF, r1, s1]
  rw [List.take_add, List.drop_drop]
theorem inv_struct {t : TypeId} {fs : Array Field} {ds : List (Dec H)} {sz : Nat} (ht : P.underlying t = some (.struct fs)) (hc : P.cellsOf t = sz) (h : FI enc P w 0 fs.toList ds sz) : Inv enc P w t (decSt ds) := by
  intro spare held fuel cs x hx
  obtain ⟨xs, n, _, rfl, hl, hn, hf⟩ := DataW.trod_struct ht hx
  have := h spare held n cs xs (by simpa using hn) (fun i f hi => hf i f (by simpa using hi))
  rw [List.drop_zero, List.take_of_length_le (by omega)] at this
  exact this
theorem inv_elems {d : Dec H} {c : Nat} : ∀ (xs : List (DataW H × List MemPlace)) (cs : List Value), cs.length = xs.length * c → (∀ (i : Nat) x, xs[i]? = some x → d x.1 = some ((cs.drop (i * c)).take c)) → decL d (xs.map (·.1)) = some cs
  | [], cs, hl, h => by
    have : cs = [] := List.eq_nil_of_length_eq_zero (by simpa using hl)
    subst this
    rfl
  | x :: xs, cs, hl, h => by
    rw [List.length_cons, Nat.add_mul, Nat.one_mul] at hl
    have h0 := h 0 x rfl
    have ih := inv_elems (d := d) (c := c) xs (cs.drop c) (by rw [List.length_drop]; omega) fun i y hy => by
      have := h (i + 1) y (by simpa using hy)
      rw [List.drop_drop, Nat.add_comm c]
      rw [Nat.add_mul, Nat.one_mul] at this
      exact this
    rw [Nat.zero_mul, List.drop_zero] at h0
    simp only [List.map_cons, decL, h0, ih, List.take_append_drop]
theorem inv_array {t e : TypeId} {N c : Nat} {d : Dec H} (ht : P.underlying t = some (.array N e)) (hc : P.cellsOf e = c) (hct : P.cellsOf t = N * c) (he : Inv enc P w e d) : Inv enc P w t (decA d) := by
  intro spare held fuel cs x hx
  obtain ⟨xs, m, _, rfl, hl, hn, hf⟩ := DataW.trod_array ht hx
  refine inv_elems xs cs (by rw [hl, hct, hn]) fun i x hi => ?_
  have hlt : i < N := by
    obtain ⟨q, _⟩ := List.getElem?_eq_some_iff.1 hi
    omega
  have := hf i hlt
  rw [hi, hc] at this
  exact he _ _ _ _ _ this
/-- A listed array: its elements may be read. -/
theorem Rds.listed {dk : Kd α} {f : α → List Value} {nm : String} {g g' : Nat} {t t' : TypeId} {N fuel : Nat} {held : Bool} {spare : Nat → Bool} {G : List α} {cs : Array Value} {dat : DataW H} {ps : List MemPlace} {dec : Dec H} (hg' : P.globalNamed nm = some g') (ht' : (P.globals[g']?).map (·.type) = some t')
    (hv : w.var? P nm = some cs) (hd : DataW.trod enc P w 0 spare held fuel t' cs.toList = some (dat, ps)) (hg : P.globalNamed nm = some g) (ht : (P.globals[g]?).map (·.type) = some t) (hi : Inv enc P w t dec) (hG : G.length = N) (hdec : dec dat = some (G.flatMap f))
    (h0 : 0 < dk.sz) (hf : ∀ x, dk.rd w.heap.size w [] x (f x)) (hl : ∀ x, (f x).length = dk.sz) (hN : 0 < N) (hm : N ≤ maxLen) : Rds dk w.heap.size w [] (.slice (some ⟨g, 0, none⟩) N N) G := by
  obtain rfl := Option.some.inj (hg.symm.trans hg')
  obtain rfl := Option.some.inj (ht.symm.trans ht')
  have hcs : cs.toList = G.flatMap f := Option.some.inj ((hi _ _ _ _ _ hd).symm.trans hdec)
  have hc : ∀ j, w.cell? ⟨g, j, none⟩ = cs[j]? := fun j => World.var?_cell hg hv j
  refine Rds.glob h0 hf hl hG hm hcs (fun j u hj => ?_) ?_
  · rw [hc]
    simpa using hj
  · have hlen : 0 < cs.size := by
      rw [← Array.length_toList, hcs, flat_len hl, hG]
      exact Nat.mul_pos hN h0
    have := hc 0
    rw [Array.getElem?_eq_getElem hlen] at this
    exact (cell_spot this).2
end
end Go.Proofs.Sl
