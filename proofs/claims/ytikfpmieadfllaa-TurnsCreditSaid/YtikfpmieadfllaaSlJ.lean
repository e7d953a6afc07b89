/- What comes in, opened: what a row's reading tells of an argument. -/
import Derived.Test.YtikfpmieadfllaaSlI
import Derived.ChangeArms
import Derived.ChangeShapes
import Derived.DataReads
import Derived.SizedLaws
set_option linter.unusedVariables false
set_option linter.unusedSimpArgs false
namespace Go.Proofs.Sl
open Go Go.RowKit
section
variable {H : Type} {enc : TypeId × Value → H} {P : Program} {w : World} {α β : Type}
def Opn (enc : TypeId × Value → H) (P : Program) (w : World) (d : Kd α) (t : TypeId) (ok : α → Prop) : Prop :=
  ∀ spare held fuel cs x, DataW.trod enc P w 0 spare held fuel t cs = some x → (∀ m ∈ x.1.weights P t, m ≤ reachBytes) → ∃ a, d.rd w.heap.size w [] a cs ∧ ok a
def okI (k : IntKind) (x : Int) : Prop := k.min ≤ x ∧ x ≤ k.max
def okS (s : List UInt8) : Prop := s.length ≤ 140737488351232
def okB (b : Bool) : Prop := True
def okL (bytes : Nat) (ok : α → Prop) (xs : List α) : Prop := xs.length * bytes ≤ 140737488351232 ∧ ∀ x ∈ xs, ok x
theorem opn_int {t : TypeId} {k : IntKind} (ht : P.underlying t = some (.int k)) : Opn enc P w (kInt k) t (okI k) := by
  intro spare held fuel cs x h _
  obtain ⟨n, rfl, rfl, hw⟩ := DataW.trod_int ht h
  exact ⟨n, rfl, by simpa [okI, Lit.wf] using hw⟩
theorem opn_bool {t : TypeId} (ht : P.underlying t = some .bool) : Opn enc P w kBool t okB := by
  intro spare held fuel cs x h _
  obtain ⟨n, rfl, rfl⟩ := DataW.trod_bool ht h
  exact ⟨n, rfl, trivial⟩
theorem opn_str {t : TypeId} (ht : P.underlying t = some .string) : Opn enc P w kStr t okS := by
  intro spare held fuel cs x h hw
  obtain ⟨s, rfl, rfl, _⟩ := DataW.trod_string ht h
  refine ⟨s.data.toList, by show [Value.string s] = [Value.string (mkS s.data.toList)]; rw [mkS_of], ?_⟩
  have := hw _ (List.mem_singleton.2 rfl)
  simpa [okS, reachBytes] using this
theorem cell_spot {a : Addr} {v : Value} (h : w.cell? a = some v) : a.spot = none ∧ a.block < w.heap.size := by
  unfold World.cell? at h
  cases hb : w.heap[a.block]? with
  | none => rw [hb] at h; cases h
  | some o =>
    rw [hb] at h
    refine ⟨?_, (Array.getElem?_eq_some_iff.1 hb).1⟩
    cases o with
    | cells c _ _ =>
      simp only at h
      cases hs : a.spot with
      | none => rfl
      | some s => rw [hs] at h; simp at h
    | _ => cases h
theorem weights_all {e : TypeId} {ds : List (DataW H)} {i : Nat} {d : DataW H} (h : ds[i]? = some d) : ∀ m ∈ d.weights P e, m ∈ DataW.weightsAll P e ds := by
  induction ds generalizing i with
  | nil => simp at h
  | cons y ys ih =>
    intro m hm
    simp only [DataW.weightsAll, List.mem_append]
    cases i with
    | zero =>
      simp only [List.getElem?_cons_zero, Option.some.injEq] at h
      subst h
      exact .inl hm
    | succ i => exact .inr (ih (by simpa using h) m hm)
theorem choose_list {p : Nat → α → Prop} : ∀ {n : Nat}, (∀ i, i < n → ∃ a, p i a) → ∃ xs : List α, xs.length = n ∧ ∀ i x, xs[i]? = some x → p i x
  | 0, _ => ⟨[], rfl, by simp⟩
  | n + 1, h => by
    obtain ⟨a, ha⟩ := h 0 (by omega)
    obtain ⟨xs, hl, hx⟩ := choose_list (p := fun i => p (i + 1)) (n := n) fun i hi => h (i + 1) (by omega)
    refine ⟨a :: xs, by simp [hl], fun i x hi => ?_⟩
    cases i with
    | zero =>
      simp only [List.getElem?_cons_zero, Option.some.injEq] at hi
      subst hi
      exact ha
    | succ i => exact hx i x (by simpa using hi)
theorem opn_slice {t e : TypeId} {d : Kd α} {ok : α → Prop} {bytes : Nat} (ht : P.underlying t = some (.slice e)) (hc : P.cellsOf e = d.sz) (hb : P.bytesOf e = bytes) (h0 : 0 < d.sz) (he : Opn enc P w d e ok) : Opn enc P w (kRds d) t (okL bytes ok) := by
  intro spare held fuel cs x h hw
  rcases DataW.trod_slice ht h with ⟨rfl, rfl⟩ | ⟨a, len, cap, elems, rest, n, _, rfl, rfl, hb0, hl, hm, hlen, hel, hsp, hns⟩
  · exact ⟨[], ⟨_, rfl, Rds.nil⟩, by simp [okL], by simp⟩
  · simp only [DataW.weights, ht] at hw
    have hw1 : (elems.length + rest.length) * bytes ≤ 140737488351232 := by
      have := hw _ List.mem_cons_self
      rw [hb] at this
      simpa [reachBytes] using this
    have each : ∀ i, i < len → ∃ q : α, (∃ cs', d.rd w.heap.size w [] q cs' ∧ cs'.length = d.sz ∧ ∀ j u, cs'[j]? = some u → w.cell? ((a.add (i * d.sz)).add j) = some u) ∧ ok q := by
      intro i hi
      have h1 := hel i hi
      have hil : i < elems.length := by omega
      rw [List.getElem?_eq_getElem hil, Option.bind_eq_some_iff] at h1
      obtain ⟨cs', h2, h3⟩ := h1
      obtain ⟨_, q2, q3⟩ := World.cells?_some h2
      obtain ⟨q, r1, r2⟩ := he spare held n cs' _ h3 (fun m hm => hw m (List.mem_cons_of_mem _ (List.mem_append_left _ (weights_all (i := i) (d := elems[i].1) (by simp [List.getElem?_eq_getElem hil]) m hm))))
      rw [hc] at q2 q3
      refine ⟨q, ⟨cs', r1, q2, fun j u hj => ?_⟩, r2⟩
      obtain ⟨hjl, _⟩ := List.getElem?_eq_some_iff.1 hj
      rw [q3 j (by omega), hj]
    obtain ⟨xs, hxl, hxs⟩ := choose_list each
    refine ⟨xs, ⟨_, rfl, some a, cap, by rw [hxl], by omega, hm, fun i x hx => ?_⟩, ?_, fun x hx => ?_⟩
    · obtain ⟨⟨cs', r1, r2, r3⟩, _⟩ := hxs i x hx
      have hlt := (List.getElem?_eq_some_iff.1 hx).1
      obtain ⟨⟨c0, s1, s2, s3⟩, _⟩ := hxs 0 _ (List.getElem?_eq_getElem (show 0 < xs.length by omega))
      have ha : a.spot = none := by
        have := (cell_spot (s3 0 _ (List.getElem?_eq_getElem (show 0 < c0.length by omega)))).1
        rwa [Nat.zero_mul, Addr.add_zero', Addr.add_zero'] at this
      refine ⟨a, cs', rfl, ha, r1, fun j u hj => ?_⟩
      have hcell := r3 j u hj
      rcases a with ⟨g, off, sp⟩
      simp only at ha
      subst ha
      simp only [Addr.add_lit] at hcell ⊢
      rw [Nat.add_assoc] at hcell
      exact ⟨rfl, .inl ⟨(cell_spot hcell).2, hcell⟩⟩
    · rw [hxl]
      refine Nat.le_trans (Nat.mul_le_mul_right _ ?_) hw1
      omega
    · obtain ⟨i, hi⟩ := List.getElem?_of_mem hx
      exact (hxs i x hi).2
def FO (enc : TypeId × Value → H) (P : Program) (w : World) (o : Nat) (fs : List Field) (d : Kd α) (ok : α → Prop) : Prop :=
  ∀ spare held n (cs : List Value) (xs : List (DataW H × List MemPlace)), xs.length = fs.length → (∀ (i : Nat) (f : Field), fs[i]? = some f → DataW.trod enc P w 0 spare held n f.type ((cs.drop f.offset).take (P.cellsOf f.type)) = xs[i]?) →
    (∀ m ∈ DataW.weightsEach P (fs.map (·.type)) (xs.map (·.1)), m ≤ reachBytes) → ∃ a, d.rd w.heap.size w [] a ((cs.drop o).take d.sz) ∧ ok a
theorem fo_one {f : Field} {d : Kd α} {ok : α → Prop} {o : Nat} (ho : f.offset = o) (hc : P.cellsOf f.type = d.sz) (h : Opn enc P w d f.type ok) : FO enc P w o [f] d ok := by
  intro spare held n cs xs hl hx hw
  obtain ⟨x, rfl⟩ : ∃ x, xs = [x] := by
    cases xs with
    | nil => simp at hl
    | cons x xs => cases xs with
      | nil => exact ⟨x, rfl⟩
      | cons _ _ => simp at hl
  have := hx 0 f rfl
  rw [ho, hc] at this
  exact h _ _ _ _ _ this fun m hm => hw m (by simp [DataW.weightsEach, hm])
theorem fo_cons {f : Field} {fs : List Field} {d : Kd α} {e : Kd β} {ok : α → Prop} {ok2 : β → Prop} {o : Nat} (ho : f.offset = o) (hc : P.cellsOf f.type = d.sz) (h : Opn enc P w d f.type ok) (h2 : FO enc P w (o + d.sz) fs e ok2) :
    FO enc P w o (f :: fs) (kPair d e) (fun p => ok p.1 ∧ ok2 p.2) := by
  intro spare held n cs xs hl hx hw
  obtain ⟨x, xs, rfl⟩ : ∃ x xs', xs = x :: xs' := by
    cases xs with
    | nil => simp at hl
    | cons x xs => exact ⟨x, xs, rfl⟩
  have := hx 0 f rfl
  rw [ho, hc] at this
  obtain ⟨a, r1, r2⟩ := h _ _ _ _ _ this fun m hm => hw m (by simp [DataW.weightsEach, hm])
  obtain ⟨b, s1, s2⟩ := h2 spare held n cs xs (by simpa using hl) (fun i g hg => by simpa using hx (i + 1) g (by simpa using hg)) fun m hm => hw m (by simp [DataW.weightsEach, hm])
  refine ⟨(a, b), ⟨_, _, ?_, r1, s1⟩, r2, s2⟩
  show (cs.drop o).take (d.sz + e.sz) = _
  rw [List.take_add, List.drop_drop]
theorem opn_struct {t : TypeId} {fs : Array Field} {d : Kd α} {ok : α → Prop} {f : β → α} (g : α → β) (hg : ∀ a, f (g a) = a) (ht : P.underlying t = some (.struct fs)) (hc : P.cellsOf t = d.sz) (h : FO enc P w 0 fs.toList d ok) :
    Opn enc P w (kIso d f) t (fun x => ok (f x)) := by
  intro spare held fuel cs x hx hw
  obtain ⟨xs, n, _, rfl, hl, hn, hf⟩ := DataW.trod_struct ht hx
  obtain ⟨a, r1, r2⟩ := h spare held n cs xs (by simpa using hn) (fun i f hi => hf i f (by simpa using hi)) (by simpa [DataW.weights, ht] using hw)
  refine ⟨g a, ?_, by show ok (f (g a)); rw [hg]; exact r2⟩
  show d.rd _ _ _ (f (g a)) cs
  rw [hg]
  rw [List.drop_zero, List.take_of_length_le (by omega)] at r1
  exact r1
/-- An argument, opened. -/
theorem Opn.arg {d : Kd α} {t : TypeId} {ok : α → Prop} {spare : Nat → Bool} {held : Bool} {v : Value} {x : DataW H} {ps : List MemPlace} {ts : List TypeId} {ds : List (DataW H)} {j : Nat} (h : Opn enc P w d t ok) (hd : DataW.Trod enc P w 0 spare held t v x ps)
    (hsz : (DataW.weightsEach P ts ds).all (· ≤ reachBytes) = true) (ht : ts[j]? = some t) (hj : ds[j]? = some x) : ∃ a, d.rd w.heap.size w [] a v.cells.toList ∧ ok a := by
  obtain ⟨fuel, hf⟩ := hd
  exact h _ _ _ _ _ hf fun m hm => by simpa using List.all_eq_true.1 hsz m (DataW.weights_mem_each ht hj m hm)
theorem St.init (w : World) : St w.heap.size w w [] [] := ⟨Below.refl _ _, Nat.le_refl _, by simp, by simp, by simp⟩
end
end Go.Proofs.Sl
