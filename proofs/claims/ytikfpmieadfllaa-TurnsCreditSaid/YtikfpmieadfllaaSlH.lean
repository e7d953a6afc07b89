/- Words that the printer uses. -/
import Derived.Test.YtikfpmieadfllaaSlG
set_option linter.unusedVariables false
set_option linter.unusedSimpArgs false
namespace Go.Proofs.Sl
open Go Go.RowKit
def mnI (x y : Int) : Int := if y < x then y else x
def mxI (x y : Int) : Int := if y > x then y else x
def bAnd (k : IntKind) (x y : Int) : Int := k.wrap ((BitVec.ofInt k.bits x &&& BitVec.ofInt k.bits y).toNat : Int)
def bOr (k : IntKind) (x y : Int) : Int := k.wrap ((BitVec.ofInt k.bits x ||| BitVec.ofInt k.bits y).toNat : Int)
def bXor (k : IntKind) (x y : Int) : Int := k.wrap ((BitVec.ofInt k.bits x ^^^ BitVec.ofInt k.bits y).toNat : Int)
def bAndNot (k : IntKind) (x y : Int) : Int := k.wrap ((BitVec.ofInt k.bits x &&& ~~~ BitVec.ofInt k.bits y).toNat : Int)
def shlI (k : IntKind) (x y : Int) : Int := k.wrap (x * 2 ^ (min y.toNat k.bits))
def shrI (k : IntKind) (x y : Int) : Int := x.fdiv (2 ^ (min y.toNat k.bits))
def gt {α : Type} (z : α) (xs : List α) (i : Int) : α := xs.getD i.toNat z
theorem gt_get {α : Type} {z : α} {xs : List α} {i : Int} (h0 : 0 ≤ i) (h1 : i < (xs.length : Int)) : xs[i.toNat]? = some (gt z xs i) := by
  have h : i.toNat < xs.length := by omega
  simp [gt, List.getD_eq_getElem?_getD, List.getElem?_eq_getElem h]
def lt1 {α β : Type} (x : α) (f : α → Option β) : Option β := f x
def bnd1 {α γ : Type} (x : Option α) (f : α → Option γ) : Option γ := match x with | some a => f a | none => none
def bnd2 {α β γ : Type} (x : Option (α × β)) (f : α → β → Option γ) : Option γ := match x with | some (a, b) => f a b | none => none
def bnd3 {α β γ δ : Type} (x : Option (α × β × γ)) (f : α → β → γ → Option δ) : Option δ := match x with | some (a, b, c) => f a b c | none => none
def bnd4 {α β γ δ ε : Type} (x : Option (α × β × γ × δ)) (f : α → β → γ → δ → Option ε) : Option ε := match x with | some (a, b, c, d) => f a b c d | none => none
def bnd5 {α β γ δ ε ζ : Type} (x : Option (α × β × γ × δ × ε)) (f : α → β → γ → δ → ε → Option ζ) : Option ζ := match x with | some (a, b, c, d, e) => f a b c d e | none => none
theorem lete {α β : Type} {x : α} {f : α → Option β} {r : β} (H : lt1 x f = some r) : ∃ y, y = x ∧ f y = some r := ⟨x, rfl, H⟩
theorem bind1 {α γ : Type} {x : Option α} {f : α → Option γ} {r : γ} (H : bnd1 x f = some r) : ∃ a, x = some a ∧ f a = some r := by
  cases x with
  | none => cases H
  | some a => exact ⟨a, rfl, H⟩
theorem bind2 {α β γ : Type} {x : Option (α × β)} {f : α → β → Option γ} {r : γ} (H : bnd2 x f = some r) : ∃ a b, x = some (a, b) ∧ f a b = some r := by
  cases x with
  | none => cases H
  | some p => obtain ⟨a, b⟩ := p; exact ⟨a, b, rfl, H⟩
theorem bind3 {α β γ δ : Type} {x : Option (α × β × γ)} {f : α → β → γ → Option δ} {r : δ} (H : bnd3 x f = some r) : ∃ a b c, x = some (a, b, c) ∧ f a b c = some r := by
  cases x with
  | none => cases H
  | some p => obtain ⟨a, b, c⟩ := p; exact ⟨a, b, c, rfl, H⟩
theorem bind4 {α β γ δ ε : Type} {x : Option (α × β × γ × δ)} {f : α → β → γ → δ → Option ε} {r : ε} (H : bnd4 x f = some r) : ∃ a b c d, x = some (a, b, c, d) ∧ f a b c d = some r := by
  cases x with
  | none => cases H
  | some p => obtain ⟨a, b, c, d⟩ := p; exact ⟨a, b, c, d, rfl, H⟩
theorem bind5 {α β γ δ ε ζ : Type} {x : Option (α × β × γ × δ × ε)} {f : α → β → γ → δ → ε → Option ζ} {r : ζ} (H : bnd5 x f = some r) : ∃ a b c d e, x = some (a, b, c, d, e) ∧ f a b c d e = some r := by
  cases x with
  | none => cases H
  | some p => obtain ⟨a, b, c, d, e⟩ := p; exact ⟨a, b, c, d, e, rfl, H⟩
theorem ret2 {α β : Type} {a a' : α} {b b' : β} (H : some (a, b) = some (a', b')) : a = a' ∧ b = b' := by cases H; exact ⟨rfl, rfl⟩
theorem ret3 {α β γ : Type} {a a' : α} {b b' : β} {c c' : γ} (H : some (a, b, c) = some (a', b', c')) : a = a' ∧ b = b' ∧ c = c' := by cases H; exact ⟨rfl, rfl, rfl⟩
theorem ret4 {α β γ δ : Type} {a a' : α} {b b' : β} {c c' : γ} {d d' : δ} (H : some (a, b, c, d) = some (a', b', c', d')) : a = a' ∧ b = b' ∧ c = c' ∧ d = d' := by cases H; exact ⟨rfl, rfl, rfl, rfl⟩
theorem ret5 {α β γ δ ε : Type} {a a' : α} {b b' : β} {c c' : γ} {d d' : δ} {e e' : ε} (H : some (a, b, c, d, e) = some (a', b', c', d', e')) : a = a' ∧ b = b' ∧ c = c' ∧ d = d' ∧ e = e' := by cases H; exact ⟨rfl, rfl, rfl, rfl, rfl⟩
theorem wp_join {P : Program} {Q : Exit → Act → World → Prop} {a : Act} {w : World} {x y : Code} (I : Act → World → Prop) (h : x.wp P (Exit.then I Q) a w) (h2 : ∀ a w, I a w → y.wp P Q a w) : (Code.seq x y).wp P Q a w := by
  refine wp_seq (wp_mono h fun e a w hq => ?_)
  cases e with
  | normal => exact h2 a w hq
  | _ => exact hq
theorem then_ret {K : Act → World → Prop} {Q : Exit → Act → World → Prop} {a : Act} {w : World} (h : Q .ret a w) : Exit.then K Q .ret a w := h
theorem inBlock_ret {id : Nat} {Q : Exit → Act → World → Prop} {a : Act} {w : World} (h : Q .ret a w) : Exit.inBlock id Q .ret a w := h
theorem then_go {K : Act → World → Prop} {Q : Exit → Act → World → Prop} {a : Act} {w : World} (h : K a w) : Exit.then K Q .normal a w := h
theorem inBlock_go {id : Nat} {Q : Exit → Act → World → Prop} {a : Act} {w : World} (h : Q .normal a w) : Exit.inBlock id Q .normal a w := h
section
variable {P : Program} {Q : Exit → Act → World → Prop} {a : Act} {n : Nat} {L : LF} {W : World} {o : Oper} {K : Act → World → Prop} {d : Nat} {v : Value}
  {b : Nat} {w0 : World} {R R' : Frag} {Ms Ms' : List Frag} {m : Frag} {α : Type} {dk : Kd α} {E : Nat} {xs ys : List α} {M M2 : Frag}
theorem St.assoc (h : St b w0 W R Ms) (e : Ms.flatten = Ms'.flatten) : St b w0 W R Ms' := h.perm (by rw [e])
theorem Rds.nil : Rds dk b w0 R (.slice none 0 0) [] := ⟨none, 0, rfl, Nat.le_refl _, by simp [maxLen], fun i x h => by simp at h⟩
theorem Rds.nil_of {n c : Nat} (h : Rds dk b w0 R (.slice none n c) xs) : xs = [] := by
  obtain ⟨A', c', e, _, _, h3⟩ := h
  injection e with e1 e2 e3
  subst e1
  cases xs with
  | nil => rfl
  | cons x xs =>
    obtain ⟨ad, _, ha, _⟩ := h3 0 x rfl
    cases ha
theorem Rds.as_ {v' : Value} (h : Rds dk b w0 R v xs) (e : v = v') (e2 : xs = ys) : Rds dk b w0 R v' ys := by subst e; subst e2; exact h
theorem Row.as_ {v' : Value} (h : Row dk E b w0 R v xs M) (e : v = v') (e2 : xs = ys) : Row dk E b w0 R v' ys M := by subst e; subst e2; exact h
theorem Rds.form (h : Rds dk b w0 R v xs) : ∃ A c, v = .slice A xs.length c := by
  obtain ⟨A, c, h, _⟩ := h
  exact ⟨A, c, h⟩
theorem Row.form (h : Row dk E b w0 R v xs M) : ∃ A c, v = .slice A xs.length c := by
  obtain ⟨A, c, h, _⟩ := h.slice
  exact ⟨A, c, h⟩
theorem Rds.cap {A : Option Addr} {n c : Nat} (h : Rds dk b w0 R (.slice A n c) xs) : n = xs.length ∧ n ≤ c := by
  obtain ⟨A', c', e, h1, _⟩ := h
  injection e with e1 e2 e3
  exact ⟨e2, by omega⟩
theorem cell0 {ad : Addr} {u : Value} (h : ∀ j w, ([u] : List Value)[j]? = some w → W.cell? (ad.add j) = some w) : W.cell? ad = some u := by
  have := h 0 u rfl
  rwa [Addr.add_zero'] at this
theorem Rds.elemAny {A : Option Addr} {len c : Nat} (hr : Rds dk b w0 R (.slice A len c) xs) {i : Int} {x : α} (h0 : 0 ≤ i) (hx : xs[i.toNat]? = some x) :
    ∃ ad cs, A = some ad ∧ dk.rd b w0 R x cs ∧ ∀ W : World, (∀ a u, Kn b w0 R a u → W.cell? a = some u) → ∀ j u, cs[j]? = some u → W.cell? ((ad.add (i.toNat * dk.sz)).add j) = some u := by
  obtain ⟨A', c', e, g1, g2, g3⟩ := id hr
  injection e with e1 e2 e3
  subst e1
  obtain ⟨ad, cs, rfl, hs, hrd, hk⟩ := g3 i.toNat x hx
  refine ⟨ad, cs, rfl, hrd, fun W hkn j u hj => ?_⟩
  have := hkn _ u (hk j u hj)
  rcases ad with ⟨g, off, sp⟩
  simp only at hs
  subst hs
  simp only [Addr.add_lit] at this ⊢
  rw [Nat.add_assoc]
  exact this
theorem run_idx {t e : Nat} {x y : Operand} {ad : Addr} {len cap : Nat} {k : IntKind} {i : Int} {sz : Nat} (hop : o.op = .indexAddr t x y) (hx : ev L x = some (.slice (some ad) len cap))
    (hy : ev L y = some (.int k i)) (ht : P.underlying t = some (.slice e)) (hsz : (P.info? e).map (·.size) = some sz) (h0 : 0 ≤ i) (h1 : i < len) : (execOp (evT L) o).run P W = .ok (.value (.pointer (some (ad.add (i.toNat * sz))))) W := by
  obtain ⟨i0, hi0, rfl⟩ := Option.map_eq_some_iff.1 hsz
  have hE : P.elem t = e := by simp [Program.elem, ht]
  unfold execOp
  simp only [hop, ev_eval hx, ev_eval hy, Sem.run_bind, run_indexAt_slice W t ad len cap k i (by rw [hE]; exact ht)]
  rw [if_pos ⟨h0, h1⟩, hE]
  simp [sizeOf, typeInfo, hi0]
theorem run_concat {t t' : Nat} {x y : Operand} {l l' : List UInt8} (hop : o.op = .binOp .add t x y t') (hx : ev L x = some (.string (mkS l))) (hy : ev L y = some (.string (mkS l')))
    (hl : l.length + l'.length ≤ 9223372036854775807) : (execOp (evT L) o).run P W = .ok (.value (.string (mkS (l ++ l')))) W := by
  refine run_binstr hop hx hy ?_ ⟨by decide, by decide⟩
  have : ¬ (((mkS l).size + (mkS l').size : Nat) : Int) > IntKind.i64.max := by
    rw [mkS_size, mkS_size, show IntKind.i64.max = 9223372036854775807 from rfl]
    omega
  simp only [Op.stringOp]
  rw [if_neg this, mkS_append]
  rfl
theorem run_strcut' {t : Nat} {x : Operand} {lo hi : Option Operand} {s s' : List UInt8} {l h : Int} (hop : o.op = .slice t x lo hi none) (hx : ev L x = some (.string (mkS s))) (ht : P.underlying t = some .string)
    (hlo : loOf L lo l) (hhi : hiOf L s.length hi h) (h0 : 0 ≤ l) (h1 : l ≤ h) (h2 : h ≤ s.length) (he : (s.take h.toNat).drop l.toNat = s') : (execOp (evT L) o).run P W = .ok (.value (.string (mkS s'))) W := he ▸ run_strcut hop hx ht hlo hhi h0 h1 h2
theorem run_shl {t t' : Nat} {x y : Operand} {k k' : IntKind} {p q : Int} (hop : o.op = .binOp .shl t x y t') (hx : ev L x = some (.int k p)) (hy : ev L y = some (.int k' q)) (h0 : 0 ≤ q) : (execOp (evT L) o).run P W = .ok (.value (.int k (shlI k p q))) W := by
  unfold execOp
  have hb : binOp .shl t (.int k p) (.int k' q) = pure (.int k (shlI k p q)) := by
    show Op.shift .shl k p k' q = _
    unfold Op.shift
    rw [if_neg (by omega)]
    rfl
  simp only [hop, ev_eval hx, ev_eval hy, Sem.run_bind, hb]
  rfl
theorem run_shr {t t' : Nat} {x y : Operand} {k k' : IntKind} {p q : Int} (hop : o.op = .binOp .shr t x y t') (hx : ev L x = some (.int k p)) (hy : ev L y = some (.int k' q)) (h0 : 0 ≤ q) : (execOp (evT L) o).run P W = .ok (.value (.int k (shrI k p q))) W := by
  unfold execOp
  have hb : binOp .shr t (.int k p) (.int k' q) = pure (.int k (shrI k p q)) := by
    show Op.shift .shr k p k' q = _
    unfold Op.shift
    rw [if_neg (by omega)]
    rfl
  simp only [hop, ev_eval hx, ev_eval hy, Sem.run_bind, hb]
  rfl
theorem run_quo {t t' : Nat} {x y : Operand} {k : IntKind} {p q : Int} (hop : o.op = .binOp .quo t x y t') (hx : ev L x = some (.int k p)) (hy : ev L y = some (.int k q)) (h0 : ¬ (q = 0)) : (execOp (evT L) o).run P W = .ok (.value (.int k (k.wrap (Int.tdiv p q)))) W := by
  unfold execOp
  have hb : binOp .quo t (.int k p) (.int k q) = pure (.int k (k.wrap (Int.tdiv p q))) := by
    simp only [binOp, ne_eq, not_true_eq_false, if_false]
    show Op.intDiv .quo k p q = _
    unfold Op.intDiv
    rw [if_neg h0]
  simp only [hop, ev_eval hx, ev_eval hy, Sem.run_bind, hb]
  rfl
theorem run_rem {t t' : Nat} {x y : Operand} {k : IntKind} {p q : Int} (hop : o.op = .binOp .rem t x y t') (hx : ev L x = some (.int k p)) (hy : ev L y = some (.int k q)) (h0 : ¬ (q = 0)) : (execOp (evT L) o).run P W = .ok (.value (.int k (Int.tmod p q))) W := by
  unfold execOp
  have hb : binOp .rem t (.int k p) (.int k q) = pure (.int k (Int.tmod p q)) := by
    simp only [binOp, ne_eq, not_true_eq_false, if_false]
    show Op.intDiv .rem k p q = _
    unfold Op.intDiv
    rw [if_neg h0]
  simp only [hop, ev_eval hx, ev_eval hy, Sem.run_bind, hb]
  rfl
theorem owp_clear1 {x : Operand} {t e ty : Nat} {z : Value} {z0 : α} (h : Hd a n L) (hd : o.dst = none) (hk : (noSel o && okOp L o) = true) (hop : o.op = .call { callee := .builtin .clear, args := #[x], argTypes := #[t] }) (hx : ev L x = some v)
    (hr : Row dk E b w0 R v xs M) (hS : St b w0 W R (M :: Ms)) (ht : P.underlying t = some (.slice e)) (hinfo : (P.info? e).map (fun i => (i.zero, i.size)) = some (some z, 1)) (hz0 : ∀ b w0 R, dk.rep b w0 R z0 [z] []) (hsz : dk.sz = 1) (hzc : z.cells = #[z])
    (k : ∀ a' W' M', Hd a' n L → Row dk E b w0 R v (List.replicate xs.length z0) M' → St b w0 W' R (M' :: Ms) → K a' W') : o.wp P a W K Q := by
  obtain ⟨cs, blk, Mi, h1, rfl, h3⟩ := hr
  have hone : ∀ u ∈ z.cells.toList, u.oneCell' = true := by
    rw [hzc]
    exact fun u hu => dk.rep_one (hz0 b w0 R) u (by simpa using hu)
  rw [hsz] at h1
  obtain ⟨W', blk', hrun, g1, g2⟩ := h1.fill (ty := o.type) hS.split ht hinfo (by rw [hzc]; rfl) hone
  have hrun2 : (execOp (evT L) o).run P W = .ok (.value (.tuple #[])) W' := by
    unfold execOp
    simp only [hop, resolve, invoke, builtin, Sem.run_bind, Sem.run_pure, Result.andThen_ok, List.map_toArray, List.map_cons, List.map_nil, ev_eval hx, hrun]
  refine owp_val0 h hd hk hrun2 fun a' h' => k a' W' blk' h' ?_ ?_
  · have hz : (Builtin.zeroCells z.cells xs.length).toList = List.replicate xs.length z := by
      rw [hzc]
      simp [Builtin.zeroCells]
      apply List.ext_getElem
      · simp
      · intro i h1 h2
        simp [Nat.mod_one]
    rw [hz] at g1
    refine ⟨List.replicate xs.length z, blk', [], by rw [hsz]; simpa using g1, by simp, ?_⟩
    generalize xs.length = q
    induction q with
    | zero => exact ⟨rfl, rfl⟩
    | succ q ih => exact ⟨[z], List.replicate q z, [], [], by simp [List.replicate_succ], rfl, hz0 b w0 R, ih⟩
  · have : St b w0 W' R (Mi :: blk' :: Ms) := g2.bring 1 rfl rfl
    exact this.drop_
/-! #### what doesn't hang on the pool -/
def Kd.Ind (d : Kd α) : Prop := ∀ {b w0 R R' x cs M}, d.rep b w0 R x cs M → d.rep b w0 R' x cs M
theorem kInt_ind (k : IntKind) : (kInt k).Ind := fun h => h
theorem kBool_ind : kBool.Ind := fun h => h
theorem kStr_ind : kStr.Ind := fun h => h
theorem Reps.ind (hi : dk.Ind) : ∀ {xs : List α} {cs : List Value} {M : Frag}, Reps dk b w0 R xs cs M → Reps dk b w0 R' xs cs M
  | [], cs, M, h => h
  | x :: xs, cs, M, h => by
    obtain ⟨c1, c2, M1, M2, rfl, rfl, h1, h2⟩ := h
    exact ⟨c1, c2, M1, M2, rfl, rfl, hi h1, h2.ind hi⟩
theorem Row.ind (hi : dk.Ind) (h : Row dk E b w0 R v xs M) : Row dk E b w0 R' v xs M := by
  obtain ⟨cs, blk, Mi, h1, h2, h3⟩ := h
  exact ⟨cs, blk, Mi, h1, h2, h3.ind hi⟩
theorem Ptr.ind {T : Nat} {x : α} (hi : dk.Ind) (h : Ptr dk T b w0 R v x M) : Ptr dk T b w0 R' v x M := by
  obtain ⟨g, cs, M', rfl, rfl, h⟩ := h
  exact ⟨g, cs, M', rfl, rfl, hi h⟩
theorem kRow_ind (hi : dk.Ind) : (kRow dk E).Ind := fun ⟨v, h1, h2⟩ => ⟨v, h1, h2.ind hi⟩
theorem kPtr_ind {T : Nat} (hi : dk.Ind) : (kPtr dk T).Ind := fun ⟨v, h1, h2⟩ => ⟨v, h1, h2.ind hi⟩
theorem kPair_ind {β : Type} {e : Kd β} (h1 : dk.Ind) (h2 : e.Ind) : (kPair dk e).Ind := fun ⟨c1, c2, M1, M2, a, b, g1, g2⟩ => ⟨c1, c2, M1, M2, a, b, h1 g1, h2 g2⟩
theorem kIso_ind {β : Type} {f : β → α} (h : dk.Ind) : (kIso dk f).Ind := fun g => h g
end
end Go.Proofs.Sl
