/- Shorter ways to say the same, for texts that must be short. -/
import Derived.Test.YtikfpmieadfllaaSlW
import Derived.KernelRfl
set_option linter.unusedVariables false
set_option linter.unusedSimpArgs false
namespace Go.Proofs.Sl
open Go Go.RowKit
abbrev pt (g : Nat) : Value := .pointer (some ⟨g, 0, none⟩)
abbrev bx (g T : Nat) (cs : List Value) : Frag := [(g, .cells cs.toArray T (0, 0))]
abbrev i6 (x : Int) : Value := .int .i64 x
section
variable {b : Nat} {w0 W : World} {R : Frag} {Ms : List Frag} {P : Program} {Q : Exit → Act → World → Prop} {ops : Array Oper} {a : Act} {n : Nat} {L : LF} {o : Oper} {K : Act → World → Prop} {d : Nat} {v : Value} {m : Frag}
theorem St.b1 {x0 x1 : Frag} (h : St b w0 W R (x0 :: x1 :: Ms)) : St b w0 W R (x1 :: x0 :: Ms) := h.bring 1 rfl rfl
theorem St.b2 {x0 x1 x2 : Frag} (h : St b w0 W R (x0 :: x1 :: x2 :: Ms)) : St b w0 W R (x2 :: x0 :: x1 :: Ms) := h.bring 2 rfl rfl
theorem St.b3 {x0 x1 x2 x3 : Frag} (h : St b w0 W R (x0 :: x1 :: x2 :: x3 :: Ms)) : St b w0 W R (x3 :: x0 :: x1 :: x2 :: Ms) := h.bring 3 rfl rfl
theorem St.b4 {x0 x1 x2 x3 x4 : Frag} (h : St b w0 W R (x0 :: x1 :: x2 :: x3 :: x4 :: Ms)) : St b w0 W R (x4 :: x0 :: x1 :: x2 :: x3 :: Ms) := h.bring 4 rfl rfl
theorem St.b5 {x0 x1 x2 x3 x4 x5 : Frag} (h : St b w0 W R (x0 :: x1 :: x2 :: x3 :: x4 :: x5 :: Ms)) : St b w0 W R (x5 :: x0 :: x1 :: x2 :: x3 :: x4 :: Ms) := h.bring 5 rfl rfl
theorem St.b6 {x0 x1 x2 x3 x4 x5 x6 : Frag} (h : St b w0 W R (x0 :: x1 :: x2 :: x3 :: x4 :: x5 :: x6 :: Ms)) : St b w0 W R (x6 :: x0 :: x1 :: x2 :: x3 :: x4 :: x5 :: Ms) := h.bring 6 rfl rfl
theorem St.b7 {x0 x1 x2 x3 x4 x5 x6 x7 : Frag} (h : St b w0 W R (x0 :: x1 :: x2 :: x3 :: x4 :: x5 :: x6 :: x7 :: Ms)) : St b w0 W R (x7 :: x0 :: x1 :: x2 :: x3 :: x4 :: x5 :: x6 :: Ms) := h.bring 7 rfl rfl
theorem St.b8 {x0 x1 x2 x3 x4 x5 x6 x7 x8 : Frag} (h : St b w0 W R (x0 :: x1 :: x2 :: x3 :: x4 :: x5 :: x6 :: x7 :: x8 :: Ms)) : St b w0 W R (x8 :: x0 :: x1 :: x2 :: x3 :: x4 :: x5 :: x6 :: x7 :: Ms) := h.bring 8 rfl rfl
theorem St.b9 {x0 x1 x2 x3 x4 x5 x6 x7 x8 x9 : Frag} (h : St b w0 W R (x0 :: x1 :: x2 :: x3 :: x4 :: x5 :: x6 :: x7 :: x8 :: x9 :: Ms)) : St b w0 W R (x9 :: x0 :: x1 :: x2 :: x3 :: x4 :: x5 :: x6 :: x7 :: x8 :: Ms) := h.bring 9 rfl rfl
theorem St.b10 {x0 x1 x2 x3 x4 x5 x6 x7 x8 x9 x10 : Frag} (h : St b w0 W R (x0 :: x1 :: x2 :: x3 :: x4 :: x5 :: x6 :: x7 :: x8 :: x9 :: x10 :: Ms)) : St b w0 W R (x10 :: x0 :: x1 :: x2 :: x3 :: x4 :: x5 :: x6 :: x7 :: x8 :: x9 :: Ms) := h.bring 10 rfl rfl
theorem St.b11 {x0 x1 x2 x3 x4 x5 x6 x7 x8 x9 x10 x11 : Frag} (h : St b w0 W R (x0 :: x1 :: x2 :: x3 :: x4 :: x5 :: x6 :: x7 :: x8 :: x9 :: x10 :: x11 :: Ms)) : St b w0 W R (x11 :: x0 :: x1 :: x2 :: x3 :: x4 :: x5 :: x6 :: x7 :: x8 :: x9 :: x10 :: Ms) := h.bring 11 rfl rfl
theorem St.b12 {x0 x1 x2 x3 x4 x5 x6 x7 x8 x9 x10 x11 x12 : Frag} (h : St b w0 W R (x0 :: x1 :: x2 :: x3 :: x4 :: x5 :: x6 :: x7 :: x8 :: x9 :: x10 :: x11 :: x12 :: Ms)) : St b w0 W R (x12 :: x0 :: x1 :: x2 :: x3 :: x4 :: x5 :: x6 :: x7 :: x8 :: x9 :: x10 :: x11 :: Ms) := h.bring 12 rfl rfl
theorem St.b13 {x0 x1 x2 x3 x4 x5 x6 x7 x8 x9 x10 x11 x12 x13 : Frag} (h : St b w0 W R (x0 :: x1 :: x2 :: x3 :: x4 :: x5 :: x6 :: x7 :: x8 :: x9 :: x10 :: x11 :: x12 :: x13 :: Ms)) : St b w0 W R (x13 :: x0 :: x1 :: x2 :: x3 :: x4 :: x5 :: x6 :: x7 :: x8 :: x9 :: x10 :: x11 :: x12 :: Ms) := h.bring 13 rfl rfl
theorem St.b14 {x0 x1 x2 x3 x4 x5 x6 x7 x8 x9 x10 x11 x12 x13 x14 : Frag} (h : St b w0 W R (x0 :: x1 :: x2 :: x3 :: x4 :: x5 :: x6 :: x7 :: x8 :: x9 :: x10 :: x11 :: x12 :: x13 :: x14 :: Ms)) : St b w0 W R (x14 :: x0 :: x1 :: x2 :: x3 :: x4 :: x5 :: x6 :: x7 :: x8 :: x9 :: x10 :: x11 :: x12 :: x13 :: Ms) := h.bring 14 rfl rfl
theorem St.b15 {x0 x1 x2 x3 x4 x5 x6 x7 x8 x9 x10 x11 x12 x13 x14 x15 : Frag} (h : St b w0 W R (x0 :: x1 :: x2 :: x3 :: x4 :: x5 :: x6 :: x7 :: x8 :: x9 :: x10 :: x11 :: x12 :: x13 :: x14 :: x15 :: Ms)) : St b w0 W R (x15 :: x0 :: x1 :: x2 :: x3 :: x4 :: x5 :: x6 :: x7 :: x8 :: x9 :: x10 :: x11 :: x12 :: x13 :: x14 :: Ms) := h.bring 15 rfl rfl
theorem St.b16 {x0 x1 x2 x3 x4 x5 x6 x7 x8 x9 x10 x11 x12 x13 x14 x15 x16 : Frag} (h : St b w0 W R (x0 :: x1 :: x2 :: x3 :: x4 :: x5 :: x6 :: x7 :: x8 :: x9 :: x10 :: x11 :: x12 :: x13 :: x14 :: x15 :: x16 :: Ms)) : St b w0 W R (x16 :: x0 :: x1 :: x2 :: x3 :: x4 :: x5 :: x6 :: x7 :: x8 :: x9 :: x10 :: x11 :: x12 :: x13 :: x14 :: x15 :: Ms) := h.bring 16 rfl rfl
theorem St.b17 {x0 x1 x2 x3 x4 x5 x6 x7 x8 x9 x10 x11 x12 x13 x14 x15 x16 x17 : Frag} (h : St b w0 W R (x0 :: x1 :: x2 :: x3 :: x4 :: x5 :: x6 :: x7 :: x8 :: x9 :: x10 :: x11 :: x12 :: x13 :: x14 :: x15 :: x16 :: x17 :: Ms)) : St b w0 W R (x17 :: x0 :: x1 :: x2 :: x3 :: x4 :: x5 :: x6 :: x7 :: x8 :: x9 :: x10 :: x11 :: x12 :: x13 :: x14 :: x15 :: x16 :: Ms) := h.bring 17 rfl rfl
theorem St.b18 {x0 x1 x2 x3 x4 x5 x6 x7 x8 x9 x10 x11 x12 x13 x14 x15 x16 x17 x18 : Frag} (h : St b w0 W R (x0 :: x1 :: x2 :: x3 :: x4 :: x5 :: x6 :: x7 :: x8 :: x9 :: x10 :: x11 :: x12 :: x13 :: x14 :: x15 :: x16 :: x17 :: x18 :: Ms)) : St b w0 W R (x18 :: x0 :: x1 :: x2 :: x3 :: x4 :: x5 :: x6 :: x7 :: x8 :: x9 :: x10 :: x11 :: x12 :: x13 :: x14 :: x15 :: x16 :: x17 :: Ms) := h.bring 18 rfl rfl
theorem Ptr.nm {α : Type} {dk : Kd α} {T : Nat} {x : α} {M : Frag} (h : Ptr dk T b w0 R v x M) (hS : St b w0 W R (M :: Ms)) : ∃ M, Ptr dk T b w0 R v x M ∧ St b w0 W R (M :: Ms) := ⟨M, h, hS⟩
theorem WL.bl {m : Nat} (c m' : Nat) (h : Hd a n L) (news : LF) (k : ∀ a', Hd a' n (news ++ L) → WL P Q ops m' a' W) (hm : m + c = m' := by rfl) (hrun : (seqOps n ((ops.toList.drop m).take c) L).run P W = .ok (news ++ L) W := by kernel_rfl) : WL P Q ops m a W := WL.block h hm news hrun k
theorem WL.oq {m : Nat} {o : Oper} (h : Hd a n L) (ho : ops[m]? = some o) (hwp : o.wp P a W (WL P Q ops (m + 1)) Q) (hw : wantL ops L o = some true := by rfl) : WL P Q ops m a W := WL.op' h ho hw hwp
theorem WL.sk {m : Nat} {o : Oper} {d : Nat} (h : Hd a n L) (ho : ops[m]? = some o) (hd : o.dst = some d) (k : ∀ a', Hd a' n ((d, undef) :: L) → WL P Q ops (m + 1) a' W) (hlt : Nat.blt d n = true := by kernel_rfl) (hw : wantL ops L o = some false := by rfl) : WL P Q ops m a W := WL.skipped h ho hd hlt hw k
theorem WL.dn {m : Nat} (h : Q .normal a W) (hm : Nat.ble ops.size m = true := by kernel_rfl) : WL P Q ops m a W := WL.done hm h
variable {s : Nat} {S : World → Prop} {listed : Array Bool} {fuel : Nat}
theorem WT.tk (i : Nat) {o : Oper} {d : Nat} (h : Hd a n L) (hi : ops[i]? = some o) (hd : o.dst = some d) (v : Value) (hrun : ∀ w, S w → (execOp (evT L) o).run P w = .ok (.value v) w) (hS : S W)
    (k : ∀ a', S W → Hd a' n ((d, v) :: L) → WT P Q ops s S (listed.setIfInBounds i true) fuel a' W) (hst : (freeAt ops listed i && (Nat.blt d n && noSel o && okOp L o) && lateWaits ops s i) = true := by kernel_rfl) (hw : wantL ops L o = some true := by rfl)
    (hQ : ∀ c a w, Q (.panic c) (a.put o.dst v) w → Q (.panic c) a w := by exact fun _ _ _ h => h) : WT P Q ops s S listed (fuel + 1) a W := WT.take i h hi hd hst hw rfl v hrun hS hQ (fun a h => k a hS h)
theorem WT.sp (i : Nat) {o : Oper} {d : Nat} (h : Hd a n L) (hi : ops[i]? = some o) (hd : o.dst = some d) (hS : S W)
    (k : ∀ a', S W → Hd a' n ((d, undef) :: L) → WT P Q ops s S (listed.setIfInBounds i true) fuel a' W) (hst : (freeAt ops listed i && Nat.blt d n && lateWaits ops s i) = true := by kernel_rfl) (hw : wantL ops L o = some false := by rfl)
    (hQ : ∀ c a w, Q (.panic c) (a.put o.dst undef) w → Q (.panic c) a w := by exact fun _ _ _ h => h) : WT P Q ops s S listed (fuel + 1) a W := WT.skip i h hi hd hst hw rfl hS hQ (fun a h => k a hS h)
theorem WT.lt (i : Nat) {o : Oper} {d : Nat} (h : Hd a n L) (hi : ops[i]? = some o) (hd : o.dst = some d) (v : Value) (hrun : ∀ w, (execOp (evT L) o).run P w = .ok (.value v) w)
    (k : ∀ a', Hd a' n ((d, v) :: L) → WT P Q ops s S (listed.setIfInBounds i true) fuel a' W) (hst : (freeAt ops listed i && (Nat.blt d n && noSel o && okOp L o) && Nat.ble s i) = true := by kernel_rfl) (hw : wantL ops L o = some true := by rfl)
    (hQ : ∀ c a w, Q (.panic c) (a.put o.dst v) w → Q (.panic c) a w := by exact fun _ _ _ h => h) : WT P Q ops s S listed (fuel + 1) a W := WT.late i h hi hd hst hw rfl v hrun hQ k
theorem WT.o1 (i : Nat) {o : Oper} (h : Hd a n L) (hi : ops[i]? = some o) (k : o.wp P a W (fun a' w' => (s ≤ i ∨ S w') ∧ WT P Q ops s S (listed.setIfInBounds i true) fuel a' w') Q) (hr : Region.ready .any ops listed = [i] := by kernel_rfl) (hw : wantL ops L o = some true := by rfl) : WT P Q ops s S listed (fuel + 1) a W := WT.op i h hi hr hw rfl k
theorem WT.dn (h : Q .normal a W) (hr : (Region.ready .any ops listed).isEmpty = true := by kernel_rfl) : WT P Q ops s S listed fuel a W := WT.done hr h
theorem owp_rn (v : Value) (hh : Hd a n L) (hd : o.dst = some d) (hrun : (execOp (evT L) o).run P W = .ok (.value v) W) (k : ∀ a', Hd a' n ((d, v) :: L) → K a' W) (hk : (Nat.blt d n && noSel o && okOp L o) = true := by kernel_rfl) : o.wp P a W K Q := owp_run hh hd hk hrun k
theorem owp_rk (v : Value) (hh : Hd a n L) (hd : o.dst = some d) (k : ∀ a', Hd a' n ((d, v) :: L) → K a' W) (hk : (Nat.blt d n && noSel o && okOp L o) = true := by kernel_rfl) (hrun : (execOp (evT L) o).run P W = .ok (.value v) W := by kernel_rfl) : o.wp P a W K Q := owp_run hh hd hk hrun k
theorem owp_nw (f : Nat → Value) (o' : Obj) (h : Hd a n L) (hd : o.dst = some d) (hS : St b w0 W R Ms) (k : ∀ a' W' g, Hd a' n ((d, f g) :: L) → St b w0 W' R ([(g, o')] :: Ms) → K a' W') (hk : (Nat.blt d n && noSel o && okOp L o) = true := by kernel_rfl) (hrun : (execOp (evT L) o).run P W = .ok (.value (f W.heap.size)) (W.alloc o') := by kernel_rfl) : o.wp P a W K Q := owp_new f o' h hd hk hrun hS k
theorem owp_st {t : Nat} {x y : Operand} {g : Nat} {cs : List Value} {e : Nat} (i : Nat) (vs : List Value) (h : Hd a n L) (hop : o.op = .store t x y)
    (hx : ev L x = some (.pointer (some ⟨g, i, none⟩))) (hy : ev L y = some v) (hS : St b w0 W R (((g, .cells cs.toArray e (0, 0)) :: m) :: Ms)) (cs' : List Value) (k : ∀ a' W', Hd a' n L → St b w0 W' R (((g, .cells cs'.toArray e (0, 0)) :: m) :: Ms) → K a' W')
    (hd : o.dst = none := by rfl) (hk : (noSel o && okOp L o) = true := by kernel_rfl) (hv : v.cells = vs.toArray := by rfl) (h1 : ∀ u ∈ vs, u.oneCell' = true := by simp [Value.oneCell']) (hsz : (P.info? t).map (·.size) = some vs.length := by kernel_rfl)
    (hlt : i + vs.length ≤ cs.length := by simp) (hc : cs.take i ++ vs ++ cs.drop (i + vs.length) = cs' := by rfl) : o.wp P a W K Q := owp_store h hd hk hop hx hy hv h1 hsz hS hlt hc k
theorem bret {fn : Func} {R : Ending → World → Prop} (v : Value) (h : Hd a n L) (k : R (.returned v) W) (hk : okRes fn L = true := by kernel_rfl) (hr : (resL fn L).run P W = .ok v W := by kernel_rfl) : bodyPost P fn R .ret a W := body_ret h hk hr k
theorem bend {fn : Func} {R : Ending → World → Prop} (v : Value) (h : Hd a n L) (k : R (.returned v) W) (hk : okRes fn L = true := by kernel_rfl) (hr : (resL fn L).run P W = .ok v W := by kernel_rfl) : bodyPost P fn R .normal a W := body_end h hk hr k
end
theorem t1 {K : Act → World → Prop} {Q : Exit → Act → World → Prop} {a : Act} {w : World} (h : Q .ret a w) : Exit.then K Q .ret a w := h
theorem t2 {id : Nat} {Q : Exit → Act → World → Prop} {a : Act} {w : World} (h : Q .ret a w) : Exit.inBlock id Q .ret a w := h
theorem t3 {id : Nat} {Q : Exit → Act → World → Prop} {a : Act} {w : World} (h : Q .normal a w) : Exit.inBlock id Q .normal a w := h
theorem t4 {K : Act → World → Prop} {Q : Exit → Act → World → Prop} {a : Act} {w : World} (h : K a w) : Exit.then K Q .normal a w := h
end Go.Proofs.Sl
