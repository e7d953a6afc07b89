/- Memory: what is held (fragments), what may be read, kinds of data. -/
import Derived.Test.YtikfpmieadfllaaSlA
import Derived.Laws.Rows
import Derived.Deep.Draws
import Derived.Laws.AppendOwn
import Derived.Laws.Entries
set_option linter.unusedVariables false
set_option linter.unusedSimpArgs false
namespace Go.Proofs.Sl
open Go Go.RowKit

abbrev Frag := List (Nat × Obj)
/-- The world: below b as it was at first; what may be read (R), what is held (Ms): blocks of their own, each told whole. -/
structure St (b : Nat) (w0 W : World) (R : Frag) (Ms : List Frag) : Prop where
  bel : Below b w0 W
  hb : b ≤ w0.heap.size
  at_ : ∀ p ∈ R ++ Ms.flatten, W.heap[p.1]? = some p.2
  ge : ∀ p ∈ R ++ Ms.flatten, b ≤ p.1
  nd : ((R ++ Ms.flatten).map (·.1)).Nodup
section
variable {b : Nat} {w0 W W1 : World} {R : Frag} {Ms : List Frag} {M : Frag}
theorem St.size (h : St b w0 W R Ms) : b ≤ W.heap.size := Nat.le_trans h.hb h.bel.size
theorem St.perm {R' : Frag} {Ms' : List Frag} (h : St b w0 W R Ms) (hp : (R ++ Ms.flatten).Perm (R' ++ Ms'.flatten)) : St b w0 W R' Ms' :=
  ⟨h.bel, h.hb, fun p hq => h.at_ p (hp.mem_iff.2 hq), fun p hq => h.ge p (hp.mem_iff.2 hq), (hp.map _).nodup_iff.1 h.nd⟩
theorem St.lt (h : St b w0 W R Ms) {p : Nat × Obj} (hp : p ∈ R ++ Ms.flatten) : p.1 < W.heap.size := (Array.getElem?_eq_some_iff.1 (h.at_ p hp)).1
theorem St.drewN (h : St b w0 W R Ms) (n : Nat) : St b w0 (W.drewN n) R Ms := ⟨⟨h.bel.os, h.bel.tape, h.bel.output, h.bel.size, h.bel.block⟩, h.hb, h.at_, h.ge, h.nd⟩
theorem St.drew (h : St b w0 W R Ms) : St b w0 W.drew R Ms := ⟨⟨h.bel.os, h.bel.tape, h.bel.output, h.bel.size, h.bel.block⟩, h.hb, h.at_, h.ge, h.nd⟩
/-- A later world in which all that is told stands. -/
theorem St.move (h : St b w0 W R Ms) (hos : W1.os = W.os) (ht : W1.tape = W.tape) (ho : W1.output = W.output) (hs : W.heap.size ≤ W1.heap.size)
    (hb : ∀ k, k < b → W1.heap[k]? = W.heap[k]?) (hk : ∀ p ∈ R ++ Ms.flatten, W1.heap[p.1]? = W.heap[p.1]?) : St b w0 W1 R Ms :=
  ⟨⟨hos.trans h.bel.os, ht.trans h.bel.tape, ho.trans h.bel.output, Nat.le_trans h.bel.size hs, fun k hk => (hb k hk).trans (h.bel.block k hk)⟩, h.hb,
    fun p hp => (hk p hp).trans (h.at_ p hp), h.ge, h.nd⟩
/-- A new block. -/
theorem St.alloc (h : St b w0 W R Ms) (o : Obj) : St b w0 (W.alloc o) R ([(W.heap.size, o)] :: Ms) := by
  refine ⟨h.bel.alloc h.size o, h.hb, ?_, ?_, ?_⟩
  · intro p hp
    simp only [List.flatten_cons, List.mem_append, List.mem_singleton] at hp
    rcases hp with hp | rfl | hp
    · exact (heap_alloc_old W o p.1 (h.lt (List.mem_append_left _ hp))).trans (h.at_ p (List.mem_append_left _ hp))
    · exact heap_alloc_new W o
    · exact (heap_alloc_old W o p.1 (h.lt (List.mem_append_right _ hp))).trans (h.at_ p (List.mem_append_right _ hp))
  · intro p hp
    simp only [List.flatten_cons, List.mem_append, List.mem_singleton] at hp
    rcases hp with hp | rfl | hp
    · exact h.ge p (List.mem_append_left _ hp)
    · exact h.size
    · exact h.ge p (List.mem_append_right _ hp)
  · have hperm : (R ++ ([(W.heap.size, o)] :: Ms).flatten).Perm ((W.heap.size, o) :: (R ++ Ms.flatten)) := by
      simp only [List.flatten_cons, List.singleton_append]
      exact List.perm_middle
    rw [(hperm.map _).nodup_iff, List.map_cons, List.nodup_cons]
    refine ⟨fun hm => ?_, h.nd⟩
    obtain ⟨p, hp, e⟩ := List.mem_map.1 hm
    have := h.lt hp
    omega
/-- One held block turns. -/
theorem St.turn {g : Nat} {o o' : Obj} {m : Frag} (h : St b w0 W R (((g, o) :: m) :: Ms)) (hos : W1.os = W.os) (ht : W1.tape = W.tape) (ho : W1.output = W.output) (hs : W.heap.size ≤ W1.heap.size)
    (hg : W1.heap[g]? = some o') (hk : ∀ k, k < W.heap.size → k ≠ g → W1.heap[k]? = W.heap[k]?) : St b w0 W1 R (((g, o') :: m) :: Ms) := by
  have hperm : ∀ o : Obj, (R ++ (((g, o) :: m) :: Ms).flatten).Perm ((g, o) :: (R ++ (m :: Ms).flatten)) := fun o => by
    simp only [List.flatten_cons, List.cons_append]
    exact List.perm_middle
  have hnd := ((hperm o).map (·.1)).nodup_iff.1 h.nd
  rw [List.map_cons, List.nodup_cons] at hnd
  have hgb : b ≤ g := h.ge (g, o) ((hperm o).mem_iff.2 List.mem_cons_self)
  have hold : ∀ p ∈ R ++ (m :: Ms).flatten, W1.heap[p.1]? = some p.2 ∧ b ≤ p.1 := fun p hp => by
    have hp' := (hperm o).mem_iff.2 (List.mem_cons_of_mem _ hp)
    refine ⟨(hk p.1 (h.lt hp') fun e => ?_).trans (h.at_ p hp'), h.ge p hp'⟩
    exact hnd.1 (List.mem_map.2 ⟨p, hp, e⟩)
  refine ⟨⟨hos.trans h.bel.os, ht.trans h.bel.tape, ho.trans h.bel.output, Nat.le_trans h.bel.size hs, fun k hkb => ?_⟩, h.hb, fun p hp => ?_, fun p hp => ?_, ?_⟩
  · exact (hk k (Nat.lt_of_lt_of_le hkb h.size) (by omega)).trans (h.bel.block k hkb)
  · rcases List.mem_cons.1 ((hperm o').mem_iff.1 hp) with rfl | hp
    · exact hg
    · exact (hold p hp).1
  · rcases List.mem_cons.1 ((hperm o').mem_iff.1 hp) with rfl | hp
    · exact hgb
    · exact (hold p hp).2
  · rw [((hperm o').map _).nodup_iff, List.map_cons, List.nodup_cons]
    exact hnd
theorem St.blk {g : Nat} {o : Obj} {m : Frag} (h : St b w0 W R (((g, o) :: m) :: Ms)) : W.heap[g]? = some o := h.at_ (g, o) (by simp)
theorem bring_perm {m : Frag} : ∀ {Ms : List Frag} {k : Nat}, Ms[k]? = some m → Ms.flatten.Perm (m :: Ms.eraseIdx k).flatten
  | [], k, h => by simp at h
  | a :: Ms, 0, h => by
    simp only [List.getElem?_cons_zero, Option.some.injEq] at h
    subst h
    exact List.Perm.refl _
  | a :: Ms, k + 1, h => by
    simp only [List.getElem?_cons_succ] at h
    have ih := bring_perm h
    simp only [List.flatten_cons, List.eraseIdx_cons_succ] at ih ⊢
    refine (List.Perm.append_left a ih).trans ?_
    rw [← List.append_assoc, ← List.append_assoc]
    exact List.Perm.append_right _ List.perm_append_comm
/-- The k-th fragment comes first. -/
theorem St.bring {m : Frag} {Ms' : List Frag} (h : St b w0 W R Ms) (k : Nat) (hk : Ms[k]? = some m) (he : Ms.eraseIdx k = Ms') : St b w0 W R (m :: Ms') :=
  he ▸ h.perm (List.Perm.append_left R (bring_perm hk))
theorem St.join {m m' : Frag} (h : St b w0 W R (m :: m' :: Ms)) : St b w0 W R ((m ++ m') :: Ms) := h.perm (by simp)
theorem St.split {m m' : Frag} (h : St b w0 W R ((m ++ m') :: Ms)) : St b w0 W R (m :: m' :: Ms) := h.perm (by simp)
theorem St.cons_split {p : Nat × Obj} {m : Frag} (h : St b w0 W R ((p :: m) :: Ms)) : St b w0 W R ([p] :: m :: Ms) := h.perm (by simp)
theorem St.cons_join {p : Nat × Obj} {m : Frag} (h : St b w0 W R ([p] :: m :: Ms)) : St b w0 W R ((p :: m) :: Ms) := h.perm (by simp)
theorem St.nil_ (h : St b w0 W R Ms) : St b w0 W R ([] :: Ms) := h.perm (by simp)
theorem St.drop_ {m : Frag} (h : St b w0 W R (m :: Ms)) : St b w0 W R Ms :=
  ⟨h.bel, h.hb, fun p hp => h.at_ p (by simp only [List.flatten_cons, List.mem_append] at hp ⊢; exact hp.imp id .inr), fun p hp => h.ge p (by simp only [List.flatten_cons, List.mem_append] at hp ⊢; exact hp.imp id .inr),
    List.Nodup.sublist (List.Sublist.map _ (List.Sublist.append_left (by simp) _)) h.nd⟩
/-- What is held may be read from now on. -/
theorem St.pool {m : Frag} (h : St b w0 W R (m :: Ms)) : St b w0 W (m ++ R) Ms := h.perm (by simp only [List.flatten_cons, ← List.append_assoc]; exact List.Perm.append_right _ List.perm_append_comm)
theorem St.unpool {m : Frag} (h : St b w0 W (m ++ R) Ms) : St b w0 W R (m :: Ms) := h.perm (by simp only [List.flatten_cons, ← List.append_assoc]; exact List.Perm.append_right _ List.perm_append_comm)
end

/-! ### what may be read -/
def Kn (b : Nat) (w0 : World) (R : Frag) (a : Addr) (v : Value) : Prop :=
  a.spot = none ∧ ((a.block < b ∧ w0.cell? a = some v) ∨ ∃ c e fr, (a.block, Obj.cells c e fr) ∈ R ∧ c[a.off]? = some v)
theorem Kn.mono {b : Nat} {w0 : World} {R R' : Frag} {a : Addr} {v : Value} (h : Kn b w0 R a v) (hs : ∀ p ∈ R, p ∈ R') : Kn b w0 R' a v :=
  ⟨h.1, h.2.imp id fun ⟨c, e, fr, hm, hc⟩ => ⟨c, e, fr, hs _ hm, hc⟩⟩
theorem St.kn {b : Nat} {w0 W : World} {R : Frag} {Ms : List Frag} {a : Addr} {v : Value} (h : St b w0 W R Ms) (hk : Kn b w0 R a v) : W.cell? a = some v := by
  obtain ⟨hs, hk | ⟨c, e, fr, hm, hc⟩⟩ := hk
  · have := h.bel.block a.block hk.1
    rw [← hk.2]
    simp only [World.cell?, this]
  · have := h.at_ _ (List.mem_append_left _ hm)
    simp only [World.cell?, this, hs, Option.isSome_none, Bool.false_eq_true, if_false]
    exact hc
end Go.Proofs.Sl
