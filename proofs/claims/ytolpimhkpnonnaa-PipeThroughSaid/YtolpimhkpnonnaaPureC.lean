/- Chapter 26, plain: the pipe beside its plain twin. -/
import Derived.Test.YtolpimhkpnonnaaPureB
set_option linter.unusedVariables false
set_option linter.unusedSimpArgs false
namespace Go.Proofs.Ytolpimhkpnonnaa.Sl
open Go Go.Proofs.Sl

def ok32 (x : S32) : Prop := okI .i64 x.f0 ∧ okL 1 (okI .u8) x.f1 ∧ okI .i64 x.f2
structure Inv (p : S36) (size : Int) (inn out wrote : List UInt8) (cut : Bool) (n : Nat) : Prop where
  ok : Pok p
  sz : p.f1 = size
  ct : p.f2 = cut
  eq : toS p.f0 = inn
  pre : ∃ rest, wrote = out ++ rest ∧ (cut = false → rest = inn)
  len : wrote.length ≤ n
theorem j5qok {p : S36} {size : Int} {inn out wrote : List UInt8} {cut : Bool} {n : Nat} {p1 : List S32} {i : Nat} {k : Nat} (h : Inv p size inn out wrote cut n) (hi : i < 300) (ih : louverlaw26qPipePlays.l2 k p inn out wrote cut ((i + 1 : Nat) : Int) p1 size = some true) :
    louverlaw26qPipePlays.j3 (k + 2) p inn out wrote cut size p1 i = some true := by
  obtain ⟨hok, hsz, hct, heq, ⟨rest, hw, hr⟩, hl⟩ := h
  have hlen : inn.length = p.f0.length := by rw [← heq, toS_length]
  obtain ⟨a, b, c⟩ := id hok
  have key : ∀ left : Int, left = (if cut = true then 0 else size - inn.length) → louverlaw26qPipePlays.j5 (k + 1) cut left p1 size i p inn out wrote = some true := by
    intro left hleft
    rw [louverlaw26qPipePlays.j5]
    simp only [pipe_Pipe_Len.f, pipe_Pipe_IsCut.f, bnd1]
    rw [if_pos (by omega), room_f p hok]
    simp only
    rw [if_pos (by rw [hleft, hct, hsz, hlen]), if_neg (by rw [hct]; simp), if_neg (by rw [hw]; simp; omega), if_pos (by omega), if_pos (by rw [hw]; simp <;> omega), Int.toNat_natCast, if_pos (by rw [hw]; simp), wi64 (by omega) (by omega)]
    have e : (i : Int) + 1 = ((i + 1 : Nat) : Int) := by omega
    rw [e]
    exact ih
  rw [show k + 2 = (k + 1) + 1 from rfl, louverlaw26qPipePlays.j3]
  cases cut with
  | true =>
    rw [if_pos rfl]
    exact key 0 rfl
  | false =>
    rw [if_neg (by simp), wi64 (by omega) (by omega)]
    exact key _ rfl
theorem toS_take (l : List Int) (n : Nat) : toS (l.take n) = (toS l).take n := by simp [toS]
theorem toS_drop (l : List Int) (n : Nat) : toS (l.drop n) = (toS l).drop n := by simp [toS]
theorem plays_l2 (p1 : List S32) (size : Int) (hs : 1 ≤ size ∧ size ≤ 1048576) (h : okL 40 ok32 p1) (hl : p1.length ≤ 300) : ∀ (n k i : Nat) (p : S36) (inn out wrote : List UInt8) (cut : Bool), Inv p size inn out wrote cut (3000 * i) → i + n = p1.length →
    louverlaw26qPipePlays.l2 (k + 4 * n + 1) p inn out wrote cut i p1 size = some true := by
  intro n
  induction n with
  | zero =>
    intro k i p inn out wrote cut hv hi
    rw [louverlaw26qPipePlays.l2, if_neg (by omega), fixed_true]
    rfl
  | succ n ih =>
    intro k i p inn out wrote cut hv hi
    rw [show k + 4 * (n + 1) + 1 = (k + 4 * n + 4) + 1 by omega, louverlaw26qPipePlays.l2, if_pos (by omega), if_pos (by omega)]
    have hg := gt_get (z := z32) (xs := p1) (i := (i : Int)) (by omega) (by omega)
    have ho := h.2 _ (List.mem_of_getElem? hg)
    generalize hgo : gt z32 p1 (i : Int) = o at ho
    obtain ⟨hok, hsz, hct, heq, ⟨rest, hw, hr⟩, hlw⟩ := id hv
    obtain ⟨a, b, c⟩ := id hok
    have hlen : inn.length = p.f0.length := by rw [← heq, toS_length]
    by_cases c1 : (o.f1.length : Int) > 3000
    · rw [if_pos c1, fixed_true]
      rfl
    rw [if_neg c1]
    have nxt := fun p' inn' out' wrote' cut' (hv' : Inv p' size inn' out' wrote' cut' (3000 * (i + 1))) => ih k (i + 1) p' inn' out' wrote' cut' hv' (by omega)
    by_cases c2 : o.f0 = 0
    · rw [if_pos c2]
      have key : ∀ m : Int, m = (wr p o.f1 : Int) → louverlaw26qPipePlays.j4 (k + 4 * n + 4) cut m p1 size p inn out wrote i = some true := by
        intro m hm
        rw [show k + 4 * n + 4 = (k + 4 * n + 3) + 1 from rfl, louverlaw26qPipePlays.j4, hgo]
        have hle : wr p o.f1 ≤ o.f1.length := by
          unfold wr
          split <;> omega
        rw [if_pos (by simp; omega)]
        simp only [lt1, List.nil_append]
        rw [write_f p o.f1 hok]
        simp only [bnd2]
        rw [if_pos hm.symm, if_pos (by omega), if_pos (by omega), hm, Int.toNat_natCast, if_pos (by simp [toS]; omega), if_pos (by simp [toS]; omega)]
        have hv' : Inv (⟨p.f0 ++ o.f1.take (wr p o.f1), p.f1, p.f2⟩ : S36) size (inn ++ toS (o.f1.take (wr p o.f1))) out (wrote ++ toS (o.f1.take (wr p o.f1))) cut (3000 * (i + 1)) := by
          refine ⟨pok_wr hok o.f1, hsz, hct, by rw [toS_append, heq], ⟨rest ++ toS (o.f1.take (wr p o.f1)), by rw [hw, List.append_assoc], fun hc => by rw [hr hc]⟩, by simp [toS]; omega⟩
        have := j5qok (k := k + 4 * n + 1) hv' (by omega) (nxt _ _ _ _ _ hv')
        exact this
      cases cut with
      | true =>
        rw [if_pos rfl]
        exact key 0 (by unfold wr; rw [if_pos hct]; rfl)
      | false =>
        rw [if_neg (by simp), wi64 (x := size - (inn.length : Int)) (by omega) (by omega), mn_eq]
        exact key _ (by unfold wr; rw [if_neg (by rw [hct]; simp)]; omega)
    · rw [if_neg c2]
      by_cases c3 : o.f0 = 1
      · rw [if_pos c3, read_f p o.f2 hok]
        have er : min (inn.length : Int) (max 1 o.f2) = (rd p o.f2 : Int) := by
          unfold rd
          omega
        have hrd : rd p o.f2 ≤ p.f0.length := by
          unfold rd
          omega
        simp only [bnd2, mn_eq, mx_eq]
        have hol : out.length ≤ wrote.length := by rw [hw]; simp
        rw [er, if_pos (by omega), if_pos (by omega), Int.toNat_natCast, if_pos (by rw [toS_take, heq]), if_pos (by simp [toS]; omega)]
        simp only [lt1]
        have hv' : Inv (⟨p.f0.drop (rd p o.f2), p.f1, p.f2⟩ : S36) size (inn.drop (rd p o.f2)) (out ++ toS (p.f0.take (rd p o.f2))) wrote cut (3000 * (i + 1)) := by
          refine ⟨pok_rd hok o.f2, hsz, hct, by rw [toS_drop, heq], ?_, by omega⟩
          cases cut with
          | false =>
            refine ⟨inn.drop (rd p o.f2), ?_, fun _ => rfl⟩
            rw [toS_take, heq, List.append_assoc, List.take_append_drop, hw, hr rfl]
          | true =>
            refine ⟨rest, ?_, fun h => by cases h⟩
            rw [c hct]
            simp [toS, hw]
        exact j5qok (k := k + 4 * n + 1 + 1) hv' (by omega) (by have := ih (k + 1) (i + 1) _ _ _ _ _ hv' (by omega); rwa [show k + 1 + 4 * n + 1 = k + 4 * n + 1 + 1 by omega] at this)
      · rw [if_neg c3]
        simp only [pipe_Pipe_Cut.f, bnd1]
        have hv' : Inv (⟨[], p.f1, true⟩ : S36) size [] out wrote true (3000 * (i + 1)) :=
          ⟨⟨a, by dsimp only; simp; omega, fun _ => rfl⟩, hsz, rfl, rfl, ⟨rest, hw, fun h => by cases h⟩, by omega⟩
        exact j5qok (k := k + 4 * n + 1 + 1) hv' (by omega) (by have := ih (k + 1) (i + 1) _ _ _ _ _ hv' (by omega); rwa [show k + 1 + 4 * n + 1 = k + 4 * n + 1 + 1 by omega] at this)
theorem louverlaw26qPipePlays_true (p0 : Int) (p1 : List S32) (h0 : okI .i64 p0) (h1 : okL 40 ok32 p1) : ∃ k, louverlaw26qPipePlays.f k p0 p1 = some true := by
  refine ⟨4 * p1.length + 1 + 2, ?_⟩
  unfold louverlaw26qPipePlays.f
  rw [fixed_true]
  by_cases c : (p1.length : Int) > 300
  · rw [if_pos c]
    rfl
  rw [if_neg c]
  have key : ∀ size : Int, size = min (max p0 1) 1048576 → louverlaw26qPipePlays.j1 (4 * p1.length + 1 + 1) size p0 p1 = some true := by
    intro size hs
    rw [louverlaw26qPipePlays.j1]
    unfold pipe_New.f
    simp only [bnd1, mn_eq, mx_eq]
    have := plays_l2 p1 size (by omega) h1 (by omega) p1.length 0 0 ⟨[], min (max p0 1) 1048576, false⟩ [] [] [] false ⟨⟨by dsimp only; omega, by dsimp only; simp; omega, fun h => by cases h⟩, hs.symm, rfl, rfl, ⟨[], rfl, fun _ => rfl⟩, by simp⟩ (by omega)
    simpa using this
  have key0 : ∀ s : Int, min (max s 1) 1048576 = min (max p0 1) 1048576 → 1 ≤ s → louverlaw26qPipePlays.j0 (4 * p1.length + 1 + 2) s p0 p1 = some true := by
    intro s hs hs1
    rw [show 4 * p1.length + 1 + 2 = (4 * p1.length + 1 + 1) + 1 from rfl, louverlaw26qPipePlays.j0]
    split
    · exact key _ (by omega)
    · exact key _ (by omega)
  split
  · exact key0 1 (by omega) (by omega)
  · exact key0 p0 rfl (by omega)
end Go.Proofs.Ytolpimhkpnonnaa.Sl
