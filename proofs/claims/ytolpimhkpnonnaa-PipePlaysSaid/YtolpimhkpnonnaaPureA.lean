/- Chapter 26, plain: the pipe. -/
import Derived.Test.YtolpimhkpnonnaaCode1
import Derived.Test.YtolpimhkpnonnaaSlP
set_option linter.unusedVariables false
set_option linter.unusedSimpArgs false
namespace Go.Proofs.Ytolpimhkpnonnaa.Sl
open Go Go.Proofs.Sl

theorem mn_eq (x y : Int) : mnI x y = min x y := by unfold mnI; split <;> omega
theorem mx_eq (x y : Int) : mxI x y = max x y := by unfold mxI; split <;> omega
theorem fixed_true : louverlaw26qfixed.f = some true := by rfl
theorem louverlaw26qPipeNil_true (p0 : List Int) (p1 : Int) (h0 : okL 1 (okI .u8) p0) (h1 : okI .i64 p1) : louverlaw26qPipeNil.f p0 p1 = some true := by
  unfold louverlaw26qPipeNil.f pipe_Pipe_Write_nil.f pipe_Pipe_Read_nil.f
  rw [fixed_true]
  simp only [pipe_Pipe_Cut_nil.f, pipe_Pipe_Room_nil.f, pipe_Pipe_IsCut_nil.f, pipe_Pipe_Len_nil.f, bnd1, mn_eq, mx_eq]
  have e1 : min (p0.length : Int) 0 = 0 := by omega
  have e2 : min (0 : Int) (max p1 1) = 0 := by omega
  simp [e1, e2]
/-- What the pipe takes, what it gives. -/
def wr (p : S36) (b : List Int) : Nat := if p.f2 = true then 0 else min b.length (p.f1.toNat - p.f0.length)
structure Pok (p : S36) : Prop where
  a : 1 ≤ p.f1 ∧ p.f1 ≤ 1048576
  b : (p.f0.length : Int) ≤ p.f1
  c : p.f2 = true → p.f0 = []
theorem room_f (p : S36) (h : Pok p) : pipe_Pipe_Room.f p = some (if p.f2 = true then 0 else p.f1 - p.f0.length) := by
  obtain ⟨a, b, c⟩ := h
  unfold pipe_Pipe_Room.f pipe_Pipe_IsCut.f
  simp only [bnd1]
  split
  · rfl
  · rw [wi64 (by omega) (by omega)]
theorem write_f (p : S36) (b : List Int) (h : Pok p) : pipe_Pipe_Write.f p b = some ((wr p b : Int), (⟨p.f0 ++ b.take (wr p b), p.f1, p.f2⟩ : S36)) := by
  obtain ⟨a, hb, c⟩ := id h
  unfold pipe_Pipe_Write.f
  rw [room_f p h]
  simp only [bnd1, mn_eq]
  have e : min (b.length : Int) (if p.f2 = true then 0 else p.f1 - p.f0.length) = (wr p b : Int) := by
    unfold wr
    split <;> omega
  rw [e]
  by_cases hz : wr p b = 0
  · rw [hz, if_neg (by omega)]
    simp
  · have hle : wr p b ≤ b.length ∧ p.f0.length + wr p b ≤ 1048576 := by
      unfold wr at hz ⊢
      split at hz
      · omega
      · rw [if_neg (by assumption)]
        omega
    rw [if_pos (by omega), if_pos (by omega), if_pos (by omega), Int.toNat_natCast, if_pos (by simp; omega)]
    rfl
def rd (p : S36) (n : Int) : Nat := min p.f0.length (max n 1).toNat
theorem clone_f {p : List Int} (h : p.length ≤ 140737488355328) : bytes_Clone.f p = some p := by
  unfold bytes_Clone.f
  rw [if_pos (by simpa using h)]
  rfl
theorem read_f (p : S36) (n : Int) (h : Pok p) : pipe_Pipe_Read.f p n = some (p.f0.take (rd p n), (⟨p.f0.drop (rd p n), p.f1, p.f2⟩ : S36)) := by
  obtain ⟨a, hb, c⟩ := id h
  unfold pipe_Pipe_Read.f pipe_Pipe_Len.f
  simp only [bnd1, mn_eq, mx_eq]
  have e : min (p.f0.length : Int) (max n 1) = (rd p n : Int) := by
    unfold rd
    omega
  rw [e]
  by_cases hz : rd p n = 0
  · rw [hz, if_pos (by omega)]
    simp
  · have hle : rd p n ≤ p.f0.length := by
      unfold rd
      omega
    rw [if_neg (by omega), if_pos (by omega), if_pos (by omega), Int.toNat_natCast, clone_f (by simp; omega), clone_f (by simp; omega)]
end Go.Proofs.Ytolpimhkpnonnaa.Sl
