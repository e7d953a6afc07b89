/- A pointer to a thing of one's own, in a field, where the place that it points to is known. -/
import Derived.Test.YtikfpmieadfllaaSlV
set_option linter.unusedVariables false
set_option linter.unusedSimpArgs false
namespace Go.Proofs.Sl
open Go Go.RowKit
abbrev PtrAt {α : Type} (g : Nat) (d : Kd α) (T : Nat) (b : Nat) (w0 : World) (R : Frag) (v : Value) (x : α) (M : Frag) : Prop := Ptr d T b w0 R v x M ∧ v = .pointer (some ⟨g, 0, none⟩)
def kAtPtr {α : Type} (g : Nat) (d : Kd α) (T : Nat) : Kd α where
  sz := 1
  rd := (kPtr d T).rd
  rep := fun b w0 R x cs M => ∃ v, cs = [v] ∧ PtrAt g d T b w0 R v x M
  rd_len := (kPtr d T).rd_len
  rep_len := fun h => (kPtr d T).rep_len ⟨h.choose, h.choose_spec.1, h.choose_spec.2.1⟩
  rd_one := (kPtr d T).rd_one
  rep_one := fun h => (kPtr d T).rep_one ⟨h.choose, h.choose_spec.1, h.choose_spec.2.1⟩
  rd_mono := (kPtr d T).rd_mono
  rep_mono := by rintro _ _ _ _ _ _ _ hs ⟨v, rfl, h, hv⟩; exact ⟨v, rfl, h.mono hs, hv⟩
  rep_rd := fun h => (kPtr d T).rep_rd ⟨h.choose, h.choose_spec.1, h.choose_spec.2.1⟩
end Go.Proofs.Sl
