/- louverlaw13qTurnsNil_true, plain: what the program's functions compute answers as the statement says. -/
import Derived.Test.YtikfpmieadfllaaCodeTurnsNil2
import Derived.Test.YtikfpmieadfllaaSlP
import Derived.KernelRfl
set_option linter.unusedVariables false
set_option linter.unusedSimpArgs false
namespace Go.Proofs.Ytikfpmieadfllaa.Sl
open Go Go.Proofs.Sl
theorem louverlaw13qTurnsNil_true (p0 : Int) (p1 : List Int) (p2 : Int) (h0 : okI .u32 p0) (h1 : okL 1 (okI .u8) p1) (h2 : okI .u32 p2) : ∃ k, louverlaw13qTurnsNil.f k p0 p1 p2 = some true := ⟨20, by kernel_rfl⟩
end Go.Proofs.Ytikfpmieadfllaa.Sl
