/- DERIVED. Layer 19 (delay): bytes that came in, from their reading. -/
import Derived.Test.YtlficiohenpghabDyP
set_option linter.unusedVariables false
namespace Go.Proofs.Ytlficiohenpghab.Dy
open Go.RowKit Go.Proofs.Ytlficiohenpghab Go.WideShapes Go.ChangeShapes
theorem bytes_try {H : Type} {enc : TypeId × Value → H} {w : World} {v : Value} {d : DataW H} {ps : List MemPlace} (hv : ∃ a len cap, v = .slice a len cap)
    (h : DataW.Trod enc Try.prog w 0 (fun _ => true) true 55 v d ps) : ∃ l, Bytes w v l := bytes_of Try.underlying55 Try.underlying5 (by kernel_rfl) hv h
end Go.Proofs.Ytlficiohenpghab.Dy
