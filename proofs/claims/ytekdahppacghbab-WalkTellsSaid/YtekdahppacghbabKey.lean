/- DERIVED. A key that came in, by value: what it is. -/
import Derived.Test.YtekdahppacghbabBase
import Derived.Lib.SmallJoins
set_option linter.unusedVariables false
set_option linter.unusedSimpArgs false
namespace Go.Proofs.Ytekdahppacghbab.Tr
open Go.RowKit Go.Proofs.Ytekdahppacghbab Go.ChangeShapes Go.WideShapes
theorem key_of {H : Type} {enc : TypeId × Value → H} {w : World} {r : Reach} {b0 base : Nat} {spare : Nat → Bool} {held : Bool} {v : Value} {d : DataW H} {p : List MemPlace}
    (hv : Value.okWide Try.prog w r b0 24 v) (h : DataW.Trod enc Try.prog w base spare held 24 v d p) :
    ∃ a s, v = .agg #[.int .u64 a, .int .u64 s] ∧ p = [] ∧ (Lit.int .u64 a).wf = true ∧ (Lit.int .u64 s).wf = true := by
  obtain ⟨v0, v1, y0, y1, n, rfl, _, rfl, h0, h1⟩ := Joins.open_agg2 Try.underlying24 (by kernel_rfl) (by kernel_rfl) hv h
  obtain ⟨a, ha, hx, wa⟩ := DataW.trod_int Try.underlying22 h0
  obtain ⟨s, hs, hy, ws⟩ := DataW.trod_int Try.underlying22 h1
  injection ha with ha
  injection hs with hs
  exact ⟨a, s, by rw [ha, hs], by rw [hx, hy]; rfl, wa, ws⟩
end Go.Proofs.Ytekdahppacghbab.Tr
