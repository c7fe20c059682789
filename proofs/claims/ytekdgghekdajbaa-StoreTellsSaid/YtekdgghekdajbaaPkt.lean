/- DERIVED. A packet that came in, by value: what it is. -/
import Derived.Test.YtekdgghekdajbaaBase
import Derived.Lib.SmallJoins
set_option linter.unusedVariables false
set_option linter.unusedSimpArgs false
set_option maxRecDepth 100000
namespace Go.Proofs.Ytekdgghekdajbaa.St
open Go.RowKit Go.Proofs.Ytekdgghekdajbaa Go.ChangeShapes Go.WideShapes
theorem five {α : Type} {cs : Array α} (h : cs.size = 5) : ∃ c0 c1 c2 c3 c4, cs = #[c0, c1, c2, c3, c4] := by
  obtain ⟨l⟩ := cs
  match l, h with
  | [c0, c1, c2, c3, c4], _ => exact ⟨c0, c1, c2, c3, c4, rfl⟩
theorem fiveL {α : Type} {cs : List α} (h : cs.length = 5) : ∃ c0 c1 c2 c3 c4, cs = [c0, c1, c2, c3, c4] := by
  match cs, h with
  | [c0, c1, c2, c3, c4], _ => exact ⟨c0, c1, c2, c3, c4, rfl⟩
/-- one whole number of a struct's cells -/
theorem int_at {H : Type} {enc : TypeId × Value → H} {P : Program} {w : World} {base n : Nat} {spare : Nat → Bool} {held : Bool} {t : TypeId} {k : IntKind} {c : Value} {y : DataW H × List MemPlace} (ht : P.underlying t = some (.int k)) (h : DataW.trod enc P w base spare held n t [c] = some y) :
    ∃ a, c = .int k a ∧ y.2 = [] ∧ (Lit.int k a).wf = true := by
  obtain ⟨a, ha, hx, wa⟩ := DataW.trod_int ht h
  injection ha with ha
  exact ⟨a, ha, by rw [hx], wa⟩
theorem packet_of {H : Type} {enc : TypeId × Value → H} {w : World} {r : Reach} {b0 base : Nat} {spare : Nat → Bool} {held : Bool} {v : Value} {d : DataW H} {p : List MemPlace}
    (hv : Value.okWide Try.prog w r b0 69 v) (h : DataW.Trod enc Try.prog w base spare held 69 v d p) :
    ∃ k c len pr at_, v = .agg #[.int .u64 k, .int .u64 c, .int .i64 len, .int .u8 pr, .int .u64 at_] ∧ p = [] ∧ (Lit.int .u64 k).wf = true ∧ (Lit.int .u64 c).wf = true ∧ (Lit.int .i64 len).wf = true ∧ (Lit.int .u8 pr).wf = true ∧ (Lit.int .u64 at_).wf = true := by
  obtain ⟨cs, rfl, hsz⟩ := okWide_struct Try.underlying69 hv
  obtain ⟨c0, c1, c2, c3, c4, rfl⟩ := five (hsz.trans (by kernel_rfl))
  obtain ⟨fuel, hf⟩ := h
  obtain ⟨xs, n, _, hx, _, hlen, hg⟩ := DataW.trod_struct Try.underlying69 hf
  obtain ⟨y0, y1, y2, y3, y4, rfl⟩ := fiveL (show xs.length = 5 from hlen)
  simp only [Prod.mk.injEq] at hx
  have q8 : Try.prog.cellsOf 30 = 1 := by kernel_rfl
  have q3 : Try.prog.cellsOf 3 = 1 := by kernel_rfl
  have q5 : Try.prog.cellsOf 5 = 1 := by kernel_rfl
  obtain ⟨a0, rfl, e0, w0⟩ := int_at (c := c0) Try.underlying30 (by simpa [Value.cells, q8] using hg 0 _ rfl)
  obtain ⟨a1, rfl, e1, w1⟩ := int_at (c := c1) Try.underlying30 (by simpa [Value.cells, q8] using hg 1 _ rfl)
  obtain ⟨a2, rfl, e2, w2⟩ := int_at (c := c2) Try.underlying3 (by simpa [Value.cells, q3] using hg 2 _ rfl)
  obtain ⟨a3, rfl, e3, w3⟩ := int_at (c := c3) Try.underlying5 (by simpa [Value.cells, q5] using hg 3 _ rfl)
  obtain ⟨a4, rfl, e4, w4⟩ := int_at (c := c4) Try.underlying30 (by simpa [Value.cells, q8] using hg 4 _ rfl)
  exact ⟨a0, a1, a2, a3, a4, rfl, by rw [hx.2]; simp [e0, e1, e2, e3, e4], w0, w1, w2, w3, w4⟩
end Go.Proofs.Ytekdgghekdajbaa.St
