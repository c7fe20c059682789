/- DERIVED. Layer 4 (arena): calls that came in, from their reading. -/
import Derived.Test.YtekdgghekdajbaaArTurn2
import Derived.Deep.Strs
set_option linter.unusedVariables false
set_option linter.unusedSimpArgs false
set_option maxRecDepth 100000
namespace Go.Proofs.Ytekdgghekdajbaa.Ar
open Go.RowKit Go.Proofs.Ytekdgghekdajbaa Go.WideShapes Go.ChangeShapes

instance : Inhabited Op := ⟨⟨0, 0, 0⟩⟩
section
variable {H : Type} {enc : TypeId × Value → H} {w : World}
theorem ops_of {v : Value} {d : DataW H} {ps : List MemPlace} (hv : ∃ a len cap, v = .slice a len cap)
    (h : DataW.Trod enc Try.prog w 0 (fun _ => true) true 22 v d ps) : ∃ l, Ops w v l := by
  obtain ⟨n, C, ⟨a, cap, hv', h1, h2, h3⟩, h4⟩ := came_of (P := Try.prog) (sz := 3) Try.underlying22 (by kernel_rfl) (by omega) hv h
  have hz : ∀ i, i < n → ∃ o : Op, o.ok ∧ C i 0 = .int .u8 o.kind ∧ C i 1 = .int .i64 o.n ∧ C i 2 = .int .u64 o.h := by
    intro i hi
    obtain ⟨m, x, hx⟩ := h4 i hi
    obtain ⟨y0, y1, y2, k, _, _, t0, t1, t2⟩ := Deep.trod_struct3 Try.underlying52 hx
    have e5 : Try.prog.cellsOf 5 = 1 := by kernel_rfl
    have e3 : Try.prog.cellsOf 3 = 1 := by kernel_rfl
    have e30 : Try.prog.cellsOf 30 = 1 := by kernel_rfl
    simp only [e5, e3, e30, List.range_succ, List.range_zero, List.nil_append, List.cons_append, List.map_cons, List.map_nil, List.drop_zero, List.drop_succ_cons, List.take_succ_cons, List.take_zero] at t0 t1 t2
    obtain ⟨z0, g0, _, w0⟩ := DataW.trod_int Try.underlying5 t0
    obtain ⟨z1, g1, _, w1⟩ := DataW.trod_int Try.underlying3 t1
    obtain ⟨z2, g2, _, w2⟩ := DataW.trod_int Try.underlying30 t2
    obtain ⟨l0, u0⟩ := u8_bd w0
    obtain ⟨l1, u1⟩ := i64_bd w1
    obtain ⟨l2, u2⟩ := u64_bd w2
    simp only [List.cons.injEq, and_true] at g0 g1 g2
    refine ⟨⟨z0.toNat, z1, z2.toNat⟩, ⟨by simp only; omega, l1, u1, by simp only; omega⟩, ?_, g1, ?_⟩
    · rw [g0, Int.toNat_of_nonneg l0]
    · rw [g2, Int.toNat_of_nonneg l2]
  obtain ⟨f, hf⟩ := Deep.choose_lt (α := Op) (p := fun i o => o.ok ∧ C i 0 = .int .u8 o.kind ∧ C i 1 = .int .i64 o.n ∧ C i 2 = .int .u64 o.h) hz
  refine ⟨(List.range n).map f, a, cap, by simpa using hv', by simpa using h1, h2, fun hp => ?_⟩
  obtain ⟨b, off, rfl, hb, hcell⟩ := h3 (by simpa using hp)
  refine ⟨b, off, rfl, hb, fun i o ho => ?_⟩
  have hi : i < n := by have := (List.getElem?_eq_some_iff.1 ho).1; simpa using this
  rw [List.getElem?_map, List.getElem?_range hi] at ho
  simp only [Option.map_some, Option.some.injEq] at ho
  subst ho
  obtain ⟨k0, k1, k2, k3⟩ := hf i hi
  refine ⟨k0, ?_, ?_, ?_⟩
  · have := hcell i 0 hi (by omega)
    rw [k1] at this
    exact this
  · have := hcell i 1 hi (by omega)
    rw [k2] at this
    exact this
  · have := hcell i 2 hi (by omega)
    rw [k3] at this
    exact this
theorem bytes_of_try {v : Value} {d : DataW H} {ps : List MemPlace} (hv : ∃ a len cap, v = .slice a len cap)
    (h : DataW.Trod enc Try.prog w 0 (fun _ => true) true 40 v d ps) : ∃ l, Bytes w v l := bytes_of Try.underlying40 Try.underlying5 (by kernel_rfl) hv h
end
end Go.Proofs.Ytekdgghekdajbaa.Ar
