/- DERIVED. Layer 6 (tree): calls that came in, from their reading; TreeNext as its row takes it. -/
import Derived.Test.YtekdahppacghbaaTrV
import Derived.Test.YtekdahppacghbaaKey
import Derived.Deep.Strs
set_option linter.unusedVariables false
set_option linter.unusedSimpArgs false
set_option maxRecDepth 100000
namespace Go.Proofs.Ytekdahppacghbaa.Tr
open Go.RowKit Go.Proofs.Ytekdahppacghbaa Go.WideShapes Go.ChangeShapes Go.ChangeAt

instance : Inhabited Op := ⟨⟨0, 0, 0, 0⟩⟩
/-- n calls, the count and the calls in one -/
def Ops2 (W : World) (v : Value) (x : Nat × (Nat → Op)) : Prop := Ops W v x.1 x.2
section
variable {H : Type} {enc : TypeId × Value → H} {w : World}
theorem ops_of {v : Value} {d : DataW H} {ps : List MemPlace} (hv : ∃ a len cap, v = .slice a len cap)
    (h : DataW.Trod enc Try.prog w 0 (fun _ => true) true 22 v d ps) : ∃ x, Ops2 w v x := by
  obtain ⟨n, C, ⟨a, cap, hv', h1, h2, h3⟩, h4⟩ := came_of (P := Try.prog) (sz := 4) Try.underlying22 (by kernel_rfl) (by omega) hv h
  have hz : ∀ i, i < n → ∃ o : Op, C i 0 = .int .u8 o.kind ∧ C i 1 = .int .u64 o.a ∧ C i 2 = .int .u64 o.s ∧ C i 3 = .int .i64 o.v := by
    intro i hi
    obtain ⟨m, x, hx⟩ := h4 i hi
    obtain ⟨y0, y1, y2, k, _, _, t0, t1, t2⟩ := Deep.trod_struct3 Try.underlying52 hx
    have e5 : Try.prog.cellsOf 5 = 1 := by kernel_rfl
    have ek : Try.prog.cellsOf 25 = 2 := by kernel_rfl
    have e3 : Try.prog.cellsOf 3 = 1 := by kernel_rfl
    have e30 : Try.prog.cellsOf 23 = 1 := by kernel_rfl
    simp only [e5, e3, ek, List.range_succ, List.range_zero, List.nil_append, List.cons_append, List.map_cons, List.map_nil, List.drop_zero, List.drop_succ_cons, List.take_succ_cons, List.take_zero] at t0 t1 t2
    obtain ⟨z0, g0, _, w0⟩ := DataW.trod_int Try.underlying5 t0
    obtain ⟨z3, g3, _, w3⟩ := DataW.trod_int Try.underlying3 t2
    cases k with
    | zero => exact absurd t1 (by simp [DataW.trod])
    | succ k =>
    obtain ⟨b0, b1, k', _, _, s0, s1⟩ := trod_struct2 Try.underlying25 t1
    simp only [e30, List.drop_zero, List.drop_succ_cons, List.take_succ_cons, List.take_zero] at s0 s1
    obtain ⟨z1, g1, _, w1⟩ := DataW.trod_int Try.underlying23 s0
    obtain ⟨z2, g2, _, w2⟩ := DataW.trod_int Try.underlying23 s1
    simp only [List.cons.injEq, and_true] at g0 g1 g2 g3
    exact ⟨⟨z0, z1, z2, z3⟩, g0, g1, g2, g3⟩
  obtain ⟨f, hf⟩ := Deep.choose_lt (α := Op) (p := fun i o => C i 0 = .int .u8 o.kind ∧ C i 1 = .int .u64 o.a ∧ C i 2 = .int .u64 o.s ∧ C i 3 = .int .i64 o.v) hz
  refine ⟨(n, f), a, cap, hv', h1, h2, fun hp => ?_⟩
  obtain ⟨b, off, rfl, hb, hcell⟩ := h3 hp
  refine ⟨b, off, rfl, hb, fun i c hi hc => ?_⟩
  obtain ⟨k0, k1, k2, k3⟩ := hf i hi
  have := hcell i c hi hc
  rcases c with _ | _ | _ | _ | c
  · rw [k0] at this; exact this
  · rw [k1] at this; exact this
  · rw [k2] at this; exact this
  · rw [k3] at this; exact this
  · omega
end
theorem next_row (v : Value) (q1 q2 : Int) (x : Nat × (Nat → Op)) (wf1 : (Lit.int .u64 q1).wf = true) (wf2 : (Lit.int .u64 q2).wf = true) (w : World) (ho : Ops2 w v x) :
    Calls Try.prog 3 #[v, .agg #[.int .u64 q1, .int .u64 q2]] w fun e w' => e = .returned (.bool true) ∧ Ext w w' :=
  next_of v q1 q2 x.1 x.2 wf1 wf2 w ho
end Go.Proofs.Ytekdahppacghbaa.Tr
