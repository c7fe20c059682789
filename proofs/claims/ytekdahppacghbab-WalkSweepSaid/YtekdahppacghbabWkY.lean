/- DERIVED. Layer 7 (walk): the law WalkSweep, as its row asks. -/
import Derived.Test.YtekdahppacghbabWkX
set_option linter.unusedVariables false
namespace Go.Proofs.Ytekdahppacghbab.Wk
open Go.RowKit Go.Proofs.Ytekdahppacghbab Go.Proofs.Ytekdahppacghbab.TreeP Go.Proofs.Ytekdahppacghbab.Tr

theorem sw_u8 {a : Int} (h : (Lit.int .u8 a).wf = true) : 0 ≤ a ∧ a ≤ 255 := by
  simp [Lit.wf, IntKind.min, IntKind.max, IntKind.signed, IntKind.bits] at h
  omega
theorem sweep_row (v : Value) (a s ns : Int) (x : Nat × (Nat → Key)) (ha : (Lit.int .u64 a).wf = true) (hs : (Lit.int .u64 s).wf = true) (h2 : (Lit.int .u8 ns).wf = true) (w : World) (ho : KOps2 w v x) :
    Calls Try.prog 5 #[v, .agg #[.int .u64 a, .int .u64 s], .int .u8 ns] w fun e w' => e = .returned (.bool true) ∧ Ext w w' :=
  sweep_main awake_ok v x.1 x.2 a s ns (sw_u8 h2).1 (sw_u8 h2).2 w ho
end Go.Proofs.Ytekdahppacghbab.Wk
