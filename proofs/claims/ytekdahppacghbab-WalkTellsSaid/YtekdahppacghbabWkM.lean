/- DERIVED. Layer 7 (walk): the law WalkNone. -/
import Derived.Test.YtekdahppacghbabWkG
import Derived.Test.YtekdahppacghbabWkL
set_option linter.unusedVariables false
namespace Go.Proofs.Ytekdahppacghbab.Wk
open Go.RowKit Go.Proofs.Ytekdahppacghbab Go.Proofs.Ytekdahppacghbab.TreeP Go.Proofs.Ytekdahppacghbab.Tr

theorem awake_ok : Awake := fun _ _ h => awake_any h
theorem none_of (x s n : Int) (hx : (Lit.int .u64 x).wf = true) (hs : (Lit.int .u64 s).wf = true) (hn : (Lit.int .i64 n).wf = true) (w : World) :
    Calls Try.prog 3 #[.agg #[.int .u64 x, .int .u64 s], .int .i64 n] w fun e w' => e = .returned (.bool true) ∧ Ext w w' :=
  none_main awake_ok x s n (by have := i64_bd hn; omega) (by have := i64_bd hn; omega) w
end Go.Proofs.Ytekdahppacghbab.Wk
