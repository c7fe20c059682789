/- DERIVED. Layer 7 (walk): the laws WalkTake and WalkThrough, as their rows ask. -/
import Derived.Test.YtekdahppacghbabWkM
import Derived.Test.YtekdahppacghbabWkO
import Derived.Test.YtekdahppacghbabWkR
set_option linter.unusedVariables false
namespace Go.Proofs.Ytekdahppacghbab.Wk
open Go.RowKit Go.Proofs.Ytekdahppacghbab Go.Proofs.Ytekdahppacghbab.TreeP Go.Proofs.Ytekdahppacghbab.Tr Go.WideShapes Go.ChangeShapes

theorem bytes_try {H : Type} {enc : TypeId × Value → H} {w : World} {v : Value} {d : DataW H} {ps : List MemPlace} (hv : ∃ a len cap, v = .slice a len cap)
    (h : DataW.Trod enc Try.prog w 0 (fun _ => true) true 60 v d ps) : ∃ l, Bytes w v l := bytes_of Try.underlying60 Try.underlying5 (by kernel_rfl) hv h
theorem take_row (v : Value) (at' : Int) (sv : Value) (x : Nat × (Nat → Key)) (B : List Nat) (hw : (Lit.int .u64 at').wf = true) (w : World) (ho : KOps2 w v x) (hB : Bytes w sv B) :
    Calls Try.prog 7 #[v, .int .u64 at', sv] w fun e w' => e = .returned (.bool true) ∧ Ext w w' :=
  take_main awake_ok v x.1 x.2 at' sv B w ho hB
theorem u8_of {a : Int} (h : (Lit.int .u8 a).wf = true) : 0 ≤ a ∧ a ≤ 255 := by
  simp [Lit.wf, IntKind.min, IntKind.max, IntKind.signed, IntKind.bits] at h
  omega
theorem through_row (v : Value) (which : Int) (v2 : Value) (ns : Int) (x y : Nat × (Nat → Key)) (h1 : (Lit.int .u8 which).wf = true) (h2 : (Lit.int .u8 ns).wf = true) (w : World) (ho : KOps2 w v x) (ho2 : KOps2 w v2 y) :
    Calls Try.prog 6 #[v, .int .u8 which, v2, .int .u8 ns] w fun e w' => e = .returned (.bool true) ∧ Ext w w' :=
  through_main awake_ok v x.1 x.2 which v2 y.1 y.2 ns (u8_of h1).1 (u8_of h1).2 (u8_of h2).1 (u8_of h2).2 w ho ho2
end Go.Proofs.Ytekdahppacghbab.Wk
