/- DERIVED. Layer 7 (walk): the law WalkFrom, as its row asks. -/
import Derived.Test.YtekdahppacghbabWkM
import Derived.Test.YtekdahppacghbabWkU
set_option linter.unusedVariables false
namespace Go.Proofs.Ytekdahppacghbab.Wk
open Go.RowKit Go.Proofs.Ytekdahppacghbab Go.Proofs.Ytekdahppacghbab.TreeP Go.Proofs.Ytekdahppacghbab.Tr

theorem u8_bds {a : Int} (h : (Lit.int .u8 a).wf = true) : 0 ≤ a ∧ a ≤ 255 := by
  simp [Lit.wf, IntKind.min, IntKind.max, IntKind.signed, IntKind.bits] at h
  omega
theorem from_row (v : Value) (a s few more : Int) (x : Nat × (Nat → Key)) (ha : (Lit.int .u64 a).wf = true) (hs : (Lit.int .u64 s).wf = true) (h1 : (Lit.int .u8 few).wf = true) (h2 : (Lit.int .u8 more).wf = true) (w : World) (ho : KOps2 w v x) :
    Calls Try.prog 8 #[v, .agg #[.int .u64 a, .int .u64 s], .int .u8 few, .int .u8 more] w fun e w' => e = .returned (.bool true) ∧ Ext w w' := by
  obtain ⟨f0, f1⟩ := u8_bds h1
  obtain ⟨m0, m1⟩ := u8_bds h2
  obtain ⟨n, rfl⟩ : ∃ n : Nat, few = (n : Int) := ⟨few.toNat, by omega⟩
  obtain ⟨m, rfl⟩ : ∃ n : Nat, more = (n : Int) := ⟨more.toNat, by omega⟩
  exact from_main awake_ok v x.1 x.2 a s n m (by omega) (by omega) w ho
end Go.Proofs.Ytekdahppacghbab.Wk
