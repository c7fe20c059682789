/- DERIVED. Layer 6 (tree): contracts of Next, order, All. -/
import Derived.Test.YtlficiohenpghaaTrK
set_option linter.unusedVariables false
set_option linter.unusedSimpArgs false
set_option maxRecDepth 100000
namespace Go.Proofs.Ytlficiohenpghaa.Tr
open Go.RowKit Go.Proofs.Ytlficiohenpghaa Go.Proofs.Ytlficiohenpghaa.TreeP

def NI (p g cap : Nat) (fr : Value) (many room N : Nat) (S : TS) (kb : Nat) (a s : Int) (w0 : World) (y : Nat) (best x : Value) (wr : World) (k : Nat) : Prop :=
  ∃ x' b' : Nat, x = .int .i64 (x' : Int) ∧ best = .int .i64 (b' : Int) ∧ TW p g cap fr many room S wr ∧ Ext ((w0.alloc (.cells #[.int .u64 a, .int .u64 s] 30)).alloc (.cells #[.int .u64 0, .int .u64 0, .int .i64 0] 32)) wr ∧ x' < N ∧
    wr.cell? ⟨kb, 0, none⟩ = some (.int .u64 a) ∧ wr.cell? ⟨kb, 1, none⟩ = some (.int .u64 s) ∧ TreeP.nextN k S (a, s) x' b' = some y ∧ kb = w0.heap.size
section
variable {p g cap many room : Nat} {fr : Value} {S : TS} {w : World}
end
end Go.Proofs.Ytlficiohenpghaa.Tr
