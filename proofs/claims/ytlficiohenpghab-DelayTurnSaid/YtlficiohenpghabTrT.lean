/- DERIVED. Layer 6 (tree): contract of All. -/
import Derived.Test.YtlficiohenpghabTrS
set_option linter.unusedVariables false
set_option linter.unusedSimpArgs false
set_option maxRecDepth 100000
namespace Go.Proofs.Ytlficiohenpghab.Tr
open Go.RowKit Go.Proofs.Ytlficiohenpghab Go.Proofs.Ytlficiohenpghab.TreeP

def ec (e : En) : List Value := [.int .u64 e.1.1, .int .u64 e.1.2, .int .i64 e.2]
/-- entries, as a row of them lies in memory -/
def ents : List En → List Value
  | [] => []
  | e :: l => ec e ++ ents l
theorem ents_append : ∀ l m : List En, ents (l ++ m) = ents l ++ ents m
  | [], m => rfl
  | e :: l, m => by rw [List.cons_append, ents, ents, ents_append l m, List.append_assoc]
theorem ents_len : ∀ l : List En, (ents l).length = l.length * 3
  | [] => rfl
  | e :: l => by rw [ents, List.length_append, ents_len l, List.length_cons]; simp [ec]; omega
theorem infoEntry : (Try.prog.info? 78).map (fun i => (i.zero, i.size, i.bytes)) = some (some (.agg #[.int .u64 0, .int .u64 0, .int .i64 0]), 3, 24) := by kernel_rfl
def AI (l0 : List HP) (v : Value) (ids : List Nat) (E : List En) (vo vi : Value) (wr : World) : Prop :=
  ∃ k : Nat, vi = .int .i64 (k : Int) ∧ k ≤ ids.length ∧ Own (Row 78 3 vo k (ents (E.take k)) :: Row 3 1 v ids.length (ints ids) :: l0) wr
end Go.Proofs.Ytlficiohenpghab.Tr
