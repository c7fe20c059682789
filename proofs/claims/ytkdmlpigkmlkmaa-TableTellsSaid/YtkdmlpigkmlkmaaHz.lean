/- DERIVED. Contracts of layers 1 and 20 (sat.Add, sat.Sub, horizon). -/
import Derived.Test.YtkdmlpigkmlkmaaBase
import Derived.WalkKit
import Derived.Lib.Hide
import Derived.WalkLawsBesides
import Derived.Laws.Externs
set_option linter.unusedVariables false
set_option linter.unusedSimpArgs false
namespace Go.Proofs.Ytkdmlpigkmlkmaa.Hz
open Go.RowKit

theorem run_add (a b : Int) (ha : 0 ≤ a) (hb : 0 ≤ b) (w : World) : (callFunc 61 #[.int .u64 a, .int .u64 b, .int .u64 0]).run Try.prog w =
    .ok (.value (.tuple #[.int .u64 ((a + b) % 18446744073709551616), .int .u64 ((a + b) / 18446744073709551616)])) w := by
  rw [run_callFunc_extern (fn := Try.f61) Try.func61 (by kernel_rfl) (by kernel_rfl) (by kernel_rfl) (e := add64Entry) (by kernel_rfl), run_add64 a b 0 ha hb (by omega) (by omega)]
  simp only [Result.andThen, Int.add_zero]
def sat (a b : Int) : Int := if a + b ≤ 18446744073709551615 then a + b else 18446744073709551615
theorem sat_add (a b : Int) (w : World) (ha : 0 ≤ a) (ha' : a ≤ 18446744073709551615) (hb : 0 ≤ b) (hb' : b ≤ 18446744073709551615) :
    Calls Try.prog 24 #[.int .u64 a, .int .u64 b] w fun e w' => e = .returned (.int .u64 (sat a b)) ∧ w = w' := by
  unfold sat
  by_cases h1 : a + b ≤ 18446744073709551615
  · have e1 : (a + b) % 18446744073709551616 = a + b := by omega
    have e2 : (a + b) / 18446744073709551616 = 0 := by omega
    have hr : ∀ w, (callFunc 61 #[.int .u64 a, .int .u64 b, .int .u64 0]).run Try.prog w = .ok (.value (.tuple #[.int .u64 (a + b), .int .u64 0])) w := by
      intro w; rw [run_add a b ha hb, e1, e2]
    rw [if_pos h1]
    clear e1 e2
    go_enter Try.func24, Try.ntmps24
    go_wp2
    go_ret
    exact ⟨rfl, rfl⟩
  · have e2 : (a + b) / 18446744073709551616 = 1 := by omega
    have hr : ∀ w, (callFunc 61 #[.int .u64 a, .int .u64 b, .int .u64 0]).run Try.prog w = .ok (.value (.tuple #[.int .u64 ((a + b) % 18446744073709551616), .int .u64 1])) w := by
      intro w; rw [run_add a b ha hb, e2]
    rw [if_neg h1]
    clear e2
    go_enter Try.func24, Try.ntmps24
    go_wp2
    go_ret
    exact ⟨rfl, rfl⟩
theorem sat_bd (a b : Int) (ha : 0 ≤ a) (hb : 0 ≤ b) : 0 ≤ sat a b ∧ sat a b ≤ 18446744073709551615 := by unfold sat; split <;> omega
end Go.Proofs.Ytkdmlpigkmlkmaa.Hz
