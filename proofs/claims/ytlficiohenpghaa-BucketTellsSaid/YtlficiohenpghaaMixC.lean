/- DERIVED. Contracts of layer 3 (mix): buckets, the chapter's examples; the laws that do not ask the reference. -/
import Derived.Test.YtlficiohenpghaaMixB
set_option linter.unusedVariables false
set_option linter.unusedSimpArgs false
namespace Go.Proofs.Ytlficiohenpghaa.Mx
open Go.RowKit Go.Proofs.Ytlficiohenpghaa

theorem bucket_no (X : Nat) (n : Int) (h : n < 0 ∨ 16 < n) (w : World) : Calls Try.prog 13 #[.int .u64 X, .int .i64 n] w fun e w' => e = .returned (.int .i64 (-1)) ∧ w = w' := by
  by_cases h0 : n < 0
  · clear h
    go_enter Try.func13, Try.ntmps13
    go_wp2
    go_ret
    exact ⟨rfl, rfl⟩
  · have h1 : 16 < n := by omega
    clear h
    go_enter Try.func13, Try.ntmps13
    go_wp2
    go_ret
    exact ⟨rfl, rfl⟩
theorem ret_i64 {a b : Int} (h : a = b) : Ending.returned (.int .i64 a) = .returned (.int .i64 b) := by rw [h]
theorem bucket_lt (X n : Nat) (hn : n ≤ 16) : MixP.mix X / 2 ^ (64 - n) < 2 ^ n := by
  refine Nat.div_lt_of_lt_mul ?_
  rw [← Nat.pow_add, show 64 - n + n = 64 from by omega]
  exact MixP.mix_lt X
/-- a number's bucket -/
def bk (X n : Nat) : Nat := MixP.mix X / 2 ^ (64 - n)
theorem bucket_any (X n : Nat) (h : X < MixP.M) (hn : n ≤ 16) (w : World) : Calls Try.prog 13 #[.int .u64 X, .int .i64 n] w fun e w' => e = .returned (.int .i64 ((bk X n : Nat) : Int)) ∧ Ext w w' := by
  unfold bk
  go_enter Try.func13, Try.ntmps13
  go_wp2_with fail
  refine (mix_any _ h _).mono ?_
  rintro e w1 ⟨rfl, g1⟩
  go_wp2
  go_ret
  refine ⟨?_, g1⟩
  have hlt := bucket_lt X n hn
  have hle : 2 ^ n ≤ 65536 := Nat.pow_le_pow_right (by omega) hn
  refine ret_i64 ?_
  have e : ((MixP.mix X : Nat) : Int) / 2 ^ (64 - n) = ((MixP.mix X / 2 ^ (64 - n) : Nat) : Int) := by simp
  rw [e]
  generalize MixP.mix X / 2 ^ (64 - n) = q at hlt
  unfold wrap64
  omega
end Go.Proofs.Ytlficiohenpghaa.Mx
