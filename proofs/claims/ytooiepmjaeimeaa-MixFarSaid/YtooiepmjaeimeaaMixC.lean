/- DERIVED. Contracts of layer 3 (mix): buckets, the chapter's examples; the laws that do not ask the reference. -/
import Derived.Test.YtooiepmjaeimeaaMixB
set_option linter.unusedVariables false
set_option linter.unusedSimpArgs false
namespace Go.Proofs.Ytooiepmjaeimeaa.Mx
open Go.RowKit Go.Proofs.Ytooiepmjaeimeaa

theorem bucket_no (X : Nat) (n : Int) (h : n < 0 ∨ 16 < n) (w : World) : Calls Try.prog 27 #[.int .u64 X, .int .i64 n] w fun e w' => e = .returned (.int .i64 (-1)) ∧ w = w' := by
  by_cases h0 : n < 0
  · clear h
    go_enter Try.func27, Try.ntmps27
    go_wp2
    go_ret
    exact ⟨rfl, rfl⟩
  · have h1 : 16 < n := by omega
    clear h
    go_enter Try.func27, Try.ntmps27
    go_wp2
    go_ret
    exact ⟨rfl, rfl⟩
theorem ret_i64 {a b : Int} (h : a = b) : Ending.returned (.int .i64 a) = .returned (.int .i64 b) := by rw [h]
theorem bucket_lt (X n : Nat) (hn : n ≤ 16) : MixP.mix X / 2 ^ (64 - n) < 2 ^ n := by
  refine Nat.div_lt_of_lt_mul ?_
  rw [← Nat.pow_add, show 64 - n + n = 64 from by omega]
  exact MixP.mix_lt X
/-- a number's bucket -/
def bk (X n : Nat) : Nat := MixP.mix X / 2 ^ (64 - n)
theorem bucket_any (X n : Nat) (h : X < MixP.M) (hn : n ≤ 16) (w : World) : Calls Try.prog 27 #[.int .u64 X, .int .i64 n] w fun e w' => e = .returned (.int .i64 ((bk X n : Nat) : Int)) ∧ Ext w w' := by
  unfold bk
  go_enter Try.func27, Try.ntmps27
  go_wp2_with fail
  refine (mix_any _ h _).mono ?_
  rintro e w1 ⟨rfl, g1⟩
  go_wp2
  go_ret
  refine ⟨?_, g1⟩
  have hlt := bucket_lt X n hn
  have hle : 2 ^ n ≤ 65536 := Nat.pow_le_pow_right (by omega) hn
  refine ret_i64 ?_
  have e : ((MixP.mix X : Nat) : Int) / 2 ^ (64 - n) = ((MixP.mix X / 2 ^ (64 - n) : Nat) : Int) := by simp
  rw [e]
  generalize MixP.mix X / 2 ^ (64 - n) = q at hlt
  unfold wrap64
  omega
theorem awake_any (w : World) : Calls Try.prog 29 #[] w fun e w' => e = .returned (.bool true) ∧ Ext w w' := by
  have m0 : MixP.mix 0 = 0 := by decide
  have m1 : bk 0 5 = 0 := by decide
  have m2 : bk 7 0 = 0 := by decide
  have m3 : MixP.back (MixP.mix 12345) = 12345 := MixP.back_mix 12345 (by decide)
  have M0 := Lib.hid m0
  have M1 := Lib.hid m1
  have M2 := Lib.hid m2
  have M3 := Lib.hid m3
  clear m0 m1 m2 m3
  go_enter Try.func29, Try.ntmps29
  go_wp2_with fail
  refine (mix_any 0 (by decide) _).mono ?_
  rintro e w1 ⟨rfl, g1⟩
  rw [M0.out]
  go_wp2_with fail
  refine (bucket_any 0 5 (by decide) (by decide) _).mono ?_
  rintro e w2 ⟨rfl, g2⟩
  rw [M1.out]
  go_wp2_with fail
  refine (bucket_any 7 0 (by decide) (by decide) _).mono ?_
  rintro e w3 ⟨rfl, g3⟩
  rw [M2.out]
  go_wp2_with fail
  refine (bucket_no 7 17 (.inr (by decide)) _).mono ?_
  rintro e w' ⟨rfl, rfl⟩
  go_wp2_with fail
  refine (bucket_no 7 (-1) (.inl (by decide)) _).mono ?_
  rintro e w' ⟨rfl, rfl⟩
  go_wp2_with fail
  refine (mix_any 12345 (by decide) _).mono ?_
  rintro e w4 ⟨rfl, g4⟩
  go_wp2_with fail
  refine (back_any _ (MixP.mix_lt _) _).mono ?_
  rintro e w5 ⟨rfl, g5⟩
  rw [M3.out]
  go_wp2
  go_ret
  exact ⟨rfl, (((g1.trans g2).trans g3).trans g4).trans g5⟩
end Go.Proofs.Ytooiepmjaeimeaa.Mx
