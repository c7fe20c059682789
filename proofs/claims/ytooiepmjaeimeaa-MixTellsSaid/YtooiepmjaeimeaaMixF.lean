/- DERIVED. The law of layer 3 that asks the reference. -/
import Derived.Test.YtooiepmjaeimeaaMixE
set_option linter.unusedVariables false
set_option linter.unusedSimpArgs false
namespace Go.Proofs.Ytooiepmjaeimeaa.Mx
open Go.RowKit Go.Proofs.Ytooiepmjaeimeaa

theorem rbucket_no (X : Nat) (n : Int) (h : n < 0 ∨ 16 < n) (w : World) : Calls Try.prog 28 #[.int .u64 X, .int .i64 n] w fun e w' => e = .returned (.int .i64 (-1)) ∧ w = w' := by
  by_cases h0 : n < 0
  · clear h
    go_enter Try.func28, Try.ntmps28
    go_wp2
    go_ret
    exact ⟨rfl, rfl⟩
  · have h1 : 16 < n := by omega
    clear h
    go_enter Try.func28, Try.ntmps28
    go_wp2
    go_ret
    exact ⟨rfl, rfl⟩
theorem rbucket_any (X n : Nat) (hX : X < MixP.M) (hn : n ≤ 16) (w : World) : Calls Try.prog 28 #[.int .u64 X, .int .i64 n] w fun e w' => e = .returned (.int .i64 ((bk X n : Nat) : Int)) ∧ w = w' := by
  go_enter Try.func28, Try.ntmps28
  go_wp2_with fail
  refine (rmix_any X hX _).mono ?_
  rintro e w' ⟨rfl, rfl⟩
  go_wp2
  go_loop [5, 7] (fun y i => ∃ j : Nat, j ≤ n ∧ i = .int .i64 (j : Int) ∧ y = .int .i64 ((bk X j : Nat) : Int)) (fun _ i => 64 - (intOf i).toNat)
  case atStart => exact ⟨0, by omega, rfl, by unfold bk; rw [Nat.div_eq_of_lt (show MixP.mix X < 2 ^ (64 - 0) from MixP.mix_lt X)]; rfl⟩
  case round =>
    obtain ⟨j, hj, rfl, rfl⟩ := hrel
    by_cases hlt : j < n
    · have fs : 2 * bk X j + MixP.bit (MixP.mix X) (63 - j) = bk X (j + 1) := MixP.bucket_step (MixP.mix X) j (by omega) (MixP.mix_lt X)
      have b1 : bk X (j + 1) < 2 ^ (j + 1) := bucket_lt X (j + 1) (by omega)
      have b2 : 2 ^ (j + 1) ≤ 65536 := Nat.pow_le_pow_right (by omega) (show j + 1 ≤ 16 by omega)
      have b3 : bk X (j + 1) < 65536 := by omega
      generalize hV' : bk X (j + 1) = V' at fs b3
      generalize bk X j = V at fs ⊢
      generalize hB : MixP.bit (MixP.mix X) (63 - j) = Q at fs
      have HV' := Lib.hid hV'
      have HB := Lib.hid hB
      have FS := Lib.hid fs
      have b4 : (Q : Int) ≤ 65536 := by omega
      have b5 : (V : Int) ≤ 65536 := by omega
      clear hV' hB fs b1 b2 b3
      go_wp2_with fail
      rw [show (63 - (j : Int)) = ((63 - j : Nat) : Int) from by omega]
      refine (bit_any (MixP.mix X) (63 - j) (MixP.mix_lt X) (by omega) _).mono ?_
      rintro e w' ⟨rfl, rfl⟩
      rw [HB.out]
      go_wp2
      go_round
      case rel => exact ⟨j + 1, by omega, by go_num, by rw [HV'.out, ← FS.out]; go_num⟩
      case measure => simp [intOf]; omega
    · obtain rfl : j = n := by omega
      go_wp2
      go_ret
      exact ⟨rfl, rfl⟩
theorem tells_in (X n : Nat) (hX : X < MixP.M) (hn : n ≤ 16) (w : World) : Calls Try.prog 8 #[.int .u64 X, .int .i64 n] w fun e w' => e = .returned (.bool true) ∧ Ext w w' := by
  go_enter Try.func8, Try.ntmps8
  go_wp2_with fail
  refine (mix_any X hX _).mono ?_
  rintro e w1 ⟨rfl, g1⟩
  go_wp2_with fail
  refine (rmix_any X hX _).mono ?_
  rintro e w' ⟨rfl, rfl⟩
  go_wp2_with fail
  refine (back_any X hX _).mono ?_
  rintro e w2 ⟨rfl, g2⟩
  go_wp2_with fail
  refine (rback_any X hX _).mono ?_
  rintro e w' ⟨rfl, rfl⟩
  go_wp2_with fail
  refine (bucket_any X n hX hn _).mono ?_
  rintro e w3 ⟨rfl, g3⟩
  go_wp2_with fail
  refine (rbucket_any X n hX hn _).mono ?_
  rintro e w' ⟨rfl, rfl⟩
  go_wp2_with fail
  refine (awake_any _).mono ?_
  rintro e w4 ⟨rfl, g4⟩
  go_wp2
  go_ret
  exact ⟨rfl, ((g1.trans g2).trans g3).trans g4⟩
theorem tells_out (X : Nat) (n : Int) (hX : X < MixP.M) (hn : n < 0 ∨ 16 < n) (w : World) : Calls Try.prog 8 #[.int .u64 X, .int .i64 n] w fun e w' => e = .returned (.bool true) ∧ Ext w w' := by
  go_enter Try.func8, Try.ntmps8
  go_wp2_with fail
  refine (mix_any X hX _).mono ?_
  rintro e w1 ⟨rfl, g1⟩
  go_wp2_with fail
  refine (rmix_any X hX _).mono ?_
  rintro e w' ⟨rfl, rfl⟩
  go_wp2_with fail
  refine (back_any X hX _).mono ?_
  rintro e w2 ⟨rfl, g2⟩
  go_wp2_with fail
  refine (rback_any X hX _).mono ?_
  rintro e w' ⟨rfl, rfl⟩
  go_wp2_with fail
  refine (bucket_no X n hn _).mono ?_
  rintro e w' ⟨rfl, rfl⟩
  go_wp2_with fail
  refine (rbucket_no X n hn _).mono ?_
  rintro e w' ⟨rfl, rfl⟩
  go_wp2_with fail
  refine (awake_any _).mono ?_
  rintro e w4 ⟨rfl, g4⟩
  go_wp2
  go_ret
  exact ⟨rfl, (g1.trans g2).trans g4⟩
theorem as_nat {k : IntKind} {a b : Int} (h : 0 ≤ a) (hb : a < b) : ∃ n : Nat, a = (n : Int) ∧ (n : Int) < b := by
  obtain ⟨n, rfl⟩ := Int.eq_ofNat_of_zero_le h
  exact ⟨n, rfl, hb⟩
theorem tells (a0 a1 : Int) (w0 : (Lit.int .u64 a0).wf = true) (w1 : (Lit.int .i64 a1).wf = true) (w : World) : Calls Try.prog 8 #[.int .u64 a0, .int .i64 a1] w fun e w' => e = .returned (.bool true) ∧ Ext w w' := by
  obtain ⟨l0, u0⟩ := u64_bd w0
  obtain ⟨X, rfl⟩ := Int.eq_ofNat_of_zero_le l0
  have hX : X < MixP.M := by show X < 18446744073709551616; omega
  by_cases hn : a1 < 0 ∨ 16 < a1
  · exact tells_out X a1 hX hn w
  · obtain ⟨n, rfl⟩ := Int.eq_ofNat_of_zero_le (show 0 ≤ a1 by omega)
    exact tells_in X n hX (by omega) w
end Go.Proofs.Ytooiepmjaeimeaa.Mx
