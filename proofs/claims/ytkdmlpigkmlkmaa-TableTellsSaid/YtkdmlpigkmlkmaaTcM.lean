/- DERIVED. Layer 13 (bucket): layer 3's reference, as far as the document's buckets ask it (from XMixE, XMixF). -/
import Derived.Test.YtkdmlpigkmlkmaaMixZ
set_option linter.unusedVariables false
set_option linter.unusedSimpArgs false
namespace Go.Proofs.Ytkdmlpigkmlkmaa.Mx
open Go.RowKit Go.Proofs.Ytkdmlpigkmlkmaa

theorem bit_any (X i : Nat) (hX : X < MixP.M) (hi : i < 200) (w : World) : Calls Try.prog 100 #[.int .u64 X, .int .i64 i] w fun e w' => e = .returned (.int .u64 ((MixP.bit X i : Nat) : Int)) ∧ w = w' := by
  by_cases h : 63 < i
  · have e : MixP.bit X i = 0 := by unfold MixP.bit; rw [if_pos h]
    rw [e]
    clear e
    go_enter Try.func100, Try.ntmps100
    go_wp2
    go_ret
    exact ⟨rfl, rfl⟩
  · have e : MixP.bit X i = X / 2 ^ i % 2 := by unfold MixP.bit; rw [if_neg (by omega)]
    rw [e]
    clear e
    go_enter Try.func100, Try.ntmps100
    go_wp2
    go_ret
    refine ⟨ret_u64 ?_, rfl⟩
    have e2 : ((X : Int) / 2 ^ i) = ((X / 2 ^ i : Nat) : Int) := by rw [Int.natCast_ediv, Int.natCast_pow]; rfl
    rw [e2]
    generalize X / 2 ^ i = q
    rw [Int.tmod_eq_emod_of_nonneg (by omega)]; omega
theorem ne_true {a b : Nat} (h : a ≠ b) : (((a : Nat) : Int) != ((b : Nat) : Int)) = true := by
  rw [bne_iff_ne]; intro e; exact h (by omega)
theorem ne_false {a b : Nat} (h : ¬ a ≠ b) : (((a : Nat) : Int) != ((b : Nat) : Int)) = false := by
  have : a = b := by omega
  subst this; simp
theorem rfold_any (X k : Nat) (hX : X < MixP.M) (hk : k ≤ 64) (w : World) : Calls Try.prog 111 #[.int .u64 X, .int .i64 k] w fun e w' => e = .returned (.int .u64 ((MixP.fold k X : Nat) : Int)) ∧ w = w' := by
  have hU := MixP.fold_lt k X hX
  have hU' : MixP.fold k X < 18446744073709551616 := hU
  go_enter Try.func111, Try.ntmps111
  go_wp2
  go_loop [5, 6] (fun y i => ∃ j : Nat, j ≤ 64 ∧ i = .int .i64 ((j : Int) - 1) ∧ y = .int .u64 ((MixP.fold k X / 2 ^ j : Nat) : Int)) (fun _ i => (intOf i + 1).toNat)
  case atStart => exact ⟨64, by omega, rfl, by rw [Nat.div_eq_of_lt (show MixP.fold k X < 2 ^ 64 from hU)]; rfl⟩
  case round =>
    obtain ⟨j, hj, rfl, rfl⟩ := hrel
    cases j with
    | zero =>
      go_wp2
      go_ret
      exact ⟨ret_u64 (by simp), rfl⟩
    | succ m =>
      have em : (((m + 1 : Nat) : Int) - 1) = (m : Int) := by omega
      rw [em]
      have fs := MixP.fold_step k X m hX
      have hle : MixP.fold k X / 2 ^ m ≤ MixP.fold k X := Nat.div_le_self _ _
      generalize hV : MixP.fold k X / 2 ^ (m + 1) = V at fs ⊢
      generalize hV' : MixP.fold k X / 2 ^ m = V' at fs hle
      have HV' := Lib.hid hV'
      clear hV' hV em
      by_cases hb : MixP.bit X m ≠ MixP.bit X (m + k)
      · rw [if_pos hb] at fs
        have hn := ne_true hb
        have FS := Lib.hid fs
        have b1 : 2 * (V : Int) + 1 < 18446744073709551616 := by omega
        clear fs hb
        go_wp2_with fail
        refine (bit_any X m hX (by omega) _).mono ?_
        rintro e w' ⟨rfl, rfl⟩
        go_wp2_with fail
        refine (bit_any X (m + k) hX (by omega) _).mono ?_
        rintro e w' ⟨rfl, rfl⟩
        go_wp2
        go_round
        case rel => exact ⟨m, by omega, rfl, by rw [HV'.out, ← FS.out]; go_num⟩
        case measure => simp [intOf]
      · rw [if_neg hb] at fs
        have hn := ne_false hb
        have FS := Lib.hid fs
        have b1 : 2 * (V : Int) < 18446744073709551616 := by omega
        clear fs hb
        go_wp2_with fail
        refine (bit_any X m hX (by omega) _).mono ?_
        rintro e w' ⟨rfl, rfl⟩
        go_wp2_with fail
        refine (bit_any X (m + k) hX (by omega) _).mono ?_
        rintro e w' ⟨rfl, rfl⟩
        go_wp2
        go_round
        case rel => exact ⟨m, by omega, rfl, by rw [HV'.out, ← FS.out]; go_num⟩
        case measure => simp [intOf]
theorem rmix_any (X : Nat) (hX : X < MixP.M) (w : World) : Calls Try.prog 99 #[.int .u64 X] w fun e w' => e = .returned (.int .u64 ((MixP.mix X : Nat) : Int)) ∧ w = w' := by
  have e1 : ∀ V : Nat, IntKind.u64.wrap ((V : Int) * 11400714819323198485) = ((MixP.tf V : Nat) : Int) := fun V => by simp only [IntKind.wrap_u64, MixP.tf, MixP.F, MixP.M]; omega
  unfold MixP.mix
  go_enter Try.func99, Try.ntmps99
  go_wp2_with fail
  refine (rfold_any X 32 hX (by omega) _).mono ?_
  rintro e w' ⟨rfl, rfl⟩
  go_wp2_with fail
  refine (rfold_any _ 29 (MixP.tf_lt _) (by omega) _).mono ?_
  rintro e w' ⟨rfl, rfl⟩
  go_wp2_with fail
  refine (rfold_any _ 32 (MixP.tf_lt _) (by omega) _).mono ?_
  rintro e w' ⟨rfl, rfl⟩
  go_wp2
  go_ret
  exact ⟨rfl, rfl⟩
theorem rbucket_any (X n : Nat) (hX : X < MixP.M) (hn : n ≤ 16) (w : World) : Calls Try.prog 87 #[.int .u64 X, .int .i64 n] w fun e w' => e = .returned (.int .i64 ((bk X n : Nat) : Int)) ∧ w = w' := by
  go_enter Try.func87, Try.ntmps87
  go_wp2_with fail
  refine (rmix_any X hX _).mono ?_
  rintro e w' ⟨rfl, rfl⟩
  go_wp2
  go_loop [5, 7] (fun y i => ∃ j : Nat, j ≤ n ∧ i = .int .i64 (j : Int) ∧ y = .int .i64 ((bk X j : Nat) : Int)) (fun _ i => 64 - (intOf i).toNat)
  case atStart => exact ⟨0, by omega, rfl, by unfold bk; rw [Nat.div_eq_of_lt (show MixP.mix X < 2 ^ (64 - 0) from MixP.mix_lt X)]; rfl⟩
  case round =>
    obtain ⟨j, hj, rfl, rfl⟩ := hrel
    by_cases hlt : j < n
    · have fs : 2 * bk X j + MixP.bit (MixP.mix X) (63 - j) = bk X (j + 1) := MixP.bucket_step (MixP.mix X) j (by omega) (MixP.mix_lt X)
      have b1 : bk X (j + 1) < 2 ^ (j + 1) := bucket_lt X (j + 1) (by omega)
      have b2 : 2 ^ (j + 1) ≤ 65536 := Nat.pow_le_pow_right (by omega) (show j + 1 ≤ 16 by omega)
      have b3 : bk X (j + 1) < 65536 := by omega
      generalize hV' : bk X (j + 1) = V' at fs b3
      generalize bk X j = V at fs ⊢
      generalize hB : MixP.bit (MixP.mix X) (63 - j) = Q at fs
      have HV' := Lib.hid hV'
      have HB := Lib.hid hB
      have FS := Lib.hid fs
      have b4 : (Q : Int) ≤ 65536 := by omega
      have b5 : (V : Int) ≤ 65536 := by omega
      clear hV' hB fs b1 b2 b3
      go_wp2_with fail
      rw [show (63 - (j : Int)) = ((63 - j : Nat) : Int) from by omega]
      refine (bit_any (MixP.mix X) (63 - j) (MixP.mix_lt X) (by omega) _).mono ?_
      rintro e w' ⟨rfl, rfl⟩
      rw [HB.out]
      go_wp2
      go_round
      case rel => exact ⟨j + 1, by omega, by go_num, by rw [HV'.out, ← FS.out]; go_num⟩
      case measure => simp [intOf]; omega
    · obtain rfl : j = n := by omega
      go_wp2
      go_ret
      exact ⟨rfl, rfl⟩
end Go.Proofs.Ytkdmlpigkmlkmaa.Mx
