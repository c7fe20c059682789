/- DERIVED. The laws of layer 3 that do not ask the reference. -/
import Derived.Test.YtooiepmjaeimeaaMixC
import Derived.Deep.QuietTactic
import Derived.BigQuiet
set_option linter.unusedVariables false
set_option linter.unusedSimpArgs false
namespace Go.Proofs.Ytooiepmjaeimeaa.Mx
open Go.RowKit Go.Proofs.Ytooiepmjaeimeaa

theorem mix_inj {X Y : Nat} (hX : X < MixP.M) (hY : Y < MixP.M) (h : MixP.mix X = MixP.mix Y) : X = Y := by
  have := congrArg MixP.back h
  rwa [MixP.back_mix X hX, MixP.back_mix Y hY] at this
theorem back_of (X Y : Nat) (hX : X < MixP.M) (hY : Y < MixP.M) (w : World) :
    Calls Try.prog 9 #[.int .u64 X, .int .u64 Y] w fun e w' => e = .returned (.bool true) ∧ Ext w w' := by
  have e1 := Lib.hid (MixP.back_mix X hX)
  have e2 := Lib.hid (MixP.mix_back X hX)
  have e3 : (((MixP.mix X : Nat) : Int) == ((MixP.mix Y : Nat) : Int)) = ((X : Int) == (Y : Int)) := by
    rw [Bool.eq_iff_iff]
    simp only [beq_iff_eq]
    constructor
    · intro h; rw [mix_inj hX hY (by omega)]
    · intro h; rw [show X = Y from by omega]
  go_enter Try.func9, Try.ntmps9
  go_wp2_with fail
  refine (mix_any X hX _).mono ?_
  rintro e w1 ⟨rfl, g1⟩
  go_wp2_with fail
  refine (back_any _ (MixP.mix_lt _) _).mono ?_
  rintro e w2 ⟨rfl, g2⟩
  rw [e1.out]
  go_wp2_with fail
  refine (back_any X hX _).mono ?_
  rintro e w3 ⟨rfl, g3⟩
  go_wp2_with fail
  refine (mix_any _ (MixP.back_lt _) _).mono ?_
  rintro e w4 ⟨rfl, g4⟩
  rw [e2.out]
  go_wp2_with fail
  refine (mix_any X hX _).mono ?_
  rintro e w5 ⟨rfl, g5⟩
  go_wp2_with fail
  refine (mix_any Y hY _).mono ?_
  rintro e w6 ⟨rfl, g6⟩
  go_wp2_with fail
  refine (awake_any _).mono ?_
  rintro e w7 ⟨rfl, g7⟩
  go_wp2
  go_ret
  exact ⟨rfl, (((((g1.trans g2).trans g3).trans g4).trans g5).trans g6).trans g7⟩
theorem two_pow (N : Nat) (h : N ≤ 16) : ∃ P : Nat, wrap64 (2 ^ N) = P ∧ Hid (P = 2 ^ N) ∧ (0 : Int) < P ∧ (P : Int) ≤ 65536 := by
  have h1 : 2 ^ N ≤ 65536 := Nat.pow_le_pow_right (by omega) h
  have h2 : 0 < 2 ^ N := Nat.two_pow_pos N
  have e : ((2 : Int) ^ N) = ((2 ^ N : Nat) : Int) := (Int.natCast_pow 2 N).symm
  obtain ⟨q, hq⟩ : ∃ q, q = 2 ^ N := ⟨_, rfl⟩
  rw [← hq] at h1 h2 e
  refine ⟨q, ?_, hq, by omega, by omega⟩
  rw [e]
  unfold wrap64
  omega
theorem finer_of (X F G : Nat) (hX : X < MixP.M) (hF : F < 256) (hG : G < 256) (w : World) :
    Calls Try.prog 10 #[.int .u64 X, .int .u8 F, .int .u8 G] w fun e w' => e = .returned (.bool true) ∧ Ext w w' := by
  obtain ⟨A, hA, hA'⟩ : ∃ A : Nat, (F : Int) % 17 = A ∧ A ≤ 16 := ⟨F % 17, by omega, by omega⟩
  obtain ⟨D, hD, hD'⟩ : ∃ D : Nat, wrap64 ((A : Int) + (G : Int) % (17 - (A : Int))) = ((A + D : Nat) : Int) ∧ A + D ≤ 16 := by
    have h1 : (0 : Int) ≤ (G : Int) % (17 - (A : Int)) := Int.emod_nonneg _ (by omega)
    have h2 : (G : Int) % (17 - (A : Int)) < 17 - (A : Int) := Int.emod_lt_of_pos _ (by omega)
    refine ⟨((G : Int) % (17 - (A : Int))).toNat, ?_, by omega⟩
    generalize (G : Int) % (17 - (A : Int)) = q at h1 h2
    unfold wrap64
    omega
  generalize hB : A + D = B at hD hD'
  obtain ⟨PA, hPA, hpa, pa0, pa1⟩ := two_pow A hA'
  obtain ⟨PB, hPB, hpb, pb0, pb1⟩ := two_pow B hD'
  have hka : bk X A < PA := by rw [hpa.out]; exact bucket_lt X A hA'
  have hkb : bk X B < PB := by rw [hpb.out]; exact bucket_lt X B hD'
  have hAB : (A : Int) ≤ B := by omega
  have hk : ((bk X B : Nat) : Int) / 2 ^ (B - A) = ((bk X A : Nat) : Int) := by
    have e : bk X B / 2 ^ (B - A) = bk X A := by
      unfold bk
      rw [Nat.div_div_eq_div_mul, ← Nat.pow_add, show 64 - B + (B - A) = 64 - A from by omega]
    rw [← e]
    rw [Int.natCast_ediv, Int.natCast_pow]; rfl
  clear hB
  go_enter Try.func10, Try.ntmps10
  go_wp2_with fail
  refine (bucket_any X A hX hA' _).mono ?_
  rintro e w1 ⟨rfl, g1⟩
  go_wp2_with fail
  refine (bucket_any X B hX hD' _).mono ?_
  rintro e w2 ⟨rfl, g2⟩
  go_wp2_with fail
  refine (awake_any _).mono ?_
  rintro e w3 ⟨rfl, g3⟩
  go_wp2
  go_ret
  exact ⟨rfl, (g1.trans g2).trans g3⟩
theorem word_of (Q N R P : Nat) (hN : N ≤ 16) (hQ : Q < P) (hP : P = 2 ^ N) (hR : R < MixP.M) : ∃ Y : Nat, bits .or .u64 (IntKind.u64.wrap ((Q : Int) * 2 ^ (64 - N))) ((R : Int) / 2 ^ N) = (Y : Int) ∧ Y < MixP.M ∧ Y / 2 ^ (64 - N) = Q := by
  have hpos : 0 < 2 ^ (64 - N) := Nat.two_pow_pos _
  have h64 : 2 ^ N * 2 ^ (64 - N) = 18446744073709551616 := by rw [← Nat.pow_add, show N + (64 - N) = 64 from by omega]
  have hr : R / 2 ^ N < 2 ^ (64 - N) := by
    refine Nat.div_lt_of_lt_mul ?_
    rw [h64]; exact hR
  have hq : Q * 2 ^ (64 - N) < 18446744073709551616 := by
    rw [← h64, ← hP]
    exact Nat.mul_lt_mul_of_pos_right hQ hpos
  have e1 : ((Q : Int) * 2 ^ (64 - N)) = ((Q * 2 ^ (64 - N) : Nat) : Int) := by rw [Int.natCast_mul, Int.natCast_pow]; rfl
  have e2 : ((R : Int) / 2 ^ N) = ((R / 2 ^ N : Nat) : Int) := by rw [Int.natCast_ediv, Int.natCast_pow]; rfl
  have hr' : R / 2 ^ N < 18446744073709551616 := Nat.lt_of_le_of_lt (Nat.div_le_self _ _) hR
  refine ⟨Q * 2 ^ (64 - N) + R / 2 ^ N, ?_, ?_, ?_⟩
  · rw [e1, e2, IntKind.wrap_u64]
    have e3 : ((Q * 2 ^ (64 - N) : Nat) : Int) % 18446744073709551616 = ((Q * 2 ^ (64 - N) : Nat) : Int) := by
      generalize Q * 2 ^ (64 - N) = q at hq
      omega
    rw [e3, u64_or_nat _ _ hq hr', ← Nat.shiftLeft_eq, Nat.shiftLeft_add_eq_or_of_lt hr]
  · have : Q + 1 ≤ 2 ^ N := by omega
    have := Nat.mul_le_mul_right (2 ^ (64 - N)) this
    rw [h64, Nat.add_mul] at this
    show _ < 18446744073709551616
    generalize Q * 2 ^ (64 - N) = q at *
    generalize R / 2 ^ N = r at *
    generalize 2 ^ (64 - N) = t at *
    omega
  · rw [Nat.add_comm, Nat.add_mul_div_right _ _ hpos, Nat.div_eq_of_lt hr, Nat.zero_add]
theorem buckets_of (B K R : Nat) (hB : B < 256) (hK : K < 65536) (hR : R < MixP.M) (w : World) :
    Calls Try.prog 11 #[.int .u8 B, .int .u16 K, .int .u64 R] w fun e w' => e = .returned (.bool true) ∧ Ext w w' := by
  obtain ⟨N, hN, hN', hN''⟩ : ∃ N : Nat, (B : Int) % 17 = N ∧ B % 17 = N ∧ N ≤ 16 := ⟨B % 17, by omega, rfl, by omega⟩
  obtain ⟨P, hP, hp, p0, p1⟩ := two_pow N hN''
  obtain ⟨Q, hQ, hQ', hQ0⟩ : ∃ Q : Nat, (K : Int) % (P : Int) = Q ∧ Q < P ∧ (0 : Int) ≤ Q := by
    have h1 : (0 : Int) ≤ (K : Int) % (P : Int) := Int.emod_nonneg _ (by omega)
    have h2 : (K : Int) % (P : Int) < P := Int.emod_lt_of_pos _ p0
    exact ⟨((K : Int) % (P : Int)).toNat, by omega, by omega, by omega⟩
  by_cases h0 : 0 < N
  · go_enter Try.func11, Try.ntmps11
    go_wp2_with fail
    rw [hQ]
    go_quiet (fail)
    go_wp2_with fail
    obtain ⟨Y, hY, hY', hY''⟩ := word_of Q N R P hN'' hQ' hp.out hR
    rw [hY]
    have hb : bk (MixP.back Y) N = Q := by unfold bk; rw [MixP.mix_back Y hY']; exact hY''
    have Hb := Lib.hid hb
    clear hY hY'' hb
    refine (back_any Y hY' _).mono ?_
    rintro e w1 ⟨rfl, g1⟩
    go_wp2_with fail
    refine (bucket_any _ N (MixP.back_lt _) hN'' _).mono ?_
    rintro e w2 ⟨rfl, g2⟩
    rw [Hb.out]
    go_wp2_with fail
    refine (awake_any _).mono ?_
    rintro e w3 ⟨rfl, g3⟩
    go_wp2
    go_ret
    exact ⟨rfl, ((((Ext.refl _).drewN _).trans g1).trans g2).trans g3⟩
  · obtain rfl : N = 0 := by omega
    have hb : bk (MixP.back R) 0 = 0 := by
      unfold bk
      rw [MixP.mix_back R hR]
      have hR' : R < 18446744073709551616 := hR
      omega
    have Hb := Lib.hid hb
    clear hb
    go_enter Try.func11, Try.ntmps11
    go_wp2_with fail
    refine (back_any R hR _).mono ?_
    rintro e w1 ⟨rfl, g1⟩
    go_wp2_with fail
    refine (bucket_any _ 0 (MixP.back_lt _) (by omega) _).mono ?_
    rintro e w2 ⟨rfl, g2⟩
    rw [Hb.out]
    go_wp2_with fail
    refine (awake_any _).mono ?_
    rintro e w3 ⟨rfl, g3⟩
    go_wp2
    go_ret
    exact ⟨rfl, (g1.trans g2).trans g3⟩
theorem back (a0 a1 : Int) (w0 : (Lit.int .u64 a0).wf = true) (w1 : (Lit.int .u64 a1).wf = true) (w : World) : Calls Try.prog 9 #[.int .u64 a0, .int .u64 a1] w fun e w' => e = .returned (.bool true) ∧ Ext w w' := by
  obtain ⟨l0, u0⟩ := u64_bd w0
  obtain ⟨l1, u1⟩ := u64_bd w1
  obtain ⟨X, rfl⟩ := Int.eq_ofNat_of_zero_le l0
  obtain ⟨Y, rfl⟩ := Int.eq_ofNat_of_zero_le l1
  exact back_of X Y (by show X < 18446744073709551616; omega) (by show Y < 18446744073709551616; omega) w
theorem finer (a0 a1 a2 : Int) (w0 : (Lit.int .u64 a0).wf = true) (w1 : (Lit.int .u8 a1).wf = true) (w2 : (Lit.int .u8 a2).wf = true) (w : World) : Calls Try.prog 10 #[.int .u64 a0, .int .u8 a1, .int .u8 a2] w fun e w' => e = .returned (.bool true) ∧ Ext w w' := by
  obtain ⟨l0, u0⟩ := u64_bd w0
  obtain ⟨l1, u1⟩ := u8_bd w1
  obtain ⟨l2, u2⟩ := u8_bd w2
  obtain ⟨X, rfl⟩ := Int.eq_ofNat_of_zero_le l0
  obtain ⟨F, rfl⟩ := Int.eq_ofNat_of_zero_le l1
  obtain ⟨G, rfl⟩ := Int.eq_ofNat_of_zero_le l2
  exact finer_of X F G (by show X < 18446744073709551616; omega) (by omega) (by omega) w
theorem buckets (a0 a1 a2 : Int) (w0 : (Lit.int .u8 a0).wf = true) (w1 : (Lit.int .u16 a1).wf = true) (w2 : (Lit.int .u64 a2).wf = true) (w : World) : Calls Try.prog 11 #[.int .u8 a0, .int .u16 a1, .int .u64 a2] w fun e w' => e = .returned (.bool true) ∧ Ext w w' := by
  obtain ⟨l0, u0⟩ := u8_bd w0
  obtain ⟨l1, u1⟩ := u16_bd w1
  obtain ⟨l2, u2⟩ := u64_bd w2
  obtain ⟨B, rfl⟩ := Int.eq_ofNat_of_zero_le l0
  obtain ⟨K, rfl⟩ := Int.eq_ofNat_of_zero_le l1
  obtain ⟨R, rfl⟩ := Int.eq_ofNat_of_zero_le l2
  exact buckets_of B K R (by omega) (by omega) (by show R < 18446744073709551616; omega) w
end Go.Proofs.Ytooiepmjaeimeaa.Mx
