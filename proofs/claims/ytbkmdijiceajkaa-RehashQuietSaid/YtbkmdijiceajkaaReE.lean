/- DERIVED. Layer 15 (rehash): the law RehashQuiet. -/
import Derived.Test.YtbkmdijiceajkaaReC
import Derived.Deep.DeepCutAuto
set_option linter.unusedVariables false
set_option linter.unusedSimpArgs false
set_option maxRecDepth 100000
namespace Go.Proofs.Ytbkmdijiceajkaa.Re
open Go.RowKit Go.Proofs.Ytbkmdijiceajkaa Go.Proofs.Ytbkmdijiceajkaa.ReP

theorem sh1 {k P : Nat} (hk : k ≤ 10) (hP : P = 2 ^ k) : wrap64 ((2 : Int) ^ k) = (P : Int) := by
  obtain ⟨p1, p2⟩ := pw_le hk
  have e : ((2 : Int) ^ k) = (P : Int) := by rw [hP]; simp
  rw [e]
  unfold wrap64
  rw [← hP] at p1 p2
  omega
theorem sh2 {k P : Nat} (hk : k ≤ 10) (hP : P = 2 ^ k) : wrap64 (2 * (2 : Int) ^ k) = 2 * (P : Int) := by
  obtain ⟨p1, p2⟩ := pw_le hk
  have e : ((2 : Int) ^ k) = (P : Int) := by rw [hP]; simp
  rw [e]
  unfold wrap64
  rw [← hP] at p1 p2
  omega
set_option maxHeartbeats 4000000 in
theorem quiet_of (fl ot bi : Int) (wf1 : (Lit.int .u16 fl).wf = true) (wf2 : (Lit.int .u16 ot).wf = true) (wf3 : (Lit.int .u8 bi).wf = true) (w : World) :
    Calls Try.prog 3 #[.int .u16 fl, .int .u16 ot, .int .u8 bi] w fun e w' => e = .returned (.bool true) ∧ Ext w w' := by
  obtain ⟨a0, a1⟩ := u16_bd wf1
  obtain ⟨b0, b1⟩ := u16_bd wf2
  obtain ⟨c0, c1⟩ := u8_bd wf3
  obtain ⟨n, hn⟩ : ∃ n : Nat, fl % 4097 = (n : Int) := ⟨(fl % 4097).toNat, by omega⟩
  obtain ⟨m, hm⟩ : ∃ m : Nat, ot % 4097 = (m : Int) := ⟨(ot % 4097).toNat, by omega⟩
  obtain ⟨b, hb⟩ : ∃ b : Nat, bi % 11 = (b : Int) := ⟨(bi % 11).toNat, by omega⟩
  have n1 : n ≤ 4096 := by omega
  have m1 : m ≤ 4096 := by omega
  have k1 : b ≤ 10 := by omega
  obtain ⟨K, hK⟩ : ∃ K, K = ReP.want n b := ⟨_, rfl⟩
  have hK10 : K ≤ 10 := by rw [hK]; exact want_le k1
  obtain ⟨P, hP⟩ : ∃ P, P = 2 ^ K := ⟨_, rfl⟩
  obtain ⟨Q, hQ⟩ : ∃ Q, Q = 2 ^ b := ⟨_, rfl⟩
  obtain ⟨p1, p2⟩ := pw_le hK10
  obtain ⟨q1, q2⟩ := pw_le k1
  rw [← hP] at p1 p2
  rw [← hQ] at q1 q2
  have sP := sh1 hK10 hP
  have sP2 := sh2 hK10 hP
  have sQ := sh1 k1 hQ
  have sQ2 := sh2 k1 hQ
  have hc := want_fine n b n1 k1 w
  rw [← hK] at hc
  have HC := Lib.hid hc
  have HW := Lib.hid (wants_yes n K K n1 hK10 (by rw [hK]; exact want_again n1) w)
  have HP := Lib.hid hP
  have HQ := Lib.hid hQ
  have HK := Lib.hid hK
  have kI : (K : Int) ≤ 10 := by omega
  have HO := Lib.hid (Own.start w)
  have SP := Lib.hid sP
  have SP2 := Lib.hid sP2
  have SQ := Lib.hid sQ
  have SQ2 := Lib.hid sQ2
  have HN := Lib.hid hn
  have HM := Lib.hid hm
  have HB := Lib.hid hb
  clear hc hP hQ hK wf1 wf2 wf3 sP sP2 sQ sQ2
  go_enter Try.func3, Try.ntmps3
  go_upto_region 5 with (first
    | (go_at_call 5; refine (HC.out).mono ?_; rintro e w' ⟨rfl, rfl⟩)
    | (go_at_call 6; refine (HW.out).mono ?_; rintro e w' ⟨rfl, rfl⟩))
  clear HC HW hn hm hb a0 a1 b0 b1 c0 c1
  go_cut [65] (fun s wx => s = .bool false ∧ w = wx)
  case first =>
    by_cases c1 : P ≤ 8 * m
    · have i1 : (P : Int) ≤ 8 * (m : Int) := by omega
      by_cases c2 : m ≤ 2 * P
      · have i2 : (m : Int) ≤ 2 * (P : Int) := by omega
        have HW := Lib.hid (wants_yes m K K m1 hK10 (want_fits (by rw [← HP.out]; exact c1) (by rw [← HP.out]; exact c2)) w)
        clear c1 c2
        have sP := SP.out
        have sP2 := SP2.out
        go_wp2_with (go_at_call 6; refine (HW.out).mono ?_; rintro e w' ⟨rfl, rfl⟩)
        go_meet
        case rel => exact ⟨rfl, rfl⟩
      · have i2 : decide ((m : Int) ≤ 2 * (P : Int)) = false := by simp; omega
        clear c1 c2
        have sP := SP.out
        have sP2 := SP2.out
        go_wp2_with fail
        go_meet
        case rel => exact ⟨rfl, rfl⟩
    · have i1 : decide ((P : Int) ≤ 8 * (m : Int)) = false := by simp; omega
      clear c1
      have sP := SP.out
      have sP2 := SP2.out
      go_wp2_with fail
      go_meet
      case rel => exact ⟨rfl, rfl⟩
  case rest =>
  obtain ⟨rfl, rfl⟩ := hcut
  go_upto_region 7 with fail
  go_cut [81] (fun s wx => s = .bool false ∧ w = wx)
  case first =>
    by_cases c1 : Q ≤ 8 * n
    · have i1 : (Q : Int) ≤ 8 * (n : Int) := by omega
      by_cases c2 : n ≤ 2 * Q
      · have i2 : (n : Int) ≤ 2 * (Q : Int) := by omega
        have e : K = b := by rw [HK.out]; exact want_fits (by rw [← HQ.out]; exact c1) (by rw [← HQ.out]; exact c2)
        have i3 : ((K : Int) != (b : Int)) = false := by simp [e]
        clear c1 c2 e
        have sQ := SQ.out
        have sQ2 := SQ2.out
        go_wp2_with fail
        go_meet
        case rel => exact ⟨rfl, rfl⟩
      · have i2 : decide ((n : Int) ≤ 2 * (Q : Int)) = false := by simp; omega
        clear c1 c2
        have sQ := SQ.out
        have sQ2 := SQ2.out
        go_wp2_with fail
        go_meet
        case rel => exact ⟨rfl, rfl⟩
    · have i1 : decide ((Q : Int) ≤ 8 * (n : Int)) = false := by simp; omega
      clear c1
      have sQ := SQ.out
      have sQ2 := SQ2.out
      go_wp2_with fail
      go_meet
      case rel => exact ⟨rfl, rfl⟩
  case rest =>
  obtain ⟨rfl, rfl⟩ := hcut
  go_upto_region 9 with fail
  go_cut [105] (fun s wx => s = .bool false ∧ w = wx)
  case first =>
    by_cases e : K = b
    · have i3 : ((K : Int) != (b : Int)) = false := by simp [e]
      clear e
      have sP := SP.out
      go_wp2_with fail
      go_meet
      case rel => exact ⟨rfl, rfl⟩
    · have i3 : ((K : Int) != (b : Int)) = true := by simp; omega
      have hr : K = ReP.room n := by rw [HK.out]; exact want_turned (by rw [← HK.out]; exact e)
      obtain ⟨r1, r2, r3⟩ := room_is n
      rw [← hr] at r1 r2 r3
      rw [← HP.out] at r3
      by_cases hk0 : K = 0
      · have j0 : decide ((0 : Int) < (K : Int)) = false := by simp [hk0]
        have j0' : decide (0 < K) = false := by simp [hk0]
        have j1 : decide (P < n) = false := by simp; omega
        clear r1 r2 r3 hr e hk0
        have sP := SP.out
        go_wp2_with fail
        go_meet
        case rel => exact ⟨rfl, rfl⟩
      · obtain ⟨j, hj⟩ : ∃ j, K = j + 1 := ⟨K - 1, by omega⟩
        have hjI : (K : Int) - 1 = (j : Int) := by omega
        obtain ⟨R, hR⟩ : ∃ R, R = 2 ^ j := ⟨_, rfl⟩
        have SR := Lib.hid (sh1 (by omega : j ≤ 10) hR)
        have hRn : R < n := by rw [hR]; exact r2 j (by omega)
        have j0 : decide (0 < K) = true := by simp; omega
        have j0' : 0 < K := by omega
        have j0'' : (0 : Int) < (K : Int) := by omega
        have j2 : decide (n ≤ R) = false := by simp; omega
        by_cases c1 : P < n
        · have j1 : decide (P < n) = true := by simp; omega
          have hK' : K = 10 := by omega
          have j3 : decide ((K : Int) < 10) = false := by simp; omega
          have hjI' := hjI
          clear r1 r2 r3 hr e hk0 hK' c1 hj hR hRn
          have sP := SP.out
          have sR := SR.out
          go_wp2_with fail
          go_meet
          case rel => exact ⟨rfl, rfl⟩
        · have j1 : decide (P < n) = false := by simp; omega
          clear r1 r2 r3 hr e hk0 c1 hj hR hRn
          have sP := SP.out
          have sR := SR.out
          go_wp2_with fail
          go_meet
          case rel => exact ⟨rfl, rfl⟩
  case rest =>
  obtain ⟨rfl, rfl⟩ := hcut
  by_cases hnm : n < m
  · have hI : (n : Int) < (m : Int) := by omega
    have hmon := want10_mono (x := n) (y := m) (by omega) (by omega)
    obtain ⟨X, hX⟩ : ∃ X, X = ReP.want n 10 := ⟨_, rfl⟩
    obtain ⟨Y, hY⟩ : ∃ Y, Y = ReP.want m 10 := ⟨_, rfl⟩
    have hcx := want_fine n 10 (by omega) (by omega) w
    have hcy := want_fine m 10 (by omega) (by omega) w
    rw [← hX] at hcx hmon
    rw [← hY] at hcy hmon
    have HX : Hid (Calls Try.prog 5 #[.int .i64 n, .int .i64 10] w fun e w' => e = .returned (.tuple #[.int .i64 X, .int .i64 0]) ∧ w = w') := Lib.hid hcx
    have HY : Hid (Calls Try.prog 5 #[.int .i64 m, .int .i64 10] w fun e w' => e = .returned (.tuple #[.int .i64 Y, .int .i64 0]) ∧ w = w') := Lib.hid hcy
    have HA := Lib.hid (awake_any HO.out)
    clear hcx hcy hX hY HK HP HQ kI
    by_cases c1 : X ≤ Y
    · have i1 : decide (X ≤ Y) = true := by simpa using c1
      clear c1 hmon
      go_wp2_with fail
      refine (HX.out).mono ?_
      rintro e w' ⟨rfl, rfl⟩
      go_wp2_with fail
      refine (HY.out).mono ?_
      rintro e w' ⟨rfl, rfl⟩
      go_wp2_with fail
      refine (HA.out).mono ?_
      rintro e w' ⟨rfl, rfl⟩
      go_wp2_with fail
      go_ret
      exact ⟨rfl, Ext.refl _⟩
    · have i1 : decide (X ≤ Y) = false := by simpa using c1
      have i2 : ((Y : Int) == 10) = true := by
        rcases hmon with h | h
        · exact absurd h c1
        · simp [h]
      clear c1 hmon
      go_wp2_with fail
      refine (HX.out).mono ?_
      rintro e w' ⟨rfl, rfl⟩
      go_wp2_with fail
      refine (HY.out).mono ?_
      rintro e w' ⟨rfl, rfl⟩
      go_wp2_with fail
      refine (HA.out).mono ?_
      rintro e w' ⟨rfl, rfl⟩
      go_wp2_with fail
      go_ret
      exact ⟨rfl, Ext.refl _⟩
  · by_cases heq : n = m
    · subst heq
      obtain ⟨X, hX⟩ : ∃ X, X = ReP.want n 10 := ⟨_, rfl⟩
      have hcx := want_fine n 10 (by omega) (by omega) w
      rw [← hX] at hcx
      have HX : Hid (Calls Try.prog 5 #[.int .i64 n, .int .i64 10] w fun e w' => e = .returned (.tuple #[.int .i64 X, .int .i64 0]) ∧ w = w') := Lib.hid hcx
      have HA := Lib.hid (awake_any HO.out)
      clear hcx hX HK HP HQ kI hnm
      go_wp2_with fail
      refine (HX.out).mono ?_
      rintro e w' ⟨rfl, rfl⟩
      go_wp2_with fail
      refine (HX.out).mono ?_
      rintro e w' ⟨rfl, rfl⟩
      go_wp2_with fail
      refine (HA.out).mono ?_
      rintro e w' ⟨rfl, rfl⟩
      go_wp2_with fail
      go_ret
      exact ⟨rfl, Ext.refl _⟩
    · have hI : (m : Int) < (n : Int) := by omega
      have hmon := want10_mono (x := m) (y := n) (by omega) (by omega)
      obtain ⟨X, hX⟩ : ∃ X, X = ReP.want m 10 := ⟨_, rfl⟩
      obtain ⟨Y, hY⟩ : ∃ Y, Y = ReP.want n 10 := ⟨_, rfl⟩
      have hcx := want_fine m 10 (by omega) (by omega) w
      have hcy := want_fine n 10 (by omega) (by omega) w
      rw [← hX] at hcx hmon
      rw [← hY] at hcy hmon
      have HX : Hid (Calls Try.prog 5 #[.int .i64 m, .int .i64 10] w fun e w' => e = .returned (.tuple #[.int .i64 X, .int .i64 0]) ∧ w = w') := Lib.hid hcx
      have HY : Hid (Calls Try.prog 5 #[.int .i64 n, .int .i64 10] w fun e w' => e = .returned (.tuple #[.int .i64 Y, .int .i64 0]) ∧ w = w') := Lib.hid hcy
      have HA := Lib.hid (awake_any HO.out)
      clear hcx hcy hX hY HK HP HQ kI
      by_cases c1 : X ≤ Y
      · have i1 : decide (X ≤ Y) = true := by simpa using c1
        clear c1 hmon
        go_wp2_with fail
        refine (HX.out).mono ?_
        rintro e w' ⟨rfl, rfl⟩
        go_wp2_with fail
        refine (HY.out).mono ?_
        rintro e w' ⟨rfl, rfl⟩
        go_wp2_with fail
        refine (HA.out).mono ?_
        rintro e w' ⟨rfl, rfl⟩
        go_wp2_with fail
        go_ret
        exact ⟨rfl, Ext.refl _⟩
      · have i1 : decide (X ≤ Y) = false := by simpa using c1
        have i2 : ((Y : Int) == 10) = true := by
          rcases hmon with h | h
          · exact absurd h c1
          · simp [h]
        clear c1 hmon
        go_wp2_with fail
        refine (HX.out).mono ?_
        rintro e w' ⟨rfl, rfl⟩
        go_wp2_with fail
        refine (HY.out).mono ?_
        rintro e w' ⟨rfl, rfl⟩
        go_wp2_with fail
        refine (HA.out).mono ?_
        rintro e w' ⟨rfl, rfl⟩
        go_wp2_with fail
        go_ret
        exact ⟨rfl, Ext.refl _⟩
end Go.Proofs.Ytbkmdijiceajkaa.Re
