/- DERIVED. Layer 15 (rehash): contract of Want. -/
import Derived.Test.YtkdmlpigkmlkmaaReA
set_option linter.unusedVariables false
set_option linter.unusedSimpArgs false
set_option maxRecDepth 100000
namespace Go.Proofs.Ytkdmlpigkmlkmaa.Re
open Go.RowKit Go.Proofs.Ytkdmlpigkmlkmaa Go.Proofs.Ytkdmlpigkmlkmaa.ReP

theorem want_fine (n k : Nat) (hn : n ≤ 4096) (hk : k ≤ 10) (w : World) :
    Calls Try.prog 72 #[.int .i64 n, .int .i64 k] w fun e w' => e = .returned (.tuple #[.int .i64 ((ReP.want n k : Nat) : Int), .int .i64 0]) ∧ w = w' := by
  obtain ⟨p1, p2⟩ := pw_le hk
  obtain ⟨P, hP⟩ : ∃ P, P = 2 ^ k := ⟨_, rfl⟩
  have hsh : wrap64 ((2 : Int) ^ k) = (P : Int) := by
    have e : ((2 : Int) ^ k) = (P : Int) := by rw [hP]; simp
    rw [e]
    unfold wrap64
    rw [← hP] at p1 p2
    omega
  rw [← hP] at p1 p2
  have kI : (k : Int) ≤ 10 := by omega
  by_cases h1 : 2 * P < n
  · have hI : 2 * (P : Int) < n := by omega
    have hw : ReP.want n k = ReP.room n := by unfold ReP.want; rw [← hP, if_pos (.inl h1)]
    rw [hw]
    clear hw hP
    go_enter Try.func72, Try.ntmps72
    go_wp2_with (go_at_call 89; refine (room_any n hn _).mono ?_; rintro e w' ⟨rfl, rfl⟩)
    go_ret2
    exact ⟨rfl, rfl⟩
  · by_cases h2 : 8 * n < P
    · have hI : ¬ 2 * (P : Int) < n := by omega
      have hI' : decide (2 * (P : Int) < n) = false := by simpa using hI
      have hI2 : 8 * (n : Int) < P := by omega
      have hw : ReP.want n k = ReP.room n := by unfold ReP.want; rw [← hP, if_pos (.inr h2)]
      rw [hw]
      clear hw hP hI
      go_enter Try.func72, Try.ntmps72
      go_wp2_with (go_at_call 89; refine (room_any n hn _).mono ?_; rintro e w' ⟨rfl, rfl⟩)
      go_ret2
      exact ⟨rfl, rfl⟩
    · have hI' : decide (2 * (P : Int) < n) = false := by simp; omega
      have hI2 : ¬ 8 * (n : Int) < P := by omega
      have hw : ReP.want n k = k := by unfold ReP.want; rw [← hP, if_neg (by omega)]
      rw [hw]
      clear hw hP
      go_enter Try.func72, Try.ntmps72
      go_wp2_with fail
      go_ret2
      exact ⟨rfl, rfl⟩
end Go.Proofs.Ytkdmlpigkmlkmaa.Re
