/- DERIVED. Layer 15 (rehash): contracts of room, Want. -/
import Derived.Test.YtkdmlpigkmlkmaaOwn
import Derived.Test.YtkdmlpigkmlkmaaReP
import Derived.WalkMore
import Derived.ScopeJumps
set_option linter.unusedVariables false
set_option linter.unusedSimpArgs false
set_option maxRecDepth 100000
namespace Go.Proofs.Ytkdmlpigkmlkmaa.Re
open Go.RowKit Go.Proofs.Ytkdmlpigkmlkmaa Go.Proofs.Ytkdmlpigkmlkmaa.ReP

theorem pw_le {k : Nat} (h : k ≤ 10) : 1 ≤ 2 ^ k ∧ 2 ^ k ≤ 1024 := by
  have h1 := pow_mono (Nat.zero_le k)
  have h2 := pow_mono h
  simp at h1 h2
  omega
def RJ (n : Nat) (w : World) (a' : Act) (w' : World) : Prop :=
  w' = w ∧ ∃ (b : Nat) (u4 u5 u6 u7 u8 u9 u10 u11 u12 u13 : Value), a' = { tmps := #[.int .i64 n, undef, .int .i64 0, .int .i64 b, u4, u5, u6, u7, u8, u9, u10, u11, u12, u13, undef], defers := [] } ∧ b ≤ 10 ∧ ∀ c, c < b → 2 ^ c < n
theorem room_any (n : Nat) (hn : n ≤ 4096) (w : World) :
    Calls Try.prog 89 #[.int .i64 n] w fun e w' => e = .returned (.int .i64 ((ReP.room n : Nat) : Int)) ∧ w = w' := by
  go_enter Try.func89, Try.ntmps89
  go_wp2
  refine wp_scope_jumps 0 (RJ n w) (fun a' _ => 10 - (intOf (a'.tmps.getD 3 undef)).toNat) rfl ?_ ?_
  · go_wp2
    go_step3
    by_cases h0 : 1 < n
    · have hI : (1 : Int) < n := by omega
      go_wp2
      go_step3
      refine ⟨rfl, rfl, 1, _, _, _, _, _, _, _, _, _, _, rfl, by omega, fun c hc => ?_⟩
      obtain rfl : c = 0 := by omega
      simpa using h0
    · have hI : ¬ (1 : Int) < n := by omega
      have hr : ReP.room n = 0 := isRoom_unique (room_is n) ⟨by omega, fun c hc => absurd hc (Nat.not_lt_zero c), .inr (by simpa using Nat.le_of_not_lt h0)⟩
      have HR := Lib.hid hr
      clear hr
      go_wp2
      simp only [Exit.jump]
      go_ret
      rw [HR.out]
      exact ⟨rfl, rfl⟩
  · rintro a' w' ⟨rfl, b, u4, u5, u6, u7, u8, u9, u10, u11, u12, u13, rfl, hb, hc⟩
    obtain ⟨p1, p2⟩ := pw_le hb
    obtain ⟨P, hP⟩ : ∃ P, P = 2 ^ b := ⟨_, rfl⟩
    have hsh : wrap64 ((2 : Int) ^ b) = (P : Int) := by
      have e : ((2 : Int) ^ b) = (P : Int) := by rw [hP]; simp
      rw [e]
      unfold wrap64
      omega
    rw [← hP] at p1 p2
    have HP := Lib.hid hP
    have HC := Lib.hid hc
    clear hc hP
    by_cases h10 : b < 10
    · have hI : (b : Int) < 10 := by omega
      by_cases hn2 : P < n
      · have hI2 : (P : Int) < n := by omega
        go_wp2
        go_step3
        refine ⟨rfl, ⟨rfl, b + 1, _, _, _, _, _, _, _, _, _, _, rfl, by omega, fun c hc => ?_⟩, ?_⟩
        · by_cases e : c = b
          · rw [e, ← HP.out]; exact hn2
          · exact HC.out c (by omega)
        · simp [intOf]; omega
      · have hI2 : ¬ (P : Int) < n := by omega
        have hr : ReP.room n = b := isRoom_unique (room_is n) ⟨hb, HC.out, .inr (by rw [← HP.out]; omega)⟩
        have HR := Lib.hid hr
        clear hr
        go_wp2
        simp only [Exit.jump]
        go_ret
        rw [HR.out]
        exact ⟨rfl, rfl⟩
    · obtain rfl : b = 10 := by omega
      have hr : ReP.room n = 10 := isRoom_unique (room_is n) ⟨hb, HC.out, .inl rfl⟩
      have HR := Lib.hid hr
      clear hr hsh
      go_wp2
      simp only [Exit.jump]
      go_ret
      rw [HR.out]
      exact ⟨rfl, rfl⟩
end Go.Proofs.Ytkdmlpigkmlkmaa.Re
