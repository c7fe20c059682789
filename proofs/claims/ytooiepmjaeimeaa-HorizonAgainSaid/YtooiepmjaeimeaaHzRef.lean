/- DERIVED. The reference of layer 20 computes what layer 20 does. -/
import Derived.Test.YtooiepmjaeimeaaHzB
set_option linter.unusedVariables false
set_option linter.unusedSimpArgs false
namespace Go.Proofs.Ytooiepmjaeimeaa.Hz
open Go.RowKit

theorem rsat_any (a b : Int) (w : World) (ha : 0 ≤ a) (ha' : a ≤ 18446744073709551615) (hb : 0 ≤ b) (hb' : b ≤ 18446744073709551615) :
    Calls Try.prog 30 #[.int .u64 a, .int .u64 b] w fun e w' => e = .returned (.int .u64 (sat a b)) ∧ w = w' := by
  unfold sat
  by_cases h : a + b ≤ 18446744073709551615
  · have h1 : ¬ (18446744073709551615 - a < b) := by omega
    have h2 : (a + b) % 18446744073709551616 = a + b := by omega
    rw [if_pos h]
    go_enter Try.func30, Try.ntmps30
    go_wp2
    go_ret
    exact ⟨rfl, rfl⟩
  · have h1 : 18446744073709551615 - a < b := by omega
    rw [if_neg h]
    go_enter Try.func30, Try.ntmps30
    go_wp2
    go_ret
    exact ⟨rfl, rfl⟩
theorem redge_any (a b : Int) (w : World) (ha : 0 ≤ a) (ha' : a ≤ 18446744073709551615) (hb : 0 ≤ b) (hb' : b ≤ 18446744073709551615) :
    Calls Try.prog 16 #[.int .u64 a, .int .u64 b] w fun e w' => e = .returned (.int .u64 (sat a b)) ∧ w = w' := by
  go_enter Try.func16, Try.ntmps16
  go_wp2_with (go_at_call 30; refine (rsat_any _ _ _ ha ha' hb hb').mono ?_; rintro e w' ⟨rfl, rfl⟩)
  go_ret
  exact ⟨rfl, rfl⟩
theorem rfar_any (x a b : Int) (w : World) (hx : 0 ≤ x) (hx' : x ≤ 18446744073709551615) (ha : 0 ≤ a) (ha' : a ≤ 18446744073709551615) (hb : 0 ≤ b) (hb' : b ≤ 18446744073709551615) :
    Calls Try.prog 18 #[.int .u64 x, .int .u64 a, .int .u64 b] w fun e w' => e = .returned (.int .u64 (farF x (sat a b))) ∧ w = w' := by
  obtain ⟨s0, s1⟩ := sat_bd a b ha hb
  by_cases h : x ≤ sat a b
  · have h1 : farF x (sat a b) = 0 := by unfold farF; split <;> omega
    rw [h1]
    go_enter Try.func18, Try.ntmps18
    go_wp2_with (first | (go_at_call 16; refine (redge_any _ _ _ ha ha' hb hb').mono ?_; rintro e w' ⟨rfl, rfl⟩))
    go_ret
    exact ⟨rfl, rfl⟩
  · have h1 : farF x (sat a b) = x - sat a b := by unfold farF; split <;> omega
    rw [h1]
    go_enter Try.func18, Try.ntmps18
    go_wp2_with (first | (go_at_call 16; refine (redge_any _ _ _ ha ha' hb hb').mono ?_; rintro e w' ⟨rfl, rfl⟩))
    go_ret
    exact ⟨rfl, rfl⟩
theorem radmit_any (x a b : Int) (cap : Bool) (w : World) (hx : 0 ≤ x) (hx' : x ≤ 18446744073709551615) (ha : 0 ≤ a) (ha' : a ≤ 18446744073709551615) (hb : 0 ≤ b) (hb' : b ≤ 18446744073709551615) :
    Calls Try.prog 14 #[.int .u64 x, .int .u64 a, .int .u64 b, .bool cap] w fun e w' => e = .returned (.tuple #[.int .u64 (admA x (sat a b) cap), .bool (admB x (sat a b) cap)]) ∧ w = w' := by
  unfold admA admB
  by_cases h : x ≤ sat a b
  · rw [if_pos h, decide_eq_true h]
    go_enter Try.func14, Try.ntmps14
    go_wp2_with (first | (go_at_call 16; refine (redge_any _ _ _ ha ha' hb hb').mono ?_; rintro e w' ⟨rfl, rfl⟩))
    go_ret2
    exact ⟨rfl, rfl⟩
  · rw [if_neg h, decide_eq_false h]
    cases cap
    · go_enter Try.func14, Try.ntmps14
      go_wp2_with (first | (go_at_call 16; refine (redge_any _ _ _ ha ha' hb hb').mono ?_; rintro e w' ⟨rfl, rfl⟩))
      go_ret2
      exact ⟨rfl, rfl⟩
    · go_enter Try.func14, Try.ntmps14
      go_wp2_with (first | (go_at_call 16; refine (redge_any _ _ _ ha ha' hb hb').mono ?_; rintro e w' ⟨rfl, rfl⟩))
      go_ret2
      exact ⟨rfl, rfl⟩
theorem rleaves_any (a b c : Int) (w : World) (ha : 0 ≤ a) :
    Calls Try.prog 20 #[.int .u64 a, .int .u64 b, .int .u64 c] w fun e w' => e = .returned (.int .u64 (mx3 a b c)) ∧ w = w' := by
  by_cases h1 : b ≤ a ∧ c ≤ a
  · obtain ⟨h1, h2⟩ := h1
    have e : mx3 a b c = a := by unfold mx3 mx; rw [if_neg (by omega : ¬ a < b), if_neg (by omega)]
    rw [e]
    clear e
    go_enter Try.func20, Try.ntmps20
    go_wp2
    go_ret
    exact ⟨rfl, rfl⟩
  · by_cases h2 : c ≤ b
    · have hab : a < b := by omega
      have e : mx3 a b c = b := by unfold mx3 mx; rw [if_pos hab, if_neg (by omega)]
      have Hc : Hid (mx3 a b c = b) := Lib.hid e
      clear e h1
      go_enter Try.func20, Try.ntmps20
      go_wp2
      go_ret
      exact ⟨by rw [Hc.out]; rfl, rfl⟩
    · have e : mx3 a b c = c := by unfold mx3 mx; split <;> rw [if_pos (by omega)]
      have Hc : Hid (mx3 a b c = c) := Lib.hid e
      clear e
      by_cases h3 : b ≤ a
      · have h4 : a < c := by omega
        clear h1
        go_enter Try.func20, Try.ntmps20
        go_wp2
        go_ret
        exact ⟨by rw [Hc.out]; rfl, rfl⟩
      · clear h1
        go_enter Try.func20, Try.ntmps20
        go_wp2
        go_ret
        exact ⟨by rw [Hc.out]; rfl, rfl⟩
end Go.Proofs.Ytooiepmjaeimeaa.Hz
