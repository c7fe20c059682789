/- DERIVED. The laws of layer 20: each returns true. -/
import Derived.Test.YtooiepmjaeimeaaHzRef
set_option linter.unusedVariables false
set_option linter.unusedSimpArgs false
namespace Go.Proofs.Ytooiepmjaeimeaa.HzLaw
open Go.RowKit Go.Proofs.Ytooiepmjaeimeaa.Hz

theorem sat_facts (a b : Int) (ha : 0 ≤ a) (hb : 0 ≤ b) (ha' : a ≤ 18446744073709551615) : ∃ E, sat a b = E ∧ 0 ≤ E ∧ E ≤ 18446744073709551615 ∧ a ≤ E ∧ (E < 18446744073709551615 → E - a = b) := by
  refine ⟨sat a b, rfl, ?_⟩
  unfold sat
  split <;> omega
set_option maxHeartbeats 400000 in
theorem tells (a0 a1 a2 a3 : Int) (a4 : Bool) (w0 : (Lit.int .u64 a0).wf = true) (w1 : (Lit.int .u64 a1).wf = true) (w2 : (Lit.int .u64 a2).wf = true) (w3 : (Lit.int .u64 a3).wf = true) (w : World) :
    Calls Try.prog 3 #[.int .u64 a0, .int .u64 a1, .int .u64 a2, .int .u64 a3, .bool a4] w fun e w' => e = .returned (.bool true) ∧ Ext w w' := by
  obtain ⟨l0, u0⟩ := u64_bd w0
  obtain ⟨l1, u1⟩ := u64_bd w1
  obtain ⟨l2, u2⟩ := u64_bd w2
  obtain ⟨l3, u3⟩ := u64_bd w3
  clear w0 w1 w2 w3
  go_enter Try.func3, Try.ntmps3
  go_wp2_with (first | (go_at_call 13; refine (admit_any _ _ _ _ _ l0 u0 l1 u1 l3 u3).mono ?_; rintro e w' ⟨rfl, rfl⟩) | (go_at_call 14; refine (radmit_any _ _ _ _ _ l0 u0 l1 u1 l3 u3).mono ?_; rintro e w' ⟨rfl, rfl⟩) | (go_at_call 15; refine (edge_any _ _ _ l1 u1 l3 u3).mono ?_; rintro e w' ⟨rfl, rfl⟩) | (go_at_call 16; refine (redge_any _ _ _ l1 u1 l3 u3).mono ?_; rintro e w' ⟨rfl, rfl⟩) | (go_at_call 17; refine (far_any _ _ _ _ l0 u0 l1 u1 l3 u3).mono ?_; rintro e w' ⟨rfl, rfl⟩) | (go_at_call 18; refine (rfar_any _ _ _ _ l0 u0 l1 u1 l3 u3).mono ?_; rintro e w' ⟨rfl, rfl⟩) | (go_at_call 19; refine (leaves_any _ _ _ _ l0).mono ?_; rintro e w' ⟨rfl, hg1⟩) | (go_at_call 20; refine (rleaves_any _ _ _ _ l0).mono ?_; rintro e w' ⟨rfl, rfl⟩) | (go_at_call 21; refine (awake_any _).mono ?_; rintro e w' ⟨rfl, hg2⟩))
  go_ret
  exact ⟨rfl, hg1.trans hg2⟩
theorem admits_of (a0 a1 a3 E : Int) (a4 : Bool) (w : World) (l0 : 0 ≤ a0) (u0 : a0 ≤ 18446744073709551615) (l1 : 0 ≤ a1) (u1 : a1 ≤ 18446744073709551615) (l3 : 0 ≤ a3) (u3 : a3 ≤ 18446744073709551615)
    (hE : sat a1 a3 = E) (lE : 0 ≤ E) (uE : E ≤ 18446744073709551615) (c1 : a1 ≤ E) (c2 : E < 18446744073709551615 → E - a1 = a3) :
    Calls Try.prog 4 #[.int .u64 a0, .int .u64 a1, .int .u64 a3, .bool a4] w fun e w' => e = .returned (.bool true) ∧ Ext w w' := by
  by_cases hm : E < 18446744073709551615
  · obtain rfl := c2 hm
    by_cases h : a0 ≤ E
    · have k1 : admA a0 E a4 = a0 := by unfold admA; rw [if_pos h]
      have k2 : admB a0 E a4 = true := by unfold admB; simp [h]
      clear c2
      go_enter Try.func4, Try.ntmps4
      go_wp2_with (first | (go_at_call 13; refine (admit_any _ _ _ _ _ l0 u0 l1 u1 l3 u3).mono ?_; rintro e w' ⟨rfl, rfl⟩) | (go_at_call 15; refine (edge_any _ _ _ l1 u1 l3 u3).mono ?_; rintro e w' ⟨rfl, rfl⟩) | (go_at_call 17; refine (far_any _ _ _ _ l0 u0 l1 u1 l3 u3).mono ?_; rintro e w' ⟨rfl, rfl⟩) | (go_at_call 21; refine (awake_any _).mono ?_; rintro e w' ⟨rfl, hg2⟩))
      go_ret
      exact ⟨rfl, hg2⟩
    · have k3 : farF a0 E = a0 - E := by unfold farF; rw [if_neg (by omega)]
      have k4 : (E == a0) = false := by simp; omega
      have k5 : decide (a0 ≤ E) = false := by simp; omega
      cases a4
      · have k1 : admA a0 E false = 0 := by unfold admA; rw [if_neg h]; rfl
        have k2 : admB a0 E false = false := by unfold admB; simp; omega
        clear c2
        go_enter Try.func4, Try.ntmps4
        go_wp2_with (first | (go_at_call 13; refine (admit_any _ _ _ _ _ l0 u0 l1 u1 l3 u3).mono ?_; rintro e w' ⟨rfl, rfl⟩) | (go_at_call 15; refine (edge_any _ _ _ l1 u1 l3 u3).mono ?_; rintro e w' ⟨rfl, rfl⟩) | (go_at_call 17; refine (far_any _ _ _ _ l0 u0 l1 u1 l3 u3).mono ?_; rintro e w' ⟨rfl, rfl⟩) | (go_at_call 21; refine (awake_any _).mono ?_; rintro e w' ⟨rfl, hg2⟩))
        go_ret
        exact ⟨rfl, hg2⟩
      · have k1 : admA a0 E true = E := by unfold admA; rw [if_neg h]; rfl
        have k2 : admB a0 E true = true := by unfold admB; simp
        clear c2
        go_enter Try.func4, Try.ntmps4
        go_wp2_with (first | (go_at_call 13; refine (admit_any _ _ _ _ _ l0 u0 l1 u1 l3 u3).mono ?_; rintro e w' ⟨rfl, rfl⟩) | (go_at_call 15; refine (edge_any _ _ _ l1 u1 l3 u3).mono ?_; rintro e w' ⟨rfl, rfl⟩) | (go_at_call 17; refine (far_any _ _ _ _ l0 u0 l1 u1 l3 u3).mono ?_; rintro e w' ⟨rfl, rfl⟩) | (go_at_call 21; refine (awake_any _).mono ?_; rintro e w' ⟨rfl, hg2⟩))
        go_ret
        exact ⟨rfl, hg2⟩
  · obtain rfl : E = 18446744073709551615 := by omega
    have h : a0 ≤ 18446744073709551615 := u0
    have k1 : admA a0 18446744073709551615 a4 = a0 := by unfold admA; rw [if_pos h]
    have k2 : admB a0 18446744073709551615 a4 = true := by unfold admB; simp [h]
    clear c2
    go_enter Try.func4, Try.ntmps4
    go_wp2_with (first | (go_at_call 13; refine (admit_any _ _ _ _ _ l0 u0 l1 u1 l3 u3).mono ?_; rintro e w' ⟨rfl, rfl⟩) | (go_at_call 15; refine (edge_any _ _ _ l1 u1 l3 u3).mono ?_; rintro e w' ⟨rfl, rfl⟩) | (go_at_call 17; refine (far_any _ _ _ _ l0 u0 l1 u1 l3 u3).mono ?_; rintro e w' ⟨rfl, rfl⟩) | (go_at_call 21; refine (awake_any _).mono ?_; rintro e w' ⟨rfl, hg2⟩))
    go_ret
    exact ⟨rfl, hg2⟩
theorem admits (a0 a1 a2 : Int) (a3 : Bool) (w0 : (Lit.int .u64 a0).wf = true) (w1 : (Lit.int .u64 a1).wf = true) (w2 : (Lit.int .u64 a2).wf = true) (w : World) :
    Calls Try.prog 4 #[.int .u64 a0, .int .u64 a1, .int .u64 a2, .bool a3] w fun e w' => e = .returned (.bool true) ∧ Ext w w' := by
  obtain ⟨l0, u0⟩ := u64_bd w0
  obtain ⟨l1, u1⟩ := u64_bd w1
  obtain ⟨l2, u2⟩ := u64_bd w2
  obtain ⟨E, e1, e2, e3, e4, e5⟩ := sat_facts a1 a2 l1 l2 u1
  exact admits_of a0 a1 a2 E a3 w l0 u0 l1 u1 l2 u2 e1 e2 e3 e4 e5
theorem sat_mono (a b c d : Int) (h : a ≤ c) (h' : b ≤ d) : sat a b ≤ sat c d := by unfold sat; split <;> split <;> omega
theorem again_of (a0 a1 a2 a3 a4 : Int) (a5 : Bool) (w : World) (l0 : 0 ≤ a0) (u0 : a0 ≤ 18446744073709551615) (l1 : 0 ≤ a1) (u1 : a1 ≤ 18446744073709551615) (l2 : 0 ≤ a2) (u2 : a2 ≤ 18446744073709551615)
    (l3 : 0 ≤ a3) (u3 : a3 ≤ 18446744073709551615) (l4 : 0 ≤ a4) (u4 : a4 ≤ 18446744073709551615) :
    Calls Try.prog 5 #[.int .u64 a0, .int .u64 a1, .int .u64 a2, .int .u64 a3, .int .u64 a4, .bool a5] w fun e w' => e = .returned (.bool true) ∧ Ext w w' := by
  cases hb : admB a0 (sat a1 a2) a5 with
  | false =>
    go_enter Try.func5, Try.ntmps5
    go_wp2_with (first | (go_at_call 13; refine (admit_any _ _ _ _ _ l0 u0 l1 u1 l2 u2).mono ?_; rintro e w' ⟨rfl, rfl⟩) | (go_at_call 21; refine (awake_any _).mono ?_; rintro e w' ⟨rfl, hg2⟩))
    go_ret
    exact ⟨rfl, hg2⟩
  | true =>
    -- what comes out is at most the edge
    obtain ⟨X, hX, lX, uX, hXE⟩ : ∃ X, admA a0 (sat a1 a2) a5 = X ∧ 0 ≤ X ∧ X ≤ 18446744073709551615 ∧ X ≤ sat a1 a2 := by
      refine ⟨_, rfl, ?_⟩
      obtain ⟨s0, s1⟩ := sat_bd a1 a2 l1 l2
      unfold admB at hb
      unfold admA
      by_cases h : a0 ≤ sat a1 a2
      · rw [if_pos h]; omega
      · rw [if_neg h]
        simp [h] at hb
        rw [if_pos hb]; omega
    obtain ⟨p0, p1⟩ := sat_bd a1 a3 l1 l3
    obtain ⟨q0, q1⟩ := sat_bd a2 a4 l2 l4
    have hle : X ≤ sat (sat a1 a3) (sat a2 a4) := by
      refine Int.le_trans hXE (sat_mono _ _ _ _ ?_ ?_)
      · unfold sat; split <;> omega
      · unfold sat; split <;> omega
    have kA : ∀ c, admA X (sat (sat a1 a3) (sat a2 a4)) c = X := fun c => by unfold admA; rw [if_pos hle]
    have kB : ∀ c, admB X (sat (sat a1 a3) (sat a2 a4)) c = true := fun c => by unfold admB; simp [hle]
    clear hle hXE
    go_enter Try.func5, Try.ntmps5
    go_wp2_with (first | (go_at_call 13; refine (admit_any _ _ _ _ _ l0 u0 l1 u1 l2 u2).mono ?_; rintro e w' ⟨rfl, rfl⟩))
    go_loop [32] (fun i => ∃ k : Nat, k ≤ 2 ∧ i = .int .i64 k) (fun i => 2 - (intOf i).toNat)
    case atStart => exact ⟨0, by omega, rfl⟩
    case round =>
      obtain ⟨k, hk, rfl⟩ := hrel
      have arms : k = 0 ∨ k = 1 ∨ k = 2 := by omega
      rcases arms with rfl | rfl | rfl
      · go_wp2_with (first | (go_at_call 22; refine (sat_add _ _ _ (by assumption) (by assumption) (by assumption) (by assumption)).mono ?_; rintro e w' ⟨rfl, rfl⟩) | (go_at_call 13; refine (admit_any _ _ _ _ _ lX uX p0 p1 q0 q1).mono ?_; rintro e w' ⟨rfl, rfl⟩))
        go_round
        case rel => exact ⟨1, by omega, rfl⟩
        case measure => decide
      · go_wp2_with (first | (go_at_call 22; refine (sat_add _ _ _ (by assumption) (by assumption) (by assumption) (by assumption)).mono ?_; rintro e w' ⟨rfl, rfl⟩) | (go_at_call 13; refine (admit_any _ _ _ _ _ lX uX p0 p1 q0 q1).mono ?_; rintro e w' ⟨rfl, rfl⟩))
        go_round
        case rel => exact ⟨2, by omega, rfl⟩
        case measure => decide
      · go_wp2_with (first | (go_at_call 21; refine (awake_any _).mono ?_; rintro e w' ⟨rfl, hg2⟩))
        go_ret
        exact ⟨rfl, ((Ext.refl _).alloc _).trans hg2⟩
theorem again (a0 a1 a2 a3 a4 : Int) (a5 : Bool) (w0 : (Lit.int .u64 a0).wf = true) (w1 : (Lit.int .u64 a1).wf = true) (w2 : (Lit.int .u64 a2).wf = true) (w3 : (Lit.int .u64 a3).wf = true) (w4 : (Lit.int .u64 a4).wf = true) (w : World) :
    Calls Try.prog 5 #[.int .u64 a0, .int .u64 a1, .int .u64 a2, .int .u64 a3, .int .u64 a4, .bool a5] w fun e w' => e = .returned (.bool true) ∧ Ext w w' :=
  again_of a0 a1 a2 a3 a4 a5 w (u64_bd w0).1 (u64_bd w0).2 (u64_bd w1).1 (u64_bd w1).2 (u64_bd w2).1 (u64_bd w2).2 (u64_bd w3).1 (u64_bd w3).2 (u64_bd w4).1 (u64_bd w4).2
/-- what the order of instants and horizons asks of Admit and Far -/
theorem order_facts (a b E F : Int) (c : Bool) (hab : a ≤ b) (hEF : E ≤ F) (h0 : 0 ≤ a) (hE : 0 ≤ E) :
    (admB b E c = true → admB a E c = true) ∧ (admB b E c = true → admB a E c = true → admA a E c ≤ admA b E c) ∧ (admB b E c = true → admB b F c = true) ∧ (admB b E c = true → admA b E c ≤ admA b F c) ∧
      farF a E ≤ farF b E ∧ farF b F ≤ farF b E := by
  unfold admA admB farF
  cases c <;> simp only [Bool.or_false, Bool.or_true, decide_eq_true_eq, Bool.false_eq_true, ↓reduceIte] <;> (refine ⟨?_, ?_, ?_, ?_, ?_, ?_⟩) <;> intros <;> (repeat' split) <;> omega
theorem order_of (low high a0 a1 a2 a3 a4 : Int) (a5 : Bool) (w : World) (l0 : 0 ≤ a0) (u0 : a0 ≤ 18446744073709551615) (l1 : 0 ≤ a1) (u1 : a1 ≤ 18446744073709551615) (l2 : 0 ≤ a2) (u2 : a2 ≤ 18446744073709551615)
    (l3 : 0 ≤ a3) (u3 : a3 ≤ 18446744073709551615) (l4 : 0 ≤ a4) (u4 : a4 ≤ 18446744073709551615) (hlow : (if a1 < a0 then a1 else a0) = low) (hhigh : (if a0 < a1 then a1 else a0) = high) :
    Calls Try.prog 6 #[.int .u64 a0, .int .u64 a1, .int .u64 a2, .int .u64 a3, .int .u64 a4, .bool a5] w fun e w' => e = .returned (.bool true) ∧ Ext w w' := by
  obtain ⟨p0, p1⟩ := sat_bd a3 a4 l3 l4
  obtain ⟨s0, s1⟩ := sat_bd a2 a3 l2 l3
  obtain ⟨t0, t1⟩ := sat_bd a2 (sat a3 a4) l2 p0
  have hEF : sat a2 a3 ≤ sat a2 (sat a3 a4) := sat_mono _ _ _ _ (Int.le_refl _) (by unfold sat; split <;> omega)
  have b1 : 0 ≤ low ∧ low ≤ 18446744073709551615 ∧ 0 ≤ high ∧ high ≤ 18446744073709551615 ∧ low ≤ high := by
    subst hlow hhigh; refine ⟨?_, ?_, ?_, ?_, ?_⟩ <;> (repeat' split) <;> omega
  obtain ⟨b1, b2, b3, b4, b5⟩ := b1
  obtain ⟨f1, f2, f3, f4, f5, f6⟩ := order_facts low high (sat a2 a3) (sat a2 (sat a3 a4)) a5 b5 hEF b1 s0
  clear hEF
  cases hb : admB high (sat a2 a3) a5 with
  | true =>
    have hb1 := f1 hb
    have hb3 := f3 hb
    have f2' := f2 hb hb1
    have f4' := f4 hb
    clear f1 f2 f3 f4
    go_enter Try.func6, Try.ntmps6
    go_wp2_with (first | (go_at_call 22; refine (sat_add _ _ _ l3 u3 l4 u4).mono ?_; rintro e w' ⟨rfl, rfl⟩) | (go_at_call 13; refine (admit_any _ _ _ _ _ (by assumption) (by assumption) (by assumption) (by assumption) (by assumption) (by assumption)).mono ?_; rintro e w' ⟨rfl, rfl⟩) | (go_at_call 17; refine (far_any _ _ _ _ (by assumption) (by assumption) (by assumption) (by assumption) (by assumption) (by assumption)).mono ?_; rintro e w' ⟨rfl, rfl⟩) | (go_at_call 21; refine (awake_any _).mono ?_; rintro e w' ⟨rfl, hg2⟩))
    go_ret
    exact ⟨rfl, hg2⟩
  | false =>
    clear f1 f2 f3 f4
    cases hb1 : admB low (sat a2 a3) a5 with
    | true =>
      go_enter Try.func6, Try.ntmps6
      go_wp2_with (first | (go_at_call 22; refine (sat_add _ _ _ l3 u3 l4 u4).mono ?_; rintro e w' ⟨rfl, rfl⟩) | (go_at_call 13; refine (admit_any _ _ _ _ _ (by assumption) (by assumption) (by assumption) (by assumption) (by assumption) (by assumption)).mono ?_; rintro e w' ⟨rfl, rfl⟩) | (go_at_call 17; refine (far_any _ _ _ _ (by assumption) (by assumption) (by assumption) (by assumption) (by assumption) (by assumption)).mono ?_; rintro e w' ⟨rfl, rfl⟩) | (go_at_call 21; refine (awake_any _).mono ?_; rintro e w' ⟨rfl, hg2⟩))
      go_ret
      exact ⟨rfl, hg2⟩
    | false =>
      go_enter Try.func6, Try.ntmps6
      go_wp2_with (first | (go_at_call 22; refine (sat_add _ _ _ l3 u3 l4 u4).mono ?_; rintro e w' ⟨rfl, rfl⟩) | (go_at_call 13; refine (admit_any _ _ _ _ _ (by assumption) (by assumption) (by assumption) (by assumption) (by assumption) (by assumption)).mono ?_; rintro e w' ⟨rfl, rfl⟩) | (go_at_call 17; refine (far_any _ _ _ _ (by assumption) (by assumption) (by assumption) (by assumption) (by assumption) (by assumption)).mono ?_; rintro e w' ⟨rfl, rfl⟩) | (go_at_call 21; refine (awake_any _).mono ?_; rintro e w' ⟨rfl, hg2⟩))
      go_ret
      exact ⟨rfl, hg2⟩
theorem order (a0 a1 a2 a3 a4 : Int) (a5 : Bool) (w0 : (Lit.int .u64 a0).wf = true) (w1 : (Lit.int .u64 a1).wf = true) (w2 : (Lit.int .u64 a2).wf = true) (w3 : (Lit.int .u64 a3).wf = true) (w4 : (Lit.int .u64 a4).wf = true) (w : World) :
    Calls Try.prog 6 #[.int .u64 a0, .int .u64 a1, .int .u64 a2, .int .u64 a3, .int .u64 a4, .bool a5] w fun e w' => e = .returned (.bool true) ∧ Ext w w' :=
  order_of _ _ a0 a1 a2 a3 a4 a5 w (u64_bd w0).1 (u64_bd w0).2 (u64_bd w1).1 (u64_bd w1).2 (u64_bd w2).1 (u64_bd w2).2 (u64_bd w3).1 (u64_bd w3).2 (u64_bd w4).1 (u64_bd w4).2 rfl rfl
theorem leaves_facts (a b c m : Int) (ha : 0 ≤ a) (hb : 0 ≤ b) (hc : 0 ≤ c) (hm : 0 ≤ m) : ∃ M, mx3 a b c = M ∧ a ≤ M ∧ b ≤ M ∧ c ≤ M ∧ (M = a ∨ M = b ∨ M = c) ∧ mx3 c a b = M ∧ mx3 b c a = M ∧ mx3 M m 0 = mx M m := by
  refine ⟨_, rfl, ?_⟩
  unfold mx3 mx
  refine ⟨?_, ?_, ?_, ?_, ?_, ?_, ?_⟩ <;> (repeat' split) <;> omega
set_option maxHeartbeats 1000000 in
theorem leaves_of (a0 a1 a2 a3 M : Int) (w : World) (l0 : 0 ≤ a0) (l1 : 0 ≤ a1) (l2 : 0 ≤ a2) (l3 : 0 ≤ a3) (e1 : mx3 a0 a1 a2 = M) (e2 : a0 ≤ M) (e3 : a1 ≤ M) (e4 : a2 ≤ M) (e6 : mx3 a2 a0 a1 = M) (e7 : mx3 a1 a2 a0 = M) (N : Int) (e8 : mx3 M a3 0 = N) (e9 : (M < a3 ∧ N = a3) ∨ (a3 ≤ M ∧ N = M))
    (c : M = a0 ∨ ((M != a0) = true ∧ M = a1) ∨ ((M != a0) = true ∧ (M != a1) = true ∧ M = a2)) (lM : 0 ≤ M) :
    Calls Try.prog 7 #[.int .u64 a0, .int .u64 a1, .int .u64 a2, .int .u64 a3] w fun e w' => e = .returned (.bool true) ∧ Ext w w' := by
  have Hx : ∀ (x y z : Int) (w : World), 0 ≤ x → Calls Try.prog 19 #[.int .u64 x, .int .u64 y, .int .u64 z] w fun e w' => e = .returned (.int .u64 (mx3 x y z)) ∧ Ext w w' := fun x y z w h => leaves_any x y z w h
  have H := Lib.hid Hx
  clear Hx
  rcases e9 with ⟨e9, rfl⟩ | ⟨e9, rfl⟩ <;> rcases c with rfl | ⟨c1, rfl⟩ | ⟨c1, c2, rfl⟩
  all_goals
    go_enter Try.func7, Try.ntmps7
    go_wp2_with fail
    refine (H.out _ _ _ _ l0).mono ?_
    rintro e w1 ⟨rfl, g1⟩
    go_wp2_with fail
    refine (H.out _ _ _ _ l2).mono ?_
    rintro e w2 ⟨rfl, g2⟩
    go_wp2_with fail
    refine (H.out _ _ _ _ l1).mono ?_
    rintro e w3 ⟨rfl, g3⟩
    go_wp2_with fail
    refine (H.out _ _ _ _ lM).mono ?_
    rintro e w4 ⟨rfl, g4⟩
    go_wp2_with (first | (go_at_call 21; refine (awake_any _).mono ?_; rintro e w' ⟨rfl, hg2⟩))
    go_ret
    exact ⟨rfl, (((g1.trans g2).trans g3).trans g4).trans hg2⟩
theorem leaves (a0 a1 a2 a3 : Int) (w0 : (Lit.int .u64 a0).wf = true) (w1 : (Lit.int .u64 a1).wf = true) (w2 : (Lit.int .u64 a2).wf = true) (w3 : (Lit.int .u64 a3).wf = true) (w : World) :
    Calls Try.prog 7 #[.int .u64 a0, .int .u64 a1, .int .u64 a2, .int .u64 a3] w fun e w' => e = .returned (.bool true) ∧ Ext w w' := by
  obtain ⟨l0, u0⟩ := u64_bd w0
  obtain ⟨l1, u1⟩ := u64_bd w1
  obtain ⟨l2, u2⟩ := u64_bd w2
  obtain ⟨l3, u3⟩ := u64_bd w3
  obtain ⟨M, e1, e2, e3, e4, e5, e6, e7, e8⟩ := leaves_facts a0 a1 a2 a3 l0 l1 l2 l3
  refine leaves_of a0 a1 a2 a3 M w l0 l1 l2 l3 e1 e2 e3 e4 e6 e7 _ e8 (by unfold mx; split <;> omega) ?_ (by omega)
  by_cases h1 : M = a0
  · exact .inl h1
  · by_cases h2 : M = a1
    · exact .inr (.inl ⟨by simpa using h1, h2⟩)
    · exact .inr (.inr ⟨by simpa using h1, by simpa using h2, by omega⟩)
end Go.Proofs.Ytooiepmjaeimeaa.HzLaw
