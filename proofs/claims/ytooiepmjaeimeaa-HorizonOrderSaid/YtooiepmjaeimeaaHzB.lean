/- DERIVED. Contracts of layer 20 (horizon), of its reference, and the chapter's examples. -/
import Derived.Test.YtooiepmjaeimeaaHz
set_option linter.unusedVariables false
set_option linter.unusedSimpArgs false
namespace Go.Proofs.Ytooiepmjaeimeaa.Hz
open Go.RowKit

def farF (at_ e : Int) : Int := if at_ < e then 0 else at_ - e
def admA (at_ e : Int) (cap : Bool) : Int := if at_ ≤ e then at_ else if cap then e else 0
def admB (at_ e : Int) (cap : Bool) : Bool := decide (at_ ≤ e) || cap
def mx (a b : Int) : Int := if a < b then b else a
def mx3 (a b c : Int) : Int := mx (mx a b) c
theorem edge_any (a b : Int) (w : World) (ha : 0 ≤ a) (ha' : a ≤ 18446744073709551615) (hb : 0 ≤ b) (hb' : b ≤ 18446744073709551615) :
    Calls Try.prog 15 #[.int .u64 a, .int .u64 b] w fun e w' => e = .returned (.int .u64 (sat a b)) ∧ w = w' := by
  go_enter Try.func15, Try.ntmps15
  go_wp2_with (go_at_call 22; refine (sat_add _ _ _ ha ha' hb hb').mono ?_; rintro e w' ⟨rfl, rfl⟩)
  go_ret
  exact ⟨rfl, rfl⟩
theorem sub_any (a b : Int) (w : World) (ha : 0 ≤ a) (ha' : a ≤ 18446744073709551615) (hb : 0 ≤ b) (hb' : b ≤ 18446744073709551615) :
    Calls Try.prog 31 #[.int .u64 a, .int .u64 b] w fun e w' => e = .returned (.int .u64 (farF a b)) ∧ w = w' := by
  unfold farF
  by_cases h : a < b
  · rw [if_pos h]
    go_enter Try.func31, Try.ntmps31
    go_wp2
    go_ret
    exact ⟨rfl, rfl⟩
  · rw [if_neg h]
    go_enter Try.func31, Try.ntmps31
    go_wp2
    go_ret
    exact ⟨rfl, rfl⟩
theorem far_any (x a b : Int) (w : World) (hx : 0 ≤ x) (hx' : x ≤ 18446744073709551615) (ha : 0 ≤ a) (ha' : a ≤ 18446744073709551615) (hb : 0 ≤ b) (hb' : b ≤ 18446744073709551615) :
    Calls Try.prog 17 #[.int .u64 x, .int .u64 a, .int .u64 b] w fun e w' => e = .returned (.int .u64 (farF x (sat a b))) ∧ w = w' := by
  obtain ⟨s0, s1⟩ := sat_bd a b ha hb
  go_enter Try.func17, Try.ntmps17
  go_wp2_with (first | (go_at_call 15; refine (edge_any _ _ _ ha ha' hb hb').mono ?_; rintro e w' ⟨rfl, rfl⟩) | (go_at_call 31; refine (sub_any _ _ _ hx hx' s0 s1).mono ?_; rintro e w' ⟨rfl, rfl⟩))
  go_ret
  exact ⟨rfl, rfl⟩
theorem admit_any (x a b : Int) (cap : Bool) (w : World) (hx : 0 ≤ x) (hx' : x ≤ 18446744073709551615) (ha : 0 ≤ a) (ha' : a ≤ 18446744073709551615) (hb : 0 ≤ b) (hb' : b ≤ 18446744073709551615) :
    Calls Try.prog 13 #[.int .u64 x, .int .u64 a, .int .u64 b, .bool cap] w fun e w' => e = .returned (.tuple #[.int .u64 (admA x (sat a b) cap), .bool (admB x (sat a b) cap)]) ∧ w = w' := by
  obtain ⟨s0, s1⟩ := sat_bd a b ha hb
  have hf : (farF x (sat a b) == 0) = decide (x ≤ sat a b) := by
    unfold farF
    rw [Bool.eq_iff_iff]; simp only [beq_iff_eq, decide_eq_true_eq]; split <;> omega
  unfold admA admB
  by_cases h : x ≤ sat a b
  · rw [if_pos h, decide_eq_true h]
    rw [decide_eq_true h] at hf
    go_enter Try.func13, Try.ntmps13
    go_wp2_with (first | (go_at_call 17; refine (far_any _ _ _ _ hx hx' ha ha' hb hb').mono ?_; rintro e w' ⟨rfl, rfl⟩))
    go_ret2
    exact ⟨rfl, rfl⟩
  · rw [if_neg h, decide_eq_false h]
    rw [decide_eq_false h] at hf
    cases cap
    · go_enter Try.func13, Try.ntmps13
      go_wp2_with (first | (go_at_call 17; refine (far_any _ _ _ _ hx hx' ha ha' hb hb').mono ?_; rintro e w' ⟨rfl, rfl⟩) | (go_at_call 15; refine (edge_any _ _ _ ha ha' hb hb').mono ?_; rintro e w' ⟨rfl, rfl⟩))
      go_ret2
      exact ⟨rfl, rfl⟩
    · go_enter Try.func13, Try.ntmps13
      go_wp2_with (first | (go_at_call 17; refine (far_any _ _ _ _ hx hx' ha ha' hb hb').mono ?_; rintro e w' ⟨rfl, rfl⟩) | (go_at_call 15; refine (edge_any _ _ _ ha ha' hb hb').mono ?_; rintro e w' ⟨rfl, rfl⟩))
      go_ret2
      exact ⟨rfl, rfl⟩
def acc (a b c : Int) : Nat → Int
  | 0 => 0
  | 1 => mx 0 a
  | 2 => mx (mx 0 a) b
  | _ => mx (mx (mx 0 a) b) c
def nth3 (a b c : Int) : Nat → Int
  | 0 => a
  | 1 => b
  | _ => c
theorem acc_succ (a b c : Int) (k : Nat) (h : k < 3) : acc a b c (k + 1) = mx (acc a b c k) (nth3 a b c k) := by
  match k, h with
  | 0, _ => rfl
  | 1, _ => rfl
  | 2, _ => rfl
theorem last_any (a b c : Int) (w : World) (B : Nat) (ha : 0 ≤ a)
    (hc : ∀ k, k < 3 → w.cell? ⟨B, k, none⟩ = some (.int .u64 (nth3 a b c k))) :
    Calls Try.prog 32 #[.slice (some ⟨B, 0, none⟩) 3 3] w fun e w' => e = .returned (.int .u64 (mx3 a b c)) ∧ w = w' := by
  have hfin : acc a b c 3 = mx3 a b c := by
    show mx (mx (mx 0 a) b) c = mx (mx a b) c
    rw [show mx 0 a = a from by unfold mx; split <;> omega]
  have Hfin := Lib.hid hfin
  clear hfin
  go_enter Try.func32, Try.ntmps32
  go_wp2
  go_loop [3, 8] (fun t i => ∃ k : Nat, k ≤ 3 ∧ i = .int .i64 k ∧ t = .int .u64 (acc a b c k)) (fun _ i => 3 - (intOf i).toNat)
  case atStart => exact ⟨0, by omega, rfl, rfl⟩
  case round =>
    obtain ⟨k, hk, rfl, rfl⟩ := hrel
    by_cases hlt : k < 3
    · have hcell := hc k hlt
      have H := Lib.hid (acc_succ a b c k hlt)
      clear hc
      go_wp2
      go_round
      case rel => exact ⟨k + 1, by omega, by go_num, by rw [H.out]; rfl⟩
      case measure => simp [intOf]; omega
    · obtain rfl : k = 3 := by omega
      clear hc
      go_wp2
      go_ret
      exact ⟨by rw [Hfin.out]; rfl, rfl⟩
theorem leaves_any (a b c : Int) (w : World) (ha : 0 ≤ a) :
    Calls Try.prog 19 #[.int .u64 a, .int .u64 b, .int .u64 c] w fun e w' => e = .returned (.int .u64 (mx3 a b c)) ∧ Ext w w' := by
  go_enter Try.func19, Try.ntmps19
  go_wp2_with fail
  refine (last_any a b c _ _ ha (fun k hk => ?_)).mono ?_
  · match k, hk with
    | 0, _ => simp [nth3]
    | 1, _ => simp [nth3]
    | 2, _ => simp [nth3]
  · rintro e w' ⟨rfl, rfl⟩
    go_wp2
    go_ret
    exact ⟨rfl, by repeat (first | exact Ext.refl _ | apply Ext.drew | apply Ext.alloc)⟩
theorem awake_any (w : World) : Calls Try.prog 21 #[] w fun e w' => e = .returned (.bool true) ∧ Ext w w' := by
  have s1 : sat 10 5 = 15 := by decide
  have s2 : sat 18446744073709551615 1 = 18446744073709551615 := by decide
  have a1 : admA 15 15 false = 15 := by decide
  have a2 : admB 15 15 false = true := by decide
  have a3 : admA 16 15 true = 15 := by decide
  have a4 : admB 16 15 true = true := by decide
  have a5 : admA 16 15 false = 0 := by decide
  have a6 : admB 16 15 false = false := by decide
  have f1 : farF 18 15 = 3 := by decide
  have m1 : mx3 3 8 5 = 8 := by decide
  go_enter Try.func21, Try.ntmps21
  go_wp2_with (first | (go_at_call 13; refine (admit_any _ _ _ _ _ (by decide) (by decide) (by decide) (by decide) (by decide) (by decide)).mono ?_; rintro e w' ⟨rfl, rfl⟩) | (go_at_call 15; refine (edge_any _ _ _ (by decide) (by decide) (by decide) (by decide)).mono ?_; rintro e w' ⟨rfl, rfl⟩) | (go_at_call 17; refine (far_any _ _ _ _ (by decide) (by decide) (by decide) (by decide) (by decide) (by decide)).mono ?_; rintro e w' ⟨rfl, rfl⟩) | (go_at_call 19; refine (leaves_any _ _ _ _ (by decide)).mono ?_; rintro e w' ⟨rfl, hg1⟩))
  go_ret
  exact ⟨rfl, hg1⟩
end Go.Proofs.Ytooiepmjaeimeaa.Hz
