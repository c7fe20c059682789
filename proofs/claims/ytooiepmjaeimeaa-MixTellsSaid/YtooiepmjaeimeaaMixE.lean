/- DERIVED. Contracts of layer 3's reference: bit by bit it computes what layer 3 does. -/
import Derived.Test.YtooiepmjaeimeaaMixC
set_option linter.unusedVariables false
set_option linter.unusedSimpArgs false
namespace Go.Proofs.Ytooiepmjaeimeaa.Mx
open Go.RowKit Go.Proofs.Ytooiepmjaeimeaa

theorem bit_any (X i : Nat) (hX : X < MixP.M) (hi : i < 200) (w : World) : Calls Try.prog 38 #[.int .u64 X, .int .i64 i] w fun e w' => e = .returned (.int .u64 ((MixP.bit X i : Nat) : Int)) ∧ w = w' := by
  by_cases h : 63 < i
  · have e : MixP.bit X i = 0 := by unfold MixP.bit; rw [if_pos h]
    rw [e]
    clear e
    go_enter Try.func38, Try.ntmps38
    go_wp2
    go_ret
    exact ⟨rfl, rfl⟩
  · have e : MixP.bit X i = X / 2 ^ i % 2 := by unfold MixP.bit; rw [if_neg (by omega)]
    rw [e]
    clear e
    go_enter Try.func38, Try.ntmps38
    go_wp2
    go_ret
    refine ⟨ret_u64 ?_, rfl⟩
    have e2 : ((X : Int) / 2 ^ i) = ((X / 2 ^ i : Nat) : Int) := by rw [Int.natCast_ediv, Int.natCast_pow]; rfl
    rw [e2]
    generalize X / 2 ^ i = q
    rw [Int.tmod_eq_emod_of_nonneg (by omega)]; omega
theorem ne_true {a b : Nat} (h : a ≠ b) : (((a : Nat) : Int) != ((b : Nat) : Int)) = true := by
  rw [bne_iff_ne]; intro e; exact h (by omega)
theorem ne_false {a b : Nat} (h : ¬ a ≠ b) : (((a : Nat) : Int) != ((b : Nat) : Int)) = false := by
  have : a = b := by omega
  subst this; simp
theorem rfold_any (X k : Nat) (hX : X < MixP.M) (hk : k ≤ 64) (w : World) : Calls Try.prog 35 #[.int .u64 X, .int .i64 k] w fun e w' => e = .returned (.int .u64 ((MixP.fold k X : Nat) : Int)) ∧ w = w' := by
  have hU := MixP.fold_lt k X hX
  have hU' : MixP.fold k X < 18446744073709551616 := hU
  go_enter Try.func35, Try.ntmps35
  go_wp2
  go_loop [5, 6] (fun y i => ∃ j : Nat, j ≤ 64 ∧ i = .int .i64 ((j : Int) - 1) ∧ y = .int .u64 ((MixP.fold k X / 2 ^ j : Nat) : Int)) (fun _ i => (intOf i + 1).toNat)
  case atStart => exact ⟨64, by omega, rfl, by rw [Nat.div_eq_of_lt (show MixP.fold k X < 2 ^ 64 from hU)]; rfl⟩
  case round =>
    obtain ⟨j, hj, rfl, rfl⟩ := hrel
    cases j with
    | zero =>
      go_wp2
      go_ret
      exact ⟨ret_u64 (by simp), rfl⟩
    | succ m =>
      have em : (((m + 1 : Nat) : Int) - 1) = (m : Int) := by omega
      rw [em]
      have fs := MixP.fold_step k X m hX
      have hle : MixP.fold k X / 2 ^ m ≤ MixP.fold k X := Nat.div_le_self _ _
      generalize hV : MixP.fold k X / 2 ^ (m + 1) = V at fs ⊢
      generalize hV' : MixP.fold k X / 2 ^ m = V' at fs hle
      have HV' := Lib.hid hV'
      clear hV' hV em
      by_cases hb : MixP.bit X m ≠ MixP.bit X (m + k)
      · rw [if_pos hb] at fs
        have hn := ne_true hb
        have FS := Lib.hid fs
        have b1 : 2 * (V : Int) + 1 < 18446744073709551616 := by omega
        clear fs hb
        go_wp2_with fail
        refine (bit_any X m hX (by omega) _).mono ?_
        rintro e w' ⟨rfl, rfl⟩
        go_wp2_with fail
        refine (bit_any X (m + k) hX (by omega) _).mono ?_
        rintro e w' ⟨rfl, rfl⟩
        go_wp2
        go_round
        case rel => exact ⟨m, by omega, rfl, by rw [HV'.out, ← FS.out]; go_num⟩
        case measure => simp [intOf]
      · rw [if_neg hb] at fs
        have hn := ne_false hb
        have FS := Lib.hid fs
        have b1 : 2 * (V : Int) < 18446744073709551616 := by omega
        clear fs hb
        go_wp2_with fail
        refine (bit_any X m hX (by omega) _).mono ?_
        rintro e w' ⟨rfl, rfl⟩
        go_wp2_with fail
        refine (bit_any X (m + k) hX (by omega) _).mono ?_
        rintro e w' ⟨rfl, rfl⟩
        go_wp2
        go_round
        case rel => exact ⟨m, by omega, rfl, by rw [HV'.out, ← FS.out]; go_num⟩
        case measure => simp [intOf]
theorem unfold_eq (k U X : Nat) (hU : U < MixP.M) (hX : MixP.fold k U = X) (hk : 1 ≤ k) (hk' : k ≤ 64) (w : World) : Calls Try.prog 36 #[.int .u64 X, .int .i64 k] w fun e w' => e = .returned (.int .u64 ((U : Nat) : Int)) ∧ w = w' := by
  have hXM : X < MixP.M := by rw [← hX]; exact MixP.fold_lt k U hU
  go_enter Try.func36, Try.ntmps36
  have HX := Lib.hid hX
  clear hX
  go_wp2
  go_loop [5, 6] (fun y i => ∃ j : Nat, j ≤ 64 ∧ i = .int .i64 ((j : Int) - 1) ∧ y = .int .u64 ((MixP.hi U j : Nat) : Int)) (fun _ i => (intOf i + 1).toNat)
  case atStart => exact ⟨64, by omega, rfl, by rw [MixP.hi_top U hU]; rfl⟩
  case round =>
    obtain ⟨j, hj, rfl, rfl⟩ := hrel
    cases j with
    | zero =>
      go_wp2
      go_ret
      exact ⟨ret_u64 (by rw [MixP.hi_zero]), rfl⟩
    | succ m =>
      have em : (((m + 1 : Nat) : Int) - 1) = (m : Int) := by omega
      rw [em]
      have fs := MixP.unfold_step k U m hk hU
      rw [HX.out] at fs
      have hle : MixP.hi U m ≤ U := MixP.hi_le _ _
      have hle1 : MixP.hi U (m + 1) < MixP.M := Nat.lt_of_le_of_lt (MixP.hi_le _ _) hU
      generalize hV : MixP.hi U (m + 1) = V at fs hle1 ⊢
      generalize hV' : MixP.hi U m = V' at fs hle
      have HV' := Lib.hid hV'
      obtain ⟨p, hp⟩ : ∃ p, p = 2 ^ m := ⟨_, rfl⟩
      have hpm : p < 18446744073709551616 := by
        rw [hp]; exact Nat.pow_lt_pow_right (by omega) (show m < 64 by omega)
      have ep : ((2 : Int) ^ m) = ((p : Nat) : Int) := by rw [hp]; exact (Int.natCast_pow 2 m).symm
      rw [← hp] at fs
      have ew : IntKind.u64.wrap (p : Int) = (p : Int) := by rw [IntKind.wrap_u64]; omega
      have HP := Lib.hid hp
      have hU' : U < 18446744073709551616 := hU
      clear hV' hV em hp
      by_cases hb : MixP.bit X m ≠ MixP.bit V (m + k)
      · rw [if_pos hb] at fs
        have hn := ne_true hb
        have FS := Lib.hid fs
        have b1 : (V : Int) + p < 18446744073709551616 := by omega
        clear fs hb
        go_wp2_with fail
        refine (bit_any X m hXM (by omega) _).mono ?_
        rintro e w' ⟨rfl, rfl⟩
        go_wp2_with fail
        refine (bit_any V (m + k) hle1 (by omega) _).mono ?_
        rintro e w' ⟨rfl, rfl⟩
        go_wp2
        go_round
        case rel => exact ⟨m, by omega, rfl, by rw [HV'.out, ← FS.out]; go_num⟩
        case measure => simp [intOf]
      · rw [if_neg hb] at fs
        have hn := ne_false hb
        have FS := Lib.hid fs
        clear fs hb
        go_wp2_with fail
        refine (bit_any X m hXM (by omega) _).mono ?_
        rintro e w' ⟨rfl, rfl⟩
        go_wp2_with fail
        refine (bit_any V (m + k) hle1 (by omega) _).mono ?_
        rintro e w' ⟨rfl, rfl⟩
        go_wp2
        go_round
        case rel => exact ⟨m, by omega, rfl, by rw [HV'.out, ← FS.out]; go_num⟩
        case measure => simp [intOf]
set_option maxRecDepth 100000 in
theorem part_eq (U X : Nat) (hU : U < MixP.M) (hX : MixP.tf U = X) (w : World) : Calls Try.prog 37 #[.int .u64 X] w fun e w' => e = .returned (.int .u64 ((U : Nat) : Int)) ∧ w = w' := by
  have hXM : X < MixP.M := by rw [← hX]; exact MixP.tf_lt U
  have HX := Lib.hid hX
  clear hX
  go_enter Try.func37, Try.ntmps37
  go_wp2
  go_loop [3, 4] (fun y i => ∃ j : Nat, j ≤ 64 ∧ i = .int .i64 (j : Int) ∧ y = .int .u64 ((U % 2 ^ j : Nat) : Int)) (fun _ i => 64 - (intOf i).toNat)
  case atStart => exact ⟨0, by omega, rfl, by simp⟩
  case round =>
    obtain ⟨j, hj, rfl, rfl⟩ := hrel
    by_cases hlt : j < 64
    · have fs := MixP.part_step U j hlt
      rw [HX.out] at fs
      have hle : U % 2 ^ (j + 1) ≤ U := Nat.mod_le _ _
      generalize hV : U % 2 ^ j = V at fs ⊢
      generalize hV' : U % 2 ^ (j + 1) = V' at fs hle
      have HV' := Lib.hid hV'
      obtain ⟨p, hp⟩ : ∃ p, p = 2 ^ j := ⟨_, rfl⟩
      have hpm : p < 18446744073709551616 := by
        rw [hp]; exact Nat.pow_lt_pow_right (by omega) hlt
      have ep : ((2 : Int) ^ j) = ((p : Nat) : Int) := by rw [hp]; exact (Int.natCast_pow 2 j).symm
      rw [← hp] at fs
      have ew : IntKind.u64.wrap (p : Int) = (p : Int) := by rw [IntKind.wrap_u64]; omega
      have et : IntKind.u64.wrap ((V : Int) * 11400714819323198485) = ((MixP.tf V : Nat) : Int) := by simp only [IntKind.wrap_u64, MixP.tf, MixP.F, MixP.M]; omega
      have HP := Lib.hid hp
      have HT := Lib.hid et
      have hU' : U < 18446744073709551616 := hU
      clear hV' hV hp et
      by_cases hb : MixP.bit (MixP.tf V) j ≠ MixP.bit X j
      · rw [if_pos hb] at fs
        have hn := ne_true hb
        have FS := Lib.hid fs
        clear fs hb
        go_wp2_with fail
        rw [HT.out]
        refine (bit_any (MixP.tf V) j (MixP.tf_lt V) (by omega) _).mono ?_
        rintro e w' ⟨rfl, rfl⟩
        go_wp2_with fail
        refine (bit_any X j hXM (by omega) _).mono ?_
        rintro e w' ⟨rfl, rfl⟩
        have b1 : (V : Int) + p < 18446744073709551616 := by have := FS.out; omega
        go_wp2
        go_round
        case rel => exact ⟨j + 1, by omega, by go_num, by rw [HV'.out, ← FS.out]; go_num⟩
        case measure => simp [intOf]; omega
      · rw [if_neg hb] at fs
        have hn := ne_false hb
        have FS := Lib.hid fs
        clear fs hb
        go_wp2_with fail
        rw [HT.out]
        refine (bit_any (MixP.tf V) j (MixP.tf_lt V) (by omega) _).mono ?_
        rintro e w' ⟨rfl, rfl⟩
        go_wp2_with fail
        refine (bit_any X j hXM (by omega) _).mono ?_
        rintro e w' ⟨rfl, rfl⟩
        go_wp2
        go_round
        case rel => exact ⟨j + 1, by omega, by go_num, by rw [HV'.out, ← FS.out]; go_num⟩
        case measure => simp [intOf]; omega
    · obtain rfl : j = 64 := by omega
      go_wp2
      go_ret
      exact ⟨ret_u64 (by have h : U < 18446744073709551616 := hU; omega), rfl⟩
theorem rmix_any (X : Nat) (hX : X < MixP.M) (w : World) : Calls Try.prog 24 #[.int .u64 X] w fun e w' => e = .returned (.int .u64 ((MixP.mix X : Nat) : Int)) ∧ w = w' := by
  have e1 : ∀ V : Nat, IntKind.u64.wrap ((V : Int) * 11400714819323198485) = ((MixP.tf V : Nat) : Int) := fun V => by simp only [IntKind.wrap_u64, MixP.tf, MixP.F, MixP.M]; omega
  unfold MixP.mix
  go_enter Try.func24, Try.ntmps24
  go_wp2_with fail
  refine (rfold_any X 32 hX (by omega) _).mono ?_
  rintro e w' ⟨rfl, rfl⟩
  go_wp2_with fail
  refine (rfold_any _ 29 (MixP.tf_lt _) (by omega) _).mono ?_
  rintro e w' ⟨rfl, rfl⟩
  go_wp2_with fail
  refine (rfold_any _ 32 (MixP.tf_lt _) (by omega) _).mono ?_
  rintro e w' ⟨rfl, rfl⟩
  go_wp2
  go_ret
  exact ⟨rfl, rfl⟩
theorem rback_any (X : Nat) (hX : X < MixP.M) (w : World) : Calls Try.prog 26 #[.int .u64 X] w fun e w' => e = .returned (.int .u64 ((MixP.back X : Nat) : Int)) ∧ w = w' := by
  unfold MixP.back
  go_enter Try.func26, Try.ntmps26
  go_wp2_with fail
  refine (unfold_eq 32 (MixP.fold 32 X) X (MixP.fold_lt _ _ hX) (MixP.fold32_fold32 X hX) (by omega) (by omega) _).mono ?_
  rintro e w' ⟨rfl, rfl⟩
  go_wp2_with fail
  refine (part_eq (MixP.tg (MixP.fold 32 X)) _ (MixP.tg_lt _) (MixP.tf_tg _ (MixP.fold_lt _ _ hX)) _).mono ?_
  rintro e w' ⟨rfl, rfl⟩
  go_wp2_with fail
  refine (unfold_eq 29 (MixP.unfold29 (MixP.tg (MixP.fold 32 X))) _ (MixP.unfold29_lt _ (MixP.tg_lt _)) (MixP.fold_unfold29 _ (MixP.tg_lt _)) (by omega) (by omega) _).mono ?_
  rintro e w' ⟨rfl, rfl⟩
  go_wp2_with fail
  refine (part_eq (MixP.tg (MixP.unfold29 (MixP.tg (MixP.fold 32 X)))) _ (MixP.tg_lt _) (MixP.tf_tg _ (MixP.unfold29_lt _ (MixP.tg_lt _))) _).mono ?_
  rintro e w' ⟨rfl, rfl⟩
  go_wp2_with fail
  refine (unfold_eq 32 (MixP.fold 32 (MixP.tg (MixP.unfold29 (MixP.tg (MixP.fold 32 X))))) _ (MixP.fold_lt _ _ (MixP.tg_lt _)) (MixP.fold32_fold32 _ (MixP.tg_lt _)) (by omega) (by omega) _).mono ?_
  rintro e w' ⟨rfl, rfl⟩
  go_wp2
  go_ret
  exact ⟨rfl, rfl⟩
end Go.Proofs.Ytooiepmjaeimeaa.Mx
