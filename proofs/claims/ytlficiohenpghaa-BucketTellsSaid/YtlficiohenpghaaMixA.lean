/- DERIVED. Contracts of layer 3 (mix): the two parts of a fold, the factor and its inverse. -/
import Derived.Test.YtlficiohenpghaaBase
import Derived.Test.YtlficiohenpghaaMixPure
import Derived.Laws.Bits64
set_option linter.unusedVariables false
set_option linter.unusedSimpArgs false
namespace Go.Proofs.Ytlficiohenpghaa.Mx
open Go.RowKit Go.Proofs.Ytlficiohenpghaa

theorem fold_div (k X : Nat) : MixP.fold k X = X ^^^ X / 2 ^ k := by unfold MixP.fold; rw [Nat.shiftRight_eq_div_pow]
theorem bits32 (X : Nat) (hX : X < 18446744073709551616) : bits .xor .u64 (X : Int) ((X : Int) / 4294967296) = ((MixP.fold 32 X : Nat) : Int) := by
  have h := xorShift_u64 X 4294967296 hX
  rw [fold_div]
  simpa using h
theorem bits29 (X : Nat) (hX : X < 18446744073709551616) : bits .xor .u64 (X : Int) ((X : Int) / 536870912) = ((MixP.fold 29 X : Nat) : Int) := by
  have h := xorShift_u64 X 536870912 hX
  rw [fold_div]
  simpa using h
theorem bits29b (X : Nat) (hX : X < 18446744073709551616) : bits .xor .u64 (X : Int) (((MixP.fold 29 X : Nat) : Int) / 536870912) = ((MixP.unfold29 X : Nat) : Int) := by
  have h1 : MixP.fold 29 X < 18446744073709551616 := MixP.fold_lt 29 X hX
  have e : ((MixP.fold 29 X : Nat) : Int) / 536870912 = ((MixP.fold 29 X / 536870912 : Nat) : Int) := by omega
  rw [e, bits_xor_u64_nat X _ hX (by omega)]
  unfold MixP.unfold29 MixP.fold
  rw [Nat.shiftRight_eq_div_pow (X ^^^ X >>> 29) 29]
theorem ret_u64 {a b : Int} (h : a = b) : Ending.returned (.int .u64 a) = .returned (.int .u64 b) := by rw [h]
theorem fold1 (X k : Nat) (hX : X < 18446744073709551616) (hk : k = 32 ∨ k = 29) (p : Addr) (w : World) (hc : w.cell? p = some (.int .i64 k)) :
    Calls Try.prog 53 #[.int .u64 X, .pointer (some p)] w fun e w' => e = .returned (.int .u64 (MixP.fold k X : Nat)) ∧ w = w' := by
  rcases hk with rfl | rfl
  · go_enter Try.func53, Try.ntmps53
    go_wp2
    go_ret
    exact ⟨ret_u64 (bits32 X hX), rfl⟩
  · go_enter Try.func53, Try.ntmps53
    go_wp2
    go_ret
    exact ⟨ret_u64 (bits29 X hX), rfl⟩
def undo (k X : Nat) : Nat := if k = 32 then MixP.fold 32 X else MixP.unfold29 X
theorem fold2_32 (X : Nat) (hX : X < 18446744073709551616) (p : Addr) (w : World) (hc : w.cell? p = some (.int .i64 32)) :
    Calls Try.prog 54 #[.int .u64 X, .pointer (some p)] w fun e w' => e = .returned (.int .u64 (MixP.fold 32 X : Nat)) ∧ w = w' := by
  have Hb := Lib.hid (bits32 X hX)
  go_enter Try.func54, Try.ntmps54
  go_wp2
  go_loop [4, 5] (fun y at_ => (y = .int .u64 X ∧ at_ = .int .i64 32) ∨ (y = .int .u64 (MixP.fold 32 X : Nat) ∧ at_ = .int .i64 64)) (fun _ at_ => 100 - (intOf at_).toNat)
  case atStart => exact .inl ⟨rfl, rfl⟩
  case round =>
    rcases hrel with ⟨rfl, rfl⟩ | ⟨rfl, rfl⟩
    · go_wp2
      go_round
      case rel => exact .inr ⟨by rw [Hb.out], rfl⟩
      case measure => decide
    · go_wp2
      go_ret
      exact ⟨rfl, rfl⟩
theorem fold2_29 (X : Nat) (hX : X < 18446744073709551616) (p : Addr) (w : World) (hc : w.cell? p = some (.int .i64 29)) :
    Calls Try.prog 54 #[.int .u64 X, .pointer (some p)] w fun e w' => e = .returned (.int .u64 (MixP.unfold29 X : Nat)) ∧ w = w' := by
  have Hb := Lib.hid (bits29 X hX)
  have Hd := Lib.hid (bits29b X hX)
  go_enter Try.func54, Try.ntmps54
  go_wp2
  go_loop [4, 5] (fun y at_ => (y = .int .u64 X ∧ at_ = .int .i64 29) ∨ (y = .int .u64 (MixP.fold 29 X : Nat) ∧ at_ = .int .i64 58) ∨ (y = .int .u64 (MixP.unfold29 X : Nat) ∧ at_ = .int .i64 87)) (fun _ at_ => 100 - (intOf at_).toNat)
  case atStart => exact .inl ⟨rfl, rfl⟩
  case round =>
    rcases hrel with ⟨rfl, rfl⟩ | ⟨rfl, rfl⟩ | ⟨rfl, rfl⟩
    · go_wp2
      go_round
      case rel => exact .inr (.inl ⟨by rw [Hb.out], rfl⟩)
      case measure => decide
    · go_wp2
      go_round
      case rel => exact .inr (.inr ⟨by rw [Hd.out], rfl⟩)
      case measure => decide
    · go_wp2
      go_ret
      exact ⟨rfl, rfl⟩
def inv : Nat → Int
  | 0 => 11400714819323198485
  | k + 1 => inv k * ((2 - 11400714819323198485 * inv k % 18446744073709551616) % 18446744073709551616) % 18446744073709551616
theorem inv6 : inv 6 = ((MixP.G : Nat) : Int) := by decide
theorem inverse_any (w : World) : Calls Try.prog 55 #[] w fun e w' => e = .returned (.int .u64 (MixP.G : Nat)) ∧ w = w' := by
  have h6 := Lib.hid inv6
  go_enter Try.func55, Try.ntmps55
  go_wp2
  go_loop [1, 2] (fun y i => ∃ k : Nat, k ≤ 6 ∧ i = .int .i64 k ∧ y = .int .u64 (inv k)) (fun _ i => 6 - (intOf i).toNat)
  case atStart => exact ⟨0, by omega, rfl, rfl⟩
  case round =>
    obtain ⟨k, hk, rfl, rfl⟩ := hrel
    by_cases hlt : k < 6
    · go_wp2
      go_round
      case rel => exact ⟨k + 1, by omega, by go_num, by simp only [IntKind.wrap_u64]; rfl⟩
      case measure => simp [intOf]; omega
    · obtain rfl : k = 6 := by omega
      go_wp2
      go_ret
      exact ⟨ret_u64 h6.out, rfl⟩
theorem times1 (X : Nat) (hX : X < 18446744073709551616) (w : World) : Calls Try.prog 56 #[.int .u64 X] w fun e w' => e = .returned (.int .u64 (MixP.tf X : Nat)) ∧ w = w' := by
  go_enter Try.func56, Try.ntmps56
  go_wp2
  go_ret
  exact ⟨ret_u64 (by simp only [IntKind.wrap_u64, MixP.tf, MixP.F, MixP.M]; omega), rfl⟩
theorem times2 (X : Nat) (hX : X < 18446744073709551616) (p : Addr) (w : World) (hc : w.cell? p = some (.int .u64 (MixP.G : Nat))) :
    Calls Try.prog 57 #[.int .u64 X, .pointer (some p)] w fun e w' => e = .returned (.int .u64 (MixP.tg X : Nat)) ∧ w = w' := by
  go_enter Try.func57, Try.ntmps57
  go_wp2
  go_ret
  exact ⟨ret_u64 (by simp only [IntKind.wrap_u64, MixP.tg, MixP.G, MixP.M]; omega), rfl⟩
end Go.Proofs.Ytlficiohenpghaa.Mx
