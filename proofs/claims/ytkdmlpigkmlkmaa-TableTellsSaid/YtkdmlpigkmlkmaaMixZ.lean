/- DERIVED. Merged by wip/mergeset.py from XMixPure XMixA XMixB XMixC. -/
import Derived.Test.YtkdmlpigkmlkmaaBase
import Derived.Laws.Bits64
--  DERIVED. Plain facts on numbers for layer 3 (mix): what a number is mixed to, what it comes from, and the reference's loops, bit by bit. No Go, no program. 
set_option linter.unusedVariables false
set_option linter.unusedSimpArgs false
namespace Go.Proofs.Ytkdmlpigkmlkmaa.MixP
def F : Nat := 11400714819323198485
def M : Nat := 18446744073709551616

def fold (k x : Nat) : Nat := x ^^^ (x >>> k)
theorem fold_lt (k x : Nat) (h : x < M) : fold k x < M := by
  unfold fold M at *
  have h2 : x >>> k < 2 ^ 64 := by
    have : x >>> k ≤ x := by rw [Nat.shiftRight_eq_div_pow]; exact Nat.div_le_self _ _
    omega
  exact Nat.xor_lt_two_pow (n := 64) (by omega) h2
theorem shr_zero (x k : Nat) (h : x < M) (hk : 64 ≤ k) : x >>> k = 0 := by
  rw [Nat.shiftRight_eq_div_pow]
  apply Nat.div_eq_of_lt
  exact Nat.lt_of_lt_of_le (by unfold M at h; exact h) (Nat.pow_le_pow_right (by omega) hk : 2 ^ 64 ≤ 2 ^ k)
/-- fold by 32 is its own inverse -/
theorem fold32_fold32 (x : Nat) (h : x < M) : fold 32 (fold 32 x) = x := by
  unfold fold
  rw [Nat.shiftRight_xor_distrib, ← Nat.shiftRight_add, shr_zero x (32 + 32) h (by omega)]
  simp [Nat.xor_assoc]
def unfold29 (x : Nat) : Nat := x ^^^ ((x ^^^ (x >>> 29)) >>> 29)
theorem unfold29_lt (x : Nat) (h : x < M) : unfold29 x < M := by
  unfold unfold29
  have h1 : fold 29 x < M := fold_lt 29 x h
  have h2 : (x ^^^ (x >>> 29)) >>> 29 < 2 ^ 64 := by
    have : (x ^^^ (x >>> 29)) >>> 29 ≤ x ^^^ (x >>> 29) := by rw [Nat.shiftRight_eq_div_pow]; exact Nat.div_le_self _ _
    unfold fold M at h1; omega
  exact Nat.xor_lt_two_pow (n := 64) (by unfold M at h; omega) h2
theorem fold_unfold29 (x : Nat) (h : x < M) : fold 29 (unfold29 x) = x := by
  unfold fold unfold29
  simp only [Nat.shiftRight_xor_distrib, ← Nat.shiftRight_add]
  rw [shr_zero x (29 + 29 + 29) h (by omega)]
  have e : ∀ a b c : Nat, (a ^^^ (b ^^^ c)) ^^^ (b ^^^ (c ^^^ 0)) = a := by
    intro a b c; rw [Nat.xor_zero, Nat.xor_assoc, Nat.xor_self, Nat.xor_zero]
  exact e _ _ _
theorem unfold_fold29 (x : Nat) (h : x < M) : unfold29 (fold 29 x) = x := by
  unfold fold unfold29
  simp only [Nat.shiftRight_xor_distrib, ← Nat.shiftRight_add]
  rw [shr_zero x (29 + 29 + 29) h (by omega)]
  have e : ∀ a b c : Nat, (a ^^^ b) ^^^ ((b ^^^ c) ^^^ (c ^^^ 0)) = a := by
    intro a b c; rw [Nat.xor_zero, Nat.xor_assoc b c c, Nat.xor_self, Nat.xor_zero, Nat.xor_assoc, Nat.xor_self, Nat.xor_zero]
  exact e _ _ _
def G : Nat := 17428512612931826493
theorem FG : F * G % M = 1 := by decide
def tf (x : Nat) : Nat := x * F % M
def tg (x : Nat) : Nat := x * G % M
theorem tf_lt (x : Nat) : tf x < M := Nat.mod_lt _ (by decide)
theorem tg_lt (x : Nat) : tg x < M := Nat.mod_lt _ (by decide)
theorem tg_tf (x : Nat) (h : x < M) : tg (tf x) = x := by
  unfold tg tf
  rw [Nat.mod_mul_mod, Nat.mul_assoc, Nat.mul_mod, FG, Nat.mul_one, Nat.mod_mod, Nat.mod_eq_of_lt h]
theorem tf_tg (x : Nat) (h : x < M) : tf (tg x) = x := by
  unfold tg tf
  rw [Nat.mod_mul_mod, Nat.mul_assoc, Nat.mul_comm G F, Nat.mul_mod, FG, Nat.mul_one, Nat.mod_mod, Nat.mod_eq_of_lt h]
def mix (x : Nat) : Nat := fold 32 (tf (fold 29 (tf (fold 32 x))))
def back (x : Nat) : Nat := fold 32 (tg (unfold29 (tg (fold 32 x))))
theorem mix_lt (x : Nat) : mix x < M := fold_lt _ _ (tf_lt _)
theorem back_lt (x : Nat) : back x < M := fold_lt _ _ (tg_lt _)
theorem back_mix (x : Nat) (h : x < M) : back (mix x) = x := by
  unfold back mix
  rw [fold32_fold32 _ (tf_lt _), tg_tf _ (fold_lt _ _ (tf_lt _)), unfold_fold29 _ (tf_lt _), tg_tf _ (fold_lt _ _ h), fold32_fold32 _ h]
theorem mix_back (x : Nat) (h : x < M) : mix (back x) = x := by
  unfold back mix
  rw [fold32_fold32 _ (tg_lt _), tf_tg _ (unfold29_lt _ (tg_lt _)), fold_unfold29 _ (tg_lt _), tf_tg _ (fold_lt _ _ h), fold32_fold32 _ h]


/-- a bit, as the reference asks for it: 0 from place 64 on -/
def bit (x i : Nat) : Nat := if i > 63 then 0 else x / 2 ^ i % 2
theorem bit_eq (x i : Nat) (h : x < M) : bit x i = x / 2 ^ i % 2 := by
  unfold bit
  split
  · rename_i hi
    have := shr_zero x i h (by omega)
    rw [Nat.shiftRight_eq_div_pow] at this
    rw [this]
  · rfl
theorem bit_tb (x i : Nat) (h : x < M) : bit x i = (x.testBit i).toNat := by
  rw [bit_eq x i h, Nat.testBit_eq_decide_div_mod_eq]
  have : x / 2 ^ i % 2 < 2 := Nat.mod_lt _ (by omega)
  by_cases h1 : x / 2 ^ i % 2 = 1
  · simp [h1]
  · have : x / 2 ^ i % 2 = 0 := by omega
    simp [this]
theorem bit_ne (x i y j : Nat) (hx : x < M) (hy : y < M) : (bit x i ≠ bit y j) ↔ (x.testBit i ^^ y.testBit j) = true := by
  rw [bit_tb x i hx, bit_tb y j hy]
  cases x.testBit i <;> cases y.testBit j <;> simp
theorem testBit_fold (k x i : Nat) : (fold k x).testBit i = (x.testBit i ^^ x.testBit (i + k)) := by
  unfold fold
  rw [Nat.testBit_xor, Nat.testBit_shiftRight, Nat.add_comm k i]
/-- one more bit at the low end -/
theorem shr_step (z j : Nat) : z / 2 ^ j = 2 * (z / 2 ^ (j + 1)) + (z.testBit j).toNat := by
  rw [Nat.pow_succ, ← Nat.div_div_eq_div_mul, Nat.testBit_eq_decide_div_mod_eq]
  have : z / 2 ^ j % 2 < 2 := Nat.mod_lt _ (by omega)
  by_cases h1 : z / 2 ^ j % 2 = 1
  · simp [h1]; omega
  · have : z / 2 ^ j % 2 = 0 := by omega
    simp [this]; omega
/-- the round of 'fold' -/
theorem fold_step (k x j : Nat) (hx : x < M) : 2 * (fold k x / 2 ^ (j + 1)) + (if bit x j ≠ bit x (j + k) then 1 else 0) = fold k x / 2 ^ j := by
  rw [shr_step (fold k x) j, testBit_fold]
  have h := bit_ne x j x (j + k) hx hx
  by_cases hb : bit x j ≠ bit x (j + k)
  · rw [if_pos hb, h.1 hb]; rfl
  · rw [if_neg hb]
    have : (x.testBit j ^^ x.testBit (j + k)) = false := by
      cases hc : (x.testBit j ^^ x.testBit (j + k))
      · rfl
      · exact absurd (h.2 hc) hb
    rw [this]; rfl
/-- the bits of u from place j on -/
def hi (u j : Nat) : Nat := u / 2 ^ j * 2 ^ j
theorem hi_le (u j : Nat) : hi u j ≤ u := Nat.div_mul_le_self _ _
theorem hi_zero (u : Nat) : hi u 0 = u := by unfold hi; simp
theorem hi_top (u : Nat) (h : u < M) : hi u 64 = 0 := by
  unfold hi; rw [Nat.div_eq_of_lt (by unfold M at h; exact h), Nat.zero_mul]
theorem testBit_hi (u j i : Nat) (h : j ≤ i) : (hi u j).testBit i = u.testBit i := by
  unfold hi
  rw [← Nat.shiftLeft_eq, Nat.testBit_shiftLeft, Nat.testBit_div_two_pow]
  simp only [ge_iff_le, h, decide_true, Bool.true_and]
  rw [Nat.sub_add_cancel h]
theorem hi_step (u j : Nat) : hi u (j + 1) + (if u.testBit j then 2 ^ j else 0) = hi u j := by
  unfold hi
  rw [shr_step u j, Nat.pow_succ]
  generalize 2 ^ j = p
  have e : u / (p * 2) * (p * 2) = 2 * (u / (p * 2)) * p := by rw [Nat.mul_comm p 2, ← Nat.mul_assoc, Nat.mul_comm (u / (2 * p)) 2]
  cases u.testBit j <;> simp [Nat.add_mul, e]
/-- the round of 'unfold': u is what, folded, is x -/
theorem unfold_step (k u j : Nat) (hk : 1 ≤ k) (hu : u < M) : hi u (j + 1) + (if bit (fold k u) j ≠ bit (hi u (j + 1)) (j + k) then 2 ^ j else 0) = hi u j := by
  rw [← hi_step u j]
  have h := bit_ne (fold k u) j (hi u (j + 1)) (j + k) (fold_lt _ _ hu) (Nat.lt_of_le_of_lt (hi_le _ _) hu)
  rw [testBit_fold, testBit_hi u (j + 1) (j + k) (by omega)] at h
  have e : ((u.testBit j ^^ u.testBit (j + k)) ^^ u.testBit (j + k)) = u.testBit j := by
    cases u.testBit j <;> cases u.testBit (j + k) <;> rfl
  rw [e] at h
  by_cases hb : bit (fold k u) j ≠ bit (hi u (j + 1)) (j + k)
  · rw [if_pos hb, if_pos (h.1 hb)]
  · rw [if_neg hb, if_neg (fun hc => hb (h.2 hc))]
/-- the low bits -/
theorem lo_step (u j : Nat) : u % 2 ^ j + (if u.testBit j then 2 ^ j else 0) = u % 2 ^ (j + 1) := by
  rw [Nat.mod_pow_succ, Nat.testBit_eq_decide_div_mod_eq]
  have : u / 2 ^ j % 2 < 2 := Nat.mod_lt _ (by omega)
  by_cases h1 : u / 2 ^ j % 2 = 1
  · simp [h1]
  · have : u / 2 ^ j % 2 = 0 := by omega
    simp [this]
theorem testBit_tf (y j : Nat) (hj : j < 64) : (tf y).testBit j = (y * F).testBit j := by
  have := Nat.testBit_mod_two_pow (y * F) 64 j
  unfold tf M
  rw [show (18446744073709551616 : Nat) = 2 ^ 64 from by decide, this]
  simp [hj]
/-- bit j of y·F, F odd, as y has bit j on top of its lower ones or not -/
theorem part_bit (u j : Nat) : ((u % 2 ^ (j + 1)) * F).testBit j = (((u % 2 ^ j) * F).testBit j ^^ u.testBit j) := by
  rw [← lo_step u j]
  cases hb : u.testBit j
  · simp
  · simp only [↓reduceIte, Bool.xor_true]
    rw [Nat.add_mul, Nat.testBit_eq_decide_div_mod_eq, Nat.testBit_eq_decide_div_mod_eq]
    rw [Nat.mul_comm (2 ^ j) F, Nat.add_mul_div_right _ _ (Nat.two_pow_pos j)]
    have hF : F % 2 = 1 := by decide
    generalize u % 2 ^ j * F / 2 ^ j = q
    have : q % 2 < 2 := Nat.mod_lt _ (by omega)
    by_cases hq : q % 2 = 1
    · have : (q + F) % 2 = 0 := by omega
      simp [hq, this]
    · have h0 : q % 2 = 0 := by omega
      have : (q + F) % 2 = 1 := by omega
      simp [h0, this]
theorem mul_low (u j : Nat) : (u * F).testBit j = ((u % 2 ^ (j + 1)) * F).testBit j := by
  have a := Nat.testBit_mod_two_pow (u * F) (j + 1) j
  have b := Nat.testBit_mod_two_pow ((u % 2 ^ (j + 1)) * F) (j + 1) j
  rw [Nat.mod_mul_mod] at b
  have hd : decide (j < j + 1) = true := by simp
  rw [hd, Bool.true_and] at a b
  rw [← a, ← b]
theorem part_step (u j : Nat) (hj : j < 64) : u % 2 ^ j + (if bit (tf (u % 2 ^ j)) j ≠ bit (tf u) j then 2 ^ j else 0) = u % 2 ^ (j + 1) := by
  rw [← lo_step u j]
  have h := bit_ne (tf (u % 2 ^ j)) j (tf u) j (tf_lt _) (tf_lt _)
  rw [testBit_tf _ _ hj, testBit_tf _ _ hj, mul_low u j, part_bit u j] at h
  have e : ∀ a b : Bool, (a ^^ (a ^^ b)) = b := by decide
  rw [e] at h
  by_cases hb : bit (tf (u % 2 ^ j)) j ≠ bit (tf u) j
  · rw [if_pos hb, if_pos (h.1 hb)]
  · rw [if_neg hb, if_neg (fun hc => hb (h.2 hc))]
/-- the round of the reference's bucket -/
theorem bucket_step (m i : Nat) (hi : i < 64) (hm : m < M) : 2 * (m / 2 ^ (64 - i)) + bit m (63 - i) = m / 2 ^ (64 - (i + 1)) := by
  rw [bit_tb m _ hm, shr_step m (64 - (i + 1)), show 64 - (i + 1) + 1 = 64 - i from by omega, show 64 - (i + 1) = 63 - i from by omega]
end Go.Proofs.Ytkdmlpigkmlkmaa.MixP
--  DERIVED. Contracts of layer 3 (mix): the two parts of a fold, the factor and its inverse. 
set_option linter.unusedVariables false
set_option linter.unusedSimpArgs false
namespace Go.Proofs.Ytkdmlpigkmlkmaa.Mx
open Go.RowKit Go.Proofs.Ytkdmlpigkmlkmaa

theorem fold_div (k X : Nat) : MixP.fold k X = X ^^^ X / 2 ^ k := by unfold MixP.fold; rw [Nat.shiftRight_eq_div_pow]
theorem bits32 (X : Nat) (hX : X < 18446744073709551616) : bits .xor .u64 (X : Int) ((X : Int) / 4294967296) = ((MixP.fold 32 X : Nat) : Int) := by
  have h := xorShift_u64 X 4294967296 hX
  rw [fold_div]
  simpa using h
theorem bits29 (X : Nat) (hX : X < 18446744073709551616) : bits .xor .u64 (X : Int) ((X : Int) / 536870912) = ((MixP.fold 29 X : Nat) : Int) := by
  have h := xorShift_u64 X 536870912 hX
  rw [fold_div]
  simpa using h
theorem bits29b (X : Nat) (hX : X < 18446744073709551616) : bits .xor .u64 (X : Int) (((MixP.fold 29 X : Nat) : Int) / 536870912) = ((MixP.unfold29 X : Nat) : Int) := by
  have h1 : MixP.fold 29 X < 18446744073709551616 := MixP.fold_lt 29 X hX
  have e : ((MixP.fold 29 X : Nat) : Int) / 536870912 = ((MixP.fold 29 X / 536870912 : Nat) : Int) := by omega
  rw [e, bits_xor_u64_nat X _ hX (by omega)]
  unfold MixP.unfold29 MixP.fold
  rw [Nat.shiftRight_eq_div_pow (X ^^^ X >>> 29) 29]
theorem ret_u64 {a b : Int} (h : a = b) : Ending.returned (.int .u64 a) = .returned (.int .u64 b) := by rw [h]
theorem fold1 (X k : Nat) (hX : X < 18446744073709551616) (hk : k = 32 ∨ k = 29) (p : Addr) (w : World) (hc : w.cell? p = some (.int .i64 k)) :
    Calls Try.prog 106 #[.int .u64 X, .pointer (some p)] w fun e w' => e = .returned (.int .u64 (MixP.fold k X : Nat)) ∧ w = w' := by
  rcases hk with rfl | rfl
  · go_enter Try.func106, Try.ntmps106
    go_wp2
    go_ret
    exact ⟨ret_u64 (bits32 X hX), rfl⟩
  · go_enter Try.func106, Try.ntmps106
    go_wp2
    go_ret
    exact ⟨ret_u64 (bits29 X hX), rfl⟩
def undo (k X : Nat) : Nat := if k = 32 then MixP.fold 32 X else MixP.unfold29 X
theorem fold2_32 (X : Nat) (hX : X < 18446744073709551616) (p : Addr) (w : World) (hc : w.cell? p = some (.int .i64 32)) :
    Calls Try.prog 107 #[.int .u64 X, .pointer (some p)] w fun e w' => e = .returned (.int .u64 (MixP.fold 32 X : Nat)) ∧ w = w' := by
  have Hb := Lib.hid (bits32 X hX)
  go_enter Try.func107, Try.ntmps107
  go_wp2
  go_loop [4, 5] (fun y at_ => (y = .int .u64 X ∧ at_ = .int .i64 32) ∨ (y = .int .u64 (MixP.fold 32 X : Nat) ∧ at_ = .int .i64 64)) (fun _ at_ => 100 - (intOf at_).toNat)
  case atStart => exact .inl ⟨rfl, rfl⟩
  case round =>
    rcases hrel with ⟨rfl, rfl⟩ | ⟨rfl, rfl⟩
    · go_wp2
      go_round
      case rel => exact .inr ⟨by rw [Hb.out], rfl⟩
      case measure => decide
    · go_wp2
      go_ret
      exact ⟨rfl, rfl⟩
theorem fold2_29 (X : Nat) (hX : X < 18446744073709551616) (p : Addr) (w : World) (hc : w.cell? p = some (.int .i64 29)) :
    Calls Try.prog 107 #[.int .u64 X, .pointer (some p)] w fun e w' => e = .returned (.int .u64 (MixP.unfold29 X : Nat)) ∧ w = w' := by
  have Hb := Lib.hid (bits29 X hX)
  have Hd := Lib.hid (bits29b X hX)
  go_enter Try.func107, Try.ntmps107
  go_wp2
  go_loop [4, 5] (fun y at_ => (y = .int .u64 X ∧ at_ = .int .i64 29) ∨ (y = .int .u64 (MixP.fold 29 X : Nat) ∧ at_ = .int .i64 58) ∨ (y = .int .u64 (MixP.unfold29 X : Nat) ∧ at_ = .int .i64 87)) (fun _ at_ => 100 - (intOf at_).toNat)
  case atStart => exact .inl ⟨rfl, rfl⟩
  case round =>
    rcases hrel with ⟨rfl, rfl⟩ | ⟨rfl, rfl⟩ | ⟨rfl, rfl⟩
    · go_wp2
      go_round
      case rel => exact .inr (.inl ⟨by rw [Hb.out], rfl⟩)
      case measure => decide
    · go_wp2
      go_round
      case rel => exact .inr (.inr ⟨by rw [Hd.out], rfl⟩)
      case measure => decide
    · go_wp2
      go_ret
      exact ⟨rfl, rfl⟩
def inv : Nat → Int
  | 0 => 11400714819323198485
  | k + 1 => inv k * ((2 - 11400714819323198485 * inv k % 18446744073709551616) % 18446744073709551616) % 18446744073709551616
theorem inv6 : inv 6 = ((MixP.G : Nat) : Int) := by decide
theorem inverse_any (w : World) : Calls Try.prog 108 #[] w fun e w' => e = .returned (.int .u64 (MixP.G : Nat)) ∧ w = w' := by
  have h6 := Lib.hid inv6
  go_enter Try.func108, Try.ntmps108
  go_wp2
  go_loop [1, 2] (fun y i => ∃ k : Nat, k ≤ 6 ∧ i = .int .i64 k ∧ y = .int .u64 (inv k)) (fun _ i => 6 - (intOf i).toNat)
  case atStart => exact ⟨0, by omega, rfl, rfl⟩
  case round =>
    obtain ⟨k, hk, rfl, rfl⟩ := hrel
    by_cases hlt : k < 6
    · go_wp2
      go_round
      case rel => exact ⟨k + 1, by omega, by go_num, by simp only [IntKind.wrap_u64]; rfl⟩
      case measure => simp [intOf]; omega
    · obtain rfl : k = 6 := by omega
      go_wp2
      go_ret
      exact ⟨ret_u64 h6.out, rfl⟩
theorem times1 (X : Nat) (hX : X < 18446744073709551616) (w : World) : Calls Try.prog 109 #[.int .u64 X] w fun e w' => e = .returned (.int .u64 (MixP.tf X : Nat)) ∧ w = w' := by
  go_enter Try.func109, Try.ntmps109
  go_wp2
  go_ret
  exact ⟨ret_u64 (by simp only [IntKind.wrap_u64, MixP.tf, MixP.F, MixP.M]; omega), rfl⟩
theorem times2 (X : Nat) (hX : X < 18446744073709551616) (p : Addr) (w : World) (hc : w.cell? p = some (.int .u64 (MixP.G : Nat))) :
    Calls Try.prog 110 #[.int .u64 X, .pointer (some p)] w fun e w' => e = .returned (.int .u64 (MixP.tg X : Nat)) ∧ w = w' := by
  go_enter Try.func110, Try.ntmps110
  go_wp2
  go_ret
  exact ⟨ret_u64 (by simp only [IntKind.wrap_u64, MixP.tg, MixP.G, MixP.M]; omega), rfl⟩
end Go.Proofs.Ytkdmlpigkmlkmaa.Mx
--  DERIVED. Contracts of layer 3 (mix): the turns, forth and back. 
set_option linter.unusedVariables false
set_option linter.unusedSimpArgs false
namespace Go.Proofs.Ytkdmlpigkmlkmaa.Mx
open Go.RowKit Go.Proofs.Ytkdmlpigkmlkmaa

abbrev fn1 (b : Nat) : Value := .func (.func 106) #[] #[.pointer (some ⟨b, 0, none⟩)]
abbrev fn2 (b : Nat) : Value := .func (.func 107) #[] #[.pointer (some ⟨b, 0, none⟩)]
abbrev tm1 : Value := .func (.func 109) #[] #[]
abbrev tm2 (b : Nat) : Value := .func (.func 110) #[] #[.pointer (some ⟨b, 0, none⟩)]
theorem fold_any (k : Int) (w : World) : Calls Try.prog 97 #[.int .i64 k] w fun e w' => ∃ b, e = .returned (.agg #[fn1 b, fn2 b]) ∧ Ext w w' ∧ w'.cell? ⟨b, 0, none⟩ = some (.int .i64 k) := by
  go_enter Try.func97, Try.ntmps97
  go_wp2
  exact bodyPost_ret (v := .agg #[fn1 w.heap.size, fn2 w.heap.size]) (by simp [results, Try.results97, go_sem]) rfl ⟨_, rfl, ((Ext.refl _).alloc _).alloc _, by simp⟩
theorem times_any (w : World) : Calls Try.prog 98 #[] w fun e w' => ∃ b, e = .returned (.agg #[tm1, tm2 b]) ∧ Ext w w' ∧ w'.cell? ⟨b, 0, none⟩ = some (.int .u64 (MixP.G : Nat)) := by
  go_enter Try.func98, Try.ntmps98
  go_wp2_with fail
  refine (inverse_any _).mono ?_
  rintro e w' ⟨rfl, rfl⟩
  go_wp2
  exact bodyPost_ret (v := .agg #[tm1, tm2 (w.heap.size + 1)]) (by simp [results, Try.results98, go_sem]) rfl ⟨_, rfl, ((Ext.refl _).alloc _).alloc _, by simp⟩
/-- the five turns, as they lie in memory -/
structure Turns (w : World) (b : Nat) : Prop where
  ex : ∃ p1 p2 p3 p4 p5 : Nat,
    (w.cell? ⟨b, 0, none⟩ = some (fn1 p1) ∧ w.cell? ⟨b, 1, none⟩ = some (fn2 p1) ∧ w.cell? ⟨p1, 0, none⟩ = some (.int .i64 32)) ∧
    (w.cell? ⟨b, 2, none⟩ = some tm1 ∧ w.cell? ⟨b, 3, none⟩ = some (tm2 p2) ∧ w.cell? ⟨p2, 0, none⟩ = some (.int .u64 (MixP.G : Nat))) ∧
    (w.cell? ⟨b, 4, none⟩ = some (fn1 p3) ∧ w.cell? ⟨b, 5, none⟩ = some (fn2 p3) ∧ w.cell? ⟨p3, 0, none⟩ = some (.int .i64 29)) ∧
    (w.cell? ⟨b, 6, none⟩ = some tm1 ∧ w.cell? ⟨b, 7, none⟩ = some (tm2 p4) ∧ w.cell? ⟨p4, 0, none⟩ = some (.int .u64 (MixP.G : Nat))) ∧
    (w.cell? ⟨b, 8, none⟩ = some (fn1 p5) ∧ w.cell? ⟨b, 9, none⟩ = some (fn2 p5) ∧ w.cell? ⟨p5, 0, none⟩ = some (.int .i64 32))
theorem Turns.ext {w w' : World} {b : Nat} (h : Turns w b) (k : Ext w w') : Turns w' b := by
  obtain ⟨p1, p2, p3, p4, p5, ⟨a1, a2, a3⟩, ⟨b1, b2, b3⟩, ⟨c1, c2, c3⟩, ⟨d1, d2, d3⟩, ⟨e1, e2, e3⟩⟩ := h.ex
  exact ⟨⟨p1, p2, p3, p4, p5, ⟨k.cell a1, k.cell a2, k.cell a3⟩, ⟨k.cell b1, k.cell b2, k.cell b3⟩, ⟨k.cell c1, k.cell c2, k.cell c3⟩, ⟨k.cell d1, k.cell d2, k.cell d3⟩, ⟨k.cell e1, k.cell e2, k.cell e3⟩⟩⟩
theorem turns_any (w : World) : Calls Try.prog 86 #[] w fun e w' => ∃ b, e = .returned (.slice (some ⟨b, 0, none⟩) 5 5) ∧ Ext w w' ∧ Turns w' b := by
  go_enter Try.func86, Try.ntmps86
  go_wp2_with fail
  refine (fold_any _ _).mono ?_
  rintro e w1 ⟨p1, rfl, g1, c1⟩
  go_wp2_with fail
  refine (times_any _).mono ?_
  rintro e w2 ⟨p2, rfl, g2, c2⟩
  go_wp2_with fail
  refine (fold_any _ _).mono ?_
  rintro e w3 ⟨p3, rfl, g3, c3⟩
  go_wp2_with fail
  refine (times_any _).mono ?_
  rintro e w4 ⟨p4, rfl, g4, c4⟩
  go_wp2_with fail
  refine (fold_any _ _).mono ?_
  rintro e w5 ⟨p5, rfl, g5, c5⟩
  go_wp2
  go_ret
  have g : ∀ (o : Obj), Ext w5 (w5.alloc o) := fun o => (Ext.refl _).alloc o
  refine ⟨w5.heap.size, rfl, (((((g1.trans g2).trans g3).trans g4).trans g5).trans (g _)), ⟨⟨p1, p2, p3, p4, p5, ⟨by simp, by simp, ?_⟩, ⟨by simp, by simp, ?_⟩, ⟨by simp, by simp, ?_⟩, ⟨by simp, by simp, ?_⟩, ⟨by simp, by simp, ?_⟩⟩⟩⟩
  · exact ((((g2.trans g3).trans g4).trans g5).trans (g _)).cell c1
  · exact (((g3.trans g4).trans g5).trans (g _)).cell c2
  · exact ((g4.trans g5).trans (g _)).cell c3
  · exact (g5.trans (g _)).cell c4
  · exact (g _).cell c5
def st (X : Nat) : Nat → Nat
  | 0 => X
  | 1 => MixP.fold 32 X
  | 2 => MixP.tf (MixP.fold 32 X)
  | 3 => MixP.fold 29 (MixP.tf (MixP.fold 32 X))
  | 4 => MixP.tf (MixP.fold 29 (MixP.tf (MixP.fold 32 X)))
  | _ => MixP.mix X
theorem st_lt (X : Nat) (h : X < MixP.M) (k : Nat) : st X k < MixP.M := by
  unfold st
  split
  · exact h
  · exact MixP.fold_lt _ _ h
  · exact MixP.tf_lt _
  · exact MixP.fold_lt _ _ (MixP.tf_lt _)
  · exact MixP.tf_lt _
  · exact MixP.mix_lt X
theorem st_1 (X : Nat) : st X 1 = MixP.fold 32 (st X 0) := by unfold st; simp only []
theorem st_2 (X : Nat) : st X 2 = MixP.tf (st X 1) := by unfold st; simp only []
theorem st_3 (X : Nat) : st X 3 = MixP.fold 29 (st X 2) := by unfold st; simp only []
theorem st_4 (X : Nat) : st X 4 = MixP.tf (st X 3) := by unfold st; simp only []
theorem st_5 (X : Nat) : st X 5 = MixP.fold 32 (st X 4) := by unfold st; simp only []; rfl
theorem st_end (X : Nat) : st X 5 = MixP.mix X := by unfold st; simp only []
theorem mix_any (X : Nat) (h : X < MixP.M) (w : World) : Calls Try.prog 62 #[.int .u64 X] w fun e w' => e = .returned (.int .u64 (MixP.mix X : Nat)) ∧ Ext w w' := by
  go_enter Try.func62, Try.ntmps62
  go_wp2_with fail
  refine (turns_any _).mono ?_
  rintro e w1 ⟨b, rfl, g1, T⟩
  go_wp2
  go_loopw [0, 7] (fun x i wr => Ext w wr ∧ Turns wr b ∧ ∃ k : Nat, k ≤ 5 ∧ i = .int .i64 k ∧ x = .int .u64 (st X k : Nat)) (fun _ i _ => 5 - (intOf i).toNat)
  case atStart => exact ⟨g1, T, 0, by omega, rfl, rfl⟩
  case round =>
    obtain ⟨g, Tr, k, hk, rfl, rfl⟩ := hrel
    obtain ⟨p1, p2, p3, p4, p5, ⟨a1, a2, a3⟩, ⟨b1, b2, b3⟩, ⟨c1, c2, c3⟩, ⟨d1, d2, d3⟩, ⟨e1, e2, e3⟩⟩ := Tr.ex
    have hk' : k = 0 ∨ k = 1 ∨ k = 2 ∨ k = 3 ∨ k = 4 ∨ k = 5 := by omega
    have hl := st_lt X h
    have L : ∀ k, st X k < 18446744073709551616 := fun k => hl k
    have HL := Lib.hid L
    clear L hl
    rcases hk' with rfl | rfl | rfl | rfl | rfl | rfl
    · go_wp2_with fail
      refine (fold1 _ 32 (HL.out 0) (.inl rfl) _ _ (((Ext.refl _).alloc _).cell a3)).mono ?_
      rintro e w' ⟨rfl, rfl⟩
      go_wp2
      go_roundw
      case rel => exact ⟨g.alloc _, Tr.ext ((Ext.refl _).alloc _), 1, by omega, rfl, by rw [st_1]⟩
      case measure => decide
    · go_wp2_with fail
      refine (times1 _ (HL.out 1) _).mono ?_
      rintro e w' ⟨rfl, rfl⟩
      go_wp2
      go_roundw
      case rel => exact ⟨g.alloc _, Tr.ext ((Ext.refl _).alloc _), 2, by omega, rfl, by rw [st_2]⟩
      case measure => decide
    · go_wp2_with fail
      refine (fold1 _ 29 (HL.out 2) (.inr rfl) _ _ (((Ext.refl _).alloc _).cell c3)).mono ?_
      rintro e w' ⟨rfl, rfl⟩
      go_wp2
      go_roundw
      case rel => exact ⟨g.alloc _, Tr.ext ((Ext.refl _).alloc _), 3, by omega, rfl, by rw [st_3]⟩
      case measure => decide
    · go_wp2_with fail
      refine (times1 _ (HL.out 3) _).mono ?_
      rintro e w' ⟨rfl, rfl⟩
      go_wp2
      go_roundw
      case rel => exact ⟨g.alloc _, Tr.ext ((Ext.refl _).alloc _), 4, by omega, rfl, by rw [st_4]⟩
      case measure => decide
    · go_wp2_with fail
      refine (fold1 _ 32 (HL.out 4) (.inl rfl) _ _ (((Ext.refl _).alloc _).cell e3)).mono ?_
      rintro e w' ⟨rfl, rfl⟩
      go_wp2
      go_roundw
      case rel => exact ⟨g.alloc _, Tr.ext ((Ext.refl _).alloc _), 5, by omega, rfl, by rw [st_5]⟩
      case measure => decide
    · go_wp2
      go_ret
      refine ⟨?_, g⟩
      show Ending.returned (.int .u64 ((st X 5 : Nat) : Int)) = _
      rw [st_end]
def su (X : Nat) : Nat → Nat
  | 0 => X
  | 1 => MixP.fold 32 X
  | 2 => MixP.tg (MixP.fold 32 X)
  | 3 => MixP.unfold29 (MixP.tg (MixP.fold 32 X))
  | 4 => MixP.tg (MixP.unfold29 (MixP.tg (MixP.fold 32 X)))
  | _ => MixP.back X
theorem su_lt (X : Nat) (h : X < MixP.M) (k : Nat) : su X k < MixP.M := by
  unfold su
  split
  · exact h
  · exact MixP.fold_lt _ _ h
  · exact MixP.tg_lt _
  · exact MixP.unfold29_lt _ (MixP.tg_lt _)
  · exact MixP.tg_lt _
  · exact MixP.back_lt X
theorem su_1 (X : Nat) : su X 1 = MixP.fold 32 (su X 0) := by unfold su; simp only []
theorem su_2 (X : Nat) : su X 2 = MixP.tg (su X 1) := by unfold su; simp only []
theorem su_3 (X : Nat) : su X 3 = MixP.unfold29 (su X 2) := by unfold su; simp only []
theorem su_4 (X : Nat) : su X 4 = MixP.tg (su X 3) := by unfold su; simp only []
theorem su_5 (X : Nat) : su X 5 = MixP.fold 32 (su X 4) := by unfold su; simp only []; rfl
theorem su_end (X : Nat) : su X 5 = MixP.back X := by unfold su; simp only []
end Go.Proofs.Ytkdmlpigkmlkmaa.Mx
--  DERIVED. Contracts of layer 3 (mix): buckets, the chapter's examples; the laws that do not ask the reference. 
set_option linter.unusedVariables false
set_option linter.unusedSimpArgs false
namespace Go.Proofs.Ytkdmlpigkmlkmaa.Mx
open Go.RowKit Go.Proofs.Ytkdmlpigkmlkmaa

theorem bucket_no (X : Nat) (n : Int) (h : n < 0 ∨ 16 < n) (w : World) : Calls Try.prog 25 #[.int .u64 X, .int .i64 n] w fun e w' => e = .returned (.int .i64 (-1)) ∧ w = w' := by
  by_cases h0 : n < 0
  · clear h
    go_enter Try.func25, Try.ntmps25
    go_wp2
    go_ret
    exact ⟨rfl, rfl⟩
  · have h1 : 16 < n := by omega
    clear h
    go_enter Try.func25, Try.ntmps25
    go_wp2
    go_ret
    exact ⟨rfl, rfl⟩
theorem ret_i64 {a b : Int} (h : a = b) : Ending.returned (.int .i64 a) = .returned (.int .i64 b) := by rw [h]
theorem bucket_lt (X n : Nat) (hn : n ≤ 16) : MixP.mix X / 2 ^ (64 - n) < 2 ^ n := by
  refine Nat.div_lt_of_lt_mul ?_
  rw [← Nat.pow_add, show 64 - n + n = 64 from by omega]
  exact MixP.mix_lt X
/-- a number's bucket -/
def bk (X n : Nat) : Nat := MixP.mix X / 2 ^ (64 - n)
theorem bucket_any (X n : Nat) (h : X < MixP.M) (hn : n ≤ 16) (w : World) : Calls Try.prog 25 #[.int .u64 X, .int .i64 n] w fun e w' => e = .returned (.int .i64 ((bk X n : Nat) : Int)) ∧ Ext w w' := by
  unfold bk
  go_enter Try.func25, Try.ntmps25
  go_wp2_with fail
  refine (mix_any _ h _).mono ?_
  rintro e w1 ⟨rfl, g1⟩
  go_wp2
  go_ret
  refine ⟨?_, g1⟩
  have hlt := bucket_lt X n hn
  have hle : 2 ^ n ≤ 65536 := Nat.pow_le_pow_right (by omega) hn
  refine ret_i64 ?_
  have e : ((MixP.mix X : Nat) : Int) / 2 ^ (64 - n) = ((MixP.mix X / 2 ^ (64 - n) : Nat) : Int) := by simp
  rw [e]
  generalize MixP.mix X / 2 ^ (64 - n) = q at hlt
  unfold wrap64
  omega
end Go.Proofs.Ytkdmlpigkmlkmaa.Mx
