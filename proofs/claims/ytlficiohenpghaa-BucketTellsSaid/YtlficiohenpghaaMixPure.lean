/- DERIVED. Plain facts on numbers for layer 3 (mix): what a number is mixed to, what it comes from, and the reference's loops, bit by bit. No Go, no program. -/
set_option linter.unusedVariables false
set_option linter.unusedSimpArgs false
namespace Go.Proofs.Ytlficiohenpghaa.MixP
def F : Nat := 11400714819323198485
def M : Nat := 18446744073709551616

def fold (k x : Nat) : Nat := x ^^^ (x >>> k)
theorem fold_lt (k x : Nat) (h : x < M) : fold k x < M := by
  unfold fold M at *
  have h2 : x >>> k < 2 ^ 64 := by
    have : x >>> k ≤ x := by rw [Nat.shiftRight_eq_div_pow]; exact Nat.div_le_self _ _
    omega
  exact Nat.xor_lt_two_pow (n := 64) (by omega) h2
theorem shr_zero (x k : Nat) (h : x < M) (hk : 64 ≤ k) : x >>> k = 0 := by
  rw [Nat.shiftRight_eq_div_pow]
  apply Nat.div_eq_of_lt
  exact Nat.lt_of_lt_of_le (by unfold M at h; exact h) (Nat.pow_le_pow_right (by omega) hk : 2 ^ 64 ≤ 2 ^ k)
/-- fold by 32 is its own inverse -/
theorem fold32_fold32 (x : Nat) (h : x < M) : fold 32 (fold 32 x) = x := by
  unfold fold
  rw [Nat.shiftRight_xor_distrib, ← Nat.shiftRight_add, shr_zero x (32 + 32) h (by omega)]
  simp [Nat.xor_assoc]
def unfold29 (x : Nat) : Nat := x ^^^ ((x ^^^ (x >>> 29)) >>> 29)
theorem unfold29_lt (x : Nat) (h : x < M) : unfold29 x < M := by
  unfold unfold29
  have h1 : fold 29 x < M := fold_lt 29 x h
  have h2 : (x ^^^ (x >>> 29)) >>> 29 < 2 ^ 64 := by
    have : (x ^^^ (x >>> 29)) >>> 29 ≤ x ^^^ (x >>> 29) := by rw [Nat.shiftRight_eq_div_pow]; exact Nat.div_le_self _ _
    unfold fold M at h1; omega
  exact Nat.xor_lt_two_pow (n := 64) (by unfold M at h; omega) h2
theorem fold_unfold29 (x : Nat) (h : x < M) : fold 29 (unfold29 x) = x := by
  unfold fold unfold29
  simp only [Nat.shiftRight_xor_distrib, ← Nat.shiftRight_add]
  rw [shr_zero x (29 + 29 + 29) h (by omega)]
  have e : ∀ a b c : Nat, (a ^^^ (b ^^^ c)) ^^^ (b ^^^ (c ^^^ 0)) = a := by
    intro a b c; rw [Nat.xor_zero, Nat.xor_assoc, Nat.xor_self, Nat.xor_zero]
  exact e _ _ _
theorem unfold_fold29 (x : Nat) (h : x < M) : unfold29 (fold 29 x) = x := by
  unfold fold unfold29
  simp only [Nat.shiftRight_xor_distrib, ← Nat.shiftRight_add]
  rw [shr_zero x (29 + 29 + 29) h (by omega)]
  have e : ∀ a b c : Nat, (a ^^^ b) ^^^ ((b ^^^ c) ^^^ (c ^^^ 0)) = a := by
    intro a b c; rw [Nat.xor_zero, Nat.xor_assoc b c c, Nat.xor_self, Nat.xor_zero, Nat.xor_assoc, Nat.xor_self, Nat.xor_zero]
  exact e _ _ _
def G : Nat := 17428512612931826493
theorem FG : F * G % M = 1 := by decide
def tf (x : Nat) : Nat := x * F % M
def tg (x : Nat) : Nat := x * G % M
theorem tf_lt (x : Nat) : tf x < M := Nat.mod_lt _ (by decide)
theorem tg_lt (x : Nat) : tg x < M := Nat.mod_lt _ (by decide)
theorem tg_tf (x : Nat) (h : x < M) : tg (tf x) = x := by
  unfold tg tf
  rw [Nat.mod_mul_mod, Nat.mul_assoc, Nat.mul_mod, FG, Nat.mul_one, Nat.mod_mod, Nat.mod_eq_of_lt h]
theorem tf_tg (x : Nat) (h : x < M) : tf (tg x) = x := by
  unfold tg tf
  rw [Nat.mod_mul_mod, Nat.mul_assoc, Nat.mul_comm G F, Nat.mul_mod, FG, Nat.mul_one, Nat.mod_mod, Nat.mod_eq_of_lt h]
def mix (x : Nat) : Nat := fold 32 (tf (fold 29 (tf (fold 32 x))))
def back (x : Nat) : Nat := fold 32 (tg (unfold29 (tg (fold 32 x))))
theorem mix_lt (x : Nat) : mix x < M := fold_lt _ _ (tf_lt _)
theorem back_lt (x : Nat) : back x < M := fold_lt _ _ (tg_lt _)
theorem back_mix (x : Nat) (h : x < M) : back (mix x) = x := by
  unfold back mix
  rw [fold32_fold32 _ (tf_lt _), tg_tf _ (fold_lt _ _ (tf_lt _)), unfold_fold29 _ (tf_lt _), tg_tf _ (fold_lt _ _ h), fold32_fold32 _ h]
theorem mix_back (x : Nat) (h : x < M) : mix (back x) = x := by
  unfold back mix
  rw [fold32_fold32 _ (tg_lt _), tf_tg _ (unfold29_lt _ (tg_lt _)), fold_unfold29 _ (tg_lt _), tf_tg _ (fold_lt _ _ h), fold32_fold32 _ h]


/-- a bit, as the reference asks for it: 0 from place 64 on -/
def bit (x i : Nat) : Nat := if i > 63 then 0 else x / 2 ^ i % 2
theorem bit_eq (x i : Nat) (h : x < M) : bit x i = x / 2 ^ i % 2 := by
  unfold bit
  split
  · rename_i hi
    have := shr_zero x i h (by omega)
    rw [Nat.shiftRight_eq_div_pow] at this
    rw [this]
  · rfl
theorem bit_tb (x i : Nat) (h : x < M) : bit x i = (x.testBit i).toNat := by
  rw [bit_eq x i h, Nat.testBit_eq_decide_div_mod_eq]
  have : x / 2 ^ i % 2 < 2 := Nat.mod_lt _ (by omega)
  by_cases h1 : x / 2 ^ i % 2 = 1
  · simp [h1]
  · have : x / 2 ^ i % 2 = 0 := by omega
    simp [this]
theorem bit_ne (x i y j : Nat) (hx : x < M) (hy : y < M) : (bit x i ≠ bit y j) ↔ (x.testBit i ^^ y.testBit j) = true := by
  rw [bit_tb x i hx, bit_tb y j hy]
  cases x.testBit i <;> cases y.testBit j <;> simp
theorem testBit_fold (k x i : Nat) : (fold k x).testBit i = (x.testBit i ^^ x.testBit (i + k)) := by
  unfold fold
  rw [Nat.testBit_xor, Nat.testBit_shiftRight, Nat.add_comm k i]
/-- one more bit at the low end -/
theorem shr_step (z j : Nat) : z / 2 ^ j = 2 * (z / 2 ^ (j + 1)) + (z.testBit j).toNat := by
  rw [Nat.pow_succ, ← Nat.div_div_eq_div_mul, Nat.testBit_eq_decide_div_mod_eq]
  have : z / 2 ^ j % 2 < 2 := Nat.mod_lt _ (by omega)
  by_cases h1 : z / 2 ^ j % 2 = 1
  · simp [h1]; omega
  · have : z / 2 ^ j % 2 = 0 := by omega
    simp [this]; omega
/-- the round of 'fold' -/
theorem fold_step (k x j : Nat) (hx : x < M) : 2 * (fold k x / 2 ^ (j + 1)) + (if bit x j ≠ bit x (j + k) then 1 else 0) = fold k x / 2 ^ j := by
  rw [shr_step (fold k x) j, testBit_fold]
  have h := bit_ne x j x (j + k) hx hx
  by_cases hb : bit x j ≠ bit x (j + k)
  · rw [if_pos hb, h.1 hb]; rfl
  · rw [if_neg hb]
    have : (x.testBit j ^^ x.testBit (j + k)) = false := by
      cases hc : (x.testBit j ^^ x.testBit (j + k))
      · rfl
      · exact absurd (h.2 hc) hb
    rw [this]; rfl
/-- the bits of u from place j on -/
def hi (u j : Nat) : Nat := u / 2 ^ j * 2 ^ j
theorem hi_le (u j : Nat) : hi u j ≤ u := Nat.div_mul_le_self _ _
theorem hi_zero (u : Nat) : hi u 0 = u := by unfold hi; simp
theorem hi_top (u : Nat) (h : u < M) : hi u 64 = 0 := by
  unfold hi; rw [Nat.div_eq_of_lt (by unfold M at h; exact h), Nat.zero_mul]
theorem testBit_hi (u j i : Nat) (h : j ≤ i) : (hi u j).testBit i = u.testBit i := by
  unfold hi
  rw [← Nat.shiftLeft_eq, Nat.testBit_shiftLeft, Nat.testBit_div_two_pow]
  simp only [ge_iff_le, h, decide_true, Bool.true_and]
  rw [Nat.sub_add_cancel h]
theorem hi_step (u j : Nat) : hi u (j + 1) + (if u.testBit j then 2 ^ j else 0) = hi u j := by
  unfold hi
  rw [shr_step u j, Nat.pow_succ]
  generalize 2 ^ j = p
  have e : u / (p * 2) * (p * 2) = 2 * (u / (p * 2)) * p := by rw [Nat.mul_comm p 2, ← Nat.mul_assoc, Nat.mul_comm (u / (2 * p)) 2]
  cases u.testBit j <;> simp [Nat.add_mul, e]
/-- the round of 'unfold': u is what, folded, is x -/
theorem unfold_step (k u j : Nat) (hk : 1 ≤ k) (hu : u < M) : hi u (j + 1) + (if bit (fold k u) j ≠ bit (hi u (j + 1)) (j + k) then 2 ^ j else 0) = hi u j := by
  rw [← hi_step u j]
  have h := bit_ne (fold k u) j (hi u (j + 1)) (j + k) (fold_lt _ _ hu) (Nat.lt_of_le_of_lt (hi_le _ _) hu)
  rw [testBit_fold, testBit_hi u (j + 1) (j + k) (by omega)] at h
  have e : ((u.testBit j ^^ u.testBit (j + k)) ^^ u.testBit (j + k)) = u.testBit j := by
    cases u.testBit j <;> cases u.testBit (j + k) <;> rfl
  rw [e] at h
  by_cases hb : bit (fold k u) j ≠ bit (hi u (j + 1)) (j + k)
  · rw [if_pos hb, if_pos (h.1 hb)]
  · rw [if_neg hb, if_neg (fun hc => hb (h.2 hc))]
/-- the low bits -/
theorem lo_step (u j : Nat) : u % 2 ^ j + (if u.testBit j then 2 ^ j else 0) = u % 2 ^ (j + 1) := by
  rw [Nat.mod_pow_succ, Nat.testBit_eq_decide_div_mod_eq]
  have : u / 2 ^ j % 2 < 2 := Nat.mod_lt _ (by omega)
  by_cases h1 : u / 2 ^ j % 2 = 1
  · simp [h1]
  · have : u / 2 ^ j % 2 = 0 := by omega
    simp [this]
theorem testBit_tf (y j : Nat) (hj : j < 64) : (tf y).testBit j = (y * F).testBit j := by
  have := Nat.testBit_mod_two_pow (y * F) 64 j
  unfold tf M
  rw [show (18446744073709551616 : Nat) = 2 ^ 64 from by decide, this]
  simp [hj]
/-- bit j of y·F, F odd, as y has bit j on top of its lower ones or not -/
theorem part_bit (u j : Nat) : ((u % 2 ^ (j + 1)) * F).testBit j = (((u % 2 ^ j) * F).testBit j ^^ u.testBit j) := by
  rw [← lo_step u j]
  cases hb : u.testBit j
  · simp
  · simp only [↓reduceIte, Bool.xor_true]
    rw [Nat.add_mul, Nat.testBit_eq_decide_div_mod_eq, Nat.testBit_eq_decide_div_mod_eq]
    rw [Nat.mul_comm (2 ^ j) F, Nat.add_mul_div_right _ _ (Nat.two_pow_pos j)]
    have hF : F % 2 = 1 := by decide
    generalize u % 2 ^ j * F / 2 ^ j = q
    have : q % 2 < 2 := Nat.mod_lt _ (by omega)
    by_cases hq : q % 2 = 1
    · have : (q + F) % 2 = 0 := by omega
      simp [hq, this]
    · have h0 : q % 2 = 0 := by omega
      have : (q + F) % 2 = 1 := by omega
      simp [h0, this]
theorem mul_low (u j : Nat) : (u * F).testBit j = ((u % 2 ^ (j + 1)) * F).testBit j := by
  have a := Nat.testBit_mod_two_pow (u * F) (j + 1) j
  have b := Nat.testBit_mod_two_pow ((u % 2 ^ (j + 1)) * F) (j + 1) j
  rw [Nat.mod_mul_mod] at b
  have hd : decide (j < j + 1) = true := by simp
  rw [hd, Bool.true_and] at a b
  rw [← a, ← b]
theorem part_step (u j : Nat) (hj : j < 64) : u % 2 ^ j + (if bit (tf (u % 2 ^ j)) j ≠ bit (tf u) j then 2 ^ j else 0) = u % 2 ^ (j + 1) := by
  rw [← lo_step u j]
  have h := bit_ne (tf (u % 2 ^ j)) j (tf u) j (tf_lt _) (tf_lt _)
  rw [testBit_tf _ _ hj, testBit_tf _ _ hj, mul_low u j, part_bit u j] at h
  have e : ∀ a b : Bool, (a ^^ (a ^^ b)) = b := by decide
  rw [e] at h
  by_cases hb : bit (tf (u % 2 ^ j)) j ≠ bit (tf u) j
  · rw [if_pos hb, if_pos (h.1 hb)]
  · rw [if_neg hb, if_neg (fun hc => hb (h.2 hc))]
/-- the round of the reference's bucket -/
theorem bucket_step (m i : Nat) (hi : i < 64) (hm : m < M) : 2 * (m / 2 ^ (64 - i)) + bit m (63 - i) = m / 2 ^ (64 - (i + 1)) := by
  rw [bit_tb m _ hm, shr_step m (64 - (i + 1)), show 64 - (i + 1) + 1 = 64 - i from by omega, show 64 - (i + 1) = 63 - i from by omega]
end Go.Proofs.Ytlficiohenpghaa.MixP
