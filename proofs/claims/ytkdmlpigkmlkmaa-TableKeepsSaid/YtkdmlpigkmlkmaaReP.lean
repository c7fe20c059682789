/- DERIVED. Plain facts on layer 15 (rehash): the bits that have room, the bits that are wanted. No Go, no program. -/
set_option linter.unusedVariables false
set_option linter.unusedSimpArgs false
namespace Go.Proofs.Ytkdmlpigkmlkmaa.ReP
/-- the fewest bits that have room -/
def IsRoom (n : Nat) (b : Nat) : Prop := b ≤ 10 ∧ (∀ c, c < b → 2 ^ c < n) ∧ (b = 10 ∨ n ≤ 2 ^ b)
def roomF (n : Nat) : Nat → Nat → Nat
  | 0, b => b
  | k + 1, b => if b < 10 ∧ 2 ^ b < n then roomF n k (b + 1) else b
def room (n : Nat) : Nat := roomF n 10 0
theorem roomF_is (n : Nat) : ∀ k b, b + k = 10 → (∀ c, c < b → 2 ^ c < n) → IsRoom n (roomF n k b)
  | 0, b, h, hc => ⟨by unfold roomF; omega, by unfold roomF; exact hc, .inl (by unfold roomF; omega)⟩
  | k + 1, b, h, hc => by
    unfold roomF
    by_cases hb : b < 10 ∧ 2 ^ b < n
    · rw [if_pos hb]
      refine roomF_is n k (b + 1) (by omega) (fun c hc' => ?_)
      by_cases e : c = b
      · subst e; exact hb.2
      · exact hc c (by omega)
    · rw [if_neg hb]
      exact ⟨by omega, hc, by by_cases h10 : b = 10; exact .inl h10; exact .inr (by omega)⟩
theorem room_is (n : Nat) : IsRoom n (room n) := roomF_is n 10 0 rfl (fun c h => by omega)
theorem isRoom_unique {n a b : Nat} (ha : IsRoom n a) (hb : IsRoom n b) : a = b := by
  obtain ⟨a1, a2, a3⟩ := ha
  obtain ⟨b1, b2, b3⟩ := hb
  rcases Nat.lt_trichotomy a b with h | h | h
  · have := b2 a h; omega
  · exact h
  · have := a2 b h; omega
theorem room_le (n : Nat) : room n ≤ 10 := (room_is n).1
/-- bits that are wanted -/
def want (n b : Nat) : Nat := if 2 * 2 ^ b < n ∨ 8 * n < 2 ^ b then room n else b
theorem pow_mono {a b : Nat} (h : a ≤ b) : 2 ^ a ≤ 2 ^ b := Nat.pow_le_pow_right (by omega) h
theorem pow_succ' (a : Nat) : 2 ^ (a + 1) = 2 * 2 ^ a := by rw [Nat.pow_succ]; omega
theorem want_le {n b : Nat} (hb : b ≤ 10) : want n b ≤ 10 := by
  unfold want; split; exact room_le n; exact hb
theorem pow10 {b : Nat} (h : b = 10) : 2 ^ b = 1024 := by rw [h]
theorem room_mono {n m : Nat} (h : n ≤ m) : room n ≤ room m := by
  obtain ⟨a1, a2, a3⟩ := room_is n
  obtain ⟨b1, b2, b3⟩ := room_is m
  by_cases hc : room m < room n
  · have := a2 _ hc; omega
  · omega
/-- where all fits the bits stay -/
theorem want_fits {n b : Nat} (h1 : 2 ^ b ≤ 8 * n) (h2 : n ≤ 2 * 2 ^ b) : want n b = b := by
  unfold want; rw [if_neg (by omega)]
/-- the bits that have room are wanted again -/
theorem want_room (n : Nat) (hn : n ≤ 4096) : want n (room n) = room n := by
  unfold want
  split
  · rfl
  · rfl
theorem want_again {n b : Nat} (hn : n ≤ 4096) : want n (want n b) = want n b := by
  by_cases h : 2 * 2 ^ b < n ∨ 8 * n < 2 ^ b
  · have e : want n b = room n := by unfold want; rw [if_pos h]
    rw [e, want_room n hn]
  · have e : want n b = b := by unfold want; rw [if_neg h]
    rw [e, e]
/-- bits that are not what they were: they are the fewest that have room -/
theorem want_turned {n b : Nat} (h : want n b ≠ b) : want n b = room n := by
  unfold want at h ⊢
  by_cases hc : 2 * 2 ^ b < n ∨ 8 * n < 2 ^ b
  · rw [if_pos hc]
  · rw [if_neg hc] at h; exact absurd rfl h
theorem want10_mono {x y : Nat} (h : x ≤ y) (hy : y ≤ 4096) : want x 10 ≤ want y 10 ∨ want y 10 = 10 := by
  unfold want
  by_cases hc : 2 * 2 ^ 10 < y ∨ 8 * y < 2 ^ 10
  · rw [if_pos hc]
    by_cases hx : 2 * 2 ^ 10 < x ∨ 8 * x < 2 ^ 10
    · rw [if_pos hx]; exact .inl (room_mono h)
    · rw [if_neg hx]
      right
      obtain ⟨a1, a2, a3⟩ := room_is y
      rcases a3 with h' | h'
      · exact h'
      · have : 2 ^ room y ≤ 2 ^ 10 := pow_mono a1
        omega
  · rw [if_neg hc]; exact .inr rfl
end Go.Proofs.Ytkdmlpigkmlkmaa.ReP
