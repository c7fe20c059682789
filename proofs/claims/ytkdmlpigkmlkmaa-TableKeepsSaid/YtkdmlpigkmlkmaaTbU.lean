/- DERIVED. Layer 15 (rehash): how many flows each bucket has, plainly. -/
import Derived.Test.YtkdmlpigkmlkmaaTbS
import Derived.Test.YtkdmlpigkmlkmaaTbM
set_option linter.unusedVariables false
set_option linter.unusedSimpArgs false
set_option maxRecDepth 100000
namespace Go.Proofs.Ytkdmlpigkmlkmaa.Tb
open Go.RowKit Go.Proofs.Ytkdmlpigkmlkmaa Go.Proofs.Ytkdmlpigkmlkmaa.TreeP Go.Proofs.Ytkdmlpigkmlkmaa.Tr Go.Proofs.Ytkdmlpigkmlkmaa.Bk

/-- of each bucket how many of these sockets are in it -/
def cnt (b : Nat) (xs : List Int) : List Nat := (List.range (2 ^ b)).map fun i => xs.countP fun s => decide (β b s = i)
theorem cnt_len (b : Nat) (xs : List Int) : (cnt b xs).length = 2 ^ b := by simp [cnt]
theorem cnt_at {b i : Nat} {xs : List Int} (h : i < 2 ^ b) : (cnt b xs)[i]? = some (xs.countP fun s => decide (β b s = i)) := by
  unfold cnt
  rw [List.getElem?_map, List.getElem?_range h]
  rfl
theorem cnt_nil (b : Nat) : cnt b [] = List.replicate (2 ^ b) 0 := by
  unfold cnt
  simp [List.map_const']
theorem cnt_snoc {b : Nat} {xs : List Int} {s : Int} {c : Nat} (hb : b ≤ 10) (hc : (cnt b xs)[β b s]? = some c) : cnt b (xs ++ [s]) = (cnt b xs).set (β b s) (c + 1) := by
  have hl := β_lt b s hb
  rw [cnt_at hl] at hc
  injection hc with hc
  apply List.ext_getElem?
  intro i
  by_cases hi : i < 2 ^ b
  · rw [cnt_at hi, List.countP_append]
    by_cases e : i = β b s
    · subst e
      rw [List.getElem?_set_self (by rw [cnt_len]; exact hl), hc]
      simp
    · rw [List.getElem?_set_ne (Ne.symm e), cnt_at hi]
      simp [Ne.symm e]
  · rw [List.getElem?_eq_none (by rw [cnt_len]; omega), List.getElem?_eq_none (by rw [List.length_set, cnt_len]; omega)]
theorem sum_ind (f : Nat → Nat) (j : Nat) : ∀ m, ((List.range m).map fun i => f i + if j = i then 1 else 0).sum = ((List.range m).map f).sum + if j < m then 1 else 0
  | 0 => by simp
  | m + 1 => by
    rw [List.range_succ, List.map_append, List.map_append, List.sum_append, List.sum_append, sum_ind f j m]
    simp only [List.map_cons, List.map_nil, List.sum_cons, List.sum_nil]
    by_cases h1 : j < m
    · rw [if_pos h1, if_neg (by omega), if_pos (by omega)]; omega
    · by_cases h2 : j = m
      · rw [if_neg h1, if_pos h2, if_pos (by omega)]; omega
      · rw [if_neg h1, if_neg h2, if_neg (by omega)]; omega
theorem cnt_sum {b : Nat} (hb : b ≤ 10) : ∀ xs : List Int, (cnt b xs).sum = xs.length
  | [] => by rw [cnt_nil]; simp
  | s :: xs => by
    have ih := cnt_sum hb xs
    have h : cnt b (s :: xs) = (List.range (2 ^ b)).map fun i => (xs.countP fun s => decide (β b s = i)) + if β b s = i then 1 else 0 := by
      unfold cnt
      refine List.map_congr_left fun i _ => ?_
      rw [List.countP_cons]
      simp
    rw [h, sum_ind, if_pos (β_lt b s hb)]
    unfold cnt at ih
    rw [ih]
    rfl
theorem β_half {b : Nat} (hb : b + 1 ≤ 10) (s : Int) : β b s = β (b + 1) s / 2 := by
  unfold β Mx.bk
  have e : 2 ^ (64 - b) = 2 ^ (64 - (b + 1)) * 2 := by rw [← Nat.pow_succ]; congr 1; omega
  rw [e, Nat.div_div_eq_div_mul]
theorem cnt_half {b i x : Nat} {xs : List Int} (hb : b + 1 ≤ 10) (hx : (cnt b xs)[i]? = some x) : ∃ y z, (cnt (b + 1) xs)[2 * i]? = some y ∧ (cnt (b + 1) xs)[2 * i + 1]? = some z ∧ x = y + z := by
  have hi : i < 2 ^ b := by
    have := (List.getElem?_eq_some_iff.1 hx).1
    rw [cnt_len] at this
    exact this
  have hp : 2 ^ (b + 1) = 2 ^ b * 2 := Nat.pow_succ 2 b
  rw [cnt_at hi] at hx
  injection hx with hx
  refine ⟨_, _, cnt_at (by omega), cnt_at (by omega), ?_⟩
  rw [← hx]
  clear hx
  induction xs with
  | nil => rfl
  | cons s xs ih =>
    rw [List.countP_cons, List.countP_cons, List.countP_cons, ih]
    have h := β_half hb s
    simp only [decide_eq_true_eq]
    by_cases e1 : β (b + 1) s = 2 * i
    · rw [if_pos (by omega), if_pos e1, if_neg (by omega)]; omega
    · by_cases e2 : β (b + 1) s = 2 * i + 1
      · rw [if_pos (by omega), if_neg e1, if_pos e2]; omega
      · rw [if_neg (by omega), if_neg e1, if_neg e2]; omega
/-- the greatest -/
def maxL (xs : List Nat) : Nat := xs.foldl max 0
theorem foldl_max (xs : List Nat) : ∀ a : Nat, a ≤ xs.foldl max a ∧ (∀ x ∈ xs, x ≤ xs.foldl max a) ∧ ∀ m, a ≤ m → (∀ x ∈ xs, x ≤ m) → xs.foldl max a ≤ m := by
  induction xs with
  | nil => intro a; exact ⟨Nat.le_refl _, (fun x h => by cases h), fun m h _ => h⟩
  | cons y xs ih =>
    intro a
    obtain ⟨h1, h2, h3⟩ := ih (max a y)
    refine ⟨by simp only [List.foldl_cons]; omega, fun x hx => ?_, fun m ha hm => ?_⟩
    · simp only [List.foldl_cons]
      cases hx with
      | head => omega
      | tail _ h => exact h2 x h
    · simp only [List.foldl_cons]
      exact h3 m (by have := hm y (.head _); omega) fun x hx => hm x (.tail _ hx)
theorem max_ge {xs : List Nat} {x : Nat} (h : x ∈ xs) : x ≤ maxL xs := (foldl_max xs 0).2.1 x h
theorem max_le {xs : List Nat} {m : Nat} (h : ∀ x ∈ xs, x ≤ m) : maxL xs ≤ m := (foldl_max xs 0).2.2 m (Nat.zero_le _) h
theorem max_snoc (xs : List Nat) (x : Nat) : maxL (xs ++ [x]) = max (maxL xs) x := by unfold maxL; rw [List.foldl_append]; rfl
theorem sum_le {m : Nat} : ∀ {xs : List Nat}, (∀ x ∈ xs, x ≤ m) → xs.sum ≤ m * xs.length
  | [], _ => by simp
  | x :: xs, h => by
    have h1 := sum_le fun y hy => h y (.tail _ hy)
    have h2 := h x (.head _)
    rw [List.sum_cons, List.length_cons, Nat.mul_succ]
    omega
theorem cnt_zero (xs : List Int) : cnt 0 xs = [xs.length] := by
  unfold cnt
  have h : (xs.countP fun s => decide (β 0 s = 0)) = xs.length := List.countP_eq_length.2 fun s _ => by
    have := β_lt 0 s (by omega)
    simp only [decide_eq_true_eq]
    omega
  simp [List.range_succ, h]
/-- the socket of a row -/
def sockAt (S : T) (k : Nat) : Int := ((rowAt S.rows k).map (·.f.s)).getD 0
def socks (S : T) : List Int := (allL S).map (sockAt S)
theorem socks_len (S : T) : (socks S).length = (allL S).length := by simp [socks]
end Go.Proofs.Ytkdmlpigkmlkmaa.Tb
