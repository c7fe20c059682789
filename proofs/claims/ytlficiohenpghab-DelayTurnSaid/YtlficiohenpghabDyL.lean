/- DERIVED. Layer 19 (delay): two delays beside one another; plain facts for DelayOrder. -/
import Derived.Test.YtlficiohenpghabDyK
set_option linter.unusedVariables false
set_option linter.unusedSimpArgs false
set_option maxRecDepth 100000
namespace Go.Proofs.Ytlficiohenpghab.Dy
open Go.RowKit Go.Maps Go.Proofs.Ytlficiohenpghab Go.Proofs.Ytlficiohenpghab.TreeP Go.Proofs.Ytlficiohenpghab.Tr Go.Proofs.Ytlficiohenpghab.Wk

theorem DO.perm {p n q : Nat} {E : List En} {l l' : List HP} {w : World} (h : DO p n q E l w) (hp : l.Perm l') : DO p n q E l' w := by
  obtain ⟨t, b, m, D, h1, h2⟩ := h
  exact ⟨t, b, m, D, h1.perm ((hp.cons _).cons _ |>.cons _), h2⟩
/-- two delays for twelve flows: the second one is at hand -/
def D2 (p1 q1 : Nat) (E1 : List En) (p2 q2 : Nat) (E2 : List En) (l : List HP) (w : World) : Prop :=
  ∃ t1 b1 m1 C1, DO p2 12 q2 E2 (BD p1 t1 b1 12 q1 :: Tree t1 12 E1 :: MK b1 m1 C1 :: l) w ∧ Rel C1 E1 ∧ m1 ≤ q1 ∧ EI 12 q1 E1
theorem D2.flip {p1 q1 p2 q2 : Nat} {E1 E2 : List En} {l : List HP} {w : World} (h : D2 p1 q1 E1 p2 q2 E2 l w) : D2 p2 q2 E2 p1 q1 E1 l w := by
  obtain ⟨t1, b1, m1, C1, ⟨t2, b2, m2, C2, h1, h2, h3, h4, h5, h6⟩, g2, g3, g4⟩ := h
  refine ⟨t2, b2, m2, C2, ⟨t1, b1, m1, C1, h1.perm ?_, g2, g3, g4, h5, h6⟩, h2, h3, h4⟩
  exact (List.perm_append_comm (l₁ := [BD p2 t2 b2 12 q2, Tree t2 12 E2, MK b2 m2 C2]) (l₂ := [BD p1 t1 b1 12 q1, Tree t1 12 E1, MK b1 m1 C1])).append_right l
theorem D2.start {p1 q1 p2 q2 : Nat} {E1 E2 : List En} {l : List HP} {w w2 : World} (h : DO p1 12 q1 E1 l w) (K : ∀ l', Own l' w → (∀ P, P ∈ l → P ∈ l') → DO p2 12 q2 E2 l' w2) : D2 p1 q1 E1 p2 q2 E2 l w2 := by
  obtain ⟨t1, b1, m1, C1, h1, h2, h3, h4, h5, h6⟩ := h
  exact ⟨t1, b1, m1, C1, K _ h1 (fun P hP => .tail _ (.tail _ (.tail _ hP))), h2, h3, h4⟩
/-- whatever is done to the second -/
theorem D2.at2 {p1 q1 p2 q2 : Nat} {E1 E2 : List En} {l : List HP} {w : World} (h : D2 p1 q1 E1 p2 q2 E2 l w) : ∃ Z, DO p2 12 q2 E2 (Z ++ l) w ∧ ∀ (q2' : Nat) (E2' : List En) (X : List HP) (w' : World), DO p2 12 q2' E2' (X ++ (Z ++ l)) w' → D2 p1 q1 E1 p2 q2' E2' (X ++ l) w' := by
  obtain ⟨t1, b1, m1, C1, h1, h2⟩ := h
  refine ⟨[BD p1 t1 b1 12 q1, Tree t1 12 E1, MK b1 m1 C1], h1, fun q2' E2' X w' h' => ⟨t1, b1, m1, C1, h'.perm ?_, h2⟩⟩
  have := (List.perm_append_comm (l₁ := X) (l₂ := [BD p1 t1 b1 12 q1, Tree t1 12 E1, MK b1 m1 C1])).append_right l
  rw [List.append_assoc, List.append_assoc] at this
  exact this
theorem D2.step {p1 q1 p2 q2 : Nat} {E1 E2 : List En} {l : List HP} {w w' : World} (h : D2 p1 q1 E1 p2 q2 E2 l w) (hx : Ext w w') : D2 p1 q1 E1 p2 q2 E2 l w' := by
  obtain ⟨t1, b1, m1, C1, h1, h2⟩ := h
  exact ⟨t1, b1, m1, C1, h1.step hx, h2⟩
theorem D2.rest {p1 q1 p2 q2 : Nat} {E1 E2 : List En} {l : List HP} {w : World} (h : D2 p1 q1 E1 p2 q2 E2 l w) : Own l w := by
  obtain ⟨t1, b1, m1, C1, h1, h2⟩ := h
  exact h1.rest.drop.drop.drop
/-- something of one's own beside them -/
theorem D2.open {p1 q1 p2 q2 : Nat} {E1 E2 : List En} {P : HP} {l : List HP} {w : World} (h : D2 p1 q1 E1 p2 q2 E2 (P :: l) w) : ∃ Z, Own (P :: Z) w ∧ ∀ (P' : HP) (w' : World), Own (P' :: Z) w' → D2 p1 q1 E1 p2 q2 E2 (P' :: l) w' := by
  obtain ⟨t1, b1, m1, C1, h1, h2⟩ := h
  have h3 := h1.perm (l' := P :: BD p1 t1 b1 12 q1 :: Tree t1 12 E1 :: MK b1 m1 C1 :: l) (List.perm_middle (l₁ := [_, _, _]))
  obtain ⟨Z, h4, hb⟩ := h3.open
  exact ⟨Z, h4, fun P' w' h' => ⟨t1, b1, m1, C1, (hb P' w' h').perm (List.perm_middle (l₁ := [_, _, _])).symm, h2⟩⟩
/-- how many of those that are due have been met -/
def dueL (E : List En) (now : Int) (left : Lit → Bool) : Nat := (E.filter fun e => decide (e.1.1 ≤ now) && !left (fl e.2)).length
theorem due_same {E : List En} {now : Int} {L L' : Lit → Bool} (h : ∀ e ∈ E, L' (fl e.2) = L (fl e.2)) : dueL E now L' = dueL E now L := by
  unfold dueL
  congr 1
  exact List.filter_congr fun e he => by rw [h e he]
theorem due_step {now : Int} {left : Lit → Bool} {f : Int} : ∀ {E : List En}, DF E → ∀ {k : Key}, (k, f) ∈ E → left (fl f) = true →
    dueL E now (fun z => left z && !z.sameKey (fl f)) = dueL E now left + (if k.1 ≤ now then 1 else 0)
  | [], _, _, hm, _ => by cases hm
  | e :: E, hd, k, hm, hl => by
    unfold DF at hd
    rw [List.pairwise_cons] at hd
    rcases List.mem_cons.1 hm with rfl | hm
    · have h1 : dueL E now (fun z => left z && !z.sameKey (fl f)) = dueL E now left := due_same fun x hx => by
        rw [sameKey_fl (hd.1 x hx).symm]
        simp
      unfold dueL at h1 ⊢
      have hs : (fl f).sameKey (fl f) = true := WideAt.sameKey_self (fl_key f)
      by_cases hk : k.1 ≤ now
      · rw [List.filter_cons_of_pos (by simp [hk, hs]), List.filter_cons_of_neg (by simp [hl]), if_pos hk, List.length_cons, h1]
      · rw [List.filter_cons_of_neg (by simp [hk]), List.filter_cons_of_neg (by simp [hk]), if_neg hk, h1]
        rfl
    · have ih := due_step (now := now) (left := left) hd.2 hm hl
      have hne : e.2 ≠ f := hd.1 _ hm
      unfold dueL at ih ⊢
      have hs := sameKey_fl hne
      have hb2 : (decide (e.1.1 ≤ now) && !(left (fl e.2) && !(fl e.2).sameKey (fl f))) = (decide (e.1.1 ≤ now) && !left (fl e.2)) := by rw [hs]; simp
      simp only at ih
      simp only [List.filter_cons, hb2]
      cases (decide (e.1.1 ≤ now) && !left (fl e.2)) with
      | true =>
        simp only [if_true, List.length_cons]
        omega
      | false =>
        simp only [Bool.false_eq_true, if_false]
        exact ih
theorem due_none {E : List En} {now : Int} {left : Lit → Bool} (h : ∀ e ∈ E, left (fl e.2) = true) : dueL E now left = 0 := by
  unfold dueL
  rw [List.filter_eq_nil_iff.2 (fun e he => by simp [h e he])]
  rfl
theorem due_all {E : List En} {now : Int} {left : Lit → Bool} (h : ∀ z, left z = false) : dueL E now left = (uptoL E now).length := by
  unfold dueL uptoL
  congr 1
  exact List.filter_congr fun e he => by simp [h]
/-- who is due comes ahead of all others -/
theorem upto_take {E : List En} (hr : RisingE E) (now : Int) : uptoL E now = E.take (uptoL E now).length := by
  have h := upto_prefix hr now E.length
  have hl : (uptoL E now).length ≤ E.length := List.length_filter_le _ _
  rw [List.take_of_length_le hl] at h
  exact List.prefix_iff_eq_take.1 h
theorem upto_rest {E : List En} (hr : RisingE E) (now : Int) : ∀ e ∈ E.drop (uptoL E now).length, now < e.1.1 := by
  have h1 := upto_take hr now
  obtain ⟨U, hU⟩ : ∃ U, U = uptoL E now := ⟨_, rfl⟩
  rw [← hU] at h1 ⊢
  intro e he
  have h2 : ¬ e.1.1 ≤ now := fun hle => by
    have hm : e ∈ U := by rw [hU]; unfold uptoL; exact List.mem_filter.2 ⟨List.mem_of_mem_drop he, by simpa using hle⟩
    rw [h1] at hm
    have hp := List.pairwise_iff_getElem.1 hr
    obtain ⟨i, hi⟩ := List.getElem?_of_mem hm
    obtain ⟨j, hj⟩ := List.getElem?_of_mem he
    rw [List.getElem?_take] at hi
    split at hi
    · rw [List.getElem?_drop] at hj
      obtain ⟨i1, i2⟩ := List.getElem?_eq_some_iff.1 hi
      obtain ⟨j1, j2⟩ := List.getElem?_eq_some_iff.1 hj
      have := hp i (U.length + j) i1 j1 (by omega)
      rw [i2, j2] at this
      exact lt_irrefl _ this
    · cases hi
  omega
/-- a flow that has come does not wait any more -/
theorem gone {E : List En} (hd : DF E) {U : List En} {m : Nat} (hU : U = E.take m) {e : En} (he : e ∈ U) : who (E.drop m) e.2 = none := by
  rw [who_none]
  intro x hx hxe
  rw [hU] at he
  have hp := List.pairwise_iff_getElem.1 hd
  obtain ⟨i, hi⟩ := List.getElem?_of_mem he
  obtain ⟨j, hj⟩ := List.getElem?_of_mem hx
  rw [List.getElem?_take] at hi
  split at hi
  · rw [List.getElem?_drop] at hj
    obtain ⟨i1, i2⟩ := List.getElem?_eq_some_iff.1 hi
    obtain ⟨j1, j2⟩ := List.getElem?_eq_some_iff.1 hj
    have := hp i (m + j) i1 j1 (by omega)
    rw [i2, j2] at this
    exact this hxe.symm
  · cases hi
end Go.Proofs.Ytlficiohenpghab.Dy
