/- DERIVED. Layer 7 (walk), plainly: what is taken up to an instant, bit by bit. -/
import Derived.Test.YtekdahppacghbabWkJ
import Derived.Test.YtekdahppacghbabWkH
set_option linter.unusedVariables false
set_option linter.unusedSimpArgs false
set_option maxRecDepth 100000
namespace Go.Proofs.Ytekdahppacghbab.Wk
open Go.RowKit Go.Proofs.Ytekdahppacghbab Go.Proofs.Ytekdahppacghbab.TreeP Go.Proofs.Ytekdahppacghbab.Tr

theorem upto_split : ∀ {E : List En} (h : RisingE E) (at' : Int), ∃ V, E = uptoL E at' ++ V ∧ ∀ e ∈ V, at' < e.1.1
  | [], _, _ => ⟨[], rfl, by simp⟩
  | e :: E, h, at' => by
    unfold RisingE at h
    rw [List.pairwise_cons] at h
    obtain ⟨V, h1, h2⟩ := upto_split h.2 at'
    by_cases he : e.1.1 ≤ at'
    · refine ⟨V, ?_, h2⟩
      have : uptoL (e :: E) at' = e :: uptoL E at' := by unfold uptoL; rw [List.filter_cons, if_pos (by simpa using he)]
      rw [this, List.cons_append, ← h1]
    · have hall : ∀ x ∈ e :: E, at' < x.1.1 := by
        intro x hx
        rcases List.mem_cons.1 hx with rfl | hx
        · omega
        · have := h.1 x hx
          rw [lt_iff] at this
          omega
      refine ⟨e :: E, ?_, hall⟩
      have : uptoL (e :: E) at' = [] := by
        unfold uptoL
        rw [List.filter_eq_nil_iff]
        intro x hx
        have := hall x hx
        simp
        omega
      rw [this]
      rfl
theorem upto_le (E : List En) (at' : Int) : ∀ e ∈ uptoL E at', e.1.1 ≤ at' := fun e he => by
  unfold uptoL at he
  simpa using (List.mem_filter.1 he).2
theorem upto_drop {E : List En} (h : RisingE E) (at' : Int) {j : Nat} (hj : j ≤ (uptoL E at').length) : uptoL (E.drop j) at' = (uptoL E at').drop j := by
  obtain ⟨V, h1, h2⟩ := upto_split h at'
  obtain ⟨U, hU⟩ : ∃ U, U = uptoL E at' := ⟨_, rfl⟩
  have hle := upto_le E at'
  rw [← hU] at h1 hj hle ⊢
  rw [h1, List.drop_append_of_le_length hj]
  unfold uptoL
  rw [List.filter_append, List.filter_eq_self.2 (fun e he => by simpa using hle e (List.mem_of_mem_drop he)), List.filter_eq_nil_iff.2 (fun e he => by have := h2 e he; simp; omega), List.append_nil]
theorem upto_taken {E : List En} (h : RisingE E) (at' : Int) {j : Nat} (hj : j ≤ (uptoL E at').length) : (uptoL E at').take j = E.take j := by
  obtain ⟨V, h1, h2⟩ := upto_split h at'
  obtain ⟨U, hU⟩ : ∃ U, U = uptoL E at' := ⟨_, rfl⟩
  rw [← hU] at h1 hj ⊢
  rw [h1, List.take_append_of_le_length hj]
theorem upto_left {E : List En} (h : RisingE E) (at' : Int) : ∀ e ∈ E.drop (uptoL E at').length, at' < e.1.1 := by
  obtain ⟨V, h1, h2⟩ := upto_split h at'
  obtain ⟨U, hU⟩ : ∃ U, U = uptoL E at' := ⟨_, rfl⟩
  rw [← hU] at h1 ⊢
  intro e he
  rw [h1, List.drop_left] at he
  exact h2 e he
/-- one more bit -/
theorem upto_more {E : List En} (h : RisingE E) (at' : Int) {j b : Nat} (hj : j ≤ (uptoL E at').length) :
    (uptoL E at').take j ++ (uptoL (E.drop j) at').take b = (uptoL E at').take (j + ((uptoL (E.drop j) at').take b).length) ∧ j + ((uptoL (E.drop j) at').take b).length ≤ (uptoL E at').length ∧ ((uptoL (E.drop j) at').take b).length ≤ b ∧ ((uptoL E at').length ≤ b → j + ((uptoL (E.drop j) at').take b).length = (uptoL E at').length) := by
  rw [upto_drop h at' hj]
  obtain ⟨U, hU⟩ : ∃ U, U = uptoL E at' := ⟨_, rfl⟩
  rw [← hU] at hj ⊢
  refine ⟨?_, ?_, ?_, fun hb => ?_⟩
  · rw [List.take_add, List.length_take, List.length_drop]
    congr 1
    by_cases hb : b ≤ U.length - j
    · rw [Nat.min_eq_left hb]
    · rw [Nat.min_eq_right (by omega), List.take_of_length_le (by rw [List.length_drop]; omega), List.take_of_length_le (by rw [List.length_drop]; exact Nat.le_refl _)]
  · rw [List.length_take, List.length_drop]; omega
  · rw [List.length_take]; omega
  · rw [List.length_take, List.length_drop]; omega
end Go.Proofs.Ytekdahppacghbab.Wk
