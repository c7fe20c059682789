/- DERIVED. Layer 6 (tree): contract of order. -/
import Derived.Test.YtlficiohenpghabTrO
set_option linter.unusedVariables false
set_option linter.unusedSimpArgs false
set_option maxRecDepth 100000
namespace Go.Proofs.Ytlficiohenpghab.Tr
open Go.RowKit Go.Proofs.Ytlficiohenpghab Go.Proofs.Ytlficiohenpghab.TreeP

/-- a tree as it stands, owned -/
def TreeAt (p g cap : Nat) (fr : Value) (free : List Nat) (many room : Nat) (S : TS) : HP where
  holds w s := TL p g cap fr free many room S w ∧ ∀ b, s b ↔ foot p g fr b
  loc := fun {w w' s} ⟨hl, hs⟩ h1 h2 h3 h4 h5 =>
    ⟨⟨⟨(h4 p ((hs p).2 (.inl rfl))).trans hl.tw.obj, ownsRow_keep hl.tw.row (fun b hb => h4 b ((hs b).2 (.inr (.inl (by injection hb with hb; exact hb.symm))))), hl.tw.ne⟩,
      ownsRow_keep hl.fe (fun b hb => h4 b ((hs b).2 (.inr (.inr hb)))), hl.fp, hl.fg⟩, hs⟩
  bnd := fun {w s b} ⟨hl, hs⟩ hb => hl.foot_lt b ((hs b).1 hb)
theorem tree_at {p room : Nat} {E : List En} {l : List HP} {w : World} (h : Own (Tree p room E :: l) w) :
    ∃ g cap fr free many S t, Own (TreeAt p g cap fr free many room S :: l) w ∧ Inv S free many room t ∧ t.ids.map (entry S) = E := by
  obtain ⟨s, ⟨g, cap, fr, free, many, S, t, hl, hi, he, hs⟩, hb, K⟩ := h.open
  exact ⟨g, cap, fr, free, many, S, t, K (Step.refl s w) (P' := TreeAt p g cap fr free many room S) (s' := s) ⟨hl, hs⟩ (fun b hb => .inl hb), hi, he⟩
theorem tree_back {p g cap many room : Nat} {fr : Value} {free : List Nat} {S : TS} {t : T} {E : List En} {l : List HP} {w : World} (h : Own (TreeAt p g cap fr free many room S :: l) w) (hi : Inv S free many room t) (he : t.ids.map (entry S) = E) : Own (Tree p room E :: l) w := by
  obtain ⟨s, ⟨hl, hs⟩, hb, K⟩ := h.open
  exact K (Step.refl s w) (P' := Tree p room E) (s' := s) ⟨g, cap, fr, free, many, S, t, hl, hi, he, hs⟩ (fun b hb => .inl hb)
theorem own_tl {p g cap many room : Nat} {fr : Value} {free : List Nat} {S : TS} {l : List HP} {w : World} (h : Own (TreeAt p g cap fr free many room S :: l) w) : TL p g cap fr free many room S w := by
  obtain ⟨s, ⟨hl, hs⟩, hb, K⟩ := h.open
  exact hl
theorem Own.rowPop {e n g cap : Nat} {xs : List Value} {l : List HP} {w : World} (h : Own (Row e 1 (.slice (some ⟨g, 0, none⟩) (n + 1) cap) (n + 1) xs :: l) w) : Own (Row e 1 (.slice (some ⟨g, 0, none⟩) n cap) n xs.dropLast :: l) w := by
  obtain ⟨s, hP, hb, K⟩ := h.open
  exact K (Step.refl s w) (P' := Row e 1 (.slice (some ⟨g, 0, none⟩) n cap) n xs.dropLast) (s' := s) ⟨by have := ownsRow_pop' hP.1 (by omega); simpa using this, fun b => by rw [hP.2 b]; simp [Value.ownBlock]⟩ (fun b hb => .inl hb)
theorem ord_len : ∀ (k : Nat) (S : TS) (x : Nat) (T O R : List Nat), TreeP.ord k S x T O = some R → T.length + O.length ≤ R.length
  | 0, _, _, _, _, _, h => by simp [TreeP.ord] at h
  | k + 1, S, x, T, O, R, h => by
    unfold TreeP.ord at h
    by_cases hx : x ≠ 0
    · rw [if_pos hx] at h
      have := ord_len k S _ _ _ _ h
      rw [List.length_append, List.length_singleton] at this
      omega
    · rw [if_neg hx] at h
      by_cases ht : T = []
      · rw [if_pos ht] at h
        injection h with h
        subst ht h
        simp
      · rw [if_neg ht] at h
        have := ord_len k S _ _ _ _ h
        rw [List.length_dropLast, List.length_append, List.length_singleton] at this
        have : 0 < T.length := List.length_pos_iff.2 ht
        omega
def OI (l0 : List HP) (S : TS) (R : List Nat) (N : Nat) (vo vt vx : Value) (wr : World) (k : Nat) : Prop :=
  ∃ (x : Nat) (T O : List Nat), vx = .int .i64 (x : Int) ∧ x < N ∧ Own (Row 3 1 vt T.length (ints T) :: Row 3 1 vo O.length (ints O) :: l0) wr ∧ TreeP.ord k S x T O = some R ∧ ∀ j ∈ T, j < N
end Go.Proofs.Ytlficiohenpghab.Tr
