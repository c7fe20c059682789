/- DERIVED. The order of what is owned, by places. No Go text. -/
import Derived.Test.YtekdgghekdajbaaOwn
set_option linter.unusedVariables false
set_option linter.unusedSimpArgs false
namespace Go.Proofs.Ytekdgghekdajbaa
open Go.RowKit
theorem ownInPerm {l l' : List HP} (p : l.Perm l') : ∀ {w : World} {U : Nat → Prop}, OwnIn l w U → OwnIn l' w U := by
  induction p with
  | nil => exact fun h => h
  | cons x _ ih => exact fun h => h.tail ih
  | swap x y l => exact fun h => h.swap
  | trans _ _ ih1 ih2 => exact fun h => ih2 (ih1 h)
theorem range_pick {α : Type} (L : List α) : (List.range L.length).filterMap (fun i => L[i]?) = L := by
  have h : ∀ (L : List α) (k : Nat), (List.range L.length).filterMap (fun i => L[i]?) = L := fun L => by
    intro _
    have e : (List.range L.length).map (fun i => L[i]?) = L.map some := by
      apply List.ext_getElem?
      intro i
      by_cases hi : i < L.length
      · simp [hi]
      · simp [hi]
    have e2 : ∀ (M : List Nat), M.filterMap (fun i => L[i]?) = (M.map (fun i => L[i]?)).filterMap id := fun M => by
      rw [List.filterMap_map]; rfl
    rw [e2, e, List.filterMap_map]
    simp
  exact h L 0
/-- what is owned, in another order: the first n of it by their places -/
theorem Own.re {L : List HP} {w : World} (n : Nat) (is : List Nat) (hp : is.isPerm (List.range (L.take n).length) = true) (h : Own L w) : Own (is.filterMap (fun i => (L.take n)[i]?) ++ L.drop n) w := by
  obtain ⟨U, hU⟩ := h
  refine ⟨U, ownInPerm ?_ hU⟩
  have p1 : (L.take n).Perm (is.filterMap (fun i => (L.take n)[i]?)) := by
    have := (List.isPerm_iff.1 hp).symm.filterMap (fun i => (L.take n)[i]?)
    rw [range_pick] at this
    exact this
  have p2 := p1.append_right (L.drop n)
  rw [List.take_append_drop] at p2
  exact p2
end Go.Proofs.Ytekdgghekdajbaa
