/- DERIVED. The order of what is owned. No Go text. -/
import Derived.Test.YtekdgghekdajbaaApp
set_option linter.unusedVariables false
set_option linter.unusedSimpArgs false
namespace Go.Proofs.Ytekdgghekdajbaa
open Go.RowKit
theorem OwnIn.tail {P : HP} {l l' : List HP} {w : World} {U : Nat → Prop} (h : OwnIn (P :: l) w U) (f : ∀ {U}, OwnIn l w U → OwnIn l' w U) : OwnIn (P :: l') w U := by
  obtain ⟨s, V, hP, hl, hd, hU⟩ := h
  exact ⟨s, V, hP, f hl, hd, hU⟩
theorem OwnIn.third {P Q R : HP} {l : List HP} {w : World} {U : Nat → Prop} (h : OwnIn (P :: Q :: R :: l) w U) : OwnIn (R :: P :: Q :: l) w U := (h.tail OwnIn.swap).swap
theorem OwnIn.back3 {P Q R : HP} {l : List HP} {w : World} {U : Nat → Prop} (h : OwnIn (R :: P :: Q :: l) w U) : OwnIn (P :: Q :: R :: l) w U := h.swap.tail OwnIn.swap
theorem OwnIn.fourth {P Q R S : HP} {l : List HP} {w : World} {U : Nat → Prop} (h : OwnIn (P :: Q :: R :: S :: l) w U) : OwnIn (S :: P :: Q :: R :: l) w U := (h.tail OwnIn.third).swap
theorem OwnIn.back4 {P Q R S : HP} {l : List HP} {w : World} {U : Nat → Prop} (h : OwnIn (S :: P :: Q :: R :: l) w U) : OwnIn (P :: Q :: R :: S :: l) w U := h.swap.tail OwnIn.back3
theorem Own.fourth {P Q R S : HP} {l : List HP} {w : World} (h : Own (P :: Q :: R :: S :: l) w) : Own (S :: P :: Q :: R :: l) w := (h.tail OwnIn.third).swap
theorem Own.back4 {P Q R S : HP} {l : List HP} {w : World} (h : Own (S :: P :: Q :: R :: l) w) : Own (P :: Q :: R :: S :: l) w := h.swap.tail OwnIn.back3
theorem Own.fifth {P Q R S T : HP} {l : List HP} {w : World} (h : Own (P :: Q :: R :: S :: T :: l) w) : Own (T :: P :: Q :: R :: S :: l) w := (h.tail OwnIn.fourth).swap
theorem Own.back5 {P Q R S T : HP} {l : List HP} {w : World} (h : Own (T :: P :: Q :: R :: S :: l) w) : Own (P :: Q :: R :: S :: T :: l) w := h.swap.tail OwnIn.back4
end Go.Proofs.Ytekdgghekdajbaa
