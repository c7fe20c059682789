/- DERIVED. Several assertions packed into one (XPack, without the order). No Go text. -/
import Derived.Test.YtekdgghekdajbaaOwn
set_option linter.unusedVariables false
set_option linter.unusedSimpArgs false
namespace Go.Proofs.Ytekdgghekdajbaa
open Go.RowKit

theorem OwnIn.loc : ∀ {l : List HP} {w w' : World} {U : Nat → Prop}, OwnIn l w U → w'.os = w.os → w'.tape = w.tape → w'.output = w.output → (∀ b, U b → w'.heap[b]? = w.heap[b]?) → w.heap.size ≤ w'.heap.size → OwnIn l w' U
  | [], _, _, _, h, _, _, _, _, _ => h
  | P :: l, w, w', U, ⟨s, V, hP, hl, hd, hU⟩, h1, h2, h3, h4, h5 =>
    ⟨s, V, P.loc hP h1 h2 h3 (fun b hb => h4 b ((hU b).2 (.inl hb))) h5, OwnIn.loc hl h1 h2 h3 (fun b hb => h4 b ((hU b).2 (.inr hb))) h5, hd, hU⟩
theorem OwnIn.same {l : List HP} {w : World} {U V : Nat → Prop} (h : OwnIn l w U) (k : ∀ b, U b ↔ V b) : OwnIn l w V := by
  have : U = V := funext fun b => propext (k b)
  exact this ▸ h
theorem OwnIn.split : ∀ {L l : List HP} {w : World} {U : Nat → Prop}, OwnIn (L ++ l) w U → ∃ s V, OwnIn L w s ∧ OwnIn l w V ∧ (∀ b, s b → ¬ V b) ∧ ∀ b, U b ↔ s b ∨ V b
  | [], l, w, U, h => ⟨fun _ => False, U, fun _ h => h, h, fun _ h => h.elim, fun b => by simp⟩
  | P :: L, l, w, U, ⟨s, V, hP, hl, hd, hU⟩ => by
    obtain ⟨s', V', h1, h2, h3, h4⟩ := OwnIn.split hl
    refine ⟨fun b => s b ∨ s' b, V', ⟨s, s', hP, h1, fun b hb hc => hd b hb ((h4 b).2 (.inl hc)), fun b => Iff.rfl⟩, h2, fun b hb hc => ?_, fun b => ?_⟩
    · rcases hb with hb | hb
      · exact hd b hb ((h4 b).2 (.inr hc))
      · exact h3 b hb hc
    · rw [hU b, h4 b, or_assoc]
theorem OwnIn.join : ∀ {L l : List HP} {w : World} {s V : Nat → Prop}, OwnIn L w s → OwnIn l w V → (∀ b, s b → ¬ V b) → OwnIn (L ++ l) w (fun b => s b ∨ V b)
  | [], l, w, s, V, h, hl, hd => hl.same fun b => ⟨.inr, fun h' => h'.elim (fun hs => (h b hs).elim) id⟩
  | P :: L, l, w, s, V, ⟨s1, V1, hP, h1, hd1, hU⟩, hl, hd => by
    refine ⟨s1, fun b => V1 b ∨ V b, hP, OwnIn.join h1 hl (fun b hb => hd b ((hU b).2 (.inr hb))), fun b hb hc => ?_, fun b => ?_⟩
    · rcases hc with hc | hc
      · exact hd1 b hb hc
      · exact hd b ((hU b).2 (.inl hb)) hc
    · show s b ∨ V b ↔ s1 b ∨ (V1 b ∨ V b)
      rw [hU b, or_assoc]
/-- an x with its law, and what it lists, as one -/
def PackE {α : Type} (φ : α → Prop) (f : α → List HP) : HP where
  holds w s := ∃ x, φ x ∧ OwnIn (f x) w s
  loc := fun ⟨x, hx, h⟩ h1 h2 h3 h4 h5 => ⟨x, hx, h.loc h1 h2 h3 h4 h5⟩
  bnd := fun ⟨x, hx, h⟩ hb => h.bnd hb
theorem Own.unpack {α : Type} {φ : α → Prop} {f : α → List HP} {l : List HP} {w : World} (h : Own (PackE φ f :: l) w) : ∃ x, φ x ∧ Own (f x ++ l) w := by
  obtain ⟨U, s, V, ⟨x, hx, hP⟩, hl, hd, hU⟩ := h
  exact ⟨x, hx, _, OwnIn.join hP hl hd⟩
theorem Own.pack {α : Type} {φ : α → Prop} {f : α → List HP} {l : List HP} {w : World} (x : α) (hx : φ x) (h : Own (f x ++ l) w) : Own (PackE φ f :: l) w := by
  obtain ⟨U, hU⟩ := h
  obtain ⟨s, V, h1, h2, h3, h4⟩ := OwnIn.split hU
  exact ⟨U, s, V, ⟨x, hx, h1⟩, h2, h3, h4⟩
theorem OwnIn.packIn {α : Type} {φ : α → Prop} {f : α → List HP} {l : List HP} {w : World} {U : Nat → Prop} (x : α) (hx : φ x) (h : OwnIn (f x ++ l) w U) : OwnIn (PackE φ f :: l) w U := by
  obtain ⟨s, V, h1, h2, h3, h4⟩ := OwnIn.split h
  exact ⟨s, V, ⟨x, hx, h1⟩, h2, h3, h4⟩
theorem Own.dropL {L l : List HP} {w : World} (h : Own (L ++ l) w) : Own l w := by
  obtain ⟨U, hU⟩ := h
  obtain ⟨s, V, h1, h2, h3, h4⟩ := OwnIn.split hU
  exact ⟨V, h2⟩
end Go.Proofs.Ytekdgghekdajbaa
