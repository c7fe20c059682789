/- DERIVED. Blocks whose cells are known, owned; rows of structs of seven cells. No Go text. -/
import Derived.Test.YtekdgghekdajbaaOwn
set_option linter.unusedVariables false
set_option linter.unusedSimpArgs false
namespace Go.Proofs.Ytekdgghekdajbaa
open Go.RowKit
def Blk (b : Nat) (cs : Array Value) (t : TypeId) : HP where
  holds w s := w.heap[b]? = some (.cells cs t (0, 0)) ∧ ∀ x, s x ↔ x = b
  loc := fun {w w' s} h h1 h2 h3 h4 h5 => ⟨(h4 b ((h.2 b).2 rfl)).trans h.1, h.2⟩
  bnd := fun {w s x} h hx => by rw [(h.2 x).1 hx]; exact (Array.getElem?_eq_some_iff.1 h.1).1
theorem Own.blkNew {l : List HP} {w : World} (h : Own l w) (cs : Array Value) (t : TypeId) : Own (Blk w.heap.size cs t :: l) (w.alloc (.cells cs t)) :=
  h.new (s := fun x => x = w.heap.size) ((Ext.refl w).alloc _) ⟨heap_alloc_new w _, fun _ => Iff.rfl⟩ (fun b hb => by rw [hb]; exact Nat.le_refl _)
theorem blk_of : ∀ {l : List HP} {w : World} {U : Nat → Prop} {b : Nat} {cs : Array Value} {t : TypeId}, OwnIn l w U → Blk b cs t ∈ l → w.heap[b]? = some (.cells cs t (0, 0))
  | [], _, _, _, _, _, _, hm => by simp at hm
  | P :: l, w, U, b, cs, t, ⟨s, V, hP, hl, _, _⟩, hm => by
    cases hm with
    | head => exact hP.1
    | tail _ hm => exact blk_of hl hm
theorem Own.blk {l : List HP} {w : World} {b : Nat} {cs : Array Value} {t : TypeId} (h : Own l w) (hm : Blk b cs t ∈ l) : w.heap[b]? = some (.cells cs t (0, 0)) := by
  obtain ⟨U, hU⟩ := h
  exact blk_of hU hm
theorem Own.blkSet {l : List HP} {w : World} {b o : Nat} {cs : Array Value} {t : TypeId} (h : Own (Blk b cs t :: l) w) (v : Value) : Own (Blk b (cs.setIfInBounds o v) t :: l) (w.setCell ⟨b, o, none⟩ v) := by
  obtain ⟨s, hP, hb, K⟩ := h.open
  exact K ((Step.refl s w).setCell _ (.inl ((hP.2 b).2 rfl)) v) (P' := Blk b (cs.setIfInBounds o v) t) (s' := s) ⟨heap_set v hP.1, hP.2⟩ (fun x hx => .inl hx)
theorem Own.blk4 {l : List HP} {w : World} {b : Nat} {x y z u : Value} {t : TypeId} (h : Own l w) (hm : Blk b #[x, y, z, u] t ∈ l) :
    w.cell? ⟨b, 0, none⟩ = some x ∧ w.cell? ⟨b, 1, none⟩ = some y ∧ w.cell? ⟨b, 2, none⟩ = some z ∧ w.cell? ⟨b, 3, none⟩ = some u ∧ ∀ o, w.frozen? ⟨b, o, none⟩ = false := by
  simp [World.cell?, World.frozen?, Own.blk h hm]
section
variable {α : Type} (f : α → List Value)
theorem flat_len7 (hf : ∀ x, (f x).length = 7) : ∀ l : List α, (l.flatMap f).length = l.length * 7
  | [] => rfl
  | x :: l => by rw [List.flatMap_cons, List.length_append, flat_len7 hf l, hf, List.length_cons]; omega
theorem flat_at7 (hf : ∀ x, (f x).length = 7) : ∀ (l : List α) (i c : Nat) (x : α), l[i]? = some x → c < 7 → (l.flatMap f)[i * 7 + c]? = (f x)[c]?
  | [], i, c, x, h, hc => by simp at h
  | y :: l, 0, c, x, h, hc => by
    obtain rfl : y = x := by simpa using h
    rw [List.flatMap_cons, List.getElem?_append_left (by rw [hf]; omega)]
    congr 1; omega
  | y :: l, i + 1, c, x, h, hc => by
    rw [List.flatMap_cons, List.getElem?_append_right (by rw [hf]; omega), hf, show (i + 1) * 7 + c - 7 = i * 7 + c from by omega]
    exact flat_at7 hf l i c x (by simpa using h) hc
theorem flat_set7 (hf : ∀ x, (f x).length = 7) (h : α) (a0 a1 a2 a3 a4 a5 a6 : Value) (e : f h = [a0, a1, a2, a3, a4, a5, a6]) : ∀ (l : List α) (i : Nat), i < l.length →
    ((((((((l.flatMap f).set (i * 7) a0).set (i * 7 + 1) a1).set (i * 7 + 2) a2).set (i * 7 + 3) a3).set (i * 7 + 4) a4).set (i * 7 + 5) a5).set (i * 7 + 6) a6) = (l.set i h).flatMap f
  | [], i, hi => by simp at hi
  | y :: l, 0, hi => by
    obtain ⟨b0, b1, b2, b3, b4, b5, b6, ey⟩ : ∃ b0 b1 b2 b3 b4 b5 b6, f y = [b0, b1, b2, b3, b4, b5, b6] := by
      have := hf y
      match f y, this with
      | [b0, b1, b2, b3, b4, b5, b6], _ => exact ⟨_, _, _, _, _, _, _, rfl⟩
    simp [ey, e]
  | y :: l, i + 1, hi => by
    have ih := flat_set7 hf h a0 a1 a2 a3 a4 a5 a6 e l i (by simpa using hi)
    rw [List.set_cons_succ, List.flatMap_cons, List.flatMap_cons, ← ih]
    have hh : ∀ (c : Nat) (m : List Value) (v : Value), (f y ++ m).set ((i + 1) * 7 + c) v = f y ++ m.set (i * 7 + c) v := fun c m v => by
      rw [List.set_append_right _ _ (by rw [hf]; omega), hf, show (i + 1) * 7 + c - 7 = i * 7 + c from by omega]
    have h0 : ∀ (m : List Value) (v : Value), (f y ++ m).set ((i + 1) * 7) v = f y ++ m.set (i * 7) v := fun m v => hh 0 m v
    rw [h0, hh, hh, hh, hh, hh, hh]
end
/-- a whole struct of seven cells, written in a row -/
theorem Own.rowSet7 {e g cap i : Nat} {α : Type} {f : α → List Value} (hf : ∀ x, (f x).length = 7) {H : List α} {l : List HP} {w : World} (h : Own (Row e 7 (.slice (some ⟨g, 0, none⟩) H.length cap) H.length (H.flatMap f) :: l) w) (hi : i < H.length) (x : α) (a0 a1 a2 a3 a4 a5 a6 : Value) (ex : f x = [a0, a1, a2, a3, a4, a5, a6]) :
    Own (Row e 7 (.slice (some ⟨g, 0, none⟩) (H.set i x).length cap) (H.set i x).length ((H.set i x).flatMap f) :: l) (((((((w.setCell ⟨g, i * 7, none⟩ a0).setCell ⟨g, i * 7 + 1, none⟩ a1).setCell ⟨g, i * 7 + 2, none⟩ a2).setCell ⟨g, i * 7 + 3, none⟩ a3).setCell ⟨g, i * 7 + 4, none⟩ a4).setCell ⟨g, i * 7 + 5, none⟩ a5).setCell ⟨g, i * 7 + 6, none⟩ a6) := by
  have h0 := h.rowSet (o := i * 7) (by omega) a0
  have h1 := h0.rowSet (o := i * 7 + 1) (by omega) a1
  have h2 := h1.rowSet (o := i * 7 + 2) (by omega) a2
  have h3 := h2.rowSet (o := i * 7 + 3) (by omega) a3
  have h4 := h3.rowSet (o := i * 7 + 4) (by omega) a4
  have h5 := h4.rowSet (o := i * 7 + 5) (by omega) a5
  have h6 := h5.rowSet (o := i * 7 + 6) (by omega) a6
  rw [flat_set7 f hf x a0 a1 a2 a3 a4 a5 a6 ex H i hi] at h6
  rw [List.length_set]
  exact h6
end Go.Proofs.Ytekdgghekdajbaa
