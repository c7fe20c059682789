/- DERIVED. append([]T{}, x...): a copy in memory of its own; an empty slice that is made. No Go text. -/
import Derived.Test.YtkdmlpigkmlkmaaAppR
import Derived.Test.YtkdmlpigkmlkmaaBlk
set_option linter.unusedVariables false
set_option linter.unusedSimpArgs false
namespace Go.Proofs.Ytkdmlpigkmlkmaa
open Go.RowKit
section
variable {P : Program} {ops : Array Oper} {rest : List Oper} {o : Oper} {a : Act} {Q : Exit → Act → World → Prop}
/-- append([]T{}, x...): a copy in memory of its own -/
theorem app_fresh (w : World) (hgd : o.guard = none) (s x : Operand) (t e : TypeId) (z : Value) (size bytes : Nat)
    (ho : o.op = .call { callee := .builtin .append, args := #[s, x], argTypes := #[t, t] })
    (ht : P.underlying t = some (.slice e)) (hinfo : (P.info? e).map (fun i => (i.zero, i.size, i.bytes)) = some (some z, size, bytes)) (hz : z.cells.size = size) (hs0 : 0 < size)
    (k : Nat) (hs : a.eval s = .slice (some ⟨k, 0, none⟩) 0 0) (hk : ownsR w e size (.slice (some ⟨k, 0, none⟩) 0 0) 0 []) (v : Value) (n : Nat) (xs : List Value) (hx : a.eval x = v) (hv : ownsR w e size v n xs) (h1 : ∀ u ∈ xs, u.oneCell' = true)
    (hl : n ≤ maxLen) (hl2 : n * bytes ≤ 140737488355328)
    (h : ∀ v1 w1, ownsR w1 e size v1 n xs → w.grownBy w1 (Value.slice (some ⟨k, 0, none⟩) 0 0).ownBlock → Moved w (.slice (some ⟨k, 0, none⟩) 0 0) v1 → wpList P ops Q rest (a.put o.dst v1) w1) :
    wpList P ops Q (o :: rest) a w := by
  have hv' := hv
  rcases hv.2 with ⟨rfl, rfl⟩ | ⟨g, cap, cur, rfl, hg, hnc, hcm, hcs, htake⟩
  · have hxs : xs = [] := List.eq_nil_of_length_eq_zero (by simpa using hv.1)
    subst hxs
    exact app_nil w hgd s x t e z size bytes ho ht hinfo _ 0 [] hs hx hk (h _ _ hk ⟨rfl, rfl, rfl, Nat.le_refl _, fun _ _ _ => rfl⟩ (.inl rfl))
  · refine app_R w hgd s x t e z size bytes ho ht hinfo hz hs0 _ 0 [] hs ⟨g, 0, none⟩ n cap xs hx hv.1 (fun j u hj => by rw [add_plain]; exact (hv'.cells rfl j u hj).1) h1 hk (by omega) (by rw [Nat.zero_add]; exact hl2) ?_
    intro v1 w1 q1 q2 q3
    rw [Nat.zero_add, List.nil_append] at q1
    exact h v1 w1 q1 q2 q3
end
theorem Own.emptyNew (e : TypeId) (size : Nat) {l : List HP} {w : World} (h : Own l w) : Own (RowR e size (.slice (some ⟨w.heap.size, 0, none⟩) 0 0) 0 [] :: l) (w.alloc (.cells #[] e)) :=
  h.new ((Ext.refl w).alloc _) (P := RowR e size (.slice (some ⟨w.heap.size, 0, none⟩) 0 0) 0 []) (s := fun b => b = w.heap.size)
    ⟨⟨by simp, .inr ⟨w.heap.size, 0, #[], rfl, heap_alloc_new w _, Nat.le_refl _, by simp [maxLen], by simp, by simp⟩⟩, fun b => by simp [Value.ownBlock, eq_comm]⟩ (fun b hb => by rw [hb]; exact Nat.le_refl _)
theorem OwnIn.fifth {P Q R S T : HP} {l : List HP} {w : World} {U : Nat → Prop} (h : OwnIn (P :: Q :: R :: S :: T :: l) w U) : OwnIn (T :: P :: Q :: R :: S :: l) w U := (h.tail OwnIn.fourth).swap
theorem OwnIn.back5 {P Q R S T : HP} {l : List HP} {w : World} {U : Nat → Prop} (h : OwnIn (T :: P :: Q :: R :: S :: l) w U) : OwnIn (P :: Q :: R :: S :: T :: l) w U := h.swap.tail OwnIn.back4
theorem Own.sixth {P Q R S T X : HP} {l : List HP} {w : World} (h : Own (P :: Q :: R :: S :: T :: X :: l) w) : Own (X :: P :: Q :: R :: S :: T :: l) w := (h.tail OwnIn.fifth).swap
theorem Own.back6 {P Q R S T X : HP} {l : List HP} {w : World} (h : Own (X :: P :: Q :: R :: S :: T :: l) w) : Own (P :: Q :: R :: S :: T :: X :: l) w := h.swap.tail OwnIn.back5
end Go.Proofs.Ytkdmlpigkmlkmaa
