/- DERIVED. Layer 6 (tree): the document's tree: Get, Next. -/
import Derived.Test.YtekdahppacghbabR6B
set_option linter.unusedVariables false
set_option linter.unusedSimpArgs false
set_option maxRecDepth 100000
namespace Go.Proofs.Ytekdahppacghbab.Tr
open Go.RowKit Go.Proofs.Ytekdahppacghbab Go.Proofs.Ytekdahppacghbab.TreeP

theorem three_new (w : World) (A B C : Array Value) (t t' t'' : TypeId) :
    (((w.alloc (.cells A t)).alloc (.cells B t')).alloc (.cells C t'')).heap[w.heap.size]? = some (.cells A t (0, 0)) ∧
    (((w.alloc (.cells A t)).alloc (.cells B t')).alloc (.cells C t'')).heap[w.heap.size + 1]? = some (.cells B t' (0, 0)) ∧
    (((w.alloc (.cells A t)).alloc (.cells B t')).alloc (.cells C t'')).heap[w.heap.size + 2]? = some (.cells C t'' (0, 0)) := by
  have s1 : (w.alloc (.cells A t)).heap.size = w.heap.size + 1 := by simp
  have s2 : ((w.alloc (.cells A t)).alloc (.cells B t')).heap.size = w.heap.size + 2 := by simp
  refine ⟨?_, ?_, ?_⟩
  · exact ((((Ext.refl _).alloc (.cells B t')).alloc (.cells C t'')).heap (heap_alloc_new w (.cells A t)))
  · rw [← s1]
    exact (((Ext.refl _).alloc (.cells C t'')).heap (heap_alloc_new (w.alloc (.cells A t)) (.cells B t')))
  · rw [← s2]
    exact heap_alloc_new ((w.alloc (.cells A t)).alloc (.cells B t')) (.cells C t'')
theorem cell_at {w : World} {b o : Nat} {cs : Array Value} {t : TypeId} {u : Value} (h : w.heap[b]? = some (.cells cs t (0, 0))) (hu : cs[o]? = some u) : w.cell? ⟨b, o, none⟩ = some u ∧ w.frozen? ⟨b, o, none⟩ = false := by
  simp [World.cell?, World.frozen?, h, hu]
theorem set3 {w : World} {b : Nat} {x y z : Value} {t : TypeId} (h : w.heap[b]? = some (.cells #[x, y, z] t (0, 0))) (a0 a1 a2 : Value) :
    (((w.setCell ⟨b, 0, none⟩ a0).setCell ⟨b, 1, none⟩ a1).setCell ⟨b, 2, none⟩ a2).heap[b]? = some (.cells #[a0, a1, a2] t (0, 0)) := heap_set a2 (heap_set a1 (heap_set a0 h))
theorem firstAbove : ∀ {E : List En} (q : Key) (j : Nat) (e : En), E[j]? = some e → lt q e.1 = true → (∀ i e', i < j → E[i]? = some e' → lt q e'.1 = false) → nextE E q = some e
  | [], q, j, e, he, _, _ => by simp at he
  | x :: l, q, 0, e, he, hl, _ => by
    obtain rfl : x = e := by simpa using he
    simp [nextE, List.find?_cons, hl]
  | x :: l, q, j + 1, e, he, hl, hn => by
    unfold nextE
    rw [List.find?_cons_of_neg (by simpa using hn 0 x (by omega) rfl)]
    exact firstAbove (E := l) q j e (by simpa using he) hl (fun i e' hi h => hn (i + 1) e' (by omega) (by simpa using h))
theorem noneAbove {E : List En} (q : Key) (hn : ∀ (i : Nat) (e' : En), E[i]? = some e' → lt q e'.1 = false) : nextE E q = none := by
  unfold nextE
  rw [List.find?_eq_none]
  intro e he
  obtain ⟨i, hi⟩ := List.getElem?_of_mem he
  simpa using hn i e hi
end Go.Proofs.Ytekdahppacghbab.Tr
