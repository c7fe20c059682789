/- DERIVED. Who owns which blocks: assertions on sets of blocks, apart from one another ('Own'), and what a call that touches one of them leaves of the others. No Go text. -/
import Derived.Test.YtekdgghekdajbaaBase
set_option linter.unusedVariables false
set_option linter.unusedSimpArgs false
namespace Go.Proofs.Ytekdgghekdajbaa
open Go.RowKit

/-- but for the blocks of s, and new ones, nothing has turned -/
structure Step (s : Nat → Prop) (w w' : World) : Prop where
  os : w'.os = w.os
  tape : w'.tape = w.tape
  output : w'.output = w.output
  size : w.heap.size ≤ w'.heap.size
  block : ∀ b, b < w.heap.size → ¬ s b → w'.heap[b]? = w.heap[b]?
theorem Step.refl (s : Nat → Prop) (w : World) : Step s w w := ⟨rfl, rfl, rfl, Nat.le_refl _, fun _ _ _ => rfl⟩
theorem Step.trans {s : Nat → Prop} {a b c : World} (h : Step s a b) (k : Step s b c) : Step s a c :=
  ⟨k.os.trans h.os, k.tape.trans h.tape, k.output.trans h.output, Nat.le_trans h.size k.size, fun i hi hs => (k.block i (Nat.lt_of_lt_of_le hi h.size) hs).trans (h.block i hi hs)⟩
theorem Step.trans' {s s' : Nat → Prop} {a b c : World} (h : Step s a b) (k : Step s' b c) (hs : ∀ i, i < a.heap.size → s' i → s i) : Step s a c :=
  ⟨k.os.trans h.os, k.tape.trans h.tape, k.output.trans h.output, Nat.le_trans h.size k.size, fun i hi hn => (k.block i (Nat.lt_of_lt_of_le hi h.size) (fun hc => hn (hs i hi hc))).trans (h.block i hi hn)⟩
theorem Step.mono {s s' : Nat → Prop} {a b : World} (h : Step s a b) (hs : ∀ i, s i → s' i) : Step s' a b := ⟨h.os, h.tape, h.output, h.size, fun i hi hn => h.block i hi (fun hc => hn (hs i hc))⟩
theorem Step.of_ext {s : Nat → Prop} {a b : World} (h : Ext a b) : Step s a b := ⟨h.os, h.tape, h.output, h.size, fun i hi _ => h.block i hi⟩
theorem Step.to_ext {a b : World} (h : Step (fun _ => False) a b) : Ext a b := ⟨h.os, h.tape, h.output, h.size, fun i hi => h.block i hi (fun h => h)⟩
theorem Step.alloc {s : Nat → Prop} {a w : World} (h : Step s a w) (o : Obj) : Step s a (w.alloc o) := h.trans' (s' := fun _ => False) (Step.of_ext ((Ext.refl w).alloc o)) (fun _ _ h => h.elim)
theorem Step.drewN {s : Nat → Prop} {a w : World} (h : Step s a w) (n : Nat) : Step s a (w.drewN n) := ⟨h.os, h.tape, h.output, h.size, h.block⟩
theorem Step.drew {s : Nat → Prop} {a w : World} (h : Step s a w) : Step s a w.drew := ⟨h.os, h.tape, h.output, h.size, h.block⟩
theorem Step.setCell {s : Nat → Prop} {a w : World} (h : Step s a w) (p : Addr) (hp : s p.block ∨ a.heap.size ≤ p.block) (v : Value) : Step s a (w.setCell p v) :=
  ⟨h.os, h.tape, h.output, by simp only [World.setCell, Array.size_modify]; exact h.size, fun b hb hs => by
    rw [Below.heap_setCell _ _ _ _ (fun e => by rcases hp with hp | hp; exact hs (e ▸ hp); omega)]; exact h.block b hb hs⟩
theorem Step.grown {s : Nat → Prop} {a w w' : World} (h : Step s a w) {row : Option Nat} (hg : w.grownBy w' row) (hr : ∀ k, row = some k → s k ∨ a.heap.size ≤ k) : Step s a w' :=
  ⟨hg.os.trans h.os, hg.tape.trans h.tape, hg.output.trans h.output, Nat.le_trans h.size hg.size, fun b hb hs => by
    rw [hg.block b (Nat.lt_of_lt_of_le hb h.size) (fun e => by rcases hr b e.symm with h' | h'; exact hs h'; omega)]; exact h.block b hb hs⟩
theorem Step.heap {s : Nat → Prop} {a w : World} (h : Step s a w) {b : Nat} {o : Obj} (hb : a.heap[b]? = some o) (hs : ¬ s b) : w.heap[b]? = some o :=
  (h.block b (Array.getElem?_eq_some_iff.1 hb).1 hs).trans hb

/-- an assertion on a set of blocks; it looks at these alone -/
structure HP where
  holds : World → (Nat → Prop) → Prop
  loc : ∀ {w w' : World} {s : Nat → Prop}, holds w s → w'.os = w.os → w'.tape = w.tape → w'.output = w.output → (∀ b, s b → w'.heap[b]? = w.heap[b]?) → w.heap.size ≤ w'.heap.size → holds w' s
  bnd : ∀ {w : World} {s : Nat → Prop} {b : Nat}, holds w s → s b → b < w.heap.size
theorem HP.step (P : HP) {w w' : World} {s t : Nat → Prop} (h : P.holds w s) (k : Step t w w') (hd : ∀ b, s b → ¬ t b) : P.holds w' s :=
  P.loc h k.os k.tape k.output (fun b hb => k.block b (P.bnd h hb) (hd b hb)) k.size
/-- all these assertions hold, each of blocks of its own -/
def OwnIn : List HP → World → (Nat → Prop) → Prop
  | [], _, U => ∀ b, ¬ U b
  | P :: l, w, U => ∃ s V, P.holds w s ∧ OwnIn l w V ∧ (∀ b, s b → ¬ V b) ∧ (∀ b, U b ↔ s b ∨ V b)
def Own (l : List HP) (w : World) : Prop := ∃ U, OwnIn l w U
theorem OwnIn.bnd : ∀ {l : List HP} {w : World} {U : Nat → Prop} {b : Nat}, OwnIn l w U → U b → b < w.heap.size
  | [], _, _, b, h, hb => (h b hb).elim
  | P :: l, w, U, b, ⟨s, V, hP, hl, _, hU⟩, hb => by
    rcases (hU b).1 hb with hs | hV
    · exact P.bnd hP hs
    · exact OwnIn.bnd hl hV
theorem OwnIn.step : ∀ {l : List HP} {w w' : World} {U t : Nat → Prop}, OwnIn l w U → Step t w w' → (∀ b, U b → ¬ t b) → OwnIn l w' U
  | [], _, _, _, _, h, _, _ => h
  | P :: l, w, w', U, t, ⟨s, V, hP, hl, hd, hU⟩, k, hn =>
    ⟨s, V, P.step hP k (fun b hb => hn b ((hU b).2 (.inl hb))), OwnIn.step hl k (fun b hb => hn b ((hU b).2 (.inr hb))), hd, hU⟩
/-- the first of them, taken out, may turn: the others stay -/
theorem Own.open {P : HP} {l : List HP} {w : World} (h : Own (P :: l) w) : ∃ s, P.holds w s ∧ (∀ b, s b → b < w.heap.size) ∧
    ∀ {P' : HP} {w' : World} {s' : Nat → Prop}, Step s w w' → P'.holds w' s' → (∀ b, s' b → s b ∨ w.heap.size ≤ b) → Own (P' :: l) w' := by
  obtain ⟨U, s, V, hP, hl, hd, hU⟩ := h
  refine ⟨s, hP, fun b hb => P.bnd hP hb, fun {P' w' s'} k hP' hs => ⟨fun b => s' b ∨ V b, s', V, hP', OwnIn.step hl k (fun b hb hc => hd b hc hb), fun b hb hV => ?_, fun b => Iff.rfl⟩⟩
  rcases hs b hb with h' | h'
  · exact hd b h' hV
  · have := OwnIn.bnd hl hV
    omega
theorem Own.step {l : List HP} {w w' : World} (h : Own l w) (k : Ext w w') : Own l w' := by
  obtain ⟨U, hU⟩ := h
  exact ⟨U, OwnIn.step (t := fun _ => False) hU (Step.of_ext k) (fun _ _ h => h)⟩
/-- a new one -/
theorem Own.new {P : HP} {l : List HP} {w w' : World} (h : Own l w) (k : Ext w w') {s : Nat → Prop} (hP : P.holds w' s) (hs : ∀ b, s b → w.heap.size ≤ b) : Own (P :: l) w' := by
  obtain ⟨U, hU⟩ := h
  refine ⟨fun b => s b ∨ U b, s, U, hP, OwnIn.step (t := fun _ => False) hU (Step.of_ext k) (fun _ _ h => h), fun b hb hc => ?_, fun b => Iff.rfl⟩
  have := hs b hb
  have := OwnIn.bnd hU hc
  omega
theorem Own.drop {P : HP} {l : List HP} {w : World} (h : Own (P :: l) w) : Own l w := by
  obtain ⟨U, s, V, hP, hl, hd, hU⟩ := h
  exact ⟨V, hl⟩
theorem Own.swap {P Q : HP} {l : List HP} {w : World} (h : Own (P :: Q :: l) w) : Own (Q :: P :: l) w := by
  obtain ⟨U, s, V, hP, ⟨t, X, hQ, hl, hd', hV⟩, hd, hU⟩ := h
  refine ⟨U, t, fun b => s b ∨ X b, hQ, ⟨s, X, hP, hl, fun b hb hX => hd b hb ((hV b).2 (.inr hX)), fun b => Iff.rfl⟩, fun b hb hc => ?_, fun b => ?_⟩
  · rcases hc with hc | hc
    · exact hd b hc ((hV b).2 (.inl hb))
    · exact hd' b hb hc
  · rw [hU b, hV b]
    constructor
    · rintro (h | h | h)
      · exact .inr (.inl h)
      · exact .inl h
      · exact .inr (.inr h)
    · rintro (h | h | h)
      · exact .inr (.inl h)
      · exact .inl h
      · exact .inr (.inr h)
theorem Own.tail {P : HP} {l l' : List HP} {w : World} (h : Own (P :: l) w) (f : ∀ {U}, OwnIn l w U → OwnIn l' w U) : Own (P :: l') w := by
  obtain ⟨U, s, V, hP, hl, hd, hU⟩ := h
  exact ⟨U, s, V, hP, f hl, hd, hU⟩
theorem OwnIn.swap {P Q : HP} {l : List HP} {w : World} {U : Nat → Prop} (h : OwnIn (P :: Q :: l) w U) : OwnIn (Q :: P :: l) w U := by
  obtain ⟨s, V, hP, ⟨t, X, hQ, hl, hd', hV⟩, hd, hU⟩ := h
  refine ⟨t, fun b => s b ∨ X b, hQ, ⟨s, X, hP, hl, fun b hb hX => hd b hb ((hV b).2 (.inr hX)), fun b => Iff.rfl⟩, fun b hb hc => ?_, fun b => ?_⟩
  · rcases hc with hc | hc
    · exact hd b hc ((hV b).2 (.inl hb))
    · exact hd' b hb hc
  · rw [hU b, hV b]
    constructor
    · rintro (h | h | h)
      · exact .inr (.inl h)
      · exact .inl h
      · exact .inr (.inr h)
    · rintro (h | h | h)
      · exact .inr (.inl h)
      · exact .inl h
      · exact .inr (.inr h)
/-- the third comes first -/
theorem Own.third {P Q R : HP} {l : List HP} {w : World} (h : Own (P :: Q :: R :: l) w) : Own (R :: P :: Q :: l) w := (h.tail OwnIn.swap).swap
theorem Own.back3 {P Q R : HP} {l : List HP} {w : World} (h : Own (R :: P :: Q :: l) w) : Own (P :: Q :: R :: l) w := h.swap.tail OwnIn.swap
/-- all that there was when the call began -/
def Old (w0 : World) : HP where
  holds w s := Below w0.heap.size w0 w ∧ ∀ b, s b ↔ b < w0.heap.size
  loc := fun {w w' s} h h1 h2 h3 h4 h5 => ⟨⟨h1.trans h.1.os, h2.trans h.1.tape, h3.trans h.1.output, Nat.le_trans h.1.size h5, fun k hk => (h4 k ((h.2 k).2 hk)).trans (h.1.block k hk)⟩, h.2⟩
  bnd := fun {w s b} h hb => Nat.lt_of_lt_of_le ((h.2 b).1 hb) h.1.size
theorem Own.start (w : World) : Own [Old w] w :=
  ⟨fun b => b < w.heap.size, fun b => b < w.heap.size, fun _ => False, ⟨Ext.refl w, fun _ => Iff.rfl⟩, fun _ h => h, fun _ _ h => h, fun _ => by simp⟩
theorem Own.ext_of : ∀ {l : List HP} {w0 w : World} {U : Nat → Prop}, OwnIn l w U → Old w0 ∈ l → Ext w0 w
  | [], _, _, _, _, hm => by simp at hm
  | P :: l, w0, w, U, ⟨s, V, hP, hl, _, _⟩, hm => by
    cases hm with
    | head => exact hP.1
    | tail _ hm => exact Own.ext_of hl hm
theorem Own.ext {l : List HP} {w0 w : World} (h : Own l w) (hm : Old w0 ∈ l) : Ext w0 w := by
  obtain ⟨U, hU⟩ := h
  exact Own.ext_of hU hm
/-- a slice of the call's own -/
def Row (e : TypeId) (size : Nat) (v : Value) (n : Nat) (xs : List Value) : HP where
  holds w s := w.ownsRow 0 e size v n xs ∧ ∀ b, s b ↔ v.ownBlock = some b
  loc := fun {w w' s} h h1 h2 h3 h4 h5 => ⟨⟨h.1.1, by
    rcases h.1.2 with hn | ⟨g, cap, cur, rfl, hb, hg, r⟩
    · exact .inl hn
    · exact .inr ⟨g, cap, cur, rfl, hb, (h4 g ((h.2 g).2 rfl)).trans hg, r⟩⟩, h.2⟩
  bnd := fun {w s b} h hb => (h.1.lt b ((h.2 b).1 hb)).2
theorem Own.row {e : TypeId} {size : Nat} {v : Value} {n : Nat} {xs : List Value} {l : List HP} {w : World} (h : Own (Row e size v n xs :: l) w) : w.ownsRow 0 e size v n xs := by
  obtain ⟨s, hP, _⟩ := h.open
  exact hP.1
/-- behind an append by the kit's law -/
theorem Own.rowGrown {e : TypeId} {size : Nat} {v v' : Value} {n n' : Nat} {xs xs' : List Value} {l : List HP} {w w' : World} (h : Own (Row e size v n xs :: l) w) (hr : w'.ownsRow 0 e size v' n' xs') (hg : w.grownBy w' v.ownBlock)
    (hnew : ∀ b, v'.ownBlock = some b → v.ownBlock = some b ∨ w.heap.size ≤ b) : Own (Row e size v' n' xs' :: l) w' := by
  obtain ⟨s, hP, hb, K⟩ := h.open
  exact K ((Step.refl s w).grown hg (fun k hk => .inl ((hP.2 k).2 hk))) (s' := fun b => v'.ownBlock = some b) ⟨hr, fun _ => Iff.rfl⟩ (fun b hb => (hnew b hb).imp (fun e => (hP.2 b).2 e) id)
theorem Own.nilRow (e : TypeId) (size : Nat) {l : List HP} {w : World} (h : Own l w) : Own (Row e size (.slice none 0 0) 0 [] :: l) w :=
  h.new (Ext.refl w) (s := fun _ => False) ⟨World.ownsRow_nil w 0 e size, fun b => by simp [Value.ownBlock]⟩ (fun _ h => h.elim)
theorem add_plain (g j : Nat) : (⟨g, 0, none⟩ : Addr).add j = ⟨g, j, none⟩ := by unfold Addr.add; split <;> simp_all
/-! ### One block written -/
theorem heap_set {w : World} {b o : Nat} {c : Array Value} {t : TypeId} {fr : Nat × Nat} (v : Value) (h : w.heap[b]? = some (.cells c t fr)) : (w.setCell ⟨b, o, none⟩ v).heap[b]? = some (.cells (c.setIfInBounds o v) t fr) := by
  obtain ⟨lo, hi⟩ := fr
  simp [World.setCell, Array.getElem?_modify, h]
theorem heap_other {w : World} {b b' o : Nat} (v : Value) (h : b ≠ b') : (w.setCell ⟨b', o, none⟩ v).heap[b]? = w.heap[b]? := Below.heap_setCell w ⟨b', o, none⟩ v b h
theorem size_set (w : World) (a : Addr) (v : Value) : (w.setCell a v).heap.size = w.heap.size := by simp [World.setCell]
theorem ownsRow_keep {w w' : World} {e size n : Nat} {v : Value} {xs : List Value} (h : w.ownsRow 0 e size v n xs) (k : ∀ b, v.ownBlock = some b → w'.heap[b]? = w.heap[b]?) : w'.ownsRow 0 e size v n xs :=
  ⟨h.1, by
    rcases h.2 with hn | ⟨g, cap, cur, rfl, hb, hg, r⟩
    · exact .inl hn
    · exact .inr ⟨g, cap, cur, rfl, hb, (k g rfl).trans hg, r⟩⟩
theorem ownsRow_set {w : World} {e size n g cap o : Nat} {xs : List Value} (v : Value) (h : w.ownsRow 0 e size (.slice (some ⟨g, 0, none⟩) n cap) n xs) (ho : o < n * size) :
    (w.setCell ⟨g, o, none⟩ v).ownsRow 0 e size (.slice (some ⟨g, 0, none⟩) n cap) n (xs.set o v) := by
  refine ⟨by rw [List.length_set]; exact h.1, ?_⟩
  rcases h.2 with ⟨h1, _⟩ | ⟨g', cap', cur, h1, hb, hg, hc, hm, hs, ht⟩
  · simp at h1
  · injection h1 with e1 e2 e3
    injection e1 with e1
    injection e1 with e1
    subst e1 e3
    refine .inr ⟨g, cap, cur.setIfInBounds o v, rfl, hb, heap_set v hg, hc, hm, by rw [Array.size_setIfInBounds]; exact hs, ?_⟩
    rw [Array.toList_setIfInBounds, List.take_set, ht]
theorem ownsRow_pop' {w : World} {e n g cap : Nat} {xs : List Value} (h : w.ownsRow 0 e 1 (.slice (some ⟨g, 0, none⟩) n cap) n xs) (hn : 0 < n) :
    w.ownsRow 0 e 1 (.slice (some ⟨g, 0, none⟩) (n - 1) cap) (n - 1) xs.dropLast := by
  have hl := h.1
  refine ⟨by rw [List.length_dropLast]; omega, ?_⟩
  rcases h.2 with ⟨h1, _⟩ | ⟨g', cap', cur, h1, hb, hg, hc, hm, hs, ht⟩
  · simp at h1
  · injection h1 with e1 e2 e3
    injection e1 with e1
    injection e1 with e1
    subst e1 e3
    refine .inr ⟨g, cap, cur, rfl, hb, hg, by omega, hm, hs, ?_⟩
    rw [← ht, List.dropLast_eq_take, List.length_take, List.take_take]
    congr 1
    have : n * 1 ≤ cur.toList.length := by rw [Array.length_toList, hs]; omega
    omega
theorem own_slice {w : World} {e size n : Nat} {v : Value} {xs : List Value} (h : w.ownsRow 0 e size v n xs) : ∃ a c, v = .slice a n c := by
  rcases h.2 with ⟨rfl, rfl⟩ | ⟨g, cap, cur, rfl, _⟩
  · exact ⟨none, 0, rfl⟩
  · exact ⟨_, cap, rfl⟩
theorem own_form {w : World} {e size n : Nat} {v : Value} {xs : List Value} (h : w.ownsRow 0 e size v n xs) (hn : 0 < n) : ∃ g cap, v = .slice (some ⟨g, 0, none⟩) n cap ∧ n ≤ cap ∧ ∀ j u, xs[j]? = some u → w.cell? ⟨g, j, none⟩ = some u ∧ w.frozen? ⟨g, j, none⟩ = false := by
  rcases h.2 with ⟨rfl, rfl⟩ | ⟨g, cap, cur, rfl, _, hg, hc, _⟩
  · omega
  · refine ⟨g, cap, rfl, hc, fun j u hu => ⟨?_, by simp [World.frozen?, hg]⟩⟩
    have := h.cells (g := g) rfl j u hu
    rwa [add_plain] at this
theorem Own.rowSet {e size n g cap o : Nat} {xs : List Value} {l : List HP} {w : World} (h : Own (Row e size (.slice (some ⟨g, 0, none⟩) n cap) n xs :: l) w) (ho : o < n * size) (v : Value) :
    Own (Row e size (.slice (some ⟨g, 0, none⟩) n cap) n (xs.set o v) :: l) (w.setCell ⟨g, o, none⟩ v) := by
  obtain ⟨s, hP, hb, K⟩ := h.open
  exact K ((Step.refl s w).setCell ⟨g, o, none⟩ (.inl ((hP.2 g).2 rfl)) v) (s' := s) ⟨ownsRow_set v hP.1 ho, hP.2⟩ (fun b hb => .inl hb)
/-- the second comes first -/
theorem Own.second {P Q : HP} {l : List HP} {w : World} (h : Own (P :: Q :: l) w) : Own (Q :: P :: l) w := h.swap
end Go.Proofs.Ytekdgghekdajbaa
