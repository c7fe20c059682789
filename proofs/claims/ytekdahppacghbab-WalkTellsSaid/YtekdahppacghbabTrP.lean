/- DERIVED. Layer 6 (tree): the calls' contracts at known entries; the chapter's examples. -/
import Derived.Test.YtekdahppacghbabTrO
set_option linter.unusedVariables false
set_option linter.unusedSimpArgs false
set_option maxRecDepth 100000
namespace Go.Proofs.Ytekdahppacghbab.Tr
open Go.RowKit Go.Proofs.Ytekdahppacghbab Go.Proofs.Ytekdahppacghbab.TreeP

/-- a block whose cells are known -/
def Blk (b : Nat) (cs : Array Value) (t : TypeId) : HP where
  holds w s := w.heap[b]? = some (.cells cs t (0, 0)) ∧ ∀ x, s x ↔ x = b
  loc := fun {w w' s} h h1 h2 h3 h4 h5 => ⟨(h4 b ((h.2 b).2 rfl)).trans h.1, h.2⟩
  bnd := fun {w s x} h hx => by rw [(h.2 x).1 hx]; exact (Array.getElem?_eq_some_iff.1 h.1).1
theorem Own.blkNew {l : List HP} {w : World} (h : Own l w) (cs : Array Value) (t : TypeId) : Own (Blk w.heap.size cs t :: l) (w.alloc (.cells cs t)) :=
  h.new (s := fun x => x = w.heap.size) ((Ext.refl w).alloc _) ⟨heap_alloc_new w _, fun _ => Iff.rfl⟩ (fun b hb => by rw [hb]; exact Nat.le_refl _)
theorem blk_of : ∀ {l : List HP} {w : World} {U : Nat → Prop} {b : Nat} {cs : Array Value} {t : TypeId}, OwnIn l w U → Blk b cs t ∈ l → w.heap[b]? = some (.cells cs t (0, 0))
  | [], _, _, _, _, _, _, hm => by simp at hm
  | P :: l, w, U, b, cs, t, ⟨s, V, hP, hl, _, _⟩, hm => by
    cases hm with
    | head => exact hP.1
    | tail _ hm => exact blk_of hl hm
theorem Own.blk {l : List HP} {w : World} {b : Nat} {cs : Array Value} {t : TypeId} (h : Own l w) (hm : Blk b cs t ∈ l) : w.heap[b]? = some (.cells cs t (0, 0)) := by
  obtain ⟨U, hU⟩ := h
  exact blk_of hU hm
theorem Own.blk3 {l : List HP} {w : World} {b : Nat} {x y z : Value} {t : TypeId} (h : Own l w) (hm : Blk b #[x, y, z] t ∈ l) :
    w.cell? ⟨b, 0, none⟩ = some x ∧ w.cell? ⟨b, 1, none⟩ = some y ∧ w.cell? ⟨b, 2, none⟩ = some z := by
  simp [World.cell?, Own.blk h hm]
section
variable {p room : Nat} {E : List En} {l : List HP} {w : World}
theorem own_put' {a s v x : Int} {E' : List En} (h : Own (Tree p room E :: l) w) (h1 : putE room E (a, s) = x) (h2 : putT room E (a, s) v = E') :
    Calls Try.prog 21 #[.pointer (some ⟨p, 0, none⟩), .agg #[.int .u64 a, .int .u64 s], .int .i64 v] w fun e w' => e = .returned (.int .i64 x) ∧ Own (Tree p room E' :: l) w' := by
  subst h1 h2
  exact own_put h a s v
theorem own_drop' {a s x : Int} {b : Bool} {E' : List En} (h : Own (Tree p room E :: l) w) (h1 : (look E (a, s)).getD 0 = x) (h2 : (look E (a, s)).isSome = b) (h3 : del E (a, s) = E') :
    Calls Try.prog 22 #[.pointer (some ⟨p, 0, none⟩), .agg #[.int .u64 a, .int .u64 s]] w fun e w' => e = .returned (.tuple #[.int .i64 x, .bool b]) ∧ Own (Tree p room E' :: l) w' := by
  subst h1 h2 h3
  exact own_drop h a s
theorem own_get' {a s x : Int} {b : Bool} (h : Own (Tree p room E :: l) w) (h1 : (look E (a, s)).getD 0 = x) (h2 : (look E (a, s)).isSome = b) :
    Calls Try.prog 48 #[.pointer (some ⟨p, 0, none⟩), .agg #[.int .u64 a, .int .u64 s]] w fun e w' => e = .returned (.tuple #[.int .i64 x, .bool b]) ∧ Own (Tree p room E :: l) w' := by
  subst h1 h2
  exact own_get h a s
theorem own_next_some {a s a' s' v' : Int} (h : Own (Tree p room E :: l) w) (h1 : nextE E (a, s) = some ((a', s'), v')) :
    Calls Try.prog 46 #[.pointer (some ⟨p, 0, none⟩), .agg #[.int .u64 a, .int .u64 s]] w fun e w' => e = .returned (.tuple #[.agg #[.int .u64 a', .int .u64 s', .int .i64 v'], .bool true]) ∧ Own (Tree p room E :: l) w' := by
  have := own_next h a s
  rw [h1] at this
  exact this
theorem own_next_none {a s : Int} (h : Own (Tree p room E :: l) w) (h1 : nextE E (a, s) = none) :
    Calls Try.prog 46 #[.pointer (some ⟨p, 0, none⟩), .agg #[.int .u64 a, .int .u64 s]] w fun e w' => e = .returned (.tuple #[.agg #[.int .u64 0, .int .u64 0, .int .i64 0], .bool false]) ∧ Own (Tree p room E :: l) w' := by
  have := own_next h a s
  rw [h1] at this
  exact this
end
end Go.Proofs.Ytekdahppacghbab.Tr
