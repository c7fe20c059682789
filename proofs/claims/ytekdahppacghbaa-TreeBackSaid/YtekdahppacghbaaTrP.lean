/- DERIVED. Layer 6 (tree): the calls' contracts at known entries; the chapter's examples. -/
import Derived.Test.YtekdahppacghbaaTrO
set_option linter.unusedVariables false
set_option linter.unusedSimpArgs false
set_option maxRecDepth 100000
namespace Go.Proofs.Ytekdahppacghbaa.Tr
open Go.RowKit Go.Proofs.Ytekdahppacghbaa Go.Proofs.Ytekdahppacghbaa.TreeP

/-- a block whose cells are known -/
def Blk (b : Nat) (cs : Array Value) (t : TypeId) : HP where
  holds w s := w.heap[b]? = some (.cells cs t (0, 0)) ∧ ∀ x, s x ↔ x = b
  loc := fun {w w' s} h h1 h2 h3 h4 h5 => ⟨(h4 b ((h.2 b).2 rfl)).trans h.1, h.2⟩
  bnd := fun {w s x} h hx => by rw [(h.2 x).1 hx]; exact (Array.getElem?_eq_some_iff.1 h.1).1
theorem Own.blkNew {l : List HP} {w : World} (h : Own l w) (cs : Array Value) (t : TypeId) : Own (Blk w.heap.size cs t :: l) (w.alloc (.cells cs t)) :=
  h.new (s := fun x => x = w.heap.size) ((Ext.refl w).alloc _) ⟨heap_alloc_new w _, fun _ => Iff.rfl⟩ (fun b hb => by rw [hb]; exact Nat.le_refl _)
theorem blk_of : ∀ {l : List HP} {w : World} {U : Nat → Prop} {b : Nat} {cs : Array Value} {t : TypeId}, OwnIn l w U → Blk b cs t ∈ l → w.heap[b]? = some (.cells cs t (0, 0))
  | [], _, _, _, _, _, _, hm => by simp at hm
  | P :: l, w, U, b, cs, t, ⟨s, V, hP, hl, _, _⟩, hm => by
    cases hm with
    | head => exact hP.1
    | tail _ hm => exact blk_of hl hm
theorem Own.blk {l : List HP} {w : World} {b : Nat} {cs : Array Value} {t : TypeId} (h : Own l w) (hm : Blk b cs t ∈ l) : w.heap[b]? = some (.cells cs t (0, 0)) := by
  obtain ⟨U, hU⟩ := h
  exact blk_of hU hm
theorem Own.blk3 {l : List HP} {w : World} {b : Nat} {x y z : Value} {t : TypeId} (h : Own l w) (hm : Blk b #[x, y, z] t ∈ l) :
    w.cell? ⟨b, 0, none⟩ = some x ∧ w.cell? ⟨b, 1, none⟩ = some y ∧ w.cell? ⟨b, 2, none⟩ = some z := by
  simp [World.cell?, Own.blk h hm]
section
variable {p room : Nat} {E : List En} {l : List HP} {w : World}
theorem own_put' {a s v x : Int} {E' : List En} (h : Own (Tree p room E :: l) w) (h1 : putE room E (a, s) = x) (h2 : putT room E (a, s) v = E') :
    Calls Try.prog 16 #[.pointer (some ⟨p, 0, none⟩), .agg #[.int .u64 a, .int .u64 s], .int .i64 v] w fun e w' => e = .returned (.int .i64 x) ∧ Own (Tree p room E' :: l) w' := by
  subst h1 h2
  exact own_put h a s v
theorem own_drop' {a s x : Int} {b : Bool} {E' : List En} (h : Own (Tree p room E :: l) w) (h1 : (look E (a, s)).getD 0 = x) (h2 : (look E (a, s)).isSome = b) (h3 : del E (a, s) = E') :
    Calls Try.prog 17 #[.pointer (some ⟨p, 0, none⟩), .agg #[.int .u64 a, .int .u64 s]] w fun e w' => e = .returned (.tuple #[.int .i64 x, .bool b]) ∧ Own (Tree p room E' :: l) w' := by
  subst h1 h2 h3
  exact own_drop h a s
theorem own_get' {a s x : Int} {b : Bool} (h : Own (Tree p room E :: l) w) (h1 : (look E (a, s)).getD 0 = x) (h2 : (look E (a, s)).isSome = b) :
    Calls Try.prog 21 #[.pointer (some ⟨p, 0, none⟩), .agg #[.int .u64 a, .int .u64 s]] w fun e w' => e = .returned (.tuple #[.int .i64 x, .bool b]) ∧ Own (Tree p room E :: l) w' := by
  subst h1 h2
  exact own_get h a s
theorem own_next_some {a s a' s' v' : Int} (h : Own (Tree p room E :: l) w) (h1 : nextE E (a, s) = some ((a', s'), v')) :
    Calls Try.prog 12 #[.pointer (some ⟨p, 0, none⟩), .agg #[.int .u64 a, .int .u64 s]] w fun e w' => e = .returned (.tuple #[.agg #[.int .u64 a', .int .u64 s', .int .i64 v'], .bool true]) ∧ Own (Tree p room E :: l) w' := by
  have := own_next h a s
  rw [h1] at this
  exact this
theorem own_next_none {a s : Int} (h : Own (Tree p room E :: l) w) (h1 : nextE E (a, s) = none) :
    Calls Try.prog 12 #[.pointer (some ⟨p, 0, none⟩), .agg #[.int .u64 a, .int .u64 s]] w fun e w' => e = .returned (.tuple #[.agg #[.int .u64 0, .int .u64 0, .int .i64 0], .bool false]) ∧ Own (Tree p room E :: l) w' := by
  have := own_next h a s
  rw [h1] at this
  exact this
theorem own_first_some {a' s' v' : Int} (h : Own (Tree p room E :: l) w) (h1 : E.head? = some ((a', s'), v')) :
    Calls Try.prog 11 #[.pointer (some ⟨p, 0, none⟩)] w fun e w' => e = .returned (.tuple #[.agg #[.int .u64 a', .int .u64 s', .int .i64 v'], .bool true]) ∧ Own (Tree p room E :: l) w' := by
  have := own_first h
  rw [h1] at this
  exact this
theorem own_first_none (h : Own (Tree p room E :: l) w) (h1 : E.head? = none) :
    Calls Try.prog 11 #[.pointer (some ⟨p, 0, none⟩)] w fun e w' => e = .returned (.tuple #[.agg #[.int .u64 0, .int .u64 0, .int .i64 0], .bool false]) ∧ Own (Tree p room E :: l) w' := by
  have := own_first h
  rw [h1] at this
  exact this
end
set_option maxHeartbeats 4000000 in
theorem awake_any {l : List HP} {w : World} (h : Own l w) :
    Calls Try.prog 14 #[] w fun e w' => e = .returned (.bool true) ∧ Own l w' := by
  have H := Lib.hid h
  clear h
  go_enter Try.func14, Try.ntmps14
  go_wp2_with fail
  refine (own_new 2 (by omega) (by omega) H.out).mono ?_
  rintro e w1 ⟨p, rfl, h1⟩
  have H1 := Lib.hid h1
  clear h1 H
  go_wp2_with fail
  refine (own_put' (a := 5) (s := 0) (v := 1) (x := 0) (E' := [((5, 0), 1)]) H1.out (by decide) (by decide)).mono ?_
  rintro e w2 ⟨rfl, h2⟩
  have H2 := Lib.hid h2
  clear h2 H1
  go_wp2_with fail
  refine (own_put' (a := 3) (s := 9) (v := 2) (x := 0) (E' := [((3, 9), 2), ((5, 0), 1)]) H2.out (by decide) (by decide)).mono ?_
  rintro e w3 ⟨rfl, h3⟩
  have H3 := Lib.hid h3
  clear h3 H2
  go_wp2_with fail
  refine (own_first_some (a' := 3) (s' := 9) (v' := 2) H3.out (by decide)).mono ?_
  rintro e w4 ⟨rfl, h4⟩
  have H4 := Lib.hid (Own.blkNew h4 #[.int .u64 3, .int .u64 9, .int .i64 2] 31).swap
  clear h4 H3
  go_wp2_with fail
  refine (own_next_some (a := 3) (s := 9) (a' := 5) (s' := 0) (v' := 1) H4.out (by decide)).mono ?_
  rintro e w5 ⟨rfl, h5⟩
  have H5 := Lib.hid (Own.blkNew h5 #[.int .u64 5, .int .u64 0, .int .i64 1] 31).swap
  clear h5 H4
  go_wp2_with fail
  refine (own_next_some (a := 4) (s := 0) (a' := 5) (s' := 0) (v' := 1) H5.out (by decide)).mono ?_
  rintro e w6 ⟨rfl, h6⟩
  have H6 := Lib.hid (Own.blkNew h6 #[.int .u64 5, .int .u64 0, .int .i64 1] 31).swap
  clear h6 H5
  go_wp2_with fail
  refine (own_next_none (a := 5) (s := 0) H6.out (by decide)).mono ?_
  rintro e w7 ⟨rfl, h7⟩
  have H7 := Lib.hid (Own.blkNew h7 #[.int .u64 0, .int .u64 0, .int .i64 0] 31).swap
  clear h7 H6
  go_wp2_with fail
  refine (own_put' (a := 3) (s := 9) (v := 3) (x := 60) (E' := [((3, 9), 2), ((5, 0), 1)]) H7.out (by decide) (by decide)).mono ?_
  rintro e w8 ⟨rfl, h8⟩
  have H8 := Lib.hid h8
  clear h8 H7
  go_wp2_with fail
  refine (own_put' (a := 1) (s := 0) (v := 4) (x := 4) (E' := [((3, 9), 2), ((5, 0), 1)]) H8.out (by decide) (by decide)).mono ?_
  rintro e w9 ⟨rfl, h9⟩
  have H9 := Lib.hid h9
  clear h9 H8
  go_wp2_with fail
  refine (own_drop' (a := 3) (s := 9) (x := 2) (b := true) (E' := [((5, 0), 1)]) H9.out (by decide) (by decide) (by decide)).mono ?_
  rintro e w10 ⟨rfl, h10⟩
  have H10 := Lib.hid h10
  clear h10 H9
  go_wp2_with fail
  refine (own_first_some (a' := 5) (s' := 0) (v' := 1) H10.out (by decide)).mono ?_
  rintro e w11 ⟨rfl, h11⟩
  have H11 := Lib.hid (Own.blkNew h11 #[.int .u64 5, .int .u64 0, .int .i64 1] 31).swap
  clear h11 H10
  go_wp2_with fail
  refine (new_not 0 (.inl (by omega)) _).mono ?_
  rintro e w' ⟨rfl, rfl⟩
  have hx := (Ext.refl (w11.alloc (.cells #[.int .u64 5, .int .u64 0, .int .i64 1] 31))).alloc (.cells #[.int .u64 5, .int .u64 0, .int .i64 1] 31)
  obtain ⟨a4, b4, c4⟩ := Own.blk3 (b := w4.heap.size) (x := .int .u64 3) (y := .int .u64 9) (z := .int .i64 2) (t := 31) H11.out (by simp)
  replace a4 := hx.cell a4
  replace b4 := hx.cell b4
  replace c4 := hx.cell c4
  obtain ⟨a5, b5, c5⟩ := Own.blk3 (b := w5.heap.size) (x := .int .u64 5) (y := .int .u64 0) (z := .int .i64 1) (t := 31) H11.out (by simp)
  replace a5 := hx.cell a5
  replace b5 := hx.cell b5
  replace c5 := hx.cell c5
  obtain ⟨a6, b6, c6⟩ := Own.blk3 (b := w6.heap.size) (x := .int .u64 5) (y := .int .u64 0) (z := .int .i64 1) (t := 31) H11.out (by simp)
  replace a6 := hx.cell a6
  replace b6 := hx.cell b6
  replace c6 := hx.cell c6
  obtain ⟨a7, b7, c7⟩ := Own.blk3 (b := w7.heap.size) (x := .int .u64 0) (y := .int .u64 0) (z := .int .i64 0) (t := 31) H11.out (by simp)
  replace a7 := hx.cell a7
  replace b7 := hx.cell b7
  replace c7 := hx.cell c7
  obtain ⟨a11, b11, c11⟩ := Own.blk3 (b := w11.heap.size) (x := .int .u64 5) (y := .int .u64 0) (z := .int .i64 1) (t := 31) H11.out (by simp)
  replace a11 := hx.cell a11
  replace b11 := hx.cell b11
  replace c11 := hx.cell c11
  have HX := Lib.hid hx
  clear hx
  go_wp2
  go_ret
  refine ⟨rfl, ?_⟩
  exact (H11.out.step HX.out).drop.drop.drop.drop.drop.drop
end Go.Proofs.Ytekdahppacghbaa.Tr
