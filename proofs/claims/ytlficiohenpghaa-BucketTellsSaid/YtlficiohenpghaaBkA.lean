/- DERIVED. Layer 13 (bucket) in memory: an object, a row of pointers, a tree for each that is not nil. -/
import Derived.Test.YtlficiohenpghaaTrT
import Derived.Test.YtlficiohenpghaaTrQ
import Derived.Test.YtlficiohenpghaaBkQ
import Derived.Test.YtlficiohenpghaaPack
import Derived.Test.YtlficiohenpghaaBlk
import Derived.Test.YtlficiohenpghaaMixC
import Derived.Deep.RegionHeld3
set_option linter.unusedVariables false
set_option linter.unusedSimpArgs false
set_option maxRecDepth 100000
namespace Go.Proofs.Ytlficiohenpghaa.Bk
open Go.RowKit Go.Proofs.Ytlficiohenpghaa Go.Proofs.Ytlficiohenpghaa.TreeP Go.Proofs.Ytlficiohenpghaa.Tr

/-- a place: its tree, if there is one, and what it holds -/
abbrev Slot := Option Nat × List En
def tr1 (room : Nat) : Slot → List HP
  | (none, _) => []
  | (some q, E) => [Tr.Tree q room E]
def trs (room : Nat) (L : List Slot) : List HP := L.flatMap (tr1 room)
theorem trs_out (room : Nat) : ∀ (L : List Slot) (i : Nat) (x : Slot), L[i]? = some x → (trs room L).Perm (tr1 room x ++ trs room (L.set i (none, [])))
  | [], i, x, h => by simp at h
  | y :: L, 0, x, h => by
    obtain rfl : y = x := by simpa using h
    exact List.Perm.refl _
  | y :: L, i + 1, x, h => by
    have ih := trs_out room L i x (by simpa using h)
    exact (ih.append_left (tr1 room y)).trans (List.perm_append_comm_assoc _ _ _)
theorem trs_in (room : Nat) (L : List Slot) (i : Nat) (y : Slot) (hi : i < L.length) : (tr1 room y ++ trs room (L.set i (none, []))).Perm (trs room (L.set i y)) := by
  have := trs_out room (L.set i y) i y (by simp [hi])
  rw [List.set_set] at this
  exact this.symm
def ptr : Slot → Value
  | (none, _) => .pointer none
  | (some q, _) => .pointer (some ⟨q, 0, none⟩)
abbrev BB (p g n bits room many : Nat) : HP := Go.Proofs.Ytlficiohenpghaa.Blk p #[.slice (some ⟨g, 0, none⟩) n n, .int .i64 (bits : Int), .int .i64 (room : Int), .int .i64 (many : Int)] 61
abbrev RP (g : Nat) (L : List Slot) : HP := Row 64 1 (.slice (some ⟨g, 0, none⟩) L.length L.length) L.length (L.map ptr)
/-- T: who is in each bucket -/
structure Mem (bits : Nat) (T : TT) (x : Nat × List Slot) : Prop where
  cont : x.2.map (·.2) = T
  len : x.2.length = 2 ^ bits
  none : ∀ y ∈ x.2, y.1 = none → y.2 = []
  bits : bits ≤ 10
theorem Mem.lenT {bits : Nat} {T : TT} {x : Nat × List Slot} (h : Mem bits T x) : x.2.length = T.length := by rw [← h.cont, List.length_map]
theorem Mem.at {bits : Nat} {T : TT} {x : Nat × List Slot} (h : Mem bits T x) {i : Nat} (hi : i < x.2.length) : ∃ q, x.2[i]? = some (q, slot T i) ∧ (q = Option.none → slot T i = []) := by
  have e : x.2[i]? = some x.2[i] := List.getElem?_eq_getElem hi
  have e2 : slot T i = (x.2[i]).2 := by
    unfold slot
    rw [← h.cont, List.getD_eq_getElem?_getD, List.getElem?_map, e]
    rfl
  refine ⟨(x.2[i]).1, by rw [e, e2], fun hq => ?_⟩
  rw [e2]
  exact h.none _ (List.getElem_mem hi) hq
theorem Mem.set {bits : Nat} {T : TT} {g : Nat} {L : List Slot} (h : Mem bits T (g, L)) (i q : Nat) (E : List En) : Mem bits (T.set i E) (g, L.set i (some q, E)) :=
  ⟨by have := h.cont; simp only at this ⊢; rw [List.map_set, this], by rw [List.length_set]; exact h.len, fun y hy hn => by
    rcases List.mem_or_eq_of_mem_set hy with hy | rfl
    · exact h.none y hy hn
    · simp at hn, h.bits⟩
section
variable {p g bits room many : Nat} {L : List Slot} {l : List HP} {w : World}
theorem b_cells (h : Own (BB p g L.length bits room many :: l) w) :
    w.cell? ⟨p, 0, none⟩ = some (.slice (some ⟨g, 0, none⟩) L.length L.length) ∧ w.cell? ⟨p, 1, none⟩ = some (.int .i64 (bits : Int)) ∧ w.cell? ⟨p, 2, none⟩ = some (.int .i64 (room : Int)) ∧ w.cell? ⟨p, 3, none⟩ = some (.int .i64 (many : Int)) ∧ ∀ o, w.frozen? ⟨p, o, none⟩ = false :=
  Go.Proofs.Ytlficiohenpghaa.Own.blk4 h (.head _)
theorem r_cell (h : Own (RP g L :: l) w) {i : Nat} {x : Slot} (hi : L[i]? = some x) : w.cell? ⟨g, i, none⟩ = some (ptr x) ∧ w.frozen? ⟨g, i, none⟩ = false := by
  have := h.row.cells (g := g) rfl i (ptr x) (by rw [List.getElem?_map, hi]; rfl)
  rw [add_plain] at this
  exact ⟨this, h.row.frozen' rfl i⟩
/-- a tree taken out -/
theorem tree_out (h : Own (BB p g L.length bits room many :: RP g L :: (trs room L ++ l)) w) {i q : Nat} {E : List En} (hi : L[i]? = some (some q, E)) :
    Own (Tr.Tree q room E :: BB p g L.length bits room many :: RP g L :: (trs room (L.set i (none, [])) ++ l)) w :=
  h.perm (((((trs_out room L i _ hi).append_right l).cons (RP g L)).cons (BB p g L.length bits room many)).trans ((List.perm_append_comm (l₁ := [BB p g L.length bits room many, RP g L]) (l₂ := [Tr.Tree q room E])).append_right (trs room (L.set i (none, [])) ++ l)))
theorem tree_in {i : Nat} (hi : i < L.length) {q : Nat} {E : List En} {many' : Nat} (h : Own (Tr.Tree q room E :: BB p g L.length bits room many' :: RP g (L.set i (some q, E)) :: (trs room (L.set i (none, [])) ++ l)) w) :
    Own (BB p g L.length bits room many' :: RP g (L.set i (some q, E)) :: (trs room (L.set i (some q, E)) ++ l)) w :=
  h.perm (((List.perm_append_comm (l₁ := [Tr.Tree q room E]) (l₂ := [BB p g L.length bits room many', RP g (L.set i (some q, E))])).append_right (trs room (L.set i (none, [])) ++ l)).trans ((((trs_in room L i (some q, E) hi).append_right l).cons (RP g (L.set i (some q, E)))).cons (BB p g L.length bits room many')))
set_option maxHeartbeats 400000 in
theorem none_any (h : Own (BB p g L.length bits room many :: l) w) :
    Calls Try.prog 27 #[.pointer (some ⟨p, 0, none⟩)] w fun e w' => e = .returned (.bool false) ∧ w = w' := by
  obtain ⟨c0, c1, c2, c3, hf⟩ := b_cells h
  obtain ⟨N, hN⟩ : ∃ N, N = L.length := ⟨_, rfl⟩
  rw [← hN] at c0
  have he : ∀ w : World, (binOp .eql 59 (.slice (some ⟨g, 0, none⟩) N N) (.slice none 0 0)).run Try.prog w = .ok (.bool false) w := fun _ => rfl
  clear h hN
  go_enter Try.func27, Try.ntmps27
  go_wp2
  go_ret
  exact ⟨rfl, rfl⟩
/-- a socket's bucket -/
def β (bits : Nat) (s : Int) : Nat := Mx.bk s.toNat bits
theorem β_lt (bits : Nat) (s : Int) (h : bits ≤ 10) : β bits s < 2 ^ bits := Mx.bucket_lt _ _ (by omega)
theorem of_any (h : Own (BB p g L.length bits room many :: l) w) (hb : bits ≤ 10) (s : Int) (h0 : 0 ≤ s) (h1 : s < 18446744073709551616) :
    Calls Try.prog 12 #[.pointer (some ⟨p, 0, none⟩), .int .u64 s] w fun e w' => e = .returned (.int .i64 ((β bits s : Nat) : Int)) ∧ Ext w w' := by
  obtain ⟨c0, c1, c2, c3, hf⟩ := b_cells h
  obtain ⟨n, rfl⟩ := Int.eq_ofNat_of_zero_le h0
  have H := Lib.hid h
  have HM := Lib.hid (Mx.bucket_any n bits (by unfold MixP.M; omega) (by omega) w)
  rw [show Mx.bk n bits = β bits (n : Int) from rfl] at HM
  clear h hf
  go_enter Try.func12, Try.ntmps12
  go_wp2_with (first
    | (go_at_call 27; refine (none_any H.out).mono ?_; rintro e w' ⟨rfl, rfl⟩)
    | (go_at_call 13; refine (HM.out).mono ?_; rintro e w' ⟨rfl, hx⟩; have HX := Lib.hid hx; clear hx))
  go_ret
  exact ⟨rfl, HX.out⟩
theorem key_any (s : Int) (w : World) :
    Calls Try.prog 30 #[.int .u64 s] w fun e w' => e = .returned (Tr.key s 0) ∧ Ext w w' := by
  obtain ⟨W1, hW1⟩ : ∃ W1, W1 = w.alloc (.cells #[.int .u64 0, .int .u64 0] 30) := ⟨_, rfl⟩
  have hb : W1.heap[w.heap.size]? = some (.cells #[.int .u64 0, .int .u64 0] 30 (0, 0)) := by rw [hW1]; exact heap_alloc_new w _
  have b0 : W1.cell? ⟨w.heap.size, 0, none⟩ = some (.int .u64 0) := by simp [World.cell?, hb]
  have b1 : W1.cell? ⟨w.heap.size, 1, none⟩ = some (.int .u64 0) := by simp [World.cell?, hb]
  have f0 : W1.frozen? ⟨w.heap.size, 0, none⟩ = false := by simp [World.frozen?, hb]
  have f1 : W1.frozen? ⟨w.heap.size, 1, none⟩ = false := by simp [World.frozen?, hb]
  obtain ⟨W2, hW2⟩ : ∃ W2, (W1.setCell ⟨w.heap.size, 0, none⟩ (.int .u64 s)).setCell ⟨w.heap.size, 1, none⟩ (.int .u64 0) = W2 := ⟨_, rfl⟩
  have hb2 : W2.heap[w.heap.size]? = some (.cells #[.int .u64 s, .int .u64 0] 30 (0, 0)) := by
    rw [← hW2]
    exact heap_set (o := 1) _ (heap_set (o := 0) _ hb)
  have r0 : W2.cell? ⟨w.heap.size, 0, none⟩ = some (.int .u64 s) := by simp [World.cell?, hb2]
  have r1 : W2.cell? ⟨w.heap.size, 1, none⟩ = some (.int .u64 0) := by simp [World.cell?, hb2]
  have HX : Hid (Ext w W2) := Lib.hid (by
    have h := (Step.refl (fun _ => False) w).alloc (.cells #[.int .u64 0, .int .u64 0] 30)
    rw [← hW1] at h
    have h2 := (h.setCell ⟨w.heap.size, 0, none⟩ (.inr (Nat.le_refl _)) (.int .u64 s)).setCell ⟨w.heap.size, 1, none⟩ (.inr (Nat.le_refl _)) (.int .u64 0)
    rw [hW2] at h2
    exact h2.to_ext)
  have HW := Lib.hid hW1
  have HR := Lib.hid (And.intro r0 r1)
  clear hb hb2 hW1 r0 r1
  go_enter Try.func30, Try.ntmps30
  go_upto_region 1 with fail
  rw [← HW.out]
  go_wp2_with fail
  obtain ⟨r0, r1⟩ := HR.out
  exact bodyPost_ret (v := Tr.key s 0) (by simp [results, Try.results30, go_sem, r0, r1]) rfl ⟨rfl, HX.out⟩
end
end Go.Proofs.Ytlficiohenpghaa.Bk
