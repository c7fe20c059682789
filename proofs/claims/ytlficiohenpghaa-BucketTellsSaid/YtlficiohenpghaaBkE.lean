/- DERIVED. Layer 13 (bucket): contracts of Put, New. -/
import Derived.Test.YtlficiohenpghaaBkD
set_option linter.unusedVariables false
set_option linter.unusedSimpArgs false
set_option maxRecDepth 100000
namespace Go.Proofs.Ytlficiohenpghaa.Bk
open Go.RowKit Go.Proofs.Ytlficiohenpghaa Go.Proofs.Ytlficiohenpghaa.TreeP Go.Proofs.Ytlficiohenpghaa.Tr

section
variable {p g bits room : Nat} {R : List En} {L : List Slot} {l : List HP} {w : World}
theorem in_none (h : Own (Bkt p bits room R :: l) w) (i : Int) (hi : i < 0 ∨ ((2 ^ bits : Nat) : Int) ≤ i) :
    Calls Try.prog 10 #[.pointer (some ⟨p, 0, none⟩), .int .i64 i] w fun e w' => e = .returned (.slice none 0 0) ∧ w = w' := by
  obtain ⟨⟨g, L⟩, hmm, h⟩ := h.unpack
  have hl : L.length = 2 ^ bits := hmm.1.len
  rw [← hl] at hi
  exact in_out (LL := BB p g L.length bits room R.length :: RP g L :: (trs room L ++ l)) i hi (fun w' h' => none_any h') (fun w' h' => (b_cells h').1) h
theorem box1 {l : List HP} {w : World} {b : Nat} {x : Value} {t : TypeId} (h : Own (Go.Proofs.Ytlficiohenpghaa.Blk b #[x] t :: l) w) : w.cell? ⟨b, 0, none⟩ = some x := by
  have := Go.Proofs.Ytlficiohenpghaa.Own.blk h (.head _)
  simp [World.cell?, this]
abbrev Bx (b p : Nat) : HP := Go.Proofs.Ytlficiohenpghaa.Blk b #[.pointer (some ⟨p, 0, none⟩)] 23
theorem rp_set {i q : Nat} {x : Slot} (hi : i < L.length) (h : Own (RP g L :: l) w) : Own (RP g (L.set i (some q, x.2)) :: l) (w.setCell ⟨g, i, none⟩ (.pointer (some ⟨q, 0, none⟩))) := by
  have := Own.rowSet (o := i) h (by omega) (.pointer (some ⟨q, 0, none⟩))
  unfold RP
  rw [List.length_set, List.map_set]
  exact this
theorem own_put (h : Own (Bkt p bits room R :: l) w) (s v : Int) (h0 : 0 ≤ s) (h1 : s < 18446744073709551616) :
    Calls Try.prog 17 #[.pointer (some ⟨p, 0, none⟩), .int .u64 s, .int .i64 v] w fun e w' => e = .returned (.int .i64 (Tr.putE room R (s, 0))) ∧ Own (Bkt p bits room (Tr.putT room R (s, 0) v) :: l) w' := by
  obtain ⟨⟨g, L⟩, hmm, h⟩ := h.unpack
  obtain ⟨hm, hk, r1, r2⟩ := id hmm
  replace h : Own (BB p g L.length bits room R.length :: RP g L :: (trs room L ++ l)) w := h
  have hA : Own (BB p g L.length bits room R.length :: RP g L :: (trs room L ++ Bx w.heap.size p :: l)) (w.alloc (.cells #[.pointer (some ⟨p, 0, none⟩)] 23)) := by
    have := Go.Proofs.Ytlficiohenpghaa.Own.blkNew h #[.pointer (some ⟨p, 0, none⟩)] 23
    refine this.perm ?_
    exact (List.perm_append_comm (l₁ := [Bx w.heap.size p]) (l₂ := [BB p g L.length bits room R.length, RP g L] ++ trs room L)).append_right l |>.trans (by simp)
  have box : ∀ {many' : Nat} {L' : List Slot} {X : List HP} {w' : World}, Own (BB p g L.length bits room many' :: RP g L' :: (X ++ Bx w.heap.size p :: l)) w' → w'.cell? ⟨w.heap.size, 0, none⟩ = some (.pointer (some ⟨p, 0, none⟩)) := fun {many' L' X w'} h' => by
    have := Go.Proofs.Ytlficiohenpghaa.Own.blk h' (b := w.heap.size) (cs := #[.pointer (some ⟨p, 0, none⟩)]) (t := 23) (by simp)
    simp [World.cell?, this]
  have fin : ∀ {X : List HP} {w' : World}, Own (X ++ Bx w.heap.size p :: l) w' → Own (X ++ l) w' := fun {X w'} h' => by
    have : (X ++ Bx w.heap.size p :: l).Perm (Bx w.heap.size p :: (X ++ l)) := List.perm_middle
    exact (h'.perm this).drop
  by_cases hs : (Tr.look R (s, 0)).isSome = true
  · unfold Tr.putE Tr.putT
    rw [if_pos hs, if_pos hs]
    refine (put_have (LA := BB p g L.length bits room R.length :: RP g L :: (trs room L ++ Bx w.heap.size p :: l)) (w := w) (s := s) (x := (Tr.look R (s, 0)).getD 0) (v := v) (fun w' h' => none_any h') (fun w' h' => ?_) hA).mono fun e w2 ⟨he, hx⟩ => ⟨he, ?_⟩
    · have := get_open hm h' s h0 h1
      rw [hs] at this
      exact this
    · exact Own.pack (g, L) hmm (fin (X := BB p g L.length bits room R.length :: RP g L :: trs room L) hx)
  · have hn : Tr.look R (s, 0) = none := by simpa using hs
    by_cases hr : R.length = room
    · unfold Tr.putE Tr.putT
      rw [if_neg hs, if_neg hs, if_pos hr, if_pos hr]
      refine (put_full (LA := BB p g L.length bits room R.length :: RP g L :: (trs room L ++ Bx w.heap.size p :: l)) (w := w) (s := s) (x := 0) (v := v) (room := room) (fun w' h' => ⟨box h', (b_cells h').2.2.1, by rw [← hr]; exact (b_cells h').2.2.2.1⟩) (fun w' h' => none_any h') (fun w' h' => ?_) hA).mono fun e w2 ⟨he, hx⟩ => ⟨he, ?_⟩
      · have := get_open hm h' s h0 h1
        rw [hn] at this
        exact this
      · exact Own.pack (g, L) hmm (fin (X := BB p g L.length bits room R.length :: RP g L :: trs room L) hx)
    · have hlt : R.length < room := by have := hk.len; omega
      unfold Tr.putE Tr.putT
      rw [if_neg hs, if_neg hs, if_neg hr, if_neg hr]
      have hb := β_lt bits s hm.bits
      have hi : β bits s < L.length := by have := hm.len; simp only at this; omega
      obtain ⟨q0, hq, hne⟩ := hm.at hi
      rw [tab_slot hb] at hq hne
      simp only at hq
      have hlk := look_in (β := β bits) (R := R) s (β bits s) rfl
      obtain ⟨E, hE⟩ : ∃ E, E = inB (β bits) R (β bits s) := ⟨_, rfl⟩
      have hEl : E.length ≤ R.length := by rw [hE]; exact in_len _
      rw [← hE] at hq hne hlk
      have hin : (ins R (s, 0) v).length = R.length + 1 := (rise_ins hk.rise (s, 0) v hn).2.1
      refine (put_ok (LA := BB p g L.length bits room R.length :: RP g L :: (trs room L ++ Bx w.heap.size p :: l))
        (LB := BB p g L.length bits room (R.length + 1) :: RP g L :: (trs room L ++ Bx w.heap.size p :: l))
        (LC := fun q => BB p g L.length bits room (R.length + 1) :: RP g (L.set (β bits s) (some q, E)) :: Tr.Tree q room E :: (trs room (L.set (β bits s) (none, [])) ++ Bx w.heap.size p :: l))
        (LD := fun q => BB p g L.length bits room (R.length + 1) :: RP g (L.set (β bits s) (some q, E)) :: Tr.Tree q room (ins E (s, 0) v) :: (trs room (L.set (β bits s) (none, [])) ++ Bx w.heap.size p :: l))
        (w := w) (s := s) (x := 0) (v := v) (room := room) (many := R.length) (g := g) (N := L.length) (i := β bits s) hlt r2 hi
        (fun w' h' => ⟨box h', (b_cells h').2.2.1, (b_cells h').2.2.2.1, (b_cells h').2.2.2.2 3⟩) (fun w' h' => none_any h') (fun w' h' => ?_)
        (fun w' h' => ?_) (fun w' h' => ⟨box h', (b_cells h').1⟩) (fun w' h' => (of_any h' hm.bits s h0 h1).mono fun e w2 ⟨he, hx⟩ => ⟨he, h'.step hx⟩) (fun w' h' => ?_)
        (fun w' q h' => ⟨box (X := Tr.Tree q room E :: trs room (L.set (β bits s) (none, []))) h', (b_cells h').1⟩)
        (fun w' q h' => ?_) (fun w' q h' => ⟨box (X := Tr.Tree q room (ins E (s, 0) v) :: trs room (L.set (β bits s) (none, []))) h', (b_cells h').1⟩) hA).mono fun e w2 ⟨he, q, hx⟩ => ⟨he, ?_⟩
      · have := get_open hm h' s h0 h1
        rw [hn] at this
        exact this
      · exact bb_set h'
      · cases q0 with
        | none =>
          have hE0 : E = [] := hne rfl
          rw [hE0] at hq ⊢
          have hs0 : L.set (β bits s) (none, []) = L := set_self hq
          refine own1_none (LL := BB p g L.length bits room (R.length + 1) :: RP g L :: (trs room L ++ Bx w.heap.size p :: l))
            (L2 := fun q => BB p g L.length bits room (R.length + 1) :: RP g (L.set (β bits s) (some q, [])) :: Tr.Tree q room [] :: (trs room (L.set (β bits s) (none, [])) ++ Bx w.heap.size p :: l)) r1 (by omega) (fun w2 q h2 => ?_) (r_cell h'.drop hq).1 (box h') (b_cells h').2.2.1 h'
          refine ⟨(r_cell h2.drop.drop hq).1, (r_cell h2.drop.drop hq).2, ?_⟩
          rw [hs0]
          exact (rp_set (x := (none, [])) hi h2.third).third
        | some q0 =>
          refine (own1_some (r_cell h'.drop hq).1).mono fun e w2 ⟨he, hw⟩ => ⟨q0, he, ?_⟩
          rw [set_self hq, ← hw]
          exact (apart hq).1 h'
      · have h3 := Tr.own_put h'.third s 0 v
        have e1 : Tr.putE room E (s, 0) = 0 := by
          unfold Tr.putE
          rw [hlk, hn, if_neg (by simp), if_neg (by omega)]
        have e2 : Tr.putT room E (s, 0) v = ins E (s, 0) v := by
          unfold Tr.putT
          rw [hlk, hn, if_neg (by simp), if_neg (by omega)]
        rw [e1, e2] at h3
        exact h3.mono fun e w2 ⟨he, hx⟩ => ⟨he, hx.back3⟩
      · have hxf := fin (X := BB p g L.length bits room (R.length + 1) :: RP g (L.set (β bits s) (some q, E)) :: Tr.Tree q room (ins E (s, 0) v) :: trs room (L.set (β bits s) (none, []))) hx
        have hT : (tab (β bits) (2 ^ bits) R).set (β bits s) E = tab (β bits) (2 ^ bits) R := by
          refine tab_ext (by rw [List.length_set, tab_len]) fun i hi2 => ?_
          rw [slot_set (by rw [tab_len]; exact hb)]
          split
          · rename_i e; rw [e, hE]
          · exact tab_slot hi2
        have hm' := hm.set (β bits s) q E
        rw [hT] at hm'
        refine turned (E := ins E (s, 0) v) (q := q) (i := β bits s) (E0 := E) hm' (by rw [List.length_set]; exact hi) (by rw [List.getElem?_set_self hi]) (hk.put h0 h1 hn hlt) r1 r2 (by rw [hE]; exact tab_put hk.rise hb hn) ?_
        rw [List.set_set, List.length_set, hin]
        exact hxf
end
end Go.Proofs.Ytlficiohenpghaa.Bk
