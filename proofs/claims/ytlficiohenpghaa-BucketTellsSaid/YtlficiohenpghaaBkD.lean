/- DERIVED. Layer 13 (bucket): contracts over all sockets as one rising list. -/
import Derived.Test.YtlficiohenpghaaBkC
set_option linter.unusedVariables false
set_option linter.unusedSimpArgs false
set_option maxRecDepth 100000
namespace Go.Proofs.Ytlficiohenpghaa.Bk
open Go.RowKit Go.Proofs.Ytlficiohenpghaa Go.Proofs.Ytlficiohenpghaa.TreeP Go.Proofs.Ytlficiohenpghaa.Tr

def Bkt (p bits room : Nat) (R : List En) : HP :=
  PackE (fun x : Nat × List Slot => Mem bits (tab (β bits) (2 ^ bits) R) x ∧ RK room R ∧ 1 ≤ room ∧ room ≤ 4096)
    (fun x => BB p x.1 x.2.length bits room R.length :: RP x.1 x.2 :: trs room x.2)
section
variable {p g bits room : Nat} {R : List En} {L : List Slot} {l : List HP} {w : World}
theorem own_rk (h : Own (Bkt p bits room R :: l) w) : RK room R ∧ bits ≤ 10 := by
  obtain ⟨x, ⟨hm, hk, _⟩, _⟩ := h.unpack
  exact ⟨hk, hm.bits⟩
theorem set_self {i : Nat} {x : Slot} (h : L[i]? = some x) : L.set i x = L := by
  obtain ⟨hi, rfl⟩ := List.getElem?_eq_some_iff.1 h
  exact List.set_getElem_self hi
/-- the form in which a tree stands apart -/
theorem apart {many : Nat} {i q : Nat} {E : List En} (hi : L[i]? = some (some q, E)) :
    Own (BB p g L.length bits room many :: RP g L :: (trs room L ++ l)) w ↔ Own (BB p g L.length bits room many :: RP g L :: Tr.Tree q room E :: (trs room (L.set i (none, [])) ++ l)) w :=
  ⟨fun h => (tree_out h hi).back3, fun h => by
    have hL := (List.getElem?_eq_some_iff.1 hi).1
    have := tree_in (bits := bits) (g := g) hL (q := q) (E := E) (many' := many) (l := l) (w := w) (p := p) (room := room) (by rw [set_self hi]; exact h.third)
    rwa [set_self hi] at this⟩
theorem apartIn {many : Nat} {i q : Nat} {E : List En} {U : Nat → Prop} (hi : L[i]? = some (some q, E)) (h : OwnIn (BB p g L.length bits room many :: RP g L :: Tr.Tree q room E :: (trs room (L.set i (none, [])) ++ l)) w U) :
    OwnIn (BB p g L.length bits room many :: RP g L :: (trs room L ++ l)) w U := by
  have h1 := (trs_out room L i _ hi).symm.append_right l
  exact OwnIn.perm ((h1.cons (RP g L)).cons (BB p g L.length bits room many)) h
theorem get_open (hm : Mem bits (tab (β bits) (2 ^ bits) R) (g, L)) {many : Nat} (h : Own (BB p g L.length bits room many :: RP g L :: (trs room L ++ l)) w) (s : Int) (h0 : 0 ≤ s) (h1 : s < 18446744073709551616) :
    Calls Try.prog 11 #[.pointer (some ⟨p, 0, none⟩), .int .u64 s] w fun e w' => e = .returned (.tuple #[.int .i64 ((Tr.look R (s, 0)).getD 0), .bool (Tr.look R (s, 0)).isSome]) ∧ Own (BB p g L.length bits room many :: RP g L :: (trs room L ++ l)) w' := by
  have hb := β_lt bits s hm.bits
  have hi : β bits s < L.length := by have := hm.len; simp only at this; omega
  obtain ⟨q, hq, hn⟩ := hm.at hi
  rw [tab_slot hb] at hq hn
  simp only at hq
  have hlk := look_in (β := β bits) (R := R) s (β bits s) rfl
  cases q with
  | none =>
    rw [hn rfl] at hq hlk
    rw [← hlk]
    exact get_walk s 0 false hi (fun w' h' => none_any h') (fun w' h' => ⟨(b_cells h').1, (r_cell h'.drop hq).1⟩)
      (fun w' h' => (of_any h' hm.bits s h0 h1).mono fun e w2 ⟨he, hx⟩ => ⟨he, h'.step hx⟩)
      (fun w' h' => Tr.nil_get (Tr.nilIn_none _) h' s 0) h
  | some q =>
    rw [← hlk]
    refine (get_walk (LL := BB p g L.length bits room many :: RP g L :: Tr.Tree q room (inB (β bits) R (β bits s)) :: (trs room (L.set (β bits s) (none, [])) ++ l)) s _ _ hi (fun w' h' => none_any h') (fun w' h' => ⟨(b_cells h').1, (r_cell h'.drop hq).1⟩)
      (fun w' h' => (of_any h' hm.bits s h0 h1).mono fun e w2 ⟨he, hx⟩ => ⟨he, h'.step hx⟩)
      (fun w' h' => (Tr.own_get h'.third s 0).mono fun e w2 ⟨he, hx⟩ => ⟨he, hx.back3⟩) ((apart hq).1 h)).mono fun e w2 ⟨he, hx⟩ => ⟨he, (apart hq).2 hx⟩
theorem own_get (h : Own (Bkt p bits room R :: l) w) (s : Int) (h0 : 0 ≤ s) (h1 : s < 18446744073709551616) :
    Calls Try.prog 11 #[.pointer (some ⟨p, 0, none⟩), .int .u64 s] w fun e w' => e = .returned (.tuple #[.int .i64 ((Tr.look R (s, 0)).getD 0), .bool (Tr.look R (s, 0)).isSome]) ∧ Own (Bkt p bits room R :: l) w' := by
  obtain ⟨⟨g, L⟩, hm, h⟩ := h.unpack
  exact (get_open hm.1 h s h0 h1).mono fun e w2 ⟨he, hx⟩ => ⟨he, Own.pack (g, L) hm hx⟩
theorem bb_set {n many many' : Nat} (h : Own (BB p g n bits room many :: l) w) : Own (BB p g n bits room many' :: l) (w.setCell ⟨p, 3, none⟩ (.int .i64 (many' : Int))) :=
  Go.Proofs.Ytlficiohenpghaa.Own.blkSet (o := 3) h (.int .i64 (many' : Int))
/-- a tree that has turned, put back -/
theorem turned {R' : List En} {i q : Nat} {E : List En} (hm : Mem bits (tab (β bits) (2 ^ bits) R) (g, L)) (hi : i < L.length) {E0 : List En} (hq : L[i]? = some (some q, E0)) (hk : RK room R') (r1 : 1 ≤ room) (r2 : room ≤ 4096) (ht : (tab (β bits) (2 ^ bits) R).set i E = tab (β bits) (2 ^ bits) R')
    (h : Own (BB p g L.length bits room R'.length :: RP g L :: Tr.Tree q room E :: (trs room (L.set i (none, [])) ++ l)) w) : Own (Bkt p bits room R' :: l) w := by
  refine Own.pack (g, L.set i (some q, E)) ⟨?_, hk, r1, r2⟩ ?_
  · have := hm.set i q E
    rwa [ht] at this
  · have e1 : (L.set i (some q, E)).map ptr = L.map ptr := by
      rw [List.map_set]
      have : (L.map ptr)[i]? = some (ptr (some q, E)) := by rw [List.getElem?_map, hq]; rfl
      obtain ⟨hh, e⟩ := List.getElem?_eq_some_iff.1 this
      rw [← e]
      exact List.set_getElem_self hh
    have e2 : RP g (L.set i (some q, E)) = RP g L := by unfold RP; rw [e1, List.length_set]
    have := tree_in (bits := bits) (L := L) (g := g) (p := p) (room := room) (l := l) (w := w) (many' := R'.length) hi (by rw [e2]; exact h.third)
    show Own ((BB p g (L.set i (some q, E)).length bits room R'.length :: RP g (L.set i (some q, E)) :: trs room (L.set i (some q, E))) ++ l) w
    rw [List.length_set]
    exact this
theorem own_drop (h : Own (Bkt p bits room R :: l) w) (s : Int) (h0 : 0 ≤ s) (h1 : s < 18446744073709551616) :
    Calls Try.prog 16 #[.pointer (some ⟨p, 0, none⟩), .int .u64 s] w fun e w' => e = .returned (.tuple #[.int .i64 ((Tr.look R (s, 0)).getD 0), .bool (Tr.look R (s, 0)).isSome]) ∧ Own (Bkt p bits room (del R (s, 0)) :: l) w' := by
  obtain ⟨⟨g, L⟩, ⟨hm, hk, r1, r2⟩, h⟩ := h.unpack
  replace h : Own (BB p g L.length bits room R.length :: RP g L :: (trs room L ++ l)) w := h
  have hb := β_lt bits s hm.bits
  have hi : β bits s < L.length := by have := hm.len; simp only at this; omega
  obtain ⟨q, hq, hn⟩ := hm.at hi
  rw [tab_slot hb] at hq hn
  simp only at hq
  have hlk := look_in (β := β bits) (R := R) s (β bits s) rfl
  have hdl := del_length hk.rise (s, 0)
  have hlen : R.length ≤ 4096 := by have := hk.len; omega
  cases q with
  | none =>
    rw [hn rfl] at hq hlk
    have hnone : Tr.look R (s, 0) = none := by rw [← hlk]; rfl
    rw [hnone, Tr.del_none hnone]
    refine (drop_walk (LL := BB p g L.length bits room R.length :: RP g L :: (trs room L ++ l)) (L2 := BB p g L.length bits room R.length :: RP g L :: (trs room L ++ l)) (L3 := BB p g L.length bits room R.length :: RP g L :: (trs room L ++ l)) (many := R.length) s 0 false hi (fun hf => by cases hf) hlen (fun w' h' => none_any h') (fun w' h' => ⟨(b_cells h').1, (r_cell h'.drop hq).1⟩)
      (fun w' h' => ⟨(b_cells h').1, (r_cell h'.drop hq).1, (b_cells h').2.2.2.1, (b_cells h').2.2.2.2 3⟩)
      (fun w' h' => (of_any h' hm.bits s h0 h1).mono fun e w2 ⟨he, hx⟩ => ⟨he, h'.step hx⟩)
      (fun w' h' => Tr.nil_drop (Tr.nilIn_none _) h' s 0) (fun w' h' => h') h).mono fun e w2 ⟨he, hx⟩ => ⟨he, Own.pack (g, L) ⟨hm, hk, r1, r2⟩ hx⟩
  | some q =>
    rw [← hlk] at hdl ⊢
    have hrl : (inB (β bits) R (β bits s)).length ≤ R.length := in_len _
    have hb1 : (Tr.look (inB (β bits) R (β bits s)) (s, 0)).isSome = true → 1 ≤ R.length := fun e => by rw [e] at hdl; simp at hdl; omega
    refine (drop_walk (LL := BB p g L.length bits room R.length :: RP g L :: Tr.Tree q room (inB (β bits) R (β bits s)) :: (trs room (L.set (β bits s) (none, [])) ++ l))
      (L2 := BB p g L.length bits room R.length :: RP g L :: Tr.Tree q room (del (inB (β bits) R (β bits s)) (s, 0)) :: (trs room (L.set (β bits s) (none, [])) ++ l))
      (L3 := BB p g L.length bits room (del R (s, 0)).length :: RP g L :: Tr.Tree q room (del (inB (β bits) R (β bits s)) (s, 0)) :: (trs room (L.set (β bits s) (none, [])) ++ l))
      (many := R.length) s _ _ hi hb1 hlen (fun w' h' => none_any h') (fun w' h' => ⟨(b_cells h').1, (r_cell h'.drop hq).1⟩)
      (fun w' h' => ⟨(b_cells h').1, (r_cell h'.drop hq).1, (b_cells h').2.2.2.1, (b_cells h').2.2.2.2 3⟩)
      (fun w' h' => (of_any h' hm.bits s h0 h1).mono fun e w2 ⟨he, hx⟩ => ⟨he, h'.step hx⟩)
      (fun w' h' => (Tr.own_drop h'.third s 0).mono fun e w2 ⟨he, hx⟩ => ⟨he, hx.back3⟩) (fun w' h' => ?_) ((apart hq).1 h)).mono fun e w2 ⟨he, hx⟩ => ⟨he, ?_⟩
    · by_cases hs : (Tr.look (inB (β bits) R (β bits s)) (s, 0)).isSome = true
      · rw [if_pos hs]
        have e1 : ((R.length : Int) - 1) = (((del R (s, 0)).length : Nat) : Int) := by rw [hs] at hdl; simp at hdl; omega
        rw [e1]
        exact bb_set h'
      · rw [if_neg hs]
        have e1 : R.length = (del R (s, 0)).length := by rw [if_neg hs] at hdl; omega
        rw [← e1]
        exact h'
    · exact turned hm hi hq (hk.drop s) r1 r2 (tab_drop hb) hx
theorem own_len (h : Own (Bkt p bits room R :: l) w) :
    Calls Try.prog 14 #[.pointer (some ⟨p, 0, none⟩)] w fun e w' => e = .returned (.int .i64 (R.length : Nat)) ∧ w = w' := by
  obtain ⟨⟨g, L⟩, hm, h⟩ := h.unpack
  obtain ⟨c0, c1, c2, c3, hf⟩ := b_cells (g := g) (L := L) h
  have HNN := Lib.hid (none_any (g := g) (L := L) h)
  obtain ⟨n, hn⟩ : ∃ n, n = R.length := ⟨_, rfl⟩
  rw [← hn] at c3 ⊢
  clear h hf hm hn c0 c1 c2
  go_enter Try.func14, Try.ntmps14
  go_wp2_with (go_at_call 27; refine (HNN.out).mono ?_; rintro e w' ⟨rfl, rfl⟩)
  go_ret
  exact ⟨rfl, rfl⟩
theorem own_bits (h : Own (Bkt p bits room R :: l) w) :
    Calls Try.prog 24 #[.pointer (some ⟨p, 0, none⟩)] w fun e w' => e = .returned (.int .i64 (bits : Nat)) ∧ w = w' := by
  obtain ⟨⟨g, L⟩, hm, h⟩ := h.unpack
  obtain ⟨c0, c1, c2, c3, hf⟩ := b_cells (g := g) (L := L) h
  have HNN := Lib.hid (none_any (g := g) (L := L) h)
  clear h hf hm c0 c2 c3
  go_enter Try.func24, Try.ntmps24
  go_wp2_with (go_at_call 27; refine (HNN.out).mono ?_; rintro e w' ⟨rfl, rfl⟩)
  go_ret
  exact ⟨rfl, rfl⟩
theorem own_of (h : Own (Bkt p bits room R :: l) w) (s : Int) (h0 : 0 ≤ s) (h1 : s < 18446744073709551616) :
    Calls Try.prog 12 #[.pointer (some ⟨p, 0, none⟩), .int .u64 s] w fun e w' => e = .returned (.int .i64 ((β bits s : Nat) : Int)) ∧ Ext w w' := by
  obtain ⟨⟨g, L⟩, hm, h⟩ := h.unpack
  exact of_any (g := g) (L := L) h hm.1.bits s h0 h1
theorem own_in (h : Own (Bkt p bits room R :: l) w) (i : Nat) (hi : i < 2 ^ bits) :
    Calls Try.prog 10 #[.pointer (some ⟨p, 0, none⟩), .int .i64 (i : Int)] w fun e w' => ∃ v, e = .returned v ∧ Own (Row 32 3 v (inB (β bits) R i).length (Tr.ents (inB (β bits) R i)) :: Bkt p bits room R :: l) w' := by
  obtain ⟨⟨g, L⟩, hmm, h⟩ := h.unpack
  have hm := hmm.1
  replace h : Own (BB p g L.length bits room R.length :: RP g L :: (trs room L ++ l)) w := h
  have hi' : i < L.length := by have := hm.len; simp only at this; omega
  obtain ⟨q, hq, hn⟩ := hm.at hi'
  rw [tab_slot hi] at hq hn
  simp only at hq
  cases q with
  | none =>
    rw [hn rfl] at hq ⊢
    refine (in_walk (LL := BB p g L.length bits room R.length :: RP g L :: (trs room L ++ l)) (i : Int) [] i rfl hi' (fun w' h' => none_any h') (fun w' h' => ⟨(b_cells h').1, (r_cell h'.drop hq).1⟩)
      (fun w' h' => (Tr.nil_all (Tr.nilIn_none _) h').mono fun e w2 ⟨he, hx⟩ => ⟨_, he, hx.nilRow _ 3⟩) h).mono fun e w2 ⟨v, he, hx⟩ => ⟨v, he, ?_⟩
    exact hx.tail (fun hU => OwnIn.packIn (g, L) hmm hU)
  | some q =>
    refine (in_walk (LL := BB p g L.length bits room R.length :: RP g L :: Tr.Tree q room (inB (β bits) R i) :: (trs room (L.set i (none, [])) ++ l)) (i : Int) (inB (β bits) R i) i rfl hi' (fun w' h' => none_any h') (fun w' h' => ⟨(b_cells h').1, (r_cell h'.drop hq).1⟩)
      (fun w' h' => (Tr.own_all h'.third).mono fun e w2 ⟨v, he, hx⟩ => ⟨v, he, hx.tail OwnIn.back3⟩) ((apart hq).1 h)).mono fun e w2 ⟨v, he, hx⟩ => ⟨v, he, ?_⟩
    exact hx.tail (fun hU => OwnIn.packIn (g, L) hmm (apartIn hq hU))
end
end Go.Proofs.Ytlficiohenpghaa.Bk
