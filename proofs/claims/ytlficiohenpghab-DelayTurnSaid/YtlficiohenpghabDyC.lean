/- DERIVED. Layer 19 (delay): contracts of Put, Wake, New. Written by wip/mkdyc.py. -/
import Derived.Test.YtlficiohenpghabDyB
import Derived.Deep.RegionHeld3
set_option linter.unusedVariables false
set_option linter.unusedSimpArgs false
set_option maxRecDepth 100000
namespace Go.Proofs.Ytlficiohenpghab.Dy
open Go.RowKit Go.Maps Go.Proofs.Ytlficiohenpghab Go.Proofs.Ytlficiohenpghab.TreeP Go.Proofs.Ytlficiohenpghab.Tr Go.Proofs.Ytlficiohenpghab.Wk

section
variable {p n q : Nat} {E : List En} {l : List HP} {w : World}
/-- a flow that may not be -/
theorem own_put_arg (h : DO p n q E l w) (f at' : Int) (hf : (Lit.int .i64 f).wf = true) (hx : f < 0 ∨ (n : Int) ≤ f) :
    Calls Try.prog 12 #[.pointer (some ⟨p, 0, none⟩), .int .i64 f, .int .u64 at'] w fun e w' => e = .returned (.int .i64 2) ∧ DO p n q E l w' := by
  obtain ⟨t, b, m, D, h1, h2, h3, h4, h5, h6⟩ := h
  obtain ⟨c0, c1, c2, c3, cf⟩ := Own.blk4g h1
  have HNO := Lib.hid (none_no h1)
  have HM := Lib.hid (show Own (MK b m D :: BD p t b n q :: Tree t n E :: l) w from h1.third)
  have ha := keyR_at h2 f
  obtain ⟨B, hB⟩ : ∃ B, B = (who E f).isSome := ⟨_, rfl⟩
  obtain ⟨kx, hkx⟩ : ∃ k, k = (who E f).getD (0, 0) := ⟨_, rfl⟩
  have hb := (h2.has f).trans hB.symm
  rw [← hkx] at ha
  have HA := Lib.hid ha
  have HB := Lib.hid hb
  have HF := Lib.hid (keyOf_int hf)
  have HD : Hid (∀ w', Ext w w' → DO p n q E l w') := Lib.hid fun w' hx => ⟨t, b, m, D, h1.step hx, h2, h3, h4, h5, h6⟩
  have c2a := ((Ext.refl w).alloc (.cells #[.int .u64 kx.1, .int .u64 kx.2] 68)).cell c2
  clear h1 h2 h3 h4 h5 h6 ha hb hB hkx hf cf
  by_cases n0 : f < 0
  · go_enter Try.func12, Try.ntmps12
    go_wp2_with fail
    refine (HNO.out).mono ?_
    rintro e w' ⟨rfl, rfl⟩
    clear HNO
    go_wp2_with (at_lookup; refine mapD_look2 _ rfl _ _ 60 rfl 3 68 int_keyed' Try.underlying60 keyR (zeroK _) (kd (0, 0)) (keyR_mk (0, 0)) b m D rfl HM.out (.int .i64 f) (fl f) rfl HF.out (Tr.key kx.1 kx.2) HA.out B HB.out ?_)
    go_ret
    exact ⟨rfl, HD.out _ ((Ext.refl w).alloc _)⟩
  · have n1 : (n : Int) ≤ f := by omega
    have n2 : ¬ f < (n : Int) := by omega
    go_enter Try.func12, Try.ntmps12
    go_wp2_with fail
    refine (HNO.out).mono ?_
    rintro e w' ⟨rfl, rfl⟩
    clear HNO
    go_wp2_with (at_lookup; refine mapD_look2 _ rfl _ _ 60 rfl 3 68 int_keyed' Try.underlying60 keyR (zeroK _) (kd (0, 0)) (keyR_mk (0, 0)) b m D rfl HM.out (.int .i64 f) (fl f) rfl HF.out (Tr.key kx.1 kx.2) HA.out B HB.out ?_)
    go_ret
    exact ⟨rfl, HD.out _ ((Ext.refl w).alloc _)⟩
/-- a flow that waits -/
theorem own_put_in (h : DO p n q E l w) (f at' : Int) (hf : (Lit.int .i64 f).wf = true) (f0 : 0 ≤ f) (fn : f < (n : Int)) (k : Key) (hw : who E f = some k) :
    Calls Try.prog 12 #[.pointer (some ⟨p, 0, none⟩), .int .i64 f, .int .u64 at'] w fun e w' => e = .returned (.int .i64 50) ∧ DO p n q E l w' := by
  obtain ⟨t, b, m, D, h1, h2, h3, h4, h5, h6⟩ := h
  obtain ⟨c0, c1, c2, c3, cf⟩ := Own.blk4g h1
  have HNO := Lib.hid (none_no h1)
  have HM := Lib.hid (show Own (MK b m D :: BD p t b n q :: Tree t n E :: l) w from h1.third)
  have ha := keyR_at h2 f
  have hb := h2.has f
  rw [hw] at ha hb
  have HA := Lib.hid ha
  have HB := Lib.hid hb
  have HF := Lib.hid (keyOf_int hf)
  have HD : Hid (∀ w', Ext w w' → DO p n q E l w') := Lib.hid fun w' hx => ⟨t, b, m, D, h1.step hx, h2, h3, h4, h5, h6⟩
  have n0 : ¬ f < 0 := by omega
  have n1 : ¬ (n : Int) ≤ f := by omega
  have c2a := ((Ext.refl w).alloc (.cells #[.int .u64 k.1, .int .u64 k.2] 68)).cell c2
  clear h1 h2 h3 h4 h5 h6 ha hb hf cf
  go_enter Try.func12, Try.ntmps12
  go_wp2_with fail
  refine (HNO.out).mono ?_
  rintro e w' ⟨rfl, rfl⟩
  clear HNO
  go_wp2_with (at_lookup; refine mapD_look2 _ rfl _ _ 60 rfl 3 68 int_keyed' Try.underlying60 keyR (zeroK _) (kd (0, 0)) (keyR_mk (0, 0)) b m D rfl HM.out (.int .i64 f) (fl f) rfl HF.out (Tr.key k.1 k.2) HA.out true HB.out ?_)
  go_ret
  exact ⟨rfl, HD.out _ ((Ext.refl w).alloc _)⟩
/-- a flow that does not wait -/
theorem own_put_ok (h : DO p n q E l w) (f at' : Int) (hf : (Lit.int .i64 f).wf = true) (f0 : 0 ≤ f) (fn : f < (n : Int)) (a0 : 0 ≤ at') (a1 : at' < 18446744073709551616) (hw : who E f = none) (hq : q < 5000) (hlen : E.length ≠ n) :
    Calls Try.prog 12 #[.pointer (some ⟨p, 0, none⟩), .int .i64 f, .int .u64 at'] w fun e w' => e = .returned (.int .i64 0) ∧ DO p n (q + 1) (ins E (at', (q : Int)) f) l w' := by
  obtain ⟨t, b, m, D, h1, h2, h3, h4, h5, h6⟩ := h
  obtain ⟨c0, c1, c2, c3, cf⟩ := Own.blk4g h1
  have HNO := Lib.hid (none_no h1)
  have HM := Lib.hid (show Own (MK b m D :: BD p t b n q :: Tree t n E :: l) w from h1.third)
  have hr := (own_rising h1.swap).1
  have ha := keyR_at h2 f
  have hb := h2.has f
  rw [hw] at ha hb
  have HA := Lib.hid ha
  have HB := Lib.hid hb
  have HF := Lib.hid (keyOf_int hf)
  have hlk := look_fresh h4 at'
  have hrel := rel_put h2 (at', (q : Int)) f (who_ins h4.df hlk hw)
  have hei : EI n (q + 1) (ins E (at', (q : Int)) f) := ⟨fun e he => by
    rcases (mem_ins hlk e).1 he with rfl | he
    · exact ⟨f0, fn⟩
    · exact h4.flow e he, fun e he => by
    rcases (mem_ins hlk e).1 he with rfl | he
    · exact ⟨a0, by simp only; omega, by simp only; omega⟩
    · have := h4.key e he
      omega, df_ins h4.df hw, fun e he => by
    rcases (mem_ins hlk e).1 he with rfl | he
    · exact a1
    · exact h4.top e he⟩
  have HD : Hid (∀ w', Own (Tree t n (ins E (at', (q : Int)) f) :: MK b (m + 1) (D.put (fl f) (kd (at', (q : Int)))) :: BD p t b n (q + 1) :: l) w' → DO p n (q + 1) (ins E (at', (q : Int)) f) l w') := Lib.hid fun w' h => ⟨t, b, m + 1, _, h.third.tail OwnIn.swap |>.tail OwnIn.swap |>.tail (fun h => h), hrel, by omega, hei, h5, h6⟩
  have HAT := Lib.hid (keyR_at hrel f)
  have hwho : who (ins E (at', (q : Int)) f) f = some (at', (q : Int)) := by rw [who_ins h4.df hlk hw, if_pos rfl]
  have HAT2 := HAT.out
  rw [hwho] at HAT2
  have HA2 := Lib.hid HAT2
  have HLK := Lib.hid hlk
  have HM1 := Lib.hid (show m < maxLen by unfold maxLen; omega)
  have HLE := Lib.hid hlen
  have HC1 : Hid (∀ D' m' q' w', Own (MK b m' D' :: Tree t n E :: BD p t b n q' :: l) w' → w'.cell? ⟨p, 0, none⟩ = some (.pointer (some ⟨t, 0, none⟩)) ∧ w'.cell? ⟨p, 1, none⟩ = some (.map (some b)) ∧ w'.cell? ⟨p, 3, none⟩ = some (.int .u64 (q' : Int)) ∧ w'.frozen? ⟨p, 3, none⟩ = false) := Lib.hid fun D' m' q' w' h' => by
    have hp := Go.Proofs.Ytlficiohenpghab.Own.blk h' (.tail _ (.tail _ (.head _)))
    simp [World.cell?, World.frozen?, hp]
  have HC2 : Hid (∀ D' m' q' E' w', Own (MK b m' D' :: Tree t n E' :: BD p t b n q' :: l) w' → w'.cell? ⟨p, 0, none⟩ = some (.pointer (some ⟨t, 0, none⟩)) ∧ w'.cell? ⟨p, 1, none⟩ = some (.map (some b))) := Lib.hid fun D' m' q' E' w' h' => by
    have hp := Go.Proofs.Ytlficiohenpghab.Own.blk h' (.tail _ (.tail _ (.head _)))
    simp [World.cell?, hp]
  have h7 : Own (MK b m D :: Tree t n E :: BD p t b n q :: l) w := h1.third.tail OwnIn.swap
  have H7 := Lib.hid h7
  have n0 : ¬ f < 0 := by omega
  have qI : (q : Int) < 5000 := by omega
  have n1 : ¬ (n : Int) ≤ f := by omega
  have c2a := ((Ext.refl w).alloc (.cells #[.int .u64 0, .int .u64 0] 68)).cell c2
  clear h1 h2 h3 h4 h5 h6 ha hb hf hr hlk hrel hei hwho hlen hw h7 HAT2 HAT cf hq a1
  go_enter Try.func12, Try.ntmps12
  go_wp2_with fail
  refine (HNO.out).mono ?_
  rintro e w' ⟨rfl, rfl⟩
  clear HNO
  go_upto_region 8 with (at_lookup; refine mapD_look2 _ rfl _ _ 60 rfl 3 68 int_keyed' Try.underlying60 keyR (zeroK _) (kd (0, 0)) (keyR_mk (0, 0)) b m D rfl HM.out (.int .i64 f) (fl f) rfl HF.out (Tr.key 0 0) HA.out false HB.out ?_)
  have hz : Own (MK b m D :: Tree t n E :: BD p t b n q :: l) (w.alloc (.cells #[.int .u64 0, .int .u64 0] 68)).drew := H7.out.step ((Ext.refl w).alloc _).drew
  refine wp_region_held_drew (S := fun w' => w'.cell? ⟨p, 1, none⟩ = some (.map (some b)) ∧ w'.cell? ⟨p, 3, none⟩ = some (.int .u64 (q : Int))) (by kernel_rfl) ⟨(HC1.out _ _ _ _ hz).2.1, (HC1.out _ _ _ _ hz).2.2.1⟩ (fun hHeld => ?_)
  refine wpAnyH_take (i := 0) (v := ?_) rfl (by kernel_rfl) (by kernel_rfl) (by kernel_rfl) (fun _ _ _ h => h) (Or.inl ⟨by rfl, ?_⟩) (by assumption) ?_
  rotate_left
  · intro w' hSw
    try dsimp only at hSw
    go_split_ands
    go_simp
    try with_reducible rfl
  try simp only [Act.put, List.setIfInBounds_toArray, List.set_cons_zero, List.set_cons_succ, List.getElem_toArray, List.getElem_cons_succ, List.getElem_cons_zero]
  refine wpAnyH_take (i := 1) (v := ?_) rfl (by kernel_rfl) (by kernel_rfl) (by kernel_rfl) (fun _ _ _ h => h) (Or.inl ⟨by rfl, ?_⟩) (by assumption) ?_
  rotate_left
  · intro w' hSw
    try dsimp only at hSw
    go_split_ands
    go_simp
    try with_reducible rfl
  try simp only [Act.put, List.setIfInBounds_toArray, List.set_cons_zero, List.set_cons_succ, List.getElem_toArray, List.getElem_cons_succ, List.getElem_cons_zero]
  refine wpAnyH_take (i := 2) (v := ?_) rfl (by kernel_rfl) (by kernel_rfl) (by kernel_rfl) (fun _ _ _ h => h) (Or.inl ⟨by rfl, ?_⟩) (by assumption) ?_
  rotate_left
  · intro w' hSw
    try dsimp only at hSw
    go_split_ands
    go_simp
    try with_reducible rfl
  try simp only [Act.put, List.setIfInBounds_toArray, List.set_cons_zero, List.set_cons_succ, List.getElem_toArray, List.getElem_cons_succ, List.getElem_cons_zero]
  refine wpAnyH_take (i := 3) (v := ?_) rfl (by kernel_rfl) (by kernel_rfl) (by kernel_rfl) (fun _ _ _ h => h) (Or.inl ⟨by rfl, ?_⟩) (by assumption) ?_
  rotate_left
  · intro w' hSw
    try dsimp only at hSw
    go_split_ands
    go_simp
    try with_reducible rfl
  try simp only [Act.put, List.setIfInBounds_toArray, List.set_cons_zero, List.set_cons_succ, List.getElem_toArray, List.getElem_cons_succ, List.getElem_cons_zero]
  refine wpAnyH_take (i := 4) (v := ?_) rfl (by kernel_rfl) (by kernel_rfl) (by kernel_rfl) (fun _ _ _ h => h) (Or.inl ⟨by rfl, ?_⟩) (by assumption) ?_
  rotate_left
  · intro w' hSw
    try dsimp only at hSw
    go_split_ands
    go_simp
    try with_reducible rfl
  try simp only [Act.put, List.setIfInBounds_toArray, List.set_cons_zero, List.set_cons_succ, List.getElem_toArray, List.getElem_cons_succ, List.getElem_cons_zero]
  refine wpAnyH_take (i := 5) (v := ?_) rfl (by kernel_rfl) (by kernel_rfl) (by kernel_rfl) (fun _ _ _ h => h) (Or.inl ⟨by rfl, ?_⟩) (by assumption) ?_
  rotate_left
  · intro w' hSw
    try dsimp only at hSw
    go_split_ands
    go_simp
    try with_reducible rfl
  try simp only [Act.put, List.setIfInBounds_toArray, List.set_cons_zero, List.set_cons_succ, List.getElem_toArray, List.getElem_cons_succ, List.getElem_cons_zero]
  refine wpAnyH_take (i := 6) (v := ?_) rfl (by kernel_rfl) (by kernel_rfl) (by kernel_rfl) (fun _ _ _ h => h) (Or.inl ⟨by rfl, ?_⟩) (by assumption) ?_
  rotate_left
  · intro w' hSw
    try dsimp only at hSw
    go_split_ands
    go_simp
    try with_reducible rfl
  try simp only [Act.put, List.setIfInBounds_toArray, List.set_cons_zero, List.set_cons_succ, List.getElem_toArray, List.getElem_cons_succ, List.getElem_cons_zero]
  refine wpAnyH_take (i := 7) (v := ?_) rfl (by kernel_rfl) (by kernel_rfl) (by kernel_rfl) (fun _ _ _ h => h) (Or.inl ⟨by rfl, ?_⟩) (by assumption) ?_
  rotate_left
  · intro w' hSw
    try dsimp only at hSw
    go_split_ands
    go_simp
    try with_reducible rfl
  try simp only [Act.put, List.setIfInBounds_toArray, List.set_cons_zero, List.set_cons_succ, List.getElem_toArray, List.getElem_cons_succ, List.getElem_cons_zero]
  refine wpAnyH_take (i := 8) (v := ?_) rfl (by kernel_rfl) (by kernel_rfl) (by kernel_rfl) (fun _ _ _ h => h) (Or.inl ⟨by rfl, ?_⟩) (by assumption) ?_
  rotate_left
  · intro w' hSw
    try dsimp only at hSw
    go_split_ands
    go_simp
    try with_reducible rfl
  try simp only [Act.put, List.setIfInBounds_toArray, List.set_cons_zero, List.set_cons_succ, List.getElem_toArray, List.getElem_cons_succ, List.getElem_cons_zero]
  refine wpAnyH_take (i := 9) (v := ?_) rfl (by kernel_rfl) (by kernel_rfl) (by kernel_rfl) (fun _ _ _ h => h) (Or.inl ⟨by rfl, ?_⟩) (by assumption) ?_
  rotate_left
  · intro w' hSw
    try dsimp only at hSw
    go_split_ands
    go_simp
    try with_reducible rfl
  try simp only [Act.put, List.setIfInBounds_toArray, List.set_cons_zero, List.set_cons_succ, List.getElem_toArray, List.getElem_cons_succ, List.getElem_cons_zero]
  refine wpAnyH_take (i := 10) (v := ?_) rfl (by kernel_rfl) (by kernel_rfl) (by kernel_rfl) (fun _ _ _ h => h) (Or.inl ⟨by rfl, ?_⟩) (by assumption) ?_
  rotate_left
  · intro w' hSw
    try dsimp only at hSw
    go_split_ands
    go_simp
    try with_reducible rfl
  try simp only [Act.put, List.setIfInBounds_toArray, List.set_cons_zero, List.set_cons_succ, List.getElem_toArray, List.getElem_cons_succ, List.getElem_cons_zero]
  refine wpAnyH_ready (rs := [11]) (by kernel_rfl) (by simp) ?_
  refine AllReadyH.cons rfl (fun K hK => ?_) AllReadyH.nil
  refine held_put _ (by rfl) _ _ _ 60 rfl 3 68 int_keyed' Try.underlying60 keyR b m D rfl hz HM1.out (.int .i64 f) (fl f) rfl HF.out (Tr.key at' (q : Int)) rfl (kd (at', (q : Int))) [] (keyR_mk (at', (q : Int))) ?_
  intro w3 h8
  clear hHeld hz
  refine hK.out _ _ ⟨(HC1.out _ _ _ _ h8).2.1, (HC1.out _ _ _ _ h8).2.2.1⟩ (fun hHeld => ?_)
  clear hK K hHeld
  try simp only [Act.put, List.setIfInBounds_toArray, List.set_cons_zero, List.set_cons_succ, List.getElem_toArray, List.getElem_cons_succ, List.getElem_cons_zero]
  refine wpAnyH_done (by kernel_rfl) ?_ _
  obtain ⟨d0, d1, d2, d3⟩ := HC1.out _ _ _ _ h8
  have h9 : Own (MK b (m + 1) (D.put (fl f) (kd (at', (q : Int)))) :: Tree t n E :: BD p t b n (q + 1) :: l) (w3.setCell ⟨p, 3, none⟩ (.int .u64 ((q : Int) + 1))) := (Go.Proofs.Ytlficiohenpghab.Own.blkSet h8.third (o := 3) (.int .u64 ((q : Int) + 1))).third.third
  have H9 := Lib.hid h9
  clear h8 h9 HM HA HB
  go_upto_region 10 with fail
  have hz := H9.out.step (Ext.refl _).drew
  refine wp_region_held_drew (S := fun w' => (∃ E', Own (MK b (m + 1) (D.put (fl f) (kd (at', (q : Int)))) :: Tree t n E' :: BD p t b n (q + 1) :: l) w') ∧ w'.cell? ⟨p, 0, none⟩ = some (.pointer (some ⟨t, 0, none⟩)) ∧ w'.cell? ⟨p, 1, none⟩ = some (.map (some b))) (by kernel_rfl) ⟨⟨E, hz⟩, (HC1.out _ _ _ _ hz).1, (HC1.out _ _ _ _ hz).2.1⟩ (fun hHeld => ?_)
  refine wpAnyH_take (i := 0) (v := ?_) rfl (by kernel_rfl) (by kernel_rfl) (by kernel_rfl) (fun _ _ _ h => h) (Or.inl ⟨by rfl, ?_⟩) (by assumption) ?_
  rotate_left
  · intro w' hSw
    try dsimp only at hSw
    go_split_ands
    go_simp
    try with_reducible rfl
  try simp only [Act.put, List.setIfInBounds_toArray, List.set_cons_zero, List.set_cons_succ, List.getElem_toArray, List.getElem_cons_succ, List.getElem_cons_zero]
  refine wpAnyH_take (i := 1) (v := ?_) rfl (by kernel_rfl) (by kernel_rfl) (by kernel_rfl) (fun _ _ _ h => h) (Or.inl ⟨by rfl, ?_⟩) (by assumption) ?_
  rotate_left
  · intro w' hSw
    try dsimp only at hSw
    go_split_ands
    go_simp
    try with_reducible rfl
  try simp only [Act.put, List.setIfInBounds_toArray, List.set_cons_zero, List.set_cons_succ, List.getElem_toArray, List.getElem_cons_succ, List.getElem_cons_zero]
  refine wpAnyH_take (i := 2) (v := ?_) rfl (by kernel_rfl) (by kernel_rfl) (by kernel_rfl) (fun _ _ _ h => h) (Or.inl ⟨by rfl, ?_⟩) (by assumption) ?_
  rotate_left
  · intro w' hSw
    try dsimp only at hSw
    go_split_ands
    go_simp
    try with_reducible rfl
  try simp only [Act.put, List.setIfInBounds_toArray, List.set_cons_zero, List.set_cons_succ, List.getElem_toArray, List.getElem_cons_succ, List.getElem_cons_zero]
  refine wpAnyH_take (i := 3) (v := ?_) rfl (by kernel_rfl) (by kernel_rfl) (by kernel_rfl) (fun _ _ _ h => h) (Or.inl ⟨by rfl, ?_⟩) (by assumption) ?_
  rotate_left
  · intro w' hSw
    try dsimp only at hSw
    go_split_ands
    go_simp
    try with_reducible rfl
  try simp only [Act.put, List.setIfInBounds_toArray, List.set_cons_zero, List.set_cons_succ, List.getElem_toArray, List.getElem_cons_succ, List.getElem_cons_zero]
  refine wpAnyH_take (i := 4) (v := ?_) rfl (by kernel_rfl) (by kernel_rfl) (by kernel_rfl) (fun _ _ _ h => h) (Or.inl ⟨by rfl, ?_⟩) (by assumption) ?_
  rotate_left
  · intro w' hSw
    try dsimp only at hSw
    go_split_ands
    go_simp
    try with_reducible rfl
  try simp only [Act.put, List.setIfInBounds_toArray, List.set_cons_zero, List.set_cons_succ, List.getElem_toArray, List.getElem_cons_succ, List.getElem_cons_zero]
  refine wpAnyH_take (i := 5) (v := ?_) rfl (by kernel_rfl) (by kernel_rfl) (by kernel_rfl) (fun _ _ _ h => h) (Or.inl ⟨by rfl, ?_⟩) (by assumption) ?_
  rotate_left
  · intro w' hSw
    try dsimp only at hSw
    go_split_ands
    go_simp
    try with_reducible rfl
  try simp only [Act.put, List.setIfInBounds_toArray, List.set_cons_zero, List.set_cons_succ, List.getElem_toArray, List.getElem_cons_succ, List.getElem_cons_zero]
  refine wpAnyH_take (i := 6) (v := ?_) rfl (by kernel_rfl) (by kernel_rfl) (by kernel_rfl) (fun _ _ _ h => h) (Or.inl ⟨by rfl, ?_⟩) (by assumption) ?_
  rotate_left
  · intro w' hSw
    try dsimp only at hSw
    go_split_ands
    go_simp
    try with_reducible rfl
  try simp only [Act.put, List.setIfInBounds_toArray, List.set_cons_zero, List.set_cons_succ, List.getElem_toArray, List.getElem_cons_succ, List.getElem_cons_zero]
  refine wpAnyH_take (i := 7) (v := ?_) rfl (by kernel_rfl) (by kernel_rfl) (by kernel_rfl) (fun _ _ _ h => h) (Or.inl ⟨by rfl, ?_⟩) (by assumption) ?_
  rotate_left
  · intro w' hSw
    try dsimp only at hSw
    go_split_ands
    go_simp
    try with_reducible rfl
  try simp only [Act.put, List.setIfInBounds_toArray, List.set_cons_zero, List.set_cons_succ, List.getElem_toArray, List.getElem_cons_succ, List.getElem_cons_zero]
  refine wpAnyH_take (i := 8) (v := ?_) rfl (by kernel_rfl) (by kernel_rfl) (by kernel_rfl) (fun _ _ _ h => h) (Or.inl ⟨by rfl, ?_⟩) (by assumption) ?_
  rotate_left
  · intro w' hSw
    try dsimp only at hSw
    go_split_ands
    go_simp
    try with_reducible rfl
  try simp only [Act.put, List.setIfInBounds_toArray, List.set_cons_zero, List.set_cons_succ, List.getElem_toArray, List.getElem_cons_succ, List.getElem_cons_zero]
  refine wpAnyH_take (i := 9) (v := Tr.key at' (q : Int)) rfl (by kernel_rfl) (by kernel_rfl) (by kernel_rfl) (fun _ _ _ h => h) (yields_look (by rfl) _ _ 60 rfl 3 68 int_keyed' Try.underlying60 keyR zeroK (kd (0, 0)) (keyR_mk (0, 0)) b (m + 1) (D.put (fl f) (kd (at', (q : Int)))) rfl (fun w hS => by obtain ⟨⟨E', h⟩, _⟩ := hS; exact ⟨_, h⟩) (.int .i64 f) (fl f) rfl HF.out (Tr.key at' (q : Int)) HA2.out) (by assumption) ?_
  try simp only [Act.put, List.setIfInBounds_toArray, List.set_cons_zero, List.set_cons_succ, List.getElem_toArray, List.getElem_cons_succ, List.getElem_cons_zero]
  refine wpAnyH_take (i := 10) (v := ?_) rfl (by kernel_rfl) (by kernel_rfl) (by kernel_rfl) (fun _ _ _ h => h) (Or.inl ⟨by rfl, ?_⟩) (by assumption) ?_
  rotate_left
  · intro w' hSw
    try dsimp only at hSw
    go_split_ands
    go_simp
    try with_reducible rfl
  try simp only [Act.put, List.setIfInBounds_toArray, List.set_cons_zero, List.set_cons_succ, List.getElem_toArray, List.getElem_cons_succ, List.getElem_cons_zero]
  refine wpAnyH_ready (rs := [11]) (by kernel_rfl) (by simp) ?_
  refine AllReadyH.cons rfl (fun K hK => ?_) AllReadyH.nil
  go_simp
  go_at_call 29
  refine (own_put' (x := 0) (E' := ins E (at', (q : Int)) f) hz.swap (by unfold putE; rw [HLK.out]; simp [HLE.out]) (by unfold putT; rw [HLK.out]; simp [HLE.out])).mono ?_
  rintro e w4 ⟨rfl, h8⟩
  have h9 := h8.swap
  clear hHeld hz h8
  refine hK.out _ _ ⟨⟨_, h9⟩, (HC2.out _ _ _ _ _ h9).1, (HC2.out _ _ _ _ _ h9).2⟩ (fun hHeld => ?_)
  clear hK K
  try simp only [Act.put, List.setIfInBounds_toArray, List.set_cons_zero, List.set_cons_succ, List.getElem_toArray, List.getElem_cons_succ, List.getElem_cons_zero]
  refine wpAnyH_take (i := 12) (v := ?_) rfl (by kernel_rfl) (by kernel_rfl) (by kernel_rfl) (fun _ _ _ h => h) (Or.inl ⟨by rfl, ?_⟩) (by assumption) ?_
  rotate_left
  · intro w' hSw
    try dsimp only at hSw
    go_split_ands
    go_simp
    try with_reducible rfl
  try simp only [Act.put, List.setIfInBounds_toArray, List.set_cons_zero, List.set_cons_succ, List.getElem_toArray, List.getElem_cons_succ, List.getElem_cons_zero]
  refine wpAnyH_done (by kernel_rfl) ?_ _
  have HX := Lib.hid (HD.out _ h9.swap)
  clear hHeld h9
  go_wp2_with fail
  go_ret
  exact ⟨rfl, HX.out⟩
end
end Go.Proofs.Ytlficiohenpghab.Dy
