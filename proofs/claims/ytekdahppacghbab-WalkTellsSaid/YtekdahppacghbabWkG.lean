/- DERIVED. Layer 7 (walk): the chapter's examples (written by wip/mkwkg.py). -/
import Derived.Test.YtekdahppacghbabWkJ
import Derived.Deep.RegionHeld3
set_option linter.unusedVariables false
set_option linter.unusedSimpArgs false
set_option maxRecDepth 100000
namespace Go.Proofs.Ytekdahppacghbab.Wk
open Go.RowKit Go.Proofs.Ytekdahppacghbab Go.Proofs.Ytekdahppacghbab.TreeP Go.Proofs.Ytekdahppacghbab.Tr

/-- two ways that go on alike -/
theorem wk_join {T R : Prop} (h : T → R) (ht : T) : R := h ht
theorem wk_same {P : Program} {md : Region.Mode} {ops : Array Oper} {Q : Exit → Act → World → Prop} {S : World → Prop} {fuel : Nat} {l1 l2 : Array Bool} {a : Act} {w : World} (e : l1 = l2) (h : wpAnyH P md ops Q S fuel l1 a w) : wpAnyH P md ops Q S fuel l2 a w := e ▸ h
set_option maxHeartbeats 8000000 in
theorem awake_any {l : List HP} {w : World} (h : Own l w) :
    Calls Try.prog 14 #[] w fun e w' => e = .returned (.bool true) ∧ Own l w' := by
  have h1 : Own (B6 w.heap.size :: l) (w.alloc (.cells #[.int .u64 1, .int .u64 0, .int .u64 3, .int .u64 0, .int .u64 5, .int .u64 0] 24)) := Go.Proofs.Ytekdahppacghbab.Own.blkNew h _ _
  have ho := of_any (some ⟨w.heap.size, 0, none⟩) 3 3 f0 (by omega) (by unfold maxLen; omega) (fun _ => ⟨w.heap.size, 0, rfl, fun X w' h' i hi => b6_keys h' i hi⟩) h1
  rw [ofP0] at ho
  have HO := Lib.hid ho
  clear h h1 ho
  go_enter Try.func14, Try.ntmps14
  go_wp2_with fail
  refine (HO.out).mono ?_
  rintro e w1 ⟨p, v, rfl, h1⟩
  obtain ⟨va, vc, rfl⟩ := (h1.swap).rowR.slice
  have h2 : Own (Tree p 60 E0 :: l) w1 := (h1.swap.drop).swap.drop
  obtain ⟨b, hb⟩ : ∃ b, b = w1.heap.size := ⟨_, rfl⟩
  obtain ⟨W2, hW2⟩ : ∃ W2, (((w1.alloc (.cells #[.slice va 3 vc, .int .i64 60] 28)).alloc (.cells #[.int .u64 1, .int .u64 0, .int .i64 0] 49)).alloc (.cells #[.int .u64 3, .int .u64 0, .int .i64 1] 49)).alloc (.cells #[.int .u64 5, .int .u64 0, .int .i64 2] 49) = W2 := ⟨_, rfl⟩
  have h3 : Own (Tree p 60 E0 :: BE (b + 1 + 1 + 1) ((5, 0), 2) :: BE (b + 1 + 1) ((3, 0), 1) :: BE (b + 1) ((1, 0), 0) :: l) W2 := by
    have h4 := Go.Proofs.Ytekdahppacghbab.Own.blkNew (Go.Proofs.Ytekdahppacghbab.Own.blkNew (Go.Proofs.Ytekdahppacghbab.Own.blkNew (h2.step ((Ext.refl w1).alloc (.cells #[.slice va 3 vc, .int .i64 60] 28))) #[.int .u64 1, .int .u64 0, .int .i64 0] 49) #[.int .u64 3, .int .u64 0, .int .i64 1] 49) #[.int .u64 5, .int .u64 0, .int .i64 2] 49
    rw [hW2] at h4
    simp only [World.size_alloc, ← hb] at h4
    exact h4.fourth
  have H3 := Lib.hid h3
  have HB := Lib.hid hb
  have HW2 := Lib.hid hW2
  clear h1 h2 HO h3 hb hW2
  go_upto_region 3 with fail
  rw [HW2.out, ← HB.out]
  clear HW2 HB
  go_wp2_with fail
  refine (own_sweep' (M := [((5, 0), 2), ((1, 0), 0)]) (kx := 1) (ks := 0) rise0 nn0 (by decide) (by decide) (by decide) (by decide) (by decide) (by decide) H3.out).mono ?_
  rintro e w3 ⟨v6, rfl, h4⟩
  obtain ⟨b7, hb7⟩ : ∃ b, b = w3.heap.size := ⟨_, rfl⟩
  have h5 := Go.Proofs.Ytekdahppacghbab.Own.blkNew h4 #[.int .u64 1, .int .u64 0] 24
  rw [← hb7] at h5
  have H5 : Hid (Own (Tree p 60 E0 :: BK b7 1 0 :: RE v6 [((5, 0), 2), ((1, 0), 0)] :: BE (b + 1 + 1 + 1) ((5, 0), 2) :: BE (b + 1 + 1) ((3, 0), 1) :: BE (b + 1) ((1, 0), 0) :: l) (w3.alloc (.cells #[.int .u64 1, .int .u64 0] 24))) := Lib.hid h5.third
  have HB7 := Lib.hid hb7
  clear h4 h5 H3 hb7
  go_upto_region 4 with fail
  rw [← HB7.out]
  clear HB7
  go_wp2_with fail
  refine (own_sweep' (M := [((1, 0), 0), ((3, 0), 1), ((5, 0), 2)]) (kx := 5) (ks := 0) rise0 nn0 (by decide) (by decide) (by decide) (by decide) (by decide) (by decide) H5.out).mono ?_
  rintro e w4 ⟨v8, rfl, h6⟩
  obtain ⟨b9, hb9⟩ : ∃ b, b = w4.heap.size := ⟨_, rfl⟩
  have h7 := Go.Proofs.Ytekdahppacghbab.Own.blkNew h6 #[.int .u64 5, .int .u64 0] 24
  rw [← hb9] at h7
  obtain ⟨LK, hLK⟩ : ∃ LK, LK = BK b9 5 0 :: RE v8 [((1, 0), 0), ((3, 0), 1), ((5, 0), 2)] :: BK b7 1 0 :: RE v6 [((5, 0), 2), ((1, 0), 0)] :: BE (b + 1 + 1 + 1) ((5, 0), 2) :: BE (b + 1 + 1) ((3, 0), 1) :: BE (b + 1) ((1, 0), 0) :: l := ⟨_, rfl⟩
  obtain ⟨W5, hW5⟩ : ∃ W5, w4.alloc (.cells #[.int .u64 5, .int .u64 0] 24) = W5 := ⟨_, rfl⟩
  have h8 : Own (Tree p 60 E0 :: LK) W5 := by rw [hLK, ← hW5]; exact h7.third
  have HCL : Hid (∀ (P : HP) (w' : World), Own (P :: LK) w' → w'.cell? ⟨b + 1, 0, none⟩ = some (.int .u64 1) ∧ w'.cell? ⟨b + 1, 1, none⟩ = some (.int .u64 0) ∧ w'.cell? ⟨b + 1, 2, none⟩ = some (.int .i64 0) ∧ w'.cell? ⟨b + 1 + 1, 0, none⟩ = some (.int .u64 3) ∧ w'.cell? ⟨b + 1 + 1, 1, none⟩ = some (.int .u64 0) ∧ w'.cell? ⟨b + 1 + 1, 2, none⟩ = some (.int .i64 1) ∧ w'.cell? ⟨b + 1 + 1 + 1, 0, none⟩ = some (.int .u64 5) ∧ w'.cell? ⟨b + 1 + 1 + 1, 1, none⟩ = some (.int .u64 0) ∧ w'.cell? ⟨b + 1 + 1 + 1, 2, none⟩ = some (.int .i64 2) ∧ w'.cell? ⟨b7, 0, none⟩ = some (.int .u64 1) ∧ w'.cell? ⟨b7, 1, none⟩ = some (.int .u64 0) ∧ w'.cell? ⟨b9, 0, none⟩ = some (.int .u64 5) ∧ w'.cell? ⟨b9, 1, none⟩ = some (.int .u64 0)) := Lib.hid (fun P w' h' => by
    have g1 := Go.Proofs.Ytekdahppacghbab.Own.blk h' (b := b + 1) (cs := #[.int .u64 1, .int .u64 0, .int .i64 0]) (t := 49) (by rw [hLK]; simp)
    have g3 := Go.Proofs.Ytekdahppacghbab.Own.blk h' (b := b + 1 + 1) (cs := #[.int .u64 3, .int .u64 0, .int .i64 1]) (t := 49) (by rw [hLK]; simp)
    have g5 := Go.Proofs.Ytekdahppacghbab.Own.blk h' (b := b + 1 + 1 + 1) (cs := #[.int .u64 5, .int .u64 0, .int .i64 2]) (t := 49) (by rw [hLK]; simp)
    have g7 := Go.Proofs.Ytekdahppacghbab.Own.blk h' (b := b7) (cs := #[.int .u64 1, .int .u64 0]) (t := 24) (by rw [hLK]; simp)
    have g9 := Go.Proofs.Ytekdahppacghbab.Own.blk h' (b := b9) (cs := #[.int .u64 5, .int .u64 0]) (t := 24) (by rw [hLK]; simp)
    simp [World.cell?, g1, g3, g5, g7, g9])
  have HV6 : Hid (∀ P : HP, ∃ l2, (P :: LK).Perm (RE v6 [((5, 0), 2), ((1, 0), 0)] :: l2)) := Lib.hid (fun P => ⟨P :: BK b9 5 0 :: RE v8 [((1, 0), 0), ((3, 0), 1), ((5, 0), 2)] :: BK b7 1 0 :: BE (b + 1 + 1 + 1) ((5, 0), 2) :: BE (b + 1 + 1) ((3, 0), 1) :: BE (b + 1) ((1, 0), 0) :: l, by
    rw [hLK]
    exact List.perm_middle (l₁ := [P, BK b9 5 0, RE v8 [((1, 0), 0), ((3, 0), 1), ((5, 0), 2)], BK b7 1 0])⟩)
  have HV8 : Hid (∀ P : HP, ∃ l2, (P :: LK).Perm (RE v8 [((1, 0), 0), ((3, 0), 1), ((5, 0), 2)] :: l2)) := Lib.hid (fun P => ⟨P :: BK b9 5 0 :: BK b7 1 0 :: RE v6 [((5, 0), 2), ((1, 0), 0)] :: BE (b + 1 + 1 + 1) ((5, 0), 2) :: BE (b + 1 + 1) ((3, 0), 1) :: BE (b + 1) ((1, 0), 0) :: l, by
    rw [hLK]
    exact List.perm_middle (l₁ := [P, BK b9 5 0])⟩)
  have HLL : Hid (∀ w', Own LK w' → Own l w') := Lib.hid (fun w' h' => by
    rw [hLK] at h'
    exact h'.drop.drop.drop.drop.drop.drop.drop)
  have H8 := Lib.hid h8
  have HB9 := Lib.hid hb9
  have HW5 := Lib.hid hW5
  clear h6 h7 H5 hb9 hLK hW5 h8
  go_upto_region 6 with fail
  rw [HW5.out, ← HB9.out]
  clear HW5 HB9
  obtain ⟨a0, a1, a2, c0, c1, c2, d0, d1, d2, e0, e1, f0, f1⟩ := HCL.out _ _ H8.out
  have h8 := H8.out
  have HDR : Hid (∀ cs, Own (Tree p 60 E0 :: BL W5.heap.size cs :: LK) (W5.alloc (.cells cs 49)).drew) := Lib.hid (fun cs => (Own.swap (Go.Proofs.Ytekdahppacghbab.Own.blkNew H8.out cs 49)).step (Ext.refl _).drew)
  dsimp only [List.append]
  have hz : Own (Tree p 60 E0 :: LK) W5.drew := H8.out.step (Ext.refl _).drew
  refine wp_region_held_drew (S := fun w' => w'.cell? ⟨b + 1, 0, none⟩ = some (.int .u64 1) ∧ w'.cell? ⟨b + 1, 1, none⟩ = some (.int .u64 0) ∧ w'.cell? ⟨b + 1, 2, none⟩ = some (.int .i64 0) ∧ w'.cell? ⟨b + 1 + 1, 0, none⟩ = some (.int .u64 3) ∧ w'.cell? ⟨b + 1 + 1, 1, none⟩ = some (.int .u64 0) ∧ w'.cell? ⟨b + 1 + 1, 2, none⟩ = some (.int .i64 1) ∧ w'.cell? ⟨b + 1 + 1 + 1, 0, none⟩ = some (.int .u64 5) ∧ w'.cell? ⟨b + 1 + 1 + 1, 1, none⟩ = some (.int .u64 0) ∧ w'.cell? ⟨b + 1 + 1 + 1, 2, none⟩ = some (.int .i64 2) ∧ w'.cell? ⟨b7, 0, none⟩ = some (.int .u64 1) ∧ w'.cell? ⟨b7, 1, none⟩ = some (.int .u64 0) ∧ w'.cell? ⟨b9, 0, none⟩ = some (.int .u64 5) ∧ w'.cell? ⟨b9, 1, none⟩ = some (.int .u64 0)) (by kernel_rfl) (HCL.out _ _ hz) (fun hHeld => ?_)
  refine wpAnyH_take (i := 0) (v := ?_) rfl (by kernel_rfl) (by kernel_rfl) (by kernel_rfl) (fun _ _ _ h => h) (Or.inl ⟨by rfl, ?_⟩) (by assumption) ?_
  rotate_left
  · intro w' hSw
    try dsimp only at hSw
    go_simp
    try with_reducible rfl
  try simp only [Act.put, List.setIfInBounds_toArray, List.set_cons_zero, List.set_cons_succ, List.getElem_toArray, List.getElem_cons_succ, List.getElem_cons_zero]
  refine wpAnyH_take (i := 1) (v := ?_) rfl (by kernel_rfl) (by kernel_rfl) (by kernel_rfl) (fun _ _ _ h => h) (Or.inl ⟨by rfl, ?_⟩) (by assumption) ?_
  rotate_left
  · intro w' hSw
    try dsimp only at hSw
    go_simp
    try with_reducible rfl
  try simp only [Act.put, List.setIfInBounds_toArray, List.set_cons_zero, List.set_cons_succ, List.getElem_toArray, List.getElem_cons_succ, List.getElem_cons_zero]
  refine wpAnyH_take (i := 2) (v := ?_) rfl (by kernel_rfl) (by kernel_rfl) (by kernel_rfl) (fun _ _ _ h => h) (Or.inl ⟨by rfl, ?_⟩) (by assumption) ?_
  rotate_left
  · intro w' hSw
    try dsimp only at hSw
    go_simp
    try with_reducible rfl
  try simp only [Act.put, List.setIfInBounds_toArray, List.set_cons_zero, List.set_cons_succ, List.getElem_toArray, List.getElem_cons_succ, List.getElem_cons_zero]
  refine wpAnyH_take (i := 4) (v := ?_) rfl (by kernel_rfl) (by kernel_rfl) (by kernel_rfl) (fun _ _ _ h => h) (Or.inl ⟨by rfl, ?_⟩) (by assumption) ?_
  rotate_left
  · intro w' hSw
    try dsimp only at hSw
    go_simp
    try with_reducible rfl
  try simp only [Act.put, List.setIfInBounds_toArray, List.set_cons_zero, List.set_cons_succ, List.getElem_toArray, List.getElem_cons_succ, List.getElem_cons_zero]
  refine wpAnyH_take (i := 5) (v := ?_) rfl (by kernel_rfl) (by kernel_rfl) (by kernel_rfl) (fun _ _ _ h => h) (Or.inl ⟨by rfl, ?_⟩) (by assumption) ?_
  rotate_left
  · intro w' hSw
    try dsimp only at hSw
    go_simp
    try with_reducible rfl
  try simp only [Act.put, List.setIfInBounds_toArray, List.set_cons_zero, List.set_cons_succ, List.getElem_toArray, List.getElem_cons_succ, List.getElem_cons_zero]
  clear hHeld
  apply wk_join
  · intro J
    refine wpAnyH_ready (rs := [3, 6]) (by kernel_rfl) (by simp) ?_
    refine AllReadyH.cons rfl (fun K hK => ?_) (AllReadyH.cons rfl (fun K hK => ?_) AllReadyH.nil)
    · go_simp
      go_at_call 11
      refine (own_from' (M := [((3, 0), 1), ((5, 0), 2)]) rise0 (by decide) (by decide) (by decide) hz).mono ?_
      rintro e w6 ⟨v9, rfl, hz2⟩
      refine hK.out _ _ (HCL.out _ _ (Own.drop hz2)) (fun hHeld => ?_)
      clear hK K
      try simp only [Act.put, List.setIfInBounds_toArray, List.set_cons_zero, List.set_cons_succ, List.getElem_toArray, List.getElem_cons_succ, List.getElem_cons_zero]
      refine wpAnyH_ready (rs := [6]) (by kernel_rfl) (by simp) ?_
      refine AllReadyH.cons rfl (fun K hK => ?_) AllReadyH.nil
      go_simp
      have hz3 := (Go.Proofs.Ytekdahppacghbab.Own.blkNew hz2 #[.int .u64 3, .int .u64 0, .int .i64 1, .int .u64 5, .int .u64 0, .int .i64 2] 49).third.third
      clear hHeld
      refine hK.out _ _ (HCL.out _ _ (Own.drop (Own.drop hz3))) (fun hHeld => ?_)
      clear hK K
      try simp only [Act.put, List.setIfInBounds_toArray, List.set_cons_zero, List.set_cons_succ, List.getElem_toArray, List.getElem_cons_succ, List.getElem_cons_zero]
      clear hHeld hz2
      obtain ⟨W, hW⟩ : ∃ W, W = w6.alloc (.cells #[.int .u64 3, .int .u64 0, .int .i64 1, .int .u64 5, .int .u64 0, .int .i64 2] 49) := ⟨_, rfl⟩
      rw [← hW] at hz3 ⊢
      obtain ⟨c, hc⟩ : ∃ c, c = w6.heap.size := ⟨_, rfl⟩
      rw [← hc] at hz3 ⊢
      clear hW hc
      revert v9 W c hz3
      exact J
    · go_simp
      have hz4 := (Go.Proofs.Ytekdahppacghbab.Own.blkNew hz #[.int .u64 3, .int .u64 0, .int .i64 1, .int .u64 5, .int .u64 0, .int .i64 2] 49).swap
      refine hK.out _ _ (HCL.out _ _ (Own.drop hz4)) (fun hHeld => ?_)
      clear hK K
      try simp only [Act.put, List.setIfInBounds_toArray, List.set_cons_zero, List.set_cons_succ, List.getElem_toArray, List.getElem_cons_succ, List.getElem_cons_zero]
      refine wpAnyH_ready (rs := [3]) (by kernel_rfl) (by simp) ?_
      refine AllReadyH.cons rfl (fun K hK => ?_) AllReadyH.nil
      go_simp
      go_at_call 11
      refine (own_from' (M := [((3, 0), 1), ((5, 0), 2)]) rise0 (by decide) (by decide) (by decide) hz4).mono ?_
      rintro e w6 ⟨v9, rfl, hz5⟩
      clear hHeld
      refine hK.out _ _ (HCL.out _ _ (Own.drop (Own.drop hz5))) (fun hHeld => ?_)
      clear hK K
      try simp only [Act.put, List.setIfInBounds_toArray, List.set_cons_zero, List.set_cons_succ, List.getElem_toArray, List.getElem_cons_succ, List.getElem_cons_zero]
      refine wk_same ?_ (J _ _ _ hz5)
      kernel_rfl
  intro v9 W c hzJ
  have hHeld := HCL.out _ _ (Own.drop (Own.drop hzJ))
  refine wpAnyH_ready (rs := [7]) (by kernel_rfl) (by simp) ?_
  refine AllReadyH.cons rfl (fun K hK => ?_) AllReadyH.nil
  go_simp
  go_at_call 16
  refine (sameA (M := [((3, 0), 1), ((5, 0), 2)]) (cs := #[.int .u64 3, .int .u64 0, .int .i64 1, .int .u64 5, .int .u64 0, .int .i64 2]) (n := 2) hzJ c35 nc35 le2).mono ?_
  rintro e w7 ⟨rfl, hz⟩
  clear hHeld
  refine hK.out _ _ (HCL.out _ _ hz) (fun hHeld => ?_)
  clear hK K
  try simp only [Act.put, List.setIfInBounds_toArray, List.set_cons_zero, List.set_cons_succ, List.getElem_toArray, List.getElem_cons_succ, List.getElem_cons_zero]
  clear hzJ
  refine wpAnyH_take (i := 8) (v := ?_) rfl (by kernel_rfl) (by kernel_rfl) (by kernel_rfl) (fun _ _ _ h => h) (Or.inl ⟨by rfl, ?_⟩) (by assumption) ?_
  rotate_left
  · intro w' hSw
    try dsimp only at hSw
    go_simp
    try with_reducible rfl
  try simp only [Act.put, List.setIfInBounds_toArray, List.set_cons_zero, List.set_cons_succ, List.getElem_toArray, List.getElem_cons_succ, List.getElem_cons_zero]
  refine wpAnyH_take (i := 9) (v := ?_) rfl (by kernel_rfl) (by kernel_rfl) (by kernel_rfl) (fun _ _ _ h => h) (Or.inl ⟨by rfl, ?_⟩) (by assumption) ?_
  rotate_left
  · intro w' hSw
    try dsimp only at hSw
    go_simp
    try with_reducible rfl
  try simp only [Act.put, List.setIfInBounds_toArray, List.set_cons_zero, List.set_cons_succ, List.getElem_toArray, List.getElem_cons_succ, List.getElem_cons_zero]
  refine wpAnyH_take (i := 10) (v := ?_) rfl (by kernel_rfl) (by kernel_rfl) (by kernel_rfl) (fun _ _ _ h => h) (Or.inl ⟨by rfl, ?_⟩) (by assumption) ?_
  rotate_left
  · intro w' hSw
    try dsimp only at hSw
    go_simp
    try with_reducible rfl
  try simp only [Act.put, List.setIfInBounds_toArray, List.set_cons_zero, List.set_cons_succ, List.getElem_toArray, List.getElem_cons_succ, List.getElem_cons_zero]
  refine wpAnyH_take (i := 12) (v := ?_) rfl (by kernel_rfl) (by kernel_rfl) (by kernel_rfl) (fun _ _ _ h => h) (Or.inl ⟨by rfl, ?_⟩) (by assumption) ?_
  rotate_left
  · intro w' hSw
    try dsimp only at hSw
    go_simp
    try with_reducible rfl
  try simp only [Act.put, List.setIfInBounds_toArray, List.set_cons_zero, List.set_cons_succ, List.getElem_toArray, List.getElem_cons_succ, List.getElem_cons_zero]
  refine wpAnyH_take (i := 13) (v := ?_) rfl (by kernel_rfl) (by kernel_rfl) (by kernel_rfl) (fun _ _ _ h => h) (Or.inl ⟨by rfl, ?_⟩) (by assumption) ?_
  rotate_left
  · intro w' hSw
    try dsimp only at hSw
    go_simp
    try with_reducible rfl
  try simp only [Act.put, List.setIfInBounds_toArray, List.set_cons_zero, List.set_cons_succ, List.getElem_toArray, List.getElem_cons_succ, List.getElem_cons_zero]
  clear hHeld
  apply wk_join
  · intro J
    refine wpAnyH_ready (rs := [11, 14]) (by kernel_rfl) (by simp) ?_
    refine AllReadyH.cons rfl (fun K hK => ?_) (AllReadyH.cons rfl (fun K hK => ?_) AllReadyH.nil)
    · go_simp
      go_at_call 12
      refine (own_upto' (M := [((1, 0), 0), ((3, 0), 1)]) (at' := 3) (n := 9) rise0 nn0 (by decide) (by decide) (by decide) hz).mono ?_
      rintro e w6 ⟨v9, rfl, hz2⟩
      refine hK.out _ _ (HCL.out _ _ (Own.drop hz2)) (fun hHeld => ?_)
      clear hK K
      try simp only [Act.put, List.setIfInBounds_toArray, List.set_cons_zero, List.set_cons_succ, List.getElem_toArray, List.getElem_cons_succ, List.getElem_cons_zero]
      refine wpAnyH_ready (rs := [14]) (by kernel_rfl) (by simp) ?_
      refine AllReadyH.cons rfl (fun K hK => ?_) AllReadyH.nil
      go_simp
      have hz3 := (Go.Proofs.Ytekdahppacghbab.Own.blkNew hz2 #[.int .u64 1, .int .u64 0, .int .i64 0, .int .u64 3, .int .u64 0, .int .i64 1] 49).third.third
      clear hHeld
      refine hK.out _ _ (HCL.out _ _ (Own.drop (Own.drop hz3))) (fun hHeld => ?_)
      clear hK K
      try simp only [Act.put, List.setIfInBounds_toArray, List.set_cons_zero, List.set_cons_succ, List.getElem_toArray, List.getElem_cons_succ, List.getElem_cons_zero]
      clear hHeld hz2
      obtain ⟨W, hW⟩ : ∃ W, W = w6.alloc (.cells #[.int .u64 1, .int .u64 0, .int .i64 0, .int .u64 3, .int .u64 0, .int .i64 1] 49) := ⟨_, rfl⟩
      rw [← hW] at hz3 ⊢
      obtain ⟨c, hc⟩ : ∃ c, c = w6.heap.size := ⟨_, rfl⟩
      rw [← hc] at hz3 ⊢
      clear hW hc
      revert v9 W c hz3
      exact J
    · go_simp
      have hz4 := (Go.Proofs.Ytekdahppacghbab.Own.blkNew hz #[.int .u64 1, .int .u64 0, .int .i64 0, .int .u64 3, .int .u64 0, .int .i64 1] 49).swap
      refine hK.out _ _ (HCL.out _ _ (Own.drop hz4)) (fun hHeld => ?_)
      clear hK K
      try simp only [Act.put, List.setIfInBounds_toArray, List.set_cons_zero, List.set_cons_succ, List.getElem_toArray, List.getElem_cons_succ, List.getElem_cons_zero]
      refine wpAnyH_ready (rs := [11]) (by kernel_rfl) (by simp) ?_
      refine AllReadyH.cons rfl (fun K hK => ?_) AllReadyH.nil
      go_simp
      go_at_call 12
      refine (own_upto' (M := [((1, 0), 0), ((3, 0), 1)]) (at' := 3) (n := 9) rise0 nn0 (by decide) (by decide) (by decide) hz4).mono ?_
      rintro e w6 ⟨v9, rfl, hz5⟩
      clear hHeld
      refine hK.out _ _ (HCL.out _ _ (Own.drop (Own.drop hz5))) (fun hHeld => ?_)
      clear hK K
      try simp only [Act.put, List.setIfInBounds_toArray, List.set_cons_zero, List.set_cons_succ, List.getElem_toArray, List.getElem_cons_succ, List.getElem_cons_zero]
      refine wk_same ?_ (J _ _ _ hz5)
      kernel_rfl
  intro v9 W c hzJ
  have hHeld := HCL.out _ _ (Own.drop (Own.drop hzJ))
  refine wpAnyH_ready (rs := [15]) (by kernel_rfl) (by simp) ?_
  refine AllReadyH.cons rfl (fun K hK => ?_) AllReadyH.nil
  go_simp
  go_at_call 16
  refine (sameA (M := [((1, 0), 0), ((3, 0), 1)]) (cs := #[.int .u64 1, .int .u64 0, .int .i64 0, .int .u64 3, .int .u64 0, .int .i64 1]) (n := 2) hzJ c13 nc13 le2).mono ?_
  rintro e w7 ⟨rfl, hz⟩
  clear hHeld
  refine hK.out _ _ (HCL.out _ _ hz) (fun hHeld => ?_)
  clear hK K
  try simp only [Act.put, List.setIfInBounds_toArray, List.set_cons_zero, List.set_cons_succ, List.getElem_toArray, List.getElem_cons_succ, List.getElem_cons_zero]
  clear hzJ
  refine wpAnyH_take (i := 16) (v := ?_) rfl (by kernel_rfl) (by kernel_rfl) (by kernel_rfl) (fun _ _ _ h => h) (Or.inl ⟨by rfl, ?_⟩) (by assumption) ?_
  rotate_left
  · intro w' hSw
    try dsimp only at hSw
    go_simp
    try with_reducible rfl
  try simp only [Act.put, List.setIfInBounds_toArray, List.set_cons_zero, List.set_cons_succ, List.getElem_toArray, List.getElem_cons_succ, List.getElem_cons_zero]
  refine wpAnyH_take (i := 17) (v := ?_) rfl (by kernel_rfl) (by kernel_rfl) (by kernel_rfl) (fun _ _ _ h => h) (Or.inl ⟨by rfl, ?_⟩) (by assumption) ?_
  rotate_left
  · intro w' hSw
    try dsimp only at hSw
    go_simp
    try with_reducible rfl
  try simp only [Act.put, List.setIfInBounds_toArray, List.set_cons_zero, List.set_cons_succ, List.getElem_toArray, List.getElem_cons_succ, List.getElem_cons_zero]
  refine wpAnyH_take (i := 18) (v := ?_) rfl (by kernel_rfl) (by kernel_rfl) (by kernel_rfl) (fun _ _ _ h => h) (Or.inl ⟨by rfl, ?_⟩) (by assumption) ?_
  rotate_left
  · intro w' hSw
    try dsimp only at hSw
    go_simp
    try with_reducible rfl
  try simp only [Act.put, List.setIfInBounds_toArray, List.set_cons_zero, List.set_cons_succ, List.getElem_toArray, List.getElem_cons_succ, List.getElem_cons_zero]
  refine wpAnyH_take (i := 19) (v := ?_) rfl (by kernel_rfl) (by kernel_rfl) (by kernel_rfl) (fun _ _ _ h => h) (Or.inl ⟨by rfl, ?_⟩) (by assumption) ?_
  rotate_left
  · intro w' hSw
    try dsimp only at hSw
    go_simp
    try with_reducible rfl
  try simp only [Act.put, List.setIfInBounds_toArray, List.set_cons_zero, List.set_cons_succ, List.getElem_toArray, List.getElem_cons_succ, List.getElem_cons_zero]
  refine wpAnyH_take (i := 21) (v := ?_) rfl (by kernel_rfl) (by kernel_rfl) (by kernel_rfl) (fun _ _ _ h => h) (Or.inl ⟨by rfl, ?_⟩) (by assumption) ?_
  rotate_left
  · intro w' hSw
    try dsimp only at hSw
    go_simp
    try with_reducible rfl
  try simp only [Act.put, List.setIfInBounds_toArray, List.set_cons_zero, List.set_cons_succ, List.getElem_toArray, List.getElem_cons_succ, List.getElem_cons_zero]
  clear hHeld
  apply wk_join
  · intro J
    refine wpAnyH_ready (rs := [20, 22]) (by kernel_rfl) (by simp) ?_
    refine AllReadyH.cons rfl (fun K hK => ?_) (AllReadyH.cons rfl (fun K hK => ?_) AllReadyH.nil)
    · go_simp
      go_at_call 12
      refine (own_upto' (M := [((1, 0), 0)]) (at' := 3) (n := 1) rise0 nn0 (by decide) (by decide) (by decide) hz).mono ?_
      rintro e w6 ⟨v9, rfl, hz2⟩
      refine hK.out _ _ (HCL.out _ _ (Own.drop hz2)) (fun hHeld => ?_)
      clear hK K
      try simp only [Act.put, List.setIfInBounds_toArray, List.set_cons_zero, List.set_cons_succ, List.getElem_toArray, List.getElem_cons_succ, List.getElem_cons_zero]
      refine wpAnyH_ready (rs := [22]) (by kernel_rfl) (by simp) ?_
      refine AllReadyH.cons rfl (fun K hK => ?_) AllReadyH.nil
      go_simp
      have hz3 := (Go.Proofs.Ytekdahppacghbab.Own.blkNew hz2 #[.int .u64 1, .int .u64 0, .int .i64 0] 49).third.third
      clear hHeld
      refine hK.out _ _ (HCL.out _ _ (Own.drop (Own.drop hz3))) (fun hHeld => ?_)
      clear hK K
      try simp only [Act.put, List.setIfInBounds_toArray, List.set_cons_zero, List.set_cons_succ, List.getElem_toArray, List.getElem_cons_succ, List.getElem_cons_zero]
      clear hHeld hz2
      obtain ⟨W, hW⟩ : ∃ W, W = w6.alloc (.cells #[.int .u64 1, .int .u64 0, .int .i64 0] 49) := ⟨_, rfl⟩
      rw [← hW] at hz3 ⊢
      obtain ⟨c, hc⟩ : ∃ c, c = w6.heap.size := ⟨_, rfl⟩
      rw [← hc] at hz3 ⊢
      clear hW hc
      revert v9 W c hz3
      exact J
    · go_simp
      have hz4 := (Go.Proofs.Ytekdahppacghbab.Own.blkNew hz #[.int .u64 1, .int .u64 0, .int .i64 0] 49).swap
      refine hK.out _ _ (HCL.out _ _ (Own.drop hz4)) (fun hHeld => ?_)
      clear hK K
      try simp only [Act.put, List.setIfInBounds_toArray, List.set_cons_zero, List.set_cons_succ, List.getElem_toArray, List.getElem_cons_succ, List.getElem_cons_zero]
      refine wpAnyH_ready (rs := [20]) (by kernel_rfl) (by simp) ?_
      refine AllReadyH.cons rfl (fun K hK => ?_) AllReadyH.nil
      go_simp
      go_at_call 12
      refine (own_upto' (M := [((1, 0), 0)]) (at' := 3) (n := 1) rise0 nn0 (by decide) (by decide) (by decide) hz4).mono ?_
      rintro e w6 ⟨v9, rfl, hz5⟩
      clear hHeld
      refine hK.out _ _ (HCL.out _ _ (Own.drop (Own.drop hz5))) (fun hHeld => ?_)
      clear hK K
      try simp only [Act.put, List.setIfInBounds_toArray, List.set_cons_zero, List.set_cons_succ, List.getElem_toArray, List.getElem_cons_succ, List.getElem_cons_zero]
      refine wk_same ?_ (J _ _ _ hz5)
      kernel_rfl
  intro v9 W c hzJ
  have hHeld := HCL.out _ _ (Own.drop (Own.drop hzJ))
  refine wpAnyH_ready (rs := [23]) (by kernel_rfl) (by simp) ?_
  refine AllReadyH.cons rfl (fun K hK => ?_) AllReadyH.nil
  go_simp
  go_at_call 16
  refine (sameA (M := [((1, 0), 0)]) (cs := #[.int .u64 1, .int .u64 0, .int .i64 0]) (n := 1) hzJ cx1 nc1 le1).mono ?_
  rintro e w7 ⟨rfl, hz⟩
  clear hHeld
  refine hK.out _ _ (HCL.out _ _ hz) (fun hHeld => ?_)
  clear hK K
  try simp only [Act.put, List.setIfInBounds_toArray, List.set_cons_zero, List.set_cons_succ, List.getElem_toArray, List.getElem_cons_succ, List.getElem_cons_zero]
  clear hzJ
  refine wpAnyH_take (i := 24) (v := ?_) rfl (by kernel_rfl) (by kernel_rfl) (by kernel_rfl) (fun _ _ _ h => h) (Or.inl ⟨by rfl, ?_⟩) (by assumption) ?_
  rotate_left
  · intro w' hSw
    try dsimp only at hSw
    go_simp
    try with_reducible rfl
  try simp only [Act.put, List.setIfInBounds_toArray, List.set_cons_zero, List.set_cons_succ, List.getElem_toArray, List.getElem_cons_succ, List.getElem_cons_zero]
  refine wpAnyH_take (i := 25) (v := ?_) rfl (by kernel_rfl) (by kernel_rfl) (by kernel_rfl) (fun _ _ _ h => h) (Or.inl ⟨by rfl, ?_⟩) (by assumption) ?_
  rotate_left
  · intro w' hSw
    try dsimp only at hSw
    go_simp
    try with_reducible rfl
  try simp only [Act.put, List.setIfInBounds_toArray, List.set_cons_zero, List.set_cons_succ, List.getElem_toArray, List.getElem_cons_succ, List.getElem_cons_zero]
  refine wpAnyH_take (i := 26) (v := ?_) rfl (by kernel_rfl) (by kernel_rfl) (by kernel_rfl) (fun _ _ _ h => h) (Or.inl ⟨by rfl, ?_⟩) (by assumption) ?_
  rotate_left
  · intro w' hSw
    try dsimp only at hSw
    go_simp
    try with_reducible rfl
  try simp only [Act.put, List.setIfInBounds_toArray, List.set_cons_zero, List.set_cons_succ, List.getElem_toArray, List.getElem_cons_succ, List.getElem_cons_zero]
  refine wpAnyH_take (i := 27) (v := ?_) rfl (by kernel_rfl) (by kernel_rfl) (by kernel_rfl) (fun _ _ _ h => h) (Or.inl ⟨by rfl, ?_⟩) (by assumption) ?_
  rotate_left
  · intro w' hSw
    try dsimp only at hSw
    go_simp
    try with_reducible rfl
  try simp only [Act.put, List.setIfInBounds_toArray, List.set_cons_zero, List.set_cons_succ, List.getElem_toArray, List.getElem_cons_succ, List.getElem_cons_zero]
  refine wpAnyH_take (i := 28) (v := ?_) rfl (by kernel_rfl) (by kernel_rfl) (by kernel_rfl) (fun _ _ _ h => h) (Or.inl ⟨by rfl, ?_⟩) (by assumption) ?_
  rotate_left
  · intro w' hSw
    try dsimp only at hSw
    go_simp
    try with_reducible rfl
  try simp only [Act.put, List.setIfInBounds_toArray, List.set_cons_zero, List.set_cons_succ, List.getElem_toArray, List.getElem_cons_succ, List.getElem_cons_zero]
  refine wpAnyH_take (i := 29) (v := ?_) rfl (by kernel_rfl) (by kernel_rfl) (by kernel_rfl) (fun _ _ _ h => h) (Or.inl ⟨by rfl, ?_⟩) (by assumption) ?_
  rotate_left
  · intro w' hSw
    try dsimp only at hSw
    go_simp
    try with_reducible rfl
  try simp only [Act.put, List.setIfInBounds_toArray, List.set_cons_zero, List.set_cons_succ, List.getElem_toArray, List.getElem_cons_succ, List.getElem_cons_zero]
  refine wpAnyH_ready (rs := [30]) (by kernel_rfl) (by simp) ?_
  refine AllReadyH.cons rfl (fun K hK => ?_) AllReadyH.nil
  go_simp
  have hzN := hz.step ((Ext.refl _).alloc (.cells #[.int .u64 5, .int .u64 0, .int .i64 2, .int .u64 1, .int .u64 0, .int .i64 0] 49))
  clear hHeld
  refine hK.out _ _ (HCL.out _ _ hzN) (fun hHeld => ?_)
  clear hK K
  try simp only [Act.put, List.setIfInBounds_toArray, List.set_cons_zero, List.set_cons_succ, List.getElem_toArray, List.getElem_cons_succ, List.getElem_cons_zero]
  refine wpAnyH_ready (rs := [31]) (by kernel_rfl) (by simp) ?_
  refine AllReadyH.cons rfl (fun K hK => ?_) AllReadyH.nil
  go_simp
  go_at_call 16
  refine (sameC (M := [((5, 0), 2), ((1, 0), 0)]) (cs := #[.int .u64 5, .int .u64 0, .int .i64 2, .int .u64 1, .int .u64 0, .int .i64 0]) (n := 2) (HV6.out _) hz c51 nc51 le2).mono ?_
  rintro e w7 ⟨rfl, hz⟩
  clear hHeld
  refine hK.out _ _ (HCL.out _ _ hz) (fun hHeld => ?_)
  clear hK K
  try simp only [Act.put, List.setIfInBounds_toArray, List.set_cons_zero, List.set_cons_succ, List.getElem_toArray, List.getElem_cons_succ, List.getElem_cons_zero]
  clear hzN
  refine wpAnyH_take (i := 32) (v := ?_) rfl (by kernel_rfl) (by kernel_rfl) (by kernel_rfl) (fun _ _ _ h => h) (Or.inl ⟨by rfl, ?_⟩) (by assumption) ?_
  rotate_left
  · intro w' hSw
    try dsimp only at hSw
    go_simp
    try with_reducible rfl
  try simp only [Act.put, List.setIfInBounds_toArray, List.set_cons_zero, List.set_cons_succ, List.getElem_toArray, List.getElem_cons_succ, List.getElem_cons_zero]
  refine wpAnyH_take (i := 33) (v := ?_) rfl (by kernel_rfl) (by kernel_rfl) (by kernel_rfl) (fun _ _ _ h => h) (Or.inl ⟨by rfl, ?_⟩) (by assumption) ?_
  rotate_left
  · intro w' hSw
    try dsimp only at hSw
    go_simp
    try with_reducible rfl
  try simp only [Act.put, List.setIfInBounds_toArray, List.set_cons_zero, List.set_cons_succ, List.getElem_toArray, List.getElem_cons_succ, List.getElem_cons_zero]
  refine wpAnyH_take (i := 34) (v := ?_) rfl (by kernel_rfl) (by kernel_rfl) (by kernel_rfl) (fun _ _ _ h => h) (Or.inl ⟨by rfl, ?_⟩) (by assumption) ?_
  rotate_left
  · intro w' hSw
    try dsimp only at hSw
    go_simp
    try with_reducible rfl
  try simp only [Act.put, List.setIfInBounds_toArray, List.set_cons_zero, List.set_cons_succ, List.getElem_toArray, List.getElem_cons_succ, List.getElem_cons_zero]
  refine wpAnyH_take (i := 35) (v := ?_) rfl (by kernel_rfl) (by kernel_rfl) (by kernel_rfl) (fun _ _ _ h => h) (Or.inl ⟨by rfl, ?_⟩) (by assumption) ?_
  rotate_left
  · intro w' hSw
    try dsimp only at hSw
    go_simp
    try with_reducible rfl
  try simp only [Act.put, List.setIfInBounds_toArray, List.set_cons_zero, List.set_cons_succ, List.getElem_toArray, List.getElem_cons_succ, List.getElem_cons_zero]
  refine wpAnyH_take (i := 36) (v := ?_) rfl (by kernel_rfl) (by kernel_rfl) (by kernel_rfl) (fun _ _ _ h => h) (Or.inl ⟨by rfl, ?_⟩) (by assumption) ?_
  rotate_left
  · intro w' hSw
    try dsimp only at hSw
    go_simp
    try with_reducible rfl
  try simp only [Act.put, List.setIfInBounds_toArray, List.set_cons_zero, List.set_cons_succ, List.getElem_toArray, List.getElem_cons_succ, List.getElem_cons_zero]
  refine wpAnyH_take (i := 37) (v := ?_) rfl (by kernel_rfl) (by kernel_rfl) (by kernel_rfl) (fun _ _ _ h => h) (Or.inl ⟨by rfl, ?_⟩) (by assumption) ?_
  rotate_left
  · intro w' hSw
    try dsimp only at hSw
    go_simp
    try with_reducible rfl
  try simp only [Act.put, List.setIfInBounds_toArray, List.set_cons_zero, List.set_cons_succ, List.getElem_toArray, List.getElem_cons_succ, List.getElem_cons_zero]
  refine wpAnyH_take (i := 38) (v := ?_) rfl (by kernel_rfl) (by kernel_rfl) (by kernel_rfl) (fun _ _ _ h => h) (Or.inl ⟨by rfl, ?_⟩) (by assumption) ?_
  rotate_left
  · intro w' hSw
    try dsimp only at hSw
    go_simp
    try with_reducible rfl
  try simp only [Act.put, List.setIfInBounds_toArray, List.set_cons_zero, List.set_cons_succ, List.getElem_toArray, List.getElem_cons_succ, List.getElem_cons_zero]
  refine wpAnyH_take (i := 39) (v := ?_) rfl (by kernel_rfl) (by kernel_rfl) (by kernel_rfl) (fun _ _ _ h => h) (Or.inl ⟨by rfl, ?_⟩) (by assumption) ?_
  rotate_left
  · intro w' hSw
    try dsimp only at hSw
    go_simp
    try with_reducible rfl
  try simp only [Act.put, List.setIfInBounds_toArray, List.set_cons_zero, List.set_cons_succ, List.getElem_toArray, List.getElem_cons_succ, List.getElem_cons_zero]
  refine wpAnyH_take (i := 40) (v := ?_) rfl (by kernel_rfl) (by kernel_rfl) (by kernel_rfl) (fun _ _ _ h => h) (Or.inl ⟨by rfl, ?_⟩) (by assumption) ?_
  rotate_left
  · intro w' hSw
    try dsimp only at hSw
    go_simp
    try with_reducible rfl
  try simp only [Act.put, List.setIfInBounds_toArray, List.set_cons_zero, List.set_cons_succ, List.getElem_toArray, List.getElem_cons_succ, List.getElem_cons_zero]
  refine wpAnyH_take (i := 41) (v := ?_) rfl (by kernel_rfl) (by kernel_rfl) (by kernel_rfl) (fun _ _ _ h => h) (Or.inl ⟨by rfl, ?_⟩) (by assumption) ?_
  rotate_left
  · intro w' hSw
    try dsimp only at hSw
    go_simp
    try with_reducible rfl
  try simp only [Act.put, List.setIfInBounds_toArray, List.set_cons_zero, List.set_cons_succ, List.getElem_toArray, List.getElem_cons_succ, List.getElem_cons_zero]
  refine wpAnyH_take (i := 42) (v := ?_) rfl (by kernel_rfl) (by kernel_rfl) (by kernel_rfl) (fun _ _ _ h => h) (Or.inl ⟨by rfl, ?_⟩) (by assumption) ?_
  rotate_left
  · intro w' hSw
    try dsimp only at hSw
    go_simp
    try with_reducible rfl
  try simp only [Act.put, List.setIfInBounds_toArray, List.set_cons_zero, List.set_cons_succ, List.getElem_toArray, List.getElem_cons_succ, List.getElem_cons_zero]
  refine wpAnyH_take (i := 43) (v := ?_) rfl (by kernel_rfl) (by kernel_rfl) (by kernel_rfl) (fun _ _ _ h => h) (Or.inl ⟨by rfl, ?_⟩) (by assumption) ?_
  rotate_left
  · intro w' hSw
    try dsimp only at hSw
    go_simp
    try with_reducible rfl
  try simp only [Act.put, List.setIfInBounds_toArray, List.set_cons_zero, List.set_cons_succ, List.getElem_toArray, List.getElem_cons_succ, List.getElem_cons_zero]
  refine wpAnyH_take (i := 44) (v := ?_) rfl (by kernel_rfl) (by kernel_rfl) (by kernel_rfl) (fun _ _ _ h => h) (Or.inl ⟨by rfl, ?_⟩) (by assumption) ?_
  rotate_left
  · intro w' hSw
    try dsimp only at hSw
    go_simp
    try with_reducible rfl
  try simp only [Act.put, List.setIfInBounds_toArray, List.set_cons_zero, List.set_cons_succ, List.getElem_toArray, List.getElem_cons_succ, List.getElem_cons_zero]
  refine wpAnyH_ready (rs := [45]) (by kernel_rfl) (by simp) ?_
  refine AllReadyH.cons rfl (fun K hK => ?_) AllReadyH.nil
  go_simp
  have hzN := hz.step ((Ext.refl _).alloc (.cells #[.int .u64 1, .int .u64 0, .int .i64 0, .int .u64 3, .int .u64 0, .int .i64 1, .int .u64 5, .int .u64 0, .int .i64 2] 49))
  clear hHeld
  refine hK.out _ _ (HCL.out _ _ hzN) (fun hHeld => ?_)
  clear hK K
  try simp only [Act.put, List.setIfInBounds_toArray, List.set_cons_zero, List.set_cons_succ, List.getElem_toArray, List.getElem_cons_succ, List.getElem_cons_zero]
  refine wpAnyH_ready (rs := [46]) (by kernel_rfl) (by simp) ?_
  refine AllReadyH.cons rfl (fun K hK => ?_) AllReadyH.nil
  go_simp
  go_at_call 16
  refine (sameC (M := [((1, 0), 0), ((3, 0), 1), ((5, 0), 2)]) (cs := #[.int .u64 1, .int .u64 0, .int .i64 0, .int .u64 3, .int .u64 0, .int .i64 1, .int .u64 5, .int .u64 0, .int .i64 2]) (n := 3) (HV8.out _) hz c135 nc135 le3).mono ?_
  rintro e w7 ⟨rfl, hz⟩
  clear hHeld
  refine hK.out _ _ (HCL.out _ _ hz) (fun hHeld => ?_)
  clear hK K
  try simp only [Act.put, List.setIfInBounds_toArray, List.set_cons_zero, List.set_cons_succ, List.getElem_toArray, List.getElem_cons_succ, List.getElem_cons_zero]
  clear hzN
  refine wpAnyH_take (i := 47) (v := ?_) rfl (by kernel_rfl) (by kernel_rfl) (by kernel_rfl) (fun _ _ _ h => h) (Or.inl ⟨by rfl, ?_⟩) (by assumption) ?_
  rotate_left
  · intro w' hSw
    try dsimp only at hSw
    go_simp
    try with_reducible rfl
  try simp only [Act.put, List.setIfInBounds_toArray, List.set_cons_zero, List.set_cons_succ, List.getElem_toArray, List.getElem_cons_succ, List.getElem_cons_zero]
  refine wpAnyH_take (i := 48) (v := ?_) rfl (by kernel_rfl) (by kernel_rfl) (by kernel_rfl) (fun _ _ _ h => h) (Or.inl ⟨by rfl, ?_⟩) (by assumption) ?_
  rotate_left
  · intro w' hSw
    try dsimp only at hSw
    go_simp
    try with_reducible rfl
  try simp only [Act.put, List.setIfInBounds_toArray, List.set_cons_zero, List.set_cons_succ, List.getElem_toArray, List.getElem_cons_succ, List.getElem_cons_zero]
  refine wpAnyH_take (i := 49) (v := ?_) rfl (by kernel_rfl) (by kernel_rfl) (by kernel_rfl) (fun _ _ _ h => h) (Or.inl ⟨by rfl, ?_⟩) (by assumption) ?_
  rotate_left
  · intro w' hSw
    try dsimp only at hSw
    go_simp
    try with_reducible rfl
  try simp only [Act.put, List.setIfInBounds_toArray, List.set_cons_zero, List.set_cons_succ, List.getElem_toArray, List.getElem_cons_succ, List.getElem_cons_zero]
  refine wpAnyH_take (i := 50) (v := ?_) rfl (by kernel_rfl) (by kernel_rfl) (by kernel_rfl) (fun _ _ _ h => h) (Or.inl ⟨by rfl, ?_⟩) (by assumption) ?_
  rotate_left
  · intro w' hSw
    try dsimp only at hSw
    go_simp
    try with_reducible rfl
  try simp only [Act.put, List.setIfInBounds_toArray, List.set_cons_zero, List.set_cons_succ, List.getElem_toArray, List.getElem_cons_succ, List.getElem_cons_zero]
  refine wpAnyH_take (i := 51) (v := ?_) rfl (by kernel_rfl) (by kernel_rfl) (by kernel_rfl) (fun _ _ _ h => h) (Or.inl ⟨by rfl, ?_⟩) (by assumption) ?_
  rotate_left
  · intro w' hSw
    try dsimp only at hSw
    go_simp
    try with_reducible rfl
  try simp only [Act.put, List.setIfInBounds_toArray, List.set_cons_zero, List.set_cons_succ, List.getElem_toArray, List.getElem_cons_succ, List.getElem_cons_zero]
  refine wpAnyH_take (i := 52) (v := ?_) rfl (by kernel_rfl) (by kernel_rfl) (by kernel_rfl) (fun _ _ _ h => h) (Or.inl ⟨by rfl, ?_⟩) (by assumption) ?_
  rotate_left
  · intro w' hSw
    try dsimp only at hSw
    go_simp
    try with_reducible rfl
  try simp only [Act.put, List.setIfInBounds_toArray, List.set_cons_zero, List.set_cons_succ, List.getElem_toArray, List.getElem_cons_succ, List.getElem_cons_zero]
  refine wpAnyH_take (i := 53) (v := ?_) rfl (by kernel_rfl) (by kernel_rfl) (by kernel_rfl) (fun _ _ _ h => h) (Or.inl ⟨by rfl, ?_⟩) (by assumption) ?_
  rotate_left
  · intro w' hSw
    try dsimp only at hSw
    go_simp
    try with_reducible rfl
  try simp only [Act.put, List.setIfInBounds_toArray, List.set_cons_zero, List.set_cons_succ, List.getElem_toArray, List.getElem_cons_succ, List.getElem_cons_zero]
  refine wpAnyH_take (i := 54) (v := ?_) rfl (by kernel_rfl) (by kernel_rfl) (by kernel_rfl) (fun _ _ _ h => h) (Or.inl ⟨by rfl, ?_⟩) (by assumption) ?_
  rotate_left
  · intro w' hSw
    try dsimp only at hSw
    go_simp
    try with_reducible rfl
  try simp only [Act.put, List.setIfInBounds_toArray, List.set_cons_zero, List.set_cons_succ, List.getElem_toArray, List.getElem_cons_succ, List.getElem_cons_zero]
  refine wpAnyH_take (i := 55) (v := ?_) rfl (by kernel_rfl) (by kernel_rfl) (by kernel_rfl) (fun _ _ _ h => h) (Or.inl ⟨by rfl, ?_⟩) (by assumption) ?_
  rotate_left
  · intro w' hSw
    try dsimp only at hSw
    go_simp
    try with_reducible rfl
  try simp only [Act.put, List.setIfInBounds_toArray, List.set_cons_zero, List.set_cons_succ, List.getElem_toArray, List.getElem_cons_succ, List.getElem_cons_zero]
  refine wpAnyH_take (i := 56) (v := ?_) rfl (by kernel_rfl) (by kernel_rfl) (by kernel_rfl) (fun _ _ _ h => h) (Or.inl ⟨by rfl, ?_⟩) (by assumption) ?_
  rotate_left
  · intro w' hSw
    try dsimp only at hSw
    go_simp
    try with_reducible rfl
  try simp only [Act.put, List.setIfInBounds_toArray, List.set_cons_zero, List.set_cons_succ, List.getElem_toArray, List.getElem_cons_succ, List.getElem_cons_zero]
  refine wpAnyH_take (i := 58) (v := ?_) rfl (by kernel_rfl) (by kernel_rfl) (by kernel_rfl) (fun _ _ _ h => h) (Or.inl ⟨by rfl, ?_⟩) (by assumption) ?_
  rotate_left
  · intro w' hSw
    try dsimp only at hSw
    go_simp
    try with_reducible rfl
  try simp only [Act.put, List.setIfInBounds_toArray, List.set_cons_zero, List.set_cons_succ, List.getElem_toArray, List.getElem_cons_succ, List.getElem_cons_zero]
  clear hHeld
  apply wk_join
  · intro J
    refine wpAnyH_ready (rs := [57, 59]) (by kernel_rfl) (by simp) ?_
    refine AllReadyH.cons rfl (fun K hK => ?_) (AllReadyH.cons rfl (fun K hK => ?_) AllReadyH.nil)
    · go_simp
      go_at_call 13
      refine (own_take' (M := [((1, 0), 0)]) (E' := [((3, 0), 1), ((5, 0), 2)]) (at' := 1) (n := 9) rise0 nn0 (by decide) (by decide) (by decide) (by decide) hz).mono ?_
      rintro e w6 ⟨v9, rfl, hz2⟩
      refine hK.out _ _ (HCL.out _ _ (Own.drop hz2)) (fun hHeld => ?_)
      clear hK K
      try simp only [Act.put, List.setIfInBounds_toArray, List.set_cons_zero, List.set_cons_succ, List.getElem_toArray, List.getElem_cons_succ, List.getElem_cons_zero]
      refine wpAnyH_ready (rs := [59]) (by kernel_rfl) (by simp) ?_
      refine AllReadyH.cons rfl (fun K hK => ?_) AllReadyH.nil
      go_simp
      have hz3 := (Go.Proofs.Ytekdahppacghbab.Own.blkNew hz2 #[.int .u64 1, .int .u64 0, .int .i64 0] 49).third.third
      clear hHeld
      refine hK.out _ _ (HCL.out _ _ (Own.drop (Own.drop hz3))) (fun hHeld => ?_)
      clear hK K
      try simp only [Act.put, List.setIfInBounds_toArray, List.set_cons_zero, List.set_cons_succ, List.getElem_toArray, List.getElem_cons_succ, List.getElem_cons_zero]
      clear hHeld hz2
      obtain ⟨W, hW⟩ : ∃ W, W = w6.alloc (.cells #[.int .u64 1, .int .u64 0, .int .i64 0] 49) := ⟨_, rfl⟩
      rw [← hW] at hz3 ⊢
      obtain ⟨c, hc⟩ : ∃ c, c = w6.heap.size := ⟨_, rfl⟩
      rw [← hc] at hz3 ⊢
      clear hW hc
      revert v9 W c hz3
      exact J
    · go_simp
      have hz4 := (Go.Proofs.Ytekdahppacghbab.Own.blkNew hz #[.int .u64 1, .int .u64 0, .int .i64 0] 49).swap
      refine hK.out _ _ (HCL.out _ _ (Own.drop hz4)) (fun hHeld => ?_)
      clear hK K
      try simp only [Act.put, List.setIfInBounds_toArray, List.set_cons_zero, List.set_cons_succ, List.getElem_toArray, List.getElem_cons_succ, List.getElem_cons_zero]
      refine wpAnyH_ready (rs := [57]) (by kernel_rfl) (by simp) ?_
      refine AllReadyH.cons rfl (fun K hK => ?_) AllReadyH.nil
      go_simp
      go_at_call 13
      refine (own_take' (M := [((1, 0), 0)]) (E' := [((3, 0), 1), ((5, 0), 2)]) (at' := 1) (n := 9) rise0 nn0 (by decide) (by decide) (by decide) (by decide) hz4).mono ?_
      rintro e w6 ⟨v9, rfl, hz5⟩
      clear hHeld
      refine hK.out _ _ (HCL.out _ _ (Own.drop (Own.drop hz5))) (fun hHeld => ?_)
      clear hK K
      try simp only [Act.put, List.setIfInBounds_toArray, List.set_cons_zero, List.set_cons_succ, List.getElem_toArray, List.getElem_cons_succ, List.getElem_cons_zero]
      refine wk_same ?_ (J _ _ _ hz5)
      kernel_rfl
  intro v9 W c hzJ
  have hHeld := HCL.out _ _ (Own.drop (Own.drop hzJ))
  refine wpAnyH_ready (rs := [60]) (by kernel_rfl) (by simp) ?_
  refine AllReadyH.cons rfl (fun K hK => ?_) AllReadyH.nil
  go_simp
  go_at_call 16
  refine (sameA (M := [((1, 0), 0)]) (cs := #[.int .u64 1, .int .u64 0, .int .i64 0]) (n := 1) hzJ cx1 nc1 le1).mono ?_
  rintro e w7 ⟨rfl, hz⟩
  clear hHeld
  refine hK.out _ _ (HCL.out _ _ hz) (fun hHeld => ?_)
  clear hK K
  try simp only [Act.put, List.setIfInBounds_toArray, List.set_cons_zero, List.set_cons_succ, List.getElem_toArray, List.getElem_cons_succ, List.getElem_cons_zero]
  clear hzJ
  refine wpAnyH_take (i := 61) (v := ?_) rfl (by kernel_rfl) (by kernel_rfl) (by kernel_rfl) (fun _ _ _ h => h) (Or.inl ⟨by rfl, ?_⟩) (by assumption) ?_
  rotate_left
  · intro w' hSw
    try dsimp only at hSw
    go_simp
    try with_reducible rfl
  try simp only [Act.put, List.setIfInBounds_toArray, List.set_cons_zero, List.set_cons_succ, List.getElem_toArray, List.getElem_cons_succ, List.getElem_cons_zero]
  refine wpAnyH_take (i := 62) (v := ?_) rfl (by kernel_rfl) (by kernel_rfl) (by kernel_rfl) (fun _ _ _ h => h) (Or.inl ⟨by rfl, ?_⟩) (by assumption) ?_
  rotate_left
  · intro w' hSw
    try dsimp only at hSw
    go_simp
    try with_reducible rfl
  try simp only [Act.put, List.setIfInBounds_toArray, List.set_cons_zero, List.set_cons_succ, List.getElem_toArray, List.getElem_cons_succ, List.getElem_cons_zero]
  refine wpAnyH_take (i := 63) (v := ?_) rfl (by kernel_rfl) (by kernel_rfl) (by kernel_rfl) (fun _ _ _ h => h) (Or.inl ⟨by rfl, ?_⟩) (by assumption) ?_
  rotate_left
  · intro w' hSw
    try dsimp only at hSw
    go_simp
    try with_reducible rfl
  try simp only [Act.put, List.setIfInBounds_toArray, List.set_cons_zero, List.set_cons_succ, List.getElem_toArray, List.getElem_cons_succ, List.getElem_cons_zero]
  refine wpAnyH_ready (rs := [64]) (by kernel_rfl) (by simp) ?_
  refine AllReadyH.cons rfl (fun K hK => ?_) AllReadyH.nil
  go_simp
  go_at_call 33
  refine (own_len' (n := 2) hz nc35).mono ?_
  rintro e w7 ⟨rfl, rfl⟩
  clear hHeld
  refine hK.out _ _ (HCL.out _ _ hz) (fun hHeld => ?_)
  clear hK K
  try simp only [Act.put, List.setIfInBounds_toArray, List.set_cons_zero, List.set_cons_succ, List.getElem_toArray, List.getElem_cons_succ, List.getElem_cons_zero]
  refine wpAnyH_take (i := 65) (v := ?_) rfl (by kernel_rfl) (by kernel_rfl) (by kernel_rfl) (fun _ _ _ h => h) (Or.inl ⟨by rfl, ?_⟩) (by assumption) ?_
  rotate_left
  · intro w' hSw
    try dsimp only at hSw
    go_simp
    try with_reducible rfl
  try simp only [Act.put, List.setIfInBounds_toArray, List.set_cons_zero, List.set_cons_succ, List.getElem_toArray, List.getElem_cons_succ, List.getElem_cons_zero]
  refine wpAnyH_take (i := 66) (v := ?_) rfl (by kernel_rfl) (by kernel_rfl) (by kernel_rfl) (fun _ _ _ h => h) (Or.inl ⟨by rfl, ?_⟩) (by assumption) ?_
  rotate_left
  · intro w' hSw
    try dsimp only at hSw
    go_simp
    try with_reducible rfl
  try simp only [Act.put, List.setIfInBounds_toArray, List.set_cons_zero, List.set_cons_succ, List.getElem_toArray, List.getElem_cons_succ, List.getElem_cons_zero]
  refine wpAnyH_take (i := 67) (v := ?_) rfl (by kernel_rfl) (by kernel_rfl) (by kernel_rfl) (fun _ _ _ h => h) (Or.inl ⟨by rfl, ?_⟩) (by assumption) ?_
  rotate_left
  · intro w' hSw
    try dsimp only at hSw
    go_simp
    try with_reducible rfl
  try simp only [Act.put, List.setIfInBounds_toArray, List.set_cons_zero, List.set_cons_succ, List.getElem_toArray, List.getElem_cons_succ, List.getElem_cons_zero]
  refine wpAnyH_done (by kernel_rfl) ?_ _
  go_wp2_with fail
  go_ret
  exact ⟨rfl, HLL.out _ (Own.drop hz)⟩
end Go.Proofs.Ytekdahppacghbab.Wk
