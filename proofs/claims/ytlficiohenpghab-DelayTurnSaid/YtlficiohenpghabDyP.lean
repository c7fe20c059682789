/- DERIVED. Layer 19 (delay): the law DelayTurn. Written by wip/mkdyp.py. -/
import Derived.Test.YtlficiohenpghabDyO
set_option linter.unusedVariables false
set_option linter.unusedSimpArgs false
set_option maxRecDepth 100000
namespace Go.Proofs.Ytlficiohenpghab.Dy
open Go.RowKit Go.Maps Go.Proofs.Ytlficiohenpghab Go.Proofs.Ytlficiohenpghab.TreeP Go.Proofs.Ytlficiohenpghab.Tr Go.Proofs.Ytlficiohenpghab.Wk

theorem infoU8 : (Try.prog.info? 5).map (fun i => (i.zero, i.size, i.bytes)) = some (some (.int .u8 0), 1, 1) := by kernel_rfl
def u8s (B : List Nat) : List Value := B.map fun x : Nat => .int .u8 (x : Int)
theorem u8s_one (B : List Nat) : ∀ u ∈ u8s B, u.oneCell' = true := by
  intro u hu
  unfold u8s at hu
  rw [List.mem_map] at hu
  obtain ⟨x, -, rfl⟩ := hu
  rfl
theorem u8s_len (B : List Nat) : (u8s B).length = B.length := List.length_map _
/-- append of what may be nil, in a region that draws its order -/
theorem held_app_may {P : Program} {ops : Array Oper} {E : Prop} {o : Oper} {a : Act} {K : Act → World → Prop} {Q : Exit → Act → World → Prop} (w : World) (hgd : o.guard = none) (s x : Operand) (t e : TypeId) (z : Value) (size bytes : Nat)
    (ho : o.op = .call { callee := .builtin .append, args := #[s, x], argTypes := #[t, t] })
    (ht : P.underlying t = some (.slice e)) (hinfo : (P.info? e).map (fun i => (i.zero, i.size, i.bytes)) = some (some z, size, bytes)) (hz : z.cells.size = size) (hs0 : 0 < size)
    (v : Value) (n : Nat) (xs : List Value) (hs : a.eval s = v) (ad : Option Addr) (m c : Nat) (ys : List Value) (hx : a.eval x = .slice ad m c) (hys : ys.length = m * size)
    (hnews : 0 < m → ∃ d, ad = some d ∧ ∀ j u, ys[j]? = some u → w.cell? (d.add j) = some u) (h1 : ∀ u ∈ ys, u.oneCell' = true)
    (HO : ownsR w e size v n xs) (hl : n + m ≤ maxLen) (hl2 : (n + m) * bytes ≤ 140737488355328)
    (h : ∀ v1 w1, ownsR w1 e size v1 (n + m) (xs ++ ys) → w.grownBy w1 v.ownBlock → Moved w v v1 → K (a.put o.dst v1) w1) :
    if Region.wanted o (yielded ops a.tmps) = true then Oper.wp P o a w K Q else E := by
  cases ad with
  | some d =>
    refine step_app_R w hgd s x t e z size bytes ho ht hinfo hz hs0 v n xs hs d m c ys hx hys (fun j u hj => ?_) h1 HO hl hl2 h
    by_cases hm : 0 < m
    · obtain ⟨d', hd, hd2⟩ := hnews hm
      injection hd with hd
      subst hd
      exact hd2 j u hj
    · obtain rfl : m = 0 := by omega
      rw [Nat.zero_mul] at hys
      rw [List.length_eq_zero_iff.1 hys] at hj
      simp at hj
  | none =>
    obtain rfl : m = 0 := by
      by_cases hm : 0 < m
      · obtain ⟨d', hd, _⟩ := hnews hm
        cases hd
      · omega
    rw [Nat.zero_mul] at hys
    have hy := List.length_eq_zero_iff.1 hys
    subst hy
    have hw : Region.wanted o (yielded ops a.tmps) = true := by simp [Region.wanted, hgd]
    rw [if_pos hw]
    obtain ⟨i0, hi, hzz⟩ := Option.map_eq_some_iff.1 hinfo
    have hr : (Builtin.append_ #[t, t] o.type #[v, .slice none 0 c]).run P w = .ok v w := by
      rcases HO.2 with ⟨rfl, rfl⟩ | ⟨g, cap, cur, rfl, hg, hnc, hcm, hcs, htake⟩
      · simp [Builtin.append_, run_underlying ht, sizeOf, typeInfo, hi, Builtin.lenOf, Builtin.firstCells, loadCells, loadCellsFrom]
      · simp [Builtin.append_, run_underlying ht, sizeOf, typeInfo, hi, Builtin.lenOf, Builtin.firstCells, loadCells, loadCellsFrom, hnc, storeCells]
    unfold Oper.wp execOp
    simp only [ho, resolve, invoke, builtin, Sem.run_bind, Sem.run_pure, Result.andThen_ok, List.map_toArray, List.map_cons, List.map_nil, hs, hx, hr]
    exact h v w (by simpa using HO) (World.grownBy.refl _ _) (.inl rfl)
/-- a list that is written out with nothing in it -/
theorem Own.asRow {e size k : Nat} {l : List HP} {w : World} (h : Own (Go.Proofs.Ytlficiohenpghab.Blk k #[] e :: l) w) : Own (Row e size (.slice (some ⟨k, 0, none⟩) 0 0) 0 [] :: l) w := by
  have hb := Go.Proofs.Ytlficiohenpghab.Own.blk h (.head _)
  obtain ⟨U, s, V, hP, hl, hd, hU⟩ := h
  refine ⟨U, s, V, ⟨⟨by simp, .inr ⟨k, 0, #[], rfl, Nat.zero_le _, hb, Nat.le_refl _, Nat.zero_le _, by simp, by simp⟩⟩, fun b => ?_⟩, hl, hd, hU⟩
  rw [hP.2 b]
  simp [Value.ownBlock]
  exact eq_comm
theorem DO.blkNew {p n q : Nat} {E : List En} {l : List HP} {w : World} (h : DO p n q E l w) (cs : Array Value) (t : TypeId) : DO p n q E (Go.Proofs.Ytlficiohenpghab.Blk w.heap.size cs t :: l) (w.alloc (.cells cs t)) := by
  obtain ⟨t1, b, m, D, h1, h2⟩ := h
  exact ⟨t1, b, m, D, (Go.Proofs.Ytlficiohenpghab.Own.blkNew h1 cs t).back4, h2⟩
theorem DO.nilRow {p n q : Nat} {E : List En} {l : List HP} {w : World} (h : DO p n q E l w) (e : TypeId) (size : Nat) : DO p n q E (RowR e size (.slice none 0 0) 0 [] :: l) w := by
  obtain ⟨t1, b, m, D, h1, h2⟩ := h
  exact ⟨t1, b, m, D, (h1.nilRowR e size).back4, h2⟩
/-- bytes that came in, their beginning -/
theorem bytes_beg {w w' : World} {a : Option Addr} {n c : Nat} {B : List Nat} (hB : Bytes w (.slice a n c) B) (m : Nat) (hx : Ext w w') : 0 < min B.length m → ∃ d, a = some d ∧ ∀ j u, (u8s (B.take m))[j]? = some u → w'.cell? (d.add j) = some u := fun hp => by
  obtain ⟨a', c', e, b1, b2, b3⟩ := hB
  injection e with e1 _ _
  subst e1
  obtain ⟨b, off, rfl, hb, hc⟩ := b3 (by omega)
  refine ⟨_, rfl, fun j u hj => ?_⟩
  unfold u8s at hj
  rw [List.getElem?_map, Option.map_eq_some_iff] at hj
  obtain ⟨x, hx', rfl⟩ := hj
  rw [List.getElem?_take] at hx'
  split at hx'
  · have := hx.cell (hc j x hx').2
    unfold Addr.add
    split
    · subst_vars; simpa using this
    · exact this
  · cases hx'
theorem bytes_le {w : World} {v : Value} {B : List Nat} (hB : Bytes w v B) : ∀ x ∈ B, x ≤ 255 := fun x hx => by
  obtain ⟨a', c', e, b1, b2, b3⟩ := hB
  obtain ⟨b, off, -, -, hc⟩ := b3 (List.length_pos_of_mem hx)
  obtain ⟨j, hj⟩ := List.getElem?_of_mem hx
  exact (hc j x hj).1
set_option maxHeartbeats 8000000 in
theorem turn_row (v1 v2 : Value) (A : Int) (B1 B2 : List Nat) (wfA : (Lit.int .u64 A).wf = true) (w : World) (hB1 : Bytes w v1 B1) (hB2 : Bytes w v2 B2) :
    Calls Try.prog 5 #[v1, v2, .int .u64 A] w fun e w' => e = .returned (.bool true) ∧ Ext w w' := by
  obtain ⟨a1, c1, rfl, k1, k2⟩ : ∃ a c, v1 = .slice a B1.length c ∧ B1.length ≤ c ∧ c ≤ maxLen := by obtain ⟨a, c, e, h1, h2, _⟩ := hB1; exact ⟨a, c, e, h1, h2⟩
  obtain ⟨a2, c2, rfl, k3, k4⟩ : ∃ a c, v2 = .slice a B2.length c ∧ B2.length ≤ c ∧ c ≤ maxLen := by obtain ⟨a, c, e, h1, h2, _⟩ := hB2; exact ⟨a, c, e, h1, h2⟩
  have h5 : Own [Go.Proofs.Ytlficiohenpghab.Blk w.heap.size #[.int .u64 A] 33, Old w] (w.alloc (.cells #[.int .u64 A] 33)) := Go.Proofs.Ytlficiohenpghab.Own.blkNew (Own.start w) _ _
  obtain ⟨b5, hb5⟩ : ∃ b, b = w.heap.size := ⟨_, rfl⟩
  rw [← hb5] at h5
  have HN := Lib.hid (own_new 12 (by omega) (by omega) h5)
  have HA : Hid (0 ≤ A ∧ A < 18446744073709551616) := Lib.hid (by have := u64_bd wfA; omega)
  have HB5 := Lib.hid hb5
  have HBA := Lib.hid hB1
  have HBB := Lib.hid hB2
  obtain ⟨n1, hn1⟩ : ∃ n, n = B1.length := ⟨_, rfl⟩
  obtain ⟨n2, hn2⟩ : ∃ n, n = B2.length := ⟨_, rfl⟩
  rw [← hn1] at HBA k1 ⊢
  rw [← hn2] at HBB k3 ⊢
  obtain ⟨M1, hM1⟩ : ∃ M : Nat, M = min n1 40 := ⟨_, rfl⟩
  obtain ⟨M2, hM2⟩ : ∃ M : Nat, M = min n2 40 := ⟨_, rfl⟩
  have m1 : (if (40 : Int) < (n1 : Int) then (40 : Int) else (n1 : Int)) = (M1 : Int) := by split <;> omega
  have m2 : (if (40 : Int) < (n2 : Int) then (40 : Int) else (n2 : Int)) = (M2 : Int) := by split <;> omega
  unfold maxLen at k2 k4
  have m3 : (M1 : Int) ≤ (c1 : Int) := by omega
  have m4 : (M2 : Int) ≤ (c2 : Int) := by omega
  have m5 : M1 ≤ 40 := by omega
  have m6 : M2 ≤ 40 := by omega
  have HY1 : Hid ((u8s (B1.take 40)).length = M1 * 1) := Lib.hid (by rw [u8s_len, List.length_take]; omega)
  have HY2 : Hid ((u8s (B2.take 40)).length = M2 * 1) := Lib.hid (by rw [u8s_len, List.length_take]; omega)
  have HN1 : Hid (∀ w', Ext w w' → 0 < M1 → ∃ d, a1 = some d ∧ ∀ j u, (u8s (B1.take 40))[j]? = some u → w'.cell? (d.add j) = some u) := Lib.hid fun w' hx hp => bytes_beg HBA.out 40 hx (by omega)
  have HN2 : Hid (∀ w', Ext w w' → 0 < M2 → ∃ d, a2 = some d ∧ ∀ j u, (u8s (B2.take 40))[j]? = some u → w'.cell? (d.add j) = some u) := Lib.hid fun w' hx hp => bytes_beg HBB.out 40 hx (by omega)
  have HLE : Hid (∀ x ∈ B1.take 40 ++ B2.take 40, x ≤ 255) := Lib.hid fun x hx => by
    rcases List.mem_append.1 hx with hx | hx
    · exact bytes_le HBA.out x (List.mem_of_mem_take hx)
    · exact bytes_le HBB.out x (List.mem_of_mem_take hx)
  clear h5 hb5 wfA hB1 hB2 hn1 hn2 hM1 hM2 HBA HBB k1 k2 k3 k4
  go_enter Try.func5, Try.ntmps5
  go_wp2_with fail
  rw [← HB5.out]
  refine (HN.out).mono ?_
  rintro e w1 ⟨p, rfl, h1⟩
  have h2 := (h1.blkNew #[.pointer (some ⟨p, 0, none⟩)] 23).blkNew #[.slice none 0 0] 40
  rw [World.size_alloc] at h2
  obtain ⟨b7, hb7⟩ : ∃ b, b = w1.heap.size := ⟨_, rfl⟩
  obtain ⟨W3, hW3⟩ : ∃ W3, (w1.alloc (.cells #[.pointer (some ⟨p, 0, none⟩)] 23)).alloc (.cells #[.slice none 0 0] 40) = W3 := ⟨_, rfl⟩
  rw [← hb7, hW3] at h2
  obtain ⟨b9, hb9⟩ : ∃ b, b = b7 + 1 := ⟨_, rfl⟩
  rw [← hb9] at h2
  have h3 : DO p 12 0 [] (RI (.slice none 0 0) [] :: B9 b9 (.slice none 0 0) :: [Go.Proofs.Ytlficiohenpghab.Blk b7 #[.pointer (some ⟨p, 0, none⟩)] 23, Go.Proofs.Ytlficiohenpghab.Blk b5 #[.int .u64 A] 33, Old w]) W3 := h2.nilRow 3 1
  have H3 := Lib.hid h3
  have HB7 := Lib.hid hb7
  have HB9 := Lib.hid hb9
  have HW3 := Lib.hid hW3
  clear h1 h2 h3 hb7 hb9 hW3 HN
  go_upto_region 6 with fail
  rw [HW3.out, ← HB7.out, ← HB9.out]
  have hd := (H3.out.blkNew #[] 5).step (Ext.refl _).drew
  have HX5 : Hid (Ext w (W3.alloc (.cells #[] 5)).drew) := Lib.hid (hd.rest.ext (.tail _ (.tail _ (.tail _ (.tail _ (.tail _ (.head _)))))))
  obtain ⟨k20, hk20⟩ : ∃ k, k = W3.heap.size := ⟨_, rfl⟩
  rw [← hk20] at hd
  obtain ⟨Zd, hzd, hbackd⟩ := hd.open
  have hz0 := (Own.asRow (size := 1) hzd).toR
  have HBD := Lib.hid hbackd
  have HK20 := Lib.hid hk20
  clear hd hzd hbackd HW3 hk20
  refine wp_region_held_drew (S := fun w' => True) (by kernel_rfl) trivial (fun hHeld => ?_)
  refine wpAnyH_take (i := 1) (v := ?_) rfl (by kernel_rfl) (by kernel_rfl) (by kernel_rfl) (fun _ _ _ h => h) (Or.inl ⟨by rfl, ?_⟩) (by first | assumption | trivial) ?_
  rotate_left
  · intro w' hSw
    try dsimp only at hSw
    go_split_ands
    go_simp
    try with_reducible rfl
  try simp only [Act.put, List.setIfInBounds_toArray, List.set_cons_zero, List.set_cons_succ, List.getElem_toArray, List.getElem_cons_succ, List.getElem_cons_zero]
  refine wpAnyH_take (i := 2) (v := ?_) rfl (by kernel_rfl) (by kernel_rfl) (by kernel_rfl) (fun _ _ _ h => h) (Or.inl ⟨by rfl, ?_⟩) (by first | assumption | trivial) ?_
  rotate_left
  · intro w' hSw
    try dsimp only at hSw
    go_split_ands
    go_simp
    try with_reducible rfl
  try simp only [Act.put, List.setIfInBounds_toArray, List.set_cons_zero, List.set_cons_succ, List.getElem_toArray, List.getElem_cons_succ, List.getElem_cons_zero]
  refine wpAnyH_take (i := 3) (v := ?_) rfl (by kernel_rfl) (by kernel_rfl) (by kernel_rfl) (fun _ _ _ h => h) (Or.inl ⟨by rfl, ?_⟩) (by first | assumption | trivial) ?_
  rotate_left
  · intro w' hSw
    try dsimp only at hSw
    go_split_ands
    go_simp
    try with_reducible rfl
  try simp only [Act.put, List.setIfInBounds_toArray, List.set_cons_zero, List.set_cons_succ, List.getElem_toArray, List.getElem_cons_succ, List.getElem_cons_zero]
  refine wpAnyH_take (i := 4) (v := ?_) rfl (by kernel_rfl) (by kernel_rfl) (by kernel_rfl) (fun _ _ _ h => h) (Or.inl ⟨by rfl, ?_⟩) (by first | assumption | trivial) ?_
  rotate_left
  · intro w' hSw
    try dsimp only at hSw
    go_split_ands
    go_simp
    try with_reducible rfl
  try simp only [Act.put, List.setIfInBounds_toArray, List.set_cons_zero, List.set_cons_succ, List.getElem_toArray, List.getElem_cons_succ, List.getElem_cons_zero]
  refine wpAnyH_take (i := 5) (v := ?_) rfl (by kernel_rfl) (by kernel_rfl) (by kernel_rfl) (fun _ _ _ h => h) (Or.inl ⟨by rfl, ?_⟩) (by first | assumption | trivial) ?_
  rotate_left
  · intro w' hSw
    try dsimp only at hSw
    go_split_ands
    go_simp
    try with_reducible rfl
  try simp only [Act.put, List.setIfInBounds_toArray, List.set_cons_zero, List.set_cons_succ, List.getElem_toArray, List.getElem_cons_succ, List.getElem_cons_zero]
  refine wpAnyH_take (i := 7) (v := ?_) rfl (by kernel_rfl) (by kernel_rfl) (by kernel_rfl) (fun _ _ _ h => h) (Or.inl ⟨by rfl, ?_⟩) (by first | assumption | trivial) ?_
  rotate_left
  · intro w' hSw
    try dsimp only at hSw
    go_split_ands
    go_simp
    try with_reducible rfl
  try simp only [Act.put, List.setIfInBounds_toArray, List.set_cons_zero, List.set_cons_succ, List.getElem_toArray, List.getElem_cons_succ, List.getElem_cons_zero]
  refine wpAnyH_take (i := 8) (v := ?_) rfl (by kernel_rfl) (by kernel_rfl) (by kernel_rfl) (fun _ _ _ h => h) (Or.inl ⟨by rfl, ?_⟩) (by first | assumption | trivial) ?_
  rotate_left
  · intro w' hSw
    try dsimp only at hSw
    go_split_ands
    go_simp
    try with_reducible rfl
  try simp only [Act.put, List.setIfInBounds_toArray, List.set_cons_zero, List.set_cons_succ, List.getElem_toArray, List.getElem_cons_succ, List.getElem_cons_zero]
  refine wpAnyH_take (i := 9) (v := ?_) rfl (by kernel_rfl) (by kernel_rfl) (by kernel_rfl) (fun _ _ _ h => h) (Or.inl ⟨by rfl, ?_⟩) (by first | assumption | trivial) ?_
  rotate_left
  · intro w' hSw
    try dsimp only at hSw
    go_split_ands
    go_simp
    try with_reducible rfl
  try simp only [Act.put, List.setIfInBounds_toArray, List.set_cons_zero, List.set_cons_succ, List.getElem_toArray, List.getElem_cons_succ, List.getElem_cons_zero]
  refine wpAnyH_take (i := 10) (v := ?_) rfl (by kernel_rfl) (by kernel_rfl) (by kernel_rfl) (fun _ _ _ h => h) (Or.inl ⟨by rfl, ?_⟩) (by first | assumption | trivial) ?_
  rotate_left
  · intro w' hSw
    try dsimp only at hSw
    go_split_ands
    go_simp
    try with_reducible rfl
  try simp only [Act.put, List.setIfInBounds_toArray, List.set_cons_zero, List.set_cons_succ, List.getElem_toArray, List.getElem_cons_succ, List.getElem_cons_zero]
  refine wpAnyH_take (i := 11) (v := ?_) rfl (by kernel_rfl) (by kernel_rfl) (by kernel_rfl) (fun _ _ _ h => h) (Or.inl ⟨by rfl, ?_⟩) (by first | assumption | trivial) ?_
  rotate_left
  · intro w' hSw
    try dsimp only at hSw
    go_split_ands
    go_simp
    try with_reducible rfl
  try simp only [Act.put, List.setIfInBounds_toArray, List.set_cons_zero, List.set_cons_succ, List.getElem_toArray, List.getElem_cons_succ, List.getElem_cons_zero]
  refine wpAnyH_take (i := 14) (v := ?_) rfl (by kernel_rfl) (by kernel_rfl) (by kernel_rfl) (fun _ _ _ h => h) (Or.inl ⟨by rfl, ?_⟩) (by first | assumption | trivial) ?_
  rotate_left
  · intro w' hSw
    try dsimp only at hSw
    go_split_ands
    go_simp
    try with_reducible rfl
  try simp only [Act.put, List.setIfInBounds_toArray, List.set_cons_zero, List.set_cons_succ, List.getElem_toArray, List.getElem_cons_succ, List.getElem_cons_zero]
  refine wpAnyH_ready (rs := [0]) (by kernel_rfl) (by simp) ?_
  refine AllReadyH.cons rfl (fun K hK => ?_) AllReadyH.nil
  go_simp
  refine hK.out _ _ trivial (fun hHeld2 => ?_)
  clear hK K
  try simp only [Act.put, List.setIfInBounds_toArray, List.set_cons_zero, List.set_cons_succ, List.getElem_toArray, List.getElem_cons_succ, List.getElem_cons_zero]
  rw [← HK20.out]
  have HZ0 := Lib.hid hz0
  refine wpAnyH_ready (rs := [6]) (by kernel_rfl) (by simp) ?_
  refine AllReadyH.cons rfl (fun K hK => ?_) AllReadyH.nil
  refine held_app_may _ (by rfl) _ _ _ _ _ 1 1 rfl Try.underlying55 infoU8 rfl (by omega) (.slice (some ⟨k20, 0, none⟩) 0 0) 0 (u8s ([])) rfl a1 M1 _ (u8s (B1.take 40)) rfl HY1.out (HN1.out _ HX5.out) (u8s_one _) HZ0.out.rowR (by simp only [maxLen]; omega) (by omega) ?_
  intro v26 w26 hown hgrow hmv
  have hown' : ownsR w26 5 1 v26 M1 (u8s (B1.take 40)) := by
    have h := hown
    rw [show u8s ([] : List Nat) = [] from rfl, List.nil_append] at h
    simpa using h
  have h26 := HZ0.out.rowRGrown hown' rfl hgrow hmv
  obtain ⟨va26, vc26, rfl⟩ := h26.rowR.slice
  have HZ1 := Lib.hid h26
  have HX6 : Hid (Ext w w26) := Lib.hid ((HBD.out _ _ h26).rest.ext (.tail _ (.tail _ (.tail _ (.tail _ (.tail _ (.head _)))))))
  clear hown hown' hgrow hmv h26 HZ0 HX5
  refine hK.out _ _ trivial (fun hHeld3 => ?_)
  clear hK K
  try simp only [Act.put, List.setIfInBounds_toArray, List.set_cons_zero, List.set_cons_succ, List.getElem_toArray, List.getElem_cons_succ, List.getElem_cons_zero]
  refine wpAnyH_ready (rs := [12]) (by kernel_rfl) (by simp) ?_
  refine AllReadyH.cons rfl (fun K hK => ?_) AllReadyH.nil
  refine held_app_may _ (by rfl) _ _ _ _ _ 1 1 rfl Try.underlying55 infoU8 rfl (by omega) (.slice va26 M1 vc26) M1 (u8s (B1.take 40)) rfl a2 M2 _ (u8s (B2.take 40)) rfl HY2.out (HN2.out _ HX6.out) (u8s_one _) HZ1.out.rowR (by simp only [maxLen]; omega) (by omega) ?_
  intro v32 w32 hown hgrow hmv
  have hX : u8s (B1.take 40) ++ u8s (B2.take 40) = u8s (B1.take 40 ++ B2.take 40) := by unfold u8s; rw [List.map_append]
  rw [hX] at hown
  have h32 := HZ1.out.rowRGrown hown rfl hgrow hmv
  obtain ⟨va32, vc32, rfl⟩ := h32.rowR.slice
  have hd32 := HBD.out _ _ h32
  clear hX hown hgrow hmv h32 HZ1 HX6 HBD
  refine hK.out _ _ trivial (fun hHeld4 => ?_)
  clear hK K
  try simp only [Act.put, List.setIfInBounds_toArray, List.set_cons_zero, List.set_cons_succ, List.getElem_toArray, List.getElem_cons_succ, List.getElem_cons_zero]
  refine wpAnyH_take (i := 13) (v := ?_) rfl (by kernel_rfl) (by kernel_rfl) (by kernel_rfl) (fun _ _ _ h => h) (Or.inl ⟨by rfl, ?_⟩) (by first | assumption | trivial) ?_
  rotate_left
  · intro w' hSw
    try dsimp only at hSw
    go_split_ands
    go_simp
    try with_reducible rfl
  try simp only [Act.put, List.setIfInBounds_toArray, List.set_cons_zero, List.set_cons_succ, List.getElem_toArray, List.getElem_cons_succ, List.getElem_cons_zero]
  refine wpAnyH_done (by kernel_rfl) ?_ _
  obtain ⟨X, hXX⟩ : ∃ X, X = B1.take 40 ++ B2.take 40 := ⟨_, rfl⟩
  obtain ⟨N, hN⟩ : ∃ N, N = M1 + M2 := ⟨_, rfl⟩
  have hXL : X.length = N := by
    have h1 := HY1.out
    have h2 := HY2.out
    rw [u8s_len] at h1 h2
    rw [hXX, List.length_append, h1, h2, hN]
    omega
  have hXle : ∀ x ∈ X, x ≤ 255 := by rw [hXX]; exact HLE.out
  have hNI : (M1 : Int) + (M2 : Int) = (N : Int) := by omega
  rw [← hXX, ← hN] at hd32
  rw [← hN]
  have hN80 : N ≤ 80 := by omega
  obtain ⟨LL, hLL⟩ : ∃ LL, LL = [RowR 5 1 (.slice va32 N vc32) N (u8s X), Go.Proofs.Ytlficiohenpghab.Blk b7 #[.pointer (some ⟨p, 0, none⟩)] 23, Go.Proofs.Ytlficiohenpghab.Blk b5 #[.int .u64 A] 33, Old w] := ⟨_, rfl⟩
  have h33 : TuS p 0 b9 [] (.slice none 0 0) LL w32 := by
    rw [hLL]
    exact hd32.perm (List.perm_middle (l₁ := [_, _])).symm
  have HCELL : Hid (∀ w', Own LL w' → w'.cell? ⟨b7, 0, none⟩ = some (.pointer (some ⟨p, 0, none⟩)) ∧ w'.cell? ⟨b5, 0, none⟩ = some (.int .u64 A)) := Lib.hid fun w' h' => by
    rw [hLL] at h'
    exact ⟨(b9_cell h' (.tail _ (.head _))).1, (b9_cell h' (.tail _ (.tail _ (.head _)))).1⟩
  have HROW : Hid (∀ w', Own LL w' → ∀ (i x : Nat), X[i]? = some x → ∃ g, va32 = some ⟨g, 0, none⟩ ∧ w'.cell? ⟨g, i, none⟩ = some (.int .u8 (x : Int))) := Lib.hid fun w' h' i x hx => by
    rw [hLL] at h'
    obtain ⟨hi, -⟩ := List.getElem?_eq_some_iff.1 hx
    obtain ⟨g, cg, ev, -, -⟩ := h'.rowR.form (by omega)
    injection ev with e1 _ e3
    subst e1
    exact ⟨g, rfl, by
      have := (h'.rowR.cells rfl i (.int .u8 (x : Int)) (by unfold u8s; rw [List.getElem?_map, hx]; rfl)).1
      exact this⟩
  have HOLD : Hid (∀ w', Own LL w' → Own [Old w] w') := Lib.hid fun w' h' => by
    rw [hLL] at h'
    exact h'.drop.drop.drop
  have H33 := Lib.hid h33
  have HXL := Lib.hid hXL
  have HXLE := Lib.hid hXle
  clear hXX hXL hXle hd32 h33 hLL hN HY1 HY2 HLE HN1 HN2 H3 HB5 HB7 HB9 HK20 hHeld hHeld2 hHeld3 hHeld4 m1 m2 m3 m4 m5 m6
  go_wp2_with fail
  try simp only [hNI]
  clear hNI
  go_loopw [34] (fun vi wr => ∃ (i q : Nat) (E : List En) (v : Value), vi = .int .i64 (i : Int) ∧ i ≤ N ∧ q ≤ i ∧ TuS p q b9 E v LL wr ∧ ∀ e ∈ E, e.1.1 = A) (fun vi _ => N - (intOf vi).toNat)
  case atStart => exact ⟨0, 0, [], _, rfl, Nat.zero_le _, Nat.le_refl _, H33.out, fun e he => absurd he (by simp)⟩
  case round =>
    clear H33
    obtain ⟨i, q, E, v, rfl, hi, hq, h, hall⟩ := hrel
    by_cases hlt : i < N
    · have hltI : (i : Int) < (N : Int) := by omega
      obtain ⟨x, hx⟩ : ∃ x, X[i]? = some x := ⟨_, List.getElem?_eq_getElem (by rw [HXL.out]; exact hlt)⟩
      have x255 := HXLE.out x (List.mem_of_getElem? hx)
      obtain ⟨g, hg, c0⟩ := HROW.out _ h.rest.drop.drop i x hx
      subst hg
      obtain ⟨r, hr⟩ : ∃ r, r = x % 12 := ⟨_, rfl⟩
      have hr12 : r < 12 := by omega
      have hrI : (x : Int) % 12 = (r : Int) := by omega
      have HTP := Lib.hid (turn_put A HCELL.out h hall HA.out.1 HA.out.2 (r : Int) (by omega) (by omega) (by omega))
      clear hx h hall hr
      go_wp2_with fail
      with_reducible refine (HTP.out).mono ?_
      rintro e w40 ⟨rfl, E', v', h', hall'⟩
      have HX : Hid (∃ (i2 q2 : Nat) (E2 : List En) (v2 : Value), (.int .i64 ((i : Int) + 1) : Value) = .int .i64 (i2 : Int) ∧ i2 ≤ N ∧ q2 ≤ i2 ∧ TuS p q2 b9 E2 v2 LL w40 ∧ ∀ e ∈ E2, e.1.1 = A) := Lib.hid ⟨i + 1, q + 1, E', v', by go_num, by omega, by omega, h', hall'⟩
      clear h' hall' HTP
      go_wp2_with fail
      exact ⟨HX.out, by simp [intOf]; omega⟩
    · as_aux_lemma =>
      obtain rfl : i = N := by omega
      have hlen := h.rise.2
      have hM : (uptoL E A).take (12 : Int).toNat = E := by
        have h1 : uptoL E A = E := by
          unfold uptoL
          exact List.filter_eq_self.2 fun e he => by simp [hall e he]
        rw [h1]
        exact List.take_of_length_le hlen
      have HWK := Lib.hid (own_wake (h.step (Ext.refl _).drew) A 12 (by omega) E hM)
      have HS : Hid (∀ w', Own (B9 b9 v :: LL) w' → w'.cell? ⟨b7, 0, none⟩ = some (.pointer (some ⟨p, 0, none⟩)) ∧ w'.cell? ⟨b5, 0, none⟩ = some (.int .u64 A) ∧ w'.cell? ⟨b9, 0, none⟩ = some v) := Lib.hid fun w' h' => ⟨(HCELL.out _ h'.drop).1, (HCELL.out _ h'.drop).2, (b9_cell h' (.head _)).1⟩
      have HH := Lib.hid h
      have hS0 := HS.out _ (h.rest.drop.step (Ext.refl _).drew)
      have HS0 := Lib.hid hS0
      clear hM hlen h hall hS0 hlt hi
      go_upto_region 12 with fail
      refine wp_region_held_drew (S := fun w' => w'.cell? ⟨b7, 0, none⟩ = some (.pointer (some ⟨p, 0, none⟩)) ∧ w'.cell? ⟨b5, 0, none⟩ = some (.int .u64 A) ∧ w'.cell? ⟨b9, 0, none⟩ = some v) (by kernel_rfl) HS0.out (fun hHeld => ?_)
      refine wpAnyH_take (i := 0) (v := ?_) rfl (by kernel_rfl) (by kernel_rfl) (by kernel_rfl) (fun _ _ _ h => h) (Or.inl ⟨by rfl, ?_⟩) (by first | assumption | trivial) ?_
      rotate_left
      · intro w' hSw
        try dsimp only at hSw
        go_split_ands
        go_simp
        try with_reducible rfl
      try simp only [Act.put, List.setIfInBounds_toArray, List.set_cons_zero, List.set_cons_succ, List.getElem_toArray, List.getElem_cons_succ, List.getElem_cons_zero]
      refine wpAnyH_take (i := 1) (v := ?_) rfl (by kernel_rfl) (by kernel_rfl) (by kernel_rfl) (fun _ _ _ h => h) (Or.inl ⟨by rfl, ?_⟩) (by first | assumption | trivial) ?_
      rotate_left
      · intro w' hSw
        try dsimp only at hSw
        go_split_ands
        go_simp
        try with_reducible rfl
      try simp only [Act.put, List.setIfInBounds_toArray, List.set_cons_zero, List.set_cons_succ, List.getElem_toArray, List.getElem_cons_succ, List.getElem_cons_zero]
      refine wpAnyH_take (i := 3) (v := ?_) rfl (by kernel_rfl) (by kernel_rfl) (by kernel_rfl) (fun _ _ _ h => h) (Or.inl ⟨by rfl, ?_⟩) (by first | assumption | trivial) ?_
      rotate_left
      · intro w' hSw
        try dsimp only at hSw
        go_split_ands
        go_simp
        try with_reducible rfl
      try simp only [Act.put, List.setIfInBounds_toArray, List.set_cons_zero, List.set_cons_succ, List.getElem_toArray, List.getElem_cons_succ, List.getElem_cons_zero]
      refine wpAnyH_ready (rs := [2]) (by kernel_rfl) (by simp) ?_
      refine AllReadyH.cons rfl (fun K hK => ?_) AllReadyH.nil
      go_simp
      with_reducible refine (HWK.out).mono ?_
      rintro e w41 ⟨v3, rfl, h41⟩
      have hS1 := h41.rest.drop.drop
      clear hHeld
      refine hK.out _ _ (HS.out _ hS1) (fun hHeld => ?_)
      clear hK K hS1
      try simp only [Act.put, List.setIfInBounds_toArray, List.set_cons_zero, List.set_cons_succ, List.getElem_toArray, List.getElem_cons_succ, List.getElem_cons_zero]
      refine wpAnyH_ready (rs := [4]) (by kernel_rfl) (by simp) ?_
      refine AllReadyH.cons rfl (fun K hK => ?_) AllReadyH.nil
      go_simp
      refine (ints_any (X := E.map (·.2)) (Y := E.map (·.2)) (by rw [List.length_map]) (by rw [List.length_map]) (ri_is h41.rest.rowR) (ri_is h41.rest.drop.rowR) (by have := HH.out.rise.2; omega) (by have := HH.out.rise.2; omega) (B := true) (by simp)).mono ?_
      rintro e w42 ⟨rfl, hx⟩
      have h42 := h41.step hx
      have hS1 := h42.rest.drop.drop
      clear hHeld
      refine hK.out _ _ (HS.out _ hS1) (fun hHeld => ?_)
      clear hK K hS1
      try simp only [Act.put, List.setIfInBounds_toArray, List.set_cons_zero, List.set_cons_succ, List.getElem_toArray, List.getElem_cons_succ, List.getElem_cons_zero]
      refine wpAnyH_take (i := 5) (v := ?_) rfl (by kernel_rfl) (by kernel_rfl) (by kernel_rfl) (fun _ _ _ h => h) (Or.inl ⟨by rfl, ?_⟩) (by first | assumption | trivial) ?_
      rotate_left
      · intro w' hSw
        try dsimp only at hSw
        go_split_ands
        go_simp
        try with_reducible rfl
      try simp only [Act.put, List.setIfInBounds_toArray, List.set_cons_zero, List.set_cons_succ, List.getElem_toArray, List.getElem_cons_succ, List.getElem_cons_zero]
      refine wpAnyH_take (i := 6) (v := ?_) rfl (by kernel_rfl) (by kernel_rfl) (by kernel_rfl) (fun _ _ _ h => h) (Or.inl ⟨by rfl, ?_⟩) (by first | assumption | trivial) ?_
      rotate_left
      · intro w' hSw
        try dsimp only at hSw
        go_split_ands
        go_simp
        try with_reducible rfl
      try simp only [Act.put, List.setIfInBounds_toArray, List.set_cons_zero, List.set_cons_succ, List.getElem_toArray, List.getElem_cons_succ, List.getElem_cons_zero]
      refine wpAnyH_ready (rs := [7]) (by kernel_rfl) (by simp) ?_
      refine AllReadyH.cons rfl (fun K hK => ?_) AllReadyH.nil
      go_simp
      have hln := own_len h42
      rw [show (E.drop E.length).length = 0 from by simp] at hln
      refine (hln).mono ?_
      rintro e w43 ⟨rfl, rfl⟩
      have hS1 := h42.rest.drop.drop
      clear hHeld
      refine hK.out _ _ (HS.out _ hS1) (fun hHeld => ?_)
      clear hK K hS1
      try simp only [Act.put, List.setIfInBounds_toArray, List.set_cons_zero, List.set_cons_succ, List.getElem_toArray, List.getElem_cons_succ, List.getElem_cons_zero]
      refine wpAnyH_take (i := 8) (v := ?_) rfl (by kernel_rfl) (by kernel_rfl) (by kernel_rfl) (fun _ _ _ h => h) (Or.inl ⟨by rfl, ?_⟩) (by first | assumption | trivial) ?_
      rotate_left
      · intro w' hSw
        try dsimp only at hSw
        go_split_ands
        go_simp
        try with_reducible rfl
      try simp only [Act.put, List.setIfInBounds_toArray, List.set_cons_zero, List.set_cons_succ, List.getElem_toArray, List.getElem_cons_succ, List.getElem_cons_zero]
      refine wpAnyH_take (i := 9) (v := ?_) rfl (by kernel_rfl) (by kernel_rfl) (by kernel_rfl) (fun _ _ _ h => h) (Or.inl ⟨by rfl, ?_⟩) (by first | assumption | trivial) ?_
      rotate_left
      · intro w' hSw
        try dsimp only at hSw
        go_split_ands
        go_simp
        try with_reducible rfl
      try simp only [Act.put, List.setIfInBounds_toArray, List.set_cons_zero, List.set_cons_succ, List.getElem_toArray, List.getElem_cons_succ, List.getElem_cons_zero]
      refine wpAnyH_take (i := 10) (v := ?_) rfl (by kernel_rfl) (by kernel_rfl) (by kernel_rfl) (fun _ _ _ h => h) (Or.inl ⟨by rfl, ?_⟩) (by first | assumption | trivial) ?_
      rotate_left
      · intro w' hSw
        try dsimp only at hSw
        go_split_ands
        go_simp
        try with_reducible rfl
      try simp only [Act.put, List.setIfInBounds_toArray, List.set_cons_zero, List.set_cons_succ, List.getElem_toArray, List.getElem_cons_succ, List.getElem_cons_zero]
      refine wpAnyH_ready (rs := [11]) (by kernel_rfl) (by simp) ?_
      refine AllReadyH.cons rfl (fun K hK => ?_) AllReadyH.nil
      go_simp
      refine (awake_any h42.rest).mono ?_
      rintro e w44 ⟨rfl, h44⟩
      have hS1 := h44.drop.drop
      clear hHeld
      refine hK.out _ _ (HS.out _ hS1) (fun hHeld => ?_)
      clear hK K hS1
      try simp only [Act.put, List.setIfInBounds_toArray, List.set_cons_zero, List.set_cons_succ, List.getElem_toArray, List.getElem_cons_succ, List.getElem_cons_zero]
      refine wpAnyH_take (i := 12) (v := ?_) rfl (by kernel_rfl) (by kernel_rfl) (by kernel_rfl) (fun _ _ _ h => h) (Or.inl ⟨by rfl, ?_⟩) (by first | assumption | trivial) ?_
      rotate_left
      · intro w' hSw
        try dsimp only at hSw
        go_split_ands
        go_simp
        try with_reducible rfl
      try simp only [Act.put, List.setIfInBounds_toArray, List.set_cons_zero, List.set_cons_succ, List.getElem_toArray, List.getElem_cons_succ, List.getElem_cons_zero]
      refine wpAnyH_take (i := 13) (v := ?_) rfl (by kernel_rfl) (by kernel_rfl) (by kernel_rfl) (fun _ _ _ h => h) (Or.inl ⟨by rfl, ?_⟩) (by first | assumption | trivial) ?_
      rotate_left
      · intro w' hSw
        try dsimp only at hSw
        go_split_ands
        go_simp
        try with_reducible rfl
      try simp only [Act.put, List.setIfInBounds_toArray, List.set_cons_zero, List.set_cons_succ, List.getElem_toArray, List.getElem_cons_succ, List.getElem_cons_zero]
      refine wpAnyH_done (by kernel_rfl) ?_ _
      have HFIN := Lib.hid (HOLD.out _ h44.drop.drop.drop)
      clear hHeld h41 h42 h44
      go_wp2_with fail
      go_ret
      exact ⟨rfl, HFIN.out.ext (by simp)⟩
end Go.Proofs.Ytlficiohenpghab.Dy
