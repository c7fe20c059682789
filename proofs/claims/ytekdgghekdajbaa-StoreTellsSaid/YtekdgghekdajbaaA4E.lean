/- DERIVED. Layer 4 (arena): the document's arena: Give, New. -/
import Derived.Test.YtekdgghekdajbaaA4D
set_option linter.unusedVariables false
set_option linter.unusedSimpArgs false
set_option maxRecDepth 100000
namespace Go.Proofs.Ytekdgghekdajbaa.Ar
open Go.RowKit Go.Proofs.Ytekdgghekdajbaa

theorem mb_set0 (l : List Nat) (q s : Nat) (he : s % 2 = 1) : (mb l).set q (.bool false) = mb (l.set q (s + 1)) := by
  unfold mb
  rw [List.map_set]
  congr 2
  exact (decide_eq_false (by omega)).symm
theorem mt_set0 (l : List Nat) (q : Nat) (h : q < l.length) (he : l.getD q 0 % 2 = 1) : mt (l.set q (l.getD q 0 + 1)) = mt l := by
  apply List.ext_getElem?
  intro i
  by_cases hi : i = q
  · subst hi
    simp only [mt, List.getElem?_map, List.getElem?_set_self h, Option.map_some]
    have : l[i]? = some (l.getD i 0) := by simp [List.getD, h]
    rw [this, Option.map_some]
    congr 3
    omega
  · simp only [mt, List.getElem?_map, List.getElem?_set_ne (Ne.symm hi)]
set_option maxHeartbeats 1000000 in
theorem rnew_any (q : Int) {w : World} {l : List HP} (h : Own l w) :
    Calls Try.prog 21 #[.int .i64 q] w fun e w' => e = .returned (.tuple #[.agg #[.slice none 0 0, .slice none 0 0, .slice none 0 0, .int .i64 q], .bool (decide (1 ≤ q ∧ q ≤ 65536))]) ∧ Own l w' := by
  have h1 := Own.blkNew h #[.slice none 0 0, .slice none 0 0, .slice none 0 0, .int .i64 0] 48
  obtain ⟨W1, hW1⟩ : ∃ W1, W1 = w.alloc (.cells #[.slice none 0 0, .slice none 0 0, .slice none 0 0, .int .i64 0] 48) := ⟨_, rfl⟩
  rw [← hW1] at h1
  obtain ⟨b0, b1, b2, b3, f0, f1, f2, f3⟩ := bx_cells (b := w.heap.size) h1 (.head _)
  obtain ⟨w2, hw2, h2⟩ := bx_all h1 (.slice none 0 0) (.slice none 0 0) (.slice none 0 0) (.int .i64 q)
  obtain ⟨r0, r1, r2, r3, -, -, -, -⟩ := bx_cells (b := w.heap.size) h2 (.head _)
  have H2 := Lib.hid h2
  have HW := Lib.hid hW1
  have HR := Lib.hid (And.intro r0 (And.intro r1 (And.intro r2 r3)))
  clear h h1 h2 hW1 r0 r1 r2 r3
  by_cases h1 : 1 ≤ q
  · by_cases h2 : q ≤ 65536
    · rw [decide_eq_true (And.intro h1 h2)]
      go_enter Try.func21, Try.ntmps21
      go_upto_region 1 with fail
      rw [← HW.out]
      go_wp2_with fail
      obtain ⟨r0, r1, r2, r3⟩ := HR.out
      exact bodyPost_ret (v := .tuple #[.agg #[.slice none 0 0, .slice none 0 0, .slice none 0 0, .int .i64 q], .bool true]) (by simp [results, Try.results21, go_sem, r0, r1, r2, r3]) rfl ⟨rfl, H2.out.drop⟩
    · rw [decide_eq_false (fun h => h2 h.2)]
      have h3 : 65536 < q := by omega
      clear h2
      go_enter Try.func21, Try.ntmps21
      go_upto_region 1 with fail
      rw [← HW.out]
      go_wp2_with fail
      obtain ⟨r0, r1, r2, r3⟩ := HR.out
      exact bodyPost_ret (v := .tuple #[.agg #[.slice none 0 0, .slice none 0 0, .slice none 0 0, .int .i64 q], .bool false]) (by simp [results, Try.results21, go_sem, r0, r1, r2, r3, h3]) rfl ⟨rfl, H2.out.drop⟩
  · rw [decide_eq_false (fun h => h1 h.1)]
    have h3 : q < 1 := by omega
    clear h1
    go_enter Try.func21, Try.ntmps21
    go_upto_region 1 with fail
    rw [← HW.out]
    go_wp2_with fail
    obtain ⟨r0, r1, r2, r3⟩ := HR.out
    exact bodyPost_ret (v := .tuple #[.agg #[.slice none 0 0, .slice none 0 0, .slice none 0 0, .int .i64 q], .bool false]) (by simp [results, Try.results21, go_sem, r0, r1, r2, r3, h3]) rfl ⟨rfl, H2.out.drop⟩
/-- what it is at first -/
theorem rfresh (r : Nat) {w : World} {l : List HP} (h : Own l w) : Own (RT (fresh r) (.slice none 0 0) :: RB (fresh r) (.slice none 0 0) :: RK (fresh r) (.slice none 0 0) :: l) w :=
  Own.nilRowR _ _ (Own.nilRowR _ _ (Own.nilRowR _ _ h))
set_option maxHeartbeats 2000000 in
theorem rgive_any {N : Nat} {X : A} {v1 v2 v3 : Value} {l : List HP} {w : World} (h : Own (RT X v1 :: RB X v2 :: RK X v3 :: l) w) (ho : Ok N X) (hN : N < 4294967294) (H : Nat) :
    Calls Try.prog 24 #[.agg #[v1, v2, v3, .int .i64 X.room], .int .u64 H] w fun e w' => ∃ u1 u2 u3, e = .returned (.tuple #[.agg #[u1, u2, u3, .int .i64 (gvA X H).room], .int .i64 (gvE X H)]) ∧ Own (RT (gvA X H) u1 :: RB (gvA X H) u2 :: RK (gvA X H) u3 :: l) w' := by
  obtain ⟨a3, c3, e3⟩ := h.third.rowR.slice
  obtain ⟨a1, c1, e1⟩ := h.rowR.slice
  obtain ⟨a2, c2, e2⟩ := h.second.rowR.slice
  have h1 := own_two h
  obtain ⟨r, hr⟩ : ∃ r, r = X.room := ⟨_, rfl⟩
  rw [← hr] at h1
  obtain ⟨W1, hW1⟩ : ∃ W1, W1 = (w.alloc (.cells #[v1, v2, v3, .int .i64 r] 48)).alloc (.cells #[.slice none 0 0, .slice none 0 0, .slice none 0 0, .int .i64 0] 48) := ⟨_, rfl⟩
  rw [← hW1] at h1
  have HPL := Lib.hid (fun W (hW : Ext W1 W) => rplace_any (N := N) ((ref_of h1.rot23).ext hW) ho (by omega) H)
  have H1 := Lib.hid h1
  have HW := Lib.hid hW1
  have hR := Lib.hid hr
  obtain ⟨b0, b1, b2, b3, -, -, -, -⟩ := bx_cells (b := w.heap.size) h1 (.tail _ (.head _))
  subst e1 e2 e3
  obtain ⟨PV, hPV⟩ : ∃ PV, PV = pv X (H : Int) := ⟨_, rfl⟩
  obtain ⟨PB, hPB⟩ : ∃ PB, PB = pb X (H : Int) := ⟨_, rfl⟩
  rw [← hPV, ← hPB, ← hr] at HPL
  rw [← hr]
  cases PB with
  | false =>
    have E1 : gvE X H = 40 := by unfold gvE; rw [← hPB]; rfl
    have E2 : gvA X H = X := by unfold gvA; rw [← hPB]; rfl
    rw [E1, E2]
    clear h h1 ho hW1 hr hPV hPB E1 E2
    go_enter Try.func24, Try.ntmps24
    go_upto_region 1 with fail
    rw [← HW.out]
    clear HW
    go_wp2_with (go_at_call 26; refine (HPL.out _ (Ext.refl W1)).mono ?_; rintro e' w2 ⟨rfl, hx3⟩; have y0 := hx3.cell b0; have y1 := hx3.cell b1; have y2 := hx3.cell b2; have y3 := hx3.cell b3; have H2 := Lib.hid (H1.out.step hx3); obtain ⟨z0, z1, z2, z3, f0, f1, f2, f3⟩ := bx_cells (b := w.heap.size + 1) H2.out (.head _); obtain ⟨w3, hw3, h3⟩ := bx_all H2.out (.slice a1 X.st.length c1) (.slice a2 X.st.length c2) (.slice a3 X.bk.length c3) (.int .i64 r); have H3 := Lib.hid h3; clear hx3 h3)
    obtain ⟨r0, r1, r2, r3, -, -, -, -⟩ := bx_cells (b := w.heap.size + 1) H3.out (.head _)
    exact bodyPost_ret (v := .tuple #[.agg #[.slice a1 X.st.length c1, .slice a2 X.st.length c2, .slice a3 X.bk.length c3, .int .i64 r], .int .i64 40]) (by simp [results, Try.results24, go_sem, r0, r1, r2, r3]) rfl ⟨_, _, _, by rw [hR.out], H3.out.drop.drop⟩
  | true =>
    obtain ⟨q, hq1, hq2, hq3, hq4⟩ := pb_spec hPB.symm
    have E1 : gvE X H = 0 := by unfold gvE; rw [← hPB]; rfl
    have E2 : gvA X H = gv X q := by unfold gvA; rw [← hPB, if_pos rfl, hq1]; rfl
    rw [hq1] at hPV
    subst hPV
    rw [E1, E2]
    have hL6 : X.st.length ≤ 65536 := Nat.le_trans ho.len ho.r2
    have hL0 : 0 < X.st.length := by omega
    have hB6 : X.bk.length ≤ 65536 := by have := ho.sum; omega
    have HCP : Hid (∀ W l0, Own (RT X (.slice a1 X.st.length c1) :: RB X (.slice a2 X.st.length c2) :: RK X (.slice a3 X.bk.length c3) :: l0) W → Calls Try.prog 44 #[.agg #[.slice a1 X.st.length c1, .slice a2 X.st.length c2, .slice a3 X.bk.length c3, .int .i64 r]] W fun e w' => ∃ u1 u2, e = .returned (.agg #[u1, u2, .slice a3 X.bk.length c3, .int .i64 r]) ∧ Own (RT X u1 :: RB X u2 :: RK X (.slice a3 X.bk.length c3) :: l0) w') := Lib.hid (fun W l0 hW => by
      rw [hr]
      exact rcopied_any hW ho)
    have ERT : ∀ v, RT X v = RT (gv X q) v := fun v => by
      show RowR _ _ _ X.st.length (mt X.st) = RowR _ _ _ (gv X q).st.length (mt (gv X q).st)
      unfold gv
      rw [List.length_set, mt_set0 _ _ hq2 hq3]
    have hb1 : (tbs X).set q (.bool false) = tbs (gv X q) := by
      show (mb X.st).set q _ = mb (X.st.set q (X.st.getD q 0 + 1))
      rw [mb_set0 _ _ _ hq3]
    have ERB : ∀ v, RowR 4 1 v X.st.length ((tbs X).set q (.bool false)) = RB (gv X q) v := fun v => by
      show _ = RowR _ _ _ (gv X q).st.length (tbs (gv X q))
      rw [hb1, show (gv X q).st.length = X.st.length by unfold gv; rw [List.length_set]]
    have ERK : ∀ v, RowR 3 1 v (X.bk.length + 1) (is X.bk ++ [.int .i64 q]) = RK (gv X q) v := fun v => by
      show _ = RowR _ _ _ (X.bk ++ [q]).length (is (X.bk ++ [q]))
      unfold is
      rw [List.length_append, List.map_append]
      rfl
    have hab := tbs_at hq2
    have HAB := Lib.hid hab
    have HE := Lib.hid (And.intro ERT (And.intro ERB ERK))
    have M1 : Hid ((X.bk.length + 1) * 8 ≤ 140737488355328) := Lib.hid (by omega)
    have M2 : Hid (X.bk.length * 8 ≤ 140737488355328) := Lib.hid (by omega)
    have M3 : Hid (X.bk.length ≤ maxLen) := Lib.hid (by simp only [maxLen]; omega)
    have HI3 := Lib.hid info3
    have HIS := Lib.hid (is_one X.bk)
    clear h h1 ho hW1 hr hPB E1 E2 hq1 hq3 hq4 ERT hb1 ERB ERK hab
    go_enter Try.func24, Try.ntmps24
    go_upto_region 1 with fail
    rw [← HW.out]
    clear HW
    go_wp2_with (first
      | (go_at_call 26; refine (HPL.out _ (Ext.refl W1)).mono ?_; rintro e' w2 ⟨rfl, hx3⟩
         have y0 := hx3.cell b0
         have y1 := hx3.cell b1
         have y2 := hx3.cell b2
         have y3 := hx3.cell b3
         have H2 := Lib.hid (H1.out.step hx3)
         clear hx3)
      | (go_at_call 44; refine (HCP.out _ _ H2.out.rot23).mono ?_; rintro e' w3 ⟨u1, u2, rfl, h3⟩
         obtain ⟨g1, d1, rfl, hc1, -⟩ := h3.rowR.form hL0
         obtain ⟨g2, d2, rfl, hc2, -⟩ := h3.second.rowR.form hL0
         have h4 := h3.rot32.swap
         obtain ⟨k0, k1, k2, k3, f0, f1, f2, f3⟩ := bx_cells (b := w.heap.size) h4 (.head _)
         obtain ⟨w4, hw4, h4⟩ := bx_all h4 (.slice (some ⟨g1, 0, none⟩) X.st.length d1) (.slice (some ⟨g2, 0, none⟩) X.st.length d2) (.slice a3 X.bk.length c3) (.int .i64 r)
         obtain ⟨e0, e1, e2, e3, -, -, -, -⟩ := bx_cells (b := w.heap.size) h4 (.head _)
         have h5 := Own.fourth h4
         obtain ⟨hbc, hbf⟩ := h5.rowR.cells rfl q _ HAB.out
         have h6 := h5.rowRSet (o := q) (.bool false)
         obtain ⟨w5, hw5⟩ : ∃ w5, w4.setCell ⟨g2, q, none⟩ (.bool false) = w5 := ⟨_, rfl⟩
         rw [hw5, HE.out.2.1, HE.out.1] at h6
         obtain ⟨n0, n1, n2, n3, g40, g41, g42, g43⟩ := bx_cells (b := w.heap.size) h6 (.tail _ (.head _))
         have H6 := Lib.hid (Own.emptyNew 3 1 h6)
         obtain ⟨n0, n1, n2, n3, g40, g41, g42, g43⟩ := bx_cells (b := w.heap.size) H6.out (.tail _ (.tail _ (.head _)))
         clear h3 h4 h5 h6)
      | (at_builtin; refine app_fresh _ rfl _ _ _ _ _ 1 8 rfl Try.underlying41 HI3.out rfl (by omega) w5.heap.size rfl H6.out.rowR (.slice a3 X.bk.length c3) X.bk.length (is X.bk) rfl (by exact (Own.sixth6 H6.out).rowR) HIS.out M3.out M2.out ?_
         intro u3 w6 hown hgrow hmv
         have h7 := H6.out.rowRGrown hown rfl hgrow hmv
         have H7 := Lib.hid h7
         clear h7 hown hgrow hmv)
      | (at_builtin; refine app_R1 rfl _ _ _ _ _ 1 8 rfl Try.underlying41 HI3.out rfl (by omega) (by omega) u3 X.bk.length (is X.bk) [.int .i64 q] rfl _ rfl rfl rfl (by simp [Value.oneCell']) (by exact H7.out.rowR) M1.out ?_
         intro v4 w7 hown hgrow hmv
         have h8 := H7.out.rowRGrown hown rfl hgrow hmv
         obtain ⟨p4, d4, rfl⟩ := h8.rowR.slice
         rw [HE.out.2.2] at h8
         obtain ⟨s0, s1, s2, s3, i0, i1, i2, i3⟩ := bx_cells (b := w.heap.size) h8 (.tail _ (.tail _ (.head _)))
         have h9 := bx_set2 h8.third (.slice p4 (X.bk.length + 1) d4)
         obtain ⟨w8, hw8⟩ : ∃ w8, w7.setCell ⟨w.heap.size, 2, none⟩ (.slice p4 (X.bk.length + 1) d4) = w8 := ⟨_, rfl⟩
         rw [hw8] at h9
         obtain ⟨t0, t1, t2, t3, -, -, -, -⟩ := bx_cells (b := w.heap.size) h9 (.head _)
         have h10 := Own.fourth h9
         obtain ⟨z0, z1, z2, z3, j0, j1, j2, j3⟩ := bx_cells (b := w.heap.size + 1) h10 (.head _)
         obtain ⟨w12, hw12, h12⟩ := bx_all h10 (.slice (some ⟨g1, 0, none⟩) X.st.length d1) (.slice (some ⟨g2, 0, none⟩) X.st.length d2) (.slice p4 (X.bk.length + 1) d4) (.int .i64 r)
         obtain ⟨r0, r1, r2, r3, -, -, -, -⟩ := bx_cells (b := w.heap.size + 1) h12 (.head _)
         have HRR := Lib.hid (And.intro r0 (And.intro r1 (And.intro r2 r3)))
         have H12 := Lib.hid h12
         clear h8 h9 h10 h12 r0 r1 r2 r3 hown hgrow hmv))
    obtain ⟨r0, r1, r2, r3⟩ := HRR.out
    exact bodyPost_ret (v := .tuple #[.agg #[.slice (some ⟨g1, 0, none⟩) X.st.length d1, .slice (some ⟨g2, 0, none⟩) X.st.length d2, .slice p4 (X.bk.length + 1) d4, .int .i64 r], .int .i64 0]) (by simp [results, Try.results24, go_sem, r0, r1, r2, r3]) rfl ⟨_, _, _, by rw [hR.out]; rfl, H12.out.drop.drop.fourth.drop.swap.third⟩
end Go.Proofs.Ytekdgghekdajbaa.Ar
