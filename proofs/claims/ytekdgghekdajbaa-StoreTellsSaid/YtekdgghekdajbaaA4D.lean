/- DERIVED. Layer 4 (arena): the document's arena: Take. -/
import Derived.Test.YtekdgghekdajbaaA4C
import Derived.Deep.RegionHeld3
set_option linter.unusedVariables false
set_option linter.unusedSimpArgs false
set_option maxRecDepth 100000
namespace Go.Proofs.Ytekdgghekdajbaa.Ar
open Go.RowKit Go.Proofs.Ytekdgghekdajbaa

theorem _root_.Go.Proofs.Ytekdgghekdajbaa.OwnIn.perm {l l' : List HP} (p : l.Perm l') : ∀ {w : World} {U : Nat → Prop}, OwnIn l w U → OwnIn l' w U := by
  induction p with
  | nil => exact fun h => h
  | cons x _ ih => exact fun h => h.tail ih
  | swap x y l => exact fun h => h.swap
  | trans _ _ ih1 ih2 => exact fun h => ih2 (ih1 h)
theorem _root_.Go.Proofs.Ytekdgghekdajbaa.Own.perm {l l' : List HP} {w : World} (h : Own l w) (p : l.Perm l') : Own l' w := by
  obtain ⟨U, hU⟩ := h
  exact ⟨U, OwnIn.perm p hU⟩
theorem _root_.Go.Proofs.Ytekdgghekdajbaa.Own.rot23 {P Q R S T : HP} {l : List HP} {w : World} (h : Own (P :: Q :: R :: S :: T :: l) w) : Own (R :: S :: T :: P :: Q :: l) w :=
  h.perm ((List.perm_append_comm (l₁ := [P, Q]) (l₂ := [R, S, T])).append_right l)
theorem _root_.Go.Proofs.Ytekdgghekdajbaa.Own.rot32 {P Q R S T : HP} {l : List HP} {w : World} (h : Own (R :: S :: T :: P :: Q :: l) w) : Own (P :: Q :: R :: S :: T :: l) w :=
  h.perm ((List.perm_append_comm (l₁ := [R, S, T]) (l₂ := [P, Q])).append_right l)
theorem ownsR_set {w : World} {e size n g cap o : Nat} {xs : List Value} (v : Value) (h : ownsR w e size (.slice (some ⟨g, 0, none⟩) n cap) n xs) :
    ownsR (w.setCell ⟨g, o, none⟩ v) e size (.slice (some ⟨g, 0, none⟩) n cap) n (xs.set o v) := by
  refine ⟨by rw [List.length_set]; exact h.1, ?_⟩
  rcases h.2 with ⟨h1, _⟩ | ⟨g', cap', cur, h1, hg, hc, hm, hs, ht⟩
  · simp at h1
  · injection h1 with e1 e2 e3
    injection e1 with e1
    injection e1 with e1
    subst e1 e3
    refine .inr ⟨g, cap, cur.setIfInBounds o v, rfl, heap_set v hg, hc, hm, by rw [Array.size_setIfInBounds]; exact hs, ?_⟩
    rw [Array.toList_setIfInBounds, List.take_set, ht]
theorem _root_.Go.Proofs.Ytekdgghekdajbaa.Own.rowRSet {e size n g cap o : Nat} {xs : List Value} {l : List HP} {w : World} (h : Own (RowR e size (.slice (some ⟨g, 0, none⟩) n cap) n xs :: l) w) (v : Value) :
    Own (RowR e size (.slice (some ⟨g, 0, none⟩) n cap) n (xs.set o v) :: l) (w.setCell ⟨g, o, none⟩ v) := by
  obtain ⟨s, hP, hb, K⟩ := h.open
  exact K ((Step.refl s w).setCell ⟨g, o, none⟩ (.inl ((hP.2 g).2 rfl)) v) (s' := s) ⟨ownsR_set v hP.1, hP.2⟩ (fun b hb => .inl hb)
theorem _root_.Go.Proofs.Ytekdgghekdajbaa.Own.rowRCut {e size n g cap k : Nat} {xs : List Value} {l : List HP} {w : World} (h : Own (RowR e size (.slice (some ⟨g, 0, none⟩) n cap) n xs :: l) w) (hk : k ≤ n) (hc : n ≤ cap) :
    Own (RowR e size (.slice (some ⟨g, 0, none⟩) k cap) k (xs.take (k * size)) :: l) w := by
  obtain ⟨s, hP, hb, K⟩ := h.open
  exact K (Step.refl s w) (P' := RowR e size (.slice (some ⟨g, 0, none⟩) k cap) k (xs.take (k * size))) (s' := s) ⟨hP.1.cut hk (by omega) (Nat.le_refl _), fun b => by rw [hP.2 b]; simp [Value.ownBlock]⟩ (fun b hb => .inl hb)
/-- the rows of counts, and of marks, behind a take of place q -/
def mt (l : List Nat) : List Value := l.map fun s => .int .i64 (((s + 1) / 2 : Nat) : Int)
def mb (l : List Nat) : List Value := l.map fun s => .bool (decide (s % 2 = 1))
theorem mt_set (l : List Nat) (q s : Nat) (he : s % 2 = 0) : (mt l).set q (.int .i64 ((((s + 1) / 2 : Nat) : Int) + 1)) = mt (l.set q (s + 1)) := by
  unfold mt
  rw [List.map_set]
  congr 2
  omega
theorem mb_set (l : List Nat) (q s : Nat) (he : s % 2 = 0) : (mb l).set q (.bool true) = mb (l.set q (s + 1)) := by
  unfold mb
  rw [List.map_set]
  congr 2
  have : (s + 1) % 2 = 1 := by omega
  rw [decide_eq_true this]
theorem mt_at (l : List Nat) (q : Nat) (h : q < l.length) : (mt l)[q]? = some (.int .i64 (((l.getD q 0 + 1) / 2 : Nat) : Int)) := by simp [mt, h, List.getD]
theorem mb_at (l : List Nat) (q : Nat) (h : q < l.length) : (mb l)[q]? = some (.bool (decide (l.getD q 0 % 2 = 1))) := by simp [mb, h, List.getD]
theorem take_tail {w8 : World} {b g1 g2 d1 d2 L q : Nat} {tn : Int} {w3v r bv : Value} {ts0 bs0 : List Value} {l : List HP}
    (h : Own (BX b (.slice (some ⟨g1, 0, none⟩) L d1) (.slice (some ⟨g2, 0, none⟩) L d2) w3v r :: RowR 4 1 (.slice (some ⟨g2, 0, none⟩) L d2) L bs0 :: RowR 3 1 (.slice (some ⟨g1, 0, none⟩) L d1) L ts0 :: BX (b + 1) (.slice none 0 0) (.slice none 0 0) (.slice none 0 0) (.int .i64 0) :: l) w8)
    (ht : ts0[q]? = some (.int .i64 tn)) (hb : bs0[q]? = some bv) :
    ∃ w9 w10, w8.setCell ⟨g1, q, none⟩ (.int .i64 (tn + 1)) = w9 ∧ w9.setCell ⟨g2, q, none⟩ (.bool true) = w10 ∧
      (w8.cell? ⟨b, 0, none⟩ = some (.slice (some ⟨g1, 0, none⟩) L d1) ∧ w8.cell? ⟨g1, q, none⟩ = some (.int .i64 tn) ∧ w8.frozen? ⟨g1, q, none⟩ = false) ∧
      (w9.cell? ⟨b, 1, none⟩ = some (.slice (some ⟨g2, 0, none⟩) L d2) ∧ w9.cell? ⟨g2, q, none⟩ = some bv ∧ w9.frozen? ⟨g2, q, none⟩ = false) ∧
      (w10.cell? ⟨b, 0, none⟩ = some (.slice (some ⟨g1, 0, none⟩) L d1) ∧ w10.cell? ⟨b, 1, none⟩ = some (.slice (some ⟨g2, 0, none⟩) L d2) ∧ w10.cell? ⟨b, 2, none⟩ = some w3v ∧ w10.cell? ⟨b, 3, none⟩ = some r) ∧
      Own (BX (b + 1) (.slice none 0 0) (.slice none 0 0) (.slice none 0 0) (.int .i64 0) :: BX b (.slice (some ⟨g1, 0, none⟩) L d1) (.slice (some ⟨g2, 0, none⟩) L d2) w3v r :: RowR 3 1 (.slice (some ⟨g1, 0, none⟩) L d1) L (ts0.set q (.int .i64 (tn + 1))) :: RowR 4 1 (.slice (some ⟨g2, 0, none⟩) L d2) L (bs0.set q (.bool true)) :: l) w10 := by
  have h3 := h.third
  obtain ⟨c1, f1⟩ := h3.rowR.cells rfl q _ ht
  obtain ⟨b0, b1, b2, b3, -, -, -, -⟩ := bx_cells (b := b) h (.head _)
  have h4 := h3.rowRSet (o := q) (.int .i64 (tn + 1))
  have h5 := h4.third
  obtain ⟨c2, f2⟩ := h5.rowR.cells rfl q _ hb
  obtain ⟨e0, e1, e2, e3, -, -, -, -⟩ := bx_cells (b := b) h5 (.tail _ (.tail _ (.head _)))
  have h6 := h5.rowRSet (o := q) (.bool true)
  obtain ⟨k0, k1, k2, k3, -, -, -, -⟩ := bx_cells (b := b) h6 (.tail _ (.tail _ (.head _)))
  exact ⟨_, _, rfl, rfl, ⟨b0, c1, f1⟩, ⟨e1, c2, f2⟩, ⟨k0, k1, k2, k3⟩, h6.swap.third.fourth⟩
theorem st0_get (X : A) (q : Nat) : (st0 X).getD q 0 = X.st.getD q 0 := by
  unfold st0
  split
  · rw [getD_snoc]
    split
    · subst_vars; simp [List.getD]
    · rfl
  · rfl
theorem ref_of {X : A} {v1 v2 v3 : Value} {l : List HP} {w : World} (h : Own (RT X v1 :: RB X v2 :: RK X v3 :: l) w) : Ref X v1 v2 v3 w := ⟨h.rowR, h.second.rowR, h.third.rowR⟩
/-- the call's own blocks -/
theorem own_two {X : A} {v1 v2 v3 : Value} {l : List HP} {w : World} (h : Own (RT X v1 :: RB X v2 :: RK X v3 :: l) w) :
    Own (BX (w.heap.size + 1) (.slice none 0 0) (.slice none 0 0) (.slice none 0 0) (.int .i64 0) :: BX w.heap.size v1 v2 v3 (.int .i64 X.room) :: RT X v1 :: RB X v2 :: RK X v3 :: l) ((w.alloc (.cells #[v1, v2, v3, .int .i64 X.room] 48)).alloc (.cells #[.slice none 0 0, .slice none 0 0, .slice none 0 0, .int .i64 0] 48)) := by
  have h1 := Own.blkNew (Own.blkNew h #[v1, v2, v3, .int .i64 X.room] 48) #[.slice none 0 0, .slice none 0 0, .slice none 0 0, .int .i64 0] 48
  rw [show (w.alloc (.cells #[v1, v2, v3, .int .i64 X.room] 48)).heap.size = w.heap.size + 1 by simp] at h1
  exact h1
set_option maxHeartbeats 2000000 in
theorem rtake_any {N : Nat} {X : A} {v1 v2 v3 : Value} {l : List HP} {w : World} (h : Own (RT X v1 :: RB X v2 :: RK X v3 :: l) w) (ho : Ok N X) (hN : N < 4294967294) :
    Calls Try.prog 23 #[.agg #[v1, v2, v3, .int .i64 X.room]] w fun e w' => ∃ u1 u2 u3, e = .returned (.tuple #[.agg #[u1, u2, u3, .int .i64 (tkA X).room], .int .u64 ((tkH X : Nat) : Int), .int .i64 (tkE X)]) ∧ Own (RT (tkA X) u1 :: RB (tkA X) u2 :: RK (tkA X) u3 :: l) w' := by
  obtain ⟨a3, c3, e3⟩ := h.third.rowR.slice
  obtain ⟨a1, c1, e1⟩ := h.rowR.slice
  obtain ⟨a2, c2, e2⟩ := h.second.rowR.slice
  have h1 := own_two h
  obtain ⟨r, hr⟩ : ∃ r, r = X.room := ⟨_, rfl⟩
  rw [← hr] at h1
  obtain ⟨W1, hW1⟩ : ∃ W1, W1 = (w.alloc (.cells #[v1, v2, v3, .int .i64 r] 48)).alloc (.cells #[.slice none 0 0, .slice none 0 0, .slice none 0 0, .int .i64 0] 48) := ⟨_, rfl⟩
  rw [← hW1] at h1
  have HUS := Lib.hid (fun W (hW : Ext W1 W) => rused_any (N := N) ((ref_of h1.rot23).ext hW) ho)
  have H1 := Lib.hid h1
  have HW := Lib.hid hW1
  have HO := Lib.hid ho
  have HUL := Lib.hid ho.used_le
  obtain ⟨b0, b1, b2, b3, -, -, -, -⟩ := bx_cells (b := w.heap.size) h1 (.tail _ (.head _))
  subst e1 e2 e3
  obtain ⟨u, hu⟩ : ∃ u, u = X.used := ⟨_, rfl⟩
  rw [← hr] at HUS ⊢
  rw [← hu] at HUS
  by_cases hfull : u = r
  · have E1 : tkE X = 4 := by unfold tkE; rw [if_pos (by rw [← hu, ← hr]; exact hfull)]
    have E2 : tkA X = X := by unfold tkA; rw [if_pos (by rw [← hu, ← hr]; exact hfull)]
    have E3 : tkH X = 0 := by unfold tkH; rw [if_pos (by rw [← hu, ← hr]; exact hfull)]
    rw [E1, E2, E3]
    have hR := Lib.hid hr
    subst hfull
    have uu : ((u : Int) == (u : Int)) = true := by simp
    clear h h1 ho hu E1 E2 E3 hW1 hr
    go_enter Try.func23, Try.ntmps23
    go_upto_region 1 with fail
    rw [← HW.out]
    clear HW
    go_region_held3 (fun w' => w'.cell? ⟨w.heap.size, 0, none⟩ = some (.slice a1 X.st.length c1) ∧ w'.cell? ⟨w.heap.size, 1, none⟩ = some (.slice a2 X.st.length c2) ∧ w'.cell? ⟨w.heap.size, 2, none⟩ = some (.slice a3 X.bk.length c3) ∧ w'.cell? ⟨w.heap.size, 3, none⟩ = some (.int .i64 u))
      (first | go_keep | (go_split_ands; exact ⟨y0, y1, y2, y3⟩))
      ((go_at_call 27; refine (HUS.out _ (Ext.refl W1).drew).mono ?_; rintro e' w2 ⟨rfl, hx2⟩; have hx3 := (Ext.refl W1).drew.trans hx2; have y0 := hx3.cell b0; have y1 := hx3.cell b1; have y2 := hx3.cell b2; have y3 := hx3.cell b3; have H2 := Lib.hid (H1.out.step hx3); obtain ⟨z0, z1, z2, z3, f0, f1, f2, f3⟩ := bx_cells (b := w.heap.size + 1) H2.out (.head _); obtain ⟨w3, hw3, h3⟩ := bx_all H2.out (.slice a1 X.st.length c1) (.slice a2 X.st.length c2) (.slice a3 X.bk.length c3) (.int .i64 u); have H3 := Lib.hid h3; clear hx2 hx3 h3))
    go_wp2_with fail
    obtain ⟨r0, r1, r2, r3, -, -, -, -⟩ := bx_cells (b := w.heap.size + 1) H3.out (.head _)
    exact bodyPost_ret (v := .tuple #[.agg #[.slice a1 X.st.length c1, .slice a2 X.st.length c2, .slice a3 X.bk.length c3, .int .i64 u], .int .u64 0, .int .i64 4]) (by simp [results, Try.results23, go_sem, r0, r1, r2, r3]) rfl ⟨_, _, _, by rw [hR.out]; rfl, H3.out.drop.drop⟩
  · have hlt : X.used < X.room := by have := ho.used_le; omega
    obtain ⟨ht, ho2⟩ := take_spec ho hlt
    have E1 : tkE X = 0 := by unfold tkE; rw [if_neg (by rw [← hu, ← hr]; exact hfull)]
    have E2 : tkA X = tk X := by unfold tkA; rw [if_neg (by rw [← hu, ← hr]; exact hfull)]
    have E3 : tkH X = hdl (tk X) (tq X) := by unfold tkH; rw [if_neg (by rw [← hu, ← hr]; exact hfull)]
    rw [E1, E2]
    obtain ⟨K, hK⟩ : ∃ K, K = tkH X := ⟨_, rfl⟩
    rw [← hK]
    obtain ⟨q, hq⟩ : ∃ q, q = tq X := ⟨_, rfl⟩
    obtain ⟨s, hs⟩ : ∃ s, s = X.st.getD (tq X) 0 := ⟨_, rfl⟩
    have hodd : (tk X).st.getD (tq X) 0 % 2 = 1 := by rw [ht.now]; have := ht.was; omega
    have hyes := handle_yes ht.q hodd
    rw [← hdl_at hodd, ← E3, ← hK, ← hq] at hyes
    have hsN : s ≤ N := by rw [hs]; exact ho.bd _
    have hse : s % 2 = 0 := by rw [hs]; exact ht.was
    have HHD : Hid (∀ W u1 u2 u3 l0 b, Own (BX (b + 1) (.slice none 0 0) (.slice none 0 0) (.slice none 0 0) (.int .i64 0) :: BX b u1 u2 u3 (.int .i64 r) :: RT (tk X) u1 :: RB (tk X) u2 :: RK (tk X) u3 :: l0) W → Calls Try.prog 25 #[.agg #[u1, u2, u3, .int .i64 r], .int .i64 q] W fun e w' => e = .returned (.tuple #[.int .u64 (K : Int), .bool true]) ∧ Ext W w') := Lib.hid (fun W u1 u2 u3 l0 b hW => by
      have hc := rhandle_any (ref_of hW.drop.drop) ho2 (by omega) (q : Int)
      rw [hyes.1, hyes.2] at hc
      rw [hr]
      exact hc)
    have HCP : Hid (∀ W l0, Own (RT X (.slice a1 X.st.length c1) :: RB X (.slice a2 X.st.length c2) :: RK X (.slice a3 X.bk.length c3) :: l0) W → Calls Try.prog 44 #[.agg #[.slice a1 X.st.length c1, .slice a2 X.st.length c2, .slice a3 X.bk.length c3, .int .i64 r]] W fun e w' => ∃ u1 u2, e = .returned (.agg #[u1, u2, .slice a3 X.bk.length c3, .int .i64 r]) ∧ Own (RT X u1 :: RB X u2 :: RK X (.slice a3 X.bk.length c3) :: l0) w') := Lib.hid (fun W l0 hW => by
      rw [hr]
      exact rcopied_any hW ho)
    have hL6 : X.st.length ≤ 65536 := Nat.le_trans ho.len ho.r2
    have hB6 : X.bk.length ≤ 65536 := by have := ho.sum; omega
    have uu : ((u : Int) == (r : Int)) = false := by rw [beq_eq_false_iff_ne]; omega
    have hR := Lib.hid hr
    have hN2 : ((((s + 1) / 2 : Nat) : Int)) ≤ 2147483648 ∧ 0 ≤ ((((s + 1) / 2 : Nat) : Int)) := by omega
    obtain ⟨tn, htn⟩ : ∃ tn : Int, tn = (((s + 1) / 2 : Nat) : Int) := ⟨_, rfl⟩
    rw [← htn] at hN2
    obtain ⟨hN3, hN4⟩ := hN2
    by_cases hbk : X.bk = []
    · have hbl : X.bk.length = 0 := by rw [hbk]; rfl
      have hqL : q = X.st.length := by rw [hq]; unfold tq; rw [if_pos hbk]
      have hs0 : st0 X = X.st ++ [0] := by unfold st0; rw [if_pos hbk]
      have hlen : (tk X).st.length = X.st.length + 1 := by show ((st0 X).set _ _).length = _; rw [List.length_set, hs0, List.length_append]; rfl
      have ERK : RK X (.slice a3 X.bk.length c3) = RK (tk X) (.slice a3 0 c3) := by
        have e : (tk X).bk = [] := by show X.bk.dropLast = []; rw [hbk]; rfl
        show RowR _ _ _ X.bk.length (is X.bk) = RowR _ _ _ (tk X).bk.length (is (tk X).bk)
        rw [e, hbk]
        rfl
      have HLN := Lib.hid hlen
      have HTS : Hid (tms X ++ [.int .i64 0] = mt (st0 X)) := Lib.hid (by rw [hs0]; unfold tms mt; rw [List.map_append]; rfl)
      have HBS : Hid (tbs X ++ [.bool false] = mb (st0 X)) := Lib.hid (by rw [hs0]; unfold tbs mb; rw [List.map_append]; rfl)
      have hs0' : (st0 X).getD q 0 = s := by rw [st0_get, hs, hq]
      have hq0 : q < (st0 X).length := by rw [hs0, List.length_append, hqL]; simp
      have hat : (mt (st0 X))[q]? = some (.int .i64 tn) := by rw [mt_at _ _ hq0, hs0', ← htn]
      have hab : (mb (st0 X))[q]? = some (.bool false) := by rw [mb_at _ _ hq0, hs0']; simp [hse]
      have hst : (tk X).st = (st0 X).set q (s + 1) := by show (st0 X).set (tq X) ((st0 X).getD (tq X) 0 + 1) = _; rw [← hq, hs0']
      have ht1 : (mt (st0 X)).set q (.int .i64 (tn + 1)) = tms (tk X) := by rw [htn, mt_set _ _ _ hse]; unfold tms; rw [hst]; rfl
      have hb1 : (mb (st0 X)).set q (.bool true) = tbs (tk X) := by rw [mb_set _ _ s hse]; unfold tbs; rw [hst]; rfl
      have HAT := Lib.hid (And.intro hat hab)
      have HST := Lib.hid (And.intro ht1 hb1)
      have HERK := Lib.hid ERK
      have hqn : q < (tk X).st.length := by rw [hlen, hqL]; omega
      rw [hbl] at hW1 b2 H1 HUS HCP HERK HW
      rw [hbl]
      clear hq
      subst hqL
      clear h h1 ho hu E1 E2 E3 hW1 hr ht ho2 hK hs hodd hyes hsN hse htn hbl hs0 hlen ERK hs0' hq0 hat hab hst ht1 hb1 hbk hlt hfull HUL hB6
      go_enter Try.func23, Try.ntmps23
      go_upto_region 1 with fail
      rw [← HW.out]
      clear HW
      go_region_held3 (fun w' => w'.cell? ⟨w.heap.size, 0, none⟩ = some (.slice a1 X.st.length c1) ∧ w'.cell? ⟨w.heap.size, 1, none⟩ = some (.slice a2 X.st.length c2) ∧ w'.cell? ⟨w.heap.size, 2, none⟩ = some (.slice a3 0 c3) ∧ w'.cell? ⟨w.heap.size, 3, none⟩ = some (.int .i64 r))
        (first | go_keep | (go_split_ands; exact ⟨y0, y1, y2, y3⟩))
        ((go_at_call 27; refine (HUS.out _ (Ext.refl W1).drew).mono ?_; rintro e' w2 ⟨rfl, hx2⟩; have hx3 := (Ext.refl W1).drew.trans hx2; have y0 := hx3.cell b0; have y1 := hx3.cell b1; have y2 := hx3.cell b2; have y3 := hx3.cell b3; have H2 := Lib.hid (H1.out.step hx3); obtain ⟨k0, k1, k2, k3, f0, f1, f2, f3⟩ := bx_cells (b := w.heap.size) H2.out (.tail _ (.head _)); clear k0 k1 k2 k3; clear hx2 hx3))
      have HI3 := Lib.hid info3
      have HI4 := Lib.hid info4
      have M1 : Hid ((X.st.length + 1) * 8 ≤ 140737488355328) := Lib.hid (by omega)
      have M2 : Hid ((X.st.length + 1) * 1 ≤ 140737488355328) := Lib.hid (by omega)
      go_wp2_with (first
        | (go_at_call 44; refine (HCP.out _ _ H2.out.rot23).mono ?_; rintro e' w3 ⟨u1, u2, rfl, h3⟩
           obtain ⟨p1, d1, rfl⟩ := h3.rowR.slice
           obtain ⟨p2, d2, rfl⟩ := h3.second.rowR.slice
           have h4 := h3.rot32.swap
           obtain ⟨k0, k1, k2, k3, f0, f1, f2, f3⟩ := bx_cells (b := w.heap.size) h4 (.head _)
           obtain ⟨w4, hw4, h4⟩ := bx_all h4 (.slice p1 X.st.length d1) (.slice p2 X.st.length d2) (.slice a3 0 c3) (.int .i64 r)
           obtain ⟨e0, e1, e2, e3, g0, g1, g2, g3⟩ := bx_cells (b := w.heap.size) h4 (.head _)
           have H4 := Lib.hid h4
           clear h3 h4)
        | (at_builtin; refine app_R1 rfl _ _ _ _ _ 1 8 rfl Try.underlying41 HI3.out rfl (by omega) (by omega) (.slice p1 X.st.length d1) X.st.length (tms X) [.int .i64 0] rfl _ rfl rfl rfl (by simp [Value.oneCell']) (by exact H4.out.third.rowR) M1.out ?_
           intro v1 w5 hown hgrow hmv
           have h5 := H4.out.third.rowRGrown hown rfl hgrow hmv
           rw [HTS.out, ← HLN.out] at h5
           obtain ⟨g1, d1, rfl, hc1, -⟩ := h5.rowR.form (by rw [HLN.out]; omega)
           obtain ⟨k0, k1, k2, k3, f0, f1, f2, f3⟩ := bx_cells (b := w.heap.size) h5 (.tail _ (.head _))
           have h6 := bx_set0 h5.swap (.slice (some ⟨g1, 0, none⟩) (tk X).st.length d1)
           obtain ⟨w6, hw6⟩ : ∃ w6, w5.setCell ⟨w.heap.size, 0, none⟩ (.slice (some ⟨g1, 0, none⟩) (tk X).st.length d1) = w6 := ⟨_, rfl⟩
           rw [hw6] at h6
           obtain ⟨n0, n1, n2, n3, -, -, -, -⟩ := bx_cells (b := w.heap.size) h6 (.head _)
           have H6 := Lib.hid h6
           clear h5 h6 hown hgrow hmv)
        | (at_builtin; refine app_R1 rfl _ _ _ _ _ 1 1 rfl Try.underlying25 HI4.out rfl (by omega) (by omega) (.slice p2 X.st.length d2) X.st.length (tbs X) [.bool false] rfl _ rfl rfl rfl (by simp [Value.oneCell']) (by exact H6.out.fourth.rowR) M2.out ?_
           intro v1 w7 hown hgrow hmv
           have h7 := H6.out.fourth.rowRGrown hown rfl hgrow hmv
           rw [HBS.out, ← HLN.out] at h7
           obtain ⟨g2, d2, rfl, hc2, -⟩ := h7.rowR.form (by rw [HLN.out]; omega)
           obtain ⟨k0, k1, k2, k3, f0, f1, f2, f3⟩ := bx_cells (b := w.heap.size) h7 (.tail _ (.head _))
           have h8 := bx_set1 h7.swap (.slice (some ⟨g2, 0, none⟩) (tk X).st.length d2)
           obtain ⟨w8, hw8⟩ : ∃ w8, w7.setCell ⟨w.heap.size, 1, none⟩ (.slice (some ⟨g2, 0, none⟩) (tk X).st.length d2) = w8 := ⟨_, rfl⟩
           rw [hw8] at h8
           obtain ⟨w9, w10, hw9, hw10, ⟨t0, t1, t2⟩, ⟨t3, t4, t5⟩, ⟨t6, t7, t8, t9⟩, hf0⟩ := take_tail h8 HAT.out.1 HAT.out.2
           rw [HST.out.1, HST.out.2, HERK.out] at hf0
           have HF0 := Lib.hid hf0
           clear h7 h8 hf0 hown hgrow hmv)
        | (go_at_call 25; refine (HHD.out _ _ _ _ _ _ HF0.out).mono ?_; rintro e' w11 ⟨rfl, hx2⟩
           have H11 := Lib.hid (HF0.out.step hx2)
           obtain ⟨m0, m1, m2, m3, -, -, -, -⟩ := bx_cells (b := w.heap.size) H11.out (.tail _ (.head _))
           obtain ⟨z0, z1, z2, z3, f0, f1, f2, f3⟩ := bx_cells (b := w.heap.size + 1) H11.out (.head _)
           obtain ⟨w12, hw12, h12⟩ := bx_all H11.out (.slice (some ⟨g1, 0, none⟩) (tk X).st.length d1) (.slice (some ⟨g2, 0, none⟩) (tk X).st.length d2) (.slice a3 0 c3) (.int .i64 r)
           obtain ⟨r0, r1, r2, r3, -, -, -, -⟩ := bx_cells (b := w.heap.size + 1) h12 (.head _)
           have HRR := Lib.hid (And.intro r0 (And.intro r1 (And.intro r2 r3)))
           have H12 := Lib.hid h12
           clear hx2 h12 r0 r1 r2 r3))
      obtain ⟨r0, r1, r2, r3⟩ := HRR.out
      exact bodyPost_ret (v := .tuple #[.agg #[.slice (some ⟨g1, 0, none⟩) (tk X).st.length d1, .slice (some ⟨g2, 0, none⟩) (tk X).st.length d2, .slice a3 0 c3, .int .i64 r], .int .u64 K, .int .i64 0]) (by simp [results, Try.results23, go_sem, r0, r1, r2, r3]) rfl ⟨_, _, _, by rw [hR.out]; rfl, by exact H12.out.drop.drop⟩
    · obtain ⟨m, hm⟩ : ∃ m, X.bk.length = m + 1 := by
        cases hb : X.bk.length with
        | zero => exact (hbk (List.length_eq_zero_iff.1 hb)).elim
        | succ m => exact ⟨m, rfl⟩
      obtain ⟨g3, cp3, ev, hc3, -⟩ := h.third.rowR.form (by omega)
      injection ev with ev1 _ ev3
      subst ev1 ev3
      have hql : tq X = X.bk.getD m 0 := by
        unfold tq
        rw [if_neg hbk, List.getLastD_eq_getLast?, List.getLast?_eq_getElem?, hm]
        rfl
      have hs0 : st0 X = X.st := by unfold st0; rw [if_neg hbk]
      have hlen : (tk X).st.length = X.st.length := by show ((st0 X).set _ _).length = _; rw [List.length_set, hs0]
      have hbl : (tk X).bk = X.bk.take m := by show X.bk.dropLast = _; rw [List.dropLast_eq_take, hm]; rfl
      have hqn : q < X.st.length := by rw [← hlen, hq]; exact ht.q
      have hL0 : 0 < X.st.length := by omega
      have ERK : RowR 3 1 (.slice (some ⟨g3, 0, none⟩) m c3) m ((is X.bk).take (m * 1)) = RK (tk X) (.slice (some ⟨g3, 0, none⟩) m c3) := by
        show _ = RowR _ _ _ (tk X).bk.length (is (tk X).bk)
        rw [hbl, List.length_take, hm, Nat.min_eq_left (by omega), Nat.mul_one]
        unfold is
        rw [List.map_take]
      have ERT : ∀ v, RowR 3 1 v X.st.length (tms (tk X)) = RT (tk X) v := fun v => by rw [← hlen]
      have ERB : ∀ v, RowR 4 1 v X.st.length (tbs (tk X)) = RB (tk X) v := fun v => by rw [← hlen]
      have hs0' : (st0 X).getD q 0 = s := by rw [st0_get, hs, hq]
      have hq0 : q < (st0 X).length := by rw [hs0]; exact hqn
      have hat : (tms X)[q]? = some (.int .i64 tn) := by
        show (mt X.st)[q]? = _
        rw [← hs0, mt_at _ _ hq0, hs0', ← htn]
      have hab : (tbs X)[q]? = some (.bool false) := by
        show (mb X.st)[q]? = _
        rw [← hs0, mb_at _ _ hq0, hs0']; simp [hse]
      have hst : (tk X).st = (st0 X).set q (s + 1) := by show (st0 X).set (tq X) ((st0 X).getD (tq X) 0 + 1) = _; rw [← hq, hs0']
      have ht1 : (tms X).set q (.int .i64 (tn + 1)) = tms (tk X) := by
        show (mt X.st).set q _ = _
        rw [← hs0, htn, mt_set _ _ _ hse]; unfold tms; rw [hst]; rfl
      have hb1 : (tbs X).set q (.bool true) = tbs (tk X) := by
        show (mb X.st).set q _ = _
        rw [← hs0, mb_set _ _ s hse]; unfold tbs; rw [hst]; rfl
      have HAT := Lib.hid (And.intro hat hab)
      have HST := Lib.hid (And.intro ht1 hb1)
      have HEK0 : Hid (∀ v, RK X v = RowR 3 1 v (m + 1) (is X.bk)) := Lib.hid (fun v => by
        show RowR _ _ _ X.bk.length _ = _
        rw [hm])
      have HERK := Lib.hid ERK
      have HERT := Lib.hid ERT
      have HERB := Lib.hid ERB
      have HAB : Hid ((is X.bk)[m]? = some (.int .i64 (q : Int))) := Lib.hid (by rw [is_at _ _ (by omega), hq, hql])
      rw [hm] at hW1 b2 H1 HUS HCP HW hB6 hc3
      rw [hm]
      have cM1 : ((m : Int) + 1 - 1) = (m : Int) := by omega
      have cM2 : (((m + 1 : Nat) : Int) - 1) = (m : Int) := by omega
      have hm6 : m ≤ 65536 := by omega
      have hmc : m ≤ c3 := by omega
      clear h h1 ho hu E1 E2 E3 hW1 hr ht ho2 hK hq hs hodd hyes hsN hse htn hbl hs0 hlen ERK ERT ERB hs0' hq0 hat hab hst ht1 hb1 hbk hlt hfull HUL hql hm
      go_enter Try.func23, Try.ntmps23
      go_upto_region 1 with fail
      rw [← HW.out]
      clear HW
      go_region_held3 (fun w' => w'.cell? ⟨w.heap.size, 0, none⟩ = some (.slice a1 X.st.length c1) ∧ w'.cell? ⟨w.heap.size, 1, none⟩ = some (.slice a2 X.st.length c2) ∧ w'.cell? ⟨w.heap.size, 2, none⟩ = some (.slice (some ⟨g3, 0, none⟩) (m + 1) c3) ∧ w'.cell? ⟨w.heap.size, 3, none⟩ = some (.int .i64 r))
        (first | go_keep | (go_split_ands; exact ⟨y0, y1, y2, y3⟩))
        ((go_at_call 27; refine (HUS.out _ (Ext.refl W1).drew).mono ?_; rintro e' w2 ⟨rfl, hx2⟩; have hx3 := (Ext.refl W1).drew.trans hx2; have y0 := hx3.cell b0; have y1 := hx3.cell b1; have y2 := hx3.cell b2; have y3 := hx3.cell b3; have H2 := Lib.hid (H1.out.step hx3); obtain ⟨k0, k1, k2, k3, f0, f1, f2, f3⟩ := bx_cells (b := w.heap.size) H2.out (.tail _ (.head _)); clear k0 k1 k2 k3; clear hx2 hx3))
      go_wp2_with (first
        | (go_at_call 44; refine (HCP.out _ _ H2.out.rot23).mono ?_; rintro e' w3 ⟨u1, u2, rfl, h3⟩
           obtain ⟨g1, d1, rfl, hc1, -⟩ := h3.rowR.form hL0
           obtain ⟨g2, d2, rfl, hc2, -⟩ := h3.second.rowR.form hL0
           have h4 := h3.rot32.swap
           obtain ⟨k0, k1, k2, k3, f0, f1, f2, f3⟩ := bx_cells (b := w.heap.size) h4 (.head _)
           obtain ⟨w4, hw4, h4⟩ := bx_all h4 (.slice (some ⟨g1, 0, none⟩) X.st.length d1) (.slice (some ⟨g2, 0, none⟩) X.st.length d2) (.slice (some ⟨g3, 0, none⟩) (m + 1) c3) (.int .i64 r)
           obtain ⟨e0, e1, e2, e3, g40, g41, g42, g43⟩ := bx_cells (b := w.heap.size) h4 (.head _)
           have hbc := (((Own.fifth h4).rowR).cells rfl m _ HAB.out).1
           have h5 := bx_set2 h4 (.slice (some ⟨g3, 0, none⟩) m c3)
           obtain ⟨w8, hw8⟩ : ∃ w8, w4.setCell ⟨w.heap.size, 2, none⟩ (.slice (some ⟨g3, 0, none⟩) m c3) = w8 := ⟨_, rfl⟩
           rw [hw8, HEK0.out] at h5
           have h6 := (Own.fifth (Own.rowRCut (k := m) (Own.fifth h5) (by omega) hc3).third.fourth.fifth)
           obtain ⟨w9, w10, hw9, hw10, ⟨t0, t1, t2⟩, ⟨t3, t4, t5⟩, ⟨t6, t7, t8, t9⟩, hf0⟩ := take_tail h6 HAT.out.1 HAT.out.2
           rw [HST.out.1, HST.out.2, HERK.out, HERT.out, HERB.out] at hf0
           have HF0 := Lib.hid hf0
           clear h3 h4 h5 h6 hf0)
        | (go_at_call 25; refine (HHD.out _ _ _ _ _ _ HF0.out).mono ?_; rintro e' w11 ⟨rfl, hx2⟩
           have H11 := Lib.hid (HF0.out.step hx2)
           obtain ⟨m0, m1, m2, m3, -, -, -, -⟩ := bx_cells (b := w.heap.size) H11.out (.tail _ (.head _))
           obtain ⟨z0, z1, z2, z3, f0, f1, f2, f3⟩ := bx_cells (b := w.heap.size + 1) H11.out (.head _)
           obtain ⟨w12, hw12, h12⟩ := bx_all H11.out (.slice (some ⟨g1, 0, none⟩) X.st.length d1) (.slice (some ⟨g2, 0, none⟩) X.st.length d2) (.slice (some ⟨g3, 0, none⟩) m c3) (.int .i64 r)
           obtain ⟨r0, r1, r2, r3, -, -, -, -⟩ := bx_cells (b := w.heap.size + 1) h12 (.head _)
           have HRR := Lib.hid (And.intro r0 (And.intro r1 (And.intro r2 r3)))
           have H12 := Lib.hid h12
           clear hx2 h12 r0 r1 r2 r3))
      obtain ⟨r0, r1, r2, r3⟩ := HRR.out
      exact bodyPost_ret (v := .tuple #[.agg #[.slice (some ⟨g1, 0, none⟩) X.st.length d1, .slice (some ⟨g2, 0, none⟩) X.st.length d2, .slice (some ⟨g3, 0, none⟩) m c3, .int .i64 r], .int .u64 K, .int .i64 0]) (by simp [results, Try.results23, go_sem, r0, r1, r2, r3]) rfl ⟨_, _, _, by rw [hR.out]; rfl, by exact H12.out.drop.drop⟩
end Go.Proofs.Ytekdgghekdajbaa.Ar
