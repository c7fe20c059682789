/- DERIVED. Layer 10 (store): the document's store: contract of Free. -/
import Derived.Test.YtekdgghekdajbaaStS
set_option linter.unusedVariables false
set_option linter.unusedSimpArgs false
set_option maxRecDepth 100000
namespace Go.Proofs.Ytekdgghekdajbaa.St
open Go.RowKit Go.Proofs.Ytekdgghekdajbaa Go.Proofs.Ytekdgghekdajbaa.Ar

def flt (E : List HE) (hh k : Nat) : List HE := (E.take k).filter fun p => decide (p.1 ≠ hh)
theorem flt_succ {E : List HE} {hh k : Nat} {p : HE} (hp : E[k]? = some p) : flt E hh (k + 1) = if p.1 = hh then flt E hh k else flt E hh k ++ [p] := by
  unfold flt
  rw [List.take_add_one, hp, List.filter_append]
  by_cases hs : p.1 = hh <;> simp [hs]
theorem flt_len (E : List HE) (hh k : Nat) : (flt E hh k).length ≤ k := by
  unfold flt
  exact Nat.le_trans (List.length_filter_le _ _) (by rw [List.length_take]; omega)
theorem _root_.Go.Proofs.Ytekdgghekdajbaa.Own.drApp {F : List HE} {p : HE} {v v1 : Value} {l : List HP} {W w1 : World} (h : Own (DHO v F :: l) W) (hr : w1.ownsRow 0 106 8 v1 (F.length + 1) (F.flatMap o8 ++ [.int .u64 (p.1 : Int), .int .u64 p.2.k, .int .u64 p.2.c, .int .i64 p.2.len, .int .u8 p.2.pr, .int .u64 p.2.at_, .int .u64 p.2.seq, .int .u64 p.2.came])) (hg : W.grownBy w1 v.ownBlock) (hm : Moved W v v1) : Own (DHO v1 (F ++ [p]) :: l) w1 := by
  rw [← o8_snoc] at hr
  have := h.rowApp hr hg hm
  unfold DHO
  rw [List.length_append]
  exact this
theorem room_gvA (X : A) (h : Nat) : (gvA X h).room = X.room := by unfold gvA; split <;> rfl
def FrI (l : List HP) (X : A) (b b4 n hh : Nat) (r : Int) (x : Hd) (nx : Int) (v1 v2 v3 vL : Value) (E : List HE) (s9 vi : Value) (wr : World) : Prop :=
  ∃ k : Nat, vi = .int .i64 (k : Int) ∧ k ≤ n ∧ Own (DHO s9 (flt E hh k) :: BH b4 x :: BH (b + 1 + 1) zeroH :: BZ (b + 1) :: BS b v1 v2 v3 r vL nx :: RT X v1 :: RB X v2 :: RK X v3 :: DH vL n E :: l) wr
section
variable {N : Nat} {X : A} {v1 v2 v3 vL : Value} {r : Nat} {nx : Int} {n : Nat} {E : List HE} {l : List HP} {w : World}
/-- the store and what was held, written into the results -/
theorem fr_res {b b4 : Nat} {u1 u2 u3 uL : Value} {x : Hd} {l : List HP} {w : World} (h : Own (BH b4 x :: BH (b + 1 + 1) zeroH :: BZ (b + 1) :: BS b u1 u2 u3 (r : Int) uL nx :: l) w) :
    ∃ wA wB, ((((((w.setCell ⟨b + 1, 0, none⟩ u1).setCell ⟨b + 1, 1, none⟩ u2).setCell ⟨b + 1, 2, none⟩ u3).setCell ⟨b + 1, 3, none⟩ (.int .i64 (r : Int))).setCell ⟨b + 1, 4, none⟩ uL).setCell ⟨b + 1, 5, none⟩ (.int .u64 nx)) = wA ∧
      (((((((wA.setCell ⟨b + 1 + 1, 0, none⟩ (.int .u64 x.k)).setCell ⟨b + 1 + 1, 1, none⟩ (.int .u64 x.c)).setCell ⟨b + 1 + 1, 2, none⟩ (.int .i64 x.len)).setCell ⟨b + 1 + 1, 3, none⟩ (.int .u8 x.pr)).setCell ⟨b + 1 + 1, 4, none⟩ (.int .u64 x.at_)).setCell ⟨b + 1 + 1, 5, none⟩ (.int .u64 x.seq)).setCell ⟨b + 1 + 1, 6, none⟩ (.int .u64 x.came)) = wB ∧
      Own (BH (b + 1 + 1) zeroH :: BS (b + 1) u1 u2 u3 (r : Int) uL nx :: BH b4 x :: BS b u1 u2 u3 (r : Int) uL nx :: l) wA ∧ Own (BH (b + 1 + 1) x :: BS (b + 1) u1 u2 u3 (r : Int) uL nx :: BH b4 x :: BS b u1 u2 u3 (r : Int) uL nx :: l) wB := by
  obtain ⟨wA, eA, hA⟩ := Own.bsSet (b := b + 1) (v1 := nilv) (v2 := nilv) (v3 := nilv) (r := 0) (vL := nilv) (nx := 0) (v1' := u1) (v2' := u2) (v3' := u3) (r' := (r : Int)) (vL' := uL) (nx' := nx) (Own.re 4 [2, 1, 0, 3] rfl h)
  obtain ⟨wB, eB, hB⟩ := Own.bhSet (y := x) (x := zeroH) (b := b + 1 + 1) hA.swap
  exact ⟨wA, wB, eA, eB, hA.swap, hB⟩
set_option maxHeartbeats 2000000 in
theorem rsfree_no (h : Own (RT X v1 :: RB X v2 :: RK X v3 :: DH vL n E :: l) w) (hL : E.length = n) (bn : n ≤ 60000) (nd : (E.map (·.1)).Nodup) (hh : Nat) (hx : lookH E hh = none) :
    Calls Try.prog 37 #[sv v1 v2 v3 r vL nx, .int .u64 hh] w fun e w' => e = .returned (.tuple #[sv v1 v2 v3 r vL nx, hagg zeroH, .bool false]) ∧ Own (RT X v1 :: RB X v2 :: RK X v3 :: DH vL n E :: l) w' := by
  obtain ⟨a1, c1, rfl⟩ := h.rowR.slice
  obtain ⟨a2, c2, rfl⟩ := h.swap.rowR.slice
  obtain ⟨a3, c3, rfl⟩ := h.third.rowR.slice
  obtain ⟨aL, cL, rfl⟩ := h.fourth.rowR.slice
  obtain ⟨b, hb0⟩ : ∃ b, w.heap.size = b := ⟨_, rfl⟩
  obtain ⟨W1, hW1, hs1, h1⟩ := boxN h hb0 #[.slice a1 X.st.length c1, .slice a2 X.st.length c2, .slice a3 X.bk.length c3, .int .i64 (r : Int), .slice aL n cL, .int .u64 nx] 79
  obtain ⟨W2, hW2, hs2, h2⟩ := boxN h1 hs1 #[nilv, nilv, nilv, .int .i64 0, nilv, .int .u64 0] 79
  obtain ⟨W3, hW3, hs3, h3⟩ := boxN h2 hs2 #[.int .u64 0, .int .u64 0, .int .i64 0, .int .u8 0, .int .u64 0, .int .u64 0, .int .u64 0] 72
  obtain ⟨LX, hLX⟩ : ∃ LX, LX = BH (b + 1 + 1) zeroH :: BZ (b + 1) :: BS b (.slice a1 X.st.length c1) (.slice a2 X.st.length c2) (.slice a3 X.bk.length c3) (r : Int) (.slice aL n cL) nx :: l := ⟨_, rfl⟩
  have h4 : Own (RT X (.slice a1 X.st.length c1) :: RB X (.slice a2 X.st.length c2) :: RK X (.slice a3 X.bk.length c3) :: DH (.slice aL n cL) n E :: LX) W3 := by
    rw [hLX]; exact Own.re 7 [3, 4, 5, 6, 0, 1, 2] rfl h3
  have HG := Lib.hid (rsget_any (r := r) (nx := nx) h4 hL bn nd hh)
  unfold getH at HG
  rw [hx] at HG
  obtain ⟨c0, c1', c2', c3', c4, c5, -⟩ := bs_cells (b := b) (v1 := (.slice a1 X.st.length c1)) (v2 := (.slice a2 X.st.length c2)) (v3 := (.slice a3 X.bk.length c3)) (r := (r : Int)) (vL := (.slice aL n cL)) (nx := nx) h3 (by simp)
  have HLX := Lib.hid hLX
  have HB := Lib.hid hb0
  have HW1 := Lib.hid hW1
  have HW2 := Lib.hid hW2
  have HW3 := Lib.hid hW3
  clear h h1 h2 h3 h4 hb0 hW1 hW2 hW3 hs1 hs2 hs3 hLX hL nd hx
  go_enter Try.func37, Try.ntmps37
  go_upto_region 1 with fail
  rw [HB.out, HW1.out, HW2.out, HW3.out]
  clear HB HW1 HW2 HW3
  go_wp2_with fail
  (with_reducible refine (HG.out).mono ?_)
  rintro e w4 ⟨rfl, h5⟩
  obtain ⟨b4, hb4⟩ : ∃ b4, w4.heap.size = b4 := ⟨_, rfl⟩
  obtain ⟨W5, hW5, -, h6⟩ := boxN h5 hb4 #[.int .u64 zeroH.k, .int .u64 zeroH.c, .int .i64 zeroH.len, .int .u8 zeroH.pr, .int .u64 zeroH.at_, .int .u64 zeroH.seq, .int .u64 zeroH.came] 72
  rw [HLX.out] at h6
  have H : Hid (Own (BH b4 zeroH :: BH (b + 1 + 1) zeroH :: BZ (b + 1) :: BS b (.slice a1 X.st.length c1) (.slice a2 X.st.length c2) (.slice a3 X.bk.length c3) (r : Int) (.slice aL n cL) nx :: RT X (.slice a1 X.st.length c1) :: RB X (.slice a2 X.st.length c2) :: RK X (.slice a3 X.bk.length c3) :: DH (.slice aL n cL) n E :: l) W5) := Lib.hid (Own.re 8 [0, 5, 6, 7, 1, 2, 3, 4] rfl h6)
  have HB4 := Lib.hid hb4
  have HW5 := Lib.hid hW5
  clear h5 h6 hb4 hW5 HG c0 c1' c2' c3' c4 c5
  go_upto_region 3 with fail
  rw [HB4.out, HW5.out]
  clear HW5 HB4
  obtain ⟨wA, wB, eA, eB, hA, hB⟩ := fr_res (b := b) (b4 := b4) (u1 := (.slice a1 X.st.length c1)) (u2 := (.slice a2 X.st.length c2)) (u3 := (.slice a3 X.bk.length c3)) (uL := (.slice aL n cL)) (r := r) (nx := nx) (x := zeroH) H.out
  obtain ⟨s0, s1, s2, s3, s4, s5, -⟩ := bs_cells (b := b) (v1 := (.slice a1 X.st.length c1)) (v2 := (.slice a2 X.st.length c2)) (v3 := (.slice a3 X.bk.length c3)) (r := (r : Int)) (vL := (.slice aL n cL)) (nx := nx) H.out (by simp)
  obtain ⟨t0, t1, t2, t3, t4, t5, t6, -⟩ := bh_cells (b := b4) (x := zeroH) H.out (.head _)
  obtain ⟨z0, z1, z2, z3, z4, z5, f0, f1, f2, f3, f4, f5⟩ := bs_cells (b := b + 1) (v1 := nilv) (v2 := nilv) (v3 := nilv) (r := 0) (vL := nilv) (nx := 0) H.out (by simp)
  obtain ⟨as0, as1, as2, as3, as4, as5, -⟩ := bs_cells (b := b) (v1 := (.slice a1 X.st.length c1)) (v2 := (.slice a2 X.st.length c2)) (v3 := (.slice a3 X.bk.length c3)) (r := (r : Int)) (vL := (.slice aL n cL)) (nx := nx) hA (by simp)
  obtain ⟨at0, at1, at2, at3, at4, at5, at6, -⟩ := bh_cells (b := b4) (x := zeroH) hA (by simp)
  obtain ⟨ay0, ay1, ay2, ay3, ay4, ay5, ay6, ag0, ag1, ag2, ag3, ag4, ag5, ag6⟩ := bh_cells (b := b + 1 + 1) (x := zeroH) hA (.head _)
  obtain ⟨bs0, bs1, bs2, bs3, bs4, bs5, -⟩ := bs_cells (b := b) (v1 := (.slice a1 X.st.length c1)) (v2 := (.slice a2 X.st.length c2)) (v3 := (.slice a3 X.bk.length c3)) (r := (r : Int)) (vL := (.slice aL n cL)) (nx := nx) hB (by simp)
  obtain ⟨bt0, bt1, bt2, bt3, bt4, bt5, bt6, -⟩ := bh_cells (b := b4) (x := zeroH) hB (by simp)
  obtain ⟨q0, q1, q2, q3, q4, q5, -⟩ := bs_cells (b := b + 1) (v1 := (.slice a1 X.st.length c1)) (v2 := (.slice a2 X.st.length c2)) (v3 := (.slice a3 X.bk.length c3)) (r := (r : Int)) (vL := (.slice aL n cL)) (nx := nx) hB (.tail _ (.head _))
  obtain ⟨k0, k1, k2, k3, k4, k5, k6, -⟩ := bh_cells (b := b + 1 + 1) (x := zeroH) hB (.head _)
  unfold zeroH at ay0 ay1 ay2 ay3 ay4 ay5 ay6
  have HB2 := Lib.hid hB
  clear hA hB
  go_region_held3 (fun w' => w'.cell? ⟨b, 0, none⟩ = some (.slice a1 X.st.length c1) ∧ w'.cell? ⟨b, 1, none⟩ = some (.slice a2 X.st.length c2) ∧ w'.cell? ⟨b, 2, none⟩ = some (.slice a3 X.bk.length c3) ∧ w'.cell? ⟨b, 3, none⟩ = some (.int .i64 (r : Int)) ∧ w'.cell? ⟨b, 4, none⟩ = some (.slice aL n cL) ∧ w'.cell? ⟨b, 5, none⟩ = some (.int .u64 nx) ∧ w'.cell? ⟨b4, 0, none⟩ = some (.int .u64 zeroH.k) ∧ w'.cell? ⟨b4, 1, none⟩ = some (.int .u64 zeroH.c) ∧ w'.cell? ⟨b4, 2, none⟩ = some (.int .i64 zeroH.len) ∧ w'.cell? ⟨b4, 3, none⟩ = some (.int .u8 zeroH.pr) ∧ w'.cell? ⟨b4, 4, none⟩ = some (.int .u64 zeroH.at_) ∧ w'.cell? ⟨b4, 5, none⟩ = some (.int .u64 zeroH.seq) ∧ w'.cell? ⟨b4, 6, none⟩ = some (.int .u64 zeroH.came))
    (first | (refine ⟨?_, ?_, ?_, ?_, ?_, ?_, ?_, ?_, ?_, ?_, ?_, ?_, ?_⟩ <;> first | assumption | exact (Ext.refl _).drew.cell (by assumption)))
    (first | fail)
  go_wp2_with fail
  exact bodyPost_ret (v := .tuple #[sv (.slice a1 X.st.length c1) (.slice a2 X.st.length c2) (.slice a3 X.bk.length c3) r (.slice aL n cL) nx, hagg zeroH, .bool false]) (by simp [results, Try.results37, go_sem, q0, q1, q2, q3, q4, q5, k0, k1, k2, k3, k4, k5, k6]) rfl ((fun h => ⟨rfl, Own.drop (Own.drop (Own.drop (Own.drop h)))⟩) (HB2.out.step (Ext.refl _).drew))
set_option maxHeartbeats 2000000 in
theorem rsfree_yes (h : Own (RT X v1 :: RB X v2 :: RK X v3 :: DH vL n E :: l) w) (hL : E.length = n) (bn : n ≤ 60000) (nd : (E.map (·.1)).Nodup) (ho : Ok N X) (hN : N < 4294967294) (hr : r = X.room) (hh : Nat) (x : Hd) (hx : lookH E hh = some x) :
    Calls Try.prog 37 #[sv v1 v2 v3 r vL nx, .int .u64 hh] w fun e w' => ∃ u1 u2 u3 uL, e = .returned (.tuple #[sv u1 u2 u3 r uL nx, hagg x, .bool true]) ∧ Own (RT (gvA X hh) u1 :: RB (gvA X hh) u2 :: RK (gvA X hh) u3 :: DH uL (delH E hh).length (delH E hh) :: l) w' := by
  obtain ⟨a1, c1, rfl⟩ := h.rowR.slice
  obtain ⟨a2, c2, rfl⟩ := h.swap.rowR.slice
  obtain ⟨a3, c3, rfl⟩ := h.third.rowR.slice
  obtain ⟨aL, cL, rfl⟩ := h.fourth.rowR.slice
  obtain ⟨b, hb0⟩ : ∃ b, w.heap.size = b := ⟨_, rfl⟩
  obtain ⟨W1, hW1, hs1, h1⟩ := boxN h hb0 #[.slice a1 X.st.length c1, .slice a2 X.st.length c2, .slice a3 X.bk.length c3, .int .i64 (r : Int), .slice aL n cL, .int .u64 nx] 79
  obtain ⟨W2, hW2, hs2, h2⟩ := boxN h1 hs1 #[nilv, nilv, nilv, .int .i64 0, nilv, .int .u64 0] 79
  obtain ⟨W3, hW3, hs3, h3⟩ := boxN h2 hs2 #[.int .u64 0, .int .u64 0, .int .i64 0, .int .u8 0, .int .u64 0, .int .u64 0, .int .u64 0] 72
  obtain ⟨LX, hLX⟩ : ∃ LX, LX = BH (b + 1 + 1) zeroH :: BZ (b + 1) :: BS b (.slice a1 X.st.length c1) (.slice a2 X.st.length c2) (.slice a3 X.bk.length c3) (r : Int) (.slice aL n cL) nx :: l := ⟨_, rfl⟩
  have h4 : Own (RT X (.slice a1 X.st.length c1) :: RB X (.slice a2 X.st.length c2) :: RK X (.slice a3 X.bk.length c3) :: DH (.slice aL n cL) n E :: LX) W3 := by
    rw [hLX]; exact Own.re 7 [3, 4, 5, 6, 0, 1, 2] rfl h3
  have HG := Lib.hid (rsget_any (r := r) (nx := nx) h4 hL bn nd hh)
  unfold getH at HG
  rw [hx] at HG
  obtain ⟨c0, c1', c2', c3', c4, c5, -⟩ := bs_cells (b := b) (v1 := (.slice a1 X.st.length c1)) (v2 := (.slice a2 X.st.length c2)) (v3 := (.slice a3 X.bk.length c3)) (r := (r : Int)) (vL := (.slice aL n cL)) (nx := nx) h3 (by simp)
  have HLX := Lib.hid hLX
  have HB := Lib.hid hb0
  have HW1 := Lib.hid hW1
  have HW2 := Lib.hid hW2
  have HW3 := Lib.hid hW3
  obtain ⟨Y, hY⟩ : ∃ Y, Y = gvA X hh := ⟨_, rfl⟩
  obtain ⟨ER, hER⟩ : ∃ ER, ER = gvE X hh := ⟨_, rfl⟩
  rw [← hY]
  have HGV : Hid (∀ l W, Own (RT X (.slice a1 X.st.length c1) :: RB X (.slice a2 X.st.length c2) :: RK X (.slice a3 X.bk.length c3) :: l) W → Calls Try.prog 24 #[.agg #[(.slice a1 X.st.length c1), (.slice a2 X.st.length c2), (.slice a3 X.bk.length c3), .int .i64 (r : Int)], .int .u64 hh] W fun e w' => ∃ p1 d1 p2 d2 p3 d3, e = .returned (.tuple #[.agg #[(.slice p1 Y.st.length d1), (.slice p2 Y.st.length d2), (.slice p3 Y.bk.length d3), .int .i64 (r : Int)], .int .i64 ER]) ∧ Own (RT Y (.slice p1 Y.st.length d1) :: RB Y (.slice p2 Y.st.length d2) :: RK Y (.slice p3 Y.bk.length d3) :: l) w') := Lib.hid fun l W hW => by
    have hc := rgive_any hW ho hN hh
    rw [room_gvA, ← hr, ← hY, ← hER] at hc
    refine hc.mono ?_
    rintro e w' ⟨u1, u2, u3, rfl, h5⟩
    obtain ⟨x1, y1, rfl⟩ := h5.rowR.slice
    obtain ⟨x2, y2, rfl⟩ := h5.swap.rowR.slice
    obtain ⟨x3, y3, rfl⟩ := h5.third.rowR.slice
    exact ⟨_, _, _, _, _, _, rfl, h5⟩
  have HL := Lib.hid hL
  clear ho hN hr hY hER
  clear h h1 h2 h3 h4 hb0 hW1 hW2 hW3 hs1 hs2 hs3 hLX hL nd hx
  go_enter Try.func37, Try.ntmps37
  go_upto_region 1 with fail
  rw [HB.out, HW1.out, HW2.out, HW3.out]
  clear HB HW1 HW2 HW3
  go_wp2_with fail
  (with_reducible refine (HG.out).mono ?_)
  rintro e w4 ⟨rfl, h5⟩
  obtain ⟨b4, hb4⟩ : ∃ b4, w4.heap.size = b4 := ⟨_, rfl⟩
  obtain ⟨W5, hW5, -, h6⟩ := boxN h5 hb4 #[.int .u64 x.k, .int .u64 x.c, .int .i64 x.len, .int .u8 x.pr, .int .u64 x.at_, .int .u64 x.seq, .int .u64 x.came] 72
  rw [HLX.out] at h6
  have H : Hid (Own (BH b4 x :: BH (b + 1 + 1) zeroH :: BZ (b + 1) :: BS b (.slice a1 X.st.length c1) (.slice a2 X.st.length c2) (.slice a3 X.bk.length c3) (r : Int) (.slice aL n cL) nx :: RT X (.slice a1 X.st.length c1) :: RB X (.slice a2 X.st.length c2) :: RK X (.slice a3 X.bk.length c3) :: DH (.slice aL n cL) n E :: l) W5) := Lib.hid (Own.re 8 [0, 5, 6, 7, 1, 2, 3, 4] rfl h6)
  have HB4 := Lib.hid hb4
  have HW5 := Lib.hid hW5
  clear h5 h6 hb4 hW5 HG c0 c1' c2' c3' c4 c5
  go_upto_region 4 with fail
  rw [HB4.out, HW5.out]
  clear HW5 HB4
  have H4 : Hid (Own (DHO nilv (flt E hh 0) :: BH b4 x :: BH (b + 1 + 1) zeroH :: BZ (b + 1) :: BS b (.slice a1 X.st.length c1) (.slice a2 X.st.length c2) (.slice a3 X.bk.length c3) (r : Int) (.slice aL n cL) nx :: RT X (.slice a1 X.st.length c1) :: RB X (.slice a2 X.st.length c2) :: RK X (.slice a3 X.bk.length c3) :: DH (.slice aL n cL) n E :: l) W5) := Lib.hid (H.out.nilRow 106 8)
  clear H
  go_wp2_with fail
  go_loopw [9, 10] (fun s9 vi wr => FrI l X b b4 n hh (r : Int) x nx (.slice a1 X.st.length c1) (.slice a2 X.st.length c2) (.slice a3 X.bk.length c3) (.slice aL n cL) E s9 vi wr) (fun _ vi _ => n - (intOf vi).toNat)
  case atStart => exact ⟨0, rfl, Nat.zero_le _, H4.out⟩
  case round =>
    clear H4
    obtain ⟨k, rfl, hk, h⟩ := hrel
    obtain ⟨c0, c1', c2', c3', c4, c5, -⟩ := bs_cells (b := b) (v1 := (.slice a1 X.st.length c1)) (v2 := (.slice a2 X.st.length c2)) (v3 := (.slice a3 X.bk.length c3)) (r := (r : Int)) (vL := (.slice aL n cL)) (nx := nx) h (by simp)
    by_cases hlt : k < n
    · have hltI : (k : Int) < (n : Int) := by omega
      obtain ⟨p, hp⟩ : ∃ p, E[k]? = some p := ⟨_, List.getElem?_eq_getElem (by rw [HL.out]; exact hlt)⟩
      obtain ⟨g, rfl, gc, r0, r1, r2, r3, r4, r5, r6, r7⟩ := drow (Own.re 9 [8, 0, 1, 2, 3, 4, 5, 6, 7] rfl h) hlt hp
      have hs2 := flt_succ (hh := hh) hp
      obtain ⟨q, y⟩ := p
      simp only at r0 r1 r2 r3 r4 r5 r6 r7 hs2
      by_cases hs : q = hh
      · subst hs
        rw [if_pos rfl] at hs2
        have hn2 : ((q : Int) != (q : Int)) = false := by simp
        have HX : Hid (FrI l X b b4 n q (r : Int) x nx (.slice a1 X.st.length c1) (.slice a2 X.st.length c2) (.slice a3 X.bk.length c3) (.slice (some ⟨g, 0, none⟩) n cL) E u9 (.int .i64 ((k : Int) + 1)) wr) := Lib.hid ⟨k + 1, by go_num, by omega, by rw [hs2]; exact h⟩
        clear h hp hs2
        go_wp2_with fail
        exact ⟨HX.out, by simp [intOf]; omega⟩
      · rw [if_neg hs] at hs2
        have hn2 : ((q : Int) != (hh : Int)) = true := by simp; omega
        obtain ⟨M, hM⟩ : ∃ M, M = (flt E hh k).length := ⟨_, rfl⟩
        have hMk : M ≤ k := by rw [hM]; exact flt_len E hh k
        obtain ⟨va9, vc9, rfl⟩ := (ownsR_of h.row).slice
        rw [← hM] at h ⊢
        have H := Lib.hid h
        have HS2 := Lib.hid hs2
        have HM9 := Lib.hid hM
        clear h hp hs2 hs hM
        go_wp2_with (at_builtin; refine app_own (W := wr) rfl _ _ _ _ _ 8 64 rfl Try.underlying77 infoOne rfl (by omega) (by omega) (.slice va9 M vc9) M ((flt E hh k).flatMap o8) [.int .u64 (q : Int), .int .u64 y.k, .int .u64 y.c, .int .i64 y.len, .int .u8 y.pr, .int .u64 y.at_, .int .u64 y.seq, .int .u64 y.came] rfl _ (by simp) rfl rfl (by simp [Value.oneCell']) (by have h := H.out.row; rw [← HM9.out] at h; exact h) (by omega) ?_)
        intro v1 w3 hown hgrow hmv
        rw [HM9.out] at hown
        have h3 := Own.drApp (p := (q, y)) H.out hown hgrow hmv
        rw [← HS2.out] at h3
        have HX : Hid (FrI l X b b4 n hh (r : Int) x nx (.slice a1 X.st.length c1) (.slice a2 X.st.length c2) (.slice a3 X.bk.length c3) (.slice (some ⟨g, 0, none⟩) n cL) E v1 (.int .i64 ((k : Int) + 1)) w3) := Lib.hid ⟨k + 1, by go_num, by omega, h3⟩
        clear h3 hown hgrow hmv H
        go_wp2_with fail
        exact ⟨HX.out, by simp [intOf]; omega⟩
    · obtain rfl : k = n := by omega
      obtain ⟨F, hF⟩ : ∃ F, F = delH E hh := ⟨_, rfl⟩
      have hd : flt E hh k = F := by unfold flt; rw [List.take_of_length_le (by rw [HL.out]; exact Nat.le_refl _), hF]; rfl
      rw [hd] at h
      obtain ⟨M, hM⟩ : ∃ M, M = F.length := ⟨_, rfl⟩
      have hMk : M ≤ k := by rw [hM, ← hd]; exact flt_len E hh k
      obtain ⟨va9, vc9, rfl⟩ := (ownsR_of h.row).slice
      rw [← hM] at h ⊢
      have h7 : Own (RT X (.slice a1 X.st.length c1) :: RB X (.slice a2 X.st.length c2) :: RK X (.slice a3 X.bk.length c3) :: DH (.slice va9 M vc9) M F :: BH b4 x :: BH (b + 1 + 1) zeroH :: BZ (b + 1) :: BS b (.slice a1 X.st.length c1) (.slice a2 X.st.length c2) (.slice a3 X.bk.length c3) (r : Int) (.slice aL k cL) nx :: l) wr := by
        have h8 := Own.re 9 [8, 5, 6, 7, 0, 1, 2, 3, 4] rfl h.toR
        rw [← hM] at h8
        exact h8.drop
      have HG2 := Lib.hid (HGV.out _ _ h7)
      have HFM := Lib.hid (And.intro hF hM)
      clear h h7 hd hlt hk hF hM HGV
      go_wp2_with fail
      (with_reducible refine (HG2.out).mono ?_)
      rintro e w5 ⟨p1, d1, p2, d2, p3, d3, rfl, h5⟩
      obtain ⟨b5, hb5⟩ : ∃ b5, w5.heap.size = b5 := ⟨_, rfl⟩
      obtain ⟨W6, hW6, -, h6⟩ := boxN h5 hb5 #[(.slice p1 Y.st.length d1), (.slice p2 Y.st.length d2), (.slice p3 Y.bk.length d3), .int .i64 (r : Int)] 48
      obtain ⟨x0, x1, x2, x3, -, -, -, -⟩ := bx_cells (b := b5) h6 (.head _)
      obtain ⟨c0, c1', c2', c3', c4, c5, f0, f1, f2, f3, f4, f5⟩ := bs_cells (b := b) (v1 := (.slice a1 X.st.length c1)) (v2 := (.slice a2 X.st.length c2)) (v3 := (.slice a3 X.bk.length c3)) (r := (r : Int)) (vL := (.slice aL k cL)) (nx := nx) h6 (by simp)
      obtain ⟨w7, e7, h8⟩ := Own.bsA (b := b) (v1 := (.slice a1 X.st.length c1)) (v2 := (.slice a2 X.st.length c2)) (v3 := (.slice a3 X.bk.length c3)) (r := (r : Int)) (vL := (.slice aL k cL)) (nx := nx) (v1' := (.slice p1 Y.st.length d1)) (v2' := (.slice p2 Y.st.length d2)) (v3' := (.slice p3 Y.bk.length d3)) (r' := (r : Int)) (Own.re 9 [8, 0, 1, 2, 3, 4, 5, 6, 7] rfl h6)
      obtain ⟨i0, i1, i2, i3, i4, i5, j0, j1, j2, j3, j4, j5⟩ := bs_cells h8 (.head _)
      obtain ⟨w8, e8, h9⟩ := Own.bsL (vL' := .slice va9 M vc9) h8
      have H : Hid (Own (BH b4 x :: BH (b + 1 + 1) zeroH :: BZ (b + 1) :: BS b (.slice p1 Y.st.length d1) (.slice p2 Y.st.length d2) (.slice p3 Y.bk.length d3) (r : Int) (.slice va9 M vc9) nx :: RT Y (.slice p1 Y.st.length d1) :: RB Y (.slice p2 Y.st.length d2) :: RK Y (.slice p3 Y.bk.length d3) :: DH (.slice va9 M vc9) M F :: l) w8) := Lib.hid (Own.re 9 [1, 6, 7, 8, 0, 2, 3, 4, 5] rfl h9).drop
      have HB5 := Lib.hid hb5
      have HW6 := Lib.hid hW6
      clear h5 h6 h8 h9 hb5 hW6 HG2
      go_upto_region 11 with fail
      rw [HB5.out, HW6.out]
      clear HW6 HB5
      go_upto_region 12 with fail
      obtain ⟨wA, wB, eA, eB, hA, hB⟩ := fr_res (b := b) (b4 := b4) (u1 := (.slice p1 Y.st.length d1)) (u2 := (.slice p2 Y.st.length d2)) (u3 := (.slice p3 Y.bk.length d3)) (uL := (.slice va9 M vc9)) (r := r) (nx := nx) (x := x) H.out
      obtain ⟨s0, s1, s2, s3, s4, s5, -⟩ := bs_cells (b := b) (v1 := (.slice p1 Y.st.length d1)) (v2 := (.slice p2 Y.st.length d2)) (v3 := (.slice p3 Y.bk.length d3)) (r := (r : Int)) (vL := (.slice va9 M vc9)) (nx := nx) H.out (by simp)
      obtain ⟨t0, t1, t2, t3, t4, t5, t6, -⟩ := bh_cells (b := b4) (x := x) H.out (.head _)
      obtain ⟨z0, z1, z2, z3, z4, z5, f0, f1, f2, f3, f4, f5⟩ := bs_cells (b := b + 1) (v1 := nilv) (v2 := nilv) (v3 := nilv) (r := 0) (vL := nilv) (nx := 0) H.out (by simp)
      obtain ⟨as0, as1, as2, as3, as4, as5, -⟩ := bs_cells (b := b) (v1 := (.slice p1 Y.st.length d1)) (v2 := (.slice p2 Y.st.length d2)) (v3 := (.slice p3 Y.bk.length d3)) (r := (r : Int)) (vL := (.slice va9 M vc9)) (nx := nx) hA (by simp)
      obtain ⟨at0, at1, at2, at3, at4, at5, at6, -⟩ := bh_cells (b := b4) (x := x) hA (by simp)
      obtain ⟨ay0, ay1, ay2, ay3, ay4, ay5, ay6, ag0, ag1, ag2, ag3, ag4, ag5, ag6⟩ := bh_cells (b := b + 1 + 1) (x := zeroH) hA (.head _)
      obtain ⟨bs0, bs1, bs2, bs3, bs4, bs5, -⟩ := bs_cells (b := b) (v1 := (.slice p1 Y.st.length d1)) (v2 := (.slice p2 Y.st.length d2)) (v3 := (.slice p3 Y.bk.length d3)) (r := (r : Int)) (vL := (.slice va9 M vc9)) (nx := nx) hB (by simp)
      obtain ⟨bt0, bt1, bt2, bt3, bt4, bt5, bt6, -⟩ := bh_cells (b := b4) (x := x) hB (by simp)
      obtain ⟨q0, q1, q2, q3, q4, q5, -⟩ := bs_cells (b := b + 1) (v1 := (.slice p1 Y.st.length d1)) (v2 := (.slice p2 Y.st.length d2)) (v3 := (.slice p3 Y.bk.length d3)) (r := (r : Int)) (vL := (.slice va9 M vc9)) (nx := nx) hB (.tail _ (.head _))
      obtain ⟨k0, k1, k2, k3, k4, k5, k6, -⟩ := bh_cells (b := b + 1 + 1) (x := x) hB (.head _)
      unfold zeroH at ay0 ay1 ay2 ay3 ay4 ay5 ay6
      have HB2 := Lib.hid hB
      clear hA hB
      go_region_held3 (fun w' => w'.cell? ⟨b, 0, none⟩ = some (.slice p1 Y.st.length d1) ∧ w'.cell? ⟨b, 1, none⟩ = some (.slice p2 Y.st.length d2) ∧ w'.cell? ⟨b, 2, none⟩ = some (.slice p3 Y.bk.length d3) ∧ w'.cell? ⟨b, 3, none⟩ = some (.int .i64 (r : Int)) ∧ w'.cell? ⟨b, 4, none⟩ = some (.slice va9 M vc9) ∧ w'.cell? ⟨b, 5, none⟩ = some (.int .u64 nx) ∧ w'.cell? ⟨b4, 0, none⟩ = some (.int .u64 x.k) ∧ w'.cell? ⟨b4, 1, none⟩ = some (.int .u64 x.c) ∧ w'.cell? ⟨b4, 2, none⟩ = some (.int .i64 x.len) ∧ w'.cell? ⟨b4, 3, none⟩ = some (.int .u8 x.pr) ∧ w'.cell? ⟨b4, 4, none⟩ = some (.int .u64 x.at_) ∧ w'.cell? ⟨b4, 5, none⟩ = some (.int .u64 x.seq) ∧ w'.cell? ⟨b4, 6, none⟩ = some (.int .u64 x.came))
        (first | (refine ⟨?_, ?_, ?_, ?_, ?_, ?_, ?_, ?_, ?_, ?_, ?_, ?_, ?_⟩ <;> first | assumption | exact (Ext.refl _).drew.cell (by assumption)))
        (first | fail)
      go_wp2_with fail
      exact bodyPost_ret (v := .tuple #[sv (.slice p1 Y.st.length d1) (.slice p2 Y.st.length d2) (.slice p3 Y.bk.length d3) r (.slice va9 M vc9) nx, hagg x, .bool true]) (by simp [results, Try.results37, go_sem, q0, q1, q2, q3, q4, q5, k0, k1, k2, k3, k4, k5, k6]) rfl ((fun h => ⟨_, _, _, _, rfl, by rw [← HFM.out.1, ← HFM.out.2]; exact Own.drop (Own.drop (Own.drop (Own.drop h)))⟩) (HB2.out.step (Ext.refl _).drew))
end
end Go.Proofs.Ytekdgghekdajbaa.St
