/- DERIVED. Layer 10 (store): the document's store: contracts of Put. -/
import Derived.Test.YtekdgghekdajbaaStQ
import Derived.Test.YtekdgghekdajbaaRor
set_option linter.unusedVariables false
set_option linter.unusedSimpArgs false
set_option maxRecDepth 100000
namespace Go.Proofs.Ytekdgghekdajbaa.St
open Go.RowKit Go.Proofs.Ytekdgghekdajbaa Go.Proofs.Ytekdgghekdajbaa.Ar

/-- Take of a full arena: the same arena comes back -/
theorem rtake_full {N : Nat} {X : A} {v1 v2 v3 : Value} {r : Nat} {l : List HP} {w : World} (h : Own (RT X v1 :: RB X v2 :: RK X v3 :: l) w) (ho : Ok N X) (hr : r = X.room) (hf : X.used = X.room) :
    Calls Try.prog 23 #[.agg #[v1, v2, v3, .int .i64 (r : Int)]] w fun e w' => e = .returned (.tuple #[.agg #[v1, v2, v3, .int .i64 (r : Int)], .int .u64 0, .int .i64 4]) ∧ Own (RT X v1 :: RB X v2 :: RK X v3 :: l) w' := by
  obtain ⟨a3, c3, e3⟩ := h.third.rowR.slice
  obtain ⟨a1, c1, e1⟩ := h.rowR.slice
  obtain ⟨a2, c2, e2⟩ := h.second.rowR.slice
  have h1 := own_two h
  rw [← hr] at h1
  obtain ⟨W1, hW1⟩ : ∃ W1, W1 = (w.alloc (.cells #[v1, v2, v3, .int .i64 (r : Int)] 48)).alloc (.cells #[.slice none 0 0, .slice none 0 0, .slice none 0 0, .int .i64 0] 48) := ⟨_, rfl⟩
  rw [← hW1] at h1
  have HUS := Lib.hid (fun W (hW : Ext W1 W) => rused_any (N := N) ((ref_of h1.rot23).ext hW) ho)
  have H1 := Lib.hid h1
  have HW := Lib.hid hW1
  obtain ⟨b0, b1, b2, b3, -, -, -, -⟩ := bx_cells (b := w.heap.size) h1 (.tail _ (.head _))
  subst e1 e2 e3
  obtain ⟨u, hu⟩ : ∃ u, u = X.used := ⟨_, rfl⟩
  rw [← hr] at HUS
  rw [← hu] at HUS
  have hfull : u = r := by rw [hu, hr]; exact hf
  subst hfull
  have uu : ((u : Int) == (u : Int)) = true := by simp
  clear h h1 ho hu hf hW1 hr
  go_enter Try.func23, Try.ntmps23
  go_upto_region 1 with fail
  rw [← HW.out]
  clear HW
  go_region_held3 (fun w' => w'.cell? ⟨w.heap.size, 0, none⟩ = some (.slice a1 X.st.length c1) ∧ w'.cell? ⟨w.heap.size, 1, none⟩ = some (.slice a2 X.st.length c2) ∧ w'.cell? ⟨w.heap.size, 2, none⟩ = some (.slice a3 X.bk.length c3) ∧ w'.cell? ⟨w.heap.size, 3, none⟩ = some (.int .i64 u))
    (first | go_keep | (go_split_ands; exact ⟨y0, y1, y2, y3⟩))
    ((go_at_call 27; refine (HUS.out _ (Ext.refl W1).drew).mono ?_; rintro e' w2 ⟨rfl, hx2⟩; have hx3 := (Ext.refl W1).drew.trans hx2; have y0 := hx3.cell b0; have y1 := hx3.cell b1; have y2 := hx3.cell b2; have y3 := hx3.cell b3; have H2 := Lib.hid (H1.out.step hx3); obtain ⟨z0, z1, z2, z3, f0, f1, f2, f3⟩ := bx_cells (b := w.heap.size + 1) H2.out (.head _); obtain ⟨w3, hw3, h3⟩ := bx_all H2.out (.slice a1 X.st.length c1) (.slice a2 X.st.length c2) (.slice a3 X.bk.length c3) (.int .i64 u); have H3 := Lib.hid h3; clear hx2 hx3 h3))
  go_wp2_with fail
  obtain ⟨r0, r1, r2, r3, -, -, -, -⟩ := bx_cells (b := w.heap.size + 1) H3.out (.head _)
  exact bodyPost_ret (v := .tuple #[.agg #[.slice a1 X.st.length c1, .slice a2 X.st.length c2, .slice a3 X.bk.length c3, .int .i64 u], .int .u64 0, .int .i64 4]) (by simp [results, Try.results23, go_sem, r0, r1, r2, r3]) rfl ⟨rfl, H3.out.drop.drop⟩
section
variable {N : Nat} {X : A} {v1 v2 v3 vL : Value} {r : Nat} {nx : Int} {n : Nat} {E : List HE} {l : List HP} {w : World}
theorem rsput_arg (h : Own (RT X v1 :: RB X v2 :: RK X v3 :: DH vL n E :: l) w) (k c len pr at_ now : Int) (hb : bad len pr = true) :
    Calls Try.prog 36 #[sv v1 v2 v3 r vL nx, pk k c len pr at_, .int .u64 now] w fun e w' => e = .returned (.tuple #[sv v1 v2 v3 r vL nx, .int .u64 0, .int .i64 2]) ∧ Own (RT X v1 :: RB X v2 :: RK X v3 :: DH vL n E :: l) w' := by
  obtain ⟨a1, c1, rfl⟩ := h.rowR.slice
  obtain ⟨a2, c2, rfl⟩ := h.swap.rowR.slice
  obtain ⟨a3, c3, rfl⟩ := h.third.rowR.slice
  obtain ⟨aL, cL, rfl⟩ := h.fourth.rowR.slice
  obtain ⟨b, hb0⟩ : ∃ b, w.heap.size = b := ⟨_, rfl⟩
  obtain ⟨W1, hW1, hs1, h1⟩ := boxN h hb0 #[.slice a1 X.st.length c1, .slice a2 X.st.length c2, .slice a3 X.bk.length c3, .int .i64 (r : Int), .slice aL n cL, .int .u64 nx] 79
  obtain ⟨W2, hW2, hs2, h2⟩ := boxN h1 hs1 #[.int .u64 k, .int .u64 c, .int .i64 len, .int .u8 pr, .int .u64 at_] 69
  obtain ⟨W3, hW3, hs3, h3⟩ := boxN h2 hs2 #[nilv, nilv, nilv, .int .i64 0, nilv, .int .u64 0] 79
  obtain ⟨p0, p1, p2, p3, p4⟩ := Own.blk5 h3 (b := b + 1) (x := .int .u64 k) (y := .int .u64 c) (z := .int .i64 len) (u := .int .u8 pr) (t' := .int .u64 at_) (t := 69) (.tail _ (.head _))
  have HM := Lib.hid (rmay_any h3 k c len pr at_)
  rw [hb] at HM
  have HB := Lib.hid hb0
  have HW1 := Lib.hid hW1
  have HW2 := Lib.hid hW2
  have HW3 := Lib.hid hW3
  clear h h1 h2 h3 hb hb0 hW1 hW2 hW3 hs1 hs2 hs3
  go_enter Try.func36, Try.ntmps36
  go_upto_region 1 with fail
  rw [HB.out, HW1.out, HW2.out, HW3.out]
  clear HB HW1 HW2 HW3
  go_wp2_with fail
  (with_reducible refine (HM.out).mono ?_)
  rintro e w4 ⟨rfl, h4⟩
  obtain ⟨c0, c1', c2', c3', c4, c5, -⟩ := bs_cells (b := b) (v1 := .slice a1 X.st.length c1) (v2 := .slice a2 X.st.length c2) (v3 := .slice a3 X.bk.length c3) (r := (r : Int)) (vL := .slice aL n cL) (nx := nx) h4 (.tail _ (.tail _ (.head _)))
  obtain ⟨z0, z1, z2, z3, z4, z5, f0, f1, f2, f3, f4, f5⟩ := bs_cells (b := b + 1 + 1) (v1 := nilv) (v2 := nilv) (v3 := nilv) (r := 0) (vL := nilv) (nx := 0) h4 (.head _)
  obtain ⟨w5, e5, h5⟩ := Own.bsSet (v1' := .slice a1 X.st.length c1) (v2' := .slice a2 X.st.length c2) (v3' := .slice a3 X.bk.length c3) (r' := (r : Int)) (vL' := .slice aL n cL) (nx' := nx) h4
  obtain ⟨q0, q1, q2, q3, q4, q5, -⟩ := bs_cells h5 (.head _)
  have H5 := Lib.hid h5
  clear h4 h5 HM p0 p1 p2 p3 p4
  go_wp2_with fail
  exact bodyPost_ret (v := .tuple #[sv (.slice a1 X.st.length c1) (.slice a2 X.st.length c2) (.slice a3 X.bk.length c3) r (.slice aL n cL) nx, .int .u64 0, .int .i64 2]) (by simp [results, Try.results36, go_sem, q0, q1, q2, q3, q4, q5]) rfl ⟨rfl, H5.out.drop.drop.drop⟩
theorem rsput_full (h : Own (RT X v1 :: RB X v2 :: RK X v3 :: DH vL n E :: l) w) (ho : Ok N X) (hr : r = X.room) (hu : X.used = X.room) (k c len pr at_ now : Int) (hb : bad len pr = false) :
    Calls Try.prog 36 #[sv v1 v2 v3 r vL nx, pk k c len pr at_, .int .u64 now] w fun e w' => e = .returned (.tuple #[sv v1 v2 v3 r vL nx, .int .u64 0, .int .i64 4]) ∧ Own (RT X v1 :: RB X v2 :: RK X v3 :: DH vL n E :: l) w' := by
  obtain ⟨a1, c1, rfl⟩ := h.rowR.slice
  obtain ⟨a2, c2, rfl⟩ := h.swap.rowR.slice
  obtain ⟨a3, c3, rfl⟩ := h.third.rowR.slice
  obtain ⟨aL, cL, rfl⟩ := h.fourth.rowR.slice
  obtain ⟨b, hb0⟩ : ∃ b, w.heap.size = b := ⟨_, rfl⟩
  obtain ⟨W1, hW1, hs1, h1⟩ := boxN h hb0 #[.slice a1 X.st.length c1, .slice a2 X.st.length c2, .slice a3 X.bk.length c3, .int .i64 (r : Int), .slice aL n cL, .int .u64 nx] 79
  obtain ⟨W2, hW2, hs2, h2⟩ := boxN h1 hs1 #[.int .u64 k, .int .u64 c, .int .i64 len, .int .u8 pr, .int .u64 at_] 69
  obtain ⟨W3, hW3, hs3, h3⟩ := boxN h2 hs2 #[nilv, nilv, nilv, .int .i64 0, nilv, .int .u64 0] 79
  obtain ⟨p0, p1, p2, p3, p4⟩ := Own.blk5 h3 (b := b + 1) (x := .int .u64 k) (y := .int .u64 c) (z := .int .i64 len) (u := .int .u8 pr) (t' := .int .u64 at_) (t := 69) (.tail _ (.head _))
  obtain ⟨LX, hLX⟩ : ∃ LX, LX = DH (.slice aL n cL) n E :: BZ (b + 1 + 1) :: BP (b + 1) k c len pr at_ :: BS b (.slice a1 X.st.length c1) (.slice a2 X.st.length c2) (.slice a3 X.bk.length c3) (r : Int) (.slice aL n cL) nx :: l := ⟨_, rfl⟩
  have h4 : Own (RT X (.slice a1 X.st.length c1) :: RB X (.slice a2 X.st.length c2) :: RK X (.slice a3 X.bk.length c3) :: LX) W3 := by
    rw [hLX]; exact Own.re 7 [3, 4, 5, 6, 0, 1, 2] rfl h3
  have HM := Lib.hid (rmay_any h4 k c len pr at_)
  rw [hb] at HM
  have HTK := Lib.hid (fun W (hW : Own (RT X (.slice a1 X.st.length c1) :: RB X (.slice a2 X.st.length c2) :: RK X (.slice a3 X.bk.length c3) :: LX) W) => rtake_full hW ho hr hu)
  have HLX := Lib.hid hLX
  have HB := Lib.hid hb0
  have HW1 := Lib.hid hW1
  have HW2 := Lib.hid hW2
  have HW3 := Lib.hid hW3
  clear h h1 h2 h3 h4 hb hb0 hW1 hW2 hW3 hs1 hs2 hs3 hLX ho hr hu
  go_enter Try.func36, Try.ntmps36
  go_upto_region 1 with fail
  rw [HB.out, HW1.out, HW2.out, HW3.out]
  clear HB HW1 HW2 HW3
  go_wp2_with fail
  (with_reducible refine (HM.out).mono ?_)
  rintro e w4 ⟨rfl, h4⟩
  have H4 := Lib.hid h4
  rw [HLX.out] at h4
  obtain ⟨c0, c1', c2', c3', c4, c5, -⟩ := bs_cells (b := b) (v1 := .slice a1 X.st.length c1) (v2 := .slice a2 X.st.length c2) (v3 := .slice a3 X.bk.length c3) (r := (r : Int)) (vL := .slice aL n cL) (nx := nx) h4 (by simp)
  clear h4 HM p0 p1 p2 p3 p4
  go_wp2_with fail
  (with_reducible refine (HTK.out _ H4.out).mono ?_)
  rintro e w5 ⟨rfl, h5⟩
  obtain ⟨b5, hb5⟩ : ∃ b5, w5.heap.size = b5 := ⟨_, rfl⟩
  obtain ⟨W6, hW6, -, h6⟩ := boxN h5 hb5 #[.slice a1 X.st.length c1, .slice a2 X.st.length c2, .slice a3 X.bk.length c3, .int .i64 (r : Int)] 48
  rw [HLX.out] at h6
  have h7 := Own.re (L := Go.Proofs.Ytekdgghekdajbaa.Blk b5 #[.slice a1 X.st.length c1, .slice a2 X.st.length c2, .slice a3 X.bk.length c3, .int .i64 (r : Int)] 48 :: RT X (.slice a1 X.st.length c1) :: RB X (.slice a2 X.st.length c2) :: RK X (.slice a3 X.bk.length c3) :: DH (.slice aL n cL) n E :: BZ (b + 1 + 1) :: BP (b + 1) k c len pr at_ :: BS b (.slice a1 X.st.length c1) (.slice a2 X.st.length c2) (.slice a3 X.bk.length c3) (r : Int) (.slice aL n cL) nx :: l) 8 [5, 0, 6, 7, 1, 2, 3, 4] rfl h6
  obtain ⟨c0, c1', c2', c3', c4, c5, -⟩ := bs_cells (b := b) (v1 := .slice a1 X.st.length c1) (v2 := .slice a2 X.st.length c2) (v3 := .slice a3 X.bk.length c3) (r := (r : Int)) (vL := .slice aL n cL) (nx := nx) h6 (by simp)
  obtain ⟨z0, z1, z2, z3, z4, z5, f0, f1, f2, f3, f4, f5⟩ := bs_cells (b := b + 1 + 1) (v1 := nilv) (v2 := nilv) (v3 := nilv) (r := 0) (vL := nilv) (nx := 0) h6 (by simp)
  obtain ⟨w7, e7, h8⟩ := Own.bsSet (b := b + 1 + 1) (v1 := nilv) (v2 := nilv) (v3 := nilv) (r := 0) (vL := nilv) (nx := 0) (v1' := .slice a1 X.st.length c1) (v2' := .slice a2 X.st.length c2) (v3' := .slice a3 X.bk.length c3) (r' := (r : Int)) (vL' := .slice aL n cL) (nx' := nx) h7
  obtain ⟨q0, q1, q2, q3, q4, q5, -⟩ := bs_cells h8 (.head _)
  have H8 := Lib.hid h8
  have HB5 := Lib.hid hb5
  have HW6 := Lib.hid hW6
  clear h5 h6 h7 h8 hb5 hW6 HTK
  go_upto_region 4 with fail
  rw [HW6.out]
  clear HW6
  go_wp2_with fail
  exact bodyPost_ret (v := .tuple #[sv (.slice a1 X.st.length c1) (.slice a2 X.st.length c2) (.slice a3 X.bk.length c3) r (.slice aL n cL) nx, .int .u64 0, .int .i64 4]) (by simp [results, Try.results36, go_sem, q0, q1, q2, q3, q4, q5]) rfl ⟨rfl, H8.out.drop.drop.drop.drop⟩
theorem o8_one (E : List HE) : ∀ u ∈ E.flatMap o8, u.oneCell' = true := by
  intro u hu
  obtain ⟨p, _, hp⟩ := List.mem_flatMap.1 hu
  simp only [o8, List.mem_cons, List.not_mem_nil, or_false] at hp
  rcases hp with rfl | rfl | rfl | rfl | rfl | rfl | rfl | rfl <;> rfl
theorem o8_snoc (E : List HE) (p : HE) : (E ++ [p]).flatMap o8 = E.flatMap o8 ++ [.int .u64 (p.1 : Int), .int .u64 p.2.k, .int .u64 p.2.c, .int .i64 p.2.len, .int .u8 p.2.pr, .int .u64 p.2.at_, .int .u64 p.2.seq, .int .u64 p.2.came] := by rw [List.flatMap_append]; rfl
end
end Go.Proofs.Ytekdgghekdajbaa.St
