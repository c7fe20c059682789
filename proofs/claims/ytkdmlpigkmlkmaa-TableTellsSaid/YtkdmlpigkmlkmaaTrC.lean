/- DERIVED. Layer 6 (tree): contracts of hang, turn. -/
import Derived.Test.YtkdmlpigkmlkmaaTrB
set_option linter.unusedVariables false
set_option linter.unusedSimpArgs false
set_option maxRecDepth 100000
namespace Go.Proofs.Ytkdmlpigkmlkmaa.Tr
open Go.RowKit Go.Proofs.Ytkdmlpigkmlkmaa Go.Proofs.Ytkdmlpigkmlkmaa.TreeP

section
variable {p g cap many room : Nat} {fr : Value} {S : TS} {w : World}
theorem hang_root (h : TW p g cap fr many room S w) (x q : Nat) (hx : x < S.n.length) (hq : q < S.n.length) (hu : (S.nd q).up = 0) :
    Calls Try.prog 95 #[.pointer (some ⟨p, 0, none⟩), .int .i64 x, .int .i64 q] w fun e w' => e = .returned (.tuple #[]) ∧ TW p g cap fr many room (hang S x q) w' ∧ St p g w w' := by
  obtain ⟨S1, w1, eS1, ew1, h1, s1⟩ := h.wroot x
  have l1 : S1.n.length = S.n.length := by rw [eS1]; rfl
  obtain ⟨S2, w2, eS2, ew2, h2, s2⟩ := h1.wup (i := x) (by omega) 0
  have eS : hang S x q = S2 := by unfold TreeP.hang; simp only [hu, if_true]; rw [eS2, eS1]
  rw [eS]
  have ew2' : w1.setCell ⟨g, x * 7 + 5, none⟩ (.int .i64 0) = w2 := ew2
  clear ew2
  have c0 := h.c0
  have cu : w.cell? ⟨g, q * 7 + 5, none⟩ = some (.int .i64 0) := by have := h.up hq; rw [hu] at this; exact this
  have c2 := h.c2
  have f2 := h.pf 2
  have d0 := h1.c0
  rw [l1] at d0
  have du := h1.up (i := x) (by omega)
  have fu := h1.gf (by omega) (x * 7 + 5)
  obtain ⟨N, hN⟩ : ∃ N, N = S.n.length := ⟨_, rfl⟩
  rw [← hN] at c0 d0 hx hq
  have x1 : (x : Int) < N := by omega
  have q1 : (q : Int) < N := by omega
  have H2 := Lib.hid h2
  have HS := Lib.hid (s1.trans s2)
  clear hN hu eS eS2 eS1 l1 h h1 h2 s1 s2
  go_enter Try.func95, Try.ntmps95
  go_wp2
  go_end0
  exact ⟨rfl, H2.out, HS.out⟩
theorem hang_in (h : TW p g cap fr many room S w) (x q : Nat) (hx : x < S.n.length) (hq : q < S.n.length) (hu : (S.nd q).up ≠ 0) (hul : (S.nd q).up < S.n.length) :
    Calls Try.prog 95 #[.pointer (some ⟨p, 0, none⟩), .int .i64 x, .int .i64 q] w fun e w' => e = .returned (.tuple #[]) ∧ TW p g cap fr many room (hang S x q) w' ∧ St p g w w' := by
  obtain ⟨u, eu⟩ : ∃ u, u = (S.nd q).up := ⟨_, rfl⟩
  obtain ⟨d, ed⟩ : ∃ d, d = side S q := ⟨_, rfl⟩
  have hs := side_any h.drew q hq hul
  rw [← ed] at hs
  have c0 := h.c0
  have cu := h.up hq
  rw [← eu] at cu hu hul
  have HS : Hid (∀ n, ∃ S1 w1, S1 = S.upd u (Nd.setKid d x) ∧ (w.drewN n).setCell ⟨g, u * 7 + 3 + dn d, none⟩ (.int .i64 x) = w1 ∧ TW p g cap fr many room S1 w1 ∧ St p g (w.drewN n) w1) := Lib.hid (fun n => (h.drewN n).wkid hul d x)
  have ck := h.kid hul d
  have fk := h.gf (by omega) (u * 7 + 3 + dn d)
  obtain ⟨N, hN⟩ : ∃ N, N = S.n.length := ⟨_, rfl⟩
  rw [← hN] at c0 hx hq hul
  have x1 : (x : Int) < N := by omega
  have q1 : (q : Int) < N := by omega
  have u1 : (u : Int) < N := by omega
  have u2 : ((u : Int) == 0) = false := by simp; omega
  have d1 : dn d < 2 := by cases d <;> decide
  have d2 : (dn d : Int) < 2 := by cases d <;> decide
  have hne : g ≠ p := h.ne
  have hne' : p ≠ g := Ne.symm h.ne
  have HD := Lib.hid hs
  have HU := Lib.hid eu
  have HE := Lib.hid ed
  have HN := Lib.hid hN
  have H := Lib.hid h
  clear hs eu ed hN h
  go_enter Try.func95, Try.ntmps95
  go_wp2_with fail
  go_region_held3 (fun w' => w'.cell? ⟨p, 0, none⟩ = some (.slice (some ⟨g, 0, none⟩) N cap))
    (first | go_keep | skip)
    ((go_at_call 104; refine (HD.out).mono ?_; rintro e w' ⟨rfl, n, rfl⟩))
  rename_i hh
  clear hh
  obtain ⟨S1, w1, eS1, ew1, h1, s1⟩ := HS.out (1 + n)
  rw [ew1]
  have l1 : S1.n.length = N := by rw [eS1, len_upd, HN.out]
  obtain ⟨S2, w2, eS2, ew2, h2, s2⟩ := h1.wup (i := x) (by omega) u
  have eS : hang S x q = S2 := by
    unfold TreeP.hang
    simp only
    rw [← HU.out, ← HE.out, if_neg hu, eS2, eS1]
  have d0 := h1.c0
  rw [l1] at d0
  have du := h1.up (i := x) (by omega)
  have fu := h1.gf (by omega) (x * 7 + 5)
  have H2 := Lib.hid h2
  have HX := Lib.hid eS
  have HT := Lib.hid ((((Step.refl (fun b => b = p ∨ b = g) w).drewN (1 + n)).trans s1).trans s2)
  clear eS1 ew1 h1 s1 l1 eS2 h2 s2 eS HS c0 cu ck fk
  go_wp2
  go_end0
  rw [HX.out]
  exact ⟨rfl, H2.out, HT.out⟩
theorem hang_any (h : TW p g cap fr many room S w) (hr : Rng S) (x q : Nat) (hx : x < S.n.length) (hq : q < S.n.length) :
    Calls Try.prog 95 #[.pointer (some ⟨p, 0, none⟩), .int .i64 x, .int .i64 q] w fun e w' => e = .returned (.tuple #[]) ∧ TW p g cap fr many room (hang S x q) w' ∧ St p g w w' := by
  by_cases hu : (S.nd q).up = 0
  · exact hang_root h x q hx hq hu
  · exact hang_in h x q hx hq hu (hr.up q)
theorem turn_any (h : TW p g cap fr many room S w) (hr : Rng S) (x : Nat) (d : Bool) (hx : x < S.n.length) :
    Calls Try.prog 105 #[.pointer (some ⟨p, 0, none⟩), .int .i64 x, .int .i64 ((dn d : Nat) : Int)] w fun e w' => e = .returned (.tuple #[]) ∧ TW p g cap fr many room (turn S x d) w' ∧ St p g w w' := by
  obtain ⟨y, ey⟩ : ∃ y, y = (S.nd x).kid (!d) := ⟨_, rfl⟩
  obtain ⟨i, ei⟩ : ∃ i, i = (S.nd y).kid d := ⟨_, rfl⟩
  have hy : y < S.n.length := by rw [ey]; exact hr.kid x _
  have hi : i < S.n.length := by rw [ei]; exact hr.kid y _
  have c0 := h.c0
  have cy := h.kid hx (!d)
  rw [← ey] at cy
  have ci := h.kid hy d
  rw [← ei] at ci
  obtain ⟨r1, l1⟩ := Rng.hang (q := x) hr hy
  have hc := hang_any h hr y x hy hx
  obtain ⟨S1, eS1⟩ : ∃ S1, S1 = hang S y x := ⟨_, rfl⟩
  rw [← eS1] at hc r1 l1
  obtain ⟨N, hN⟩ : ∃ N, N = S.n.length := ⟨_, rfl⟩
  rw [← hN] at c0 hx hy hi l1
  have x1 : (x : Int) < N := by omega
  have y1 : (y : Int) < N := by omega
  have i1 : (i : Int) < N := by omega
  have d1 : dn d < 2 := by cases d <;> decide
  have d2 : (dn d : Int) < 2 := by cases d <;> decide
  have d3 : dn (!d) < 2 := by cases d <;> decide
  have d4 : (dn (!d) : Int) < 2 := by cases d <;> decide
  have d5 : (1 : Int) - (dn d : Int) = (dn (!d) : Int) := by cases d <;> decide
  have HC := Lib.hid hc
  have HY := Lib.hid ey
  have HI := Lib.hid ei
  have HN := Lib.hid hN
  have H1 := Lib.hid eS1
  have L1 := Lib.hid l1
  have H := Lib.hid h
  have HR := Lib.hid r1
  clear hc ey ei hN eS1 h l1 r1
  go_enter Try.func105, Try.ntmps105
  go_wp2_with fail
  refine (HC.out).mono ?_
  rintro e w1 ⟨rfl, h1, s1⟩
  have l1 := L1.out
  obtain ⟨S2, w2, eS2, ew2, h2, s2⟩ := h1.wkid (i := x) (by omega) (!d) i
  have l2 : S2.n.length = N := by rw [eS2, len_upd]; exact l1
  have e0 := h1.c0
  rw [l1] at e0
  have ek := h1.kid (i := x) (by omega) (!d)
  have ef := h1.gf (by omega) (x * 7 + 3 + dn (!d))
  have f0 := h2.c0
  rw [l2] at f0
  by_cases hi0 : i = 0
  · obtain ⟨S4, w4, eS4, ew4, h4, s4⟩ := h2.wkid (i := y) (by omega) d x
    have l4 : S4.n.length = N := by rw [eS4, len_upd]; exact l2
    obtain ⟨S5, w5, eS5, ew5, h5, s5⟩ := h4.wup (i := x) (by omega) y
    have fk := h2.kid (i := y) (by omega) d
    have ff := h2.gf (by omega) (y * 7 + 3 + dn d)
    have g0 := h4.c0
    rw [l4] at g0
    have gk := h4.up (i := x) (by omega)
    have gg := h4.gf (by omega) (x * 7 + 5)
    have eS : turn S x d = S5 := by
      unfold TreeP.turn
      simp only
      rw [← HY.out, ← HI.out, ← H1.out, if_pos hi0, eS5, eS4, eS2]
    have HX := Lib.hid eS
    have H5 := Lib.hid h5
    have HT := Lib.hid (((s1.trans s2).trans s4).trans s5)
    have i2 : ((i : Int) != 0) = false := by subst hi0; rfl
    clear eS2 eS4 eS5 l1 l2 l4 h1 h2 h4 h5 s1 s2 s4 s5 eS c0 cy ci hi0
    go_wp2
    go_end0
    rw [HX.out]
    exact ⟨rfl, H5.out, HT.out⟩
  · obtain ⟨S3, w3, eS3, ew3, h3, s3⟩ := h2.wup (i := i) (by omega) x
    have l3 : S3.n.length = N := by rw [eS3, len_upd]; exact l2
    obtain ⟨S4, w4, eS4, ew4, h4, s4⟩ := h3.wkid (i := y) (by omega) d x
    have l4 : S4.n.length = N := by rw [eS4, len_upd]; exact l3
    obtain ⟨S5, w5, eS5, ew5, h5, s5⟩ := h4.wup (i := x) (by omega) y
    have fu := h2.up (i := i) (by omega)
    have ff := h2.gf (by omega) (i * 7 + 5)
    have m0 := h3.c0
    rw [l3] at m0
    have mk := h3.kid (i := y) (by omega) d
    have mf := h3.gf (by omega) (y * 7 + 3 + dn d)
    have g0 := h4.c0
    rw [l4] at g0
    have gk := h4.up (i := x) (by omega)
    have gg := h4.gf (by omega) (x * 7 + 5)
    have eS : turn S x d = S5 := by
      unfold TreeP.turn
      simp only
      rw [← HY.out, ← HI.out, ← H1.out, if_neg hi0, eS5, eS4, eS3, eS2]
    have HX := Lib.hid eS
    have H5 := Lib.hid h5
    have HT := Lib.hid ((((s1.trans s2).trans s3).trans s4).trans s5)
    have i2 : ((i : Int) != 0) = true := by simp; omega
    clear eS2 eS3 eS4 eS5 l1 l2 l3 l4 h1 h2 h3 h4 h5 s1 s2 s3 s4 s5 eS c0 cy ci hi0
    go_wp2
    go_end0
    rw [HX.out]
    exact ⟨rfl, H5.out, HT.out⟩
end
end Go.Proofs.Ytkdmlpigkmlkmaa.Tr
