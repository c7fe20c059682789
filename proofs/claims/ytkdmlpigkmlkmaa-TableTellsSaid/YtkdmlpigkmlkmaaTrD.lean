/- DERIVED. Layer 6 (tree): contract of settle. -/
import Derived.Test.YtkdmlpigkmlkmaaTrC
set_option linter.unusedVariables false
set_option linter.unusedSimpArgs false
set_option maxRecDepth 100000
namespace Go.Proofs.Ytkdmlpigkmlkmaa.Tr
open Go.RowKit Go.Proofs.Ytkdmlpigkmlkmaa Go.Proofs.Ytkdmlpigkmlkmaa.TreeP

/-- the least number that serves -/
theorem exists_least {P : Nat → Prop} (h : ∃ k, P k) : ∃ k, P k ∧ ∀ j, P j → k ≤ j := by
  obtain ⟨k, hk⟩ := h
  induction k using Nat.strongRecOn with
  | _ k ih =>
    by_cases hj : ∃ j, j < k ∧ P j
    · obtain ⟨j, h1, h2⟩ := hj
      exact ih j h1 h2
    · exact ⟨k, hk, fun j hP => by
        by_cases hlt : j < k
        · exact absurd ⟨j, hlt, hP⟩ hj
        · omega⟩
open Classical in
noncomputable def least (P : Nat → Prop) : Nat := if h : ∃ k, P k then Classical.choose (exists_least h) else 0
theorem least_spec {P : Nat → Prop} (h : ∃ k, P k) : P (least P) ∧ ∀ j, P j → least P ≤ j := by
  unfold least
  rw [dif_pos h]
  exact Classical.choose_spec (exists_least h)
theorem least_lt {P Q : Nat → Prop} {k j : Nat} (hP : P k) (hk : k < j) (hQ : j = least Q) : least P < least Q := by
  have := (least_spec ⟨k, hP⟩).2 k hP
  omega

def SI (p g cap : Nat) (fr : Value) (many room N : Nat) (w0 : World) (Sf : TS) (z : Value) (wr : World) (k : Nat) : Prop :=
  ∃ S' z', z = .int .i64 ((z' : Nat) : Int) ∧ TW p g cap fr many room S' wr ∧ Rng S' ∧ z' < N ∧ S'.n.length = N ∧ TreeP.settle k S' z' = some Sf ∧ St p g w0 wr
section
variable {p g cap many room : Nat} {fr : Value} {S : TS} {w : World}
theorem side_w (h : TW p g cap fr many room S w) (hr : Rng S) (x : Nat) (hx : x < S.n.length) :
    Calls Try.prog 104 #[.pointer (some ⟨p, 0, none⟩), .int .i64 x] w fun e w' => e = .returned (.int .i64 ((dn (side S x) : Nat) : Int)) ∧ TW p g cap fr many room S w' ∧ St p g w w' :=
  (side_any h x hx (hr.up x)).mono fun e w' ⟨he, n, hw⟩ => ⟨he, hw ▸ h.drewN n, hw ▸ (Step.refl _ w).drewN n⟩
set_option maxHeartbeats 1000000 in
theorem settle_any (h : TW p g cap fr many room S w) (hr : Rng S) (z : Nat) (hz : z < S.n.length) (Sf : TS) (hs : ∃ k, TreeP.settle k S z = some Sf) :
    Calls Try.prog 94 #[.pointer (some ⟨p, 0, none⟩), .int .i64 z] w fun e w' => e = .returned (.tuple #[]) ∧ TW p g cap fr many room Sf w' ∧ St p g w w' := by
  have hne : g ≠ p := h.ne
  have hne' : p ≠ g := Ne.symm h.ne
  obtain ⟨N, hN⟩ : ∃ N, N = S.n.length := ⟨_, rfl⟩
  rw [← hN] at hz
  have H0 : Hid (∃ k, SI p g cap fr many room N w Sf (.int .i64 z) w k) := Lib.hid (by
    obtain ⟨k, hk⟩ := hs
    exact ⟨k, S, z, rfl, h, hr, hz, hN.symm, hk, Step.refl _ _⟩)
  clear hs h hr hN hz
  go_enter Try.func94, Try.ntmps94
  go_wp2
  go_loopw [1] (fun z wr => ∃ k, SI p g cap fr many room N w Sf z wr k) (fun z wr => least (SI p g cap fr many room N w Sf z wr))
  case atStart => exact H0.out
  case round =>
    clear H0
    obtain ⟨hP, -⟩ := least_spec hrel
    clear hrel
    obtain ⟨j, ej⟩ : ∃ j, j = least (SI p g cap fr many room N w Sf u1 wr) := ⟨_, rfl⟩
    rw [← ej] at hP
    have EJ := Lib.hid ej
    clear ej
    obtain ⟨S, z, rfl, h, hr, hz, hN, hs, s0⟩ := hP
    cases j with
    | zero => simp [TreeP.settle] at hs
    | succ k =>
      unfold TreeP.settle at hs
      simp only at hs
      obtain ⟨q, eq⟩ : ∃ q, q = (S.nd z).up := ⟨_, rfl⟩
      rw [← eq] at hs
      have c0 := h.c0
      rw [hN] at c0
      have cu := h.up (i := z) (by omega)
      rw [← eq] at cu
      have hq : q < N := by rw [eq, ← hN]; exact hr.up z
      have cr := h.red (i := q) (by omega)
      have z1 : (z : Int) < N := by omega
      have q1 : (q : Int) < N := by omega
      by_cases red : (S.nd q).red = true
      · rw [red] at cr
        rw [if_pos red] at hs
        obtain ⟨y, ey⟩ : ∃ y, y = (S.nd q).up := ⟨_, rfl⟩
        have hy : y < N := by rw [ey, ← hN]; exact hr.up q
        have cy := h.up (i := q) (by omega)
        rw [← ey] at cy hs
        obtain ⟨d, ed⟩ : ∃ d, d = side S q := ⟨_, rfl⟩
        obtain ⟨u, eu⟩ : ∃ u, u = (S.nd y).kid (!d) := ⟨_, rfl⟩
        rw [← ed, ← eu] at hs
        have hu : u < N := by rw [eu, ← hN]; exact hr.kid y _
        have HD : Hid (∀ n, Calls Try.prog 104 #[.pointer (some ⟨p, 0, none⟩), .int .i64 q] (wr.drewN n) fun e w' => e = .returned (.int .i64 ((dn d : Nat) : Int)) ∧ TW p g cap fr many room S w' ∧ St p g (wr.drewN n) w') :=
          Lib.hid fun n => by rw [ed]; exact side_w (h.drewN n) hr q (by omega)
        have y1 : (y : Int) < N := by omega
        have u1' : (u : Int) < N := by omega
        have d1 : dn d < 2 := by cases d <;> decide
        have d2 : (dn d : Int) < 2 := by cases d <;> decide
        have d3 : dn (!d) < 2 := by cases d <;> decide
        have d4 : (dn (!d) : Int) < 2 := by cases d <;> decide
        have d5 : (1 : Int) - (dn d : Int) = (dn (!d) : Int) := by cases d <;> decide
        have H0 := Lib.hid s0
        have HS := Lib.hid hs
        have HN := Lib.hid hN
        have HU := Lib.hid eu
        have HR := Lib.hid hr
        clear s0 hs hN eu hr h eq ey ed red
        go_wp2_with fail
        go_quiet (fail)
        go_wp2_with fail
        refine (HD.out _).mono ?_
        rintro e w2 ⟨rfl, h2, s2⟩
        clear HD c0 cu cy cr
        have hN := HN.out
        have c0 := h2.c0
        rw [hN] at c0
        have ku := h2.kid (i := y) (by omega) (!d)
        rw [← HU.out] at ku
        have ru := h2.red (i := u) (by omega)
        have hs := HS.out
        clear HS
        by_cases red : (S.nd u).red = true
        · rw [if_pos red] at hs
          rw [red] at ru
          obtain ⟨S3, w3, eS3, ew3, h3, s3⟩ := h2.drew.wred (i := q) (by omega) false
          have l3 : S3.n.length = N := by rw [eS3, len_upd]; exact hN
          obtain ⟨S4, w4, eS4, ew4, h4, s4⟩ := h3.wred (i := u) (by omega) false
          have l4 : S4.n.length = N := by rw [eS4, len_upd]; exact l3
          obtain ⟨S5, w5, eS5, ew5, h5, s5⟩ := h4.wred (i := y) (by omega) true
          have l5 : S5.n.length = N := by rw [eS5, len_upd]; exact l4
          rw [← eS3, ← eS4, ← eS5] at hs
          have r5 : Rng S5 := by
            have r3 : Rng S3 := by rw [eS3]; exact HR.out.sred false (by omega)
            have r4 : Rng S4 := by rw [eS4]; exact r3.sred false (by omega)
            rw [eS5]; exact r4.sred true (by omega)
          have a1 := h2.red (i := q) (by omega)
          have a2 := h2.gf (by omega) (q * 7 + 6)
          have a3 := h3.red (i := u) (by omega)
          have a4 := h3.gf (by omega) (u * 7 + 6)
          have a5 := h4.red (i := y) (by omega)
          have a6 := h4.gf (by omega) (y * 7 + 6)
          have b3 := h3.c0
          rw [l3] at b3
          have b4 := h4.c0
          rw [l4] at b4
          have b5 := h5.c0
          rw [l5] at b5
          have HP : Hid (SI p g cap fr many room N w Sf (.int .i64 y) w5 k) := Lib.hid ⟨S5, y, rfl, h5, r5, hy, l5, hs, (((H0.out.drewN _).trans s2).drew.trans s3).trans (s4.trans s5)⟩
          clear eS3 h3 s3 l3 eS4 h4 s4 l4 eS5 h5 s5 l5 r5 hs hN h2 s2 red
          go_wp2_with fail
          go_region_held3 (fun w' => w'.cell? ⟨p, 0, none⟩ = some (.slice (some ⟨g, 0, none⟩) N cap))
            (first | go_keep | skip)
            (fail)
          go_wp2_with fail
          go_roundw
          case rel => exact ⟨_, HP.out⟩
          case measure => exact least_lt HP.out (Nat.lt_succ_self k) EJ.out
        · have red' : (S.nd u).red = false := by simpa using red
          rw [red'] at ru
          rw [if_neg red] at hs
          by_cases hsd : side S z = d
          · simp only [hsd, if_true] at hs
            have HS := Lib.hid hs
            have HD : Hid (Calls Try.prog 104 #[.pointer (some ⟨p, 0, none⟩), .int .i64 z] w2 fun e w' => e = .returned (.int .i64 ((dn d : Nat) : Int)) ∧ TW p g cap fr many room S w' ∧ St p g w2 w') :=
              Lib.hid (by have := side_w h2 HR.out z (by omega); rw [hsd] at this; exact this)
            have H2 := Lib.hid ((H0.out.drewN _).trans s2)
            clear hs hN h2 s2 red red' hsd
            go_wp2_with fail
            refine (HD.out).mono ?_
            rintro e w3 ⟨rfl, h3, s3⟩
            clear HD c0 ku ru
            have H3 := Lib.hid (H2.out.trans s3)
            clear s3 H2
            have hR := HR.out
            have hN := HN.out
            obtain ⟨S4, w4, eS4, ew4, h4, s4⟩ := h3.drew.wred (i := q) (by omega) false
            have l4 : S4.n.length = N := by rw [eS4, len_upd]; exact hN
            obtain ⟨S5, w5, eS5, ew5, h5, s5⟩ := h4.wred (i := y) (by omega) true
            have l5 : S5.n.length = N := by rw [eS5, len_upd]; exact l4
            have hs := HS.out
            rw [← eS4, ← eS5] at hs
            have r5 : Rng S5 := by
              have r4 : Rng S4 := by rw [eS4]; exact hR.sred false (by omega)
              rw [eS5]; exact r4.sred true (by omega)
            have a1 := h3.red (i := q) (by omega)
            have a2 := h3.gf (by omega) (q * 7 + 6)
            have a5 := h4.red (i := y) (by omega)
            have a6 := h4.gf (by omega) (y * 7 + 6)
            have b0 := h3.c0
            rw [hN] at b0
            have b4 := h4.c0
            rw [l4] at b4
            have b5 := h5.c0
            rw [l5] at b5
            obtain ⟨r6, l6⟩ := r5.turn (x := y) (!d) (by omega)
            rw [l5] at l6
            have HP : Hid (∀ w6, TW p g cap fr many room (turn S5 y (!d)) w6 → St p g w5 w6 → SI p g cap fr many room N w Sf (.int .i64 z) w6 k) := Lib.hid fun w6 h6 s6 => ⟨_, z, rfl, h6, r6, hz, l6, hs, ((H3.out.drew.trans s4).trans s5).trans s6⟩
            have HT : Hid (Calls Try.prog 105 #[.pointer (some ⟨p, 0, none⟩), .int .i64 y, .int .i64 ((dn (!d) : Nat) : Int)] w5 fun e w' => e = .returned (.tuple #[]) ∧ TW p g cap fr many room (turn S5 y (!d)) w' ∧ St p g w5 w') := Lib.hid (turn_any h5 r5 y (!d) (by omega))
            clear eS4 h4 s4 l4 eS5 h5 s5 l5 r5 r6 l6 hs hN HS h3 hR
            go_wp2_with fail
            go_region_held3 (fun w' => w'.cell? ⟨p, 0, none⟩ = some (.slice (some ⟨g, 0, none⟩) N cap))
              (first | go_keep | skip)
              (fail)
            go_wp2_with fail
            refine (HT.out).mono ?_
            rintro e w6 ⟨rfl, h6, s6⟩
            have hP := HP.out w6 h6 s6
            have HP2 := Lib.hid hP
            clear hP h6 s6 HP HT
            go_wp2_with fail
            go_roundw
            case rel => exact ⟨_, HP2.out⟩
            case measure => exact least_lt HP2.out (Nat.lt_succ_self k) EJ.out
          · simp only [hsd, if_false] at hs
            have HS := Lib.hid hs
            obtain ⟨d', ed'⟩ : ∃ d', d' = side S z := ⟨_, rfl⟩
            rw [← ed'] at hsd
            have e6 : ((dn d' : Int) != (dn d : Int)) = true := by revert hsd; cases d <;> cases d' <;> decide
            have HD : Hid (Calls Try.prog 104 #[.pointer (some ⟨p, 0, none⟩), .int .i64 z] w2 fun e w' => e = .returned (.int .i64 ((dn d' : Nat) : Int)) ∧ TW p g cap fr many room S w' ∧ St p g w2 w') :=
              Lib.hid (by have := side_w h2 HR.out z (by omega); rw [← ed'] at this; exact this)
            have H2 := Lib.hid ((H0.out.drewN _).trans s2)
            clear hs hN h2 s2 red red' hsd ed'
            go_wp2_with fail
            refine (HD.out).mono ?_
            rintro e w3 ⟨rfl, h3, s3⟩
            clear HD c0 ku ru
            obtain ⟨rT, lT⟩ := HR.out.turn (x := q) d (by rw [HN.out]; exact hq)
            rw [HN.out] at lT
            have HT : Hid (Calls Try.prog 105 #[.pointer (some ⟨p, 0, none⟩), .int .i64 q, .int .i64 ((dn d : Nat) : Int)] w3 fun e w' => e = .returned (.tuple #[]) ∧ TW p g cap fr many room (turn S q d) w' ∧ St p g w3 w') := Lib.hid (turn_any h3 HR.out q d (by rw [HN.out]; exact hq))
            obtain ⟨T, eT⟩ : ∃ T, T = turn S q d := ⟨_, rfl⟩
            rw [← eT] at HT HS rT lT
            have H3 := Lib.hid (H2.out.trans s3)
            have HR' := Lib.hid rT
            have HN' := Lib.hid lT
            clear s3 H2 h3 rT lT eT
            go_wp2_with fail
            refine (HT.out).mono ?_
            rintro e w4 ⟨rfl, h4', s4'⟩
            clear HT HR HN
            have HR := HR'
            have HN := HN'
            clear HR' HN'
            have H4 := Lib.hid (H3.out.trans s4')
            clear s4' H3
            have hR := HR.out
            obtain ⟨q', eq'⟩ : ∃ q', q' = (T.nd q).up := ⟨_, rfl⟩
            have hq' : q' < N := by rw [eq', ← HN.out]; exact hR.up q
            have q1' : (q' : Int) < N := by omega
            have b9 := h4'.up (i := q) (by rw [HN.out]; exact hq)
            rw [← eq'] at b9 HS
            clear eq'
            have hN := HN.out
            obtain ⟨S4, w4, eS4, ew4, h4, s4⟩ := h4'.drew.wred (i := q') (by omega) false
            have l4 : S4.n.length = N := by rw [eS4, len_upd]; exact hN
            obtain ⟨S5, w5, eS5, ew5, h5, s5⟩ := h4.wred (i := y) (by omega) true
            have l5 : S5.n.length = N := by rw [eS5, len_upd]; exact l4
            have hs := HS.out
            rw [← eS4, ← eS5] at hs
            have r5 : Rng S5 := by
              have r4 : Rng S4 := by rw [eS4]; exact hR.sred false (by omega)
              rw [eS5]; exact r4.sred true (by omega)
            have a1 := h4'.red (i := q') (by omega)
            have a2 := h4'.gf (by omega) (q' * 7 + 6)
            have a5 := h4.red (i := y) (by omega)
            have a6 := h4.gf (by omega) (y * 7 + 6)
            have b0 := h4'.c0
            rw [hN] at b0
            have b4 := h4.c0
            rw [l4] at b4
            have b5 := h5.c0
            rw [l5] at b5
            obtain ⟨r6, l6⟩ := r5.turn (x := y) (!d) (by omega)
            rw [l5] at l6
            have HP : Hid (∀ w6, TW p g cap fr many room (turn S5 y (!d)) w6 → St p g w5 w6 → SI p g cap fr many room N w Sf (.int .i64 q) w6 k) := Lib.hid fun w6 h6 s6 => ⟨_, q, rfl, h6, r6, hq, l6, hs, ((H4.out.drew.trans s4).trans s5).trans s6⟩
            have HT : Hid (Calls Try.prog 105 #[.pointer (some ⟨p, 0, none⟩), .int .i64 y, .int .i64 ((dn (!d) : Nat) : Int)] w5 fun e w' => e = .returned (.tuple #[]) ∧ TW p g cap fr many room (turn S5 y (!d)) w' ∧ St p g w5 w') := Lib.hid (turn_any h5 r5 y (!d) (by omega))
            clear eS4 h4 s4 l4 eS5 h5 s5 l5 r5 r6 l6 hs hN HS h4' hR
            go_wp2_with fail
            go_region_held3 (fun w' => w'.cell? ⟨p, 0, none⟩ = some (.slice (some ⟨g, 0, none⟩) N cap))
              (first | go_keep | skip)
              (fail)
            go_wp2_with fail
            refine (HT.out).mono ?_
            rintro e w6 ⟨rfl, h6, s6⟩
            have hP := HP.out w6 h6 s6
            have HP2 := Lib.hid hP
            clear hP h6 s6 HP HT
            go_wp2_with fail
            go_roundw
            case rel => exact ⟨_, HP2.out⟩
            case measure => exact least_lt HP2.out (Nat.lt_succ_self k) EJ.out
      · have red' : (S.nd q).red = false := by simpa using red
        rw [red'] at cr
        rw [if_neg red] at hs
        injection hs with hs
        have hrt := hr.root
        have HS : Hid (∀ n, ∃ S1 w1, S1 = S.upd S.root (Nd.setRed false) ∧ (wr.drewN n).setCell ⟨g, S.root * 7 + 6, none⟩ (.bool false) = w1 ∧ TW p g cap fr many room S1 w1 ∧ St p g (wr.drewN n) w1) := Lib.hid fun n => (h.drewN n).wred hrt false
        have c2 := h.c2
        have ck := h.red hrt
        have fk := h.gf hr.pos (S.root * 7 + 6)
        obtain ⟨rt, ert⟩ : ∃ rt, rt = S.root := ⟨_, rfl⟩
        rw [← ert] at c2 ck fk hrt HS
        rw [hN] at hrt
        have r1 : (rt : Int) < N := by omega
        have HF := Lib.hid hs
        have HE := Lib.hid ert
        have H0 := Lib.hid s0
        clear hs ert s0 h hr hN eq red red' hz hq hrt
        go_wp2_with fail
        go_quiet (fail)
        go_wp2_with fail
        go_region_held3 (fun w' => w'.cell? ⟨p, 0, none⟩ = some (.slice (some ⟨g, 0, none⟩) N cap) ∧ w'.cell? ⟨p, 2, none⟩ = some (.int .i64 rt))
          (first | go_keep | skip)
          (fail)
        obtain ⟨S1, w1, eS1, ew1, h1, s1⟩ := HS.out _
        rw [ew1]
        go_end0
        rw [← HF.out, ← HE.out, ← eS1]
        exact ⟨rfl, h1, (H0.out.drewN _).trans s1⟩
end
end Go.Proofs.Ytkdmlpigkmlkmaa.Tr
