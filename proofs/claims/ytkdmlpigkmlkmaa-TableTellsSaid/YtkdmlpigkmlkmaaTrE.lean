/- DERIVED. Layer 6 (tree): contract of lift. -/
import Derived.Test.YtkdmlpigkmlkmaaTrD
import Derived.Deep.CutRange
import Derived.BigRegion
set_option linter.unusedVariables false
set_option linter.unusedSimpArgs false
set_option maxRecDepth 100000
namespace Go.Proofs.Ytkdmlpigkmlkmaa.Tr
open Go.RowKit Go.Proofs.Ytkdmlpigkmlkmaa Go.Proofs.Ytkdmlpigkmlkmaa.TreeP

def LI (p g cap : Nat) (fr : Value) (many room N : Nat) (w0 : World) (Sf : TS) (z : Value) (wr : World) (k : Nat) : Prop :=
  ∃ S' z', z = .int .i64 ((z' : Nat) : Int) ∧ TW p g cap fr many room S' wr ∧ Rng S' ∧ z' < N ∧ S'.n.length = N ∧ TreeP.lift k S' z' = some Sf ∧ St p g w0 wr
def LB (p g cap : Nat) (fr : Value) (many room N : Nat) (w0 : World) (Sf : TS) (q : Nat) (d : Bool) (k : Nat) (s : Value) (wx : World) : Prop :=
  ∃ (T : TS) (v : Nat), s = .int .i64 ((v : Nat) : Int) ∧ v = (T.nd q).kid (!d) ∧ TW p g cap fr many room T wx ∧ Rng T ∧ T.n.length = N ∧ St p g w0 wx ∧ liftB k T q d = some Sf
def liftC (k : Nat) (T : TS) (q : Nat) (d : Bool) (v : Nat) : Option TS :=
  let S3 := (T.upd v (Nd.setRed (T.nd q).red)).upd q (Nd.setRed false)
  let S4 := turn (S3.upd ((S3.nd v).kid (!d)) (Nd.setRed false)) q d
  TreeP.lift k S4 S4.root
def LC (p g cap : Nat) (fr : Value) (many room N : Nat) (w0 : World) (Sf : TS) (q : Nat) (d : Bool) (k : Nat) (s : Value) (wx : World) : Prop :=
  ∃ (T : TS) (v : Nat), s = .int .i64 ((v : Nat) : Int) ∧ v = (T.nd q).kid (!d) ∧ TW p g cap fr many room T wx ∧ Rng T ∧ T.n.length = N ∧ St p g w0 wx ∧ liftC k T q d v = some Sf
def both (T : TS) (v : Nat) : Bool := !(T.nd ((T.nd v).kid false)).red && !(T.nd ((T.nd v).kid true)).red
theorem both_true {T : TS} {v : Nat} (h : both T v = true) : (T.nd ((T.nd v).kid false)).red = false ∧ (T.nd ((T.nd v).kid true)).red = false := by
  simpa [both] using h
theorem both_false {T : TS} {v : Nat} (h : both T v = false) : ¬ ((T.nd ((T.nd v).kid false)).red = false ∧ (T.nd ((T.nd v).kid true)).red = false) := by
  intro hc
  simp [both, hc.1, hc.2] at h
section
variable {p g cap many room : Nat} {fr : Value} {S : TS} {w : World}
set_option maxHeartbeats 4000000 in
theorem lift_any (h : TW p g cap fr many room S w) (hr : Rng S) (z : Nat) (hz : z < S.n.length) (Sf : TS) (hs : ∃ k, TreeP.lift k S z = some Sf) :
    Calls Try.prog 96 #[.pointer (some ⟨p, 0, none⟩), .int .i64 z] w fun e w' => e = .returned (.tuple #[]) ∧ TW p g cap fr many room Sf w' ∧ St p g w w' := by
  have hne : g ≠ p := h.ne
  have hne' : p ≠ g := Ne.symm h.ne
  obtain ⟨N, hN⟩ : ∃ N, N = S.n.length := ⟨_, rfl⟩
  rw [← hN] at hz
  have H0 : Hid (∃ k, LI p g cap fr many room N w Sf (.int .i64 z) w k) := Lib.hid (by
    obtain ⟨k, hk⟩ := hs
    exact ⟨k, S, z, rfl, h, hr, hz, hN.symm, hk, Step.refl _ _⟩)
  clear hs h hr hN hz
  go_enter Try.func96, Try.ntmps96
  go_wp2
  go_loopw [1] (fun z wr => ∃ k, LI p g cap fr many room N w Sf z wr k) (fun z wr => least (LI p g cap fr many room N w Sf z wr))
  case atStart => exact H0.out
  case round =>
    clear H0
    obtain ⟨hP, -⟩ := least_spec hrel
    clear hrel
    obtain ⟨j, ej⟩ : ∃ j, j = least (LI p g cap fr many room N w Sf u1 wr) := ⟨_, rfl⟩
    rw [← ej] at hP
    have EJ := Lib.hid ej
    clear ej
    obtain ⟨S, x, rfl, h, hr, hx, hN, hs, s0⟩ := hP
    cases j with
    | zero => simp [TreeP.lift] at hs
    | succ k =>
      have c0 := h.c0
      rw [hN] at c0
      have c2 := h.c2
      have cr := h.red (i := x) (by omega)
      have cf := h.gf hr.pos (x * 7 + 6)
      have x1 : (x : Int) < N := by omega
      obtain ⟨rt, ert⟩ : ∃ rt, rt = S.root := ⟨_, rfl⟩
      rw [← ert] at c2
      by_cases hgo : x ≠ S.root ∧ (S.nd x).red = false
      · rw [lift_succ k S x hgo] at hs
        have xr : ((x : Int) != (rt : Int)) = true := by have := hgo.1; rw [← ert] at this; simp; omega
        rw [hgo.2] at cr
        obtain ⟨q, eq⟩ : ∃ q, q = (S.nd x).up := ⟨_, rfl⟩
        have hq : q < N := by rw [eq, ← hN]; exact hr.up x
        have cu := h.up (i := x) (by omega)
        rw [← eq] at hs cu
        obtain ⟨d, ed⟩ : ∃ d, d = (!((S.nd q).k0 == x)) := ⟨_, rfl⟩
        rw [← ed] at hs
        have ck := h.k0 (i := q) (by omega)
        obtain ⟨kk, ekk⟩ : ∃ kk, kk = (S.nd q).k0 := ⟨_, rfl⟩
        rw [← ekk] at ed ck
        have q1 : (q : Int) < N := by omega
        have HD := Lib.hid ed
        have HS := Lib.hid hs
        have H := Lib.hid h
        have H0 := Lib.hid s0
        have HN := Lib.hid hN
        have HR := Lib.hid hr
        clear ed hs h s0 hN hr ekk eq hgo ert
        go_upto_if 43 with fail
        go_cut [5] from 8 to 241 (fun s5 wx => s5 = .int .i64 ((dn d : Nat) : Int) ∧ TW p g cap fr many room S wx ∧ St p g w wx)
        case first =>
          as_aux_lemma =>
            by_cases hk : kk = x
            · subst hk
              have e : d = false := by rw [HD.out]; simp
              subst e
              go_wp2_with fail
              go_meet
              case rel => exact ⟨rfl, H.out, H0.out⟩
            · have e : d = true := by rw [HD.out]; simp [hk]
              subst e
              have kx : ((kk : Int) != (x : Int)) = true := by simp; omega
              go_wp2_with fail
              go_meet
              case rel => exact ⟨rfl, H.out, H0.out⟩
        case rest =>
          as_aux_lemma =>
            clear c0 c2 cr cf cu ck xr HD H H0
            obtain ⟨rfl, h, s0⟩ := hcut
            have hN := HN.out
            have hr := HR.out
            have hs := HS.out
            clear HS
            obtain ⟨v, ev⟩ : ∃ v, v = (S.nd q).kid (!d) := ⟨_, rfl⟩
            rw [← ev] at hs
            have hv : v < N := by rw [ev, ← hN]; exact hr.kid q _
            have v1 : (v : Int) < N := by omega
            have d1 : dn d < 2 := by cases d <;> decide
            have d2 : (dn d : Int) < 2 := by cases d <;> decide
            have d3 : dn (!d) < 2 := by cases d <;> decide
            have d4 : (dn (!d) : Int) < 2 := by cases d <;> decide
            have d5 : (1 : Int) - (dn d : Int) = (dn (!d) : Int) := by cases d <;> decide
            have d6 : IntKind.i64.wrap ((1 : Int) - (dn d : Int)) = (dn (!d) : Int) := by cases d <;> decide
            have d7 : IntKind.i64.wrap ((dn (!d) : Nat) : Int) = (dn (!d) : Int) := by cases d <;> decide
            have d8 : (0 : Int) ≤ (dn (!d) : Int) := by cases d <;> decide
            have c0 := h.c0
            rw [hN] at c0
            have ck := h.kid (i := q) (by omega) (!d)
            rw [← ev] at ck
            have cr := h.red (i := v) (by omega)
            obtain ⟨rv, erv⟩ : ∃ rv, rv = (S.nd v).red := ⟨_, rfl⟩
            rw [← erv] at cr hs
            have HS := Lib.hid hs
            have HV := Lib.hid ev
            have H := Lib.hid h
            have H0 := Lib.hid s0
            clear hs ev erv h s0 hN hr
            go_upto_if 62 with fail
            go_cut [6] from 8 to 241 (fun s6 wx => LB p g cap fr many room N w Sf q d k s6 wx)
            case first =>
              as_aux_lemma =>
                cases rv with
                | false =>
                  have hL : LB p g cap fr many room N w Sf q d k (.int .i64 v) wc := by
                    have hs := HS.out
                    simp only [Bool.false_eq_true, if_false] at hs
                    exact ⟨S, v, rfl, HV.out, H.out, HR.out, HN.out, H0.out, hs⟩
                  have HL := Lib.hid hL
                  clear hL HS HV H H0
                  go_wp2_with fail
                  go_meet
                  case rel => exact HL.out
                | true =>
                  have hs := HS.out
                  simp only [if_true] at hs
                  have h := H.out
                  have hN := HN.out
                  obtain ⟨S4, w4, eS4, ew4, h4, s4⟩ := h.drew.wred (i := v) (by omega) false
                  have l4 : S4.n.length = N := by rw [eS4, len_upd]; exact hN
                  obtain ⟨S5, w5, eS5, ew5, h5, s5⟩ := h4.wred (i := q) (by omega) true
                  have l5 : S5.n.length = N := by rw [eS5, len_upd]; exact l4
                  rw [← eS4, ← eS5] at hs
                  have r5 : Rng S5 := by
                    have r4 : Rng S4 := by rw [eS4]; exact HR.out.sred false (by omega)
                    rw [eS5]; exact r4.sred true (by omega)
                  have a2 := h.gf (by omega) (v * 7 + 6)
                  have a5 := h4.red (i := q) (by omega)
                  have a6 := h4.gf (by omega) (q * 7 + 6)
                  have b4 := h4.c0
                  rw [l4] at b4
                  have b5 := h5.c0
                  rw [l5] at b5
                  obtain ⟨r6, l6⟩ := r5.turn (x := q) d (by omega)
                  rw [l5] at l6
                  have HT : Hid (Calls Try.prog 105 #[.pointer (some ⟨p, 0, none⟩), .int .i64 q, .int .i64 ((dn d : Nat) : Int)] w5 fun e w' => e = .returned (.tuple #[]) ∧ TW p g cap fr many room (turn S5 q d) w' ∧ St p g w5 w') := Lib.hid (turn_any h5 r5 q d (by omega))
                  obtain ⟨T, eT⟩ : ∃ T, T = turn S5 q d := ⟨_, rfl⟩
                  rw [← eT] at HT hs r6 l6
                  obtain ⟨v', ev'⟩ : ∃ v', v' = (T.nd q).kid (!d) := ⟨_, rfl⟩
                  have hv' : v' < N := by rw [ev', ← l6]; exact r6.kid q _
                  have v1' : (v' : Int) < N := by omega
                  have HP : Hid (∀ w6, TW p g cap fr many room T w6 → St p g w5 w6 → LB p g cap fr many room N w Sf q d k (.int .i64 v') w6) := Lib.hid fun w6 h6 s6 => ⟨T, v', rfl, ev', h6, r6, l6, ((H0.out.drew.trans s4).trans s5).trans s6, hs⟩
                  have L6 := Lib.hid l6
                  have EV := Lib.hid ev'
                  clear eS4 h4 s4 l4 eS5 h5 s5 l5 r5 r6 l6 hs hN HS HV H H0 h ev' eT hv'
                  go_wp2_with fail
                  go_region_held3 (fun w' => w'.cell? ⟨p, 0, none⟩ = some (.slice (some ⟨g, 0, none⟩) N cap))
                    (first | go_keep | skip)
                    (fail)
                  go_wp2_with fail
                  refine (HT.out).mono ?_
                  rintro e w6 ⟨rfl, h6, s6⟩
                  have hP := HP.out w6 h6 s6
                  have HP2 := Lib.hid hP
                  have g0 := h6.c0
                  rw [L6.out] at g0
                  have gk := h6.kid (i := q) (by rw [L6.out]; exact hq) (!d)
                  rw [← EV.out] at gk
                  clear hP h6 s6 HP HT c0 ck cr a2 a5 a6 b4 b5
                  go_wp2_with fail
                  go_meet
                  case rel => exact HP2.out
            case rest =>
              as_aux_lemma =>
                clear HS HV H H0 c0 ck cr HR HN v1 hv
                obtain ⟨T, v, rfl, ev, h, hr, hN, s0, hs⟩ := hcut
                have hv : v < N := by rw [ev, ← hN]; exact hr.kid q _
                have v1 : (v : Int) < N := by omega
                have c0 := h.c0
                rw [hN] at c0
                have k0 := h.k0 (i := v) (by omega)
                have k1 := h.k1 (i := v) (by omega)
                have r0 := h.red (i := (T.nd v).k0) (hr.k0 v)
                have r1 := h.red (i := (T.nd v).k1) (hr.k1 v)
                have hb : both T v = (!(T.nd (T.nd v).k0).red && !(T.nd (T.nd v).k1).red) := rfl
                have m0 := hr.k0 v
                have m1 := hr.k1 v
                rw [hN] at m0 m1
                obtain ⟨a0, ea0⟩ : ∃ a0, a0 = (T.nd v).k0 := ⟨_, rfl⟩
                obtain ⟨a1, ea1⟩ : ∃ a1, a1 = (T.nd v).k1 := ⟨_, rfl⟩
                rw [← ea0] at k0 r0 hb m0
                rw [← ea1] at k1 r1 hb m1
                obtain ⟨b0, eb0⟩ : ∃ b0, b0 = (T.nd a0).red := ⟨_, rfl⟩
                obtain ⟨b1, eb1⟩ : ∃ b1, b1 = (T.nd a1).red := ⟨_, rfl⟩
                rw [← eb0] at r0 hb
                rw [← eb1] at r1 hb
                have m0' : (a0 : Int) < N := by omega
                have m1' : (a1 : Int) < N := by omega
                have H := Lib.hid h
                have HB := Lib.hid hb
                have HN := Lib.hid hN
                have HR := Lib.hid hr
                have H0 := Lib.hid s0
                have HS := Lib.hid hs
                have HV := Lib.hid ev
                clear h hb hN hr s0 hs ev eb0 eb1 ea0 ea1
                go_upto_region 10 with fail
                go_cut [127] from 8 to 241 (fun s wx => s = .bool (both T v) ∧ TW p g cap fr many room T wx ∧ St p g w wx)
                case first =>
                  as_aux_lemma =>
                    cases b0 with
                    | true =>
                      have e : both T v = false := by rw [HB.out]; rfl
                      have HE := Lib.hid e
                      clear e
                      go_wp2_with fail
                      go_quiet (fail)
                      go_wp2_with fail
                      go_meet
                      case rel => exact ⟨by rw [HE.out], H.out.drewN _, H0.out.drewN _⟩
                    | false =>
                      have e : both T v = !b1 := by rw [HB.out]; rfl
                      have HE := Lib.hid e
                      clear e
                      go_wp2_with fail
                      go_quiet (fail)
                      go_wp2_with fail
                      go_meet
                      case rel => exact ⟨by rw [HE.out], H.out.drewN _, H0.out.drewN _⟩
                case rest =>
                  as_aux_lemma =>
                    clear c0 k0 k1 r0 r1 H H0 HB m0 m1 m0' m1'
                    obtain ⟨rfl, h, s0⟩ := hcut
                    have hs := HS.out
                    have hr := HR.out
                    have hN := HN.out
                    have ev := HV.out
                    clear HS HV
                    obtain ⟨B, eB⟩ : ∃ B, B = both T v := ⟨_, rfl⟩
                    rw [← eB]
                    have c0 := h.c0
                    rw [hN] at c0
                    unfold liftB at hs
                    simp only at hs
                    rw [← ev] at hs
                    cases B with
                    | true =>
                      rw [if_pos (both_true eB.symm)] at hs
                      obtain ⟨S4, w4, eS4, ew4, h4, s4⟩ := h.wred (i := v) (by omega) true
                      have l4 : S4.n.length = N := by rw [eS4, len_upd]; exact hN
                      have r4 : Rng S4 := by rw [eS4]; exact hr.sred true (by omega)
                      rw [← eS4] at hs
                      have cr := h.red (i := v) (by omega)
                      have cf := h.gf (by omega) (v * 7 + 6)
                      have HP : Hid (LI p g cap fr many room N w Sf (.int .i64 q) w4 k) := Lib.hid ⟨S4, q, rfl, h4, r4, hq, l4, hs, s0.trans s4⟩
                      clear eS4 h4 s4 l4 r4 hs hN hr h s0 HN HR eB ev
                      go_wp2_with fail
                      go_roundw
                      case rel => exact ⟨_, HP.out⟩
                      case measure => exact least_lt HP.out (Nat.lt_succ_self k) EJ.out
                    | false =>
                      rw [if_neg (both_false eB.symm)] at hs
                      obtain ⟨f, ef⟩ : ∃ f, f = (T.nd v).kid (!d) := ⟨_, rfl⟩
                      obtain ⟨b, eb⟩ : ∃ b, b = (T.nd v).kid d := ⟨_, rfl⟩
                      rw [← ef, ← eb] at hs
                      have hf : f < N := by rw [ef, ← hN]; exact hr.kid v _
                      have hb : b < N := by rw [eb, ← hN]; exact hr.kid v _
                      have f1 : (f : Int) < N := by omega
                      have b1' : (b : Int) < N := by omega
                      have kf := h.kid (i := v) (by omega) (!d)
                      rw [← ef] at kf
                      have kb := h.kid (i := v) (by omega) d
                      rw [← eb] at kb
                      have rf := h.red (i := f) (by omega)
                      obtain ⟨rv, erv⟩ : ∃ rv, rv = (T.nd f).red := ⟨_, rfl⟩
                      rw [← erv] at rf hs
                      have HS := Lib.hid hs
                      have HV := Lib.hid ev
                      have H := Lib.hid h
                      have H0 := Lib.hid s0
                      have EB := Lib.hid eb
                      clear hs ev erv h s0 hN hr eB ef eb
                      go_upto_if 155 with fail
                      go_cut [6] from 8 to 241 (fun s6 wx => LC p g cap fr many room N w Sf q d k s6 wx)
                      case first =>
                        as_aux_lemma =>
                          cases rv with
                          | true =>
                            have hL : LC p g cap fr many room N w Sf q d k (.int .i64 v) wc := by
                              have hs := HS.out
                              simp only [if_true] at hs
                              rw [← HV.out] at hs
                              exact ⟨T, v, rfl, HV.out, H.out, HR.out, HN.out, H0.out, hs⟩
                            have HL := Lib.hid hL
                            clear hL HS HV H H0
                            go_wp2_with fail
                            go_meet
                            case rel => exact HL.out
                          | false =>
                            have hs := HS.out
                            simp only [Bool.false_eq_true, if_false] at hs
                            have h := H.out
                            have hN := HN.out
                            obtain ⟨S4, w4, eS4, ew4, h4, s4⟩ := h.drew.wred (i := b) (by omega) false
                            have l4 : S4.n.length = N := by rw [eS4, len_upd]; exact hN
                            obtain ⟨S5, w5, eS5, ew5, h5, s5⟩ := h4.wred (i := v) (by omega) true
                            have l5 : S5.n.length = N := by rw [eS5, len_upd]; exact l4
                            rw [← eS4, ← eS5] at hs
                            have r5 : Rng S5 := by
                              have r4 : Rng S4 := by rw [eS4]; exact HR.out.sred false (by omega)
                              rw [eS5]; exact r4.sred true (by omega)
                            have a1 := h.red (i := b) (by omega)
                            have a2 := h.gf (by omega) (b * 7 + 6)
                            have a5 := h4.red (i := v) (by omega)
                            have a6 := h4.gf (by omega) (v * 7 + 6)
                            have b4 := h4.c0
                            rw [l4] at b4
                            have b5 := h5.c0
                            rw [l5] at b5
                            have k4 := h4.kid (i := v) (by omega) d
                            rw [show (S4.nd v).kid d = b by rw [eS4, kid_red _ _ _ _ _ (by omega)]; exact EB.out.symm] at k4
                            have k5 := h5.kid (i := v) (by omega) d
                            rw [show (S5.nd v).kid d = b by rw [eS5, kid_red _ _ _ _ _ (by omega), eS4, kid_red _ _ _ _ _ (by omega)]; exact EB.out.symm] at k5
                            obtain ⟨r6, l6⟩ := r5.turn (x := v) (!d) (by omega)
                            rw [l5] at l6
                            have HT : Hid (Calls Try.prog 105 #[.pointer (some ⟨p, 0, none⟩), .int .i64 v, .int .i64 ((dn (!d) : Nat) : Int)] w5 fun e w' => e = .returned (.tuple #[]) ∧ TW p g cap fr many room (turn S5 v (!d)) w' ∧ St p g w5 w') := Lib.hid (turn_any h5 r5 v (!d) (by omega))
                            obtain ⟨U, eU⟩ : ∃ U, U = turn S5 v (!d) := ⟨_, rfl⟩
                            rw [← eU] at HT hs r6 l6
                            obtain ⟨v', ev'⟩ : ∃ v', v' = (U.nd q).kid (!d) := ⟨_, rfl⟩
                            rw [← ev'] at hs
                            have hv' : v' < N := by rw [ev', ← l6]; exact r6.kid q _
                            have v1' : (v' : Int) < N := by omega
                            have HP : Hid (∀ w6, TW p g cap fr many room U w6 → St p g w5 w6 → LC p g cap fr many room N w Sf q d k (.int .i64 v') w6) := Lib.hid fun w6 h6 s6 => ⟨U, v', rfl, ev', h6, r6, l6, ((H0.out.drew.trans s4).trans s5).trans s6, hs⟩
                            have L6 := Lib.hid l6
                            have EV := Lib.hid ev'
                            clear eS4 h4 s4 l4 eS5 h5 s5 l5 r5 r6 l6 hs hN HS HV H H0 h ev' eU hv' EB
                            go_wp2_with fail
                            go_region_held3 (fun w' => w'.cell? ⟨p, 0, none⟩ = some (.slice (some ⟨g, 0, none⟩) N cap) ∧ w'.cell? ⟨g, v * 7 + 3 + dn d, none⟩ = some (.int .i64 b))
                              (first | go_keep | skip)
                              (fail)
                            go_wp2_with fail
                            refine (HT.out).mono ?_
                            rintro e w6 ⟨rfl, h6, s6⟩
                            have hP := HP.out w6 h6 s6
                            have HP2 := Lib.hid hP
                            have g0 := h6.c0
                            rw [L6.out] at g0
                            have gk := h6.kid (i := q) (by rw [L6.out]; exact hq) (!d)
                            rw [← EV.out] at gk
                            clear hP h6 s6 HP HT c0 kf kb rf a1 a2 a5 a6 b4 b5 k4 k5
                            go_wp2_with fail
                            go_meet
                            case rel => exact HP2.out
                      case rest =>
                        as_aux_lemma =>
                          clear HS HV H H0 c0 kf kb rf HR HN v1 hv hf hb f1 b1' EB
                          obtain ⟨U, v, rfl, ev, h, hr, hN, s0, hs⟩ := hcut
                          have hv : v < N := by rw [ev, ← hN]; exact hr.kid q _
                          have v1 : (v : Int) < N := by omega
                          unfold liftC at hs
                          simp only at hs
                          obtain ⟨rq, erq⟩ : ∃ rq, rq = (U.nd q).red := ⟨_, rfl⟩
                          rw [← erq] at hs
                          obtain ⟨S4, w4, eS4, ew4, h4, s4⟩ := h.drew.wred (i := v) (by omega) rq
                          have l4 : S4.n.length = N := by rw [eS4, len_upd]; exact hN
                          obtain ⟨S5, w5, eS5, ew5, h5, s5⟩ := h4.wred (i := q) (by omega) false
                          have l5 : S5.n.length = N := by rw [eS5, len_upd]; exact l4
                          rw [← eS4, ← eS5] at hs
                          have r5 : Rng S5 := by
                            have r4 : Rng S4 := by rw [eS4]; exact hr.sred rq (by omega)
                            rw [eS5]; exact r4.sred false (by omega)
                          have c0 := h.c0
                          rw [hN] at c0
                          have cq := h.red (i := q) (by omega)
                          rw [← erq] at cq
                          have a1 := h.red (i := v) (by omega)
                          have a2 := h.gf (by omega) (v * 7 + 6)
                          have a5 := h4.red (i := q) (by omega)
                          have a6 := h4.gf (by omega) (q * 7 + 6)
                          have b4 := h4.c0
                          rw [l4] at b4
                          have b5 := h5.c0
                          rw [l5] at b5
                          have H5 := Lib.hid h5
                          have R5 := Lib.hid r5
                          have L5 := Lib.hid l5
                          have HS := Lib.hid hs
                          have H0 := Lib.hid ((s0.drew.trans s4).trans s5)
                          clear eS4 h4 s4 l4 eS5 h5 s5 l5 r5 hs hN hr h s0 ev erq
                          go_wp2_with fail
                          go_region
                          clear c0 cq a1 a2 a5 a6 b4
                          have h5 := H5.out
                          have hN := L5.out
                          obtain ⟨f2, ef2⟩ : ∃ f2, f2 = (S5.nd v).kid (!d) := ⟨_, rfl⟩
                          have hf2 : f2 < N := by rw [ef2, ← hN]; exact R5.out.kid v _
                          have f2' : (f2 : Int) < N := by omega
                          have kv := h5.kid (i := v) (by omega) (!d)
                          rw [← ef2] at kv
                          have hs := HS.out
                          rw [← ef2] at hs
                          obtain ⟨S6, w6, eS6, ew6, h6, s6⟩ := h5.drew.wred (i := f2) (by omega) false
                          have l6 : S6.n.length = N := by rw [eS6, len_upd]; exact hN
                          have r6 : Rng S6 := by rw [eS6]; exact R5.out.sred false (by omega)
                          rw [← eS6] at hs
                          have a2 := h5.gf (by omega) (f2 * 7 + 6)
                          have a1 := h5.red (i := f2) (by omega)
                          have b6 := h6.c0
                          rw [l6] at b6
                          have k6 := h6.kid (i := v) (by omega) (!d)
                          rw [show (S6.nd v).kid (!d) = f2 by rw [eS6, kid_red _ _ _ _ _ (by omega)]; exact ef2.symm] at k6
                          obtain ⟨r7, l7⟩ := r6.turn (x := q) d (by omega)
                          rw [l6] at l7
                          have HT : Hid (Calls Try.prog 105 #[.pointer (some ⟨p, 0, none⟩), .int .i64 q, .int .i64 ((dn d : Nat) : Int)] w6 fun e w' => e = .returned (.tuple #[]) ∧ TW p g cap fr many room (turn S6 q d) w' ∧ St p g w6 w') := Lib.hid (turn_any h6 r6 q d (by omega))
                          obtain ⟨V, eV⟩ : ∃ V, V = turn S6 q d := ⟨_, rfl⟩
                          rw [← eV] at HT hs r7 l7
                          have HP : Hid (∀ w7, TW p g cap fr many room V w7 → St p g w6 w7 → LI p g cap fr many room N w Sf (.int .i64 (V.root : Nat)) w7 k) := Lib.hid fun w7 h7 s7 => ⟨V, V.root, rfl, h7, r7, by rw [← l7]; exact r7.root, l7, hs, ((H0.out.drew.trans s6)).trans s7⟩
                          clear hs h6 s6 r6 r7 l6 l7 eS6 eV h5 hN ef2 hf2 HS H5 R5 L5 H0
                          go_wp2_with fail
                          go_region_held3 (fun w' => w'.cell? ⟨p, 0, none⟩ = some (.slice (some ⟨g, 0, none⟩) N cap) ∧ w'.cell? ⟨g, v * 7 + 3 + dn (!d), none⟩ = some (.int .i64 f2))
                            (first | go_keep | skip)
                            (fail)
                          go_wp2_with fail
                          refine (HT.out).mono ?_
                          rintro e w7 ⟨rfl, h7, s7⟩
                          have hP := HP.out w7 h7 s7
                          have HP2 := Lib.hid hP
                          have c2 := h7.c2
                          obtain ⟨rt, ert⟩ : ∃ rt, rt = V.root := ⟨_, rfl⟩
                          rw [← ert] at c2 HP2
                          clear hP h7 s7 HP HT kv a1 a2 b5 b6 k6 ert
                          go_wp2_with fail
                          go_roundw
                          case rel => exact ⟨_, HP2.out⟩
                          case measure => exact least_lt HP2.out (Nat.lt_succ_self k) EJ.out
      · have hx' : TreeP.lift (k + 1) S x = some (S.upd x (Nd.setRed false)) := by
          unfold TreeP.lift
          rw [if_neg hgo]
        rw [hx'] at hs
        injection hs with hs
        obtain ⟨S1, w1, eS1, ew1, h1, s1⟩ := h.wred (i := x) (by omega) false
        rw [← eS1] at hs
        by_cases hxr : x = S.root
        · have xr : ((x : Int) != (rt : Int)) = false := by rw [ert, ← hxr]; simp
          have H1 := Lib.hid h1
          have HT := Lib.hid (s0.trans s1)
          have HS := Lib.hid hs
          clear hs hx' hxr ert eS1 h1 s1 s0 h hr hN hgo
          go_wp2
          go_end0
          rw [← HS.out]
          exact ⟨rfl, H1.out, HT.out⟩
        · have xr : ((x : Int) != (rt : Int)) = true := by rw [ert]; simp; omega
          have hred : (S.nd x).red = true := by
            by_cases hc : (S.nd x).red = true
            · exact hc
            · exact absurd ⟨hxr, by simpa using hc⟩ hgo
          rw [hred] at cr
          have H1 := Lib.hid h1
          have HT := Lib.hid (s0.trans s1)
          have HS := Lib.hid hs
          clear hs hx' hxr ert eS1 h1 s1 s0 h hr hN hgo hred
          go_wp2
          go_end0
          rw [← HS.out]
          exact ⟨rfl, H1.out, HT.out⟩
end
end Go.Proofs.Ytkdmlpigkmlkmaa.Tr
