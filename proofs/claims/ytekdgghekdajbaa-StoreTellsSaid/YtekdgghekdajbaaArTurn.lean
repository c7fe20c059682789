/- DERIVED. Layer 4 (arena): the law ArenaTurn. -/
import Derived.Test.YtekdgghekdajbaaArH
import Derived.Test.YtekdgghekdajbaaArNone
import Derived.Test.YtekdgghekdajbaaArgs
import Derived.Test.YtekdgghekdajbaaOwn
import Derived.LoopN
set_option linter.unusedVariables false
set_option linter.unusedSimpArgs false
set_option maxRecDepth 100000
namespace Go.Proofs.Ytekdgghekdajbaa.Ar
open Go.RowKit Go.Proofs.Ytekdgghekdajbaa

theorem take_place {N : Nat} {X : A} (ho : Ok N X) (hu : X.used < X.room) : pb (tk X) (hdl (tk X) (tq X) : Nat) = true ∧ pv (tk X) (hdl (tk X) (tq X) : Nat) = tq X ∧ hdl (tk X) (tq X) < (N + 1) * 4294967296 + 65537 := by
  obtain ⟨t, ho'⟩ := take_spec ho hu
  have hl : (tk X).st.length ≤ 65536 := Nat.le_trans ho'.len ho'.r2
  have hodd : (tk X).st.getD (tq X) 0 % 2 = 1 := by rw [t.now]; have := t.was; omega
  have hq := t.q
  have hb := ho'.bd (tq X)
  have e := hdl_at hodd
  have h1 : pb (tk X) (hdl (tk X) (tq X) : Nat) = true := by
    rw [e, pb_at _ _ _ hq hl]
    exact decide_eq_true (by omega)
  refine ⟨h1, ?_, by rw [e]; omega⟩
  unfold pv
  rw [if_pos h1, e]
  omega
theorem back_last {N : Nat} {X : A} {P : List Nat} {j m : Nat} (ho : Ok N X) (hB : ∃ B, X.bk = B ++ P.take (P.length - j)) (hm : P.length = j + 1 + m) :
    X.used < X.room ∧ tq X = P.getD m 0 ∧ ∃ B, (tk X).bk = B ++ P.take (P.length - (j + 1)) := by
  obtain ⟨B, hB⟩ := hB
  have e : P.take (P.length - j) = P.take m ++ [P.getD m 0] := by
    rw [show P.length - j = m + 1 by omega, List.take_succ_eq_append_getElem (by omega : m < P.length)]
    simp [List.getD, show m < P.length by omega]
  rw [e, ← List.append_assoc] at hB
  have hne : X.bk ≠ [] := by rw [hB]; simp
  have hl : 0 < X.bk.length := List.length_pos_iff.2 hne
  have := ho.sum
  have := ho.len
  refine ⟨by omega, ?_, B, ?_⟩
  · unfold tq
    rw [if_neg hne, hB]
    simp [List.getLastD_eq_getLast?]
  · show X.bk.dropLast = _
    rw [hB, List.dropLast_concat, show P.length - (j + 1) = m by omega]
def filled (j : Nat) : A := ⟨List.replicate j 1, [], 10, j⟩
theorem filled_facts : ∀ j, j < 10 → tkH (filled j) = j + 1 ∧ tkE (filled j) = 0 ∧ tkA (filled j) = filled (j + 1) := by
  intro j hj
  have : j = 0 ∨ j = 1 ∨ j = 2 ∨ j = 3 ∨ j = 4 ∨ j = 5 ∨ j = 6 ∨ j = 7 ∨ j = 8 ∨ j = 9 := by omega
  rcases this with rfl | rfl | rfl | rfl | rfl | rfl | rfl | rfl | rfl | rfl <;> exact ⟨rfl, rfl, rfl⟩
theorem filled_ok : ∀ j, j ≤ 10 → Ok j (filled j)
  | 0, _ => ok_fresh 10 (by omega) (by omega)
  | j + 1, h => by
    have := tkA_ok (filled_ok j (by omega))
    rw [(filled_facts j (by omega)).2.2] at this
    exact this
theorem filled_step (j : Nat) (h : j < 10) : tkH (filled j) = j + 1 ∧ tkE (filled j) = 0 ∧ tkA (filled j) = filled (j + 1) ∧ Ok j (filled j) := ⟨(filled_facts j h).1, (filled_facts j h).2.1, (filled_facts j h).2.2, filled_ok j (by omega)⟩
theorem filled_ten : Ok 10 (filled 10) := filled_ok 10 (by omega)
theorem turn_short (v v2 : Value) (l : List Op) (bk : List Nat) (w : World) (h : Ops w v l) (h2 : Bytes w v2 bk) (hn : bk.length ≤ 30) :
    Calls Try.prog 4 #[v, v2] w fun e w' => e = .returned (.bool true) ∧ Ext w w' := by
  obtain ⟨a, cap, rfl, hc1, hc2, hcells⟩ := h2
  unfold maxLen at hc2
  obtain ⟨n, hn1⟩ : ∃ n, n = bk.length := ⟨_, rfl⟩
  rw [← hn1] at hc1 hcells hn ⊢
  have HOps := Lib.hid h
  have HC := Lib.hid hcells
  have HN := Lib.hid hn1
  clear hcells hn1 h
  go_enter Try.func4, Try.ntmps4
  go_wp2_with (go_at_call 13; refine (played_any _ _ _ HOps.out).mono ?_; rintro e w1 ⟨p, tv, gv, X, T, G, N, rfl, h1, h2, h3, h4, h5⟩; have H := Lib.hid h1; have HK := Lib.hid h2; have HI := Lib.hid h5; clear h1 h2 h5)
  by_cases hT : T.length = 0
  · obtain ⟨ta, tcap, rfl⟩ := own_slice H.out.row
    have hT0 : ((T.length : Int) == 0) = true := by simp [hT]
    by_cases hn0 : n = 0
    · subst hn0
      clear HC
      refine wp_loop_rounds 1 ?_
      rw [rounds_succ]
      go_wp2
      refine wp_loop_rounds 1 ?_
      rw [rounds_succ]
      go_wp2_with (go_at_call 20; refine (own_new 10 (by omega) (by omega) H.out).mono ?_; rintro e w3 ⟨pb2, rfl, h1, _⟩; have H3 := Lib.hid h1; clear h1)
      go_loopw [127] (fun i wr3 => ∃ (j : Nat), i = .int .i64 j ∧ j ≤ 10 ∧ Own [Arena pb2 (filled j), Row 30 1 (.slice ta T.length tcap) T.length (us T), Row 4 1 gv G.length (bs G), Arena p X, Old w] wr3) (fun i _ => 10 - (intOf i).toNat)
      case atStart => exact ⟨0, rfl, by omega, H3.out⟩
      case round =>
        obtain ⟨j, rfl, hj, hO⟩ := hrel
        have HO := Lib.hid hO
        clear hO H3
        by_cases hjt : j < 10
        · obtain ⟨f1, f2, f3, f4⟩ := filled_step j hjt
          have F1 := Lib.hid f1
          have F2 := Lib.hid f2
          have F3 := Lib.hid f3
          have F4 := Lib.hid f4
          clear f1 f2 f3 f4
          go_wp2_with (go_at_call 19; refine (own_take' (a := j + 1) (b := 0) (Y := filled (j + 1)) HO.out F4.out (by omega) F1.out F2.out F3.out).mono ?_; rintro e w4 ⟨rfl, h2⟩; have H2 := Lib.hid h2; clear h2)
          go_roundw
          case rel => exact ⟨j + 1, rfl, by omega, H2.out⟩
          case measure => simp only [intOf]; omega
        · obtain rfl : j = 10 := by omega
          have F4 := Lib.hid filled_ten
          go_wp2_with (first
            | (go_at_call 19; refine (own_take' (a := 0) (b := 4) (Y := filled 10) HO.out F4.out (by omega) rfl rfl rfl).mono ?_; rintro e w4 ⟨rfl, h2⟩; have H2 := Lib.hid h2; clear h2)
            | (go_at_call 17; refine (own_used' (a := 10) H2.out F4.out rfl).mono ?_; rintro e w' ⟨rfl, rfl⟩)
            | (go_at_call 18; refine (awake_any H2.out).mono ?_; rintro e w4 ⟨rfl, h4⟩))
          go_ret
          exact ⟨rfl, h4.ext (by simp)⟩
    · obtain ⟨b, off, rfl, hb, hcs⟩ := HC.out (by have := HN.out; omega)
      obtain ⟨x, hx⟩ : ∃ x, bk[0]? = some x := ⟨bk[0]'(by have := HN.out; omega), by simp⟩
      obtain ⟨hx255, c0⟩ := hcs 0 x hx
      have hxx : Ext w w1 := H.out.ext (by simp)
      replace c0 := hxx.cell c0
      rw [Nat.add_zero] at c0
      have hpos : 0 < n := by omega
      clear hcs HC hxx hx
      refine wp_loop_rounds 1 ?_
      rw [rounds_succ]
      go_wp2
      refine wp_loop_rounds 1 ?_
      rw [rounds_succ]
      go_wp2_with (go_at_call 20; refine (own_new 10 (by omega) (by omega) H.out).mono ?_; rintro e w3 ⟨pb2, rfl, h1, _⟩; have H3 := Lib.hid h1; clear h1)
      go_loopw [127] (fun i wr3 => ∃ (j : Nat), i = .int .i64 j ∧ j ≤ 10 ∧ Own [Arena pb2 (filled j), Row 30 1 (.slice ta T.length tcap) T.length (us T), Row 4 1 gv G.length (bs G), Arena p X, Old w] wr3) (fun i _ => 10 - (intOf i).toNat)
      case atStart => exact ⟨0, rfl, by omega, H3.out⟩
      case round =>
        obtain ⟨j, rfl, hj, hO⟩ := hrel
        have HO := Lib.hid hO
        clear hO H3
        by_cases hjt : j < 10
        · obtain ⟨f1, f2, f3, f4⟩ := filled_step j hjt
          have F1 := Lib.hid f1
          have F2 := Lib.hid f2
          have F3 := Lib.hid f3
          have F4 := Lib.hid f4
          clear f1 f2 f3 f4
          go_wp2_with (go_at_call 19; refine (own_take' (a := j + 1) (b := 0) (Y := filled (j + 1)) HO.out F4.out (by omega) F1.out F2.out F3.out).mono ?_; rintro e w4 ⟨rfl, h2⟩; have H2 := Lib.hid h2; clear h2)
          go_roundw
          case rel => exact ⟨j + 1, rfl, by omega, H2.out⟩
          case measure => simp only [intOf]; omega
        · obtain rfl : j = 10 := by omega
          have F4 := Lib.hid filled_ten
          go_wp2_with (first
            | (go_at_call 19; refine (own_take' (a := 0) (b := 4) (Y := filled 10) HO.out F4.out (by omega) rfl rfl rfl).mono ?_; rintro e w4 ⟨rfl, h2⟩; have H2 := Lib.hid h2; clear h2)
            | (go_at_call 17; refine (own_used' (a := 10) H2.out F4.out rfl).mono ?_; rintro e w' ⟨rfl, rfl⟩)
            | (go_at_call 18; refine (awake_any H2.out).mono ?_; rintro e w4 ⟨rfl, h4⟩))
          go_ret
          exact ⟨rfl, h4.ext (by simp)⟩
  · go_loopw [8, 39] (fun pl i wr => ∃ (k M : Nat) (Y : A) (F : List Bool) (P : List Nat), i = .int .i64 k ∧ k ≤ n ∧ M ≤ 60 + k ∧ P.length ≤ k ∧ Ok M Y ∧ Inv Y T F ∧ (∃ B, Y.bk = B ++ P) ∧
        Own [Row 3 1 pl P.length (is P), Arena p Y, Row 30 1 tv T.length (us T), Row 4 1 gv F.length (bs F), Old w] wr) (fun _ i _ => n - (intOf i).toNat)
    case atStart => exact ⟨0, N, X, G, [], rfl, by omega, by omega, by simp, HK.out, HI.out, ⟨X.bk, by simp⟩, H.out.third.nilRow _ _⟩
    case round =>
      obtain ⟨k, M, Y, F, P, rfl, hk, hM, hP, hok, hinv, hB, HO⟩ := hrel
      by_cases hlt : k < n
      · have hpos : 0 < n := by omega
        obtain ⟨b, off, rfl, hb, hcs⟩ := HC.out (by have := HN.out; omega)
        obtain ⟨x, hx⟩ : ∃ x, bk[k]? = some x := ⟨bk[k]'(by have := HN.out; omega), by simp⟩
        obtain ⟨hx255, c0⟩ := hcs k x hx
        have hxx : Ext w wr := HO.ext (by simp)
        replace c0 := hxx.cell c0
        obtain ⟨tg, tcap, htv, htc, htm⟩ := own_cap HO.third.row (by omega)
        obtain ⟨gg, gcap, hgv, hgc, hgm⟩ := own_cap HO.fourth.row (by have := hinv.len; omega)
        subst htv hgv
        obtain ⟨q, hq⟩ : ∃ q, q = x % T.length := ⟨_, rfl⟩
        have hqL : q < T.length := by rw [hq]; exact Nat.mod_lt _ (by omega)
        obtain ⟨ct, ft⟩ := row_cell HO.third.row (us_at T q (by omega))
        obtain ⟨cg, fg⟩ := row_cell HO.fourth.row (bs_at F q (by have := hinv.len; omega))
        obtain ⟨h, hh⟩ : ∃ h, h = T.getD q 0 := ⟨_, rfl⟩
        have hTq : T[q]? = some h := by rw [hh]; simp [List.getD, show q < T.length by omega]
        have hlt2 := (inv_lt hinv hok (by omega) (List.mem_of_getElem? hTq)).2
        have heach := hinv.each q h hTq
        obtain ⟨f, hf⟩ : ∃ f, f = F.getD q true := ⟨_, rfl⟩
        rw [← hf] at heach cg
        rw [← hh] at ct
        have hmod : ((x : Int) % (T.length : Int)) = (q : Int) := by rw [hq]; omega
        have hLpos : 0 < T.length := by omega
        have hqF : q < F.length := by have := hinv.len; omega
        have H1 := Lib.hid HO.swap
        have HTq := Lib.hid hTq
        have HE := Lib.hid heach
        have HF := Lib.hid hf
        have HLT := Lib.hid hlt2
        have HI := Lib.hid hinv
        have HK := Lib.hid hok
        have HBB := Lib.hid hB
        clear hcs hxx hh hTq heach hf hlt2 hinv hok hB HO hq
        cases f with
        | true =>
          have hpb : pb Y (h : Int) = false := HE.out
          have HG1 := Lib.hid (show gvE Y h = 40 by unfold gvE; rw [hpb]; rfl)
          have HG2 := Lib.hid (show gvA Y h = Y by unfold gvA; rw [hpb]; rfl)
          have HPV := Lib.hid (show pv Y h = 0 by unfold pv; rw [hpb]; rfl)
          have HPB := Lib.hid hpb
          clear hpb
          go_wp2_with (first
            | (go_at_call 14; refine (own_place H1.out HK.out (by omega) h HLT.out).mono ?_; rintro e w2 ⟨rfl, rfl⟩; rw [HPB.out, HPV.out])
            | (go_at_call 15; refine (own_give H1.out HK.out (by omega) h HLT.out).mono ?_; rintro e w2 ⟨rfl, h2⟩; rw [HG1.out]; rw [HG2.out] at h2; obtain ⟨cg2, fg2⟩ := row_cell h2.fourth.row (bs_at F q (by omega)); rw [← HF.out] at cg2; have H2 := Lib.hid h2; clear h2))
          go_roundw
          case rel => exact ⟨k + 1, M + 1, Y, F, P, rfl, by omega, by omega, by omega, HK.out.mono (by omega), HI.out, HBB.out, H2.out.swap⟩
          case measure => simp only [intOf]; omega
        | false =>
          have hpb : pb Y (h : Int) = true := HE.out
          obtain ⟨r, hr, hr1, hr2, hr3⟩ := pb_spec hpb
          have HG1 := Lib.hid (show gvE Y h = 0 by unfold gvE; rw [hpb]; rfl)
          have HG2 := Lib.hid (show gvA Y h = gv Y r by unfold gvA; rw [hpb, hr]; rfl)
          have HPV := Lib.hid hr
          have HPB := Lib.hid hpb
          clear hpb hr hr2 hr3
          go_wp2_with (first
            | (go_at_call 14; refine (own_place H1.out HK.out (by omega) h HLT.out).mono ?_; rintro e w2 ⟨rfl, rfl⟩; rw [HPB.out, HPV.out])
            | (go_at_call 15; refine (own_give H1.out HK.out (by omega) h HLT.out).mono ?_; rintro e w2 ⟨rfl, h2⟩; rw [HG1.out]; rw [HG2.out] at h2; obtain ⟨cg2, fg2⟩ := row_cell h2.fourth.row (bs_at F q (by omega)); rw [← HF.out] at cg2; have H2 := Lib.hid h2; clear h2)
            | (at_builtin; refine app_own rfl _ _ _ _ _ 1 8 rfl Try.underlying41 info3 rfl (by omega) (by omega) _ P.length (is P) [.int .i64 r] rfl _ rfl rfl rfl (by simp [Value.oneCell']) (by exact H2.out.swap.row) (by omega) ?_; intro v1 w3 hown hgrow hmv; have h3 := H2.out.swap.rowApp hown hgrow hmv; obtain ⟨cg3, fg3⟩ := row_cell h3.fourth.row (bs_at F q (by omega)); have H3 := Lib.hid h3; clear hown hgrow hmv h3))
          go_roundw
          case rel =>
            obtain ⟨B, hB⟩ := HBB.out
            have hi2 := (inv_give HK.out HI.out HPB.out).1
            rw [HG2.out, mark_set h HI.out.len HI.out.nd HTq.out] at hi2
            have ho2 := gvA_ok HK.out h
            rw [HG2.out] at ho2
            have hset := H3.out.fourth.rowSet (o := q) (by omega) (.bool true)
            rw [bs_set] at hset
            have hP2 : is P ++ [Value.int .i64 (r : Int)] = is (P ++ [r]) := by simp [is]
            have h4 := hset.back4
            rw [hP2] at h4
            exact ⟨k + 1, M + 1, gv Y r, F.set q true, P ++ [r], rfl, by omega, by omega, by simp; omega, ho2, hi2, ⟨B, by show Y.bk ++ [r] = _; rw [hB, List.append_assoc]⟩, by rw [List.length_set, List.length_append]; exact h4⟩
          case measure => simp only [intOf]; omega
      · obtain rfl : k = n := by omega
        obtain ⟨pa, pcap, hpl⟩ := own_slice HO.row
        subst hpl
        have HK := Lib.hid hok
        have HBB := Lib.hid hB
        have HO := Lib.hid HO
        have hP30 : P.length ≤ 30 := by omega
        clear hok hB hinv HC HI H
        go_wp2
        go_loopw [90] (fun i wr2 => ∃ (j M2 : Nat) (Z : A), i = .int .i64 j ∧ j ≤ P.length ∧ M2 ≤ 90 + j ∧ Ok M2 Z ∧ (∃ B, Z.bk = B ++ P.take (P.length - j)) ∧
          Own [Row 3 1 (.slice pa P.length pcap) P.length (is P), Arena p Z, Row 30 1 tv T.length (us T), Row 4 1 gv F.length (bs F), Old w] wr2) (fun i _ => P.length - (intOf i).toNat)
        case atStart => exact ⟨0, M, Y, rfl, by omega, by omega, HK.out, by simpa using HBB.out, HO.out⟩
        case round =>
          clear HO HK HBB
          obtain ⟨j, M2, Z, rfl, hj, hM2, hok, hB, hO⟩ := hrel
          by_cases hjt : j < P.length
          · obtain ⟨m, hm⟩ : ∃ m, P.length = j + 1 + m := ⟨P.length - (j + 1), by omega⟩
            obtain ⟨pg, pcap2, hpv, hpc, hpm⟩ := own_cap hO.row (by omega)
            injection hpv with e1 e2 e3
            subst e1 e3
            obtain ⟨cp, fp⟩ := row_cell hO.row (is_at P m (by omega))
            obtain ⟨hu, hq, hbk2⟩ := back_last hok hB hm
            obtain ⟨t1, t2, t3⟩ := take_place hok hu
            have ok2 := (take_spec hok hu).2
            have hHb : hdl (tk Z) (tq Z) < 18446744073709551616 := by omega
            have E1 := Lib.hid (show tkE Z = 0 by unfold tkE; rw [if_neg (by omega)])
            have E2 := Lib.hid (show tkA Z = tk Z by unfold tkA; rw [if_neg (by omega)])
            have E3 := Lib.hid (show tkH Z = hdl (tk Z) (tq Z) by unfold tkH; rw [if_neg (by omega)])
            obtain ⟨Hh, hHh⟩ : ∃ Hh, Hh = hdl (tk Z) (tq Z) := ⟨_, rfl⟩
            obtain ⟨r, hr⟩ : ∃ r, r = P.getD m 0 := ⟨_, rfl⟩
            rw [← hHh] at t1 t2 hHb
            rw [hq] at t2
            rw [← hr] at cp t2
            have T1 := Lib.hid t1
            have T2 := Lib.hid t2
            have HHH := Lib.hid hHh
            have HHB := Lib.hid hHb
            have HOK2 := Lib.hid ok2
            have HBK2 := Lib.hid hbk2
            have HO := Lib.hid hO.swap
            have HK := Lib.hid hok
            have HM := Lib.hid hm
            have hpos : (j : Int) < (P.length : Int) := by omega
            have HME := Lib.hid (show m = P.length - 1 - j by omega)
            have HR := Lib.hid hr
            have hm2 : m < P.length := by omega
            clear t1 t2 t3 hHh hHb ok2 hbk2 hO hok hB hr hq hu hm
            go_wp2_with (first
              | (go_at_call 19; refine (own_take HO.out HK.out (by omega)).mono ?_; rintro e w2 ⟨rfl, h2⟩; rw [E1.out, E3.out, ← HHH.out]; rw [E2.out] at h2; obtain ⟨cp2, fp2⟩ := row_cell h2.swap.row (is_at P m hm2); rw [← HR.out, HME.out] at cp2; have H2 := Lib.hid h2; clear h2)
              | (go_at_call 14; refine (own_place H2.out HOK2.out (by omega) Hh HHB.out).mono ?_; rintro e w3 ⟨rfl, rfl⟩; rw [T1.out, T2.out]))
            go_roundw
            case rel => exact ⟨j + 1, M2 + 1, tk Z, rfl, by omega, by omega, HOK2.out, HBK2.out, H2.out.swap⟩
            case measure => simp only [intOf]; omega
          · have HO := Lib.hid hO.drop
            clear hO hok hB
            go_wp2_with (go_at_call 20; refine (own_new 10 (by omega) (by omega) HO.out).mono ?_; rintro e w3 ⟨pb2, rfl, h1, _⟩; have H3 := Lib.hid h1; clear h1)
            clear HO HN
            go_loopw [127] (fun i wr3 => ∃ (j : Nat), i = .int .i64 j ∧ j ≤ 10 ∧ Own [Arena pb2 (filled j), Arena p Z, Row 30 1 tv T.length (us T), Row 4 1 gv F.length (bs F), Old w] wr3) (fun i _ => 10 - (intOf i).toNat)
            case atStart => exact ⟨0, rfl, by omega, H3.out⟩
            case round =>
              obtain ⟨j, rfl, hj, hO⟩ := hrel
              have HO := Lib.hid hO
              clear hO H3
              by_cases hjt : j < 10
              · obtain ⟨f1, f2, f3, f4⟩ := filled_step j hjt
                have F1 := Lib.hid f1
                have F2 := Lib.hid f2
                have F3 := Lib.hid f3
                have F4 := Lib.hid f4
                clear f1 f2 f3 f4
                go_wp2_with (go_at_call 19; refine (own_take' (a := j + 1) (b := 0) (Y := filled (j + 1)) HO.out F4.out (by omega) F1.out F2.out F3.out).mono ?_; rintro e w4 ⟨rfl, h2⟩; have H2 := Lib.hid h2; clear h2)
                go_roundw
                case rel => exact ⟨j + 1, rfl, by omega, H2.out⟩
                case measure => simp only [intOf]; omega
              · obtain rfl : j = 10 := by omega
                have F4 := Lib.hid filled_ten
                go_wp2_with (first
                  | (go_at_call 19; refine (own_take' (a := 0) (b := 4) (Y := filled 10) HO.out F4.out (by omega) rfl rfl rfl).mono ?_; rintro e w4 ⟨rfl, h2⟩; have H2 := Lib.hid h2; clear h2)
                  | (go_at_call 17; refine (own_used' (a := 10) H2.out F4.out rfl).mono ?_; rintro e w' ⟨rfl, rfl⟩)
                  | (go_at_call 18; refine (awake_any H2.out).mono ?_; rintro e w4 ⟨rfl, h4⟩))
                go_ret
                exact ⟨rfl, h4.ext (by simp)⟩
end Go.Proofs.Ytekdgghekdajbaa.Ar
