/- DERIVED. Layer 19 (delay): the closure of DelayTurn, walked. Written by wip/mkdyo.py. -/
import Derived.Test.YtlficiohenpghabDyN
set_option linter.unusedVariables false
set_option linter.unusedSimpArgs false
set_option maxRecDepth 100000
namespace Go.Proofs.Ytlficiohenpghab.Dy
open Go.RowKit Go.Maps Go.Proofs.Ytlficiohenpghab Go.Proofs.Ytlficiohenpghab.TreeP Go.Proofs.Ytlficiohenpghab.Tr Go.Proofs.Ytlficiohenpghab.Wk

theorem b9_cell {b : Nat} {v : Value} {t : TypeId} {l : List HP} {w : World} (h : Own l w) (hm : Go.Proofs.Ytlficiohenpghab.Blk b #[v] t ∈ l) : w.cell? ⟨b, 0, none⟩ = some v ∧ w.frozen? ⟨b, 0, none⟩ = false := by
  simp [World.cell?, World.frozen?, Go.Proofs.Ytlficiohenpghab.Own.blk h hm]
set_option maxHeartbeats 4000000 in
theorem turn_put {p q b7 b5 b9 : Nat} {E : List En} {v : Value} {LL : List HP} {w : World} (A : Int) (hcell : ∀ w', Own LL w' → w'.cell? ⟨b7, 0, none⟩ = some (.pointer (some ⟨p, 0, none⟩)) ∧ w'.cell? ⟨b5, 0, none⟩ = some (.int .u64 A)) (h : TuS p q b9 E v LL w)
    (hA : ∀ e ∈ E, e.1.1 = A) (a0 : 0 ≤ A) (a1 : A < 18446744073709551616) (f : Int) (f0 : 0 ≤ f) (f12 : f < 12) (hq : q < 5000) :
    Calls Try.prog 26 #[.int .i64 f, .pointer (some ⟨b7, 0, none⟩), .pointer (some ⟨b5, 0, none⟩), .pointer (some ⟨b9, 0, none⟩)] w fun e w' => e = .returned (.bool true) ∧ ∃ E' v', TuS p (q + 1) b9 E' v' LL w' ∧ ∀ e ∈ E', e.1.1 = A := by
  have HFW : Hid ((Lit.int .i64 f).wf = true) := Lib.hid (by simp [Lit.wf, IntKind.min, IntKind.max, IntKind.signed, IntKind.bits]; omega)
  have HCELL := Lib.hid hcell
  have HA0 := Lib.hid (And.intro a0 a1)
  have HF0 : Hid (0 ≤ f ∧ f < ((12 : Nat) : Int)) := Lib.hid ⟨f0, by omega⟩
  have HQ := Lib.hid hq
  obtain ⟨c7, c5⟩ := hcell _ h.rest.drop.drop
  have hat := own_at h f HFW.out
  cases hw : who E f with
  | none =>
    rw [hw] at hat
    have HAT := Lib.hid hat
    have HNO := Lib.hid hw
    have HALL := Lib.hid hA
    clear hcell a0 a1 f0 f12 hq hat hw hA h
    go_enter Try.func26, Try.ntmps26
    go_wp2_with fail
    with_reducible refine (HAT.out).mono ?_
    rintro e w1 ⟨rfl, h2⟩
    clear HAT c7 c5
    obtain ⟨n1, hn1⟩ : ∃ n, n = E.length := ⟨_, rfl⟩
    have hei2 := h2.ei
    have hn12 : n1 ≤ 12 := by rw [hn1]; exact h2.rise.2
    have HIN := Lib.hid (ins_end hei2 HALL.out f)
    have HRM := Lib.hid (room_left hei2 HF0.out.1 HF0.out.2 HNO.out)
    have h3 : DO p 12 q E (RowR 3 1 v n1 (is E) :: B9 b9 v :: LL) w1 := by rw [hn1]; exact h2
    obtain ⟨d7, d5⟩ := HCELL.out _ h3.rest.drop.drop
    have d9 := b9_cell h3.rest (.tail _ (.head _))
    obtain ⟨d9a, d9b⟩ := d9
    obtain ⟨Z, hz, hback⟩ := h3.open
    have HBK := Lib.hid hback
    have HZ := Lib.hid hz
    have HN1 := Lib.hid hn1
    clear hei2 h2 h3 hz hback hn1
    go_wp2_with (at_builtin; refine app_R1 (W := w1) rfl _ _ _ _ _ 1 8 rfl Try.underlying40 infoInt rfl (by omega) (by omega) v n1 (is (E)) [.int .i64 f] rfl _ (by simp) rfl rfl (by simp [Value.oneCell']) HZ.out.rowR (by omega) ?_)
    intro v2 w5 hown hgrow hmv
    have h10 := HBK.out _ _ (HZ.out.rowRGrown hown rfl hgrow hmv)
    obtain ⟨va2, vc2, rfl⟩ := h10.rest.rowR.slice
    have d9 := b9_cell h10.rest (.tail _ (.head _))
    obtain ⟨d9c, d9d⟩ := d9
    obtain ⟨Z2, hz2, hback2⟩ := (h10.perm (List.Perm.swap _ _ _)).open
    have h11 := (hback2 _ _ (Go.Proofs.Ytlficiohenpghab.Own.blkSet hz2 (o := 0) (.slice va2 (n1 + 1) vc2))).perm (List.Perm.swap _ _ _)
    obtain ⟨e7, e5⟩ := HCELL.out _ h11.rest.drop.drop
    have HPUT := Lib.hid (own_put_ok h11 f A HFW.out HF0.out.1 HF0.out.2 HA0.out.1 HA0.out.2 HNO.out HQ.out HRM.out)
    clear h10 h11 hz2 hback2 hown hgrow hmv HZ HBK
    go_wp2_with fail
    with_reducible refine (HPUT.out).mono ?_
    rintro e w6 ⟨rfl, h12⟩
    rw [HIN.out] at h12
    have HX : Hid (∃ E' v', TuS p (q + 1) b9 E' v' LL w6 ∧ ∀ e ∈ E', e.1.1 = A) := Lib.hid ⟨E ++ [((A, (q : Int)), f)], .slice va2 (n1 + 1) vc2, by
      unfold TuS RI
      rw [List.length_append, ← HN1.out]
      unfold is at h12 ⊢
      rw [List.map_append]
      exact h12, fun e he => by
      rcases List.mem_append.1 he with he | he
      · exact HALL.out e he
      · rw [List.mem_singleton.1 he]⟩
    clear h12 HPUT
    go_wp2_with fail
    go_ret
    exact ⟨rfl, HX.out⟩
  | some k =>
    rw [hw] at hat
    have HAT := Lib.hid hat
    have hei := h.ei
    have hri := h.rise
    have HDEL := Lib.hid (del_flow hei hri.1 hw)
    have HNO : Hid (who (del E k) f = none) := Lib.hid (by rw [who_out hei.df (E' := Tr.del E k) List.filter_sublist (mem_del hei.df hri.1 ((who_iff hei.df).1 hw)), if_pos rfl])
    have HALL : Hid (∀ e ∈ del E k, e.1.1 = A) := Lib.hid fun e he => hA e (List.mem_filter.1 he).1
    have HW := Lib.hid hw
    have hE12 := hri.2
    clear hcell a0 a1 f0 f12 hq hat hw hA h hei hri
    go_enter Try.func26, Try.ntmps26
    go_wp2_with fail
    with_reducible refine (HAT.out).mono ?_
    rintro e w1 ⟨rfl, h2⟩
    obtain ⟨c7', c5'⟩ := HCELL.out _ h2.rest.drop.drop
    have HPI := Lib.hid (own_put_in h2 f A HFW.out HF0.out.1 HF0.out.2 k HW.out)
    clear HAT c7 c5 h2
    go_wp2_with fail
    with_reducible refine (HPI.out).mono ?_
    rintro e w2 ⟨rfl, h3⟩
    obtain ⟨d7, d5⟩ := HCELL.out _ h3.rest.drop.drop
    have HDY := Lib.hid (own_drop_yes h3 f HFW.out k HW.out)
    clear HPI c7' c5' h3
    go_wp2_with fail
    with_reducible refine (HDY.out).mono ?_
    rintro e w3 ⟨rfl, h4⟩
    obtain ⟨E1, hE1⟩ : ∃ E1, E1 = del E k := ⟨_, rfl⟩
    rw [← hE1] at h4 HNO HALL HDEL
    obtain ⟨n, hn⟩ : ∃ n, n = E.length := ⟨_, rfl⟩
    have h5 : DO p 12 q E1 (RowR 3 1 v n (is E) :: B9 b9 v :: LL) w3 := by rw [hn]; exact h4
    rw [← hn] at hE12
    obtain ⟨c9, c9b⟩ := b9_cell h5.rest (.tail _ (.head _))
    obtain ⟨va, vc, rfl⟩ := h5.rest.rowR.slice
    have HEN := Lib.hid hn
    have H5 : Hid (DO p 12 q E1 (RowR 3 1 (.slice none 0 0) (restI f E 0).length (is (restI f E 0)) :: RowR 3 1 (.slice va n vc) n (is E) :: B9 b9 (.slice va n vc) :: LL) w3) := Lib.hid (by
      obtain ⟨t, b, m, D, g1, g2⟩ := h5
      exact ⟨t, b, m, D, (g1.nilRowR 3 1).back4, g2⟩)
    clear HDY d7 d5 h4 h5 hn hE1
    go_wp2_with fail
    go_loopw [8, 31] (fun s8 vi wr => ∃ j : Nat, vi = .int .i64 (j : Int) ∧ j ≤ n ∧ DO p 12 q E1 (RowR 3 1 s8 (restI f E j).length (is (restI f E j)) :: RowR 3 1 (.slice va n vc) n (is E) :: B9 b9 (.slice va n vc) :: LL) wr) (fun _ vi _ => n - (intOf vi).toNat)
    case atStart => exact ⟨0, rfl, Nat.zero_le _, H5.out⟩
    case round =>
      clear H5 c9 c9b
      obtain ⟨j, rfl, hj, h⟩ := hrel
      by_cases hlt : j < n
      · have hltI : (j : Int) < (n : Int) := by omega
        obtain ⟨e, he⟩ : ∃ e, E[j]? = some e := ⟨_, List.getElem?_eq_getElem (by rw [← HEN.out]; exact hlt)⟩
        obtain ⟨g, cg, ev, -, -⟩ := h.rest.drop.rowR.form (by omega)
        injection ev with e1 _ e3
        subst e1 e3
        have c0 := (h.rest.drop.rowR.cells rfl j (.int .i64 e.2) (by unfold is; rw [List.getElem?_map, he]; rfl)).1
        have hs := rest_succ (f := f) he
        obtain ⟨va8, vc8, rfl⟩ := h.rest.rowR.slice
        have hll : (restI f E j).length ≤ 12 := by
          unfold restI
          refine Nat.le_trans (List.length_filter_le _ _) ?_
          rw [List.length_take]
          omega
        by_cases hf : e.2 = f
        · rw [if_neg (by simp [hf]), List.append_nil] at hs
          have HX : Hid (∃ j2 : Nat, (.int .i64 ((j : Int) + 1) : Value) = .int .i64 (j2 : Int) ∧ j2 ≤ n ∧ DO p 12 q E1 (RowR 3 1 (.slice va8 (restI f E j).length vc8) (restI f E j2).length (is (restI f E j2)) :: RowR 3 1 (.slice (some ⟨g, 0, none⟩) n vc) n (is E) :: B9 b9 (.slice (some ⟨g, 0, none⟩) n vc) :: LL) wr) := Lib.hid ⟨j + 1, by go_num, by omega, by rw [hs]; exact h⟩
          obtain ⟨⟨ea, es⟩, ef⟩ := e
          simp only at hf c0
          subst hf
          have ff : (ef != ef) = false := by simp
          clear h he hs hll
          go_wp2_with fail
          exact ⟨HX.out, by simp [intOf]; omega⟩
        · rw [if_pos hf] at hs
          obtain ⟨RJ, hRJ⟩ : ∃ R, R = restI f E j := ⟨_, rfl⟩
          obtain ⟨nj, hnj⟩ : ∃ n, n = RJ.length := ⟨_, rfl⟩
          rw [← hRJ] at h hs hll ⊢
          rw [← hnj] at hll ⊢
          have h' : DO p 12 q E1 (RowR 3 1 (.slice va8 nj vc8) nj (is RJ) :: RowR 3 1 (.slice (some ⟨g, 0, none⟩) n vc) n (is E) :: B9 b9 (.slice (some ⟨g, 0, none⟩) n vc) :: LL) wr := by rw [hnj]; exact h
          obtain ⟨Z, hz, hback⟩ := h'.open
          have HZ := Lib.hid hz
          have HBK := Lib.hid hback
          have HS := Lib.hid hs
          have HNJ := Lib.hid hnj
          obtain ⟨⟨ea, es⟩, ef⟩ := e
          simp only at hf c0 HS
          have ff : (ef != f) = true := by simp [hf]
          clear h he hs h' hz hback hRJ hnj hf
          go_wp2_with (at_builtin; refine app_R1 (W := wr) rfl _ _ _ _ _ 1 8 rfl Try.underlying40 infoInt rfl (by omega) (by omega) (.slice va8 nj vc8) nj (is (RJ)) [.int .i64 ef] rfl _ (by simp) rfl rfl (by simp [Value.oneCell']) HZ.out.rowR (by omega) ?_)
          intro v8 w8 hown hgrow hmv
          have h10 := HBK.out _ _ (HZ.out.rowRGrown hown rfl hgrow hmv)
          have HX : Hid (∃ j2 : Nat, (.int .i64 ((j : Int) + 1) : Value) = .int .i64 (j2 : Int) ∧ j2 ≤ n ∧ DO p 12 q E1 (RowR 3 1 v8 (restI f E j2).length (is (restI f E j2)) :: RowR 3 1 (.slice (some ⟨g, 0, none⟩) n vc) n (is E) :: B9 b9 (.slice (some ⟨g, 0, none⟩) n vc) :: LL) w8) := Lib.hid ⟨j + 1, by go_num, by omega, by
            rw [HS.out, List.length_append, ← HNJ.out]
            unfold is at h10 ⊢
            rw [List.map_append]
            exact h10⟩
          clear hown hgrow hmv h10 HZ HBK
          go_wp2_with fail
          exact ⟨HX.out, by simp [intOf]; omega⟩
      · as_aux_lemma =>
        obtain rfl : j = n := by omega
        have hE1r : restI f E j = E1 := by rw [HEN.out, rest_all, HDEL.out]
        rw [hE1r] at h
        obtain ⟨va8, vc8, rfl⟩ := h.rest.rowR.slice
        obtain ⟨n2, hn2⟩ : ∃ n, n = E1.length := ⟨_, rfl⟩
        rw [← hn2] at h ⊢
        have h6 : DO p 12 q E1 (B9 b9 (.slice va j vc) :: RowR 3 1 (.slice va8 n2 vc8) n2 (is E1) :: LL) wr := (h.perm (List.Perm.swap _ _ _)).out.perm (List.Perm.swap _ _ _)
        obtain ⟨c9, c9b⟩ := b9_cell h6.rest (.head _)
        obtain ⟨Z3, hz3, hback3⟩ := h6.open
        have h7 := (hback3 _ _ (Go.Proofs.Ytlficiohenpghab.Own.blkSet hz3 (o := 0) (.slice va8 n2 vc8))).perm (List.Perm.swap _ _ _)
        have H7 : Hid (DO p 12 q E1 (RowR 3 1 (.slice va8 n2 vc8) n2 (is E1) :: B9 b9 (.slice va8 n2 vc8) :: LL) (wr.setCell ⟨b9, 0, none⟩ (.slice va8 n2 vc8))) := Lib.hid h7
        have HN2 := Lib.hid hn2
        clear h h6 hz3 hback3 h7 hE1r hn2
        go_upto_region 13 with fail
        have h2 : DO p 12 q E1 (RI (.slice va8 n2 vc8) E1 :: B9 b9 (.slice va8 n2 vc8) :: LL) (wr.setCell ⟨b9, 0, none⟩ (.slice va8 n2 vc8)) := by
          unfold RI
          rw [← HN2.out]
          exact H7.out
        clear H7 c9 c9b
        obtain ⟨n1, hn1⟩ : ∃ n, n = E1.length := ⟨_, rfl⟩
        have hei2 := h2.ei
        have hn12 : n1 ≤ 12 := by rw [hn1]; exact h2.rise.2
        have HIN := Lib.hid (ins_end hei2 HALL.out f)
        have HRM := Lib.hid (room_left hei2 HF0.out.1 HF0.out.2 HNO.out)
        have h3 : DO p 12 q E1 (RowR 3 1 (.slice va8 n2 vc8) n1 (is E1) :: B9 b9 (.slice va8 n2 vc8) :: LL) (wr.setCell ⟨b9, 0, none⟩ (.slice va8 n2 vc8)) := by rw [hn1]; exact h2
        obtain ⟨d7, d5⟩ := HCELL.out _ h3.rest.drop.drop
        have d9 := b9_cell h3.rest (.tail _ (.head _))
        obtain ⟨d9a, d9b⟩ := d9
        obtain ⟨Z, hz, hback⟩ := h3.open
        have HBK := Lib.hid hback
        have HZ := Lib.hid hz
        have HN1 := Lib.hid hn1
        clear hei2 h2 h3 hz hback hn1
        go_wp2_with (at_builtin; refine app_R1 (W := (wr.setCell ⟨b9, 0, none⟩ (.slice va8 n2 vc8))) rfl _ _ _ _ _ 1 8 rfl Try.underlying40 infoInt rfl (by omega) (by omega) (.slice va8 n2 vc8) n1 (is (E1)) [.int .i64 f] rfl _ (by simp) rfl rfl (by simp [Value.oneCell']) HZ.out.rowR (by omega) ?_)
        intro v2 w5 hown hgrow hmv
        have h10 := HBK.out _ _ (HZ.out.rowRGrown hown rfl hgrow hmv)
        obtain ⟨va2, vc2, rfl⟩ := h10.rest.rowR.slice
        have d9 := b9_cell h10.rest (.tail _ (.head _))
        obtain ⟨d9c, d9d⟩ := d9
        obtain ⟨Z2, hz2, hback2⟩ := (h10.perm (List.Perm.swap _ _ _)).open
        have h11 := (hback2 _ _ (Go.Proofs.Ytlficiohenpghab.Own.blkSet hz2 (o := 0) (.slice va2 (n1 + 1) vc2))).perm (List.Perm.swap _ _ _)
        obtain ⟨e7, e5⟩ := HCELL.out _ h11.rest.drop.drop
        have HPUT := Lib.hid (own_put_ok h11 f A HFW.out HF0.out.1 HF0.out.2 HA0.out.1 HA0.out.2 HNO.out HQ.out HRM.out)
        clear h10 h11 hz2 hback2 hown hgrow hmv HZ HBK
        go_wp2_with fail
        with_reducible refine (HPUT.out).mono ?_
        rintro e w6 ⟨rfl, h12⟩
        rw [HIN.out] at h12
        have HX : Hid (∃ E' v', TuS p (q + 1) b9 E' v' LL w6 ∧ ∀ e ∈ E', e.1.1 = A) := Lib.hid ⟨E1 ++ [((A, (q : Int)), f)], .slice va2 (n1 + 1) vc2, by
          unfold TuS RI
          rw [List.length_append, ← HN1.out]
          unfold is at h12 ⊢
          rw [List.map_append]
          exact h12, fun e he => by
          rcases List.mem_append.1 he with he | he
          · exact HALL.out e he
          · rw [List.mem_singleton.1 he]⟩
        clear h12 HPUT
        go_wp2_with fail
        go_ret
        exact ⟨rfl, HX.out⟩
end Go.Proofs.Ytlficiohenpghab.Dy
