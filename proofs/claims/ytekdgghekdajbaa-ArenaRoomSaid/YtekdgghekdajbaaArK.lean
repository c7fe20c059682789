/- DERIVED. Layer 4 (arena): the law ArenaRoom. Written by wip/mkroom.py. -/
import Derived.Test.YtekdgghekdajbaaArH
import Derived.Test.YtekdgghekdajbaaArNone
import Derived.Test.YtekdgghekdajbaaArgs
import Derived.Test.YtekdgghekdajbaaOwn
import Derived.Test.YtekdgghekdajbaaAppR
set_option linter.unusedVariables false
set_option linter.unusedSimpArgs false
set_option maxRecDepth 100000
namespace Go.Proofs.Ytekdgghekdajbaa.Ar
open Go.RowKit Go.Proofs.Ytekdgghekdajbaa

/-- T: the handles that are held now, each of them; no others -/
structure Held (X : A) (T : List Nat) : Prop where
  nd : T.Nodup
  on : ∀ h ∈ T, pb X (h : Int) = true
  cnt : X.used = T.length
theorem pb_hdl {N : Nat} {X : A} (ho : Ok N X) {q : Nat} (hq : q < X.st.length) (h : X.st.getD q 0 % 2 = 1) : pb X (hdl X q : Nat) = true := by
  rw [hdl_at h, pb_at X _ q hq (Nat.le_trans ho.len ho.r2)]
  exact decide_eq_true (by omega)
theorem hdl_inj {N : Nat} {X : A} (ho : Ok N X) {q q' : Nat} (hq : q < X.st.length) (hq' : q' < X.st.length) (h : X.st.getD q 0 % 2 = 1) (h' : X.st.getD q' 0 % 2 = 1) (e : hdl X q = hdl X q') : q = q' := by
  rw [hdl_at h, hdl_at h'] at e
  have := ho.len
  have := ho.r2
  exact (code_inj e (by omega) (by omega)).2
theorem held_take {N : Nat} {X : A} {T : List Nat} (ho : Ok N X) (hi : Held X T) (hu : X.used < X.room) : Held (tk X) (T ++ [hdl (tk X) (tq X)]) := by
  obtain ⟨t, ho'⟩ := take_spec ho hu
  have hodd : (tk X).st.getD (tq X) 0 % 2 = 1 := by rw [t.now]; have := t.was; omega
  have key : ∀ h ∈ T, ∃ q, h = hdl (tk X) q ∧ q < (tk X).st.length ∧ (tk X).st.getD q 0 % 2 = 1 ∧ q ≠ tq X := by
    intro h hh
    obtain ⟨q, _, h2, h3, h4⟩ := pb_spec (hi.on h hh)
    have hne : q ≠ tq X := fun e => by rw [e] at h3; have := t.was; omega
    have e := t.other q hne
    have h3' : (tk X).st.getD q 0 % 2 = 1 := by rw [e]; exact h3
    exact ⟨q, by rw [h4, hdl_at h3, hdl_at h3', e], Nat.lt_of_lt_of_le h2 t.old, h3', hne⟩
  refine ⟨?_, fun h hh => ?_, ?_⟩
  · rw [List.nodup_append]
    refine ⟨hi.nd, by simp, fun a ha b hb e => ?_⟩
    simp at hb
    subst hb
    obtain ⟨q, e1, e2, e3, e4⟩ := key a ha
    rw [e1] at e
    exact e4 (hdl_inj ho' e2 t.q e3 hodd e)
  · rcases List.mem_append.1 hh with hh | hh
    · obtain ⟨q, rfl, e2, e3, _⟩ := key h hh
      exact pb_hdl ho' e2 e3
    · simp at hh
      subst hh
      exact pb_hdl ho' t.q hodd
  · show X.used + 1 = _
    rw [hi.cnt, List.length_append]
    rfl
theorem held_give {N : Nat} {X : A} {T : List Nat} (ho : Ok N X) (hi : Held X T) {i h : Nat} (hi0 : T[i]? = some h) : gvE X h = 0 ∧ Held (gvA X h) (T.eraseIdx i) ∧ X.used = (T.eraseIdx i).length + 1 := by
  have hp := hi.on h (List.mem_of_getElem? hi0)
  obtain ⟨q, h1, h2, h3, h4⟩ := pb_spec hp
  obtain ⟨ho', hu, hg, hlen⟩ := give_spec ho q h2 h3
  have eA : gvA X h = gv X q := by unfold gvA; rw [if_pos hp, h1]; rfl
  have hlt : i < T.length := (List.getElem?_eq_some_iff.1 hi0).1
  have hl : (T.eraseIdx i).length + 1 = T.length := by rw [List.length_eraseIdx, if_pos hlt]; omega
  refine ⟨by unfold gvE; rw [if_pos hp], ?_, by rw [hi.cnt, hl]⟩
  rw [eA]
  refine ⟨hi.nd.sublist (List.eraseIdx_sublist ..), fun x hx => ?_, ?_⟩
  · obtain ⟨j, hj, hxj⟩ := List.mem_eraseIdx_iff_getElem?.1 hx
    have hne : x ≠ h := by
      intro e
      obtain ⟨j1, j2⟩ := List.getElem?_eq_some_iff.1 hxj
      obtain ⟨i1, i2⟩ := List.getElem?_eq_some_iff.1 hi0
      exact hj ((List.getElem_inj hi.nd).1 (j2.trans (e.trans i2.symm)))
    obtain ⟨q', _, k2, k3, k4⟩ := pb_spec (hi.on x (List.mem_of_getElem? hxj))
    have hq : q' ≠ q := fun e => hne (by rw [k4, h4, e])
    have e1 : (gv X q).st.getD q' 0 = X.st.getD q' 0 := by rw [hg, if_neg hq]
    have e2 : (gv X q).st.getD q' 0 % 2 = 1 := by rw [e1]; exact k3
    have e3 : x = hdl (gv X q) q' := by rw [k4, hdl_at k3, hdl_at e2, e1]
    rw [e3]
    exact pb_hdl ho' (by rw [hlen]; exact k2) e2
  · show X.used - 1 = _
    rw [hi.cnt]
    omega
theorem held_lt {N : Nat} {X : A} {T : List Nat} (ho : Ok N X) (hN : N ≤ 1000) (hi : Held X T) {h : Nat} (hh : h ∈ T) : h < 18446744073709551616 := by
  obtain ⟨q, _, h2, h3, h4⟩ := pb_spec (hi.on h hh)
  rw [h4, hdl_at h3]
  have := ho.len
  have := ho.r2
  have := ho.bd q
  omega
theorem room_tkA (X : A) : (tkA X).room = X.room := by unfold tkA; split <;> rfl
theorem room_gvA (X : A) (h : Nat) : (gvA X h).room = X.room := by unfold gvA; split <;> rfl
theorem us_erase (T : List Nat) (i : Nat) : (us T).take i ++ (us T).drop (i + 1) = us (T.eraseIdx i) := by
  unfold us
  rw [List.eraseIdx_eq_take_drop_succ, List.map_append, List.map_take, List.map_drop]
def RI (w0 : World) (p r M : Nat) (sh si : Value) (wr : World) : Prop :=
  ∃ (k N : Nat) (X : A) (T : List Nat), si = .int .i64 (k : Int) ∧ k ≤ M ∧ Own [RowR 30 1 sh T.length (us T), Arena p X, Old w0] wr ∧ Ok N X ∧ N ≤ k ∧ X.room = r ∧ T.length ≤ k ∧ Held X T
set_option maxHeartbeats 4000000 in
theorem room_short (room : Int) (v : Value) (L : List Nat) (wr0 : (Lit.int .u8 room).wf = true) (w : World) (hl : Bytes w v L) (hn : L.length < 100) :
    Calls Try.prog 6 #[.int .u8 room, v] w fun e w' => e = .returned (.bool true) ∧ Ext w w' := by
  obtain ⟨r0, r1⟩ := u8_bd wr0
  obtain ⟨r, hr⟩ : ∃ r : Nat, (r : Int) = 1 + room % 200 := ⟨(1 + room % 200).toNat, by omega⟩
  obtain ⟨a, cap, rfl, q1, q2, q3⟩ := hl
  have n1 : 1 ≤ r := by omega
  have n2 : r ≤ 200 := by omega
  have hr' := hr.symm
  have H0 := Lib.hid (Own.start w)
  obtain ⟨n, hN⟩ : ∃ n, n = L.length := ⟨_, rfl⟩
  rw [← hN] at q1 q3 hn
  rw [← hN]
  have HN := Lib.hid hN
  have Q3 := Lib.hid q3
  unfold maxLen at q2
  clear wr0 hr q3 hN
  have nI : (n : Int) < 100 := by omega
  have mI : (n : Int) ≤ (cap : Int) := by omega
  go_enter Try.func6, Try.ntmps6
  go_wp2_with fail
  refine (own_new r (by omega) (by omega) H0.out).mono ?_
  rintro e w1 ⟨p, rfl, h1, -⟩
  have H1 := Lib.hid h1
  clear h1 H0
  go_wp2_with fail
  go_loopw [8, 31] (fun s8 s31 wr => RI w p r n s8 s31 wr) (fun _ s31 _ => n - (intOf s31).toNat)
  case atStart => exact ⟨0, 0, fresh r, [], rfl, Nat.zero_le _, H1.out.nilRowR _ 1, ok_fresh r n1 (by omega), Nat.le_refl _, rfl, Nat.le_refl _, ⟨List.nodup_nil, by simp, rfl⟩⟩
  case round =>
    clear H1
    obtain ⟨k, N, X, T, rfl, hk, hO, hok, hNk, hrm, hTk, hd⟩ := hrel
    obtain ⟨t, ht⟩ : ∃ t, t = T.length := ⟨_, rfl⟩
    rw [← ht] at hTk hO
    obtain ⟨sa, sc, rfl⟩ := hO.rowR.slice
    have HT := Lib.hid ht
    have HOK := Lib.hid hok
    have HD := Lib.hid hd
    have HRM := Lib.hid hrm
    by_cases hlt : k < n
    · have hltI : (k : Int) < ((n : Nat) : Int) := by omega
      have hltJ : (k : Int) < n := by omega
      have k100 : k < 100 := by omega
      obtain ⟨b, off, rfl, hb, hcs⟩ := Q3.out (by omega)
      obtain ⟨x, hx⟩ : ∃ x, L[k]? = some x := ⟨_, List.getElem?_eq_getElem (by have := HN.out; omega)⟩
      obtain ⟨hx255, c0⟩ := hcs k x hx
      have hxx : Ext w wr := hO.ext (by simp)
      replace c0 := hxx.cell c0
      obtain ⟨y, hy⟩ : ∃ y, y = x % 3 := ⟨_, rfl⟩
      have hmod : (x : Int) % 3 = (y : Int) := by omega
      have HO := Lib.hid hO
      have hul : X.used ≤ X.room := hok.used_le
      have hcu : X.used = t := by rw [hd.cnt, ht]
      clear hcs hx hxx hy hO ht hok hd hrm hb
      by_cases hy0 : 0 < y
      · have y1 : decide (0 < y) = true := by simpa using hy0
        have y2 : decide ((y : Int) > 0) = true := by simp; omega
        by_cases hu : t = r
        · subst hu
          have HE := Lib.hid (show tkE X = 4 by unfold tkE; rw [if_pos (by rw [hcu, HRM.out])])
          have HE2 := Lib.hid (show tkA X = X by unfold tkA; rw [if_pos (by rw [hcu, HRM.out])])
          have HE3 := Lib.hid (show tkH X = 0 by unfold tkH; rw [if_pos (by rw [hcu, HRM.out])])
          have tt : ((t : Int) == (t : Int)) = true := by simp
          clear hul
          go_wp2_with fail
          refine (own_take' HO.out.swap HOK.out (by omega) HE3.out HE.out HE2.out).mono ?_
          rintro e w2 ⟨rfl, h2⟩
          have H2 := Lib.hid h2
          have HCU := Lib.hid hcu
          clear h2 hcu
          go_wp2_with fail
          refine (own_used' H2.out HOK.out HCU.out).mono ?_
          rintro e w3 ⟨rfl, rfl⟩
          go_wp2_with fail
          refine (own_room H2.out HOK.out).mono ?_
          rintro e w3 ⟨rfl, rfl⟩
          rw [HRM.out]
          have HP : Hid (RI w p t n (.slice sa t sc) (.int .i64 ((k : Int) + 1)) w2) := Lib.hid ⟨k + 1, N, X, T, by go_num, by omega, by rw [← HT.out]; exact H2.out.swap, HOK.out, by omega, HRM.out, by rw [← HT.out]; omega, HD.out⟩
          go_wp2_with fail
          exact ⟨HP.out, by simp [intOf]; omega⟩
        · have hu1 : X.used < X.room := by rw [HRM.out] at hul ⊢; omega
          have HE := Lib.hid (show tkE X = 0 by unfold tkE; rw [if_neg (by omega)])
          have HE2 := Lib.hid (show tkA X = tk X by unfold tkA; rw [if_neg (by omega)])
          obtain ⟨Hh, hHh⟩ : ∃ Hh, Hh = hdl (tk X) (tq X) := ⟨_, rfl⟩
          have HE3 := Lib.hid (show tkH X = Hh by unfold tkH; rw [if_neg (by omega), hHh])
          have hd2 := held_take HOK.out HD.out hu1
          rw [← hHh] at hd2
          have HD2 := Lib.hid hd2
          have HOK2 := Lib.hid (take_spec HOK.out hu1).2
          have HUS := Lib.hid (show us T ++ [Value.int .u64 (Hh : Int)] = us (T ++ [Hh]) by simp [us])
          obtain ⟨L1, hL1⟩ : ∃ L1, L1 = t + 1 := ⟨_, rfl⟩
          have HL1 := Lib.hid hL1.symm
          have HUL := Lib.hid (show (tk X).used = L1 by show X.used + 1 = L1; omega)
          have HRM2 := Lib.hid (show (tk X).room = r from HRM.out)
          have t100 : t < 100 := by omega
          have L100 : L1 ≤ 100 := by omega
          have tt : (t == r) = false := by simp; omega
          have ttI : ((t : Int) == (r : Int)) = false := by simp; omega
          clear hul hd2 hHh hL1 hu1 hcu hu
          go_wp2_with fail
          refine (own_take' HO.out.swap HOK.out (by omega) HE3.out HE.out HE2.out).mono ?_
          rintro e w2 ⟨rfl, h2⟩
          have H2 := Lib.hid h2.swap
          clear h2
          go_wp2_with (at_builtin; refine app_R1 rfl _ _ _ _ _ 1 8 rfl Try.underlying24 info30 rfl (by omega) (by omega) _ t (us T) [.int .u64 Hh] rfl _ rfl rfl rfl (by simp [Value.oneCell']) (by exact H2.out.rowR) (by omega) ?_; intro v1 w3 hown hgrow hmv; rw [HUS.out, HL1.out] at hown; obtain ⟨sa1, sc1, rfl⟩ := hown.slice; have H3 := Lib.hid (H2.out.rowRGrown hown rfl hgrow hmv); clear hown hgrow hmv)
          refine (own_used' H3.out.swap HOK2.out HUL.out).mono ?_
          rintro e w4 ⟨rfl, rfl⟩
          go_wp2_with fail
          refine (own_room H3.out.swap HOK2.out).mono ?_
          rintro e w4 ⟨rfl, rfl⟩
          rw [HRM2.out]
          have HP : Hid (RI w p r n (.slice sa1 L1 sc1) (.int .i64 ((k : Int) + 1)) w3) := Lib.hid ⟨k + 1, N + 1, tk X, T ++ [Hh], by go_num, by omega, by rw [show (T ++ [Hh]).length = L1 by rw [List.length_append, ← HT.out, ← HL1.out]; rfl]; exact H3.out, HOK2.out, by omega, HRM2.out, by rw [List.length_append, ← HT.out]; simp; omega, HD2.out⟩
          go_wp2_with fail
          exact ⟨HP.out, by simp [intOf]; omega⟩
      · have y1 : decide (0 < y) = false := by simpa using hy0
        have y2 : decide ((y : Int) > 0) = false := by simp; omega
        by_cases hu : t = 0
        · have t0 : ((t : Int) == 0) = true := by simp [hu]
          have hu1 : X.used < X.room := by rw [HRM.out]; omega
          have HE := Lib.hid (show tkE X = 0 by unfold tkE; rw [if_neg (by omega)])
          have HE2 := Lib.hid (show tkA X = tk X by unfold tkA; rw [if_neg (by omega)])
          obtain ⟨Hh, hHh⟩ : ∃ Hh, Hh = hdl (tk X) (tq X) := ⟨_, rfl⟩
          have HE3 := Lib.hid (show tkH X = Hh by unfold tkH; rw [if_neg (by omega), hHh])
          have hd2 := held_take HOK.out HD.out hu1
          rw [← hHh] at hd2
          have HD2 := Lib.hid hd2
          have HOK2 := Lib.hid (take_spec HOK.out hu1).2
          have HUS := Lib.hid (show us T ++ [Value.int .u64 (Hh : Int)] = us (T ++ [Hh]) by simp [us])
          obtain ⟨L1, hL1⟩ : ∃ L1, L1 = t + 1 := ⟨_, rfl⟩
          have HL1 := Lib.hid hL1.symm
          have HUL := Lib.hid (show (tk X).used = L1 by show X.used + 1 = L1; omega)
          have HRM2 := Lib.hid (show (tk X).room = r from HRM.out)
          have t100 : t < 100 := by omega
          have L100 : L1 ≤ 100 := by omega
          have tt : (t == r) = false := by simp; omega
          have ttI : ((t : Int) == (r : Int)) = false := by simp; omega
          clear hul hd2 hHh hL1 hu1 hcu hu
          go_wp2_with fail
          refine (own_take' HO.out.swap HOK.out (by omega) HE3.out HE.out HE2.out).mono ?_
          rintro e w2 ⟨rfl, h2⟩
          have H2 := Lib.hid h2.swap
          clear h2
          go_wp2_with (at_builtin; refine app_R1 rfl _ _ _ _ _ 1 8 rfl Try.underlying24 info30 rfl (by omega) (by omega) _ t (us T) [.int .u64 Hh] rfl _ rfl rfl rfl (by simp [Value.oneCell']) (by exact H2.out.rowR) (by omega) ?_; intro v1 w3 hown hgrow hmv; rw [HUS.out, HL1.out] at hown; obtain ⟨sa1, sc1, rfl⟩ := hown.slice; have H3 := Lib.hid (H2.out.rowRGrown hown rfl hgrow hmv); clear hown hgrow hmv)
          refine (own_used' H3.out.swap HOK2.out HUL.out).mono ?_
          rintro e w4 ⟨rfl, rfl⟩
          go_wp2_with fail
          refine (own_room H3.out.swap HOK2.out).mono ?_
          rintro e w4 ⟨rfl, rfl⟩
          rw [HRM2.out]
          have HP : Hid (RI w p r n (.slice sa1 L1 sc1) (.int .i64 ((k : Int) + 1)) w3) := Lib.hid ⟨k + 1, N + 1, tk X, T ++ [Hh], by go_num, by omega, by rw [show (T ++ [Hh]).length = L1 by rw [List.length_append, ← HT.out, ← HL1.out]; rfl]; exact H3.out, HOK2.out, by omega, HRM2.out, by rw [List.length_append, ← HT.out]; simp; omega, HD2.out⟩
          go_wp2_with fail
          exact ⟨HP.out, by simp [intOf]; omega⟩
        · have t0 : ((t : Int) == 0) = false := by simp [hu]
          obtain ⟨q, hq⟩ : ∃ q, q = x / 3 % t := ⟨_, rfl⟩
          have hqt : q < t := by rw [hq]; exact Nat.mod_lt _ (by omega)
          have hmq : (x : Int) / 3 % (t : Int) = (q : Int) := by rw [hq]; rfl
          obtain ⟨g, cp, ev, cq1, cq2⟩ := HO.out.rowR.form (by omega)
          unfold maxLen at cq2
          injection ev with e1 _ e3
          subst e1 e3
          obtain ⟨h, hh⟩ : ∃ h, h = T.getD q 0 := ⟨_, rfl⟩
          have hTq : T[q]? = some h := by rw [hh]; simp [List.getD, show q < T.length by rw [← HT.out]; exact hqt]
          obtain ⟨ch, fh⟩ := HO.out.rowR.cells rfl q _ (us_at T q (by rw [← HT.out]; exact hqt))
          rw [← hh] at ch
          obtain ⟨g1, g2, g3⟩ := held_give HOK.out HD.out hTq
          have HG1 := Lib.hid g1
          have HG2 := Lib.hid g2
          have HOK2 := Lib.hid (gvA_ok HOK.out h)
          have hlt64 := held_lt HOK.out (by omega) HD.out (List.mem_of_getElem? hTq)
          have tp : 0 < t := by omega
          clear hul hq hh hTq g1 g2 hu
          go_wp2_with fail
          refine (own_give' h HO.out.swap HOK.out (by omega) hlt64 HG1.out rfl).mono ?_
          rintro e w2 ⟨rfl, h2⟩
          have h3 := (h2.step (Ext.refl w2).drew).swap
          obtain ⟨L1, hL1⟩ : ∃ L1, L1 = (T.eraseIdx q).length := ⟨_, rfl⟩
          have hle : q + (t - (q + 1)) = L1 := by
            rw [hL1, List.length_eraseIdx, if_pos (by rw [← HT.out]; exact hqt), ← HT.out]
            omega
          have hrow := h3.rowR
          have hcells := hrow.cells rfl
          have hus : (us T).length = t := by rw [HT.out]; simp [us]
          obtain ⟨A, hA, hnews⟩ : ∃ A : Addr, (if sc = q + 1 then some (⟨g, 0, none⟩ : Addr) else some ⟨g, q + 1, none⟩) = some A ∧ Hid (∀ j u, ((us T).drop (q + 1))[j]? = some u → w2.drew.cell? (A.add j) = some u) := by
            by_cases h : sc = q + 1
            · refine ⟨⟨g, 0, none⟩, by simp [h], fun j u hu => ?_⟩
              rw [List.drop_eq_nil_of_le (by omega)] at hu
              simp at hu
            · refine ⟨⟨g, q + 1, none⟩, by simp [h], fun j u hu => ?_⟩
              rw [List.getElem?_drop] at hu
              rw [Addr.add_lit]
              exact (hcells _ _ hu).1
          have HY := Lib.hid (show ((us T).drop (q + 1)).length = (t - (q + 1)) * 1 by rw [List.length_drop, hus]; omega)
          have H1C : Hid (∀ u ∈ (us T).drop (q + 1), u.oneCell' = true) := by
            intro u hu
            have := List.drop_subset _ _ hu
            obtain ⟨n, _, rfl⟩ := List.mem_map.1 this
            rfl
          have hcut := hrow.cut (k := q) (c := q) (by omega) (Nat.le_refl _) (by omega)
          have HROW : Hid (ownsR w2.drew 30 1 (.slice (some ⟨g, 0, none⟩) q q) q ((us T).take q)) := by
            rw [Nat.mul_one] at hcut
            exact hcut
          have HUS := Lib.hid (us_erase T q)
          have HQ : Hid (∀ v1 w1, ownsR w1 30 1 v1 L1 (us (T.eraseIdx q)) → w2.drew.grownBy w1 (Value.slice (some ⟨g, 0, none⟩) q q).ownBlock → Moved w2.drew (.slice (some ⟨g, 0, none⟩) q q) v1 → Own [RowR 30 1 v1 L1 (us (T.eraseIdx q)), Arena p (gvA X h), Old w] w1) :=
            Lib.hid (fun v1 w1 hown hg hm => h3.rowRGrown hown rfl hg hm)
          have HLE := Lib.hid hle
          have HL1 := Lib.hid hL1
          have HU := Lib.hid (show (gvA X h).used = L1 by rw [HG2.out.cnt, ← hL1])
          have HRM2 := Lib.hid (show (gvA X h).room = r by rw [room_gvA]; exact HRM.out)
          have hp0 : (0 : Int) ≤ (q : Int) + 1 := by omega
          have hp1 : (q : Int) + 1 ≤ (t : Int) := by omega
          have hp2 : ((q : Int) + 1).toNat = q + 1 := by omega
          have hp3 : (q : Int) ≤ (sc : Int) := by omega
          have hp4 : (q : Int) ≤ (t : Int) := by omega
          have hwr : IntKind.i64.wrap ((q : Int) + 1) = (q : Int) + 1 := by rw [IntKind.wrap_i64]; omega
          have t100 : t ≤ 100 := by omega
          have L100 : L1 ≤ 100 := by omega
          have L1t : L1 ≤ t := by omega
          have h63 : q + (t - (q + 1)) ≤ maxLen := by simp only [maxLen]; omega
          have h47 : (q + (t - (q + 1))) * 8 ≤ 140737488355328 := by omega
          have H63 := Lib.hid h63
          have H47 := Lib.hid h47
          clear h2 h3 hle hrow hcells hus hcut hL1 g3 ch fh h63 h47
          go_wp2_with fail
          go_region_law (refine step_app_R w2.drew rfl (.tmp 89) (.tmp 93) 24 30 (.int .u64 0) 1 8 rfl Try.underlying24 info30 rfl (by decide) (.slice (some ⟨g, 0, none⟩) q q) q ((us T).take q) (by simp [Act.eval, Act.put]) A (t - (q + 1)) (sc - (q + 1)) ((us T).drop (q + 1)) (by simp [Act.eval, Act.put]) HY.out hnews.out H1C.out HROW.out H63.out H47.out ?_; intro v1 w3 hown hgrow hmv; rw [HUS.out, HLE.out] at hown; obtain ⟨sa1, sc1, rfl⟩ := hown.slice; have H3 := Lib.hid (HQ.out _ _ hown hgrow hmv); clear hown hgrow hmv)
          go_wp2_with fail
          refine (own_used' H3.out.swap HOK2.out HU.out).mono ?_
          rintro e w4 ⟨rfl, rfl⟩
          go_wp2_with fail
          refine (own_room H3.out.swap HOK2.out).mono ?_
          rintro e w4 ⟨rfl, rfl⟩
          rw [HRM2.out]
          have HP : Hid (RI w p r n (.slice sa1 L1 sc1) (.int .i64 ((k : Int) + 1)) w3) := Lib.hid ⟨k + 1, N + 1, gvA X h, T.eraseIdx q, by go_num, by omega, by rw [← HL1.out]; exact H3.out, HOK2.out, by omega, HRM2.out, by rw [← HL1.out]; omega, HG2.out⟩
          go_wp2_with fail
          exact ⟨HP.out, by simp [intOf]; omega⟩
    · have HO := Lib.hid hO
      obtain rfl : k = n := by omega
      clear hO hok hd hrm hlt hk ht
      go_wp2_with fail
      refine (awake_any HO.out).mono ?_
      rintro e w2 ⟨rfl, h2⟩
      have H2 := Lib.hid h2
      clear h2
      go_wp2_with fail
      go_ret
      exact ⟨rfl, H2.out.ext (by simp)⟩
set_option maxHeartbeats 4000000 in
theorem room_long (room : Int) (v : Value) (L : List Nat) (wr0 : (Lit.int .u8 room).wf = true) (w : World) (hl : Bytes w v L) (hn : 100 < L.length) :
    Calls Try.prog 6 #[.int .u8 room, v] w fun e w' => e = .returned (.bool true) ∧ Ext w w' := by
  obtain ⟨r0, r1⟩ := u8_bd wr0
  obtain ⟨r, hr⟩ : ∃ r : Nat, (r : Int) = 1 + room % 200 := ⟨(1 + room % 200).toNat, by omega⟩
  obtain ⟨a, cap, rfl, q1, q2, q3⟩ := hl
  have n1 : 1 ≤ r := by omega
  have n2 : r ≤ 200 := by omega
  have hr' := hr.symm
  have H0 := Lib.hid (Own.start w)
  obtain ⟨n, hN⟩ : ∃ n, n = L.length := ⟨_, rfl⟩
  rw [← hN] at q1 q3 hn
  rw [← hN]
  have HN := Lib.hid hN
  have Q3 := Lib.hid q3
  unfold maxLen at q2
  clear wr0 hr q3 hN
  have nI : (100 : Int) < (n : Int) := by omega
  have mI : (100 : Int) ≤ (cap : Int) := by omega
  go_enter Try.func6, Try.ntmps6
  go_wp2_with fail
  refine (own_new r (by omega) (by omega) H0.out).mono ?_
  rintro e w1 ⟨p, rfl, h1, -⟩
  have H1 := Lib.hid h1
  clear h1 H0
  go_wp2_with fail
  go_loopw [8, 31] (fun s8 s31 wr => RI w p r 100 s8 s31 wr) (fun _ s31 _ => 100 - (intOf s31).toNat)
  case atStart => exact ⟨0, 0, fresh r, [], rfl, Nat.zero_le _, H1.out.nilRowR _ 1, ok_fresh r n1 (by omega), Nat.le_refl _, rfl, Nat.le_refl _, ⟨List.nodup_nil, by simp, rfl⟩⟩
  case round =>
    clear H1
    obtain ⟨k, N, X, T, rfl, hk, hO, hok, hNk, hrm, hTk, hd⟩ := hrel
    obtain ⟨t, ht⟩ : ∃ t, t = T.length := ⟨_, rfl⟩
    rw [← ht] at hTk hO
    obtain ⟨sa, sc, rfl⟩ := hO.rowR.slice
    have HT := Lib.hid ht
    have HOK := Lib.hid hok
    have HD := Lib.hid hd
    have HRM := Lib.hid hrm
    by_cases hlt : k < 100
    · have hltI : (k : Int) < ((100 : Nat) : Int) := by omega
      have hltJ : (k : Int) < 100 := by omega
      have k100 : k < 100 := by omega
      obtain ⟨b, off, rfl, hb, hcs⟩ := Q3.out (by omega)
      obtain ⟨x, hx⟩ : ∃ x, L[k]? = some x := ⟨_, List.getElem?_eq_getElem (by have := HN.out; omega)⟩
      obtain ⟨hx255, c0⟩ := hcs k x hx
      have hxx : Ext w wr := hO.ext (by simp)
      replace c0 := hxx.cell c0
      obtain ⟨y, hy⟩ : ∃ y, y = x % 3 := ⟨_, rfl⟩
      have hmod : (x : Int) % 3 = (y : Int) := by omega
      have HO := Lib.hid hO
      have hul : X.used ≤ X.room := hok.used_le
      have hcu : X.used = t := by rw [hd.cnt, ht]
      clear hcs hx hxx hy hO ht hok hd hrm hb
      by_cases hy0 : 0 < y
      · have y1 : decide (0 < y) = true := by simpa using hy0
        have y2 : decide ((y : Int) > 0) = true := by simp; omega
        by_cases hu : t = r
        · subst hu
          have HE := Lib.hid (show tkE X = 4 by unfold tkE; rw [if_pos (by rw [hcu, HRM.out])])
          have HE2 := Lib.hid (show tkA X = X by unfold tkA; rw [if_pos (by rw [hcu, HRM.out])])
          have HE3 := Lib.hid (show tkH X = 0 by unfold tkH; rw [if_pos (by rw [hcu, HRM.out])])
          have tt : ((t : Int) == (t : Int)) = true := by simp
          clear hul
          go_wp2_with fail
          refine (own_take' HO.out.swap HOK.out (by omega) HE3.out HE.out HE2.out).mono ?_
          rintro e w2 ⟨rfl, h2⟩
          have H2 := Lib.hid h2
          have HCU := Lib.hid hcu
          clear h2 hcu
          go_wp2_with fail
          refine (own_used' H2.out HOK.out HCU.out).mono ?_
          rintro e w3 ⟨rfl, rfl⟩
          go_wp2_with fail
          refine (own_room H2.out HOK.out).mono ?_
          rintro e w3 ⟨rfl, rfl⟩
          rw [HRM.out]
          have HP : Hid (RI w p t 100 (.slice sa t sc) (.int .i64 ((k : Int) + 1)) w2) := Lib.hid ⟨k + 1, N, X, T, by go_num, by omega, by rw [← HT.out]; exact H2.out.swap, HOK.out, by omega, HRM.out, by rw [← HT.out]; omega, HD.out⟩
          go_wp2_with fail
          exact ⟨HP.out, by simp [intOf]; omega⟩
        · have hu1 : X.used < X.room := by rw [HRM.out] at hul ⊢; omega
          have HE := Lib.hid (show tkE X = 0 by unfold tkE; rw [if_neg (by omega)])
          have HE2 := Lib.hid (show tkA X = tk X by unfold tkA; rw [if_neg (by omega)])
          obtain ⟨Hh, hHh⟩ : ∃ Hh, Hh = hdl (tk X) (tq X) := ⟨_, rfl⟩
          have HE3 := Lib.hid (show tkH X = Hh by unfold tkH; rw [if_neg (by omega), hHh])
          have hd2 := held_take HOK.out HD.out hu1
          rw [← hHh] at hd2
          have HD2 := Lib.hid hd2
          have HOK2 := Lib.hid (take_spec HOK.out hu1).2
          have HUS := Lib.hid (show us T ++ [Value.int .u64 (Hh : Int)] = us (T ++ [Hh]) by simp [us])
          obtain ⟨L1, hL1⟩ : ∃ L1, L1 = t + 1 := ⟨_, rfl⟩
          have HL1 := Lib.hid hL1.symm
          have HUL := Lib.hid (show (tk X).used = L1 by show X.used + 1 = L1; omega)
          have HRM2 := Lib.hid (show (tk X).room = r from HRM.out)
          have t100 : t < 100 := by omega
          have L100 : L1 ≤ 100 := by omega
          have tt : (t == r) = false := by simp; omega
          have ttI : ((t : Int) == (r : Int)) = false := by simp; omega
          clear hul hd2 hHh hL1 hu1 hcu hu
          go_wp2_with fail
          refine (own_take' HO.out.swap HOK.out (by omega) HE3.out HE.out HE2.out).mono ?_
          rintro e w2 ⟨rfl, h2⟩
          have H2 := Lib.hid h2.swap
          clear h2
          go_wp2_with (at_builtin; refine app_R1 rfl _ _ _ _ _ 1 8 rfl Try.underlying24 info30 rfl (by omega) (by omega) _ t (us T) [.int .u64 Hh] rfl _ rfl rfl rfl (by simp [Value.oneCell']) (by exact H2.out.rowR) (by omega) ?_; intro v1 w3 hown hgrow hmv; rw [HUS.out, HL1.out] at hown; obtain ⟨sa1, sc1, rfl⟩ := hown.slice; have H3 := Lib.hid (H2.out.rowRGrown hown rfl hgrow hmv); clear hown hgrow hmv)
          refine (own_used' H3.out.swap HOK2.out HUL.out).mono ?_
          rintro e w4 ⟨rfl, rfl⟩
          go_wp2_with fail
          refine (own_room H3.out.swap HOK2.out).mono ?_
          rintro e w4 ⟨rfl, rfl⟩
          rw [HRM2.out]
          have HP : Hid (RI w p r 100 (.slice sa1 L1 sc1) (.int .i64 ((k : Int) + 1)) w3) := Lib.hid ⟨k + 1, N + 1, tk X, T ++ [Hh], by go_num, by omega, by rw [show (T ++ [Hh]).length = L1 by rw [List.length_append, ← HT.out, ← HL1.out]; rfl]; exact H3.out, HOK2.out, by omega, HRM2.out, by rw [List.length_append, ← HT.out]; simp; omega, HD2.out⟩
          go_wp2_with fail
          exact ⟨HP.out, by simp [intOf]; omega⟩
      · have y1 : decide (0 < y) = false := by simpa using hy0
        have y2 : decide ((y : Int) > 0) = false := by simp; omega
        by_cases hu : t = 0
        · have t0 : ((t : Int) == 0) = true := by simp [hu]
          have hu1 : X.used < X.room := by rw [HRM.out]; omega
          have HE := Lib.hid (show tkE X = 0 by unfold tkE; rw [if_neg (by omega)])
          have HE2 := Lib.hid (show tkA X = tk X by unfold tkA; rw [if_neg (by omega)])
          obtain ⟨Hh, hHh⟩ : ∃ Hh, Hh = hdl (tk X) (tq X) := ⟨_, rfl⟩
          have HE3 := Lib.hid (show tkH X = Hh by unfold tkH; rw [if_neg (by omega), hHh])
          have hd2 := held_take HOK.out HD.out hu1
          rw [← hHh] at hd2
          have HD2 := Lib.hid hd2
          have HOK2 := Lib.hid (take_spec HOK.out hu1).2
          have HUS := Lib.hid (show us T ++ [Value.int .u64 (Hh : Int)] = us (T ++ [Hh]) by simp [us])
          obtain ⟨L1, hL1⟩ : ∃ L1, L1 = t + 1 := ⟨_, rfl⟩
          have HL1 := Lib.hid hL1.symm
          have HUL := Lib.hid (show (tk X).used = L1 by show X.used + 1 = L1; omega)
          have HRM2 := Lib.hid (show (tk X).room = r from HRM.out)
          have t100 : t < 100 := by omega
          have L100 : L1 ≤ 100 := by omega
          have tt : (t == r) = false := by simp; omega
          have ttI : ((t : Int) == (r : Int)) = false := by simp; omega
          clear hul hd2 hHh hL1 hu1 hcu hu
          go_wp2_with fail
          refine (own_take' HO.out.swap HOK.out (by omega) HE3.out HE.out HE2.out).mono ?_
          rintro e w2 ⟨rfl, h2⟩
          have H2 := Lib.hid h2.swap
          clear h2
          go_wp2_with (at_builtin; refine app_R1 rfl _ _ _ _ _ 1 8 rfl Try.underlying24 info30 rfl (by omega) (by omega) _ t (us T) [.int .u64 Hh] rfl _ rfl rfl rfl (by simp [Value.oneCell']) (by exact H2.out.rowR) (by omega) ?_; intro v1 w3 hown hgrow hmv; rw [HUS.out, HL1.out] at hown; obtain ⟨sa1, sc1, rfl⟩ := hown.slice; have H3 := Lib.hid (H2.out.rowRGrown hown rfl hgrow hmv); clear hown hgrow hmv)
          refine (own_used' H3.out.swap HOK2.out HUL.out).mono ?_
          rintro e w4 ⟨rfl, rfl⟩
          go_wp2_with fail
          refine (own_room H3.out.swap HOK2.out).mono ?_
          rintro e w4 ⟨rfl, rfl⟩
          rw [HRM2.out]
          have HP : Hid (RI w p r 100 (.slice sa1 L1 sc1) (.int .i64 ((k : Int) + 1)) w3) := Lib.hid ⟨k + 1, N + 1, tk X, T ++ [Hh], by go_num, by omega, by rw [show (T ++ [Hh]).length = L1 by rw [List.length_append, ← HT.out, ← HL1.out]; rfl]; exact H3.out, HOK2.out, by omega, HRM2.out, by rw [List.length_append, ← HT.out]; simp; omega, HD2.out⟩
          go_wp2_with fail
          exact ⟨HP.out, by simp [intOf]; omega⟩
        · have t0 : ((t : Int) == 0) = false := by simp [hu]
          obtain ⟨q, hq⟩ : ∃ q, q = x / 3 % t := ⟨_, rfl⟩
          have hqt : q < t := by rw [hq]; exact Nat.mod_lt _ (by omega)
          have hmq : (x : Int) / 3 % (t : Int) = (q : Int) := by rw [hq]; rfl
          obtain ⟨g, cp, ev, cq1, cq2⟩ := HO.out.rowR.form (by omega)
          unfold maxLen at cq2
          injection ev with e1 _ e3
          subst e1 e3
          obtain ⟨h, hh⟩ : ∃ h, h = T.getD q 0 := ⟨_, rfl⟩
          have hTq : T[q]? = some h := by rw [hh]; simp [List.getD, show q < T.length by rw [← HT.out]; exact hqt]
          obtain ⟨ch, fh⟩ := HO.out.rowR.cells rfl q _ (us_at T q (by rw [← HT.out]; exact hqt))
          rw [← hh] at ch
          obtain ⟨g1, g2, g3⟩ := held_give HOK.out HD.out hTq
          have HG1 := Lib.hid g1
          have HG2 := Lib.hid g2
          have HOK2 := Lib.hid (gvA_ok HOK.out h)
          have hlt64 := held_lt HOK.out (by omega) HD.out (List.mem_of_getElem? hTq)
          have tp : 0 < t := by omega
          clear hul hq hh hTq g1 g2 hu
          go_wp2_with fail
          refine (own_give' h HO.out.swap HOK.out (by omega) hlt64 HG1.out rfl).mono ?_
          rintro e w2 ⟨rfl, h2⟩
          have h3 := (h2.step (Ext.refl w2).drew).swap
          obtain ⟨L1, hL1⟩ : ∃ L1, L1 = (T.eraseIdx q).length := ⟨_, rfl⟩
          have hle : q + (t - (q + 1)) = L1 := by
            rw [hL1, List.length_eraseIdx, if_pos (by rw [← HT.out]; exact hqt), ← HT.out]
            omega
          have hrow := h3.rowR
          have hcells := hrow.cells rfl
          have hus : (us T).length = t := by rw [HT.out]; simp [us]
          obtain ⟨A, hA, hnews⟩ : ∃ A : Addr, (if sc = q + 1 then some (⟨g, 0, none⟩ : Addr) else some ⟨g, q + 1, none⟩) = some A ∧ Hid (∀ j u, ((us T).drop (q + 1))[j]? = some u → w2.drew.cell? (A.add j) = some u) := by
            by_cases h : sc = q + 1
            · refine ⟨⟨g, 0, none⟩, by simp [h], fun j u hu => ?_⟩
              rw [List.drop_eq_nil_of_le (by omega)] at hu
              simp at hu
            · refine ⟨⟨g, q + 1, none⟩, by simp [h], fun j u hu => ?_⟩
              rw [List.getElem?_drop] at hu
              rw [Addr.add_lit]
              exact (hcells _ _ hu).1
          have HY := Lib.hid (show ((us T).drop (q + 1)).length = (t - (q + 1)) * 1 by rw [List.length_drop, hus]; omega)
          have H1C : Hid (∀ u ∈ (us T).drop (q + 1), u.oneCell' = true) := by
            intro u hu
            have := List.drop_subset _ _ hu
            obtain ⟨n, _, rfl⟩ := List.mem_map.1 this
            rfl
          have hcut := hrow.cut (k := q) (c := q) (by omega) (Nat.le_refl _) (by omega)
          have HROW : Hid (ownsR w2.drew 30 1 (.slice (some ⟨g, 0, none⟩) q q) q ((us T).take q)) := by
            rw [Nat.mul_one] at hcut
            exact hcut
          have HUS := Lib.hid (us_erase T q)
          have HQ : Hid (∀ v1 w1, ownsR w1 30 1 v1 L1 (us (T.eraseIdx q)) → w2.drew.grownBy w1 (Value.slice (some ⟨g, 0, none⟩) q q).ownBlock → Moved w2.drew (.slice (some ⟨g, 0, none⟩) q q) v1 → Own [RowR 30 1 v1 L1 (us (T.eraseIdx q)), Arena p (gvA X h), Old w] w1) :=
            Lib.hid (fun v1 w1 hown hg hm => h3.rowRGrown hown rfl hg hm)
          have HLE := Lib.hid hle
          have HL1 := Lib.hid hL1
          have HU := Lib.hid (show (gvA X h).used = L1 by rw [HG2.out.cnt, ← hL1])
          have HRM2 := Lib.hid (show (gvA X h).room = r by rw [room_gvA]; exact HRM.out)
          have hp0 : (0 : Int) ≤ (q : Int) + 1 := by omega
          have hp1 : (q : Int) + 1 ≤ (t : Int) := by omega
          have hp2 : ((q : Int) + 1).toNat = q + 1 := by omega
          have hp3 : (q : Int) ≤ (sc : Int) := by omega
          have hp4 : (q : Int) ≤ (t : Int) := by omega
          have hwr : IntKind.i64.wrap ((q : Int) + 1) = (q : Int) + 1 := by rw [IntKind.wrap_i64]; omega
          have t100 : t ≤ 100 := by omega
          have L100 : L1 ≤ 100 := by omega
          have L1t : L1 ≤ t := by omega
          have h63 : q + (t - (q + 1)) ≤ maxLen := by simp only [maxLen]; omega
          have h47 : (q + (t - (q + 1))) * 8 ≤ 140737488355328 := by omega
          have H63 := Lib.hid h63
          have H47 := Lib.hid h47
          clear h2 h3 hle hrow hcells hus hcut hL1 g3 ch fh h63 h47
          go_wp2_with fail
          go_region_law (refine step_app_R w2.drew rfl (.tmp 89) (.tmp 93) 24 30 (.int .u64 0) 1 8 rfl Try.underlying24 info30 rfl (by decide) (.slice (some ⟨g, 0, none⟩) q q) q ((us T).take q) (by simp [Act.eval, Act.put]) A (t - (q + 1)) (sc - (q + 1)) ((us T).drop (q + 1)) (by simp [Act.eval, Act.put]) HY.out hnews.out H1C.out HROW.out H63.out H47.out ?_; intro v1 w3 hown hgrow hmv; rw [HUS.out, HLE.out] at hown; obtain ⟨sa1, sc1, rfl⟩ := hown.slice; have H3 := Lib.hid (HQ.out _ _ hown hgrow hmv); clear hown hgrow hmv)
          go_wp2_with fail
          refine (own_used' H3.out.swap HOK2.out HU.out).mono ?_
          rintro e w4 ⟨rfl, rfl⟩
          go_wp2_with fail
          refine (own_room H3.out.swap HOK2.out).mono ?_
          rintro e w4 ⟨rfl, rfl⟩
          rw [HRM2.out]
          have HP : Hid (RI w p r 100 (.slice sa1 L1 sc1) (.int .i64 ((k : Int) + 1)) w3) := Lib.hid ⟨k + 1, N + 1, gvA X h, T.eraseIdx q, by go_num, by omega, by rw [← HL1.out]; exact H3.out, HOK2.out, by omega, HRM2.out, by rw [← HL1.out]; omega, HG2.out⟩
          go_wp2_with fail
          exact ⟨HP.out, by simp [intOf]; omega⟩
    · have HO := Lib.hid hO
      obtain rfl : k = 100 := by omega
      clear hO hok hd hrm hlt hk ht
      go_wp2_with fail
      refine (awake_any HO.out).mono ?_
      rintro e w2 ⟨rfl, h2⟩
      have H2 := Lib.hid h2
      clear h2
      go_wp2_with fail
      go_ret
      exact ⟨rfl, H2.out.ext (by simp)⟩
set_option maxHeartbeats 4000000 in
theorem room_just (room : Int) (v : Value) (L : List Nat) (wr0 : (Lit.int .u8 room).wf = true) (w : World) (hl : Bytes w v L) (hn : L.length = 100) :
    Calls Try.prog 6 #[.int .u8 room, v] w fun e w' => e = .returned (.bool true) ∧ Ext w w' := by
  obtain ⟨r0, r1⟩ := u8_bd wr0
  obtain ⟨r, hr⟩ : ∃ r : Nat, (r : Int) = 1 + room % 200 := ⟨(1 + room % 200).toNat, by omega⟩
  obtain ⟨a, cap, rfl, q1, q2, q3⟩ := hl
  have n1 : 1 ≤ r := by omega
  have n2 : r ≤ 200 := by omega
  have hr' := hr.symm
  have H0 := Lib.hid (Own.start w)
  obtain ⟨n, hN⟩ : ∃ n, n = L.length := ⟨_, rfl⟩
  rw [← hN] at q1 q3 hn
  rw [← hN]
  have HN := Lib.hid hN
  have Q3 := Lib.hid q3
  unfold maxLen at q2
  clear wr0 hr q3 hN
  subst hn
  have mI : (100 : Int) ≤ (cap : Int) := by omega
  go_enter Try.func6, Try.ntmps6
  go_wp2_with fail
  refine (own_new r (by omega) (by omega) H0.out).mono ?_
  rintro e w1 ⟨p, rfl, h1, -⟩
  have H1 := Lib.hid h1
  clear h1 H0
  go_wp2_with fail
  go_loopw [8, 31] (fun s8 s31 wr => RI w p r 100 s8 s31 wr) (fun _ s31 _ => 100 - (intOf s31).toNat)
  case atStart => exact ⟨0, 0, fresh r, [], rfl, Nat.zero_le _, H1.out.nilRowR _ 1, ok_fresh r n1 (by omega), Nat.le_refl _, rfl, Nat.le_refl _, ⟨List.nodup_nil, by simp, rfl⟩⟩
  case round =>
    clear H1
    obtain ⟨k, N, X, T, rfl, hk, hO, hok, hNk, hrm, hTk, hd⟩ := hrel
    obtain ⟨t, ht⟩ : ∃ t, t = T.length := ⟨_, rfl⟩
    rw [← ht] at hTk hO
    obtain ⟨sa, sc, rfl⟩ := hO.rowR.slice
    have HT := Lib.hid ht
    have HOK := Lib.hid hok
    have HD := Lib.hid hd
    have HRM := Lib.hid hrm
    by_cases hlt : k < 100
    · have hltI : (k : Int) < ((100 : Nat) : Int) := by omega
      have hltJ : (k : Int) < 100 := by omega
      have k100 : k < 100 := by omega
      obtain ⟨b, off, rfl, hb, hcs⟩ := Q3.out (by omega)
      obtain ⟨x, hx⟩ : ∃ x, L[k]? = some x := ⟨_, List.getElem?_eq_getElem (by have := HN.out; omega)⟩
      obtain ⟨hx255, c0⟩ := hcs k x hx
      have hxx : Ext w wr := hO.ext (by simp)
      replace c0 := hxx.cell c0
      obtain ⟨y, hy⟩ : ∃ y, y = x % 3 := ⟨_, rfl⟩
      have hmod : (x : Int) % 3 = (y : Int) := by omega
      have HO := Lib.hid hO
      have hul : X.used ≤ X.room := hok.used_le
      have hcu : X.used = t := by rw [hd.cnt, ht]
      clear hcs hx hxx hy hO ht hok hd hrm hb
      by_cases hy0 : 0 < y
      · have y1 : decide (0 < y) = true := by simpa using hy0
        have y2 : decide ((y : Int) > 0) = true := by simp; omega
        by_cases hu : t = r
        · subst hu
          have HE := Lib.hid (show tkE X = 4 by unfold tkE; rw [if_pos (by rw [hcu, HRM.out])])
          have HE2 := Lib.hid (show tkA X = X by unfold tkA; rw [if_pos (by rw [hcu, HRM.out])])
          have HE3 := Lib.hid (show tkH X = 0 by unfold tkH; rw [if_pos (by rw [hcu, HRM.out])])
          have tt : ((t : Int) == (t : Int)) = true := by simp
          clear hul
          go_wp2_with fail
          refine (own_take' HO.out.swap HOK.out (by omega) HE3.out HE.out HE2.out).mono ?_
          rintro e w2 ⟨rfl, h2⟩
          have H2 := Lib.hid h2
          have HCU := Lib.hid hcu
          clear h2 hcu
          go_wp2_with fail
          refine (own_used' H2.out HOK.out HCU.out).mono ?_
          rintro e w3 ⟨rfl, rfl⟩
          go_wp2_with fail
          refine (own_room H2.out HOK.out).mono ?_
          rintro e w3 ⟨rfl, rfl⟩
          rw [HRM.out]
          have HP : Hid (RI w p t 100 (.slice sa t sc) (.int .i64 ((k : Int) + 1)) w2) := Lib.hid ⟨k + 1, N, X, T, by go_num, by omega, by rw [← HT.out]; exact H2.out.swap, HOK.out, by omega, HRM.out, by rw [← HT.out]; omega, HD.out⟩
          go_wp2_with fail
          exact ⟨HP.out, by simp [intOf]; omega⟩
        · have hu1 : X.used < X.room := by rw [HRM.out] at hul ⊢; omega
          have HE := Lib.hid (show tkE X = 0 by unfold tkE; rw [if_neg (by omega)])
          have HE2 := Lib.hid (show tkA X = tk X by unfold tkA; rw [if_neg (by omega)])
          obtain ⟨Hh, hHh⟩ : ∃ Hh, Hh = hdl (tk X) (tq X) := ⟨_, rfl⟩
          have HE3 := Lib.hid (show tkH X = Hh by unfold tkH; rw [if_neg (by omega), hHh])
          have hd2 := held_take HOK.out HD.out hu1
          rw [← hHh] at hd2
          have HD2 := Lib.hid hd2
          have HOK2 := Lib.hid (take_spec HOK.out hu1).2
          have HUS := Lib.hid (show us T ++ [Value.int .u64 (Hh : Int)] = us (T ++ [Hh]) by simp [us])
          obtain ⟨L1, hL1⟩ : ∃ L1, L1 = t + 1 := ⟨_, rfl⟩
          have HL1 := Lib.hid hL1.symm
          have HUL := Lib.hid (show (tk X).used = L1 by show X.used + 1 = L1; omega)
          have HRM2 := Lib.hid (show (tk X).room = r from HRM.out)
          have t100 : t < 100 := by omega
          have L100 : L1 ≤ 100 := by omega
          have tt : (t == r) = false := by simp; omega
          have ttI : ((t : Int) == (r : Int)) = false := by simp; omega
          clear hul hd2 hHh hL1 hu1 hcu hu
          go_wp2_with fail
          refine (own_take' HO.out.swap HOK.out (by omega) HE3.out HE.out HE2.out).mono ?_
          rintro e w2 ⟨rfl, h2⟩
          have H2 := Lib.hid h2.swap
          clear h2
          go_wp2_with (at_builtin; refine app_R1 rfl _ _ _ _ _ 1 8 rfl Try.underlying24 info30 rfl (by omega) (by omega) _ t (us T) [.int .u64 Hh] rfl _ rfl rfl rfl (by simp [Value.oneCell']) (by exact H2.out.rowR) (by omega) ?_; intro v1 w3 hown hgrow hmv; rw [HUS.out, HL1.out] at hown; obtain ⟨sa1, sc1, rfl⟩ := hown.slice; have H3 := Lib.hid (H2.out.rowRGrown hown rfl hgrow hmv); clear hown hgrow hmv)
          refine (own_used' H3.out.swap HOK2.out HUL.out).mono ?_
          rintro e w4 ⟨rfl, rfl⟩
          go_wp2_with fail
          refine (own_room H3.out.swap HOK2.out).mono ?_
          rintro e w4 ⟨rfl, rfl⟩
          rw [HRM2.out]
          have HP : Hid (RI w p r 100 (.slice sa1 L1 sc1) (.int .i64 ((k : Int) + 1)) w3) := Lib.hid ⟨k + 1, N + 1, tk X, T ++ [Hh], by go_num, by omega, by rw [show (T ++ [Hh]).length = L1 by rw [List.length_append, ← HT.out, ← HL1.out]; rfl]; exact H3.out, HOK2.out, by omega, HRM2.out, by rw [List.length_append, ← HT.out]; simp; omega, HD2.out⟩
          go_wp2_with fail
          exact ⟨HP.out, by simp [intOf]; omega⟩
      · have y1 : decide (0 < y) = false := by simpa using hy0
        have y2 : decide ((y : Int) > 0) = false := by simp; omega
        by_cases hu : t = 0
        · have t0 : ((t : Int) == 0) = true := by simp [hu]
          have hu1 : X.used < X.room := by rw [HRM.out]; omega
          have HE := Lib.hid (show tkE X = 0 by unfold tkE; rw [if_neg (by omega)])
          have HE2 := Lib.hid (show tkA X = tk X by unfold tkA; rw [if_neg (by omega)])
          obtain ⟨Hh, hHh⟩ : ∃ Hh, Hh = hdl (tk X) (tq X) := ⟨_, rfl⟩
          have HE3 := Lib.hid (show tkH X = Hh by unfold tkH; rw [if_neg (by omega), hHh])
          have hd2 := held_take HOK.out HD.out hu1
          rw [← hHh] at hd2
          have HD2 := Lib.hid hd2
          have HOK2 := Lib.hid (take_spec HOK.out hu1).2
          have HUS := Lib.hid (show us T ++ [Value.int .u64 (Hh : Int)] = us (T ++ [Hh]) by simp [us])
          obtain ⟨L1, hL1⟩ : ∃ L1, L1 = t + 1 := ⟨_, rfl⟩
          have HL1 := Lib.hid hL1.symm
          have HUL := Lib.hid (show (tk X).used = L1 by show X.used + 1 = L1; omega)
          have HRM2 := Lib.hid (show (tk X).room = r from HRM.out)
          have t100 : t < 100 := by omega
          have L100 : L1 ≤ 100 := by omega
          have tt : (t == r) = false := by simp; omega
          have ttI : ((t : Int) == (r : Int)) = false := by simp; omega
          clear hul hd2 hHh hL1 hu1 hcu hu
          go_wp2_with fail
          refine (own_take' HO.out.swap HOK.out (by omega) HE3.out HE.out HE2.out).mono ?_
          rintro e w2 ⟨rfl, h2⟩
          have H2 := Lib.hid h2.swap
          clear h2
          go_wp2_with (at_builtin; refine app_R1 rfl _ _ _ _ _ 1 8 rfl Try.underlying24 info30 rfl (by omega) (by omega) _ t (us T) [.int .u64 Hh] rfl _ rfl rfl rfl (by simp [Value.oneCell']) (by exact H2.out.rowR) (by omega) ?_; intro v1 w3 hown hgrow hmv; rw [HUS.out, HL1.out] at hown; obtain ⟨sa1, sc1, rfl⟩ := hown.slice; have H3 := Lib.hid (H2.out.rowRGrown hown rfl hgrow hmv); clear hown hgrow hmv)
          refine (own_used' H3.out.swap HOK2.out HUL.out).mono ?_
          rintro e w4 ⟨rfl, rfl⟩
          go_wp2_with fail
          refine (own_room H3.out.swap HOK2.out).mono ?_
          rintro e w4 ⟨rfl, rfl⟩
          rw [HRM2.out]
          have HP : Hid (RI w p r 100 (.slice sa1 L1 sc1) (.int .i64 ((k : Int) + 1)) w3) := Lib.hid ⟨k + 1, N + 1, tk X, T ++ [Hh], by go_num, by omega, by rw [show (T ++ [Hh]).length = L1 by rw [List.length_append, ← HT.out, ← HL1.out]; rfl]; exact H3.out, HOK2.out, by omega, HRM2.out, by rw [List.length_append, ← HT.out]; simp; omega, HD2.out⟩
          go_wp2_with fail
          exact ⟨HP.out, by simp [intOf]; omega⟩
        · have t0 : ((t : Int) == 0) = false := by simp [hu]
          obtain ⟨q, hq⟩ : ∃ q, q = x / 3 % t := ⟨_, rfl⟩
          have hqt : q < t := by rw [hq]; exact Nat.mod_lt _ (by omega)
          have hmq : (x : Int) / 3 % (t : Int) = (q : Int) := by rw [hq]; rfl
          obtain ⟨g, cp, ev, cq1, cq2⟩ := HO.out.rowR.form (by omega)
          unfold maxLen at cq2
          injection ev with e1 _ e3
          subst e1 e3
          obtain ⟨h, hh⟩ : ∃ h, h = T.getD q 0 := ⟨_, rfl⟩
          have hTq : T[q]? = some h := by rw [hh]; simp [List.getD, show q < T.length by rw [← HT.out]; exact hqt]
          obtain ⟨ch, fh⟩ := HO.out.rowR.cells rfl q _ (us_at T q (by rw [← HT.out]; exact hqt))
          rw [← hh] at ch
          obtain ⟨g1, g2, g3⟩ := held_give HOK.out HD.out hTq
          have HG1 := Lib.hid g1
          have HG2 := Lib.hid g2
          have HOK2 := Lib.hid (gvA_ok HOK.out h)
          have hlt64 := held_lt HOK.out (by omega) HD.out (List.mem_of_getElem? hTq)
          have tp : 0 < t := by omega
          clear hul hq hh hTq g1 g2 hu
          go_wp2_with fail
          refine (own_give' h HO.out.swap HOK.out (by omega) hlt64 HG1.out rfl).mono ?_
          rintro e w2 ⟨rfl, h2⟩
          have h3 := (h2.step (Ext.refl w2).drew).swap
          obtain ⟨L1, hL1⟩ : ∃ L1, L1 = (T.eraseIdx q).length := ⟨_, rfl⟩
          have hle : q + (t - (q + 1)) = L1 := by
            rw [hL1, List.length_eraseIdx, if_pos (by rw [← HT.out]; exact hqt), ← HT.out]
            omega
          have hrow := h3.rowR
          have hcells := hrow.cells rfl
          have hus : (us T).length = t := by rw [HT.out]; simp [us]
          obtain ⟨A, hA, hnews⟩ : ∃ A : Addr, (if sc = q + 1 then some (⟨g, 0, none⟩ : Addr) else some ⟨g, q + 1, none⟩) = some A ∧ Hid (∀ j u, ((us T).drop (q + 1))[j]? = some u → w2.drew.cell? (A.add j) = some u) := by
            by_cases h : sc = q + 1
            · refine ⟨⟨g, 0, none⟩, by simp [h], fun j u hu => ?_⟩
              rw [List.drop_eq_nil_of_le (by omega)] at hu
              simp at hu
            · refine ⟨⟨g, q + 1, none⟩, by simp [h], fun j u hu => ?_⟩
              rw [List.getElem?_drop] at hu
              rw [Addr.add_lit]
              exact (hcells _ _ hu).1
          have HY := Lib.hid (show ((us T).drop (q + 1)).length = (t - (q + 1)) * 1 by rw [List.length_drop, hus]; omega)
          have H1C : Hid (∀ u ∈ (us T).drop (q + 1), u.oneCell' = true) := by
            intro u hu
            have := List.drop_subset _ _ hu
            obtain ⟨n, _, rfl⟩ := List.mem_map.1 this
            rfl
          have hcut := hrow.cut (k := q) (c := q) (by omega) (Nat.le_refl _) (by omega)
          have HROW : Hid (ownsR w2.drew 30 1 (.slice (some ⟨g, 0, none⟩) q q) q ((us T).take q)) := by
            rw [Nat.mul_one] at hcut
            exact hcut
          have HUS := Lib.hid (us_erase T q)
          have HQ : Hid (∀ v1 w1, ownsR w1 30 1 v1 L1 (us (T.eraseIdx q)) → w2.drew.grownBy w1 (Value.slice (some ⟨g, 0, none⟩) q q).ownBlock → Moved w2.drew (.slice (some ⟨g, 0, none⟩) q q) v1 → Own [RowR 30 1 v1 L1 (us (T.eraseIdx q)), Arena p (gvA X h), Old w] w1) :=
            Lib.hid (fun v1 w1 hown hg hm => h3.rowRGrown hown rfl hg hm)
          have HLE := Lib.hid hle
          have HL1 := Lib.hid hL1
          have HU := Lib.hid (show (gvA X h).used = L1 by rw [HG2.out.cnt, ← hL1])
          have HRM2 := Lib.hid (show (gvA X h).room = r by rw [room_gvA]; exact HRM.out)
          have hp0 : (0 : Int) ≤ (q : Int) + 1 := by omega
          have hp1 : (q : Int) + 1 ≤ (t : Int) := by omega
          have hp2 : ((q : Int) + 1).toNat = q + 1 := by omega
          have hp3 : (q : Int) ≤ (sc : Int) := by omega
          have hp4 : (q : Int) ≤ (t : Int) := by omega
          have hwr : IntKind.i64.wrap ((q : Int) + 1) = (q : Int) + 1 := by rw [IntKind.wrap_i64]; omega
          have t100 : t ≤ 100 := by omega
          have L100 : L1 ≤ 100 := by omega
          have L1t : L1 ≤ t := by omega
          have h63 : q + (t - (q + 1)) ≤ maxLen := by simp only [maxLen]; omega
          have h47 : (q + (t - (q + 1))) * 8 ≤ 140737488355328 := by omega
          have H63 := Lib.hid h63
          have H47 := Lib.hid h47
          clear h2 h3 hle hrow hcells hus hcut hL1 g3 ch fh h63 h47
          go_wp2_with fail
          go_region_law (refine step_app_R w2.drew rfl (.tmp 89) (.tmp 93) 24 30 (.int .u64 0) 1 8 rfl Try.underlying24 info30 rfl (by decide) (.slice (some ⟨g, 0, none⟩) q q) q ((us T).take q) (by simp [Act.eval, Act.put]) A (t - (q + 1)) (sc - (q + 1)) ((us T).drop (q + 1)) (by simp [Act.eval, Act.put]) HY.out hnews.out H1C.out HROW.out H63.out H47.out ?_; intro v1 w3 hown hgrow hmv; rw [HUS.out, HLE.out] at hown; obtain ⟨sa1, sc1, rfl⟩ := hown.slice; have H3 := Lib.hid (HQ.out _ _ hown hgrow hmv); clear hown hgrow hmv)
          go_wp2_with fail
          refine (own_used' H3.out.swap HOK2.out HU.out).mono ?_
          rintro e w4 ⟨rfl, rfl⟩
          go_wp2_with fail
          refine (own_room H3.out.swap HOK2.out).mono ?_
          rintro e w4 ⟨rfl, rfl⟩
          rw [HRM2.out]
          have HP : Hid (RI w p r 100 (.slice sa1 L1 sc1) (.int .i64 ((k : Int) + 1)) w3) := Lib.hid ⟨k + 1, N + 1, gvA X h, T.eraseIdx q, by go_num, by omega, by rw [← HL1.out]; exact H3.out, HOK2.out, by omega, HRM2.out, by rw [← HL1.out]; omega, HG2.out⟩
          go_wp2_with fail
          exact ⟨HP.out, by simp [intOf]; omega⟩
    · have HO := Lib.hid hO
      obtain rfl : k = 100 := by omega
      clear hO hok hd hrm hlt hk ht
      go_wp2_with fail
      refine (awake_any HO.out).mono ?_
      rintro e w2 ⟨rfl, h2⟩
      have H2 := Lib.hid h2
      clear h2
      go_wp2_with fail
      go_ret
      exact ⟨rfl, H2.out.ext (by simp)⟩
theorem room_of (room : Int) (v : Value) (L : List Nat) (wr0 : (Lit.int .u8 room).wf = true) (w : World) (hl : Bytes w v L) :
    Calls Try.prog 6 #[.int .u8 room, v] w fun e w' => e = .returned (.bool true) ∧ Ext w w' := by
  by_cases h1 : L.length < 100
  · exact room_short room v L wr0 w hl h1
  · by_cases h2 : 100 < L.length
    · exact room_long room v L wr0 w hl h2
    · exact room_just room v L wr0 w hl (by omega)
end Go.Proofs.Ytekdgghekdajbaa.Ar
