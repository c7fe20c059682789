/- DERIVED. Layer 19 (delay): the law DelayBack. Written by wip/mkdyj.py. -/
import Derived.Test.YtlficiohenpghabDyI
set_option linter.unusedVariables false
set_option linter.unusedSimpArgs false
set_option maxRecDepth 100000
namespace Go.Proofs.Ytlficiohenpghab.Dy
open Go.RowKit Go.Maps Go.Proofs.Ytlficiohenpghab Go.Proofs.Ytlficiohenpghab.TreeP Go.Proofs.Ytlficiohenpghab.Tr Go.Proofs.Ytlficiohenpghab.Wk

/-- an operation whose guard lets it run, as one without a guard -/
theorem wpList_guarded {P : Program} {ops : Array Oper} {rest : List Oper} {o : Oper} {a : Act} {Q : Exit → Act → World → Prop} {W : World} (hw : Region.wanted o (yielded ops a.tmps) = true) (h : wpList P ops Q ({ o with guard := none } :: rest) a W) : wpList P ops Q (o :: rest) a W := by
  unfold wpList at h ⊢
  rw [if_pos hw]
  rw [if_pos (by simp [Region.wanted])] at h
  cases o
  exact h
theorem u8_bds {a : Int} (h : (Lit.int .u8 a).wf = true) : 0 ≤ a ∧ a ≤ 255 := by
  simp [Lit.wf, IntKind.min, IntKind.max, IntKind.signed, IntKind.bits] at h
  omega
set_option maxHeartbeats 8000000 in
theorem back_row (v : Value) (flow at' : Int) (x : Nat × (Nat → DOp)) (wf1 : (Lit.int .u8 flow).wf = true) (wf2 : (Lit.int .u64 at').wf = true) (w : World) (ho : Ops2 w v x) :
    Calls Try.prog 6 #[v, .int .u8 flow, .int .u64 at'] w fun e w' => e = .returned (.bool true) ∧ Ext w w' := by
  obtain ⟨b0, b1⟩ := u8_bds wf1
  obtain ⟨n, fs⟩ := x
  have hp := played_any v n fs ho (Own.start w) (.head _)
  obtain ⟨f, hf⟩ : ∃ f : Nat, flow % 12 = (f : Int) := ⟨(flow % 12).toNat, by omega⟩
  have f12 : f < 12 := by omega
  have HFW := Lib.hid (i64_wf12 (k := f) (by omega))
  have HA0 : Hid (0 ≤ at' ∧ at' < 18446744073709551616) := Lib.hid (by have := u64_bd wf2; omega)
  have hq0 := play_le 12 fs (min n 50)
  obtain ⟨X, hX⟩ : ∃ X, X = playD 12 fs (min n 50) := ⟨_, rfl⟩
  rw [← hX] at hp hq0
  obtain ⟨q, E⟩ := X
  have HP := Lib.hid hp
  have q50 : q ≤ 50 := by simp only at hq0; omega
  have hwfn : (Lit.int .i64 flow).wf = true ∨ True := .inr trivial
  obtain ⟨-, a, cap, rfl, -⟩ := ho
  have f12I : (f : Int) < 12 := by omega
  clear hp hq0 hX wf1 wf2 hwfn
  go_enter Try.func6, Try.ntmps6
  go_wp2_with fail
  refine (HP.out).mono ?_
  rintro e w1 ⟨p, rfl, h1⟩
  have HWA := Lib.hid (own_waiting h1)
  clear h1 HP
  go_wp2_with fail
  refine (HWA.out).mono ?_
  rintro e w2 ⟨b, m, D, rfl, hm, hwt, h2⟩
  clear HWA
  obtain ⟨Z, h8, -⟩ := h2.open
  have H8 := Lib.hid h8
  clear h8
  cases hw : who E (f : Int) with
  | none =>
    as_aux_lemma =>
    have hv := u64_at (hwt.val (f : Int))
    have hb := hwt.has (f : Int)
    rw [hw] at hv hb
    have HV := Lib.hid hv
    have HB := Lib.hid hb
    have HWT0 := Lib.hid hwt
    have HW0 := Lib.hid hw
    have H2 := Lib.hid h2
    clear hv hb hwt hw h2
    go_wp2_with (at_lookup; refine mapD_look2 _ rfl _ _ 52 rfl 3 33 int_keyed' Try.underlying52 (plainElem Try.prog 33) (zeroU _) (ul 0) (u64_mk (by decide)) b m D rfl H8.out (.int .i64 (f : Int)) (fl (f : Int)) rfl (keyOf_int HFW.out) (.int .u64 0) HV.out false HB.out ?_)
    have h3 := H2.out
    have hwt := HWT0.out
    have hno := HW0.out
    clear H2 H8 HWT0 HW0 HV HB
    -- h3 : DO p 12 q E (MW b m D :: [Old w]) _ ; hwt : Wt D E ; hno : who E f = none
    have hei := h3.ei
    have hri := h3.rise
    have hlk := look_fresh hei at'
    obtain ⟨E2, hE2⟩ : ∃ E2, E2 = ins E (at', (q : Int)) (f : Int) := ⟨_, rfl⟩
    have hw2 : who E2 (f : Int) = some (at', (q : Int)) := by rw [hE2, who_ins hei.df hlk hno, if_pos rfl]
    have hdel : del E2 (at', (q : Int)) = E := by rw [hE2]; exact (rising_ins hri.1 _ _ hlk).2.2.2.2
    have HDEL := Lib.hid hdel
    have HW2 := Lib.hid hw2
    have HE2 := Lib.hid hE2
    have HWT := Lib.hid hwt
    have HNO := Lib.hid hno
    have HDR := Lib.hid (own_drop_no h3 (f : Int) HFW.out hno)
    have HRM := Lib.hid (room_left hei (f := (f : Int)) (by omega) (by omega) hno)
    clear h3 hei hri hlk hw2 hE2 hdel hwt hno
    go_wp2_with fail
    refine (HDR.out).mono ?_
    rintro e w4 ⟨rfl, h4⟩
    have HPUT := Lib.hid (own_put_ok h4 (f : Int) at' HFW.out (by omega) (by omega) HA0.out.1 HA0.out.2 HNO.out (by omega) HRM.out)
    clear h4 HDR
    go_wp2_with fail
    refine (HPUT.out).mono ?_
    rintro e w5 ⟨rfl, h5⟩
    rw [← HE2.out] at h5
    have hat := own_at h5 (f : Int) HFW.out
    rw [HW2.out] at hat
    have HAT := Lib.hid hat
    clear hat h5 HPUT
    go_wp2_with fail
    refine (HAT.out).mono ?_
    rintro e w6 ⟨rfl, h6⟩
    have HDY := Lib.hid (own_drop_yes h6 (f : Int) HFW.out (at', (q : Int)) HW2.out)
    clear h6 HAT
    go_wp2_with fail
    refine (HDY.out).mono ?_
    rintro e w7 ⟨rfl, h7⟩
    rw [HDEL.out] at h7
    obtain ⟨L, hL⟩ : ∃ L, L = E.length := ⟨_, rfl⟩
    have hlen := own_len h7
    rw [← hL] at hlen
    have hsz := HWT.out.size
    rw [← hL] at hsz
    have HLEN := Lib.hid hlen
    have HSZ := Lib.hid hsz
    obtain ⟨Z, h8, -⟩ := h7.open
    have H8 := Lib.hid h8
    have H7 := Lib.hid h7
    clear h7 h8 hlen hsz hL HDY
    go_wp2_with fail
    refine (HLEN.out).mono ?_
    rintro e w8 ⟨rfl, rfl⟩
    clear HLEN
    go_wp2_with (at_len; refine wpList_guarded (by rfl) ?_; refine mapD_len _ rfl _ 52 rfl 3 33 Try.underlying52 (plainElem Try.prog 33) b m D rfl H8.out ?_; rw [HSZ.out])
    go_loopw [81] (fun vi wr => ∃ k : Nat, vi = .int .i64 (k : Int) ∧ k ≤ 12 ∧ DO p 12 (q + 1) E (MW b m D :: [Old w]) wr) (fun vi _ => 12 - (intOf vi).toNat)
    case atStart => exact ⟨0, rfl, Nat.zero_le _, H7.out⟩
    case round =>
      clear H7 H8 HSZ
      obtain ⟨k, rfl, hk, h⟩ := hrel
      by_cases hlt : k < 12
      · have hltI : (k : Int) < 12 := by omega
        have hat := own_at h (k : Int) (i64_wf12 (by omega))
        have HK := Lib.hid (i64_wf12 (k := k) (by omega))
        obtain ⟨a, ha⟩ : ∃ a, a = ((who E (k : Int)).getD (0, 0)).1 := ⟨_, rfl⟩
        obtain ⟨B, hB⟩ : ∃ B, B = (who E (k : Int)).isSome := ⟨_, rfl⟩
        rw [← ha, ← hB] at hat
        have hv := u64_at (HWT.out.val (k : Int))
        rw [← ha] at hv
        have HV := Lib.hid hv
        have HBB := Lib.hid ((HWT.out.has (k : Int)).trans hB.symm)
        have HAT := Lib.hid hat
        obtain ⟨Z, h8, -⟩ := h.open
        have H8 := Lib.hid h8
        clear h h8 hat hv ha hB
        go_wp2_with (at_lookup; refine mapD_look2 _ rfl _ _ 52 rfl 3 33 int_keyed' Try.underlying52 (plainElem Try.prog 33) (zeroU _) (ul 0) (u64_mk (by decide)) b m D rfl H8.out (.int .i64 (k : Int)) (fl (k : Int)) rfl (keyOf_int HK.out) (.int .u64 a) HV.out B HBB.out ?_)
        refine (HAT.out).mono ?_
        rintro e w9 ⟨rfl, h9⟩
        have HX : Hid (∃ k2 : Nat, (.int .i64 ((k : Int) + 1) : Value) = .int .i64 (k2 : Int) ∧ k2 ≤ 12 ∧ DO p 12 (q + 1) E (MW b m D :: [Old w]) w9) := Lib.hid ⟨k + 1, by go_num, by omega, h9⟩
        have aa : (a != a) = false := by simp
        have bb : (B != B) = false := by simp
        clear h9 HAT
        go_wp2_with fail
        exact ⟨HX.out, by simp [intOf]; omega⟩
      · obtain rfl : k = 12 := by omega
        have H := Lib.hid (show Own [Old w] wr from h.rest.drop)
        clear h hlt hk
        go_wp2_with fail
        refine (awake_any H.out).mono ?_
        rintro e w10 ⟨rfl, h10⟩
        have H10 := Lib.hid h10
        clear h10 H
        go_wp2_with fail
        go_ret
        exact ⟨rfl, H10.out.ext (by simp)⟩
  | some kq =>
    as_aux_lemma =>
    have hv := u64_at (hwt.val (f : Int))
    have hb := hwt.has (f : Int)
    rw [hw] at hv hb
    have HV := Lib.hid hv
    have HB := Lib.hid hb
    have hei := h2.ei
    have hri := h2.rise.1
    have HWT0 := Lib.hid (hwt.del hei.df hri hw)
    have hmem := (who_iff hei.df).1 hw
    have HW0 : Hid (who (del E kq) (f : Int) = none) := Lib.hid (by rw [who_out hei.df (E' := Tr.del E kq) List.filter_sublist (mem_del hei.df hri hmem), if_pos rfl])
    have HDR0 := Lib.hid (own_drop_yes h2 (f : Int) HFW.out kq hw)
    clear hv hb hwt hw h2 hei hri hmem
    go_wp2_with (at_lookup; refine mapD_look2 _ rfl _ _ 52 rfl 3 33 int_keyed' Try.underlying52 (plainElem Try.prog 33) (zeroU _) (ul 0) (u64_mk (by decide)) b m D rfl H8.out (.int .i64 (f : Int)) (fl (f : Int)) rfl (keyOf_int HFW.out) (.int .u64 kq.1) HV.out true HB.out ?_)
    refine (HDR0.out).mono ?_
    rintro e w3 ⟨rfl, h3⟩
    obtain ⟨Z3, h9, hback⟩ := h3.open
    have H9 := Lib.hid h9
    have HBK := Lib.hid hback
    clear h3 h9 hback H8 HV HB HDR0
    go_upto_region 11 with (at_delete; refine mapD_del _ rfl _ _ 52 3 rfl 33 int_keyed' Try.underlying52 (plainElem Try.prog 33) b m D rfl H9.out (.int .i64 (f : Int)) (fl (f : Int)) rfl (keyOf_int HFW.out) ?_)
    intro w3' h10
    have h3 := HBK.out _ _ h10
    have hwt := HWT0.out
    have hno := HW0.out
    obtain ⟨D1, hD1⟩ : ∃ D1, D1 = D.del (fl (f : Int)) := ⟨_, rfl⟩
    obtain ⟨E1, hE1⟩ : ∃ E1, E1 = del E kq := ⟨_, rfl⟩
    rw [← hD1] at h3 hwt
    rw [← hE1] at h3 hwt hno
    clear h10 H9 HBK HWT0 HW0 hD1 hE1
    -- h3 : DO p 12 q E1 (MW b m D1 :: [Old w]) _ ; hwt : Wt D1 E1 ; hno : who E1 f = none
    have hei := h3.ei
    have hri := h3.rise
    have hlk := look_fresh hei at'
    obtain ⟨E2, hE2⟩ : ∃ E2, E2 = ins E1 (at', (q : Int)) (f : Int) := ⟨_, rfl⟩
    have hw2 : who E2 (f : Int) = some (at', (q : Int)) := by rw [hE2, who_ins hei.df hlk hno, if_pos rfl]
    have hdel : del E2 (at', (q : Int)) = E1 := by rw [hE2]; exact (rising_ins hri.1 _ _ hlk).2.2.2.2
    have HDEL := Lib.hid hdel
    have HW2 := Lib.hid hw2
    have HE2 := Lib.hid hE2
    have HWT := Lib.hid hwt
    have HNO := Lib.hid hno
    have HDR := Lib.hid (own_drop_no h3 (f : Int) HFW.out hno)
    have HRM := Lib.hid (room_left hei (f := (f : Int)) (by omega) (by omega) hno)
    clear h3 hei hri hlk hw2 hE2 hdel hwt hno
    go_wp2_with fail
    refine (HDR.out).mono ?_
    rintro e w4 ⟨rfl, h4⟩
    have HPUT := Lib.hid (own_put_ok h4 (f : Int) at' HFW.out (by omega) (by omega) HA0.out.1 HA0.out.2 HNO.out (by omega) HRM.out)
    clear h4 HDR
    go_wp2_with fail
    refine (HPUT.out).mono ?_
    rintro e w5 ⟨rfl, h5⟩
    rw [← HE2.out] at h5
    have hat := own_at h5 (f : Int) HFW.out
    rw [HW2.out] at hat
    have HAT := Lib.hid hat
    clear hat h5 HPUT
    go_wp2_with fail
    refine (HAT.out).mono ?_
    rintro e w6 ⟨rfl, h6⟩
    have HDY := Lib.hid (own_drop_yes h6 (f : Int) HFW.out (at', (q : Int)) HW2.out)
    clear h6 HAT
    go_wp2_with fail
    refine (HDY.out).mono ?_
    rintro e w7 ⟨rfl, h7⟩
    rw [HDEL.out] at h7
    obtain ⟨L, hL⟩ : ∃ L, L = E1.length := ⟨_, rfl⟩
    have hlen := own_len h7
    rw [← hL] at hlen
    have hsz := HWT.out.size
    rw [← hL] at hsz
    have HLEN := Lib.hid hlen
    have HSZ := Lib.hid hsz
    obtain ⟨Z, h8, -⟩ := h7.open
    have H8 := Lib.hid h8
    have H7 := Lib.hid h7
    clear h7 h8 hlen hsz hL HDY
    go_wp2_with fail
    refine (HLEN.out).mono ?_
    rintro e w8 ⟨rfl, rfl⟩
    clear HLEN
    go_wp2_with (at_len; refine wpList_guarded (by rfl) ?_; refine mapD_len _ rfl _ 52 rfl 3 33 Try.underlying52 (plainElem Try.prog 33) b m D1 rfl H8.out ?_; rw [HSZ.out])
    go_loopw [81] (fun vi wr => ∃ k : Nat, vi = .int .i64 (k : Int) ∧ k ≤ 12 ∧ DO p 12 (q + 1) E1 (MW b m D1 :: [Old w]) wr) (fun vi _ => 12 - (intOf vi).toNat)
    case atStart => exact ⟨0, rfl, Nat.zero_le _, H7.out⟩
    case round =>
      clear H7 H8 HSZ
      obtain ⟨k, rfl, hk, h⟩ := hrel
      by_cases hlt : k < 12
      · have hltI : (k : Int) < 12 := by omega
        have hat := own_at h (k : Int) (i64_wf12 (by omega))
        have HK := Lib.hid (i64_wf12 (k := k) (by omega))
        obtain ⟨a, ha⟩ : ∃ a, a = ((who E1 (k : Int)).getD (0, 0)).1 := ⟨_, rfl⟩
        obtain ⟨B, hB⟩ : ∃ B, B = (who E1 (k : Int)).isSome := ⟨_, rfl⟩
        rw [← ha, ← hB] at hat
        have hv := u64_at (HWT.out.val (k : Int))
        rw [← ha] at hv
        have HV := Lib.hid hv
        have HBB := Lib.hid ((HWT.out.has (k : Int)).trans hB.symm)
        have HAT := Lib.hid hat
        obtain ⟨Z, h8, -⟩ := h.open
        have H8 := Lib.hid h8
        clear h h8 hat hv ha hB
        go_wp2_with (at_lookup; refine mapD_look2 _ rfl _ _ 52 rfl 3 33 int_keyed' Try.underlying52 (plainElem Try.prog 33) (zeroU _) (ul 0) (u64_mk (by decide)) b m D1 rfl H8.out (.int .i64 (k : Int)) (fl (k : Int)) rfl (keyOf_int HK.out) (.int .u64 a) HV.out B HBB.out ?_)
        refine (HAT.out).mono ?_
        rintro e w9 ⟨rfl, h9⟩
        have HX : Hid (∃ k2 : Nat, (.int .i64 ((k : Int) + 1) : Value) = .int .i64 (k2 : Int) ∧ k2 ≤ 12 ∧ DO p 12 (q + 1) E1 (MW b m D1 :: [Old w]) w9) := Lib.hid ⟨k + 1, by go_num, by omega, h9⟩
        have aa : (a != a) = false := by simp
        have bb : (B != B) = false := by simp
        clear h9 HAT
        go_wp2_with fail
        exact ⟨HX.out, by simp [intOf]; omega⟩
      · obtain rfl : k = 12 := by omega
        have H := Lib.hid (show Own [Old w] wr from h.rest.drop)
        clear h hlt hk
        go_wp2_with fail
        refine (awake_any H.out).mono ?_
        rintro e w10 ⟨rfl, h10⟩
        have H10 := Lib.hid h10
        clear h10 H
        go_wp2_with fail
        go_ret
        exact ⟨rfl, H10.out.ext (by simp)⟩
end Go.Proofs.Ytlficiohenpghab.Dy
