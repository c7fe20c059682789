/- DERIVED. Layer 14 (table): the law TableGoes. -/
import Derived.Test.YtkdmlpigkmlkmaaTbO
set_option linter.unusedVariables false
set_option linter.unusedSimpArgs false
set_option maxRecDepth 100000
namespace Go.Proofs.Ytkdmlpigkmlkmaa.Tb
open Go.RowKit Go.Proofs.Ytkdmlpigkmlkmaa Go.Proofs.Ytkdmlpigkmlkmaa.TreeP Go.Proofs.Ytkdmlpigkmlkmaa.Tr Go.Proofs.Ytkdmlpigkmlkmaa.Bk

def GoI (w : World) (p n : Nat) (frm : Int) (vi : Value) (wr : World) : Prop :=
  ∃ (i : Nat) (S : T), vi = .int .i64 (i : Int) ∧ GoS n i frm S ∧ Own (Tbl p n 0 (9 * i) 10 S :: [Old w]) wr
set_option maxHeartbeats 8000000 in
theorem goes_main (flows which frm : Int) (f0 : 0 ≤ flows) (f1 : flows ≤ 255) (w0 : 0 ≤ which) (w1 : which ≤ 255) (r0 : 0 ≤ frm) (r1 : frm < 18446744073709551616) (w : World) :
    Calls Try.prog 3 #[.int .u8 flows, .int .u8 which, .int .u64 frm] w fun e w' => e = .returned (.bool true) ∧ Ext w w' := by
  obtain ⟨n, hn⟩ : ∃ n : Nat, 1 + flows % 40 = (n : Int) := ⟨(1 + flows % 40).toNat, by omega⟩
  have n1 : 1 ≤ n := by omega
  have n40 : n ≤ 40 := by omega
  have HN1 := Lib.hid n1
  have HN40 := Lib.hid n40
  have HNEW : Hid (Calls Try.prog 12 #[.int .i64 (n : Int), .int .i64 0, .int .u64 10] w fun e w' => ∃ p, e = .returned (.tuple #[.pointer (some ⟨p, 0, none⟩), .int .i64 0]) ∧ Own (Tbl p n 0 0 10 (freshT n) :: [Old w]) w') := Lib.hid (own_new n 0 10 n1 (by omega) (by omega) (by omega) (by omega) (Own.start w))
  go_enter Try.func3, Try.ntmps3
  go_wp2_with fail
  try rw [hn]
  (with_reducible refine (HNEW.out).mono ?_)
  rintro e w2 ⟨p, rfl, h2⟩
  have H2 := Lib.hid h2
  clear h2 HNEW hn f0 f1
  go_wp2_with fail
  go_loopw [33] (fun vi wr => GoI w p n frm vi wr) (fun vi _ => n - (intOf vi).toNat)
  case atStart => exact ⟨0, _, rfl, go_zero n frm, H2.out⟩
  case round =>
    clear H2
    obtain ⟨i, S, rfl, hg, h⟩ := hrel
    by_cases hlt : i < n
    · have hltI : (i : Int) < n := by omega
      obtain ⟨e1, e2, e3⟩ := go_step (own_ti h).1 hg hlt n40
      have HP := Lib.hid (pace_own h)
      have E1 := Lib.hid e1
      have E2 := Lib.hid e2
      have E3 := Lib.hid e3
      clear h hg e1 e2 e3
      go_wp2_with fail
      (with_reducible refine (HP.out).mono ?_)
      rintro e w3 ⟨rfl, h3⟩
      have HF := Lib.hid (own_find' (M := 9 * (i + 1)) h3 (by omega) (by omega) (by omega) E1.out (by omega))
      clear h3 HP
      go_wp2_with fail
      rw [IntKind.wrap_u64]
      (with_reducible refine (HF.out).mono ?_)
      rintro e w4 ⟨rfl, h4⟩
      have HR := Lib.hid (own_rest' (now := 100) h4 (by omega) (by omega) E2.out rfl)
      clear h4 HF
      go_wp2_with fail
      (with_reducible refine (HR.out).mono ?_)
      rintro e w5 ⟨rfl, h5⟩
      have HFIN : Hid (GoI w p n frm (.int .i64 ((i : Int) + 1)) w5) := Lib.hid ⟨i + 1, _, by go_num, E3.out, h5⟩
      clear h5 HR
      go_wp2_with fail
      exact ⟨HFIN.out, by simp [intOf]; omega⟩
    · obtain rfl : i = n := by have := hg.hi; omega
      obtain ⟨e1, e2⟩ := go_full (own_ti h).1 hg n40
      have HP := Lib.hid (pace_own h)
      have E1 := Lib.hid e1
      have E2 := Lib.hid e2
      have HG := Lib.hid hg
      clear h hg e1 e2 hlt
      go_wp2_with fail
      (with_reducible refine (HP.out).mono ?_)
      rintro e w3 ⟨rfl, h3⟩
      have HF := Lib.hid (own_find' (M := 9 * i + 9) h3 (by omega) (by omega) (by omega) E1.out rfl)
      clear h3 HP
      go_wp2_with fail
      rw [IntKind.wrap_u64]
      (with_reducible refine (HF.out).mono ?_)
      rintro e w4 ⟨rfl, h4⟩
      have HL := Lib.hid (own_len h4)
      rw [E2.out] at HL
      have hself : ((i : Int) != (i : Int)) = false := by simp
      obtain ⟨k, hk⟩ : ∃ k : Nat, which % (i : Int) = (k : Int) := ⟨(which % (i : Int)).toNat, by have := Int.emod_nonneg which (show (i : Int) ≠ 0 by omega); omega⟩
      have hki : k < i := by have := Int.emod_lt_of_pos which (show (0 : Int) < i by omega); omega
      have HH4 := Lib.hid h4
      have HK := Lib.hid hk
      clear h4 HF hk
      have hnz : ((i : Int) == 0) = false := by simp; omega
      go_wp2_with (go_at_call 16; (with_reducible refine (HL.out).mono ?_); rintro e w5 ⟨rfl, rfl⟩)
      rw [HK.out]
      obtain ⟨a1, D, a2, a3, a4, a5, a6, a7, a8⟩ := go_drop (own_ti HH4.out).1 HG.out hki
      have HD1 := own_drop HH4.out (by omega) (k : Int)
      rw [a1, a2] at HD1
      have HD1 := Lib.hid HD1
      have A3 := Lib.hid a3
      have A4 := Lib.hid a4
      have A5 := Lib.hid a5
      have A6 := Lib.hid a6
      have A7 := Lib.hid a7
      have A8 := Lib.hid a8
      clear a1 a2 a3 a4 a5 a6 a7 a8 HL HH4
      go_wp2_with fail
      (with_reducible refine (HD1.out).mono ?_)
      rintro e w6 ⟨rfl, h6⟩
      have HD2 := own_drop h6 (by omega) (k : Int)
      rw [A3.out, A4.out] at HD2
      have HD2 := Lib.hid HD2
      clear h6 HD1
      go_wp2_with fail
      (with_reducible refine (HD2.out).mono ?_)
      rintro e w7 ⟨rfl, h7⟩
      have HL2 := own_len h7
      rw [show ((D.R.length : Nat) : Int) = (i : Int) - 1 by have := A5.out; omega] at HL2
      have HL2 := Lib.hid HL2
      have hself2 : (((i : Int) - 1) != ((i : Int) - 1)) = false := by simp
      have H7 := Lib.hid h7
      clear h7 HD2
      go_wp2_with fail
      (with_reducible refine (HL2.out).mono ?_)
      rintro e w8 ⟨rfl, rfl⟩
      have HP2 := Lib.hid (pace_own H7.out)
      clear HL2
      go_wp2_with fail
      (with_reducible refine (HP2.out).mono ?_)
      rintro e w9 ⟨rfl, h9⟩
      obtain ⟨E, b1, b2⟩ := go_again HG.out (own_ti H7.out).1 hki n40 A6.out A7.out A8.out
      have HF2 := Lib.hid (own_find' (M := 9 * i + 20) h9 (by omega) (by omega) (by omega) b1 (by omega))
      have B2 := Lib.hid b2
      have hselfk : ((k : Int) != (k : Int)) = false := by simp
      clear h9 HP2 b1 b2 H7
      go_wp2_with fail
      rw [IntKind.wrap_u64]
      (with_reducible refine (HF2.out).mono ?_)
      rintro e w10 ⟨rfl, h10⟩
      have HP3 := Lib.hid (pace_own h10)
      obtain ⟨S9, f9, kd9, er9, c1, c2, c3⟩ := go_last (own_ti h10).1 B2.out n40 hki
      have C1 := Lib.hid c1
      have C2 := Lib.hid c2
      have C3 := Lib.hid c3
      clear h10 HF2 c1 c2 c3
      go_wp2_with fail
      (with_reducible refine (HP3.out).mono ?_)
      rintro e w11 ⟨rfl, h11⟩
      have HF3 := own_find' (M := 9 * i + 29) h11 (by omega) (by omega) (by omega) C1.out (by omega)
      rw [show (frm + ((i + 1 : Nat) : Int)) % 18446744073709551616 = ((frm + (i : Int)) % 18446744073709551616 + 1) % 18446744073709551616 by omega] at HF3
      have HF3 := Lib.hid HF3
      clear h11 HP3
      go_wp2_with fail
      simp only [IntKind.wrap_u64]
      (with_reducible refine (HF3.out).mono ?_)
      rintro e w12 ⟨rfl, h12⟩
      by_cases hi1 : i = 1
      · subst hi1
        obtain rfl := C2.out rfl
        have HA := Lib.hid (awake_any h12)
        clear h12 HF3
        go_wp2_with fail
        (with_reducible refine (HA.out).mono ?_)
        rintro e w13 ⟨rfl, h13⟩
        have H13 := Lib.hid h13
        clear h13 HA
        go_wp2_with fail
        go_ret
        exact ⟨rfl, H13.out.ext (by simp)⟩
      · obtain ⟨rfl, rfl, d3⟩ := C3.out (by omega)
        have HL3 := own_len h12
        rw [d3] at HL3
        have hi1I : ((i : Int) == 1) = false := by simp; omega
        by_cases h8 : (i : Int) - 1 ≤ 8
        · rw [show ((i - min (i - 1) 8 + 1 : Nat) : Int) = ((i : Int) - ((i : Int) - 1)) + 1 by omega] at HL3
          have hee : ((((i : Int) - ((i : Int) - 1)) + 1 : Int) == ((i : Int) - ((i : Int) - 1)) + 1) = true := by simp
          have HL3 := Lib.hid HL3
          have HA := Lib.hid (awake_any h12)
          clear h12 HF3 d3
          go_wp2_with fail
          (with_reducible refine (HL3.out).mono ?_)
          rintro e w13 ⟨rfl, rfl⟩
          clear HL3
          go_wp2_with fail
          (with_reducible refine (HA.out).mono ?_)
          rintro e w14 ⟨rfl, h14⟩
          have H14 := Lib.hid h14
          clear h14 HA
          go_wp2_with fail
          go_ret
          exact ⟨rfl, H14.out.ext (by simp)⟩
        · rw [show ((i - min (i - 1) 8 + 1 : Nat) : Int) = ((i : Int) - 8) + 1 by omega] at HL3
          have hee : ((((i : Int) - 8) + 1 : Int) == ((i : Int) - 8) + 1) = true := by simp
          have HL3 := Lib.hid HL3
          have HA := Lib.hid (awake_any h12)
          clear h12 HF3 d3
          go_wp2_with fail
          (with_reducible refine (HL3.out).mono ?_)
          rintro e w13 ⟨rfl, rfl⟩
          clear HL3
          go_wp2_with fail
          (with_reducible refine (HA.out).mono ?_)
          rintro e w14 ⟨rfl, h14⟩
          have H14 := Lib.hid h14
          clear h14 HA
          go_wp2_with fail
          go_ret
          exact ⟨rfl, H14.out.ext (by simp)⟩
theorem goes_row (flows which frm : Int) (wf : (Lit.int .u8 flows).wf = true) (ww : (Lit.int .u8 which).wf = true) (wr : (Lit.int .u64 frm).wf = true) (w : World) :
    Calls Try.prog 3 #[.int .u8 flows, .int .u8 which, .int .u64 frm] w fun e w' => e = .returned (.bool true) ∧ Ext w w' :=
  goes_main flows which frm (u8_bd wf).1 (u8_bd wf).2 (u8_bd ww).1 (u8_bd ww).2 (u64_bd wr).1 (by have := u64_bd wr; omega) w
end Go.Proofs.Ytkdmlpigkmlkmaa.Tb
