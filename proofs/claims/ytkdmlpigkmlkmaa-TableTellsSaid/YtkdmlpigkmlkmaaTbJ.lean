/- DERIVED. Layer 14 (table): the chapter's examples. Written by wip/mktbj.py. -/
import Derived.Test.YtkdmlpigkmlkmaaTbZ
set_option linter.unusedVariables false
set_option linter.unusedSimpArgs false
set_option maxRecDepth 100000
namespace Go.Proofs.Ytkdmlpigkmlkmaa.Tb
open Go.RowKit Go.Proofs.Ytkdmlpigkmlkmaa Go.Proofs.Ytkdmlpigkmlkmaa.TreeP Go.Proofs.Ytkdmlpigkmlkmaa.Tr Go.Proofs.Ytkdmlpigkmlkmaa.Bk

abbrev pace : Value := .agg #[.int .i64 100, .int .i64 300, .int .u64 0, .int .u64 0, .int .u64 0]
theorem pace_any (w : World) : Calls Try.prog 14 #[] w fun e w' => e = .returned pace ∧ Ext w w' := by
  go_enter Try.func14, Try.ntmps14
  go_wp2_with fail
  exact bodyPost_ret (v := pace) (by simp [results, Try.results14, go_sem]) rfl ⟨rfl, (Ext.refl w).alloc _⟩
theorem pace_own {l : List HP} {w : World} (h : Own l w) : Calls Try.prog 14 #[] w fun e w' => e = .returned pace ∧ Own l w' := (pace_any w).mono fun e w2 ⟨he, hx⟩ => ⟨he, h.step hx⟩
section
variable {p n bits N : Nat} {keep : Int} {S : T} {l : List HP} {w : World}
theorem own_find' {S' : T} {f kd er sock cookie now : Int} {M : Nat} (h : Own (Tbl p n bits N keep S :: l) w) (hN : N ≤ 40000) (s0 : 0 ≤ sock) (s1 : sock < 18446744073709551616) (hF : findT n bits keep sock cookie now 300 S = ⟨S', f, kd, er⟩) (hM : N + 9 = M) :
    Calls Try.prog 13 #[.pointer (some ⟨p, 0, none⟩), .int .u64 sock, .int .u64 cookie, .int .u64 now, pace] w fun e w' => e = .returned (.tuple #[.int .i64 f, .int .u8 kd, .int .i64 er]) ∧ Own (Tbl p n bits M keep S' :: l) w' := by
  have := own_find h hN sock cookie now 100 300 0 0 0 s0 s1
  rw [hF, hM] at this
  exact this
theorem own_rest' {S' : T} {f now x : Int} (h : Own (Tbl p n bits N keep S :: l) w) (h0 : 0 ≤ now) (h9 : now < 18446744073709551616) (hx : doneE S f = x) (hS : onT S f (rest now) = S') :
    Calls Try.prog 15 #[.pointer (some ⟨p, 0, none⟩), .int .i64 f, .int .u64 now] w fun e w' => e = .returned (.int .i64 x) ∧ Own (Tbl p n bits N keep S' :: l) w' := by
  have := own_rest h f now h0 h9
  rw [hx, hS] at this
  exact this
end
def fl (s c ag : Int) : FD := ⟨s, c, 0, 300, 0, 0, ag⟩
def Y1 : T := ⟨[some ⟨fl 9 1 0, 1, false⟩, none], ⟨[1], [], 2, 1⟩, [((9, 0), 0)]⟩
def Y2 : T := ⟨[some ⟨fl 9 2 0, 1, false⟩, none], ⟨[1], [], 2, 1⟩, [((9, 0), 0)]⟩
def Y3 : T := ⟨[some ⟨fl 9 2 0, 1, false⟩, some ⟨fl 8 1 0, 2, false⟩], ⟨[1, 1], [], 2, 2⟩, [((8, 0), 1), ((9, 0), 0)]⟩
def Y4 : T := ⟨[some ⟨fl 9 2 10, 1, true⟩, some ⟨fl 8 1 0, 2, false⟩], ⟨[1, 1], [], 2, 2⟩, [((8, 0), 1), ((9, 0), 0)]⟩
def Y5 : T := ⟨[some ⟨fl 7 1 0, 4294967297, false⟩, some ⟨fl 8 1 0, 2, false⟩], ⟨[3, 1], [], 2, 2⟩, [((7, 0), 0), ((8, 0), 1)]⟩
theorem e1 : findT 2 0 5 9 1 0 300 (freshT 2) = ⟨Y1, 0, 1, 0⟩ := by kernel_rfl
theorem e2 : findT 2 0 5 9 1 0 300 Y1 = ⟨Y1, 0, 0, 0⟩ := by kernel_rfl
theorem e3 : findT 2 0 5 9 2 0 300 Y1 = ⟨Y2, 0, 2, 0⟩ := by kernel_rfl
theorem e4 : findT 2 0 5 8 1 0 300 Y2 = ⟨Y3, 1, 1, 0⟩ := by kernel_rfl
theorem e5 : findT 2 0 5 7 1 0 300 Y3 = ⟨Y3, 0, 0, 140⟩ := by kernel_rfl
theorem e6 : onT Y3 0 (rest 10) = Y4 := by kernel_rfl
theorem e7 : findT 2 0 5 7 1 15 300 Y4 = ⟨Y4, 0, 0, 140⟩ := by kernel_rfl
theorem e8 : findT 2 0 5 7 1 16 300 Y4 = ⟨Y5, 0, 1, 0⟩ := by kernel_rfl
set_option maxHeartbeats 1000000 in
theorem awake_any {l : List HP} {w : World} (h : Own l w) : Calls Try.prog 18 #[] w fun e w' => e = .returned (.bool true) ∧ Own l w' := by
  have H : Hid (Calls Try.prog 12 #[.int .i64 2, .int .i64 0, .int .u64 5] w fun e w' => ∃ p, e = .returned (.tuple #[.pointer (some ⟨p, 0, none⟩), .int .i64 0]) ∧ Own (Tbl p 2 0 0 5 (freshT 2) :: l) w') := Lib.hid (own_new 2 0 5 (by omega) (by omega) (by omega) (by omega) (by omega) h)
  clear h
  go_enter Try.func18, Try.ntmps18
  go_wp2_with fail
  (with_reducible refine (H.out).mono ?_)
  rintro e w1 ⟨p, rfl, h1⟩
  have H1 := Lib.hid h1
  clear h1 H
  have HP1 := Lib.hid (pace_own H1.out)
  clear H1
  go_wp2_with fail
  (with_reducible refine (HP1.out).mono ?_)
  rintro e w2 ⟨rfl, h2⟩
  have HF2 := Lib.hid (own_find' (M := 9) h2 (by omega) (by omega) (by omega) e1 rfl)
  clear h2 HP1
  go_wp2_with fail
  (with_reducible refine (HF2.out).mono ?_)
  rintro e w3 ⟨rfl, h3⟩
  have H3 := Lib.hid h3
  clear h3 HF2
  have HP3 := Lib.hid (pace_own H3.out)
  clear H3
  go_wp2_with fail
  (with_reducible refine (HP3.out).mono ?_)
  rintro e w4 ⟨rfl, h4⟩
  have HF4 := Lib.hid (own_find' (M := 18) h4 (by omega) (by omega) (by omega) e2 rfl)
  clear h4 HP3
  go_wp2_with fail
  (with_reducible refine (HF4.out).mono ?_)
  rintro e w5 ⟨rfl, h5⟩
  have H5 := Lib.hid h5
  clear h5 HF4
  have HP5 := Lib.hid (pace_own H5.out)
  clear H5
  go_wp2_with fail
  (with_reducible refine (HP5.out).mono ?_)
  rintro e w6 ⟨rfl, h6⟩
  have HF6 := Lib.hid (own_find' (M := 27) h6 (by omega) (by omega) (by omega) e3 rfl)
  clear h6 HP5
  go_wp2_with fail
  (with_reducible refine (HF6.out).mono ?_)
  rintro e w7 ⟨rfl, h7⟩
  have H7 := Lib.hid h7
  clear h7 HF6
  have HP7 := Lib.hid (pace_own H7.out)
  clear H7
  go_wp2_with fail
  (with_reducible refine (HP7.out).mono ?_)
  rintro e w8 ⟨rfl, h8⟩
  have HF8 := Lib.hid (own_find' (M := 36) h8 (by omega) (by omega) (by omega) e4 rfl)
  clear h8 HP7
  go_wp2_with fail
  (with_reducible refine (HF8.out).mono ?_)
  rintro e w9 ⟨rfl, h9⟩
  have H9 := Lib.hid h9
  clear h9 HF8
  have HP9 := Lib.hid (pace_own H9.out)
  clear H9
  go_wp2_with fail
  (with_reducible refine (HP9.out).mono ?_)
  rintro e w10 ⟨rfl, h10⟩
  have HF10 := Lib.hid (own_find' (M := 45) h10 (by omega) (by omega) (by omega) e5 rfl)
  clear h10 HP9
  go_wp2_with fail
  (with_reducible refine (HF10.out).mono ?_)
  rintro e w11 ⟨rfl, h11⟩
  have H11 := Lib.hid h11
  clear h11 HF10
  have HF11 := Lib.hid (own_rest' (x := 0) H11.out (by omega) (by omega) (by kernel_rfl) e6)
  clear H11
  go_wp2_with fail
  (with_reducible refine (HF11.out).mono ?_)
  rintro e w12 ⟨rfl, h12⟩
  have H12 := Lib.hid h12
  clear h12 HF11
  have HP12 := Lib.hid (pace_own H12.out)
  clear H12
  go_wp2_with fail
  (with_reducible refine (HP12.out).mono ?_)
  rintro e w13 ⟨rfl, h13⟩
  have HF13 := Lib.hid (own_find' (M := 54) h13 (by omega) (by omega) (by omega) e7 rfl)
  clear h13 HP12
  go_wp2_with fail
  (with_reducible refine (HF13.out).mono ?_)
  rintro e w14 ⟨rfl, h14⟩
  have H14 := Lib.hid h14
  clear h14 HF13
  have HP14 := Lib.hid (pace_own H14.out)
  clear H14
  go_wp2_with fail
  (with_reducible refine (HP14.out).mono ?_)
  rintro e w15 ⟨rfl, h15⟩
  have HF15 := Lib.hid (own_find' (M := 63) h15 (by omega) (by omega) (by omega) e8 rfl)
  clear h15 HP14
  go_wp2_with fail
  (with_reducible refine (HF15.out).mono ?_)
  rintro e w16 ⟨rfl, h16⟩
  have H16 := Lib.hid h16
  clear h16 HF15
  have HB := Lib.hid fun w' => new_bad 0 0 5 (by omega) w'
  go_wp2_with fail
  (with_reducible refine (HB.out _).mono ?_)
  rintro e w17 ⟨rfl, rfl⟩
  go_wp2_with fail
  go_ret
  exact ⟨rfl, H16.out.drop⟩
end Go.Proofs.Ytkdmlpigkmlkmaa.Tb
