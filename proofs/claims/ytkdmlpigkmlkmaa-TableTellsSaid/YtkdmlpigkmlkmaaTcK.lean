/- DERIVED. Layer 14 (table): the law TableTells, of any numbers. -/
import Derived.Test.YtkdmlpigkmlkmaaTcJ
set_option linter.unusedVariables false
set_option linter.unusedSimpArgs false
set_option maxRecDepth 100000
namespace Go.Proofs.Ytkdmlpigkmlkmaa.Tb
open Go.RowKit Go.Proofs.Ytkdmlpigkmlkmaa Go.Proofs.Ytkdmlpigkmlkmaa.TreeP Go.Proofs.Ytkdmlpigkmlkmaa.Tr Go.Proofs.Ytkdmlpigkmlkmaa.Bk

set_option maxHeartbeats 2000000 in
theorem tells_any (flows bits keep : Int) (k0 : 0 ≤ keep) (k1 : keep ≤ 18446744073709551615) (v : Value) (m : Nat) (f : Nat → TOp) (w : World) (ho : Ops w v m f) :
    Calls Try.prog 8 #[.int .i64 flows, .int .i64 bits, .int .u64 keep, v] w fun e w' => e = .returned (.bool true) ∧ Ext w w' := by
  by_cases hb : flows < 1 ∨ 4096 < flows ∨ bits < 0 ∨ 10 < bits
  · have HN := Lib.hid (new_bad flows bits keep hb w)
    have HN2 := Lib.hid (rnew_no flows bits keep hb (Own.start w))
    obtain ⟨hs, a, cap, rfl, q1, q2, q3⟩ := ho
    clear q3 q1 q2 hs hb
    go_enter Try.func8, Try.ntmps8
    go_wp2_with fail
    (with_reducible refine (HN.out).mono ?_)
    rintro e w1 ⟨rfl, rfl⟩
    go_wp2_with fail
    (with_reducible refine (HN2.out).mono ?_)
    rintro e w2 ⟨rfl, h2⟩
    have H9 := Lib.hid (h2.step ((Ext.refl w2).alloc (.cells #[.int .i64 flows, .int .i64 bits, .int .u64 keep, nilv, nilv, .int .i64 0] 64)))
    clear h2 HN HN2
    go_wp2_with fail
    (with_reducible refine (awake_any H9.out).mono ?_)
    rintro e w8 ⟨rfl, h8⟩
    have H8 := Lib.hid h8
    clear h8 H9
    go_wp2_with fail
    go_ret
    exact ⟨rfl, H8.out.ext (by simp)⟩
  · obtain ⟨n, rfl⟩ := Int.eq_ofNat_of_zero_le (show 0 ≤ flows by omega)
    obtain ⟨B, rfl⟩ := Int.eq_ofNat_of_zero_le (show 0 ≤ bits by omega)
    by_cases hbig : 20 < n ∨ 60 < m
    · have HN := Lib.hid (own_new n B keep (by omega) (by omega) (by omega) k0 k1 (Own.start w))
      have HN2 := Lib.hid (fun p (w1 : World) (h1 : Own [Tbl p n B 0 keep (freshT n), Old w] w1) => rnew_ok n B keep (by omega) (by omega) (by omega) h1)
      obtain ⟨hs, a, cap, rfl, q1, q2, q3⟩ := ho
      clear q3 hs q1 q2
      by_cases h1 : 20 < n
      · have g3 : (20 : Int) < (n : Int) := by omega
        clear hbig hb h1
        go_enter Try.func8, Try.ntmps8
        go_wp2_with fail
        (with_reducible refine (HN.out).mono ?_)
        rintro e w1 ⟨p, rfl, h1⟩
        have H1 := Lib.hid h1
        clear h1
        go_wp2_with fail
        (with_reducible refine (HN2.out _ _ H1.out).mono ?_)
        rintro e w2 ⟨rfl, h2⟩
        have H9 := Lib.hid (h2.step ((Ext.refl w2).alloc (.cells #[.int .i64 (n : Int), .int .i64 (B : Int), .int .u64 keep, nilv, nilv, .int .i64 0] 64)))
        clear h2 HN HN2 H1
        go_wp2_with fail
        (with_reducible refine (awake_any H9.out).mono ?_)
        rintro e w8 ⟨rfl, h8⟩
        have H8 := Lib.hid h8
        clear h8 H9
        go_wp2_with fail
        go_ret
        exact ⟨rfl, H8.out.ext (by simp)⟩
      · have g3 : (n : Int) ≤ 20 := by omega
        have g4 : (60 : Int) < (m : Int) := by omega
        clear hbig hb h1
        go_enter Try.func8, Try.ntmps8
        go_wp2_with fail
        (with_reducible refine (HN.out).mono ?_)
        rintro e w1 ⟨p, rfl, h1⟩
        have H1 := Lib.hid h1
        clear h1
        go_wp2_with fail
        (with_reducible refine (HN2.out _ _ H1.out).mono ?_)
        rintro e w2 ⟨rfl, h2⟩
        have H9 := Lib.hid (h2.step ((Ext.refl w2).alloc (.cells #[.int .i64 (n : Int), .int .i64 (B : Int), .int .u64 keep, nilv, nilv, .int .i64 0] 64)))
        clear h2 HN HN2 H1
        go_wp2_with fail
        (with_reducible refine (awake_any H9.out).mono ?_)
        rintro e w8 ⟨rfl, h8⟩
        have H8 := Lib.hid h8
        clear h8 H9
        go_wp2_with fail
        go_ret
        exact ⟨rfl, H8.out.ext (by simp)⟩
    · exact tells_main n B keep v m f w ho (by omega) (by omega) (by omega) k0 k1 (by omega)
theorem tells_row (flows bits keep : Int) (v : Value) (x : Nat × (Nat → TOp)) (wf0 : (Lit.int .i64 flows).wf = true) (wf1 : (Lit.int .i64 bits).wf = true) (wf2 : (Lit.int .u64 keep).wf = true) (w : World) (ho : Ops2 w v x) :
    Calls Try.prog 8 #[.int .i64 flows, .int .i64 bits, .int .u64 keep, v] w fun e w' => e = .returned (.bool true) ∧ Ext w w' :=
  tells_any flows bits keep (u64_bd wf2).1 (u64_bd wf2).2 v x.1 x.2 w ho
end Go.Proofs.Ytkdmlpigkmlkmaa.Tb
