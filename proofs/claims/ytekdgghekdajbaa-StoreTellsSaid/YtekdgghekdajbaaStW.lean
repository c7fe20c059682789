/- DERIVED. Layer 10 (store): the law StoreTells, of any room. -/
import Derived.Test.YtekdgghekdajbaaStV
set_option linter.unusedVariables false
set_option linter.unusedSimpArgs false
set_option maxRecDepth 100000
namespace Go.Proofs.Ytekdgghekdajbaa.St
open Go.RowKit Go.Proofs.Ytekdgghekdajbaa Go.Proofs.Ytekdgghekdajbaa.Ar
set_option maxHeartbeats 2000000 in
theorem stells_any (room : Int) (v : Value) (m : Nat) (f : Nat → SOp) (w : World) (ho : Ops w v m f) :
    Calls Try.prog 9 #[.int .i64 room, v] w fun e w' => e = .returned (.bool true) ∧ Ext w w' := by
  by_cases hb : room < 1 ∨ 65536 < room
  · have HN := Lib.hid (snew_not room hb w)
    have HN2 := Lib.hid (rsnew_any room (Own.start w))
    rw [show (decide (1 ≤ room ∧ room ≤ 65536)) = false from decide_eq_false (by omega)] at HN2
    obtain ⟨hs, a, cap, rfl, q1, q2, q3⟩ := ho
    clear q3 q1 q2 hs hb
    go_enter Try.func9, Try.ntmps9
    go_wp2_with fail
    (with_reducible refine (HN.out).mono ?_)
    rintro e w1 ⟨rfl, rfl⟩
    go_wp2_with fail
    (with_reducible refine (HN2.out).mono ?_)
    rintro e w2 ⟨rfl, h2⟩
    have H9 := Lib.hid (h2.step ((Ext.refl w2).alloc (.cells #[nilv, nilv, nilv, .int .i64 room, nilv, .int .u64 1] 79)))
    clear h2 HN HN2
    go_wp2_with fail
    (with_reducible refine (awake_any H9.out).mono ?_)
    rintro e w8 ⟨rfl, h8⟩
    have H8 := Lib.hid h8
    clear h8 H9
    go_wp2_with fail
    go_ret
    exact ⟨rfl, H8.out.ext (by simp)⟩
  · obtain ⟨r, rfl⟩ := Int.eq_ofNat_of_zero_le (show 0 ≤ room by omega)
    by_cases hbig : 40 < r ∨ 60 < m
    · have HN := Lib.hid (ste_new r (by omega) (by omega) (Own.start w))
      have HN2 : Hid (∀ l W, Own l W → Calls Try.prog 35 #[.int .i64 (r : Int)] W fun e w' => e = .returned (.tuple #[.agg #[nilv, nilv, nilv, .int .i64 (r : Int), nilv, .int .u64 1], .bool true]) ∧ Own l w') := Lib.hid fun l W h => by
        have := rsnew_any (r : Int) h
        rw [show (decide (1 ≤ (r : Int) ∧ (r : Int) ≤ 65536)) = true from decide_eq_true (by omega)] at this
        exact this
      obtain ⟨hs, a, cap, rfl, q1, q2, q3⟩ := ho
      clear q3 hs q1 q2
      by_cases h1 : 40 < r
      · have g3 : (40 : Int) < (r : Int) := by omega
        clear hbig hb h1
        go_enter Try.func9, Try.ntmps9
        go_wp2_with fail
        (with_reducible refine (HN.out).mono ?_)
        rintro e w1 ⟨p, rfl, h1⟩
        have H1 := Lib.hid (sto_shut h1)
        clear h1
        go_wp2_with fail
        (with_reducible refine (HN2.out _ _ H1.out).mono ?_)
        rintro e w2 ⟨rfl, h2⟩
        have H9 := Lib.hid (h2.step ((Ext.refl w2).alloc (.cells #[nilv, nilv, nilv, .int .i64 (r : Int), nilv, .int .u64 1] 79)))
        clear h2 HN HN2 H1
        go_wp2_with fail
        (with_reducible refine (awake_any H9.out).mono ?_)
        rintro e w8 ⟨rfl, h8⟩
        have H8 := Lib.hid h8
        clear h8 H9
        go_wp2_with fail
        go_ret
        exact ⟨rfl, H8.out.ext (by simp)⟩
      · have g3 : (r : Int) ≤ 40 := by omega
        have g4 : (60 : Int) < (m : Int) := by omega
        clear hbig hb h1
        go_enter Try.func9, Try.ntmps9
        go_wp2_with fail
        (with_reducible refine (HN.out).mono ?_)
        rintro e w1 ⟨p, rfl, h1⟩
        have H1 := Lib.hid (sto_shut h1)
        clear h1
        go_wp2_with fail
        (with_reducible refine (HN2.out _ _ H1.out).mono ?_)
        rintro e w2 ⟨rfl, h2⟩
        have H9 := Lib.hid (h2.step ((Ext.refl w2).alloc (.cells #[nilv, nilv, nilv, .int .i64 (r : Int), nilv, .int .u64 1] 79)))
        clear h2 HN HN2 H1
        go_wp2_with fail
        (with_reducible refine (awake_any H9.out).mono ?_)
        rintro e w8 ⟨rfl, h8⟩
        have H8 := Lib.hid h8
        clear h8 H9
        go_wp2_with fail
        go_ret
        exact ⟨rfl, H8.out.ext (by simp)⟩
    · exact stells_main r v m f w ho (by omega) (by omega) (by omega)
theorem stells_row (room : Int) (v : Value) (x : Nat × (Nat → SOp)) (wf0 : (Lit.int .i64 room).wf = true) (w : World) (ho : Ops2 w v x) :
    Calls Try.prog 9 #[.int .i64 room, v] w fun e w' => e = .returned (.bool true) ∧ Ext w w' := stells_any room v x.1 x.2 w ho
end Go.Proofs.Ytekdgghekdajbaa.St
