/- DERIVED. Layer 13 (bucket): the law BucketTells, of any numbers. -/
import Derived.Test.YtlficiohenpghaaBkW
set_option linter.unusedVariables false
set_option linter.unusedSimpArgs false
set_option maxRecDepth 100000
namespace Go.Proofs.Ytlficiohenpghaa.Bk
open Go.RowKit Go.Proofs.Ytlficiohenpghaa Go.Proofs.Ytlficiohenpghaa.TreeP Go.Proofs.Ytlficiohenpghaa.Tr

theorem Own.bsAny {l : List HP} {w : World} {b bits room : Nat} {v : Value} (h : Own (BS b bits room v :: l) w) (x y z : Value) :
    ∃ w1, ((w.setCell ⟨b, 0, none⟩ x).setCell ⟨b, 1, none⟩ y).setCell ⟨b, 2, none⟩ z = w1 ∧ Own (Go.Proofs.Ytlficiohenpghaa.Blk b #[x, y, z] 51 :: l) w1 :=
  ⟨_, rfl, Go.Proofs.Ytlficiohenpghaa.Own.blkSet (o := 2) (Go.Proofs.Ytlficiohenpghaa.Own.blkSet (o := 1) (Go.Proofs.Ytlficiohenpghaa.Own.blkSet (o := 0) h x) y) z⟩
theorem rnew_no (b r : Int) (h : b < 0 ∨ 10 < b ∨ r < 1 ∨ 4096 < r) {l : List HP} {w : World} (hl : Own l w) :
    Calls Try.prog 20 #[.int .i64 b, .int .i64 r] w fun e w' => e = .returned (.tuple #[.agg #[.int .i64 b, .int .i64 r, .slice none 0 0], .bool false]) ∧ Own l w' := by
  have hx := Go.Proofs.Ytlficiohenpghaa.Own.blkNew hl #[.int .i64 0, .int .i64 0, .slice none 0 0] 51
  obtain ⟨c, hc⟩ : ∃ c, c = w.heap.size := ⟨_, rfl⟩
  obtain ⟨W, hW⟩ : ∃ W, w.alloc (.cells #[.int .i64 0, .int .i64 0, .slice none 0 0] 51) = W := ⟨_, rfl⟩
  rw [hW, ← hc] at hx
  obtain ⟨y0, y1, y2, f0, f1, f2⟩ := bs_cells (b := c) (bits := 0) (room := 0) (v := .slice none 0 0) hx (.head _)
  obtain ⟨w4, e4, h4⟩ := Own.bsAny (show Own (BS c 0 0 (.slice none 0 0) :: l) W from hx) (.int .i64 b) (.int .i64 r) (.slice none 0 0)
  obtain ⟨q0, q1, q2⟩ := Own.blk3c h4
  have H4 := Lib.hid h4
  have HW := Lib.hid hW
  have HC := Lib.hid hc
  clear hl hx h4 hW hc
  by_cases h0 : b < 0
  · have d0 : decide ((0 : Int) ≤ b) = false := by simp; omega
    clear h0
    clear h
    go_enter Try.func20, Try.ntmps20
    go_upto_region 1 with fail
    rw [HW.out, ← HC.out]
    go_wp2_with fail
    exact bodyPost_ret (v := .tuple #[.agg #[.int .i64 b, .int .i64 r, .slice none 0 0], .bool false]) (by simp [results, Try.results20, go_sem, q0, q1, q2]) rfl ⟨rfl, H4.out.drop⟩
  · have d0 : decide ((0 : Int) ≤ b) = true := by simp; omega
    by_cases h1 : 10 < b
    · have d1 : decide (b ≤ (10 : Int)) = false := by simp; omega
      clear h0 h1
      clear h
      go_enter Try.func20, Try.ntmps20
      go_upto_region 1 with fail
      rw [HW.out, ← HC.out]
      go_wp2_with fail
      exact bodyPost_ret (v := .tuple #[.agg #[.int .i64 b, .int .i64 r, .slice none 0 0], .bool false]) (by simp [results, Try.results20, go_sem, q0, q1, q2]) rfl ⟨rfl, H4.out.drop⟩
    · have d1 : decide (b ≤ (10 : Int)) = true := by simp; omega
      by_cases h2 : r < 1
      · have d2 : decide ((1 : Int) ≤ r) = false := by simp; omega
        clear h0 h1 h2
        clear h
        go_enter Try.func20, Try.ntmps20
        go_upto_region 1 with fail
        rw [HW.out, ← HC.out]
        go_wp2_with fail
        exact bodyPost_ret (v := .tuple #[.agg #[.int .i64 b, .int .i64 r, .slice none 0 0], .bool false]) (by simp [results, Try.results20, go_sem, q0, q1, q2]) rfl ⟨rfl, H4.out.drop⟩
      · have d2 : decide ((1 : Int) ≤ r) = true := by simp; omega
        have d3 : decide (r ≤ (4096 : Int)) = false := by simp; omega
        clear h0 h1 h2
        clear h
        go_enter Try.func20, Try.ntmps20
        go_upto_region 1 with fail
        rw [HW.out, ← HC.out]
        go_wp2_with fail
        exact bodyPost_ret (v := .tuple #[.agg #[.int .i64 b, .int .i64 r, .slice none 0 0], .bool false]) (by simp [results, Try.results20, go_sem, q0, q1, q2]) rfl ⟨rfl, H4.out.drop⟩
set_option maxHeartbeats 1000000 in
theorem tells_of (bits room : Int) (v : Value) (n : Nat) (f : Nat → BOp) (w : World) (ho : Ops w v n f) :
    Calls Try.prog 7 #[.int .i64 bits, .int .i64 room, v] w fun e w' => e = .returned (.bool true) ∧ Ext w w' := by
  by_cases hb : bits < 0 ∨ 10 < bits ∨ room < 1 ∨ 4096 < room
  · have HN := Lib.hid (new_not bits room hb w)
    have HN2 := Lib.hid (rnew_no bits room hb (Own.start w))
    obtain ⟨hs, a, cap, rfl, q1, q2, q3⟩ := ho
    clear q3 q1 q2 hs hb
    go_enter Try.func7, Try.ntmps7
    go_wp2_with fail
    refine (HN.out).mono ?_
    rintro e w1 ⟨rfl, rfl⟩
    go_wp2_with fail
    refine (HN2.out).mono ?_
    rintro e w2 ⟨rfl, h2⟩
    have H9 := Lib.hid (h2.step ((Ext.refl w2).alloc (.cells #[.int .i64 bits, .int .i64 room, .slice none 0 0] 51)))
    clear h2 HN HN2
    go_wp2_with fail
    refine (awake_any H9.out).mono ?_
    rintro e w8 ⟨rfl, h8⟩
    have H8 := Lib.hid h8
    clear h8 H9
    go_wp2_with fail
    go_ret
    exact ⟨rfl, H8.out.ext (by simp)⟩
  · obtain ⟨B, rfl⟩ := Int.eq_ofNat_of_zero_le (show 0 ≤ bits by omega)
    obtain ⟨r, rfl⟩ := Int.eq_ofNat_of_zero_le (show 0 ≤ room by omega)
    by_cases hbig : 5 < B ∨ 50 < n
    · have HN := Lib.hid (own_new B r (by omega) (by omega) (by omega) (Own.start w))
      have HN2 := Lib.hid (fun p (w1 : World) (h1 : Own [Bkt p B r [], Old w] w1) => rnew_ok B r (by omega) (by omega) (by omega) h1)
      obtain ⟨hs, a, cap, rfl, q1, q2, q3⟩ := ho
      clear q3 hs
      by_cases h1 : 5 < B
      · have g3 : (5 : Int) < (B : Int) := by omega
        clear hbig hb h1
        go_enter Try.func7, Try.ntmps7
        go_wp2_with fail
        refine (HN.out).mono ?_
        rintro e w1 ⟨p, rfl, h1⟩
        have H1 := Lib.hid h1
        clear h1
        go_wp2_with fail
        refine (HN2.out _ _ H1.out).mono ?_
        rintro e w2 ⟨rfl, h2⟩
        have H9 := Lib.hid (h2.step ((Ext.refl w2).alloc (.cells #[.int .i64 (B : Int), .int .i64 (r : Int), .slice none 0 0] 51)))
        clear h2 HN HN2 H1
        go_wp2_with fail
        refine (awake_any H9.out).mono ?_
        rintro e w8 ⟨rfl, h8⟩
        have H8 := Lib.hid h8
        clear h8 H9
        go_wp2_with fail
        go_ret
        exact ⟨rfl, H8.out.ext (by simp)⟩
      · have g3 : (B : Int) ≤ 5 := by omega
        have g4 : (50 : Int) < (n : Int) := by omega
        clear hbig hb h1
        go_enter Try.func7, Try.ntmps7
        go_wp2_with fail
        refine (HN.out).mono ?_
        rintro e w1 ⟨p, rfl, h1⟩
        have H1 := Lib.hid h1
        clear h1
        go_wp2_with fail
        refine (HN2.out _ _ H1.out).mono ?_
        rintro e w2 ⟨rfl, h2⟩
        have H9 := Lib.hid (h2.step ((Ext.refl w2).alloc (.cells #[.int .i64 (B : Int), .int .i64 (r : Int), .slice none 0 0] 51)))
        clear h2 HN HN2 H1
        go_wp2_with fail
        refine (awake_any H9.out).mono ?_
        rintro e w8 ⟨rfl, h8⟩
        have H8 := Lib.hid h8
        clear h8 H9
        go_wp2_with fail
        go_ret
        exact ⟨rfl, H8.out.ext (by simp)⟩
    · exact tells_main B r v n f w ho (by omega) (by omega) (by omega) (by omega)
theorem tells_row (bits room : Int) (v : Value) (x : Nat × (Nat → BOp)) (wf0 : (Lit.int .i64 bits).wf = true) (wf1 : (Lit.int .i64 room).wf = true) (w : World) (ho : Ops2 w v x) :
    Calls Try.prog 7 #[.int .i64 bits, .int .i64 room, v] w fun e w' => e = .returned (.bool true) ∧ Ext w w' := tells_of bits room v x.1 x.2 w ho
end Go.Proofs.Ytlficiohenpghaa.Bk
