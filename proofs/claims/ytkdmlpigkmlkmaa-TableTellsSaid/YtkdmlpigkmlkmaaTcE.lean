/- DERIVED. Layer 14 (table): the document's tables: contracts of Rebuild, New, Born. -/
import Derived.Test.YtkdmlpigkmlkmaaTcD
set_option linter.unusedVariables false
set_option linter.unusedSimpArgs false
set_option maxRecDepth 100000
namespace Go.Proofs.Ytkdmlpigkmlkmaa.Tb
open Go.RowKit Go.Proofs.Ytkdmlpigkmlkmaa Go.Proofs.Ytkdmlpigkmlkmaa.TreeP Go.Proofs.Ytkdmlpigkmlkmaa.Tr Go.Proofs.Ytkdmlpigkmlkmaa.Bk

theorem rrebuild_no {va ga : Option Addr} {vn vc gk gcc : Nat} {N bits u : Nat} {keep : Int} {l : List HP} {w : World} (h : Own l w) (x : Int) (hx : x < 0 ∨ 10 < x) :
    Calls Try.prog 37 #[dv N bits keep (.slice va vn vc) (.slice ga gk gcc) u, .int .i64 x] w fun e w' => e = .returned (.tuple #[dv N bits keep (.slice va vn vc) (.slice ga gk gcc) u, .int .i64 2]) ∧ Own l w' := by
  obtain ⟨b, hb⟩ : ∃ b, w.heap.size = b := ⟨_, rfl⟩
  obtain ⟨W1, hW1, hs1, h1⟩ := boxT h hb N bits keep (.slice va vn vc) (.slice ga gk gcc) u
  obtain ⟨W2, hW2, hs2, h2⟩ := boxZ h1 hs1
  obtain ⟨c0, c1, c2, c3, c4, c5, -, -, -, -, -, -⟩ := bd_cells h2 (b := b) (n := N) (bits := bits) (keep := keep) (vL := .slice va vn vc) (vG := .slice ga gk gcc) (u := u) (.tail _ (.head _))
  obtain ⟨x0, x1, x2, x3, x4, x5, f0, f1, f2, f3, f4, f5⟩ := bd_cells h2 (b := b + 1) (n := 0) (bits := 0) (keep := 0) (vL := nilv) (vG := nilv) (u := 0) (.head _)
  obtain ⟨w4, e4, h4⟩ := Own.bdSet (n' := N) (bits' := bits) (keep' := keep) (vL' := .slice va vn vc) (vG' := .slice ga gk gcc) (u' := u) h2
  obtain ⟨q0, q1, q2, q3, q4, q5, -, -, -, -, -, -⟩ := bd_cells h4 (.head _)
  have H4 := Lib.hid h4
  have HB := Lib.hid hb
  have HW1 := Lib.hid hW1
  have HW2 := Lib.hid hW2
  clear h h1 h2 h4 hb hW1 hW2 hs1 hs2
  by_cases h0 : x < 0
  · clear hx
    go_enter Try.func37, Try.ntmps37
    go_upto_region 1 with fail
    rw [HB.out, HW1.out, HW2.out]
    clear HB HW1 HW2
    go_wp2_with fail
    exact bodyPost_ret (v := .tuple #[dv N bits keep (.slice va vn vc) (.slice ga gk gcc) u, .int .i64 2]) (by simp [results, Try.results37, go_sem, q0, q1, q2, q3, q4, q5]) rfl ⟨rfl, H4.out.drop.drop⟩
  · have h1 : 10 < x := by omega
    clear hx
    go_enter Try.func37, Try.ntmps37
    go_upto_region 1 with fail
    rw [HB.out, HW1.out, HW2.out]
    clear HB HW1 HW2
    go_wp2_with fail
    exact bodyPost_ret (v := .tuple #[dv N bits keep (.slice va vn vc) (.slice ga gk gcc) u, .int .i64 2]) (by simp [results, Try.results37, go_sem, q0, q1, q2, q3, q4, q5]) rfl ⟨rfl, H4.out.drop.drop⟩
theorem rrebuild_yes {va ga : Option Addr} {vn vc gk gcc : Nat} {N bits u : Nat} {keep : Int} {l : List HP} {w : World} (h : Own l w) (x : Nat) (hx : x ≤ 10) :
    Calls Try.prog 37 #[dv N bits keep (.slice va vn vc) (.slice ga gk gcc) u, .int .i64 (x : Int)] w fun e w' => e = .returned (.tuple #[dv N x keep (.slice va vn vc) (.slice ga gk gcc) u, .int .i64 0]) ∧ Own l w' := by
  obtain ⟨b, hb⟩ : ∃ b, w.heap.size = b := ⟨_, rfl⟩
  obtain ⟨W1, hW1, hs1, h1⟩ := boxT h hb N bits keep (.slice va vn vc) (.slice ga gk gcc) u
  obtain ⟨W2, hW2, hs2, h2⟩ := boxZ h1 hs1
  obtain ⟨c0, c1, c2, c3, c4, c5, -, z1, -, -, -, -⟩ := bd_cells h2 (b := b) (n := N) (bits := bits) (keep := keep) (vL := .slice va vn vc) (vG := .slice ga gk gcc) (u := u) (.tail _ (.head _))
  obtain ⟨w3, e3, h3⟩ := Own.bdB (bits' := x) h2.swap
  obtain ⟨d0, d1, d2, d3, d4, d5, -, -, -, -, -, -⟩ := bd_cells h3 (.head _)
  obtain ⟨x0, x1, x2, x3, x4, x5, f0, f1, f2, f3, f4, f5⟩ := bd_cells h3 (b := b + 1) (n := 0) (bits := 0) (keep := 0) (vL := nilv) (vG := nilv) (u := 0) (.tail _ (.head _))
  obtain ⟨w4, e4, h4⟩ := Own.bdSet (n' := N) (bits' := x) (keep' := keep) (vL' := .slice va vn vc) (vG' := .slice ga gk gcc) (u' := u) h3.swap
  obtain ⟨q0, q1, q2, q3, q4, q5, -, -, -, -, -, -⟩ := bd_cells h4 (.head _)
  have H4 := Lib.hid h4
  have HB := Lib.hid hb
  have HW1 := Lib.hid hW1
  have HW2 := Lib.hid hW2
  have k0 : (0 : Int) ≤ (x : Int) := by omega
  have k1 : (x : Int) ≤ 10 := by omega
  clear h h1 h2 h3 h4 hb hW1 hW2 hs1 hs2 hx
  go_enter Try.func37, Try.ntmps37
  go_upto_region 1 with fail
  rw [HB.out, HW1.out, HW2.out]
  clear HB HW1 HW2
  go_wp2_with fail
  exact bodyPost_ret (v := .tuple #[dv N x keep (.slice va vn vc) (.slice ga gk gcc) u, .int .i64 0]) (by simp [results, Try.results37, go_sem, q0, q1, q2, q3, q4, q5]) rfl ⟨rfl, H4.out.drop.drop⟩
/-! ### New -/
theorem rnew_ok (n b : Nat) (keep : Int) (n1 : 1 ≤ n) (n2 : n ≤ 4096) (hb : b ≤ 10) {l : List HP} {w : World} (h : Own l w) :
    Calls Try.prog 30 #[.int .i64 (n : Int), .int .i64 (b : Int), .int .u64 keep] w fun e w' => e = .returned (.tuple #[dv n b keep nilv nilv 0, .bool true]) ∧ Own l w' := by
  have hx : ∀ W, w.alloc (.cells #[.int .i64 (n : Int), .int .i64 (b : Int), .int .u64 keep, .slice none 0 0, .slice none 0 0, .int .i64 0] 64) = W → Own l W := fun W hW => hW ▸ h.step ((Ext.refl w).alloc _)
  have HX := Lib.hid hx
  clear hx h
  have b1 : (0 : Int) ≤ (b : Int) := by omega
  have b2 : (b : Int) ≤ 10 := by omega
  have b3 : (1 : Int) ≤ (n : Int) := by omega
  have b4 : (n : Int) ≤ 4096 := by omega
  go_enter Try.func30, Try.ntmps30
  go_wp2_with fail
  exact bodyPost_ret (v := .tuple #[dv n b keep nilv nilv 0, .bool true]) (by simp [results, Try.results30, go_sem]) rfl ⟨rfl, HX.out _ rfl⟩
theorem rnew_no (n b keep : Int) (hb : n < 1 ∨ 4096 < n ∨ b < 0 ∨ 10 < b) {l : List HP} {w : World} (h : Own l w) :
    Calls Try.prog 30 #[.int .i64 n, .int .i64 b, .int .u64 keep] w fun e w' => e = .returned (.tuple #[.agg #[.int .i64 n, .int .i64 b, .int .u64 keep, nilv, nilv, .int .i64 0], .bool false]) ∧ Own l w' := by
  have hx : ∀ W, w.alloc (.cells #[.int .i64 n, .int .i64 b, .int .u64 keep, .slice none 0 0, .slice none 0 0, .int .i64 0] 64) = W → Own l W := fun W hW => hW ▸ h.step ((Ext.refl w).alloc _)
  have HX := Lib.hid hx
  clear hx h
  by_cases h0 : n < 1
  · have d0 : decide ((1 : Int) ≤ n) = false := by simp; omega
    clear hb h0
    go_enter Try.func30, Try.ntmps30
    go_wp2_with fail
    exact bodyPost_ret (v := .tuple #[.agg #[.int .i64 n, .int .i64 b, .int .u64 keep, nilv, nilv, .int .i64 0], .bool false]) (by simp [results, Try.results30, go_sem]) rfl ⟨rfl, HX.out _ rfl⟩
  · have d0 : decide ((1 : Int) ≤ n) = true := by simp; omega
    by_cases h1 : 4096 < n
    · have d1 : decide (n ≤ (4096 : Int)) = false := by simp; omega
      clear hb h0 h1
      go_enter Try.func30, Try.ntmps30
      go_wp2_with fail
      exact bodyPost_ret (v := .tuple #[.agg #[.int .i64 n, .int .i64 b, .int .u64 keep, nilv, nilv, .int .i64 0], .bool false]) (by simp [results, Try.results30, go_sem]) rfl ⟨rfl, HX.out _ rfl⟩
    · have d1 : decide (n ≤ (4096 : Int)) = true := by simp; omega
      by_cases h2 : b < 0
      · have d2 : decide ((0 : Int) ≤ b) = false := by simp; omega
        clear hb h0 h1 h2
        go_enter Try.func30, Try.ntmps30
        go_wp2_with fail
        exact bodyPost_ret (v := .tuple #[.agg #[.int .i64 n, .int .i64 b, .int .u64 keep, nilv, nilv, .int .i64 0], .bool false]) (by simp [results, Try.results30, go_sem]) rfl ⟨rfl, HX.out _ rfl⟩
      · have d2 : decide ((0 : Int) ≤ b) = true := by simp; omega
        have d3 : decide (b ≤ (10 : Int)) = false := by simp; omega
        clear hb h0 h1 h2
        go_enter Try.func30, Try.ntmps30
        go_wp2_with fail
        exact bodyPost_ret (v := .tuple #[.agg #[.int .i64 n, .int .i64 b, .int .u64 keep, nilv, nilv, .int .i64 0], .bool false]) (by simp [results, Try.results30, go_sem]) rfl ⟨rfl, HX.out _ rfl⟩
/-! ### Born -/
theorem rborn_any (sock cookie qu fi rf mo lo : Int) {l : List HP} {w : World} (h : Own l w) :
    Calls Try.prog 67 #[.int .u64 sock, .int .u64 cookie, .agg #[.int .i64 qu, .int .i64 fi, .int .u64 rf, .int .u64 mo, .int .u64 lo]] w fun e w' => e = .returned (fagg (bornF sock cookie fi)) ∧ Own l w' := by
  obtain ⟨c, hc⟩ : ∃ c, w.heap.size = c := ⟨_, rfl⟩
  have h1 := Go.Proofs.Ytkdmlpigkmlkmaa.Own.blkNew h #[.int .i64 qu, .int .i64 fi, .int .u64 rf, .int .u64 mo, .int .u64 lo] 30
  rw [hc] at h1
  obtain ⟨W1, hW1⟩ : ∃ W, w.alloc (.cells #[.int .i64 qu, .int .i64 fi, .int .u64 rf, .int .u64 mo, .int .u64 lo] 30) = W := ⟨_, rfl⟩
  have hs1 : W1.heap.size = c + 1 := by rw [← hW1, World.size_alloc, hc]
  rw [hW1] at h1
  obtain ⟨W2, hW2, hs2, h2⟩ := boxF0 h1 hs1
  obtain ⟨W3, hW3, hs3, h3⟩ := boxF0 h2 hs2
  obtain ⟨p0, p1, p2, p3, p4⟩ := bpc_cells h3 (b := c) (qu := qu) (fi := fi) (rf := rf) (mo := mo) (lo := lo) (.tail _ (.tail _ (.head _)))
  have k0 : Own (Go.Proofs.Ytkdmlpigkmlkmaa.Blk (c + 1 + 1) #[.int .u64 0, .int .u64 0, .int .u64 0, .int .i64 0, .int .u64 0, .int .u64 0, .int .u64 0] 41 :: _) W3.drew := h3.step (Ext.refl _).drew
  have k1 : Own (Go.Proofs.Ytkdmlpigkmlkmaa.Blk (c + 1 + 1) #[.int .u64 sock, .int .u64 0, .int .u64 0, .int .i64 0, .int .u64 0, .int .u64 0, .int .u64 0] 41 :: _) _ := Go.Proofs.Ytkdmlpigkmlkmaa.Own.blkSet (o := 0) k0 (.int .u64 sock)
  obtain ⟨v1, e1⟩ : ∃ v1, W3.drew.setCell ⟨c + 1 + 1, 0, none⟩ (.int .u64 sock) = v1 := ⟨_, rfl⟩
  rw [e1] at k1
  have k2 : Own (Go.Proofs.Ytkdmlpigkmlkmaa.Blk (c + 1 + 1) #[.int .u64 sock, .int .u64 cookie, .int .u64 0, .int .i64 0, .int .u64 0, .int .u64 0, .int .u64 0] 41 :: _) _ := Go.Proofs.Ytkdmlpigkmlkmaa.Own.blkSet (o := 1) k1 (.int .u64 cookie)
  obtain ⟨v2, e2⟩ : ∃ v2, v1.setCell ⟨c + 1 + 1, 1, none⟩ (.int .u64 cookie) = v2 := ⟨_, rfl⟩
  rw [e2] at k2
  have k3 : Own (Go.Proofs.Ytkdmlpigkmlkmaa.Blk (c + 1 + 1) #[.int .u64 sock, .int .u64 cookie, .int .u64 0, .int .i64 fi, .int .u64 0, .int .u64 0, .int .u64 0] 41 :: _) _ := Go.Proofs.Ytkdmlpigkmlkmaa.Own.blkSet (o := 3) k2 (.int .i64 fi)
  obtain ⟨v3, e3⟩ : ∃ v3, v2.setCell ⟨c + 1 + 1, 3, none⟩ (.int .i64 fi) = v3 := ⟨_, rfl⟩
  rw [e3] at k3
  have fa : ∀ {cs : Array Value} {t : TypeId} {l : List HP} {w : World}, Own (Go.Proofs.Ytkdmlpigkmlkmaa.Blk (c + 1 + 1) cs t :: l) w → ∀ o, w.frozen? ⟨c + 1 + 1, o, none⟩ = false := fun hh o => by
    simp [World.frozen?, Go.Proofs.Ytkdmlpigkmlkmaa.Own.blk hh (.head _)]
  have ca : ∀ {cs : Array Value} {t : TypeId} {l : List HP} {w : World} (o : Nat), Own (Go.Proofs.Ytkdmlpigkmlkmaa.Blk (c + 1 + 1) cs t :: l) w → o < cs.size → ∃ x, w.cell? ⟨c + 1 + 1, o, none⟩ = some x := fun o hh ho => by
    simp [World.cell?, Go.Proofs.Ytkdmlpigkmlkmaa.Own.blk hh (.head _), ho]
  have f1 := fa k0 0
  obtain ⟨x1, z1⟩ := ca 0 k0 (by simp)
  have f2 := fa k1 1
  obtain ⟨x2, z2⟩ := ca 1 k1 (by simp)
  have f3 := fa k2 3
  obtain ⟨x3, z3⟩ := ca 3 k2 (by simp)
  have bc := Go.Proofs.Ytkdmlpigkmlkmaa.Own.blk k3 (.head _)
  obtain ⟨-, pa, -, -, -⟩ := bpc_cells k0 (b := c) (qu := qu) (fi := fi) (rf := rf) (mo := mo) (lo := lo) (.tail _ (.tail _ (.head _)))
  obtain ⟨-, pb, -, -, -⟩ := bpc_cells k1 (b := c) (qu := qu) (fi := fi) (rf := rf) (mo := mo) (lo := lo) (.tail _ (.tail _ (.head _)))
  obtain ⟨-, pc, -, -, -⟩ := bpc_cells k2 (b := c) (qu := qu) (fi := fi) (rf := rf) (mo := mo) (lo := lo) (.tail _ (.tail _ (.head _)))
  have q0 : v3.cell? ⟨c + 1 + 1, 0, none⟩ = some (.int .u64 sock) := by simp [World.cell?, bc]
  have q1 : v3.cell? ⟨c + 1 + 1, 1, none⟩ = some (.int .u64 cookie) := by simp [World.cell?, bc]
  have q2 : v3.cell? ⟨c + 1 + 1, 2, none⟩ = some (.int .u64 0) := by simp [World.cell?, bc]
  have q3 : v3.cell? ⟨c + 1 + 1, 3, none⟩ = some (.int .i64 fi) := by simp [World.cell?, bc]
  have q4 : v3.cell? ⟨c + 1 + 1, 4, none⟩ = some (.int .u64 0) := by simp [World.cell?, bc]
  have q5 : v3.cell? ⟨c + 1 + 1, 5, none⟩ = some (.int .u64 0) := by simp [World.cell?, bc]
  have q6 : v3.cell? ⟨c + 1 + 1, 6, none⟩ = some (.int .u64 0) := by simp [World.cell?, bc]
  have kz : Own (BF (c + 1) F0 :: _) v3 := k3.swap
  obtain ⟨y0, y1, y2, y3, y4, y5, y6⟩ := bf_cells kz (.head _)
  have yf := bf_frozen kz (.head _)
  obtain ⟨v4, e4, k4⟩ := Own.bfSet kz (bornF sock cookie fi)
  obtain ⟨s0, s1, s2, s3, s4, s5, s6⟩ := bf_cells k4 (.head _)
  simp only [bornF] at e4 s0 s1 s2 s3 s4 s5 s6
  have H4 := Lib.hid k4
  have HC := Lib.hid hc
  have HW1 := Lib.hid hW1
  have HW2 := Lib.hid hW2
  have HW3 := Lib.hid hW3
  clear h h1 h2 h3 k0 k1 k2 k3 k4 kz hc hW1 hW2 hW3 hs1 hs2 hs3 fa ca bc
  go_enter Try.func67, Try.ntmps67
  go_upto_region 2 with fail
  rw [HC.out, HW1.out, HW2.out, HW3.out]
  clear HC HW1 HW2 HW3
  go_region
  all_goals go_wp2_with fail
  all_goals exact bodyPost_ret (v := fagg (bornF sock cookie fi)) (by simp [results, Try.results67, go_sem, bornF, s0, s1, s2, s3, s4, s5, s6]) rfl ⟨rfl, H4.out.drop.drop.drop⟩
end Go.Proofs.Ytkdmlpigkmlkmaa.Tb
