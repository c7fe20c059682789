/- DERIVED. Layer 10 (store): contracts of Free, Count, Bytes, Next; a store that is none. -/
import Derived.Test.YtekdgghekdajbaaStC
import Derived.Deep.CutRange
set_option linter.unusedVariables false
set_option linter.unusedSimpArgs false
set_option maxRecDepth 100000
namespace Go.Proofs.Ytekdgghekdajbaa.St
open Go.RowKit Go.Proofs.Ytekdgghekdajbaa Go.Proofs.Ytekdgghekdajbaa.Ar

section
variable {p N : Nat} {X : A} {H : List Hd} {bys nx : Int} {l : List HP} {w : World}
theorem count_any (h : Sto p X H bys nx l w) (ho : Ok N X) : Calls Try.prog 32 #[.pointer (some ⟨p, 0, none⟩)] w fun e w' => e = .returned (.int .i64 X.used) ∧ w = w' := by
  obtain ⟨pa, v, h⟩ := h
  obtain ⟨c0, c1, c2, c3, f⟩ := Own.blk4 h (.head _)
  have HS := Lib.hid (snone_any (cs := #[]) h (.head _))
  have HU := Lib.hid (own_used h.swap ho)
  clear h f ho
  go_enter Try.func32, Try.ntmps32
  go_wp2_with (first
    | (go_at_call 45; refine (HS.out).mono ?_; rintro e w' ⟨rfl, rfl⟩)
    | (go_at_call 17; refine (HU.out).mono ?_; rintro e w' ⟨rfl, rfl⟩))
  go_ret
  exact ⟨rfl, rfl⟩
theorem bytes_any (h : Sto p X H bys nx l w) : Calls Try.prog 39 #[.pointer (some ⟨p, 0, none⟩)] w fun e w' => e = .returned (.int .i64 bys) ∧ w = w' := by
  obtain ⟨pa, v, h⟩ := h
  obtain ⟨c0, c1, c2, c3, f⟩ := Own.blk4 h (.head _)
  have HS := Lib.hid (snone_any (cs := #[]) h (.head _))
  clear h f
  go_enter Try.func39, Try.ntmps39
  go_wp2_with (first
    | (go_at_call 45; refine (HS.out).mono ?_; rintro e w' ⟨rfl, rfl⟩))
  go_ret
  exact ⟨rfl, rfl⟩
theorem nextn_any (h : Sto p X H bys nx l w) : Calls Try.prog 41 #[.pointer (some ⟨p, 0, none⟩)] w fun e w' => e = .returned (.int .u64 nx) ∧ w = w' := by
  obtain ⟨pa, v, h⟩ := h
  obtain ⟨c0, c1, c2, c3, f⟩ := Own.blk4 h (.head _)
  have HS := Lib.hid (snone_any (cs := #[]) h (.head _))
  clear h f
  go_enter Try.func41, Try.ntmps41
  go_wp2_with (first
    | (go_at_call 45; refine (HS.out).mono ?_; rintro e w' ⟨rfl, rfl⟩))
  go_ret
  exact ⟨rfl, rfl⟩
theorem free_no (h : Sto p X H bys nx l w) (ho : Ok N X) (hN : N < 4294967294) (hh : Nat) (hH : hh < 18446744073709551616) (hb : pb X hh = false) :
    Calls Try.prog 34 #[.pointer (some ⟨p, 0, none⟩), .int .u64 hh] w fun e w' => e = .returned (.tuple #[.agg #[.int .u64 0, .int .u64 0, .int .i64 0, .int .u8 0, .int .u64 0, .int .u64 0, .int .u64 0], .bool false]) ∧ Sto p X H bys nx l w' := by
  have h1 := h.new #[.int .u64 0, .int .u64 0, .int .i64 0, .int .u8 0, .int .u64 0, .int .u64 0, .int .u64 0] 72
  have HG := Lib.hid (get_no h1 ho hN hh hH hb)
  clear h h1 hb hH
  go_enter Try.func34, Try.ntmps34
  go_wp2_with fail
  refine (HG.out).mono ?_
  rintro e w2 ⟨rfl, h2⟩
  have h3 := h2.new #[.int .u64 0, .int .u64 0, .int .i64 0, .int .u8 0, .int .u64 0, .int .u64 0, .int .u64 0] 72
  obtain ⟨w3, e3⟩ : ∃ w3, w2.alloc (.cells #[.int .u64 0, .int .u64 0, .int .i64 0, .int .u8 0, .int .u64 0, .int .u64 0, .int .u64 0] 72) = w3 := ⟨_, rfl⟩
  rw [e3] at h3
  have E3 := Lib.hid e3
  clear e3
  obtain ⟨a0, a1, a2, a3, a4, a5, a6, af⟩ := Own.blk7 (b := w.heap.size) (x0 := .int .u64 0) (x1 := .int .u64 0) (x2 := .int .i64 0) (x3 := .int .u8 0) (x4 := .int .u64 0) (x5 := .int .u64 0) (x6 := .int .u64 0) (t := 72) h3.own (by simp [h7, zeroH])
  obtain ⟨y0, y1, y2, y3, y4, y5, y6, yf⟩ := Own.blk7 (b := w2.heap.size) (x0 := .int .u64 0) (x1 := .int .u64 0) (x2 := .int .i64 0) (x3 := .int .u8 0) (x4 := .int .u64 0) (x5 := .int .u64 0) (x6 := .int .u64 0) (t := 72) h3.own (by simp)
  have f0 := af 0
  have f1 := af 1
  have f2 := af 2
  have f3 := af 3
  have f4 := af 4
  have f5 := af 5
  have f6 := af 6
  obtain ⟨pa, v, h4⟩ := h3.drop
  have FIN := Lib.hid (show Sto p X H bys nx l _ from ⟨pa, v, Own.blkSet7 h4.fourth (.int .u64 0) (.int .u64 0) (.int .i64 0) (.int .u8 0) (.int .u64 0) (.int .u64 0) (.int .u64 0)⟩)
  clear yf af h2 h3 h4 HG
  go_upto_if 14 with fail
  rw [E3.out]
  go_wp2_with fail
  exact bodyPost_ret (v := .tuple #[.agg #[.int .u64 0, .int .u64 0, .int .i64 0, .int .u8 0, .int .u64 0, .int .u64 0, .int .u64 0], .bool false]) (by simp [results, Try.results34, go_sem, h7, zeroH, a0, a1, a2, a3, a4, a5, a6]) rfl ⟨rfl, FIN.out⟩
theorem free_yes (h : Sto p X H bys nx l w) (ho : Ok N X) (hN : N < 4294967294) (hh : Nat) (hH : hh < 18446744073709551616) (hb : pb X hh = true) (q : Nat) (hq : pv X hh = q) (x : Hd) (hx : H[q]? = some x) (b0 : 0 ≤ bys) (b1 : bys ≤ 100000000000) (b2 : 0 ≤ x.len) (b3 : x.len ≤ 100000000000) :
    Calls Try.prog 34 #[.pointer (some ⟨p, 0, none⟩), .int .u64 hh] w fun e w' => e = .returned (.tuple #[.agg (h7 x), .bool true]) ∧ Sto p (gv X q) H (bys - x.len) nx l w' := by
  have h1 := h.new #[.int .u64 0, .int .u64 0, .int .i64 0, .int .u8 0, .int .u64 0, .int .u64 0, .int .u64 0] 72
  have HG := Lib.hid (get_yes h1 ho hN hh hH hb q hq x hx)
  have g1 : gvE X hh = 0 := by unfold gvE; rw [if_pos hb]
  have g2 : gvA X hh = gv X q := by unfold gvA; rw [if_pos hb, hq]; simp
  have HO := Lib.hid ho
  have HE := Lib.hid g1
  have HA := Lib.hid g2
  have HH := Lib.hid hH
  obtain ⟨k, c, len, pr, at_, seq, came⟩ := x
  simp only at b2 b3
  clear h h1 hb hH hq hx ho g1 g2
  go_enter Try.func34, Try.ntmps34
  go_wp2_with fail
  refine (HG.out).mono ?_
  rintro e w2 ⟨rfl, h2⟩
  have h3 := h2.new (h7 ⟨k, c, len, pr, at_, seq, came⟩) 72
  obtain ⟨pa, v, h4⟩ := h3
  have hg := own_give' hh h4.swap HO.out hN HH.out HE.out HA.out
  have HGV := Lib.hid hg
  obtain ⟨c0, c1, c2, c3, cf⟩ := Own.blk4 h4 (.head _)
  clear h2 h4 hg cf HG
  go_wp2_with fail
  refine (HGV.out).mono ?_
  rintro e w4 ⟨rfl, h5⟩
  have h6 := h5.swap
  obtain ⟨d0, d1, d2, d3, df⟩ := Own.blk4 h6 (.head _)
  obtain ⟨x0, x1, x2, x3, x4, x5, x6, xf⟩ := Own.blk7 (b := w2.heap.size) (x0 := .int .u64 k) (x1 := .int .u64 c) (x2 := .int .i64 len) (x3 := .int .u8 pr) (x4 := .int .u64 at_) (x5 := .int .u64 seq) (x6 := .int .u64 came) (t := 72) h6 (by simp [h7])
  have hb := Own.blkSet (o := 2) (h6.step ((Ext.refl _).drew)) (.int .i64 (bys - len))
  obtain ⟨w5, e5⟩ : ∃ w5, w4.drew.setCell ⟨p, 2, none⟩ (.int .i64 (bys - len)) = w5 := ⟨_, rfl⟩
  rw [e5] at hb
  obtain ⟨a0, a1, a2, a3, a4, a5, a6, af⟩ := Own.blk7 (b := w.heap.size) (x0 := .int .u64 0) (x1 := .int .u64 0) (x2 := .int .i64 0) (x3 := .int .u8 0) (x4 := .int .u64 0) (x5 := .int .u64 0) (x6 := .int .u64 0) (t := 72) hb (by simp [h7, zeroH])
  obtain ⟨y0, y1, y2, y3, y4, y5, y6, yf⟩ := Own.blk7 (b := w2.heap.size) (x0 := .int .u64 k) (x1 := .int .u64 c) (x2 := .int .i64 len) (x3 := .int .u8 pr) (x4 := .int .u64 at_) (x5 := .int .u64 seq) (x6 := .int .u64 came) (t := 72) hb (by simp [h7])
  have f0 := af 0
  have f1 := af 1
  have f2 := af 2
  have f3 := af 3
  have f4 := af 4
  have f5 := af 5
  have f6 := af 6
  have df2 := df 2
  have hc := hb.fourth.drop
  have FIN := Lib.hid (show Sto p (gv X q) H (bys - len) nx l _ from ⟨pa, v, Own.blkSet7 hc.fourth (.int .u64 k) (.int .u64 c) (.int .i64 len) (.int .u8 pr) (.int .u64 at_) (.int .u64 seq) (.int .u64 came)⟩)
  clear af xf yf df h5 h6 hb hc HGV c0 c1 c2 c3
  go_wp2_with fail
  go_region
  go_wp2_with fail
  exact bodyPost_ret (v := .tuple #[.agg (h7 ⟨k, c, len, pr, at_, seq, came⟩), .bool true]) (by simp [results, Try.results34, go_sem, h7, a0, a1, a2, a3, a4, a5, a6]) rfl ⟨rfl, FIN.out⟩
end
end Go.Proofs.Ytekdgghekdajbaa.St
