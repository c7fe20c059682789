/- DERIVED. Layer 10 (store): contracts of Get, Free, Count, Bytes, Next. -/
import Derived.Test.YtekdgghekdajbaaStB
set_option linter.unusedVariables false
set_option linter.unusedSimpArgs false
set_option maxRecDepth 100000
namespace Go.Proofs.Ytekdgghekdajbaa.St
open Go.RowKit Go.Proofs.Ytekdgghekdajbaa Go.Proofs.Ytekdgghekdajbaa.Ar

theorem Own.blk7 {l : List HP} {w : World} {b : Nat} {x0 x1 x2 x3 x4 x5 x6 : Value} {t : TypeId} (h : Own l w) (hm : Blk b #[x0, x1, x2, x3, x4, x5, x6] t ∈ l) :
    w.cell? ⟨b, 0, none⟩ = some x0 ∧ w.cell? ⟨b, 1, none⟩ = some x1 ∧ w.cell? ⟨b, 2, none⟩ = some x2 ∧ w.cell? ⟨b, 3, none⟩ = some x3 ∧ w.cell? ⟨b, 4, none⟩ = some x4 ∧ w.cell? ⟨b, 5, none⟩ = some x5 ∧ w.cell? ⟨b, 6, none⟩ = some x6 ∧ ∀ o, w.frozen? ⟨b, o, none⟩ = false := by
  simp [World.cell?, World.frozen?, Own.blk h hm]
theorem Own.blkSet7 {l : List HP} {w : World} {b : Nat} {cs : Array Value} {t : TypeId} (h : Own (Blk b cs t :: l) w) (a0 a1 a2 a3 a4 a5 a6 : Value) :
    Own l (((((((w.setCell ⟨b, 0, none⟩ a0).setCell ⟨b, 1, none⟩ a1).setCell ⟨b, 2, none⟩ a2).setCell ⟨b, 3, none⟩ a3).setCell ⟨b, 4, none⟩ a4).setCell ⟨b, 5, none⟩ a5).setCell ⟨b, 6, none⟩ a6) :=
  (Own.blkSet (Own.blkSet (Own.blkSet (Own.blkSet (Own.blkSet (Own.blkSet (Own.blkSet h a0) a1) a2) a3) a4) a5) a6).drop
abbrev h7 (x : Hd) : Array Value := #[.int .u64 x.k, .int .u64 x.c, .int .i64 x.len, .int .u8 x.pr, .int .u64 x.at_, .int .u64 x.seq, .int .u64 x.came]
section
variable {p N : Nat} {X : A} {H : List Hd} {bys nx : Int} {l : List HP} {w : World}
theorem Sto.step {w' : World} (h : Sto p X H bys nx l w) (k : Ext w w') : Sto p X H bys nx l w' := by
  obtain ⟨pa, v, h⟩ := h
  exact ⟨pa, v, h.step k⟩
theorem Sto.new (h : Sto p X H bys nx l w) (cs : Array Value) (t : TypeId) : Sto p X H bys nx (Blk w.heap.size cs t :: l) (w.alloc (.cells cs t)) := by
  obtain ⟨pa, v, h⟩ := h
  exact ⟨pa, v, (Own.blkNew h cs t).back4⟩
theorem Sto.drop {P : HP} (h : Sto p X H bys nx (P :: l) w) : Sto p X H bys nx l w := by
  obtain ⟨pa, v, h⟩ := h
  exact ⟨pa, v, h.fourth.drop⟩
theorem Sto.own (h : Sto p X H bys nx l w) : Own l w := by
  obtain ⟨pa, v, h⟩ := h
  exact h.drop.drop.drop
theorem get_no (h : Sto p X H bys nx l w) (ho : Ok N X) (hN : N < 4294967294) (hh : Nat) (hH : hh < 18446744073709551616) (hb : pb X hh = false) :
    Calls Try.prog 31 #[.pointer (some ⟨p, 0, none⟩), .int .u64 hh] w fun e w' => e = .returned (.tuple #[.agg #[.int .u64 0, .int .u64 0, .int .i64 0, .int .u8 0, .int .u64 0, .int .u64 0, .int .u64 0], .bool false]) ∧ Sto p X H bys nx l w' := by
  have hpv : pv X hh = 0 := by unfold pv; rw [hb]; rfl
  obtain ⟨pa, v, h⟩ := h
  have h1 := h.step ((Ext.refl w).alloc (.cells #[.int .u64 0, .int .u64 0, .int .i64 0, .int .u8 0, .int .u64 0, .int .u64 0, .int .u64 0] 72))
  obtain ⟨c0, c1, c2, c3, f⟩ := Own.blk4 h1 (.head _)
  have HS := Lib.hid (snone_any (cs := #[]) h1 (.head _))
  have HP := Lib.hid (own_place' hh h1.swap ho hN hH hpv hb)
  have H1 := Lib.hid h1
  clear h h1 f hb hpv hH
  go_enter Try.func31, Try.ntmps31
  go_wp2_with (first
    | (go_at_call 45; refine (HS.out).mono ?_; rintro e w' ⟨rfl, rfl⟩)
    | (go_at_call 14; refine (HP.out).mono ?_; rintro e w' ⟨rfl, rfl⟩))
  exact bodyPost_ret (v := .tuple #[.agg #[.int .u64 0, .int .u64 0, .int .i64 0, .int .u8 0, .int .u64 0, .int .u64 0, .int .u64 0], .bool false]) (by simp [results, Try.results31, go_sem, h7, zeroH]) rfl ⟨rfl, pa, v, H1.out⟩
theorem get_yes (h : Sto p X H bys nx l w) (ho : Ok N X) (hN : N < 4294967294) (hh : Nat) (hH : hh < 18446744073709551616) (hb : pb X hh = true) (q : Nat) (hq : pv X hh = q) (x : Hd) (hx : H[q]? = some x) :
    Calls Try.prog 31 #[.pointer (some ⟨p, 0, none⟩), .int .u64 hh] w fun e w' => e = .returned (.tuple #[.agg (h7 x), .bool true]) ∧ Sto p X H bys nx l w' := by
  obtain ⟨pa, v, h⟩ := h
  have hql := (List.getElem?_eq_some_iff.1 hx).1
  have h1 := h.step ((Ext.refl w).alloc (.cells #[.int .u64 0, .int .u64 0, .int .i64 0, .int .u8 0, .int .u64 0, .int .u64 0, .int .u64 0] 72))
  have h2 := h.step ((Ext.refl w).alloc (.cells (h7 x) 72))
  obtain ⟨g, cap, rfl, hcap, _⟩ := own_cap h1.third.row (by omega)
  obtain ⟨s0, s1, s2, s3, s4, s5, s6⟩ := row_hd h1.third.row hx
  obtain ⟨c0, c1, c2, c3, f⟩ := Own.blk4 h1 (.head _)
  have HS := Lib.hid (snone_any (cs := #[]) h1 (.head _))
  have HP := Lib.hid (own_place' hh h1.swap ho hN hH hq hb)
  have H2 := Lib.hid h2
  have qi : (q : Int) < (H.length : Int) := by omega
  obtain ⟨k, c, len, pr, at_, seq, came⟩ := x
  clear h h1 h2 f hb hH hq hx ho
  go_enter Try.func31, Try.ntmps31
  go_wp2_with (first
    | (go_at_call 45; refine (HS.out).mono ?_; rintro e w' ⟨rfl, rfl⟩)
    | (go_at_call 14; refine (HP.out).mono ?_; rintro e w' ⟨rfl, rfl⟩))
  exact bodyPost_ret (v := .tuple #[.agg (h7 ⟨k, c, len, pr, at_, seq, came⟩), .bool true]) (by simp [results, Try.results31, go_sem, h7]) rfl ⟨rfl, pa, _, H2.out⟩
end
end Go.Proofs.Ytekdgghekdajbaa.St
