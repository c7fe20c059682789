/- DERIVED. Layer 10 (store): a store in memory; contracts of New, Put, Get, Free. -/
import Derived.Test.YtekdgghekdajbaaBlk
import Derived.Test.YtekdgghekdajbaaArTurn
import Derived.BigRegion
import Derived.LoopN
set_option linter.unusedVariables false
set_option linter.unusedSimpArgs false
set_option maxRecDepth 100000
namespace Go.Proofs.Ytekdgghekdajbaa.St
open Go.RowKit Go.Proofs.Ytekdgghekdajbaa Go.Proofs.Ytekdgghekdajbaa.Ar

/-- a packet that is held -/
structure Hd where
  k : Int
  c : Int
  len : Int
  pr : Int
  at_ : Int
  seq : Int
  came : Int
def hc (h : Hd) : List Value := [.int .u64 h.k, .int .u64 h.c, .int .i64 h.len, .int .u8 h.pr, .int .u64 h.at_, .int .u64 h.seq, .int .u64 h.came]
theorem hc_len (h : Hd) : (hc h).length = 7 := rfl
abbrev hagg (h : Hd) : Value := .agg #[.int .u64 h.k, .int .u64 h.c, .int .i64 h.len, .int .u8 h.pr, .int .u64 h.at_, .int .u64 h.seq, .int .u64 h.came]
def zeroH : Hd := ⟨0, 0, 0, 0, 0, 0, 0⟩
/-- a store: its object, its arena, its row -/
def Sto (p : Nat) (X : A) (H : List Hd) (bys nx : Int) (l : List HP) (w : World) : Prop :=
  ∃ pa v, Own (Blk p #[.pointer (some ⟨pa, 0, none⟩), v, .int .i64 bys, .int .u64 nx] 97 :: Arena pa X :: Row 72 7 v H.length (H.flatMap hc) :: l) w
theorem infoHeld : (Try.prog.info? 72).map (fun i => (i.zero, i.size, i.bytes)) = some (some (.agg #[.int .u64 0, .int .u64 0, .int .i64 0, .int .u8 0, .int .u64 0, .int .u64 0, .int .u64 0]), 7, 56) := by kernel_rfl
section
variable {p pa N : Nat} {v : Value} {X : A} {H : List Hd} {bys nx : Int} {l : List HP} {w : World}
theorem snone_any {cs : Array Value} (h : Own l w) (hm : Blk p #[.pointer (some ⟨pa, 0, none⟩), v, .int .i64 bys, .int .u64 nx] 97 ∈ l) :
    Calls Try.prog 45 #[.pointer (some ⟨p, 0, none⟩)] w fun e w' => e = .returned (.bool false) ∧ w = w' := by
  obtain ⟨c0, c1, c2, c3, f⟩ := Own.blk4 h hm
  clear h f
  go_enter Try.func45, Try.ntmps45
  go_wp2
  go_ret
  exact ⟨rfl, rfl⟩
theorem snew_any (r : Nat) (h1 : 1 ≤ r) (h2 : r ≤ 65536) (h : Own l w) :
    Calls Try.prog 29 #[.int .i64 r] w fun e w' => ∃ p, e = .returned (.tuple #[.pointer (some ⟨p, 0, none⟩), .int .i64 0]) ∧ Sto p (fresh r) [] 0 1 l w' := by
  have H0 := Lib.hid h
  clear h
  go_enter Try.func29, Try.ntmps29
  go_wp2_with fail
  refine (own_new r h1 h2 (H0.out.nilRow 72 7)).mono ?_
  rintro e w1 ⟨pa, rfl, hw, _⟩
  have HW := Lib.hid (Own.blkNew hw #[.pointer (some ⟨pa, 0, none⟩), .slice none 0 0, .int .i64 0, .int .u64 1] 97)
  clear hw
  go_wp2
  go_ret2
  exact ⟨_, rfl, pa, .slice none 0 0, HW.out⟩
theorem snew_not (r : Int) (h : r < 1 ∨ 65536 < r) (w : World) :
    Calls Try.prog 29 #[.int .i64 r] w fun e w' => e = .returned (.tuple #[.pointer none, .int .i64 2]) ∧ w = w' := by
  go_enter Try.func29, Try.ntmps29
  go_wp2_with (go_at_call 20; refine (Ar.new_not r h _).mono ?_; rintro e w' ⟨rfl, rfl⟩)
  go_ret2
  exact ⟨rfl, rfl⟩
/-- a packet -/
abbrev pk (k c len pr at_ : Int) : Value := .agg #[.int .u64 k, .int .u64 c, .int .i64 len, .int .u8 pr, .int .u64 at_]
def bad (len pr : Int) : Bool := decide (len < 1) || (decide (65536 < len) || decide (15 < pr))
theorem put_arg (h : Sto p X H bys nx l w) (k c len pr at_ now : Int) (hb : bad len pr = true) :
    Calls Try.prog 30 #[.pointer (some ⟨p, 0, none⟩), pk k c len pr at_, .int .u64 now] w fun e w' => e = .returned (.tuple #[.int .u64 0, .int .i64 2]) ∧ Sto p X H bys nx l w' := by
  obtain ⟨pa, v, h⟩ := h
  have h1 := h.step ((Ext.refl w).alloc (.cells #[.int .u64 k, .int .u64 c, .int .i64 len, .int .u8 pr, .int .u64 at_] 69))
  have HS := Lib.hid (snone_any (cs := #[]) h1 (.head _))
  have H1 := Lib.hid h1
  clear h h1
  unfold bad at hb
  by_cases l1 : len < 1
  · clear hb
    go_enter Try.func30, Try.ntmps30
    go_wp2_with (go_at_call 45; refine (HS.out).mono ?_; rintro e w' ⟨rfl, rfl⟩)
    go_ret2
    exact ⟨rfl, pa, v, H1.out⟩
  · have d1 : decide (len < 1) = false := by simpa using l1
    by_cases l2 : 65536 < len
    · clear hb
      go_enter Try.func30, Try.ntmps30
      go_wp2_with (go_at_call 45; refine (HS.out).mono ?_; rintro e w' ⟨rfl, rfl⟩)
      go_ret2
      exact ⟨rfl, pa, v, H1.out⟩
    · have d2 : decide (65536 < len) = false := by simpa using l2
      have l3 : 15 < pr := by simpa [l1, l2] using hb
      clear hb
      go_enter Try.func30, Try.ntmps30
      go_wp2_with (go_at_call 45; refine (HS.out).mono ?_; rintro e w' ⟨rfl, rfl⟩)
      go_ret2
      exact ⟨rfl, pa, v, H1.out⟩
theorem put_full (h : Sto p X H bys nx l w) (ho : Ok N X) (hN : N < 4294967294) (hu : X.used = X.room) (k c len pr at_ now : Int) (hb : bad len pr = false) :
    Calls Try.prog 30 #[.pointer (some ⟨p, 0, none⟩), pk k c len pr at_, .int .u64 now] w fun e w' => e = .returned (.tuple #[.int .u64 0, .int .i64 4]) ∧ Sto p X H bys nx l w' := by
  obtain ⟨pa, v, h⟩ := h
  have h1 := h.step ((Ext.refl w).alloc (.cells #[.int .u64 k, .int .u64 c, .int .i64 len, .int .u8 pr, .int .u64 at_] 69))
  obtain ⟨c0, c1, c2, c3, f⟩ := Own.blk4 h1 (.head _)
  have HS := Lib.hid (snone_any (cs := #[]) h1 (.head _))
  have H1 := Lib.hid h1
  unfold bad at hb
  simp only [Bool.or_eq_false_iff, decide_eq_false_iff_not] at hb
  obtain ⟨l1, l2, l3⟩ := hb
  have d1 : decide (len < 1) = false := by simpa using l1
  have d2 : decide (65536 < len) = false := by simpa using l2
  have d3 : decide (15 < pr) = false := by simpa using l3
  have e1 : tkH X = 0 := by unfold tkH; rw [if_pos hu]
  have e2 : tkE X = 4 := by unfold tkE; rw [if_pos hu]
  have e3 : tkA X = X := by unfold tkA; rw [if_pos hu]
  have HT := Lib.hid (own_take' h1.swap ho hN e1 e2 e3)
  clear h h1 f e1 e2 e3 hu
  go_enter Try.func30, Try.ntmps30
  go_wp2_with (first
    | (go_at_call 45; refine (HS.out).mono ?_; rintro e w' ⟨rfl, rfl⟩)
    | (go_at_call 19; refine (HT.out).mono ?_; rintro e w2 ⟨rfl, h2⟩))
  go_ret2
  exact ⟨rfl, pa, v, h2.swap⟩
end
end Go.Proofs.Ytekdgghekdajbaa.St
