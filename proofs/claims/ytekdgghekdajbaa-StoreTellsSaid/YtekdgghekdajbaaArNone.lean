/- DERIVED. Layer 4 (arena): the law ArenaNone. -/
import Derived.Test.YtekdgghekdajbaaArF
import Derived.LoopN
set_option linter.unusedVariables false
set_option linter.unusedSimpArgs false
set_option maxRecDepth 100000
namespace Go.Proofs.Ytekdgghekdajbaa.Ar
open Go.RowKit Go.Proofs.Ytekdgghekdajbaa

/-- an arena that is none -/
def Nil (w : World) (a : Option Addr) : Prop := Calls Try.prog 42 #[.pointer a] w fun e w' => e = .returned (.bool true) ∧ w = w'
theorem nil_zero (b : Nat) (w : World) (h : w.heap[b]? = some (.cells #[.slice none 0 0, .slice none 0 0, .int .i64 0, .int .i64 0] 61 (0, 0))) : Nil w (some ⟨b, 0, none⟩) := by
  have c2 : w.cell? ⟨b, 2, none⟩ = some (.int .i64 0) := by simp [World.cell?, h]
  clear h
  unfold Nil
  go_enter Try.func42, Try.ntmps42
  go_wp2
  go_ret
  exact ⟨rfl, rfl⟩
theorem nil_handle (a : Option Addr) (q : Int) (w : World) (h : Nil w a) : Calls Try.prog 16 #[.pointer a, .int .i64 q] w fun e w' => e = .returned (.tuple #[.int .u64 0, .bool false]) ∧ w = w' := by
  have H := Lib.hid h
  clear h
  go_enter Try.func16, Try.ntmps16
  go_wp2_with (go_at_call 42; refine (H.out).mono ?_; rintro e w' ⟨rfl, rfl⟩)
  go_ret2
  exact ⟨rfl, rfl⟩
theorem nil_take (a : Option Addr) (w : World) (h : Nil w a) : Calls Try.prog 19 #[.pointer a] w fun e w' => e = .returned (.tuple #[.int .u64 0, .int .i64 1]) ∧ w = w' := by
  have H := Lib.hid h
  clear h
  go_enter Try.func19, Try.ntmps19
  go_wp2_with (go_at_call 42; refine (H.out).mono ?_; rintro e w' ⟨rfl, rfl⟩)
  go_ret2
  exact ⟨rfl, rfl⟩
theorem nil_give (a : Option Addr) (q : Int) (w : World) (h : Nil w a) : Calls Try.prog 15 #[.pointer a, .int .u64 q] w fun e w' => e = .returned (.int .i64 1) ∧ w = w' := by
  have H := Lib.hid h
  clear h
  go_enter Try.func15, Try.ntmps15
  go_wp2_with (go_at_call 42; refine (H.out).mono ?_; rintro e w' ⟨rfl, rfl⟩)
  go_ret
  exact ⟨rfl, rfl⟩
theorem nil_used (a : Option Addr) (w : World) (h : Nil w a) : Calls Try.prog 17 #[.pointer a] w fun e w' => e = .returned (.int .i64 0) ∧ w = w' := by
  have H := Lib.hid h
  clear h
  go_enter Try.func17, Try.ntmps17
  go_wp2_with (go_at_call 42; refine (H.out).mono ?_; rintro e w' ⟨rfl, rfl⟩)
  go_ret
  exact ⟨rfl, rfl⟩
theorem nil_room (a : Option Addr) (w : World) (h : Nil w a) : Calls Try.prog 28 #[.pointer a] w fun e w' => e = .returned (.int .i64 0) ∧ w = w' := by
  have H := Lib.hid h
  clear h
  go_enter Try.func28, Try.ntmps28
  go_wp2_with (go_at_call 42; refine (H.out).mono ?_; rintro e w' ⟨rfl, rfl⟩)
  go_ret
  exact ⟨rfl, rfl⟩
theorem nil_place (a : Option Addr) (q : Int) (w : World) (h : Nil w a) : Calls Try.prog 14 #[.pointer a, .int .u64 q] w fun e w' => e = .returned (.tuple #[.int .i64 0, .bool false]) ∧ w = w' := by
  have H := Lib.hid h
  clear h
  go_enter Try.func14, Try.ntmps14
  go_wp2_with (go_at_call 16; refine (nil_handle _ _ _ H.out).mono ?_; rintro e w' ⟨rfl, rfl⟩)
  go_ret2
  exact ⟨rfl, rfl⟩
theorem own_used' {N p a : Nat} {X : A} {l : List HP} {w : World} (h : Own (Arena p X :: l) w) (ho : Ok N X) (h1 : X.used = a) :
    Calls Try.prog 17 #[.pointer (some ⟨p, 0, none⟩)] w fun e w' => e = .returned (.int .i64 a) ∧ w = w' := by
  subst h1
  exact own_used h ho
theorem hb_fresh (r : Nat) (q : Int) : hb (fresh r) q = false := by simp [hb, fresh]
theorem hv_fresh (r : Nat) (q : Int) : hv (fresh r) q = 0 := by unfold hv; rw [hb_fresh]; rfl
theorem pb_fresh (r : Nat) (H : Int) : pb (fresh r) H = false := by unfold pb; rw [hb_fresh]; rfl
theorem pv_fresh (r : Nat) (H : Int) : pv (fresh r) H = 0 := by unfold pv; rw [pb_fresh]; rfl
theorem gvE_fresh (r H : Nat) : gvE (fresh r) H = 40 := by unfold gvE; rw [pb_fresh]; rfl
theorem gvA_fresh (r H : Nat) : gvA (fresh r) H = fresh r := by unfold gvA; rw [pb_fresh]; rfl
theorem none_of (h place : Int) (w1 : (Lit.int .u64 h).wf = true) (w2 : (Lit.int .i64 place).wf = true) (w : World) :
    Calls Try.prog 7 #[.int .u64 h, .int .i64 place] w fun e w' => e = .returned (.bool true) ∧ Ext w w' := by
  obtain ⟨l1, u1⟩ := u64_bd w1
  obtain ⟨H, rfl⟩ := Int.eq_ofNat_of_zero_le l1
  clear w1 w2 l1
  have H0 := Lib.hid (Own.start w)
  go_enter Try.func7, Try.ntmps7
  go_wp2_with (go_at_call 20; refine (own_new 7 (by omega) (by omega) H0.out).mono ?_; rintro e w1 ⟨p, rfl, h1, _⟩; have H := Lib.hid h1; clear h1)
  refine wp_loop_rounds 4 ?_
  rw [rounds_succ]
  have HN := Lib.hid (none_nil ((w1.alloc (.cells #[.slice none 0 0, .slice none 0 0, .int .i64 0, .int .i64 0] 61)).alloc (.cells #[.pointer none, .pointer (some ⟨w1.heap.size, 0, none⟩), .pointer (some ⟨p, 0, none⟩)] 23)))
  go_wp2_with (first
    | (go_at_call 16; refine (nil_handle _ _ _ HN.out).mono ?_; rintro e w' ⟨rfl, rfl⟩)
    | (go_at_call 14; refine (nil_place _ _ _ HN.out).mono ?_; rintro e w' ⟨rfl, rfl⟩)
    | (go_at_call 15; refine (nil_give _ _ _ HN.out).mono ?_; rintro e w' ⟨rfl, rfl⟩)
    | (go_at_call 19; refine (nil_take _ _ HN.out).mono ?_; rintro e w' ⟨rfl, rfl⟩)
    | (go_at_call 17; refine (nil_used _ _ HN.out).mono ?_; rintro e w' ⟨rfl, rfl⟩)
    | (go_at_call 28; refine (nil_room _ _ HN.out).mono ?_; rintro e w' ⟨rfl, rfl⟩))
  rw [rounds_succ]
  have hx : Ext w1 ((w1.alloc (.cells #[.slice none 0 0, .slice none 0 0, .int .i64 0, .int .i64 0] 61)).alloc (.cells #[.pointer none, .pointer (some ⟨w1.heap.size, 0, none⟩), .pointer (some ⟨p, 0, none⟩)] 23)) := ((Ext.refl _).alloc _).alloc _
  replace H := Lib.hid (H.out.step hx)
  clear HN hx
  have HN := Lib.hid (nil_zero w1.heap.size ((w1.alloc (.cells #[.slice none 0 0, .slice none 0 0, .int .i64 0, .int .i64 0] 61)).alloc (.cells #[.pointer none, .pointer (some ⟨w1.heap.size, 0, none⟩), .pointer (some ⟨p, 0, none⟩)] 23)) (((Ext.refl _).alloc _).heap (heap_alloc_new w1 _)))
  go_wp2_with (first
    | (go_at_call 16; refine (nil_handle _ _ _ HN.out).mono ?_; rintro e w' ⟨rfl, rfl⟩)
    | (go_at_call 14; refine (nil_place _ _ _ HN.out).mono ?_; rintro e w' ⟨rfl, rfl⟩)
    | (go_at_call 15; refine (nil_give _ _ _ HN.out).mono ?_; rintro e w' ⟨rfl, rfl⟩)
    | (go_at_call 19; refine (nil_take _ _ HN.out).mono ?_; rintro e w' ⟨rfl, rfl⟩)
    | (go_at_call 17; refine (nil_used _ _ HN.out).mono ?_; rintro e w' ⟨rfl, rfl⟩)
    | (go_at_call 28; refine (nil_room _ _ HN.out).mono ?_; rintro e w' ⟨rfl, rfl⟩))
  rw [rounds_succ]
  clear HN
  have hf := ok_fresh 7 (by omega) (by omega)
  have HH := Lib.hid u1
  go_wp2_with (first
    | (go_at_call 16; refine (own_handle' _ H.out hf (by omega) (hv_fresh 7 _) (hb_fresh 7 _)).mono ?_; rintro e w' ⟨rfl, rfl⟩)
    | (go_at_call 14; refine (own_place' _ H.out hf (by omega) (by have := HH.out; omega) (pv_fresh 7 _) (pb_fresh 7 _)).mono ?_; rintro e w' ⟨rfl, rfl⟩)
    | (go_at_call 15; refine (own_give' _ H.out hf (by omega) (by have := HH.out; omega) (gvE_fresh 7 _) (gvA_fresh 7 _)).mono ?_; rintro e w2 ⟨rfl, h2⟩; replace H := Lib.hid h2; clear h2)
    | (go_at_call 17; refine (own_used' (a := 0) H.out hf rfl).mono ?_; rintro e w' ⟨rfl, rfl⟩)
    | (go_at_call 19; refine (own_take H.out hf (by omega)).mono ?_; rintro e w3 ⟨rfl, h3⟩; replace H := Lib.hid h3; clear h3))
  rw [rounds_succ]
  go_wp2_with (go_at_call 18; refine (awake_any H.out).mono ?_; rintro e w4 ⟨rfl, h4⟩)
  go_ret
  exact ⟨rfl, h4.ext (by simp)⟩
end Go.Proofs.Ytekdgghekdajbaa.Ar
