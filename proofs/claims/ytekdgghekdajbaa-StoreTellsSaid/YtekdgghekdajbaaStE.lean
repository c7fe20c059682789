/- DERIVED. Layer 10 (store): a store that is none; the chapter's examples; the law StoreNone. -/
import Derived.Test.YtekdgghekdajbaaStD
set_option linter.unusedVariables false
set_option linter.unusedSimpArgs false
set_option maxRecDepth 100000
namespace Go.Proofs.Ytekdgghekdajbaa.St
open Go.RowKit Go.Proofs.Ytekdgghekdajbaa Go.Proofs.Ytekdgghekdajbaa.Ar

def NilIn (l : List HP) (a : Option Addr) : Prop := ∀ w, Own l w → Calls Try.prog 45 #[.pointer a] w fun e w' => e = .returned (.bool true) ∧ w = w'
theorem nilIn_none (l : List HP) : NilIn l none := by
  intro w h
  clear h
  go_enter Try.func45, Try.ntmps45
  go_wp2
  go_ret
  exact ⟨rfl, rfl⟩
abbrev zeroT : Array Value := #[.pointer none, .slice none 0 0, .int .i64 0, .int .u64 0]
theorem nilIn_zero (l : List HP) (b : Nat) (hm : Blk b zeroT 97 ∈ l) : NilIn l (some ⟨b, 0, none⟩) := by
  intro w h
  have hb := Own.blk h hm
  have c0 : w.cell? ⟨b, 0, none⟩ = some (.pointer none) := by simp [World.cell?, hb]
  clear h hb
  go_enter Try.func45, Try.ntmps45
  go_wp2
  go_ret
  exact ⟨rfl, rfl⟩
section
variable {l : List HP} {a : Option Addr} {w : World}
theorem nil_put (hn : NilIn l a) (h : Own l w) (k c len pr at_ now : Int) :
    Calls Try.prog 30 #[.pointer a, pk k c len pr at_, .int .u64 now] w fun e w' => e = .returned (.tuple #[.int .u64 0, .int .i64 1]) ∧ Own l w' := by
  have H := Lib.hid (h.step ((Ext.refl w).alloc (.cells #[.int .u64 k, .int .u64 c, .int .i64 len, .int .u8 pr, .int .u64 at_] 69)))
  have HN := Lib.hid hn
  clear h hn
  go_enter Try.func30, Try.ntmps30
  go_wp2_with (go_at_call 45; refine (HN.out _ H.out).mono ?_; rintro e w' ⟨rfl, rfl⟩)
  go_ret2
  exact ⟨rfl, H.out⟩
theorem nil_get (hn : NilIn l a) (h : Own l w) (hh : Int) :
    Calls Try.prog 31 #[.pointer a, .int .u64 hh] w fun e w' => e = .returned (.tuple #[.agg #[.int .u64 0, .int .u64 0, .int .i64 0, .int .u8 0, .int .u64 0, .int .u64 0, .int .u64 0], .bool false]) ∧ Own l w' := by
  have H := Lib.hid (h.step ((Ext.refl w).alloc (.cells #[.int .u64 0, .int .u64 0, .int .i64 0, .int .u8 0, .int .u64 0, .int .u64 0, .int .u64 0] 72)))
  have HN := Lib.hid hn
  clear h hn
  go_enter Try.func31, Try.ntmps31
  go_wp2_with (go_at_call 45; refine (HN.out _ H.out).mono ?_; rintro e w' ⟨rfl, rfl⟩)
  exact bodyPost_ret (v := .tuple #[.agg #[.int .u64 0, .int .u64 0, .int .i64 0, .int .u8 0, .int .u64 0, .int .u64 0, .int .u64 0], .bool false]) (by simp [results, Try.results31, go_sem]) rfl ⟨rfl, H.out⟩
theorem nil_free (hn : NilIn l a) (h : Own l w) (hh : Int) :
    Calls Try.prog 34 #[.pointer a, .int .u64 hh] w fun e w' => e = .returned (.tuple #[.agg #[.int .u64 0, .int .u64 0, .int .i64 0, .int .u8 0, .int .u64 0, .int .u64 0, .int .u64 0], .bool false]) ∧ Own l w' := by
  have h1 := Own.blkNew h #[.int .u64 0, .int .u64 0, .int .i64 0, .int .u8 0, .int .u64 0, .int .u64 0, .int .u64 0] 72
  have hn1 : NilIn (Blk w.heap.size #[.int .u64 0, .int .u64 0, .int .i64 0, .int .u8 0, .int .u64 0, .int .u64 0, .int .u64 0] 72 :: l) a := fun w' h' => hn w' h'.drop
  have HG := Lib.hid (nil_get hn1 h1 hh)
  clear h h1 hn hn1
  go_enter Try.func34, Try.ntmps34
  go_wp2_with fail
  refine (HG.out).mono ?_
  rintro e w2 ⟨rfl, h2⟩
  have h3 := Own.blkNew h2 #[.int .u64 0, .int .u64 0, .int .i64 0, .int .u8 0, .int .u64 0, .int .u64 0, .int .u64 0] 72
  obtain ⟨w3, e3⟩ : ∃ w3, w2.alloc (.cells #[.int .u64 0, .int .u64 0, .int .i64 0, .int .u8 0, .int .u64 0, .int .u64 0, .int .u64 0] 72) = w3 := ⟨_, rfl⟩
  rw [e3] at h3
  have E3 := Lib.hid e3
  clear e3
  obtain ⟨a0, a1, a2, a3, a4, a5, a6, af⟩ := Own.blk7 (b := w.heap.size) (x0 := .int .u64 0) (x1 := .int .u64 0) (x2 := .int .i64 0) (x3 := .int .u8 0) (x4 := .int .u64 0) (x5 := .int .u64 0) (x6 := .int .u64 0) (t := 72) h3 (by simp)
  obtain ⟨y0, y1, y2, y3, y4, y5, y6, yf⟩ := Own.blk7 (b := w2.heap.size) (x0 := .int .u64 0) (x1 := .int .u64 0) (x2 := .int .i64 0) (x3 := .int .u8 0) (x4 := .int .u64 0) (x5 := .int .u64 0) (x6 := .int .u64 0) (t := 72) h3 (by simp)
  have f0 := af 0
  have f1 := af 1
  have f2 := af 2
  have f3 := af 3
  have f4 := af 4
  have f5 := af 5
  have f6 := af 6
  have FIN := Lib.hid (Own.blkSet7 h3.drop (.int .u64 0) (.int .u64 0) (.int .i64 0) (.int .u8 0) (.int .u64 0) (.int .u64 0) (.int .u64 0))
  clear yf af h2 h3 HG
  go_upto_if 14 with fail
  rw [E3.out]
  go_wp2_with fail
  exact bodyPost_ret (v := .tuple #[.agg #[.int .u64 0, .int .u64 0, .int .i64 0, .int .u8 0, .int .u64 0, .int .u64 0, .int .u64 0], .bool false]) (by simp [results, Try.results34, go_sem, a0, a1, a2, a3, a4, a5, a6]) rfl ⟨rfl, FIN.out⟩
theorem nil_count (hn : NilIn l a) (h : Own l w) :
    Calls Try.prog 32 #[.pointer a] w fun e w' => e = .returned (.int .i64 0) ∧ Own l w' := by
  have H := Lib.hid h
  have HN := Lib.hid hn
  clear h hn
  go_enter Try.func32, Try.ntmps32
  go_wp2_with (go_at_call 45; refine (HN.out _ H.out).mono ?_; rintro e w' ⟨rfl, rfl⟩)
  go_ret
  exact ⟨rfl, H.out⟩
theorem nil_bytes (hn : NilIn l a) (h : Own l w) :
    Calls Try.prog 39 #[.pointer a] w fun e w' => e = .returned (.int .i64 0) ∧ Own l w' := by
  have H := Lib.hid h
  have HN := Lib.hid hn
  clear h hn
  go_enter Try.func39, Try.ntmps39
  go_wp2_with (go_at_call 45; refine (HN.out _ H.out).mono ?_; rintro e w' ⟨rfl, rfl⟩)
  go_ret
  exact ⟨rfl, H.out⟩
theorem nil_next (hn : NilIn l a) (h : Own l w) :
    Calls Try.prog 41 #[.pointer a] w fun e w' => e = .returned (.int .u64 0) ∧ Own l w' := by
  have H := Lib.hid h
  have HN := Lib.hid hn
  clear h hn
  go_enter Try.func41, Try.ntmps41
  go_wp2_with (go_at_call 45; refine (HN.out _ H.out).mono ?_; rintro e w' ⟨rfl, rfl⟩)
  go_ret
  exact ⟨rfl, H.out⟩
end
section
variable {p N : Nat} {X : A} {H : List Hd} {bys nx : Int} {l : List HP} {w : World}
theorem put_ok' {Y : A} {H' : List Hd} {hh : Nat} {k c len pr at_ now b n : Int} (h : Sto p X H bys nx l w) (ho : Ok N X) (hN : N < 100000000) (hX : H.length = X.st.length) (hu : X.used < X.room) (hb : bad len pr = false) (b0 : 0 ≤ bys) (b1 : bys ≤ 100000000000) (n0 : 0 ≤ nx) (n1 : nx ≤ 100000000000)
    (e1 : tk X = Y) (e2 : hdl (tk X) (tq X) = hh) (e3 : putH H (tq X) ⟨k, c, len, pr, at_, nx, now⟩ = H') (e4 : bys + len = b) (e5 : nx + 1 = n) :
    Calls Try.prog 30 #[.pointer (some ⟨p, 0, none⟩), .agg #[.int .u64 k, .int .u64 c, .int .i64 len, .int .u8 pr, .int .u64 at_], .int .u64 now] w fun e w' => e = .returned (.tuple #[.int .u64 ((hh : Nat) : Int), .int .i64 0]) ∧ Sto p Y H' b n l w' := by
  subst e1 e2 e3 e4 e5
  exact put_ok h ho hN hX hu k c len pr at_ now hb b0 b1 n0 n1
end
set_option maxHeartbeats 4000000 in
theorem awake_any {l : List HP} {w : World} (h : Own l w) :
    Calls Try.prog 33 #[] w fun e w' => e = .returned (.bool true) ∧ Own l w' := by
  have o0 := ok_fresh 2 (by decide) (by decide)
  have o1 := (take_spec o0 (by decide)).2
  rw [show tk (fresh 2) = ⟨[1], [], 2, 1⟩ from rfl] at o1
  have o2 := (take_spec o1 (by decide)).2
  rw [show tk ⟨[1], [], 2, 1⟩ = ⟨[1, 1], [], 2, 2⟩ from rfl] at o2
  have o3 := (give_spec o2 0 (by decide) (by decide)).1
  rw [show gv ⟨[1, 1], [], 2, 2⟩ 0 = ⟨[2, 1], [0], 2, 1⟩ from rfl] at o3
  have o4 := (take_spec o3 (by decide)).2
  rw [show tk ⟨[2, 1], [0], 2, 1⟩ = ⟨[3, 1], [], 2, 2⟩ from rfl] at o4
  have O0 := Lib.hid o0
  have O1 := Lib.hid o1
  have O2 := Lib.hid o2
  have O3 := Lib.hid o3
  have O4 := Lib.hid o4
  have H := Lib.hid h
  clear h o0 o1 o2 o3 o4
  go_enter Try.func33, Try.ntmps33
  go_wp2_with fail
  refine (snew_any 2 (by omega) (by omega) H.out).mono ?_
  rintro e w1 ⟨p, rfl, h1⟩
  have H1 := Lib.hid h1
  clear h1 H
  go_wp2_with fail
  refine (put_ok' (Y := ⟨[1], [], 2, 1⟩) (H' := [⟨0, 0, 100, 0, 0, 1, 5⟩]) (hh := 1) (b := 100) (n := 2) (now := 5) (len := 100) (k := 0) (c := 0) (pr := 0) (at_ := 0) H1.out O0.out (by omega) rfl (by decide) (by decide) (by omega) (by omega) (by omega) (by omega) rfl (by decide) rfl rfl rfl).mono ?_
  rintro e w2 ⟨rfl, h2⟩
  have H2 := Lib.hid h2
  clear h2 H1
  go_wp2_with fail
  refine (put_ok' (Y := ⟨[1, 1], [], 2, 2⟩) (H' := [⟨0, 0, 100, 0, 0, 1, 5⟩, ⟨0, 0, 50, 0, 0, 2, 6⟩]) (hh := 2) (b := 150) (n := 3) (now := 6) (len := 50) (k := 0) (c := 0) (pr := 0) (at_ := 0) H2.out O1.out (by omega) rfl (by decide) (by decide) (by omega) (by omega) (by omega) (by omega) rfl (by decide) rfl rfl rfl).mono ?_
  rintro e w3 ⟨rfl, h3⟩
  have H3 := Lib.hid h3
  clear h3 H2
  go_wp2_with fail
  refine (put_full H3.out O2.out (by omega) rfl 0 0 1 0 0 7 (by decide)).mono ?_
  rintro e w4 ⟨rfl, h4⟩
  have H4 := Lib.hid h4
  clear h4 H3
  go_wp2_with fail
  refine (bytes_any H4.out).mono ?_
  rintro e w' ⟨rfl, rfl⟩
  go_wp2_with fail
  refine (count_any H4.out O2.out).mono ?_
  rintro e w' ⟨rfl, rfl⟩
  go_wp2_with fail
  refine (free_yes H4.out O2.out (by omega) 1 (by omega) (by decide) 0 (by decide) ⟨0, 0, 100, 0, 0, 1, 5⟩ rfl (by omega) (by omega) (by decide) (by decide)).mono ?_
  rintro e w5 ⟨rfl, h5⟩
  have H5 := Lib.hid (show Sto p ⟨[2, 1], [0], 2, 1⟩ [⟨0, 0, 100, 0, 0, 1, 5⟩, ⟨0, 0, 50, 0, 0, 2, 6⟩] 50 3 l w5 from h5)
  have H6 := Lib.hid (H5.out.new #[.int .u64 0, .int .u64 0, .int .i64 100, .int .u8 0, .int .u64 0, .int .u64 1, .int .u64 5] 72)
  clear h5 H4 H5
  go_wp2_with fail
  refine (put_ok' (Y := ⟨[3, 1], [], 2, 2⟩) (H' := [⟨0, 0, 7, 0, 0, 3, 8⟩, ⟨0, 0, 50, 0, 0, 2, 6⟩]) (hh := 4294967297) (b := 57) (n := 4) (now := 8) (len := 7) (k := 0) (c := 0) (pr := 0) (at_ := 0) H6.out O3.out (by omega) rfl (by decide) (by decide) (by omega) (by omega) (by omega) (by omega) rfl (by decide) rfl rfl rfl).mono ?_
  rintro e w6 ⟨rfl, h6⟩
  have H7 := Lib.hid h6
  clear h6 H6
  go_wp2_with fail
  refine (get_yes H7.out O4.out (by omega) 4294967297 (by omega) (by decide) 0 (by decide) ⟨0, 0, 7, 0, 0, 3, 8⟩ rfl).mono ?_
  rintro e w7 ⟨rfl, h7'⟩
  have H8 := Lib.hid (h7'.new #[.int .u64 0, .int .u64 0, .int .i64 7, .int .u8 0, .int .u64 0, .int .u64 3, .int .u64 8] 72)
  clear h7' H7
  go_wp2_with fail
  refine (get_no H8.out O4.out (by omega) 1 (by omega) (by decide)).mono ?_
  rintro e w8 ⟨rfl, h8⟩
  have H9 := Lib.hid (h8.new #[.int .u64 0, .int .u64 0, .int .i64 0, .int .u8 0, .int .u64 0, .int .u64 0, .int .u64 0] 72)
  clear h8 H8
  go_wp2_with fail
  refine (put_arg H9.out 0 0 0 0 0 8 (by decide)).mono ?_
  rintro e w9 ⟨rfl, h9⟩
  have H10 := Lib.hid h9
  obtain ⟨x0, x1, x2, x3, x4, x5, x6, xf⟩ := Own.blk7 (b := w5.heap.size) (x0 := .int .u64 0) (x1 := .int .u64 0) (x2 := .int .i64 100) (x3 := .int .u8 0) (x4 := .int .u64 0) (x5 := .int .u64 1) (x6 := .int .u64 5) (t := 72) h9.own (by simp)
  obtain ⟨y0, y1, y2, y3, y4, y5, y6, yf⟩ := Own.blk7 (b := w7.heap.size) (x0 := .int .u64 0) (x1 := .int .u64 0) (x2 := .int .i64 7) (x3 := .int .u8 0) (x4 := .int .u64 0) (x5 := .int .u64 3) (x6 := .int .u64 8) (t := 72) h9.own (by simp)
  clear h9 H9 xf yf
  go_wp2_with fail
  refine (snew_not 0 (.inl (by omega)) _).mono ?_
  rintro e w' ⟨rfl, rfl⟩
  go_wp2_with fail
  go_ret
  exact ⟨rfl, H10.out.own.drop.drop.drop⟩
theorem Own.blkP {l : List HP} {w : World} {b : Nat} {x y : Value} {t : TypeId} (h : Own l w) (hm : Blk b #[x, y] t ∈ l) :
    w.cell? ⟨b, 0, none⟩ = some x ∧ w.cell? ⟨b, 1, none⟩ = some y := by
  simp [World.cell?, Own.blk h hm]
set_option maxHeartbeats 4000000 in
theorem none_of (k c len pr at_ h : Int) (w1' : (Lit.int .u64 k).wf = true) (w2' : (Lit.int .u64 c).wf = true) (w3' : (Lit.int .i64 len).wf = true) (w4' : (Lit.int .u8 pr).wf = true) (w5' : (Lit.int .u64 at_).wf = true) (w6' : (Lit.int .u64 h).wf = true) (w : World) :
    Calls Try.prog 12 #[.agg #[.int .u64 k, .int .u64 c, .int .i64 len, .int .u8 pr, .int .u64 at_], .int .u64 h] w fun e w' => e = .returned (.bool true) ∧ Ext w w' := by
  clear w1' w2' w3' w4' w5' w6'
  have h0 := Own.blkNew (Own.start w) #[.int .u64 k, .int .u64 c, .int .i64 len, .int .u8 pr, .int .u64 at_] 69
  obtain ⟨w1, ew1⟩ : ∃ w1, w.alloc (.cells #[.int .u64 k, .int .u64 c, .int .i64 len, .int .u8 pr, .int .u64 at_] 69) = w1 := ⟨_, rfl⟩
  rw [ew1] at h0
  have h1 := Own.blkNew h0 zeroT 97
  obtain ⟨w2, ew2⟩ : ∃ w2, w1.alloc (.cells zeroT 97) = w2 := ⟨_, rfl⟩
  rw [ew2] at h1
  have h2 := Own.blkNew h1 #[.pointer none, .pointer (some ⟨w1.heap.size, 0, none⟩)] 65
  obtain ⟨w3, ew3⟩ : ∃ w3, w2.alloc (.cells #[.pointer none, .pointer (some ⟨w1.heap.size, 0, none⟩)] 65) = w3 := ⟨_, rfl⟩
  rw [ew3] at h2
  have H := Lib.hid h2
  clear h0 h1 h2
  go_enter Try.func12, Try.ntmps12
  go_wp2
  refine wp_loop_rounds 3 ?_
  rw [rounds_succ]
  have HN := Lib.hid (nilIn_none [Blk w2.heap.size #[.pointer none, .pointer (some ⟨w1.heap.size, 0, none⟩)] 65, Blk w1.heap.size zeroT 97, Blk w.heap.size #[.int .u64 k, .int .u64 c, .int .i64 len, .int .u8 pr, .int .u64 at_] 69, Old w])
  obtain ⟨k0, k1, k2, k3, k4⟩ := Own.blk5 (b := w.heap.size) (x := .int .u64 k) (y := .int .u64 c) (z := .int .i64 len) (u := .int .u8 pr) (t' := .int .u64 at_) (t := 69) H.out (by simp)
  obtain ⟨p0, p1⟩ := Own.blkP (b := w2.heap.size) (x := .pointer none) (y := .pointer (some ⟨w1.heap.size, 0, none⟩)) (t := 65) H.out (by simp)
  clear ew1 ew2 ew3
  go_wp2_with fail
  refine (nil_put HN.out H.out k c len pr at_ h).mono ?_
  rintro e w4 ⟨rfl, h4⟩
  replace H := Lib.hid h4
  clear h4
  clear k0 k1 k2 k3 k4 p0 p1
  obtain ⟨k0, k1, k2, k3, k4⟩ := Own.blk5 (b := w.heap.size) (x := .int .u64 k) (y := .int .u64 c) (z := .int .i64 len) (u := .int .u8 pr) (t' := .int .u64 at_) (t := 69) H.out (by simp)
  obtain ⟨p0, p1⟩ := Own.blkP (b := w2.heap.size) (x := .pointer none) (y := .pointer (some ⟨w1.heap.size, 0, none⟩)) (t := 65) H.out (by simp)
  go_wp2_with fail
  refine (nil_get HN.out H.out h).mono ?_
  rintro e w5 ⟨rfl, h5⟩
  replace H := Lib.hid (Own.blkNew h5 #[.int .u64 0, .int .u64 0, .int .i64 0, .int .u8 0, .int .u64 0, .int .u64 0, .int .u64 0] 72)
  replace HN := Lib.hid (show NilIn (Blk w5.heap.size #[.int .u64 0, .int .u64 0, .int .i64 0, .int .u8 0, .int .u64 0, .int .u64 0, .int .u64 0] 72 :: _) _ from fun w' h' => HN.out w' h'.drop)
  clear h5
  clear k0 k1 k2 k3 k4 p0 p1
  obtain ⟨k0, k1, k2, k3, k4⟩ := Own.blk5 (b := w.heap.size) (x := .int .u64 k) (y := .int .u64 c) (z := .int .i64 len) (u := .int .u8 pr) (t' := .int .u64 at_) (t := 69) H.out (by simp)
  obtain ⟨p0, p1⟩ := Own.blkP (b := w2.heap.size) (x := .pointer none) (y := .pointer (some ⟨w1.heap.size, 0, none⟩)) (t := 65) H.out (by simp)
  go_wp2_with fail
  refine (nil_free HN.out H.out h).mono ?_
  rintro e w6 ⟨rfl, h6⟩
  replace H := Lib.hid (h6.step ((Ext.refl w6).alloc (.cells #[.int .u64 0, .int .u64 0, .int .i64 0, .int .u8 0, .int .u64 0, .int .u64 0, .int .u64 0] 72)))
  clear h6
  obtain ⟨x0, x1, x2, x3, x4, x5, x6, xf⟩ := Own.blk7 (b := w5.heap.size) (x0 := .int .u64 0) (x1 := .int .u64 0) (x2 := .int .i64 0) (x3 := .int .u8 0) (x4 := .int .u64 0) (x5 := .int .u64 0) (x6 := .int .u64 0) (t := 72) H.out (.head _)
  clear xf
  clear k0 k1 k2 k3 k4 p0 p1
  obtain ⟨k0, k1, k2, k3, k4⟩ := Own.blk5 (b := w.heap.size) (x := .int .u64 k) (y := .int .u64 c) (z := .int .i64 len) (u := .int .u8 pr) (t' := .int .u64 at_) (t := 69) H.out (by simp)
  obtain ⟨p0, p1⟩ := Own.blkP (b := w2.heap.size) (x := .pointer none) (y := .pointer (some ⟨w1.heap.size, 0, none⟩)) (t := 65) H.out (by simp)
  go_wp2_with fail
  refine (nil_count HN.out H.out).mono ?_
  rintro e w7 ⟨rfl, h7⟩
  clear x0 x1 x2 x3 x4 x5 x6
  replace H := Lib.hid h7
  clear h7
  clear k0 k1 k2 k3 k4 p0 p1
  obtain ⟨k0, k1, k2, k3, k4⟩ := Own.blk5 (b := w.heap.size) (x := .int .u64 k) (y := .int .u64 c) (z := .int .i64 len) (u := .int .u8 pr) (t' := .int .u64 at_) (t := 69) H.out (by simp)
  obtain ⟨p0, p1⟩ := Own.blkP (b := w2.heap.size) (x := .pointer none) (y := .pointer (some ⟨w1.heap.size, 0, none⟩)) (t := 65) H.out (by simp)
  go_wp2_with fail
  refine (nil_bytes HN.out H.out).mono ?_
  rintro e w8 ⟨rfl, h8⟩
  replace H := Lib.hid h8
  clear h8
  clear k0 k1 k2 k3 k4 p0 p1
  obtain ⟨k0, k1, k2, k3, k4⟩ := Own.blk5 (b := w.heap.size) (x := .int .u64 k) (y := .int .u64 c) (z := .int .i64 len) (u := .int .u8 pr) (t' := .int .u64 at_) (t := 69) H.out (by simp)
  obtain ⟨p0, p1⟩ := Own.blkP (b := w2.heap.size) (x := .pointer none) (y := .pointer (some ⟨w1.heap.size, 0, none⟩)) (t := 65) H.out (by simp)
  go_wp2_with fail
  refine (nil_next HN.out H.out).mono ?_
  rintro e w9 ⟨rfl, h9⟩
  replace H := Lib.hid h9
  clear h9
  replace H := Lib.hid H.out.drop
  clear k0 k1 k2 k3 k4 p0 p1
  obtain ⟨k0, k1, k2, k3, k4⟩ := Own.blk5 (b := w.heap.size) (x := .int .u64 k) (y := .int .u64 c) (z := .int .i64 len) (u := .int .u8 pr) (t' := .int .u64 at_) (t := 69) H.out (by simp)
  obtain ⟨p0, p1⟩ := Own.blkP (b := w2.heap.size) (x := .pointer none) (y := .pointer (some ⟨w1.heap.size, 0, none⟩)) (t := 65) H.out (by simp)
  go_wp2_with fail
  rw [rounds_succ]
  clear HN
  have HN := Lib.hid (nilIn_zero [Blk w2.heap.size #[.pointer none, .pointer (some ⟨w1.heap.size, 0, none⟩)] 65, Blk w1.heap.size zeroT 97, Blk w.heap.size #[.int .u64 k, .int .u64 c, .int .i64 len, .int .u8 pr, .int .u64 at_] 69, Old w] w1.heap.size (by simp))
  go_wp2_with fail
  refine (nil_put HN.out H.out k c len pr at_ h).mono ?_
  rintro e w10 ⟨rfl, h10⟩
  replace H := Lib.hid h10
  clear h10
  clear k0 k1 k2 k3 k4 p0 p1
  obtain ⟨k0, k1, k2, k3, k4⟩ := Own.blk5 (b := w.heap.size) (x := .int .u64 k) (y := .int .u64 c) (z := .int .i64 len) (u := .int .u8 pr) (t' := .int .u64 at_) (t := 69) H.out (by simp)
  obtain ⟨p0, p1⟩ := Own.blkP (b := w2.heap.size) (x := .pointer none) (y := .pointer (some ⟨w1.heap.size, 0, none⟩)) (t := 65) H.out (by simp)
  go_wp2_with fail
  refine (nil_get HN.out H.out h).mono ?_
  rintro e w11 ⟨rfl, h11⟩
  replace H := Lib.hid (Own.blkNew h11 #[.int .u64 0, .int .u64 0, .int .i64 0, .int .u8 0, .int .u64 0, .int .u64 0, .int .u64 0] 72)
  replace HN := Lib.hid (show NilIn (Blk w11.heap.size #[.int .u64 0, .int .u64 0, .int .i64 0, .int .u8 0, .int .u64 0, .int .u64 0, .int .u64 0] 72 :: _) _ from fun w' h' => HN.out w' h'.drop)
  clear h11
  clear k0 k1 k2 k3 k4 p0 p1
  obtain ⟨k0, k1, k2, k3, k4⟩ := Own.blk5 (b := w.heap.size) (x := .int .u64 k) (y := .int .u64 c) (z := .int .i64 len) (u := .int .u8 pr) (t' := .int .u64 at_) (t := 69) H.out (by simp)
  obtain ⟨p0, p1⟩ := Own.blkP (b := w2.heap.size) (x := .pointer none) (y := .pointer (some ⟨w1.heap.size, 0, none⟩)) (t := 65) H.out (by simp)
  go_wp2_with fail
  refine (nil_free HN.out H.out h).mono ?_
  rintro e w12 ⟨rfl, h12⟩
  replace H := Lib.hid (h12.step ((Ext.refl w12).alloc (.cells #[.int .u64 0, .int .u64 0, .int .i64 0, .int .u8 0, .int .u64 0, .int .u64 0, .int .u64 0] 72)))
  clear h12
  obtain ⟨x0, x1, x2, x3, x4, x5, x6, xf⟩ := Own.blk7 (b := w11.heap.size) (x0 := .int .u64 0) (x1 := .int .u64 0) (x2 := .int .i64 0) (x3 := .int .u8 0) (x4 := .int .u64 0) (x5 := .int .u64 0) (x6 := .int .u64 0) (t := 72) H.out (.head _)
  clear xf
  clear k0 k1 k2 k3 k4 p0 p1
  obtain ⟨k0, k1, k2, k3, k4⟩ := Own.blk5 (b := w.heap.size) (x := .int .u64 k) (y := .int .u64 c) (z := .int .i64 len) (u := .int .u8 pr) (t' := .int .u64 at_) (t := 69) H.out (by simp)
  obtain ⟨p0, p1⟩ := Own.blkP (b := w2.heap.size) (x := .pointer none) (y := .pointer (some ⟨w1.heap.size, 0, none⟩)) (t := 65) H.out (by simp)
  go_wp2_with fail
  refine (nil_count HN.out H.out).mono ?_
  rintro e w13 ⟨rfl, h13⟩
  clear x0 x1 x2 x3 x4 x5 x6
  replace H := Lib.hid h13
  clear h13
  clear k0 k1 k2 k3 k4 p0 p1
  obtain ⟨k0, k1, k2, k3, k4⟩ := Own.blk5 (b := w.heap.size) (x := .int .u64 k) (y := .int .u64 c) (z := .int .i64 len) (u := .int .u8 pr) (t' := .int .u64 at_) (t := 69) H.out (by simp)
  obtain ⟨p0, p1⟩ := Own.blkP (b := w2.heap.size) (x := .pointer none) (y := .pointer (some ⟨w1.heap.size, 0, none⟩)) (t := 65) H.out (by simp)
  go_wp2_with fail
  refine (nil_bytes HN.out H.out).mono ?_
  rintro e w14 ⟨rfl, h14⟩
  replace H := Lib.hid h14
  clear h14
  clear k0 k1 k2 k3 k4 p0 p1
  obtain ⟨k0, k1, k2, k3, k4⟩ := Own.blk5 (b := w.heap.size) (x := .int .u64 k) (y := .int .u64 c) (z := .int .i64 len) (u := .int .u8 pr) (t' := .int .u64 at_) (t := 69) H.out (by simp)
  obtain ⟨p0, p1⟩ := Own.blkP (b := w2.heap.size) (x := .pointer none) (y := .pointer (some ⟨w1.heap.size, 0, none⟩)) (t := 65) H.out (by simp)
  go_wp2_with fail
  refine (nil_next HN.out H.out).mono ?_
  rintro e w15 ⟨rfl, h15⟩
  replace H := Lib.hid h15
  clear h15
  replace H := Lib.hid H.out.drop
  clear k0 k1 k2 k3 k4 p0 p1
  obtain ⟨k0, k1, k2, k3, k4⟩ := Own.blk5 (b := w.heap.size) (x := .int .u64 k) (y := .int .u64 c) (z := .int .i64 len) (u := .int .u8 pr) (t' := .int .u64 at_) (t := 69) H.out (by simp)
  obtain ⟨p0, p1⟩ := Own.blkP (b := w2.heap.size) (x := .pointer none) (y := .pointer (some ⟨w1.heap.size, 0, none⟩)) (t := 65) H.out (by simp)
  go_wp2_with fail
  rw [rounds_succ]
  go_wp2_with fail
  refine (awake_any H.out).mono ?_
  rintro e w' ⟨rfl, h⟩
  have H' := Lib.hid h
  clear h
  go_wp2_with fail
  go_ret
  exact ⟨rfl, H'.out.ext (by simp)⟩
end Go.Proofs.Ytekdgghekdajbaa.St
