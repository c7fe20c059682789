/- DERIVED. Layer 6 (tree): a tree that is none; the law TreeNone. -/
import Derived.Test.YtekdahppacghbaaTrP
import Derived.LoopN
set_option linter.unusedVariables false
set_option linter.unusedSimpArgs false
set_option maxRecDepth 100000
namespace Go.Proofs.Ytekdahppacghbaa.Tr
open Go.RowKit Go.Proofs.Ytekdahppacghbaa Go.Proofs.Ytekdahppacghbaa.TreeP

/-- a tree that is none, as long as these assertions hold -/
def NilIn (l : List HP) (a : Option Addr) : Prop := ∀ w, Own l w → Calls Try.prog 29 #[.pointer a] w fun e w' => e = .returned (.bool true) ∧ w = w'
theorem nilIn_none (l : List HP) : NilIn l none := by
  intro w h
  clear h
  go_enter Try.func29, Try.ntmps29
  go_wp2
  go_ret
  exact ⟨rfl, rfl⟩
abbrev zeroT : Array Value := #[.slice none 0 0, .slice none 0 0, .int .i64 0, .int .i64 0, .int .i64 0]
theorem nilIn_zero (l : List HP) (b : Nat) (hm : Blk b zeroT 70 ∈ l) : NilIn l (some ⟨b, 0, none⟩) := by
  intro w h
  have hb := Own.blk h hm
  have c0 : w.cell? ⟨b, 0, none⟩ = some (.slice none 0 0) := by simp [World.cell?, hb]
  have he : ∀ w : World, (binOp .eql 67 (.slice none 0 0) (.slice none 0 0)).run Try.prog w = .ok (.bool true) w := fun _ => rfl
  clear h hb
  go_enter Try.func29, Try.ntmps29
  go_wp2
  go_ret
  exact ⟨rfl, rfl⟩
section
variable {l : List HP} {a : Option Addr} {w : World}
theorem nil_put (hn : NilIn l a) (h : Own l w) (x s v : Int) :
    Calls Try.prog 16 #[.pointer a, .agg #[.int .u64 x, .int .u64 s], .int .i64 v] w fun e w' => e = .returned (.int .i64 1) ∧ Own l w' := by
  have H := Lib.hid (h.step ((Ext.refl w).alloc (.cells #[.int .u64 x, .int .u64 s] 25)))
  have HN := Lib.hid hn
  clear h hn
  go_enter Try.func16, Try.ntmps16
  go_wp2_with (go_at_call 29; refine (HN.out _ H.out).mono ?_; rintro e w' ⟨rfl, rfl⟩)
  go_ret
  exact ⟨rfl, H.out⟩
theorem nil_drop (hn : NilIn l a) (h : Own l w) (x s : Int) :
    Calls Try.prog 17 #[.pointer a, .agg #[.int .u64 x, .int .u64 s]] w fun e w' => e = .returned (.tuple #[.int .i64 0, .bool false]) ∧ Own l w' := by
  have H := Lib.hid (h.step ((Ext.refl w).alloc (.cells #[.int .u64 x, .int .u64 s] 25)))
  have HN := Lib.hid hn
  clear h hn
  go_enter Try.func17, Try.ntmps17
  go_wp2_with (go_at_call 29; refine (HN.out _ H.out).mono ?_; rintro e w' ⟨rfl, rfl⟩)
  go_ret2
  exact ⟨rfl, H.out⟩
theorem nil_get (hn : NilIn l a) (h : Own l w) (x s : Int) :
    Calls Try.prog 21 #[.pointer a, .agg #[.int .u64 x, .int .u64 s]] w fun e w' => e = .returned (.tuple #[.int .i64 0, .bool false]) ∧ Own l w' := by
  have H := Lib.hid (h.step ((Ext.refl w).alloc (.cells #[.int .u64 x, .int .u64 s] 25)))
  have HN := Lib.hid hn
  clear h hn
  go_enter Try.func21, Try.ntmps21
  go_wp2_with (go_at_call 29; refine (HN.out _ H.out).mono ?_; rintro e w' ⟨rfl, rfl⟩)
  go_ret2
  exact ⟨rfl, H.out⟩
theorem nil_len (hn : NilIn l a) (h : Own l w) :
    Calls Try.prog 24 #[.pointer a] w fun e w' => e = .returned (.int .i64 0) ∧ Own l w' := by
  have H := Lib.hid h
  have HN := Lib.hid hn
  clear h hn
  go_enter Try.func24, Try.ntmps24
  go_wp2_with (go_at_call 29; refine (HN.out _ H.out).mono ?_; rintro e w' ⟨rfl, rfl⟩)
  go_ret
  exact ⟨rfl, H.out⟩
theorem nil_room (hn : NilIn l a) (h : Own l w) :
    Calls Try.prog 25 #[.pointer a] w fun e w' => e = .returned (.int .i64 0) ∧ Own l w' := by
  have H := Lib.hid h
  have HN := Lib.hid hn
  clear h hn
  go_enter Try.func25, Try.ntmps25
  go_wp2_with (go_at_call 29; refine (HN.out _ H.out).mono ?_; rintro e w' ⟨rfl, rfl⟩)
  go_ret
  exact ⟨rfl, H.out⟩
theorem nil_all (hn : NilIn l a) (h : Own l w) :
    Calls Try.prog 10 #[.pointer a] w fun e w' => e = .returned (.slice none 0 0) ∧ Own l w' := by
  have H := Lib.hid h
  have HN := Lib.hid hn
  clear h hn
  go_enter Try.func10, Try.ntmps10
  go_wp2_with (go_at_call 29; refine (HN.out _ H.out).mono ?_; rintro e w' ⟨rfl, rfl⟩)
  go_ret
  exact ⟨rfl, H.out⟩
theorem nil_shape (hn : NilIn l a) (h : Own l w) :
    Calls Try.prog 26 #[.pointer a] w fun e w' => e = .returned (.slice none 0 0) ∧ Own l w' := by
  have H := Lib.hid h
  have HN := Lib.hid hn
  clear h hn
  go_enter Try.func26, Try.ntmps26
  go_wp2_with (go_at_call 29; refine (HN.out _ H.out).mono ?_; rintro e w' ⟨rfl, rfl⟩)
  go_ret
  exact ⟨rfl, H.out⟩
theorem nil_first (hn : NilIn l a) (h : Own l w) :
    Calls Try.prog 11 #[.pointer a] w fun e w' => e = .returned (.tuple #[.agg #[.int .u64 0, .int .u64 0, .int .i64 0], .bool false]) ∧ Own l w' := by
  have H := Lib.hid (h.step ((Ext.refl w).alloc (.cells #[.int .u64 0, .int .u64 0, .int .i64 0] 31)))
  have HN := Lib.hid hn
  clear h hn
  go_enter Try.func11, Try.ntmps11
  go_wp2_with (go_at_call 29; refine (HN.out _ H.out).mono ?_; rintro e w' ⟨rfl, rfl⟩)
  exact bodyPost_ret (v := .tuple #[ent 0 0 0, .bool false]) (by simp [results, Try.results11, go_sem]) rfl ⟨rfl, H.out⟩
theorem nil_next (hn : NilIn l a) (h : Own l w) (x s : Int) :
    Calls Try.prog 12 #[.pointer a, .agg #[.int .u64 x, .int .u64 s]] w fun e w' => e = .returned (.tuple #[.agg #[.int .u64 0, .int .u64 0, .int .i64 0], .bool false]) ∧ Own l w' := by
  have H := Lib.hid (h.step (((Ext.refl w).alloc (.cells #[.int .u64 x, .int .u64 s] 25)).alloc (.cells #[.int .u64 0, .int .u64 0, .int .i64 0] 31)))
  have HN := Lib.hid hn
  clear h hn
  go_enter Try.func12, Try.ntmps12
  go_wp2_with (go_at_call 29; refine (HN.out _ H.out).mono ?_; rintro e w' ⟨rfl, rfl⟩)
  exact bodyPost_ret (v := .tuple #[ent 0 0 0, .bool false]) (by simp [results, Try.results12, go_sem]) rfl ⟨rfl, H.out⟩
end
theorem Own.blk2 {l : List HP} {w : World} {b : Nat} {x y : Value} {t : TypeId} (h : Own l w) (hm : Blk b #[x, y] t ∈ l) :
    w.cell? ⟨b, 0, none⟩ = some x ∧ w.cell? ⟨b, 1, none⟩ = some y := by
  simp [World.cell?, Own.blk h hm]
set_option maxHeartbeats 4000000 in
theorem none_of (x s v : Int) (hx : (Lit.int .u64 x).wf = true) (hs : (Lit.int .u64 s).wf = true) (hv : (Lit.int .i64 v).wf = true) (w : World) :
    Calls Try.prog 8 #[.agg #[.int .u64 x, .int .u64 s], .int .i64 v] w fun e w' => e = .returned (.bool true) ∧ Ext w w' := by
  have h0 := Own.blkNew (Own.start w) #[.int .u64 x, .int .u64 s] 25
  obtain ⟨w1, ew1⟩ : ∃ w1, w.alloc (.cells #[.int .u64 x, .int .u64 s] 25) = w1 := ⟨_, rfl⟩
  rw [ew1] at h0
  have h1 := Own.blkNew h0 zeroT 70
  obtain ⟨w2, ew2⟩ : ∃ w2, w1.alloc (.cells zeroT 70) = w2 := ⟨_, rfl⟩
  rw [ew2] at h1
  have h2 := Own.blkNew h1 #[.pointer none, .pointer (some ⟨w1.heap.size, 0, none⟩)] 26
  obtain ⟨w3, ew3⟩ : ∃ w3, w2.alloc (.cells #[.pointer none, .pointer (some ⟨w1.heap.size, 0, none⟩)] 26) = w3 := ⟨_, rfl⟩
  rw [ew3] at h2
  have H := Lib.hid h2
  clear h0 h1 h2
  go_enter Try.func8, Try.ntmps8
  go_wp2
  refine wp_loop_rounds 3 ?_
  rw [rounds_succ]
  have HN := Lib.hid (nilIn_none [Blk w2.heap.size #[.pointer none, .pointer (some ⟨w1.heap.size, 0, none⟩)] 26, Blk w1.heap.size zeroT 70, Blk w.heap.size #[.int .u64 x, .int .u64 s] 25, Old w])
  obtain ⟨k0, k1⟩ := Own.blk2 (b := w.heap.size) (x := .int .u64 x) (y := .int .u64 s) (t := 25) H.out (by simp)
  obtain ⟨p0, p1⟩ := Own.blk2 (b := w2.heap.size) (x := .pointer none) (y := .pointer (some ⟨w1.heap.size, 0, none⟩)) (t := 26) H.out (by simp)
  clear ew1 ew2 ew3
  go_wp2_with fail
  refine (nil_drop HN.out H.out x s).mono ?_
  rintro e w4 ⟨rfl, h4⟩
  replace H := Lib.hid h4
  clear h4
  clear k0 k1 p0 p1
  obtain ⟨k0, k1⟩ := Own.blk2 (b := w.heap.size) (x := .int .u64 x) (y := .int .u64 s) (t := 25) H.out (by simp)
  obtain ⟨p0, p1⟩ := Own.blk2 (b := w2.heap.size) (x := .pointer none) (y := .pointer (some ⟨w1.heap.size, 0, none⟩)) (t := 26) H.out (by simp)
  go_wp2_with fail
  refine (nil_get HN.out H.out x s).mono ?_
  rintro e w5 ⟨rfl, h5⟩
  replace H := Lib.hid h5
  clear h5
  clear k0 k1 p0 p1
  obtain ⟨k0, k1⟩ := Own.blk2 (b := w.heap.size) (x := .int .u64 x) (y := .int .u64 s) (t := 25) H.out (by simp)
  obtain ⟨p0, p1⟩ := Own.blk2 (b := w2.heap.size) (x := .pointer none) (y := .pointer (some ⟨w1.heap.size, 0, none⟩)) (t := 26) H.out (by simp)
  go_wp2_with fail
  refine (nil_first HN.out H.out).mono ?_
  rintro e w6 ⟨rfl, h6⟩
  replace H := Lib.hid (h6.step ((Ext.refl w6).alloc (.cells #[.int .u64 0, .int .u64 0, .int .i64 0] 31)))
  clear h6
  clear k0 k1 p0 p1
  obtain ⟨k0, k1⟩ := Own.blk2 (b := w.heap.size) (x := .int .u64 x) (y := .int .u64 s) (t := 25) H.out (by simp)
  obtain ⟨p0, p1⟩ := Own.blk2 (b := w2.heap.size) (x := .pointer none) (y := .pointer (some ⟨w1.heap.size, 0, none⟩)) (t := 26) H.out (by simp)
  go_wp2_with fail
  refine (nil_next HN.out H.out x s).mono ?_
  rintro e w7 ⟨rfl, h7⟩
  replace H := Lib.hid (h7.step ((Ext.refl w7).alloc (.cells #[.int .u64 0, .int .u64 0, .int .i64 0] 31)))
  clear h7
  clear k0 k1 p0 p1
  obtain ⟨k0, k1⟩ := Own.blk2 (b := w.heap.size) (x := .int .u64 x) (y := .int .u64 s) (t := 25) H.out (by simp)
  obtain ⟨p0, p1⟩ := Own.blk2 (b := w2.heap.size) (x := .pointer none) (y := .pointer (some ⟨w1.heap.size, 0, none⟩)) (t := 26) H.out (by simp)
  go_wp2_with fail
  refine (nil_put HN.out H.out x s v).mono ?_
  rintro e w8 ⟨rfl, h8⟩
  replace H := Lib.hid h8
  clear h8
  clear k0 k1 p0 p1
  obtain ⟨k0, k1⟩ := Own.blk2 (b := w.heap.size) (x := .int .u64 x) (y := .int .u64 s) (t := 25) H.out (by simp)
  obtain ⟨p0, p1⟩ := Own.blk2 (b := w2.heap.size) (x := .pointer none) (y := .pointer (some ⟨w1.heap.size, 0, none⟩)) (t := 26) H.out (by simp)
  go_wp2_with fail
  refine (nil_len HN.out H.out).mono ?_
  rintro e w9 ⟨rfl, h9⟩
  replace H := Lib.hid h9
  clear h9
  clear k0 k1 p0 p1
  obtain ⟨k0, k1⟩ := Own.blk2 (b := w.heap.size) (x := .int .u64 x) (y := .int .u64 s) (t := 25) H.out (by simp)
  obtain ⟨p0, p1⟩ := Own.blk2 (b := w2.heap.size) (x := .pointer none) (y := .pointer (some ⟨w1.heap.size, 0, none⟩)) (t := 26) H.out (by simp)
  go_wp2_with fail
  refine (nil_room HN.out H.out).mono ?_
  rintro e w10 ⟨rfl, h10⟩
  replace H := Lib.hid h10
  clear h10
  clear k0 k1 p0 p1
  obtain ⟨k0, k1⟩ := Own.blk2 (b := w.heap.size) (x := .int .u64 x) (y := .int .u64 s) (t := 25) H.out (by simp)
  obtain ⟨p0, p1⟩ := Own.blk2 (b := w2.heap.size) (x := .pointer none) (y := .pointer (some ⟨w1.heap.size, 0, none⟩)) (t := 26) H.out (by simp)
  go_wp2_with fail
  refine (nil_all HN.out H.out).mono ?_
  rintro e w11 ⟨rfl, h11⟩
  replace H := Lib.hid h11
  clear h11
  clear k0 k1 p0 p1
  obtain ⟨k0, k1⟩ := Own.blk2 (b := w.heap.size) (x := .int .u64 x) (y := .int .u64 s) (t := 25) H.out (by simp)
  obtain ⟨p0, p1⟩ := Own.blk2 (b := w2.heap.size) (x := .pointer none) (y := .pointer (some ⟨w1.heap.size, 0, none⟩)) (t := 26) H.out (by simp)
  go_wp2_with fail
  refine (nil_shape HN.out H.out).mono ?_
  rintro e w12 ⟨rfl, h12⟩
  replace H := Lib.hid h12
  clear h12
  clear k0 k1 p0 p1
  obtain ⟨k0, k1⟩ := Own.blk2 (b := w.heap.size) (x := .int .u64 x) (y := .int .u64 s) (t := 25) H.out (by simp)
  obtain ⟨p0, p1⟩ := Own.blk2 (b := w2.heap.size) (x := .pointer none) (y := .pointer (some ⟨w1.heap.size, 0, none⟩)) (t := 26) H.out (by simp)
  go_wp2_with fail
  rw [rounds_succ]
  replace HN := Lib.hid (nilIn_zero [Blk w2.heap.size #[.pointer none, .pointer (some ⟨w1.heap.size, 0, none⟩)] 26, Blk w1.heap.size zeroT 70, Blk w.heap.size #[.int .u64 x, .int .u64 s] 25, Old w] w1.heap.size (by simp))
  go_wp2_with fail
  refine (nil_drop HN.out H.out x s).mono ?_
  rintro e w13 ⟨rfl, h13⟩
  replace H := Lib.hid h13
  clear h13
  clear k0 k1 p0 p1
  obtain ⟨k0, k1⟩ := Own.blk2 (b := w.heap.size) (x := .int .u64 x) (y := .int .u64 s) (t := 25) H.out (by simp)
  obtain ⟨p0, p1⟩ := Own.blk2 (b := w2.heap.size) (x := .pointer none) (y := .pointer (some ⟨w1.heap.size, 0, none⟩)) (t := 26) H.out (by simp)
  go_wp2_with fail
  refine (nil_get HN.out H.out x s).mono ?_
  rintro e w14 ⟨rfl, h14⟩
  replace H := Lib.hid h14
  clear h14
  clear k0 k1 p0 p1
  obtain ⟨k0, k1⟩ := Own.blk2 (b := w.heap.size) (x := .int .u64 x) (y := .int .u64 s) (t := 25) H.out (by simp)
  obtain ⟨p0, p1⟩ := Own.blk2 (b := w2.heap.size) (x := .pointer none) (y := .pointer (some ⟨w1.heap.size, 0, none⟩)) (t := 26) H.out (by simp)
  go_wp2_with fail
  refine (nil_first HN.out H.out).mono ?_
  rintro e w15 ⟨rfl, h15⟩
  replace H := Lib.hid (h15.step ((Ext.refl w15).alloc (.cells #[.int .u64 0, .int .u64 0, .int .i64 0] 31)))
  clear h15
  clear k0 k1 p0 p1
  obtain ⟨k0, k1⟩ := Own.blk2 (b := w.heap.size) (x := .int .u64 x) (y := .int .u64 s) (t := 25) H.out (by simp)
  obtain ⟨p0, p1⟩ := Own.blk2 (b := w2.heap.size) (x := .pointer none) (y := .pointer (some ⟨w1.heap.size, 0, none⟩)) (t := 26) H.out (by simp)
  go_wp2_with fail
  refine (nil_next HN.out H.out x s).mono ?_
  rintro e w16 ⟨rfl, h16⟩
  replace H := Lib.hid (h16.step ((Ext.refl w16).alloc (.cells #[.int .u64 0, .int .u64 0, .int .i64 0] 31)))
  clear h16
  clear k0 k1 p0 p1
  obtain ⟨k0, k1⟩ := Own.blk2 (b := w.heap.size) (x := .int .u64 x) (y := .int .u64 s) (t := 25) H.out (by simp)
  obtain ⟨p0, p1⟩ := Own.blk2 (b := w2.heap.size) (x := .pointer none) (y := .pointer (some ⟨w1.heap.size, 0, none⟩)) (t := 26) H.out (by simp)
  go_wp2_with fail
  refine (nil_put HN.out H.out x s v).mono ?_
  rintro e w17 ⟨rfl, h17⟩
  replace H := Lib.hid h17
  clear h17
  clear k0 k1 p0 p1
  obtain ⟨k0, k1⟩ := Own.blk2 (b := w.heap.size) (x := .int .u64 x) (y := .int .u64 s) (t := 25) H.out (by simp)
  obtain ⟨p0, p1⟩ := Own.blk2 (b := w2.heap.size) (x := .pointer none) (y := .pointer (some ⟨w1.heap.size, 0, none⟩)) (t := 26) H.out (by simp)
  go_wp2_with fail
  refine (nil_len HN.out H.out).mono ?_
  rintro e w18 ⟨rfl, h18⟩
  replace H := Lib.hid h18
  clear h18
  clear k0 k1 p0 p1
  obtain ⟨k0, k1⟩ := Own.blk2 (b := w.heap.size) (x := .int .u64 x) (y := .int .u64 s) (t := 25) H.out (by simp)
  obtain ⟨p0, p1⟩ := Own.blk2 (b := w2.heap.size) (x := .pointer none) (y := .pointer (some ⟨w1.heap.size, 0, none⟩)) (t := 26) H.out (by simp)
  go_wp2_with fail
  refine (nil_room HN.out H.out).mono ?_
  rintro e w19 ⟨rfl, h19⟩
  replace H := Lib.hid h19
  clear h19
  clear k0 k1 p0 p1
  obtain ⟨k0, k1⟩ := Own.blk2 (b := w.heap.size) (x := .int .u64 x) (y := .int .u64 s) (t := 25) H.out (by simp)
  obtain ⟨p0, p1⟩ := Own.blk2 (b := w2.heap.size) (x := .pointer none) (y := .pointer (some ⟨w1.heap.size, 0, none⟩)) (t := 26) H.out (by simp)
  go_wp2_with fail
  refine (nil_all HN.out H.out).mono ?_
  rintro e w20 ⟨rfl, h20⟩
  replace H := Lib.hid h20
  clear h20
  clear k0 k1 p0 p1
  obtain ⟨k0, k1⟩ := Own.blk2 (b := w.heap.size) (x := .int .u64 x) (y := .int .u64 s) (t := 25) H.out (by simp)
  obtain ⟨p0, p1⟩ := Own.blk2 (b := w2.heap.size) (x := .pointer none) (y := .pointer (some ⟨w1.heap.size, 0, none⟩)) (t := 26) H.out (by simp)
  go_wp2_with fail
  refine (nil_shape HN.out H.out).mono ?_
  rintro e w21 ⟨rfl, h21⟩
  replace H := Lib.hid h21
  clear h21
  clear k0 k1 p0 p1
  obtain ⟨k0, k1⟩ := Own.blk2 (b := w.heap.size) (x := .int .u64 x) (y := .int .u64 s) (t := 25) H.out (by simp)
  obtain ⟨p0, p1⟩ := Own.blk2 (b := w2.heap.size) (x := .pointer none) (y := .pointer (some ⟨w1.heap.size, 0, none⟩)) (t := 26) H.out (by simp)
  go_wp2_with fail
  rw [rounds_succ]
  go_wp2_with fail
  refine (awake_any H.out).mono ?_
  rintro e w' ⟨rfl, h⟩
  have H' := Lib.hid h
  clear h
  go_wp2_with fail
  go_ret
  exact ⟨rfl, H'.out.ext (by simp)⟩
end Go.Proofs.Ytekdahppacghbaa.Tr
