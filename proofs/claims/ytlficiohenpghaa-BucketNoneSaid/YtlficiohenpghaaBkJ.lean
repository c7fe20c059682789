/- DERIVED. Layer 13 (bucket): buckets that are none; the law BucketNone. -/
import Derived.Test.YtlficiohenpghaaBkG
set_option linter.unusedVariables false
set_option linter.unusedSimpArgs false
set_option maxRecDepth 100000
namespace Go.Proofs.Ytlficiohenpghaa.Bk
open Go.RowKit Go.Proofs.Ytlficiohenpghaa Go.Proofs.Ytlficiohenpghaa.TreeP Go.Proofs.Ytlficiohenpghaa.Tr

/-- there are no buckets there -/
def NilB (l : List HP) (a : Option Addr) : Prop := ∀ w, Own l w → Calls Try.prog 27 #[.pointer a] w fun e w' => e = .returned (.bool true) ∧ w = w'
theorem nilB_none (l : List HP) : NilB l none := by
  intro w _
  go_enter Try.func27, Try.ntmps27
  go_wp2
  go_ret
  exact ⟨rfl, rfl⟩
abbrev zeroB : Array Value := #[.slice none 0 0, .int .i64 0, .int .i64 0, .int .i64 0]
theorem nilB_zero (l : List HP) (b : Nat) (hm : Go.Proofs.Ytlficiohenpghaa.Blk b zeroB 61 ∈ l) : NilB l (some ⟨b, 0, none⟩) := by
  intro w h
  obtain ⟨c0, -⟩ := Go.Proofs.Ytlficiohenpghaa.Own.blk4 h hm
  have he : ∀ w : World, (binOp .eql 59 (.slice none 0 0) (.slice none 0 0)).run Try.prog w = .ok (.bool true) w := fun _ => rfl
  clear h hm
  go_enter Try.func27, Try.ntmps27
  go_wp2
  go_ret
  exact ⟨rfl, rfl⟩
section
variable {l : List HP} {a : Option Addr} {w : World}
theorem nil_of (hn : NilB l a) (h : Own l w) (s : Int) :
    Calls Try.prog 12 #[.pointer a, .int .u64 s] w fun e w' => e = .returned (.int .i64 (-1)) ∧ Own l w' := by
  have H := Lib.hid h
  have HN := Lib.hid hn
  clear h hn
  go_enter Try.func12, Try.ntmps12
  go_wp2_with (go_at_call 27; refine (HN.out _ H.out).mono ?_; rintro e w' ⟨rfl, rfl⟩)
  go_ret
  exact ⟨rfl, H.out⟩
theorem nil_get (hn : NilB l a) (h : Own l w) (s : Int) :
    Calls Try.prog 11 #[.pointer a, .int .u64 s] w fun e w' => e = .returned (.tuple #[.int .i64 0, .bool false]) ∧ Own l w' := by
  have H := Lib.hid h
  have HN := Lib.hid hn
  clear h hn
  go_enter Try.func11, Try.ntmps11
  go_wp2_with (go_at_call 27; refine (HN.out _ H.out).mono ?_; rintro e w' ⟨rfl, rfl⟩)
  go_ret2
  exact ⟨rfl, H.out⟩
theorem nil_drop (hn : NilB l a) (h : Own l w) (s : Int) :
    Calls Try.prog 16 #[.pointer a, .int .u64 s] w fun e w' => e = .returned (.tuple #[.int .i64 0, .bool false]) ∧ Own l w' := by
  have H := Lib.hid h
  have HN := Lib.hid hn
  clear h hn
  go_enter Try.func16, Try.ntmps16
  go_wp2_with (go_at_call 27; refine (HN.out _ H.out).mono ?_; rintro e w' ⟨rfl, rfl⟩)
  go_ret2
  exact ⟨rfl, H.out⟩
theorem nil_put (hn : NilB l a) (h : Own l w) (s v : Int) :
    Calls Try.prog 17 #[.pointer a, .int .u64 s, .int .i64 v] w fun e w' => e = .returned (.int .i64 1) ∧ Own l w' := by
  have H := Lib.hid (h.step ((Ext.refl w).alloc (.cells #[.pointer a] 23)))
  have HN := Lib.hid hn
  clear h hn
  go_enter Try.func17, Try.ntmps17
  go_wp2_with (go_at_call 27; refine (HN.out _ H.out).mono ?_; rintro e w' ⟨rfl, rfl⟩)
  go_ret
  exact ⟨rfl, H.out⟩
theorem nil_in (hn : NilB l a) (h : Own l w) (i : Int) :
    Calls Try.prog 10 #[.pointer a, .int .i64 i] w fun e w' => e = .returned (.slice none 0 0) ∧ Own l w' := by
  have H := Lib.hid h
  have HN := Lib.hid hn
  clear h hn
  go_enter Try.func10, Try.ntmps10
  go_wp2_with (go_at_call 27; refine (HN.out _ H.out).mono ?_; rintro e w' ⟨rfl, rfl⟩)
  go_ret
  exact ⟨rfl, H.out⟩
theorem nil_len (hn : NilB l a) (h : Own l w) :
    Calls Try.prog 14 #[.pointer a] w fun e w' => e = .returned (.int .i64 0) ∧ Own l w' := by
  have H := Lib.hid h
  have HN := Lib.hid hn
  clear h hn
  go_enter Try.func14, Try.ntmps14
  go_wp2_with (go_at_call 27; refine (HN.out _ H.out).mono ?_; rintro e w' ⟨rfl, rfl⟩)
  go_ret
  exact ⟨rfl, H.out⟩
theorem nil_bits (hn : NilB l a) (h : Own l w) :
    Calls Try.prog 24 #[.pointer a] w fun e w' => e = .returned (.int .i64 0) ∧ Own l w' := by
  have H := Lib.hid h
  have HN := Lib.hid hn
  clear h hn
  go_enter Try.func24, Try.ntmps24
  go_wp2_with (go_at_call 27; refine (HN.out _ H.out).mono ?_; rintro e w' ⟨rfl, rfl⟩)
  go_ret
  exact ⟨rfl, H.out⟩
end
theorem blk2c {l : List HP} {w : World} {b : Nat} {x y : Value} {t : TypeId} (h : Own l w) (hm : Go.Proofs.Ytlficiohenpghaa.Blk b #[x, y] t ∈ l) :
    w.cell? ⟨b, 0, none⟩ = some x ∧ w.cell? ⟨b, 1, none⟩ = some y := by
  simp [World.cell?, Go.Proofs.Ytlficiohenpghaa.Own.blk h hm]
set_option maxHeartbeats 4000000 in
theorem none_of (s v : Int) (wf1 : (Lit.int .u64 s).wf = true) (wf2 : (Lit.int .i64 v).wf = true) (w : World) :
    Calls Try.prog 8 #[.int .u64 s, .int .i64 v] w fun e w' => e = .returned (.bool true) ∧ Ext w w' := by
  clear wf1 wf2
  have h1 := Go.Proofs.Ytlficiohenpghaa.Own.blkNew (Own.start w) zeroB 61
  obtain ⟨w2, ew2⟩ : ∃ w2, w.alloc (.cells zeroB 61) = w2 := ⟨_, rfl⟩
  rw [ew2] at h1
  have h2 := Go.Proofs.Ytlficiohenpghaa.Own.blkNew h1 #[.pointer none, .pointer (some ⟨w.heap.size, 0, none⟩)] 23
  obtain ⟨w3, ew3⟩ : ∃ w3, w2.alloc (.cells #[.pointer none, .pointer (some ⟨w.heap.size, 0, none⟩)] 23) = w3 := ⟨_, rfl⟩
  rw [ew3] at h2
  have H := Lib.hid h2
  clear h1 h2
  go_enter Try.func8, Try.ntmps8
  go_wp2
  refine wp_loop_rounds 3 ?_
  rw [rounds_succ]
  have HN := Lib.hid (nilB_none [Go.Proofs.Ytlficiohenpghaa.Blk w2.heap.size #[.pointer none, .pointer (some ⟨w.heap.size, 0, none⟩)] 23, Go.Proofs.Ytlficiohenpghaa.Blk w.heap.size zeroB 61, Old w])
  obtain ⟨p0, p1⟩ := blk2c (b := w2.heap.size) (x := .pointer none) (y := .pointer (some ⟨w.heap.size, 0, none⟩)) (t := 23) H.out (by simp)
  clear ew2 ew3
  go_wp2_with fail
  refine (nil_get HN.out H.out s).mono ?_
  rintro e w4 ⟨rfl, h4⟩
  replace H := Lib.hid h4
  clear h4
  clear p0 p1
  obtain ⟨p0, p1⟩ := blk2c (b := w2.heap.size) (x := .pointer none) (y := .pointer (some ⟨w.heap.size, 0, none⟩)) (t := 23) H.out (by simp)
  go_wp2_with fail
  refine (nil_drop HN.out H.out s).mono ?_
  rintro e w5 ⟨rfl, h5⟩
  replace H := Lib.hid h5
  clear h5
  clear p0 p1
  obtain ⟨p0, p1⟩ := blk2c (b := w2.heap.size) (x := .pointer none) (y := .pointer (some ⟨w.heap.size, 0, none⟩)) (t := 23) H.out (by simp)
  go_wp2_with fail
  refine (nil_put HN.out H.out s v).mono ?_
  rintro e w6 ⟨rfl, h6⟩
  replace H := Lib.hid h6
  clear h6
  clear p0 p1
  obtain ⟨p0, p1⟩ := blk2c (b := w2.heap.size) (x := .pointer none) (y := .pointer (some ⟨w.heap.size, 0, none⟩)) (t := 23) H.out (by simp)
  go_wp2_with fail
  refine (nil_len HN.out H.out).mono ?_
  rintro e w7 ⟨rfl, h7⟩
  replace H := Lib.hid h7
  clear h7
  clear p0 p1
  obtain ⟨p0, p1⟩ := blk2c (b := w2.heap.size) (x := .pointer none) (y := .pointer (some ⟨w.heap.size, 0, none⟩)) (t := 23) H.out (by simp)
  go_wp2_with fail
  refine (nil_bits HN.out H.out).mono ?_
  rintro e w8 ⟨rfl, h8⟩
  replace H := Lib.hid h8
  clear h8
  clear p0 p1
  obtain ⟨p0, p1⟩ := blk2c (b := w2.heap.size) (x := .pointer none) (y := .pointer (some ⟨w.heap.size, 0, none⟩)) (t := 23) H.out (by simp)
  go_wp2_with fail
  refine (nil_in HN.out H.out 0).mono ?_
  rintro e w9 ⟨rfl, h9⟩
  replace H := Lib.hid h9
  clear h9
  clear p0 p1
  obtain ⟨p0, p1⟩ := blk2c (b := w2.heap.size) (x := .pointer none) (y := .pointer (some ⟨w.heap.size, 0, none⟩)) (t := 23) H.out (by simp)
  go_wp2_with fail
  refine (nil_of HN.out H.out s).mono ?_
  rintro e w10 ⟨rfl, h10⟩
  replace H := Lib.hid h10
  clear h10
  clear p0 p1
  obtain ⟨p0, p1⟩ := blk2c (b := w2.heap.size) (x := .pointer none) (y := .pointer (some ⟨w.heap.size, 0, none⟩)) (t := 23) H.out (by simp)
  go_wp2_with fail
  rw [rounds_succ]
  replace HN := Lib.hid (nilB_zero [Go.Proofs.Ytlficiohenpghaa.Blk w2.heap.size #[.pointer none, .pointer (some ⟨w.heap.size, 0, none⟩)] 23, Go.Proofs.Ytlficiohenpghaa.Blk w.heap.size zeroB 61, Old w] w.heap.size (by simp))
  go_wp2_with fail
  refine (nil_get HN.out H.out s).mono ?_
  rintro e w11 ⟨rfl, h11⟩
  replace H := Lib.hid h11
  clear h11
  clear p0 p1
  obtain ⟨p0, p1⟩ := blk2c (b := w2.heap.size) (x := .pointer none) (y := .pointer (some ⟨w.heap.size, 0, none⟩)) (t := 23) H.out (by simp)
  go_wp2_with fail
  refine (nil_drop HN.out H.out s).mono ?_
  rintro e w12 ⟨rfl, h12⟩
  replace H := Lib.hid h12
  clear h12
  clear p0 p1
  obtain ⟨p0, p1⟩ := blk2c (b := w2.heap.size) (x := .pointer none) (y := .pointer (some ⟨w.heap.size, 0, none⟩)) (t := 23) H.out (by simp)
  go_wp2_with fail
  refine (nil_put HN.out H.out s v).mono ?_
  rintro e w13 ⟨rfl, h13⟩
  replace H := Lib.hid h13
  clear h13
  clear p0 p1
  obtain ⟨p0, p1⟩ := blk2c (b := w2.heap.size) (x := .pointer none) (y := .pointer (some ⟨w.heap.size, 0, none⟩)) (t := 23) H.out (by simp)
  go_wp2_with fail
  refine (nil_len HN.out H.out).mono ?_
  rintro e w14 ⟨rfl, h14⟩
  replace H := Lib.hid h14
  clear h14
  clear p0 p1
  obtain ⟨p0, p1⟩ := blk2c (b := w2.heap.size) (x := .pointer none) (y := .pointer (some ⟨w.heap.size, 0, none⟩)) (t := 23) H.out (by simp)
  go_wp2_with fail
  refine (nil_bits HN.out H.out).mono ?_
  rintro e w15 ⟨rfl, h15⟩
  replace H := Lib.hid h15
  clear h15
  clear p0 p1
  obtain ⟨p0, p1⟩ := blk2c (b := w2.heap.size) (x := .pointer none) (y := .pointer (some ⟨w.heap.size, 0, none⟩)) (t := 23) H.out (by simp)
  go_wp2_with fail
  refine (nil_in HN.out H.out 0).mono ?_
  rintro e w16 ⟨rfl, h16⟩
  replace H := Lib.hid h16
  clear h16
  clear p0 p1
  obtain ⟨p0, p1⟩ := blk2c (b := w2.heap.size) (x := .pointer none) (y := .pointer (some ⟨w.heap.size, 0, none⟩)) (t := 23) H.out (by simp)
  go_wp2_with fail
  refine (nil_of HN.out H.out s).mono ?_
  rintro e w17 ⟨rfl, h17⟩
  replace H := Lib.hid h17
  clear h17
  clear p0 p1
  obtain ⟨p0, p1⟩ := blk2c (b := w2.heap.size) (x := .pointer none) (y := .pointer (some ⟨w.heap.size, 0, none⟩)) (t := 23) H.out (by simp)
  go_wp2_with fail
  rw [rounds_succ]
  go_wp2_with fail
  refine (awake_any H.out).mono ?_
  rintro e w' ⟨rfl, h⟩
  have H' := Lib.hid h
  clear h
  go_wp2_with fail
  go_ret
  exact ⟨rfl, H'.out.ext (by simp)⟩
end Go.Proofs.Ytlficiohenpghaa.Bk
