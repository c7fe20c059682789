/- DERIVED. Layer 4 (arena): contracts of what writes. -/
import Derived.Test.YtekdgghekdajbaaArA
import Derived.Test.YtekdgghekdajbaaApp
import Derived.Deep.QuietTactic
import Derived.BigQuiet
set_option linter.unusedVariables false
set_option linter.unusedSimpArgs false
set_option maxRecDepth 100000
namespace Go.Proofs.Ytekdgghekdajbaa.Ar
open Go.RowKit Go.Proofs.Ytekdgghekdajbaa

theorem used_any (p : Nat) (X : A) (sv bv : Value) (w : World) (h : lies w p X sv bv) (hr : 1 ≤ X.room) :
    Calls Try.prog 17 #[.pointer (some ⟨p, 0, none⟩)] w fun e w' => e = .returned (.int .i64 X.used) ∧ w = w' := by
  obtain ⟨c0, c1, c2, c3, f0, f1, f2, f3⟩ := h.cells
  have H := Lib.hid h
  clear h
  go_enter Try.func17, Try.ntmps17
  go_wp2_with (go_at_call 42; refine (none_any _ _ _ _ _ H.out hr).mono ?_; rintro e w' ⟨rfl, rfl⟩)
  go_ret
  exact ⟨rfl, rfl⟩
theorem room_any (p : Nat) (X : A) (sv bv : Value) (w : World) (h : lies w p X sv bv) (hr : 1 ≤ X.room) :
    Calls Try.prog 28 #[.pointer (some ⟨p, 0, none⟩)] w fun e w' => e = .returned (.int .i64 X.room) ∧ w = w' := by
  obtain ⟨c0, c1, c2, c3, f0, f1, f2, f3⟩ := h.cells
  have H := Lib.hid h
  clear h
  go_enter Try.func28, Try.ntmps28
  go_wp2_with (go_at_call 42; refine (none_any _ _ _ _ _ H.out hr).mono ?_; rintro e w' ⟨rfl, rfl⟩)
  go_ret
  exact ⟨rfl, rfl⟩
def fresh (r : Nat) : A := ⟨[], [], r, 0⟩
theorem new_any (r : Nat) (h1 : 1 ≤ r) (h2 : r ≤ 65536) (w : World) :
    Calls Try.prog 20 #[.int .i64 r] w fun e w' => e = .returned (.tuple #[.pointer (some ⟨w.heap.size, 0, none⟩), .int .i64 0]) ∧
      lies w' w.heap.size (fresh r) (.slice none 0 0) (.slice none 0 0) ∧ Ext w w' := by
  go_enter Try.func20, Try.ntmps20
  go_wp2
  go_ret2
  refine ⟨rfl, ⟨heap_alloc_new w _, World.ownsRow_nil _ 0 _ 1, World.ownsRow_nil _ 0 _ 1, by simp [Value.ownBlock], by simp [Value.ownBlock], by simp [Value.ownBlock]⟩, (Ext.refl w).alloc _⟩
theorem new_not (r : Int) (h : r < 1 ∨ 65536 < r) (w : World) :
    Calls Try.prog 20 #[.int .i64 r] w fun e w' => e = .returned (.tuple #[.pointer none, .int .i64 2]) ∧ w = w' := by
  by_cases h0 : r < 1
  · clear h
    go_enter Try.func20, Try.ntmps20
    go_wp2
    go_ret2
    exact ⟨rfl, rfl⟩
  · have h' : 65536 < r := by omega
    clear h
    go_enter Try.func20, Try.ntmps20
    go_wp2
    go_ret2
    exact ⟨rfl, rfl⟩
theorem last_any (g n cap : Nat) (v : Int) (w : World) (hc : n + 1 ≤ cap) (hcap : cap ≤ maxLen) (hcell : w.cell? ⟨g, n, none⟩ = some (.int .i64 v)) :
    Calls Try.prog 43 #[.slice (some ⟨g, 0, none⟩) (n + 1) cap] w fun e w' => e = .returned (.tuple #[.int .i64 v, .slice (some ⟨g, 0, none⟩) n cap]) ∧ ∃ q, w' = w.drewN q := by
  unfold maxLen at hcap
  go_enter Try.func43, Try.ntmps43
  go_wp2
  go_quiet (fail)
  go_wp2_with fail
  go_ret2
  exact ⟨rfl, nq, rfl⟩
/-- of what 'Take' makes an arena -/
def st0 (X : A) : List Nat := if X.bk = [] then X.st ++ [0] else X.st
def tq (X : A) : Nat := if X.bk = [] then X.st.length else X.bk.getLastD 0
def tk (X : A) : A := ⟨(st0 X).set (tq X) ((st0 X).getD (tq X) 0 + 1), X.bk.dropLast, X.room, X.used + 1⟩
def Turned (p : Nat) (sv bv : Value) (w : World) (X' : A) (w' : World) : Prop :=
  ∃ sv' bv', lies w' p X' sv' bv' ∧ Step (foot p sv bv) w w' ∧ ∀ b, foot p sv' bv' b → foot p sv bv b ∨ w.heap.size ≤ b
theorem is_dropLast (l : List Nat) : (is l).dropLast = is l.dropLast := by simp [is]
theorem us_set (l : List Nat) (q n : Nat) : (us l).set q (.int .u64 n) = us (l.set q n) := by simp [us, List.map_set]
theorem lies_back {w : World} {p sg bg scap bcap q n m nq L : Nat} {X : A} (h : lies w p X (.slice (some ⟨sg, 0, none⟩) L scap) (.slice (some ⟨bg, 0, none⟩) (m + 1) bcap))
    (hbk : X.bk = [] → False) (hm : X.bk.length = m + 1) (hL : X.st.length = L) (hq : tq X = q) (hl : q < L) (hn : n = X.st.getD q 0) (hu : X.used < 65536) :
    lies ((((w.drewN nq).setCell ⟨p, 1, none⟩ (.slice (some ⟨bg, 0, none⟩) m bcap)).setCell ⟨sg, q, none⟩ (.int .u64 ((n : Int) + 1))).setCell ⟨p, 3, none⟩ (.int .i64 (wrap64 ((X.used : Int) + 1)))) p (tk X)
      (.slice (some ⟨sg, 0, none⟩) L scap) (.slice (some ⟨bg, 0, none⟩) m bcap) := by
  obtain ⟨h1, h2, h3, h4, h5, h6⟩ := h
  have hsp : sg ≠ p := fun e => h4 (by simp [Value.ownBlock, e])
  have hbp : bg ≠ p := fun e => h5 (by simp [Value.ownBlock, e])
  have hsb : sg ≠ bg := fun e => h6 sg (by simp [Value.ownBlock]) (by simp [Value.ownBlock, e])
  have e0 : st0 X = X.st := by unfold st0; rw [if_neg hbk]
  have ew : wrap64 ((X.used : Int) + 1) = ((X.used + 1 : Nat) : Int) := by unfold wrap64; omega
  have en : (n : Int) + 1 = ((n + 1 : Nat) : Int) := by omega
  rw [ew, en]
  rw [hm] at h3
  rw [hL] at h2
  have hb' := ownsRow_pop' h3 (by omega)
  rw [is_dropLast] at hb'
  have hs' := ownsRow_set (.int .u64 ((n + 1 : Nat) : Int)) h2 (o := q) (by omega)
  rw [us_set] at hs'
  have t1 : (tk X).st = X.st.set q (n + 1) := by unfold tk; rw [e0, hq, hn]
  have t2 : (tk X).bk = X.bk.dropLast := rfl
  have l1 : (tk X).st.length = L := by rw [t1, List.length_set, hL]
  have l2 : (tk X).bk.length = m := by rw [t2, List.length_dropLast, hm]; rfl
  refine ⟨?_, ?_, ?_, h4, by simpa [Value.ownBlock] using hbp, by simpa [Value.ownBlock] using fun e => hsb e.symm⟩
  · have a1 := heap_set (o := 1) (.slice (some ⟨bg, 0, none⟩) m bcap) (show (w.drewN nq).heap[p]? = _ from h1)
    have a2 := (heap_other (w := (w.drewN nq).setCell ⟨p, 1, none⟩ (.slice (some ⟨bg, 0, none⟩) m bcap)) (o := q) (.int .u64 ((n + 1 : Nat) : Int)) (Ne.symm hsp)).trans a1
    exact heap_set (o := 3) (.int .i64 ((X.used + 1 : Nat) : Int)) a2
  · rw [l1, t1]
    have hg : (w.setCell ⟨sg, q, none⟩ (.int .u64 ((n + 1 : Nat) : Int))).ownsRow 0 30 1 (.slice (some ⟨sg, 0, none⟩) L scap) L (us (X.st.set q (n + 1))) := hs'
    obtain ⟨g, cap, cur, ev, hbb, hg2, r⟩ := hg.2.resolve_left (by simp)
    injection ev with ev1 ev2 ev3
    injection ev1 with ev1
    injection ev1 with ev1
    subst ev1 ev3
    refine ⟨hg.1, .inr ⟨sg, scap, cur, rfl, Nat.zero_le _, ?_, r⟩⟩
    rw [heap_other _ hsp]
    obtain ⟨g', cap', cur', ev', hbb', hg2', r'⟩ := h2.2.resolve_left (by simp)
    injection ev' with ev1' ev2' ev3'
    injection ev1' with ev1'
    injection ev1' with ev1'
    subst ev1' ev3'
    rw [heap_set (o := q) _ hg2'] at hg2
    rw [← hg2]
    refine heap_set (o := q) _ ?_
    rw [heap_other _ hsp]
    exact hg2'
  · rw [l2, t2]
    refine ownsRow_keep hb' (fun b hb => ?_)
    simp only [Value.ownBlock, Option.some.injEq] at hb
    subst hb
    rw [heap_other _ hbp, heap_other _ (Ne.symm hsb), heap_other _ hbp]
    rfl
theorem take_full (p : Nat) (X : A) (sv bv : Value) (w : World) (h : lies w p X sv bv) (hr : 1 ≤ X.room) (hu : X.used = X.room) :
    Calls Try.prog 19 #[.pointer (some ⟨p, 0, none⟩)] w fun e w' => e = .returned (.tuple #[.int .u64 0, .int .i64 4]) ∧ ∃ q, w' = w.drewN q := by
  obtain ⟨c0, c1, c2, c3, f0, f1, f2, f3⟩ := h.cells
  have H := Lib.hid h
  rw [hu] at c3
  clear h
  go_enter Try.func19, Try.ntmps19
  go_wp2_with (go_at_call 42; refine (none_any _ _ _ _ _ H.out hr).mono ?_; rintro e w' ⟨rfl, rfl⟩)
  go_quiet (fail)
  go_wp2_with fail
  go_ret2
  exact ⟨rfl, nq, rfl⟩
theorem take_back (p : Nat) (X : A) (sv bv : Value) (w : World) (h : lies w p X sv bv) (hf : Fit X) (hu : X.used < X.room) (m q : Nat) (hm : X.bk.length = m + 1) (hq : X.bk.getD m 0 = q) (hl : q < X.st.length) (he : X.st.getD q 0 % 2 = 0) :
    Calls Try.prog 19 #[.pointer (some ⟨p, 0, none⟩)] w fun e w' => e = .returned (.tuple #[.int .u64 ((hdl (tk X) (tq X) : Nat) : Int), .int .i64 0]) ∧ Turned p sv bv w (tk X) w' := by
  obtain ⟨c0, c1, c2, c3, f0, f1, f2, f3⟩ := h.cells
  obtain ⟨bg, bcap, rfl, hbc, hbm⟩ := own_cap h.2.2.1 (by omega)
  obtain ⟨sg, scap, rfl, hsc, hsm⟩ := own_cap h.2.1 (by omega)
  have H := Lib.hid h
  have hne : ((X.used : Int) == (X.room : Int)) = false := by simp; omega
  have hfr : w.frozen? ⟨sg, q, none⟩ = false := h.2.1.frozen' rfl _
  have hb := h.2.2.1.cells (g := bg) rfl m (.int .i64 q) (by rw [is_at _ _ (by omega), hq])
  rw [add_plain] at hb
  obtain ⟨n, hn⟩ : ∃ n, n = X.st.getD q 0 := ⟨_, rfl⟩
  have hs := h.2.1.cells (g := sg) rfl q (.int .u64 n) (by rw [us_at _ _ hl, hn])
  rw [add_plain] at hs
  have hsp : sg ≠ p := fun e => h.2.2.2.1 (by simp [Value.ownBlock, e])
  have hbp : bg ≠ p := fun e => h.2.2.2.2.1 (by simp [Value.ownBlock, e])
  have hsb : sg ≠ bg := fun e => h.2.2.2.2.2 sg (by simp [Value.ownBlock]) (by simp [Value.ownBlock, e])
  have HM := Lib.hid hm
  rw [hm] at c1
  rw [hm] at hbc
  have hn32 := hf.bd q
  rw [← hn] at hn32 he
  have HN := Lib.hid hn
  have HQ := Lib.hid hq
  clear h hm hn hq
  go_enter Try.func19, Try.ntmps19
  go_wp2_with (go_at_call 42; refine (none_any _ _ _ _ _ H.out hf.r1).mono ?_; rintro e w' ⟨rfl, rfl⟩)
  go_quiet (fail)
  go_wp2_with fail
  refine (last_any bg m bcap q _ hbc hbm (by simpa using hb)).mono ?_
  rintro e w1 ⟨rfl, nq2, rfl⟩
  go_wp2_with fail
  have hbk : X.bk = [] → False := fun e => by have := HM.out; rw [e] at this; simp at this
  have htq : tq X = q := by
    unfold tq
    rw [if_neg hbk, ← HQ.out, List.getLastD_eq_getLast?, List.getLast?_eq_getElem?, HM.out]
    simp [List.getD]
  have hL := lies_back (nq := nq + nq2) (HM.out ▸ H.out) hbk HM.out rfl htq hl HN.out (by have := hf.r2; omega)
  have t1 : (tk X).st = X.st.set q (n + 1) := by
    unfold tk
    rw [show st0 X = X.st from by unfold st0; rw [if_neg hbk], htq, HN.out]
  have tq1 : (tk X).st.getD q 0 = n + 1 := by rw [t1]; simp [List.getD, hl]
  have tl : (tk X).st.length = X.st.length := by rw [t1, List.length_set]
  refine (handle_odd p (tk X) _ _ q _ hL hf.r1 (by rw [tl]; exact hl) (by rw [tq1]; omega) (by rw [tq1]; omega) (by rw [tl]; exact Nat.le_trans hf.len hf.r2)).mono ?_
  rintro e w2 ⟨rfl, rfl⟩
  go_wp2_with fail
  go_ret2
  rw [htq]
  refine ⟨rfl, _, _, hL, ?_, fun b hb => .inl ?_⟩
  · refine Step.setCell (Step.setCell (Step.setCell ((Step.refl _ _).drewN _) _ (.inl (.inl rfl)) _) _ (.inl (.inr (.inl rfl))) _) _ (.inl (.inl rfl)) _
  · rcases hb with h | h | h
    · exact .inl h
    · exact .inr (.inl h)
    · exact .inr (.inr h)
end Go.Proofs.Ytekdgghekdajbaa.Ar
