/- DERIVED. Layer 4 (arena): contracts of what writes, the rest. -/
import Derived.Test.YtekdgghekdajbaaArB
set_option linter.unusedVariables false
set_option linter.unusedSimpArgs false
set_option maxRecDepth 100000
namespace Go.Proofs.Ytekdgghekdajbaa.Ar
open Go.RowKit Go.Proofs.Ytekdgghekdajbaa

theorem info30 : (Try.prog.info? 30).map (fun i => (i.zero, i.size, i.bytes)) = some (some (.int .u64 0), 1, 8) := by kernel_rfl
theorem info3 : (Try.prog.info? 3).map (fun i => (i.zero, i.size, i.bytes)) = some (some (.int .i64 0), 1, 8) := by kernel_rfl
structure After (p : Nat) (X : A) (bv : Value) (sv v1 : Value) (w w1 : World) (L : Nat) (xs : List Value) : Prop where
  own : w1.ownsRow 0 30 1 v1 (L + 1) xs
  gr : w.grownBy w1 sv.ownBlock
  mv : Moved w sv v1
  blk : w1.heap[p]? = some (.cells #[sv, bv, .int .i64 X.room, .int .i64 X.used] 61 (0, 0))
theorem After.undraw {p : Nat} {X : A} {bv sv v1 : Value} {w w1 : World} {L n : Nat} {xs : List Value} (h : After p X bv sv v1 (w.drewN n) w1 L xs) : After p X bv sv v1 w w1 L xs :=
  ⟨h.own, ⟨h.gr.os, h.gr.tape, h.gr.output, h.gr.size, h.gr.block⟩, h.mv, h.blk⟩
theorem after_app {p : Nat} {X : A} {bv sv v1 : Value} {w w1 : World} {L : Nat} {n : Int} (h : lies w p X sv bv) (hown : w1.ownsRow 0 30 1 v1 (L + 1) (us X.st ++ [.int .u64 n])) (hL : X.st.length = L)
    (hgrow : w.grownBy w1 sv.ownBlock) (hmv : Moved w sv v1) :
    ∃ g cap, v1 = .slice (some ⟨g, 0, none⟩) (L + 1) cap ∧ g ≠ p ∧ L + 1 ≤ cap ∧ Hid (After p X bv sv v1 w w1 L (us X.st ++ [.int .u64 n])) ∧ w1.cell? ⟨p, 0, none⟩ = some sv ∧ w1.cell? ⟨p, 2, none⟩ = some (.int .i64 X.room) ∧ w1.cell? ⟨p, 3, none⟩ = some (.int .i64 X.used) ∧
      w1.frozen? ⟨p, 0, none⟩ = false ∧ w1.frozen? ⟨p, 3, none⟩ = false ∧ w1.cell? ⟨g, L, none⟩ = some (.int .u64 n) ∧ w1.frozen? ⟨g, L, none⟩ = false := by
  obtain ⟨g, cap, hv1, hcap, hmax⟩ := own_cap hown (by omega)
  subst hv1
  have hp := (Array.getElem?_eq_some_iff.1 h.1).1
  have hw1 : w1.heap[p]? = some (.cells #[sv, bv, .int .i64 X.room, .int .i64 X.used] 61 (0, 0)) :=
    (hgrow.block p hp (fun e => h.2.2.2.1 e.symm)).trans h.1
  have hgp : g ≠ p := by
    rcases hmv with hmv | ⟨b, hmv, hb⟩
    · exact fun e => h.2.2.2.1 (by rw [← hmv, e]; rfl)
    · simp only [Value.ownBlock, Option.some.injEq] at hmv
      omega
  have dc : w1.cell? ⟨g, L, none⟩ = some (.int .u64 n) := by
    have := hown.cells (g := g) rfl L (.int .u64 n) (by simp [us_len, hL])
    rwa [add_plain] at this
  exact ⟨g, cap, rfl, hgp, hcap, Lib.hid ⟨hown, hgrow, hmv, hw1⟩, by simp [World.cell?, hw1], by simp [World.cell?, hw1], by simp [World.cell?, hw1], by simp [World.frozen?, hw1], by simp [World.frozen?, hw1], dc, hown.frozen' rfl L⟩
theorem lies_new {p g cap L bcap : Nat} {ba : Option Addr} {X : A} {sv : Value} {w w1 : World} (h : lies w p X sv (.slice ba X.bk.length bcap)) (hL : L = X.st.length) (hbk : X.bk = [])
    (HA : After p X (.slice ba X.bk.length bcap) sv (.slice (some ⟨g, 0, none⟩) (L + 1) cap) w w1 L (us X.st ++ [.int .u64 0])) (hgp : g ≠ p) (hu : X.used < 65536) :
    lies (((w1.setCell ⟨p, 0, none⟩ (.slice (some ⟨g, 0, none⟩) (L + 1) cap)).setCell ⟨g, L, none⟩ (.int .u64 1)).setCell ⟨p, 3, none⟩ (.int .i64 (wrap64 ((X.used : Int) + 1)))) p (tk X)
      (.slice (some ⟨g, 0, none⟩) (L + 1) cap) (.slice ba X.bk.length bcap) ∧ tq X = L ∧ (tk X).st = X.st ++ [1] := by
  obtain ⟨h1, h2, h3, h4, h5, h6⟩ := h
  have e0 : st0 X = X.st ++ [0] := by unfold st0; rw [if_pos hbk]
  have eq : tq X = L := by unfold tq; rw [if_pos hbk, hL]
  have ew : wrap64 ((X.used : Int) + 1) = ((X.used + 1 : Nat) : Int) := by unfold wrap64; omega
  have t1 : (tk X).st = X.st ++ [1] := by
    unfold tk
    rw [e0, eq, hL]
    simp [List.getD]
  have t2 : (tk X).bk = X.bk := by unfold tk; rw [hbk]; rfl
  have l1 : (tk X).st.length = L + 1 := by rw [t1, List.length_append, hL]; rfl
  have hgb : ∀ b, (Value.slice ba X.bk.length bcap).ownBlock = some b → b ≠ g := by
    rintro b hb rfl
    rcases HA.mv with hmv | ⟨b', hmv, hb'⟩
    · exact h6 b (by rw [← hmv]; rfl) hb
    · have := (h3.lt b hb).2
      simp only [Value.ownBlock, Option.some.injEq] at hmv
      omega
  rw [ew]
  refine ⟨⟨?_, ?_, ?_, by simpa [Value.ownBlock] using hgp, h5, fun b hb hc => hgb b hc ?_⟩, eq, t1⟩
  · have a1 := heap_set (o := 0) (.slice (some ⟨g, 0, none⟩) (L + 1) cap) HA.blk
    have a2 := (heap_other (w := w1.setCell ⟨p, 0, none⟩ (.slice (some ⟨g, 0, none⟩) (L + 1) cap)) (o := L) (.int .u64 1) (Ne.symm hgp)).trans a1
    exact heap_set (o := 3) (.int .i64 ((X.used + 1 : Nat) : Int)) a2
  · rw [l1, t1]
    have k1 : (w1.setCell ⟨p, 0, none⟩ (.slice (some ⟨g, 0, none⟩) (L + 1) cap)).ownsRow 0 30 1 (.slice (some ⟨g, 0, none⟩) (L + 1) cap) (L + 1) (us X.st ++ [.int .u64 0]) :=
      ownsRow_keep HA.own (fun b hb => by
        simp only [Value.ownBlock, Option.some.injEq] at hb
        subst hb
        exact heap_other _ hgp)
    have k2 := ownsRow_set (.int .u64 1) k1 (o := L) (by omega)
    have e : (us X.st ++ [Value.int .u64 0]).set L (.int .u64 1) = us (X.st ++ [1]) := by
      rw [List.set_append_right (h := by rw [us_len]; omega), us_len, hL]
      simp [us]
    rw [e] at k2
    refine ownsRow_keep k2 (fun b hb => ?_)
    simp only [Value.ownBlock, Option.some.injEq] at hb
    subst hb
    exact heap_other _ hgp
  · rw [t2]
    refine ownsRow_keep h3 (fun b hb => ?_)
    have hbp : b ≠ p := fun e => h5 (by rw [hb, e])
    rw [heap_other _ hbp, heap_other _ (hgb b hb), heap_other _ hbp]
    exact HA.gr.block b (h3.lt b hb).2 (fun e => h6 b e.symm hb)
  · simpa [Value.ownBlock, eq_comm] using hb
theorem take_new (p : Nat) (X : A) (sv bv : Value) (w : World) (h : lies w p X sv bv) (hf : Fit X) (hu : X.used < X.room) (hbk : X.bk = []) (hlen : X.st.length < X.room) :
    Calls Try.prog 19 #[.pointer (some ⟨p, 0, none⟩)] w fun e w' => e = .returned (.tuple #[.int .u64 ((hdl (tk X) (tq X) : Nat) : Int), .int .i64 0]) ∧ Turned p sv bv w (tk X) w' := by
  obtain ⟨c0, c1, c2, c3, f0, f1, f2, f3⟩ := h.cells
  obtain ⟨ba, bcap, rfl⟩ := own_slice h.2.2.1
  obtain ⟨sa, scap, hsv⟩ := own_slice h.2.1
  have hne : ((X.used : Int) == (X.room : Int)) = false := by simp; omega
  have hb0 : X.bk.length = 0 := by rw [hbk]; rfl
  rw [hb0] at c1
  have hlen2 : X.st.length + 1 ≤ 65536 := by have := hf.r2; omega
  obtain ⟨L, hL⟩ : ∃ L, L = X.st.length := ⟨_, rfl⟩
  rw [← hL] at hsv hlen2
  have HL := Lib.hid hL
  have HO := Lib.hid h.2.1
  have HSV := Lib.hid hsv
  rw [hsv] at c0
  have H := Lib.hid h
  clear h hb0 hL hlen hsv
  go_enter Try.func19, Try.ntmps19
  go_wp2_with (go_at_call 42; refine (none_any _ _ _ _ _ H.out hf.r1).mono ?_; rintro e w' ⟨rfl, rfl⟩)
  go_quiet (fail)
  go_wp2_with (first
    | (at_builtin; refine app_own rfl _ _ _ _ _ 1 8 rfl Try.underlying24 info30 rfl (by omega) (by omega) _ L (us X.st) [.int .u64 0] rfl _ (by simp) rfl rfl (by simp [Value.oneCell']) (by rw [← HSV.out, HL.out]; exact HO.out) (by omega) ?_; intro v1 w1 hown hgrow hmv
       obtain ⟨g, cap, hv1, hgp, hcap, HA, d0, d2, d3, e0, e3, dc, df⟩ := after_app (w := w.drewN nq) H.out hown HL.out.symm (by rw [HSV.out]; exact hgrow) (by rw [HSV.out]; exact hmv)
       subst hv1
       clear hown hgrow hmv c0 c1 c2 c3 f0 f1 f2 f3)
    | fail)
  have HA := Lib.hid HA.out.undraw
  obtain ⟨hL, htq, t1⟩ := lies_new H.out HL.out hbk HA.out hgp (by have := hf.r2; omega)
  have tl : (tk X).st.length = L + 1 := by rw [t1, List.length_append, HL.out]; rfl
  have tq1 : (tk X).st.getD L 0 = 1 := by rw [t1, HL.out]; simp [List.getD]
  refine (handle_odd p (tk X) _ _ L _ hL hf.r1 (by omega) (by rw [tq1]) (by rw [tq1]; omega) (by omega)).mono ?_
  rintro e w2 ⟨rfl, rfl⟩
  go_wp2_with fail
  go_ret2
  rw [htq]
  have hp := (Array.getElem?_eq_some_iff.1 H.out.1).1
  have hg : foot p sv (.slice ba X.bk.length bcap) g ∨ w.heap.size ≤ g := by
    rcases HA.out.mv with hmv | ⟨b, hmv, hb⟩
    · exact .inl (.inr (.inl (by rw [← hmv]; rfl)))
    · simp only [Value.ownBlock, Option.some.injEq] at hmv
      exact .inr (by rw [hmv]; exact hb)
  refine ⟨rfl, _, _, hL, ?_, fun b hb => ?_⟩
  · refine Step.setCell (Step.setCell (Step.setCell ((Step.refl _ _).grown HA.out.gr (fun k hk => .inl (.inr (.inl hk)))) _ (.inl (.inl rfl)) _) _ hg _) _ (.inl (.inl rfl)) _
  · rcases hb with h | h | h
    · exact .inl (.inl h)
    · simp only [Value.ownBlock, Option.some.injEq] at h
      exact h ▸ hg
    · exact .inl (.inr (.inr h))
end Go.Proofs.Ytekdgghekdajbaa.Ar
