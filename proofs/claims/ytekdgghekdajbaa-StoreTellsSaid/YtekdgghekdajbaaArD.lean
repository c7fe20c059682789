/- DERIVED. Layer 4 (arena): 'Give'. -/
import Derived.Test.YtekdgghekdajbaaArC
set_option linter.unusedVariables false
set_option linter.unusedSimpArgs false
set_option maxRecDepth 100000
namespace Go.Proofs.Ytekdgghekdajbaa.Ar
open Go.RowKit Go.Proofs.Ytekdgghekdajbaa

theorem give_not (p : Nat) (X : A) (sv bv : Value) (H : Nat) (hH : H < 18446744073709551616) (w : World) (h : lies w p X sv bv) (hf : Fit X) (hb : pb X H = false) :
    Calls Try.prog 15 #[.pointer (some ⟨p, 0, none⟩), .int .u64 H] w fun e w' => e = .returned (.int .i64 40) ∧ w = w' := by
  have HL := Lib.hid h
  have HB := Lib.hid hb
  have HH := Lib.hid hH
  clear h hb hH
  go_enter Try.func15, Try.ntmps15
  go_wp2_with (first
    | (go_at_call 42; refine (none_any _ _ _ _ _ HL.out hf.r1).mono ?_; rintro e w' ⟨rfl, rfl⟩)
    | (go_at_call 14; refine (place_any _ _ _ _ _ HH.out _ HL.out hf).mono ?_; rintro e w' ⟨rfl, rfl⟩; rw [HB.out]))
  go_ret
  exact ⟨rfl, rfl⟩
def gv (X : A) (q : Nat) : A := ⟨X.st.set q (X.st.getD q 0 + 1), X.bk ++ [q], X.room, X.used - 1⟩
structure Aft (p q : Nat) (X : A) (sv bv v1 : Value) (w w1 : World) (L : Nat) : Prop where
  own : w1.ownsRow 0 3 1 v1 (L + 1) (is X.bk ++ [.int .i64 q])
  st : w1.ownsRow 0 30 1 sv X.st.length (us (gv X q).st)
  mv : Moved w bv v1
  sb : ∀ b, sv.ownBlock = some b → v1.ownBlock ≠ some b
  pb : v1.ownBlock ≠ some p
  blk : w1.heap[p]? = some (.cells #[sv, bv, .int .i64 X.room, .int .i64 X.used] 61 (0, 0))
  step : Step (foot p sv bv) w w1
theorem aft_app {p q sg scap : Nat} {X : A} {bv v1 : Value} {w w1 : World} {L n : Nat} (h : lies w p X (.slice (some ⟨sg, 0, none⟩) X.st.length scap) bv) (hq : q < X.st.length) (hn : n = X.st.getD q 0)
    (hown : w1.ownsRow 0 3 1 v1 (L + 1) (is X.bk ++ [.int .i64 q]))
    (hgrow : (w.setCell ⟨sg, q, none⟩ (.int .u64 ((n : Int) + 1))).grownBy w1 bv.ownBlock) (hmv : Moved (w.setCell ⟨sg, q, none⟩ (.int .u64 ((n : Int) + 1))) bv v1) :
    Hid (Aft p q X (.slice (some ⟨sg, 0, none⟩) X.st.length scap) bv v1 w w1 L) ∧ w1.cell? ⟨p, 1, none⟩ = some bv ∧ w1.cell? ⟨p, 3, none⟩ = some (.int .i64 X.used) ∧
      w1.frozen? ⟨p, 1, none⟩ = false ∧ w1.frozen? ⟨p, 3, none⟩ = false := by
  obtain ⟨h1, h2, h3, h4, h5, h6⟩ := h
  have hsp : sg ≠ p := fun e => h4 (by simp [Value.ownBlock, e])
  have hp := (Array.getElem?_eq_some_iff.1 h1).1
  have hsl := (h2.lt sg rfl).2
  have hw1 : w1.heap[p]? = some (.cells #[.slice (some ⟨sg, 0, none⟩) X.st.length scap, bv, .int .i64 X.room, .int .i64 X.used] 61 (0, 0)) :=
    (hgrow.block p (by rw [size_set]; exact hp) (fun e => h5 e.symm)).trans ((heap_other _ (Ne.symm hsp)).trans h1)
  have hmv' : Moved w bv v1 := by
    rcases hmv with hmv | ⟨b, hmv, hb⟩
    · exact .inl hmv
    · exact .inr ⟨b, hmv, by rw [size_set] at hb; exact hb⟩
  have en : (n : Int) + 1 = ((n + 1 : Nat) : Int) := by omega
  have st := ownsRow_set (.int .u64 ((n : Int) + 1)) h2 (o := q) (by omega)
  rw [en, us_set, ← en] at st
  have hsb : sg ≠ p ∧ bv.ownBlock ≠ some sg := ⟨hsp, h6 sg rfl⟩
  refine ⟨Lib.hid ⟨hown, ?_, hmv', ?_, ?_, hw1, ?_⟩, by simp [World.cell?, hw1], by simp [World.cell?, hw1], by simp [World.frozen?, hw1], by simp [World.frozen?, hw1]⟩
  · have e : (gv X q).st = X.st.set q (n + 1) := by unfold gv; rw [hn]
    rw [e]
    refine ownsRow_keep st (fun b hb => ?_)
    simp only [Value.ownBlock, Option.some.injEq] at hb
    subst hb
    exact hgrow.block sg (by rw [size_set]; exact hsl) (fun e => hsb.2 e.symm)
  · intro b hb hc
    simp only [Value.ownBlock, Option.some.injEq] at hb
    subst hb
    rcases hmv' with hmv | ⟨b, hmv, hb⟩
    · exact hsb.2 (hmv ▸ hc)
    · rw [hmv] at hc
      injection hc with hc
      omega
  · intro hc
    rcases hmv' with hmv | ⟨b, hmv, hb⟩
    · exact h5 (hmv ▸ hc)
    · rw [hmv] at hc
      injection hc with hc
      omega
  · exact ((Step.refl _ _).setCell ⟨sg, q, none⟩ (.inl (.inr (.inl rfl))) _).grown hgrow (fun k hk => .inl (.inr (.inr hk)))
theorem lies_give {p q L : Nat} {X : A} {sv bv v1 : Value} {w w1 : World} (HA : Aft p q X sv bv v1 w w1 L) (hsp : sv.ownBlock ≠ some p) (hL : L = X.bk.length) (hu : 1 ≤ X.used) (hu2 : X.used ≤ 65536) :
    lies ((w1.setCell ⟨p, 1, none⟩ v1).setCell ⟨p, 3, none⟩ (.int .i64 ((X.used : Int) - 1))) p (gv X q) sv v1 := by
  have ew : (X.used : Int) - 1 = ((X.used - 1 : Nat) : Int) := by omega
  rw [ew]
  have keep : ∀ {e n : Nat} {v : Value} {xs : List Value}, w1.ownsRow 0 e 1 v n xs → v.ownBlock ≠ some p → ((w1.setCell ⟨p, 1, none⟩ v1).setCell ⟨p, 3, none⟩ (.int .i64 ((X.used - 1 : Nat) : Int))).ownsRow 0 e 1 v n xs := by
    intro e n v xs k hv
    refine ownsRow_keep k (fun b hb => ?_)
    have : b ≠ p := fun e => hv (by rw [hb, e])
    rw [heap_other _ this, heap_other _ this]
  refine ⟨?_, ?_, ?_, hsp, HA.pb, HA.sb⟩
  · have a1 := heap_set (o := 1) v1 HA.blk
    exact heap_set (o := 3) (.int .i64 ((X.used - 1 : Nat) : Int)) a1
  · have e : (gv X q).st.length = X.st.length := by unfold gv; rw [List.length_set]
    rw [e]
    exact keep HA.st hsp
  · have e : (gv X q).bk.length = L + 1 := by unfold gv; rw [List.length_append, hL]; rfl
    have e2 : is (gv X q).bk = is X.bk ++ [.int .i64 q] := by unfold gv is; simp
    rw [e, e2]
    exact keep HA.own HA.pb
theorem give_yes (p : Nat) (X : A) (sv bv : Value) (H q : Nat) (hH : H < 18446744073709551616) (w : World) (h : lies w p X sv bv) (hf : Fit X) (hb : pb X H = true) (hv : pv X H = q) (hq : q < X.st.length) (hu : 1 ≤ X.used) (hu2 : X.used ≤ 65536) (hbl : X.bk.length < 65536) (hbd : X.st.getD q 0 < 4294967296) :
    Calls Try.prog 15 #[.pointer (some ⟨p, 0, none⟩), .int .u64 H] w fun e w' => e = .returned (.int .i64 0) ∧ Turned p sv bv w (gv X q) w' := by
  obtain ⟨c0, c1, c2, c3, f0, f1, f2, f3⟩ := h.cells
  obtain ⟨sg, scap, rfl, hsc, hsm⟩ := own_cap h.2.1 (by omega)
  obtain ⟨ba, bcap, hbv⟩ := own_slice h.2.2.1
  obtain ⟨n, hn⟩ : ∃ n, n = X.st.getD q 0 := ⟨_, rfl⟩
  have hs := h.2.1.cells (g := sg) rfl q (.int .u64 n) (by rw [us_at _ _ hq, hn])
  rw [add_plain] at hs
  have hfr : w.frozen? ⟨sg, q, none⟩ = false := h.2.1.frozen' rfl _
  have hsp : sg ≠ p := fun e => h.2.2.2.1 (by simp [Value.ownBlock, e])
  rw [← hn] at hbd
  have HN := Lib.hid hn
  rw [hbv] at c1
  obtain ⟨Lb, hLb⟩ : ∃ L, L = X.bk.length := ⟨_, rfl⟩
  rw [← hLb] at c1 hbl hbv
  have HBV := Lib.hid hbv
  have HLB := Lib.hid hLb
  have HL := Lib.hid h
  have HB := Lib.hid hb
  have HV := Lib.hid hv
  have HH := Lib.hid hH
  clear h hb hv hn hH hbv hLb
  go_enter Try.func15, Try.ntmps15
  go_wp2_with (first
    | (go_at_call 42; refine (none_any _ _ _ _ _ HL.out hf.r1).mono ?_; rintro e w' ⟨rfl, rfl⟩)
    | (go_at_call 14; refine (place_any _ _ _ _ _ HH.out _ HL.out hf).mono ?_; rintro e w' ⟨rfl, rfl⟩; rw [HB.out, HV.out])
    | (at_builtin; refine app_own rfl _ _ _ _ _ 1 8 rfl Try.underlying41 info3 rfl (by omega) (by omega) _ Lb (is X.bk) [.int .i64 q] rfl _ (by simp [size_set]) rfl rfl (by simp [Value.oneCell']) (by rw [← HBV.out, HLB.out]; exact ownsRow_keep HL.out.2.2.1 (fun b hb => heap_other _ (fun e => HL.out.2.2.2.2.2 sg rfl (e ▸ hb)))) (by omega) ?_; intro v1 w1 hown hgrow hmv
       rw [← HBV.out] at hgrow hmv
       obtain ⟨HA, d1, d3, e1, e3⟩ := aft_app HL.out hq HN.out hown hgrow hmv
       obtain ⟨g, cap, hv1, _, _⟩ := own_cap hown (by omega)
       subst hv1
       clear hown hgrow hmv c0 c1 c2 c3 f0 f1 f2 f3))
  go_ret
  have hsp' : (Value.slice (some ⟨sg, 0, none⟩) X.st.length scap).ownBlock ≠ some p := HL.out.2.2.2.1
  refine ⟨rfl, _, _, lies_give HA.out hsp' HLB.out hu hu2, ?_, fun b hb => ?_⟩
  · exact (HA.out.step.setCell ⟨p, 1, none⟩ (.inl (.inl rfl)) _).setCell ⟨p, 3, none⟩ (.inl (.inl rfl)) _
  · rcases hb with h | h | h
    · exact .inl (.inl h)
    · exact .inl (.inr (.inl h))
    · rcases HA.out.mv with hmv | ⟨b', hmv, hb'⟩
      · exact .inl (.inr (.inr (hmv ▸ h)))
      · rw [hmv] at h
        injection h with h
        exact .inr (h ▸ hb')
end Go.Proofs.Ytekdgghekdajbaa.Ar
