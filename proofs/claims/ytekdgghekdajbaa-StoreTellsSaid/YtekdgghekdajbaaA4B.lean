/- DERIVED. Layer 4 (arena): the document's arena: Place, copied. -/
import Derived.Test.YtekdgghekdajbaaA4A
set_option linter.unusedVariables false
set_option linter.unusedSimpArgs false
set_option maxRecDepth 100000
namespace Go.Proofs.Ytekdgghekdajbaa.Ar
open Go.RowKit Go.Proofs.Ytekdgghekdajbaa

theorem place_found {N : Nat} {X : A} (ho : Ok N X) {k H : Nat} (hk : k < X.st.length) (h1 : hb X (k : Int) = true) (h2 : hv X (k : Int) = (H : Int)) : pb X (H : Int) = true ∧ pv X (H : Int) = (k : Int) := by
  have hs : X.st.getD k 0 % 2 = 1 := by
    apply Decidable.byContradiction
    intro hs
    have := (handle_not (X := X) (q := (k : Int)) (by rw [Int.toNat_natCast]; exact fun h => hs h.2.2)).1
    rw [h1] at this
    cases this
  have hl := Nat.le_trans ho.len ho.r2
  rw [(handle_yes hk hs).2] at h2
  have e : H = X.st.getD k 0 / 2 * 4294967296 + k + 1 := by omega
  have hp : pb X (H : Int) = true := by
    rw [e, pb_at _ _ _ hk hl]
    exact decide_eq_true (by omega)
  refine ⟨hp, ?_⟩
  unfold pv
  rw [if_pos hp, e]
  omega
theorem place_none {X : A} {H : Nat} (h : ∀ k : Nat, k < X.st.length → ¬ (hb X (k : Int) = true ∧ hv X (k : Int) = (H : Int))) : pb X (H : Int) = false ∧ pv X (H : Int) = 0 := by
  have hp : pb X (H : Int) = false := by
    cases hp : pb X (H : Int)
    · rfl
    · exfalso
      obtain ⟨q, _, h2, h3, h4⟩ := pb_spec hp
      obtain ⟨e1, e2⟩ := handle_yes h2 h3
      exact h q h2 ⟨e1, by rw [e2, h4, hdl_at h3]⟩
  refine ⟨hp, ?_⟩
  unfold pv
  rw [hp]
  rfl
set_option maxHeartbeats 1000000 in
theorem rplace_any {N : Nat} {X : A} {v1 v2 v3 : Value} {w : World} (h : Ref X v1 v2 v3 w) (ho : Ok N X) (hN : N < 4294967295) (H : Nat) :
    Calls Try.prog 26 #[.agg #[v1, v2, v3, .int .i64 X.room], .int .u64 H] w fun e w' => e = .returned (.tuple #[.int .i64 (pv X H), .bool (pb X H)]) ∧ Ext w w' := by
  obtain ⟨a1, c1, rfl⟩ := h.t.slice
  obtain ⟨a2, c2, rfl⟩ := h.b.slice
  obtain ⟨a3, c3, rfl⟩ := h.k.slice
  obtain ⟨L, hL⟩ : ∃ L, L = X.st.length := ⟨_, rfl⟩
  have hL6 : L ≤ 65536 := by rw [hL]; exact Nat.le_trans ho.len ho.r2
  obtain ⟨hx0, b0, b1, b2, b3⟩ := box4 w (.slice a1 X.st.length c1) (.slice a2 X.st.length c2) (.slice a3 X.bk.length c3) (.int .i64 X.room) 48
  have HH : Hid (∀ W, Ext w W → ∀ q : Int, Calls Try.prog 25 #[.agg #[.slice a1 L c1, .slice a2 L c2, .slice a3 X.bk.length c3, .int .i64 X.room], .int .i64 q] W fun e w' => e = .returned (.tuple #[.int .u64 (hv X q), .bool (hb X q)]) ∧ Ext W w') := Lib.hid (fun W hW q => by
    rw [hL]
    exact rhandle_any (h.ext hW) ho hN q)
  rw [← hL] at hx0 b0 b1 b2 b3 ⊢
  obtain ⟨PV, hPV⟩ : ∃ PV, PV = pv X (H : Int) := ⟨_, rfl⟩
  obtain ⟨PB, hPB⟩ : ∃ PB, PB = pb X (H : Int) := ⟨_, rfl⟩
  rw [← hPV, ← hPB]
  obtain ⟨W1, hW1⟩ : ∃ W1, W1 = w.alloc (.cells #[.slice a1 L c1, .slice a2 L c2, .slice a3 X.bk.length c3, .int .i64 X.room] 48) := ⟨_, rfl⟩
  rw [← hW1] at hx0 b0 b1 b2 b3
  have HB := Lib.hid (And.intro b0 (And.intro b1 (And.intro b2 b3)))
  have HW := Lib.hid hW1
  have HX := Lib.hid hx0
  have HL := Lib.hid hL
  have HO := Lib.hid ho
  have HP := Lib.hid (And.intro hPV hPB)
  clear h ho b0 b1 b2 b3 hW1 hx0 hL hPV hPB
  go_enter Try.func26, Try.ntmps26
  go_wp2_with fail
  rw [← HW.out]
  go_loopw [6] (fun v6 wr => ∃ k : Nat, v6 = .int .i64 (k : Int) ∧ k ≤ L ∧ Ext W1 wr ∧ ∀ i : Nat, i < k → ¬ (hb X (i : Int) = true ∧ hv X (i : Int) = (H : Int))) (fun v6 _ => L - (intOf v6).toNat)
  case atStart => exact ⟨0, rfl, Nat.zero_le _, Ext.refl W1, fun i hi => absurd hi (Nat.not_lt_zero i)⟩
  case round =>
    obtain ⟨k, rfl, hk, hx, hno⟩ := hrel
    obtain ⟨b0, b1, b2, b3⟩ := HB.out
    replace b0 := hx.cell b0
    replace b1 := hx.cell b1
    replace b2 := hx.cell b2
    replace b3 := hx.cell b3
    have HXW := Lib.hid (HX.out.trans hx)
    have HX1 := Lib.hid hx
    have HNO := Lib.hid hno
    by_cases hlt : k < L
    · have hltI : (k : Int) < (L : Int) := by omega
      have hc := HH.out wr (HX.out.trans hx) (k : Int)
      obtain ⟨y, hy⟩ : ∃ y, y = hb X (k : Int) := ⟨_, rfl⟩
      obtain ⟨z, hz⟩ : ∃ z, z = hv X (k : Int) := ⟨_, rfl⟩
      rw [← hy, ← hz] at hc
      have HC := Lib.hid hc
      have HY := Lib.hid (And.intro hy hz)
      clear hc hy hz hx hno
      go_wp2_with fail
      refine (HC.out).mono ?_
      rintro e w2 ⟨rfl, hx2⟩
      have HX2 := Lib.hid (HX1.out.trans hx2)
      have HXF := Lib.hid (HXW.out.trans hx2)
      clear hx2 b0 b1 b2 b3 HC
      cases y with
      | true =>
        by_cases hzh : z = (H : Int)
        · subst hzh
          obtain ⟨p1, p2⟩ := place_found HO.out (k := k) (H := H) (by rw [← HL.out]; exact hlt) HY.out.1.symm HY.out.2.symm
          have e1 : PV = (k : Int) := HP.out.1.trans p2
          have e2 : PB = true := HP.out.2.trans p1
          subst e1 e2
          have hh : ((H : Int) == (H : Int)) = true := by simp
          clear p1 p2
          go_wp2_with fail
          go_ret2
          exact ⟨rfl, HXF.out⟩
        · have hzf : (z == (H : Int)) = false := by rw [beq_eq_false_iff_ne]; exact hzh
          have HN2 : Hid (∀ i : Nat, i < k + 1 → ¬ (hb X (i : Int) = true ∧ hv X (i : Int) = (H : Int))) := Lib.hid (fun i hi => by
            by_cases hik : i = k
            · subst hik
              intro hc
              exact hzh (HY.out.2.trans hc.2)
            · exact HNO.out i (by omega))
          clear hzh
          go_wp2_with fail
          exact ⟨⟨k + 1, by go_num, by omega, HX2.out, HN2.out⟩, by simp [intOf]; omega⟩
      | false =>
        have HN2 : Hid (∀ i : Nat, i < k + 1 → ¬ (hb X (i : Int) = true ∧ hv X (i : Int) = (H : Int))) := Lib.hid (fun i hi => by
          by_cases hik : i = k
          · subst hik
            intro hc
            have := HY.out.1.trans hc.1
            cases this
          · exact HNO.out i (by omega))
        go_wp2_with fail
        exact ⟨⟨k + 1, by go_num, by omega, HX2.out, HN2.out⟩, by simp [intOf]; omega⟩
    · obtain rfl : k = L := by omega
      obtain ⟨p1, p2⟩ := place_none (X := X) (H := H) (fun i hi => HNO.out i (by rw [HL.out]; exact hi))
      have e1 : PV = 0 := HP.out.1.trans p2
      have e2 : PB = false := HP.out.2.trans p1
      subst e1 e2
      clear p1 p2 hx hno
      go_wp2_with fail
      go_ret2
      exact ⟨rfl, HXW.out⟩
end Go.Proofs.Ytekdgghekdajbaa.Ar
