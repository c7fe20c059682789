/- DERIVED. Layer 6 (tree): the document's tree: place, Get, Next. -/
import Derived.Test.YtekdahppacghbabR6A
import Derived.Deep.RegionHeld3
import Derived.BigRegion
set_option linter.unusedVariables false
set_option linter.unusedSimpArgs false
set_option maxRecDepth 100000
namespace Go.Proofs.Ytekdahppacghbab.Tr
open Go.RowKit Go.Proofs.Ytekdahppacghbab Go.Proofs.Ytekdahppacghbab.TreeP

theorem ownsR_keep {w w' : World} {e size n : Nat} {v : Value} {xs : List Value} (h : ownsR w e size v n xs) (hx : Ext w w') : ownsR w' e size v n xs :=
  ⟨h.1, by
    rcases h.2 with hn | ⟨g, cap, cur, rfl, hg, r⟩
    · exact .inl hn
    · exact .inr ⟨g, cap, cur, rfl, hx.heap hg, r⟩⟩
theorem is_at_none {E : List En} {q : Key} (h : plc E q = E.length) : is_at E q = false := by
  unfold is_at
  rw [h]
  simp
theorem is_at_some {E : List En} {q : Key} {e : En} (h : E[plc E q]? = some e) : is_at E q = decide (e.1 = q) := by
  unfold is_at
  rw [h]
  simp
theorem key_eq_dec (ea es a s : Int) : (ea = a → (es == s) = decide ((ea, es) = (a, s))) ∧ (¬ ea = a → decide ((ea, es) = (a, s)) = false) := by
  constructor
  · intro h
    subst h
    by_cases h2 : es = s
    · subst h2; simp
    · have : ¬ ((ea, es) = (ea, s)) := fun h => h2 (by injection h)
      rw [decide_eq_false this]
      simp [h2]
  · intro h
    rw [decide_eq_false_iff_not]
    exact fun h2 => h (by injection h2)
set_option maxHeartbeats 1000000 in
theorem place_any {v : Value} {n room : Nat} {E : List En} {w : World} (h : ownsR w 49 3 v n (ents E)) (hE : E.length = n) (bn : n ≤ 65536) (a s : Int) :
    Calls Try.prog 39 #[.agg #[v, .int .i64 (room : Int)], .agg #[.int .u64 a, .int .u64 s]] w fun e w' => e = .returned (.tuple #[.int .i64 ((plc E (a, s) : Nat) : Int), .bool (is_at E (a, s))]) ∧ Ext w w' := by
  obtain ⟨va, vc, rfl⟩ := h.slice
  obtain ⟨P, hP⟩ : ∃ P, P = plc E (a, s) := ⟨_, rfl⟩
  have hPn : P ≤ n := by rw [hP, ← hE]; exact plc_le E (a, s)
  obtain ⟨D, hD⟩ : ∃ D, D = is_at E (a, s) := ⟨_, rfl⟩
  rw [← hP, ← hD]
  have HP := Lib.hid hP
  have HD := Lib.hid hD
  have HE := Lib.hid hE
  have HR := Lib.hid h
  have X0 := Lib.hid (((Ext.refl w).alloc (.cells #[.slice va n vc, .int .i64 (room : Int)] 28)).alloc (.cells #[.int .u64 a, .int .u64 s] 24))
  obtain ⟨W1, hW1⟩ : ∃ W1, W1 = (w.alloc (.cells #[.slice va n vc, .int .i64 (room : Int)] 28)).alloc (.cells #[.int .u64 a, .int .u64 s] 24) := ⟨_, rfl⟩
  have c0 : W1.cell? ⟨w.heap.size, 0, none⟩ = some (.slice va n vc) := by rw [hW1]; simp
  have c1 : W1.cell? ⟨w.heap.size, 1, none⟩ = some (.int .i64 (room : Int)) := by rw [hW1]; simp
  have k0 : W1.cell? ⟨w.heap.size + 1, 0, none⟩ = some (.int .u64 a) := by rw [hW1]; simp
  have k1 : W1.cell? ⟨w.heap.size + 1, 1, none⟩ = some (.int .u64 s) := by rw [hW1]; simp
  have HC := Lib.hid (And.intro c0 (And.intro c1 (And.intro k0 k1)))
  rw [← hW1] at X0
  have HW1 := Lib.hid hW1
  clear hP hD h hE hW1 c0 c1 k0 k1
  go_enter Try.func39, Try.ntmps39
  go_wp2_with fail
  rw [← HW1.out]
  go_loopw [6] (fun vi wr => ∃ k : Nat, vi = .int .i64 (k : Int) ∧ k ≤ P ∧ Ext W1 wr) (fun vi _ => n - (intOf vi).toNat)
  case atStart => exact ⟨0, rfl, Nat.zero_le _, Ext.refl W1⟩
  case round =>
    obtain ⟨k, rfl, hk, hx⟩ := hrel
    obtain ⟨c0, c1, k0, k1⟩ := HC.out
    replace c0 := hx.cell c0
    replace c1 := hx.cell c1
    replace k0 := hx.cell k0
    replace k1 := hx.cell k1
    have HX := Lib.hid hx
    have HXW := Lib.hid (X0.out.trans hx)
    clear hx
    by_cases hlt : k < n
    · have hltI : (k : Int) < (n : Int) := by omega
      obtain ⟨g1, cap1, e1, q1, -⟩ := HR.out.form (by omega)
      injection e1 with e1 _ e3
      subst e1 e3
      obtain ⟨e, he⟩ : ∃ e, E[k]? = some e := ⟨_, List.getElem?_eq_getElem (by rw [HE.out]; exact hlt)⟩
      obtain ⟨r0, r1, -⟩ := rowEnt HR.out he
      replace r0 := HXW.out.cell r0
      replace r1 := HXW.out.cell r1
      have hst := plc_step (E := E) (q := (a, s)) (k := k) (by rw [← HP.out]; exact hk) e he
      rw [← HP.out] at hst
      obtain ⟨B, hB⟩ : ∃ B, B = lt e.1 (a, s) := ⟨_, rfl⟩
      rw [← hB] at hst
      have HL : Hid (∀ W, Calls Try.prog 34 #[.agg #[.int .u64 e.1.1, .int .u64 e.1.2], .agg #[.int .u64 a, .int .u64 s]] W fun e' w' => e' = .returned (.bool B) ∧ Ext W w') := Lib.hid (fun W => by rw [hB]; exact rless_any _ _ _ _ _)
      have HLE := Lib.hid he
      clear he hB
      go_wp2_with fail
      go_region_held3 (fun w' => w'.cell? ⟨w.heap.size, 0, none⟩ = some (.slice (some ⟨g1, 0, none⟩) n vc) ∧ w'.cell? ⟨w.heap.size + 1, 0, none⟩ = some (.int .u64 a) ∧ w'.cell? ⟨w.heap.size + 1, 1, none⟩ = some (.int .u64 s) ∧ w'.cell? ⟨g1, k * 3, none⟩ = some (.int .u64 e.1.1) ∧ w'.cell? ⟨g1, k * 3 + 1, none⟩ = some (.int .u64 e.1.2))
        (first | go_keep | (go_split_ands; exact ⟨y0, y1, y2, y3, y4⟩))
        ((go_at_call 34; refine (HL.out _).mono ?_; rintro e' w2 ⟨rfl, hx2⟩; have hx3 := (Ext.refl wr).drew.trans hx2; have y0 := hx3.cell c0; have y1 := hx3.cell k0; have y2 := hx3.cell k1; have y3 := hx3.cell r0; have y4 := hx3.cell r1))
      cases B with
      | true =>
        have hkP : k < P := hst.2 rfl
        have HX2 := Lib.hid (HX.out.trans hx3)
        clear hx2 hx3 hst r0 r1 c0 c1 k0 k1
        go_wp2_with fail
        exact ⟨⟨k + 1, by go_num, by omega, HX2.out⟩, by simp [intOf]; omega⟩
      | false =>
        have hkP : k = P := by
          have : ¬ k < P := fun h => by have := hst.1 h; cases this
          omega
        subst hkP
        have hd : D = decide (e.1 = (a, s)) := by rw [HD.out, is_at_some (by rw [← HP.out]; exact HLE.out)]
        replace r0 := hx3.cell r0
        replace r1 := hx3.cell r1
        replace c0 := hx3.cell c0
        replace c1 := hx3.cell c1
        replace k0 := hx3.cell k0
        replace k1 := hx3.cell k1
        obtain ⟨⟨ea, es⟩, ev⟩ := e
        simp only at r0 r1 hd
        obtain ⟨d1, d2⟩ := key_eq_dec ea es a s
        rw [← hd] at d1
        have HXF := Lib.hid (HXW.out.trans hx3)
        clear hx2 hx3 hst
        by_cases t0 : ea = a
        · replace d1 := d1 t0
          subst t0
          clear d2 hd
          by_cases t1 : es = s
          · subst t1
            have hD : D = true := by rw [← d1]; simp
            subst hD
            clear d1
            go_wp2_with fail
            go_region
            go_wp2_with fail
            go_ret2
            exact ⟨rfl, HXF.out.drew⟩
          · have t1 : (es == s) = false := by rw [beq_eq_false_iff_ne]; exact t1
            rw [t1] at d1
            subst d1
            go_wp2_with fail
            go_region
            go_wp2_with fail
            go_ret2
            exact ⟨rfl, HXF.out.drew⟩
        · replace d2 := d2 t0
          have t0 : (ea == a) = false := by rw [beq_eq_false_iff_ne]; exact t0
          rw [d2] at hd
          subst hd
          clear d1 d2
          go_wp2_with fail
          go_region
          go_wp2_with fail
          go_ret2
          exact ⟨rfl, HXF.out.drew⟩
    · have hkn : k = n := by omega
      have hPk : P = k := by omega
      have hd : D = false := by rw [HD.out]; exact is_at_none (by rw [← HP.out, HE.out]; omega)
      subst hPk hd
      have e1 : ((n : Int) < (n : Int)) = False := by simp
      subst hkn
      go_wp2_with fail
      go_quiet (fail)
      go_wp2_with fail
      go_quiet (fail)
      go_wp2_with fail
      go_ret2
      exact ⟨rfl, (HXW.out.drewN _).drewN _⟩
end Go.Proofs.Ytekdahppacghbab.Tr
