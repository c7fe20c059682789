/- DERIVED. Layer 6 (tree): contracts of the laws' walk and deep over a row of twigs. -/
import Derived.Test.YtekdahppacghbaaShA
import Derived.Test.YtekdahppacghbaaAppR
set_option linter.unusedVariables false
set_option linter.unusedSimpArgs false
set_option maxRecDepth 100000
namespace Go.Proofs.Ytekdahppacghbaa.Tr
open Go.RowKit Go.Proofs.Ytekdahppacghbaa Go.Proofs.Ytekdahppacghbaa.TreeP

/-- one twig of a row -/
theorem rowTw {w : World} {g cap n i : Nat} {Z : List Tw} (h : ownsR w 62 4 (.slice (some ⟨g, 0, none⟩) n cap) n (tws Z)) {z : Tw} (hz : Z[i]? = some z) :
    w.cell? ⟨g, i * 4, none⟩ = some (.int .u64 z.a) ∧ w.cell? ⟨g, i * 4 + 1, none⟩ = some (.int .u64 z.s) ∧ w.cell? ⟨g, i * 4 + 2, none⟩ = some (.bool z.red) ∧ w.cell? ⟨g, i * 4 + 3, none⟩ = some (.int .i64 z.up) := by
  have hh : ∀ c u, c < 4 → (tc z)[c]? = some u → w.cell? ⟨g, i * 4 + c, none⟩ = some u := fun c u h1 h2 => (h.cells rfl _ _ ((twsAt Z i c z hz h1).trans h2)).1
  exact ⟨hh 0 _ (by omega) rfl, hh 1 _ (by omega) rfl, hh 2 _ (by omega) rfl, hh 3 _ (by omega) rfl⟩
theorem ups_next {Z : List Tw} {i d : Nat} (h : Ups Z i d (-1)) : ∃ z, Z[i]? = some z ∧ 1 ≤ d ∧ ((z.up = -1 ∧ d = 1) ∨ ∃ j e : Nat, z.up = (j : Int) ∧ d = e + 1 ∧ Ups Z j e (-1)) := by
  generalize hab : (-1 : Int) = ab at h
  cases h with
  | @one _ z h1 => exact ⟨z, h1, Nat.le_refl _, .inl ⟨rfl, rfl⟩⟩
  | @more _ j e z _ h1 hj hu => exact ⟨z, h1, by omega, .inr ⟨j, e, hj, rfl, hu⟩⟩
theorem ups_lt {Z : List Tw} {i d : Nat} {ab : Int} (h : Ups Z i d ab) : i < Z.length := by
  cases h with
  | one h1 => exact (List.getElem?_eq_some_iff.1 h1).1
  | more h1 _ _ => exact (List.getElem?_eq_some_iff.1 h1).1
set_option maxHeartbeats 1000000 in
theorem deep_any {v : Value} {n : Nat} {Z : List Tw} {w : World} (h : ownsR w 62 4 v n (tws Z)) (hn : Z.length = n) (bn : n ≤ 65536) (i d : Nat) (hu : Ups Z i d (-1)) :
    Calls Try.prog 27 #[v, .int .i64 (i : Int)] w fun e w' => e = .returned (.int .i64 ((min d (n + 1) : Nat) : Int)) ∧ w = w' := by
  have hin := ups_lt hu
  obtain ⟨g, cap, rfl, q1, q2⟩ := h.form (by omega)
  unfold maxLen at q2
  have H := Lib.hid h
  have HN := Lib.hid hn
  have HU := Lib.hid hu
  clear h hu hn hin
  go_enter Try.func27, Try.ntmps27
  go_wp2_with fail
  go_loopw [1, 5] (fun vi vn wr => ∃ j k e : Nat, vi = .int .i64 (j : Int) ∧ vn = .int .i64 (k : Int) ∧ 1 ≤ k ∧ k + e = d + 1 ∧ k ≤ n + 1 ∧ Hid (Ups Z j e (-1)) ∧ w = wr) (fun _ vn _ => n + 2 - (intOf vn).toNat)
  case atStart => exact ⟨i, 1, d, rfl, rfl, Nat.le_refl _, by omega, by omega, HU, rfl⟩
  case round =>
    obtain ⟨j, k, e, rfl, rfl, hk, hke, hkn, hU, rfl⟩ := hrel
    obtain ⟨z, hz, he1, hcase⟩ := ups_next hU.out
    have hjn := ups_lt hU.out
    rw [HN.out] at hjn
    have hjI : (j : Int) < (n : Int) := by omega
    obtain ⟨-, -, -, c3⟩ := rowTw H.out hz
    rcases hcase with ⟨hm, he⟩ | ⟨j2, e2, hup, he2, hU2⟩
    · rw [hm] at c3
      have HK := Lib.hid (show min d (n + 1) = k by omega)
      clear hz hm
      go_wp2
      go_ret
      exact ⟨by rw [HK.out]; rfl, rfl⟩
    · rw [hup] at c3
      have hj2 := ups_lt hU2
      rw [HN.out] at hj2
      have hj2I : (j2 : Int) < (n : Int) := by omega
      have HU2 := Lib.hid hU2
      clear hz hup hU2
      by_cases hkl : k ≤ n
      · have hklI : (k : Int) ≤ (n : Int) := by omega
        go_wp2
        exact ⟨⟨j2, k + 1, e2, rfl, by go_num, by omega, by omega, by omega, HU2, trivial⟩, by simp [intOf]; omega⟩
      · have hklI : decide ((k : Int) ≤ (n : Int)) = false := by simp; omega
        have HK := Lib.hid (show min d (n + 1) = k by omega)
        go_wp2
        go_ret
        exact ⟨by rw [HK.out]; rfl, rfl⟩
set_option maxHeartbeats 1000000 in
theorem walk_any {v : Value} {n : Nat} {Z : List Tw} {w : World} (h : ownsR w 62 4 v n (tws Z)) (hn : Z.length = n) (bn : n ≤ 65536) {f te : Nat} {ab : Int} {c : Bool} {m : Nat} (hw : Wk Z f te ab c m) : te ≤ n →
    Calls Try.prog 28 #[v, .int .i64 (f : Int), .int .i64 (te : Int), .int .i64 ab] w fun e w' => e = .returned (.int .i64 (m : Int)) ∧ w = w' := by
  induction hw with
  | @nil f ab =>
    intro hte
    have e1 : ((f : Int) == (f : Int)) = true := by simp
    clear h
    go_enter Try.func28, Try.ntmps28
    go_wp2_with fail
    go_ret
    exact ⟨rfl, rfl⟩
  | @node f te r ab c cl cr m z h1 h2 h3 h4 h5 h6 h7 hl hr h8 il ir =>
    intro hte
    obtain ⟨l1, l2⟩ := wk_le hl
    obtain ⟨g, cap, rfl, q1, q2⟩ := h.form (by omega)
    unfold maxLen at q2
    have H := Lib.hid h
    have HN := Lib.hid hn
    have IL := Lib.hid (il (by omega))
    have IR := Lib.hid (ir hte)
    have H5 := Lib.hid h5
    have H3 := Lib.hid h3
    have H7 := Lib.hid h7
    have ft : f < te := by omega
    have e1 : ((f : Int) == (te : Int)) = false := by simp; omega
    obtain ⟨-, -, cr2, cr3⟩ := rowTw h h3
    rw [h6] at cr2
    have rn : r < n := by omega
    have mm : m ≤ 65536 := by omega
    clear il ir h h5 h3 h7 hl hr hn h8 l2
    go_enter Try.func28, Try.ntmps28
    go_wp2_with fail
    go_loopw [9, 10] (fun v9 v10 wr => ∃ k : Nat, v10 = .int .i64 (k : Int) ∧ f ≤ k ∧ k ≤ te ∧ v9 = .int .i64 (if k ≤ r then -1 else (r : Int)) ∧ w = wr) (fun _ v10 _ => te - (intOf v10).toNat)
    case atStart => exact ⟨f, rfl, Nat.le_refl _, by omega, by rw [if_pos h1], rfl⟩
    case round =>
      obtain ⟨k, rfl, hk1, hk2, hv9, rfl⟩ := hrel
      by_cases hlt : k < te
      · have hltI : (k : Int) < (te : Int) := by omega
        have knI : (k : Int) < (n : Int) := by omega
        obtain ⟨y, hy⟩ : ∃ y, Z[k]? = some y := ⟨_, List.getElem?_eq_getElem (by rw [HN.out]; omega)⟩
        obtain ⟨-, -, -, cy⟩ := rowTw H.out hy
        by_cases hkr : k = r
        · subst hkr
          rw [if_pos (Nat.le_refl _)] at hv9
          subst hv9
          have hyz : y = z := by
            have := H3.out
            rw [hy] at this
            injection this
          subst hyz
          rw [h4] at cy
          have e2 : (ab == ab) = true := by simp
          clear hy cr3
          go_wp2
          exact ⟨⟨k + 1, by go_num, by omega, by omega, by rw [if_neg (by omega)], trivial⟩, by simp [intOf]; omega⟩
        · have hne : (y.up == ab) = false := by
            rw [beq_eq_false_iff_ne]
            exact fun e => hkr (H5.out k y hk1 hlt hy e)
          obtain ⟨yu, hyu⟩ : ∃ yu, yu = y.up := ⟨_, rfl⟩
          rw [← hyu] at hne cy
          obtain ⟨x9, hx9⟩ : ∃ x9 : Int, x9 = if k ≤ r then -1 else (r : Int) := ⟨_, rfl⟩
          rw [← hx9] at hv9
          subst hv9
          have HX9 : Hid (x9 = if k + 1 ≤ r then -1 else (r : Int)) := Lib.hid (by
            rw [hx9]
            by_cases hle : k ≤ r
            · rw [if_pos hle, if_pos (by omega)]
            · rw [if_neg hle, if_neg (by omega)])
          clear hy hyu hx9 cr3 cr2
          go_wp2
          exact ⟨⟨k + 1, by go_num, by omega, by omega, by rw [← HX9.out], trivial⟩, by simp [intOf]; omega⟩
      · obtain rfl : k = te := by omega
        rw [if_neg (by omega)] at hv9
        subst hv9
        have rnI : (r : Int) < (n : Int) := by omega
        cases c with
        | true =>
          obtain ⟨q, y, rfl, hq, hyr⟩ := H7.out rfl
          have hqn : q < n := by have := (List.getElem?_eq_some_iff.1 hq).1; rw [HN.out] at this; exact this
          have hqI : (q : Int) < (n : Int) := by omega
          obtain ⟨-, -, cq, -⟩ := rowTw H.out hq
          rw [hyr] at cq
          have em : (m != m) = false := by simp
          clear hq cr3
          go_wp2_with fail
          refine (IL.out).mono ?_
          rintro e w2 ⟨rfl, rfl⟩
          go_wp2_with fail
          refine (IR.out).mono ?_
          rintro e w2 ⟨rfl, rfl⟩
          go_wp2_with fail
          go_ret
          exact ⟨rfl, rfl⟩
        | false =>
          have em : (m != m) = false := by simp
          clear cr3
          go_wp2_with fail
          refine (IL.out).mono ?_
          rintro e w2 ⟨rfl, rfl⟩
          go_wp2_with fail
          refine (IR.out).mono ?_
          rintro e w2 ⟨rfl, rfl⟩
          go_wp2_with fail
          go_ret
          exact ⟨by go_num, rfl⟩
end Go.Proofs.Ytekdahppacghbaa.Tr
