/- DERIVED. Layer 19 (delay): contracts of New; of a delay that is none; of Ints. Written by wip/mkdye.py. -/
import Derived.Test.YtlficiohenpghabDyD
import Derived.BigQuiet
set_option linter.unusedVariables false
set_option linter.unusedSimpArgs false
set_option maxRecDepth 100000
namespace Go.Proofs.Ytlficiohenpghab.Dy
open Go.RowKit Go.Maps Go.Proofs.Ytlficiohenpghab Go.Proofs.Ytlficiohenpghab.TreeP Go.Proofs.Ytlficiohenpghab.Tr Go.Proofs.Ytlficiohenpghab.Wk

section
variable {l : List HP} {w : World}
theorem own_new (n : Nat) (n1 : 1 ≤ n) (n2 : n ≤ 4096) (h : Own l w) :
    Calls Try.prog 9 #[.int .i64 (n : Int)] w fun e w' => ∃ p, e = .returned (.tuple #[.pointer (some ⟨p, 0, none⟩), .int .i64 0]) ∧ DO p n 0 [] l w' := by
  have hmm := @run_makeMap Try.prog
  have HN := Lib.hid (Tr.own_new n n1 (by omega) h)
  have nI : ¬ (n : Int) < 1 := by omega
  have nJ : ¬ (4096 : Int) < (n : Int) := by omega
  go_enter Try.func9, Try.ntmps9
  go_wp2_with fail
  refine (HN.out).mono ?_
  rintro e w1 ⟨t, rfl, h1⟩
  have h2 := Own.mapDNew (P := Try.prog) 3 keyR h1
  have h3 := (Go.Proofs.Ytlficiohenpghab.Own.blkNew h2 #[.pointer (some ⟨t, 0, none⟩), .map (some w1.heap.size), .int .i64 (n : Int), .int .u64 ((0 : Nat) : Int)] 62).tail OwnIn.swap
  rw [World.size_alloc] at h3
  have HX := Lib.hid (show DO (w1.heap.size + 1) n 0 [] l _ from ⟨t, w1.heap.size, 0, .map [], h3, rel_nil, Nat.le_refl _, ⟨fun e he => absurd he (by simp), fun e he => absurd he (by simp), List.Pairwise.nil, fun e he => absurd he (by simp)⟩, n1, n2⟩)
  clear h h1 h2 h3 HN n1 n2
  go_wp2_with fail
  exact bodyPost_ret (v := .tuple #[.pointer (some ⟨w1.heap.size + 1, 0, none⟩), .int .i64 0]) (by simp [results, Try.results9, go_sem]) rfl ⟨_, rfl, HX.out⟩
theorem new_bad (n : Int) (hn : n < 1 ∨ 4096 < n) :
    Calls Try.prog 9 #[.int .i64 n] w fun e w' => e = .returned (.tuple #[.pointer none, .int .i64 2]) ∧ w = w' := by
  by_cases n1 : n < 1
  · go_enter Try.func9, Try.ntmps9
    go_wp2_with fail
    exact bodyPost_ret (v := .tuple #[.pointer none, .int .i64 2]) (by simp [results, Try.results9, go_sem]) rfl ⟨rfl, rfl⟩
  · have n2 : 4096 < n := by omega
    go_enter Try.func9, Try.ntmps9
    go_wp2_with fail
    exact bodyPost_ret (v := .tuple #[.pointer none, .int .i64 2]) (by simp [results, Try.results9, go_sem]) rfl ⟨rfl, rfl⟩
/-- a delay that is none -/
def NilD (w : World) (a : Option Addr) : Prop := a = none ∨ ∃ p, a = some ⟨p, 0, none⟩ ∧ w.cell? ⟨p, 0, none⟩ = some (.pointer none)
variable {a : Option Addr}
theorem none_yes (h : NilD w a) :
    Calls Try.prog 28 #[.pointer a] w fun e w' => e = .returned (.bool true) ∧ w = w' := by
  rcases h with rfl | ⟨p, rfl, c0⟩
  · go_enter Try.func28, Try.ntmps28
    go_wp2
    go_ret
    exact ⟨rfl, rfl⟩
  · go_enter Try.func28, Try.ntmps28
    go_wp2
    go_ret
    exact ⟨rfl, rfl⟩
theorem nil_at (h : NilD w a) (f : Int) :
    Calls Try.prog 19 #[.pointer a, .int .i64 f] w fun e w' => e = .returned (.tuple #[.int .u64 0, .bool false]) ∧ w = w' := by
  have HN := Lib.hid (none_yes h)
  clear h
  go_enter Try.func19, Try.ntmps19
  go_wp2_with fail
  refine (HN.out).mono ?_
  rintro e w' ⟨rfl, rfl⟩
  go_wp2_with fail
  exact bodyPost_ret (v := .tuple #[.int .u64 0, .bool false]) (by simp [results, Try.results19, go_sem]) rfl ⟨rfl, rfl⟩
theorem nil_next (h : NilD w a) :
    Calls Try.prog 21 #[.pointer a] w fun e w' => e = .returned (.tuple #[.int .u64 0, .bool false]) ∧ w = w' := by
  have HN := Lib.hid (none_yes h)
  clear h
  go_enter Try.func21, Try.ntmps21
  go_wp2_with fail
  refine (HN.out).mono ?_
  rintro e w' ⟨rfl, rfl⟩
  go_wp2_with fail
  exact bodyPost_ret (v := .tuple #[.int .u64 0, .bool false]) (by simp [results, Try.results21, go_sem]) rfl ⟨rfl, rfl⟩
theorem nil_put (h : NilD w a) (f at' : Int) :
    Calls Try.prog 12 #[.pointer a, .int .i64 f, .int .u64 at'] w fun e w' => e = .returned (.int .i64 1) ∧ w = w' := by
  have HN := Lib.hid (none_yes h)
  clear h
  go_enter Try.func12, Try.ntmps12
  go_wp2_with fail
  refine (HN.out).mono ?_
  rintro e w' ⟨rfl, rfl⟩
  go_wp2_with fail
  go_ret
  exact ⟨rfl, rfl⟩
theorem nil_drop (h : NilD w a) (f : Int) :
    Calls Try.prog 14 #[.pointer a, .int .i64 f] w fun e w' => e = .returned (.bool false) ∧ w = w' := by
  have HN := Lib.hid (none_yes h)
  clear h
  go_enter Try.func14, Try.ntmps14
  go_wp2_with fail
  refine (HN.out).mono ?_
  rintro e w' ⟨rfl, rfl⟩
  go_wp2_with fail
  go_ret
  exact ⟨rfl, rfl⟩
theorem nil_len (h : NilD w a) :
    Calls Try.prog 23 #[.pointer a] w fun e w' => e = .returned (.int .i64 0) ∧ w = w' := by
  have HN := Lib.hid (none_yes h)
  clear h
  go_enter Try.func23, Try.ntmps23
  go_wp2_with fail
  refine (HN.out).mono ?_
  rintro e w' ⟨rfl, rfl⟩
  go_wp2_with fail
  go_ret
  exact ⟨rfl, rfl⟩
theorem nil_wake (h : NilD w a) (now most : Int) :
    Calls Try.prog 16 #[.pointer a, .int .u64 now, .int .i64 most] w fun e w' => e = .returned (.slice none 0 0) ∧ w = w' := by
  have HN := Lib.hid (none_yes h)
  clear h
  go_enter Try.func16, Try.ntmps16
  go_wp2_with fail
  refine (HN.out).mono ?_
  rintro e w' ⟨rfl, rfl⟩
  go_wp2_with fail
  go_ret
  exact ⟨rfl, rfl⟩
/-- a slice reads as these numbers -/
def Ri (w : World) (v : Value) (n : Nat) (X : List Int) : Prop :=
  ∃ a c, v = .slice a n c ∧ (0 < n → ∃ g o, a = some ⟨g, o, none⟩ ∧ ∀ i x, X[i]? = some x → w.cell? ⟨g, o + i, none⟩ = some (.int .i64 x))
theorem ri_of {v : Value} {n : Nat} {X : List Int} (h : ownsR w 3 1 v n (X.map (Value.int .i64))) : Ri w v n X := by
  obtain ⟨a, c, rfl⟩ := h.slice
  refine ⟨a, c, rfl, fun hn => ?_⟩
  obtain ⟨g, cap, e1, -, -⟩ := h.form hn
  injection e1 with e1 _ e3
  subst e1 e3
  refine ⟨g, 0, rfl, fun i x hx => ?_⟩
  have := (h.cells rfl i (.int .i64 x) (by rw [List.getElem?_map, hx]; rfl)).1
  simpa using this
theorem ri_is {v : Value} {M : List En} (h : ownsR w 3 1 v M.length (is M)) : Ri w v M.length (M.map (·.2)) := ri_of (by rw [List.map_map]; exact h)
theorem take_eqI {X Y : List Int} {k : Nat} {x y : Int} (h : X.take k = Y.take k) (hx : X[k]? = some x) (hy : Y[k]? = some y) (e : x = y) : X.take (k + 1) = Y.take (k + 1) := by
  rw [List.take_add_one, List.take_add_one, hx, hy, h, e]
set_option maxHeartbeats 1000000 in
theorem ints_q (v1 v2 : Value) (n m : Nat) (X Y : List Int) (w : World) (hn : X.length = n) (hm : Y.length = m) (h1 : Ri w v1 n X) (h2 : Ri w v2 m Y) (b1 : n ≤ 65536) (b2 : m ≤ 65536) :
    Calls Try.prog 18 #[v1, v2] w fun e w' => e = .returned (.bool (decide (X = Y))) ∧ ∃ m, w' = w.drewN m := by
  obtain ⟨a1, c1, rfl, h1⟩ := h1
  obtain ⟨a2, c2, rfl, h2⟩ := h2
  obtain ⟨D, hD⟩ : ∃ D, D = decide (X = Y) := ⟨_, rfl⟩
  rw [← hD]
  by_cases hnm : n = m
  · subst hnm
    have nn : ((n : Int) != (n : Int)) = false := by simp
    have H1 := Lib.hid h1
    have H2 := Lib.hid h2
    have HN := Lib.hid hn
    have HM := Lib.hid hm
    have HD := Lib.hid hD
    clear h1 h2 hn hm b2 hD
    go_enter Try.func18, Try.ntmps18
    go_wp2
    go_loopw [13] (fun vi wr => ∃ k : Nat, vi = .int .i64 (k : Int) ∧ k ≤ n ∧ X.take k = Y.take k ∧ ∃ m, wr = w.drewN m) (fun vi _ => n - (intOf vi).toNat)
    case atStart => exact ⟨0, rfl, Nat.zero_le _, rfl, 0, (World.drewN_zero w).symm⟩
    case round =>
      obtain ⟨k, rfl, hk, ht, md, rfl⟩ := hrel
      by_cases hlt : k < n
      · obtain ⟨g1, o1, rfl, f1⟩ := H1.out (by omega)
        obtain ⟨g2, o2, rfl, f2⟩ := H2.out (by omega)
        obtain ⟨x, hx⟩ : ∃ e, X[k]? = some e := ⟨_, List.getElem?_eq_getElem (by rw [HN.out]; exact hlt)⟩
        obtain ⟨y, hy⟩ : ∃ f, Y[k]? = some f := ⟨_, List.getElem?_eq_getElem (by rw [HM.out]; exact hlt)⟩
        have p0 := f1 k x hx
        have q0 := f2 k y hy
        clear f1 f2
        have hltI : (k : Int) < (n : Int) := by omega
        by_cases hef : x = y
        · have HT := Lib.hid (take_eqI ht hx hy hef)
          subst hef
          have xx : (x != x) = false := by simp
          clear ht hx hy
          go_wp2_with fail
          go_quiet (fail)
          go_wp2_with fail
          exact ⟨⟨k + 1, by go_num, by omega, HT.out, ⟨_, rfl⟩⟩, by simp [intOf]; omega⟩
        · have hne : decide (X = Y) = false := by
            rw [decide_eq_false_iff_not]
            intro h
            rw [h, hy] at hx
            injection hx with hx
            exact hef hx.symm
          have hD : D = false := HD.out.trans hne
          subst hD
          have xx : (x != y) = true := by simp [hef]
          clear ht hx hy hne hef
          go_wp2_with fail
          go_quiet (fail)
          go_wp2_with fail
          go_ret
          exact ⟨rfl, _, World.drewN_drewN _ _ _⟩
      · obtain rfl : k = n := by omega
        have hEF : X = Y := by
          rw [List.take_of_length_le (by rw [HN.out]; exact Nat.le_refl _), List.take_of_length_le (by rw [HM.out]; exact Nat.le_refl _)] at ht
          exact ht
        have hD : D = true := HD.out.trans (decide_eq_true hEF)
        subst hD
        clear ht hlt hk hEF
        go_wp2
        go_ret
        exact ⟨rfl, _, rfl⟩
  · have hne : decide (X = Y) = false := by
      rw [decide_eq_false_iff_not]
      intro h
      rw [h] at hn
      omega
    rw [hne] at hD
    subst hD
    have nn : ((n : Int) != (m : Int)) = true := by simp; omega
    clear hne h1 h2 hn hm hnm
    go_enter Try.func18, Try.ntmps18
    go_wp2
    go_ret
    exact ⟨rfl, 0, (World.drewN_zero w).symm⟩
theorem ints_any {v1 v2 : Value} {n m : Nat} {X Y : List Int} {w : World} (hn : X.length = n) (hm : Y.length = m) (h1 : Ri w v1 n X) (h2 : Ri w v2 m Y) (b1 : n ≤ 65536) (b2 : m ≤ 65536) {B : Bool} (hB : decide (X = Y) = B) :
    Calls Try.prog 18 #[v1, v2] w fun e w' => e = .returned (.bool B) ∧ Ext w w' := by
  subst hB
  exact (ints_q v1 v2 n m X Y w hn hm h1 h2 b1 b2).mono (fun _ _ ⟨he, md, hw⟩ => ⟨he, hw ▸ (Ext.refl w).drewN md⟩)
end
end Go.Proofs.Ytlficiohenpghab.Dy
