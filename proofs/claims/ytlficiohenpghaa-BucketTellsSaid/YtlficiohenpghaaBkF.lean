/- DERIVED. Layer 13 (bucket): contract of New; the chapter's examples. -/
import Derived.Test.YtlficiohenpghaaBkE
set_option linter.unusedVariables false
set_option linter.unusedSimpArgs false
set_option maxRecDepth 100000
namespace Go.Proofs.Ytlficiohenpghaa.Bk
open Go.RowKit Go.Proofs.Ytlficiohenpghaa Go.Proofs.Ytlficiohenpghaa.TreeP Go.Proofs.Ytlficiohenpghaa.Tr

theorem new_not (b r : Int) (h : b < 0 ∨ 10 < b ∨ r < 1 ∨ 4096 < r) (w : World) :
    Calls Try.prog 19 #[.int .i64 b, .int .i64 r] w fun e w' => e = .returned (.tuple #[.pointer none, .int .i64 2]) ∧ w = w' := by
  by_cases h0 : b < 0
  · have d0 : decide (b < 0) = true := by simpa using h0
    clear h
    go_enter Try.func19, Try.ntmps19
    go_wp2
    go_ret2
    exact ⟨rfl, rfl⟩
  · have d0 : decide (b < 0) = false := by simpa using h0
    by_cases h1 : 10 < b
    · have d1 : decide (10 < b) = true := by simpa using h1
      clear h
      go_enter Try.func19, Try.ntmps19
      go_wp2
      go_ret2
      exact ⟨rfl, rfl⟩
    · have d1 : decide (10 < b) = false := by simpa using h1
      by_cases h2 : r < 1
      · have d2 : decide (r < 1) = true := by simpa using h2
        clear h h0 h1
        go_enter Try.func19, Try.ntmps19
        go_wp2
        go_ret2
        exact ⟨rfl, rfl⟩
      · have d2 : decide (r < 1) = false := by simpa using h2
        have d3 : decide (4096 < r) = true := by simp; omega
        clear h h0 h1 h2
        go_enter Try.func19, Try.ntmps19
        go_wp2
        go_ret2
        exact ⟨rfl, rfl⟩
theorem infoPtr : (Try.prog.info? 64).map (fun i => (i.zero, i.size, i.bytes)) = some (some (.pointer none), 1, 8) := by kernel_rfl
theorem made_none (n : Nat) : (madeCells (Value.pointer none).cells (n * 1)).toList = (List.replicate n (none, [])).map ptr := by
  apply List.ext_getElem?
  intro j
  by_cases hj : j < n
  · have h1 : (madeCells (Value.pointer none).cells (n * 1)).toList[j]? = some (.pointer none) := by
      simp [madeCells, Value.cells, hj, Nat.mod_one]
    have h2 : ((List.replicate n ((none, []) : Slot)).map ptr)[j]? = some (.pointer none) := by simp [hj, ptr]
    rw [h1, h2]
  · rw [List.getElem?_eq_none (by simp [size_madeCells]; omega), List.getElem?_eq_none (by simp; omega)]
theorem trs_fresh (room n : Nat) : trs room (List.replicate n (none, [])) = [] := by
  induction n with
  | zero => rfl
  | succ n ih =>
    unfold trs at ih ⊢
    rw [List.replicate_succ, List.flatMap_cons, ih]
    rfl
theorem mem_fresh (bits g : Nat) (hb : bits ≤ 10) : Mem bits (tab (β bits) (2 ^ bits) []) (g, List.replicate (2 ^ bits) (none, [])) :=
  ⟨by rw [tab_nil]; simp, by simp, fun y hy hn => by rw [(List.mem_replicate.1 hy).2], hb⟩
theorem sh1 {k P : Nat} (hk : k ≤ 10) (hP : P = 2 ^ k) : wrap64 ((2 : Int) ^ k) = (P : Int) := by
  have hle : P ≤ 2 ^ 10 := by rw [hP]; exact Nat.pow_le_pow_right (by omega) hk
  have e : ((2 : Int) ^ k) = (P : Int) := by rw [hP]; simp
  rw [e]
  unfold wrap64
  omega
theorem own_new {l : List HP} {w : World} (b r : Nat) (hb : b ≤ 10) (h1 : 1 ≤ r) (h2 : r ≤ 4096) (h : Own l w) :
    Calls Try.prog 19 #[.int .i64 b, .int .i64 r] w fun e w' => ∃ p, e = .returned (.tuple #[.pointer (some ⟨p, 0, none⟩), .int .i64 0]) ∧ Own (Bkt p b r [] :: l) w' := by
  obtain ⟨i0, hi, hzz⟩ := Option.map_eq_some_iff.1 infoPtr
  simp only [Prod.mk.injEq] at hzz
  obtain ⟨hz0, hz1, hz2⟩ := hzz
  obtain ⟨P, hP⟩ : ∃ P, P = 2 ^ b := ⟨_, rfl⟩
  have hP1 : P ≤ 1024 := by rw [hP]; exact (Nat.pow_le_pow_right (by omega) hb : 2 ^ b ≤ 2 ^ 10)
  have SP := Lib.hid (sh1 hb hP)
  have H := Lib.hid h
  have HI := Lib.hid hi
  have HZ0 := Lib.hid hz0
  have HZ1 := Lib.hid hz1
  have B2 := Lib.hid (show i0.bytes * P ≤ 281474976710656 by rw [hz2]; omega)
  have B3 := Lib.hid (show P ≤ maxLen by simp only [maxLen]; omega)
  have HP := Lib.hid hP
  have bI : (b : Int) ≤ 10 := by omega
  have rI : (1 : Int) ≤ (r : Int) := by omega
  have rJ : (r : Int) ≤ 4096 := by omega
  have HB := Lib.hid hb
  have HR := Lib.hid h1
  have HR2 := Lib.hid h2
  clear h hi hz0 hz1 hz2 hP hb h1 h2
  go_enter Try.func19, Try.ntmps19
  go_wp2_with (refine wpList_make_full w rfl _ _ 59 rfl 0 64 i0 _ 1 Try.underlying59 HI.out HZ0.out HZ1.out .i64 .i64 (wrap64 ((2 : Int) ^ b)) (wrap64 ((2 : Int) ^ b)) P rfl rfl SP.out SP.out B2.out B3.out (Nat.zero_le _) ?_; intro w1 hrow hgrow; rw [made_none] at hrow; have H1 := Lib.hid (H.out.new (P := Row 64 1 (.slice (some ⟨w.heap.size, 0, none⟩) P P) P ((List.replicate P (none, [])).map ptr)) (s := fun b => b = w.heap.size) (Step.to_ext ((Step.refl _ w).grown hgrow (fun k hk => by cases hk))) ⟨hrow, fun b => by simp [Value.ownBlock, eq_comm]⟩ (fun b hb => by rw [hb]; exact Nat.le_refl _)); clear hrow hgrow)
  have H2 := Go.Proofs.Ytlficiohenpghaa.Own.blkNew H1.out #[.slice (some ⟨w.heap.size, 0, none⟩) P P, .int .i64 b, .int .i64 r, .int .i64 0] 61
  have H3 : Hid (Own (Bkt w1.heap.size b r [] :: l) (w1.alloc (.cells #[.slice (some ⟨w.heap.size, 0, none⟩) P P, .int .i64 b, .int .i64 r, .int .i64 0] 61))) := Lib.hid (by
    refine Own.pack (w.heap.size, List.replicate (2 ^ b) (none, [])) ⟨mem_fresh b _ HB.out, rk_nil r, HR.out, HR2.out⟩ ?_
    show Own ((BB w1.heap.size w.heap.size (List.replicate (2 ^ b) ((none, []) : Slot)).length b r 0 :: RP w.heap.size (List.replicate (2 ^ b) (none, [])) :: trs r (List.replicate (2 ^ b) (none, []))) ++ l) _
    unfold RP
    rw [trs_fresh, List.length_replicate, ← HP.out]
    exact H2)
  clear H2 H1
  go_wp2_with fail
  go_ret2
  exact ⟨_, rfl, H3.out⟩
end Go.Proofs.Ytlficiohenpghaa.Bk
