/- DERIVED. The law MixFar of layer 3. -/
import Derived.Test.YtooiepmjaeimeaaMixC
set_option linter.unusedVariables false
set_option linter.unusedSimpArgs false
namespace Go.Proofs.Ytooiepmjaeimeaa.Mx
open Go.RowKit Go.Proofs.Ytooiepmjaeimeaa

def ints (C : List Nat) : Array Value := (C.map fun (n : Nat) => Value.int .i64 n).toArray
def Zer : List Nat := [0, 0, 0, 0, 0, 0, 0, 0, 0, 0, 0, 0, 0, 0, 0, 0]
theorem getD_le_sum : ∀ (C : List Nat) (q : Nat), C.getD q 0 ≤ C.sum
  | [], q => by simp
  | c :: C, 0 => by simp
  | c :: C, q + 1 => by
    have := getD_le_sum C q
    simp only [List.getD_cons_succ, List.sum_cons]
    omega
theorem sum_set : ∀ (C : List Nat) (q v : Nat), q < C.length → (C.set q v).sum + C.getD q 0 = C.sum + v
  | [], q, v, h => by simp at h
  | c :: C, 0, v, h => by simp; omega
  | c :: C, q + 1, v, h => by
    have := sum_set C q v (by simpa using h)
    simp only [List.set_cons_succ, List.sum_cons, List.getD_cons_succ]
    omega
theorem ints_set (C : List Nat) (q v : Nat) : (ints C).setIfInBounds q (.int .i64 v) = ints (C.set q v) := by
  apply Array.toList_inj.1
  simp [ints, List.map_set]
theorem size_ints (C : List Nat) (h : C.length = 16) : (ints C).size = 16 := by simp [ints, h]
theorem run_idx (C : List Nat) (h : C.length = 16) (j : Nat) (hj : j < 16) (w : World) : (Instr.index 40 (.agg (ints C)) (.int .i64 j)).run Try.prog w = .ok (.int .i64 ((C.getD j 0 : Nat) : Int)) w := by
  simp [Instr.index, go_sem, Try.underlying40, hj]
  simp [ints, h, hj, go_sem]
theorem infoArr : (Try.prog.info? 40).map (·.size) = some 16 := by kernel_rfl
def pre (C : List Nat) (j : Nat) : Nat := (C.take j).sum
theorem pre_succ (C : List Nat) (j : Nat) : pre C (j + 1) = pre C j + C.getD j 0 := by
  unfold pre
  by_cases h : j < C.length
  · rw [List.take_succ_eq_append_getElem h, List.sum_append]; simp [List.getD, h]
  · rw [List.take_of_length_le (by omega), List.take_of_length_le (by omega)]; simp [List.getD, List.getElem?_eq_none (by omega : C.length ≤ j)]
theorem pre_le (C : List Nat) (j : Nat) : pre C j ≤ C.sum := by
  unfold pre
  conv => rhs; rw [← List.take_append_drop j C]
  rw [List.sum_append]; omega
set_option maxRecDepth 100000 in
theorem far_of (X : Nat) (hX : X < MixP.M) (w : World) :
    Calls Try.prog 12 #[.int .u64 X] w fun e w' => e = .returned (.bool true) ∧ Ext w w' := by
  go_enter Try.func12, Try.ntmps12
  go_wp2
  go_loopw [9] (fun i wr => Ext w wr ∧ ∃ (k : Nat) (C : List Nat), k ≤ 256 ∧ i = .int .u64 k ∧ C.length = 16 ∧ C.sum = k ∧ wr.heap[w.heap.size]? = some (.cells (ints C) 40 (0, 0))) (fun i _ => 256 - (intOf i).toNat)
  case atStart => 
    refine ⟨(Ext.refl _).alloc _, 0, Zer, by omega, rfl, rfl, rfl, ?_⟩
    exact heap_alloc_new w _
  case round =>
    obtain ⟨g, k, C, hk, rfl, hl, hs, hc⟩ := hrel
    by_cases hlt : k < 256
    · have HL := Lib.hid hl
      have HS := Lib.hid hs
      have HC := Lib.hid hc
      obtain ⟨Y, hY, hY'⟩ : ∃ Y : Nat, IntKind.u64.wrap ((X : Int) + (k : Int)) = (Y : Int) ∧ Y < MixP.M := ⟨(X + k) % 18446744073709551616, by rw [IntKind.wrap_u64]; omega, Nat.mod_lt _ (by decide)⟩
      clear hl hs hc
      have HX := Lib.hid hX
      have HY := Lib.hid hY'
      clear hX hY'
      go_wp2_with fail
      have hq0 : bk Y 4 < 16 := bucket_lt Y 4 (by omega)
      obtain ⟨q, hq1⟩ : ∃ q, q = bk Y 4 := ⟨_, rfl⟩
      have HQ := Lib.hid hq1
      have hq : q < 16 := by omega
      clear hq0 hq1
      refine (bucket_any Y 4 HY.out (by omega) _).mono ?_
      rintro e w2 ⟨rfl, g2⟩
      rw [← HQ.out]
      have hc2 : w2.heap[w.heap.size]? = some (.cells (ints C) 40 (0, 0)) := g2.heap HC.out
      have hcell : w2.cell? ⟨w.heap.size, q, none⟩ = some (.int .i64 ((C.getD q 0 : Nat) : Int)) := by
        simp [World.cell?, hc2, ints, HL.out, hq]
      have hfr : w2.frozen? ⟨w.heap.size, q, none⟩ = false := by
        simp [World.frozen?, hc2]
      obtain ⟨n, hn⟩ : ∃ n, n = C.getD q 0 := ⟨_, rfl⟩
      rw [← hn] at hcell
      have HN := Lib.hid hn
      have HC2 := Lib.hid hc2
      have hn256 : (n : Int) ≤ 256 := by have := getD_le_sum C q; have := HS.out; omega
      clear hn hc2
      go_wp2
      go_roundw
      case rel =>
        refine ⟨(g.trans g2).setCell (Nat.le_refl _) _, k + 1, C.set q (n + 1), by omega, by go_num, by simpa using HL.out, ?_, ?_⟩
        · have := sum_set C q (n + 1) (by rw [HL.out]; exact hq)
          have h1 := HN.out
          have h2 := HS.out
          omega
        · have hs := HC2.out
          have hb : w.heap.size < w2.heap.size := (Array.getElem?_eq_some_iff.1 hs).1
          rw [show ((n : Int) + 1) = ((n + 1 : Nat) : Int) from by omega]
          simp only [World.setCell, Array.getElem?_modify, hs]
          have := ints_set C q (n + 1)
          simpa using this
      case measure => simp [intOf]; omega
    · obtain rfl : k = 256 := by omega
      have HL := Lib.hid hl
      have HS := Lib.hid hs
      have HC := Lib.hid hc
      clear hl hs hc
      go_wp2_with (refine wpList_load_row rfl 40 _ rfl w.heap.size rfl _ (ints C) (0, 0) _ HC.out Try.underlying40 rfl (by rw [size_ints C HL.out]; exact infoArr) ?_)
      have hp16 : pre C 16 = 256 := by unfold pre; rw [List.take_of_length_le (by rw [HL.out]; omega)]; exact HS.out
      have HP := Lib.hid hp16
      clear hp16
      go_loop [4, 29] (fun a i => ∃ j : Nat, j ≤ 16 ∧ i = .int .i64 (j : Int) ∧ a = .int .i64 ((pre C j : Nat) : Int)) (fun _ i => 16 - (intOf i).toNat)
      case atStart => exact ⟨0, by omega, rfl, rfl⟩
      case round =>
        obtain ⟨j, hj, rfl, rfl⟩ := hrel
        by_cases hlt2 : j < 16
        · have hi := run_idx C HL.out j hlt2
          have h1 := pre_succ C j
          have h2 := pre_le C (j + 1)
          have h3 := HS.out
          obtain ⟨c, hc⟩ : ∃ c, c = C.getD j 0 := ⟨_, rfl⟩
          rw [← hc] at hi h1
          have H1 := Lib.hid h1
          have b1 : ((pre C j : Nat) : Int) + c ≤ 256 := by omega
          clear h1 h2 h3 hc
          go_wp2
          go_round
          case rel => exact ⟨j + 1, by omega, by go_num, by rw [H1.out]; go_num⟩
          case measure => simp [intOf]; omega
        · obtain rfl : j = 16 := by omega
          obtain ⟨Z, hZ, hZ', hZ2⟩ : ∃ Z : Nat, IntKind.u64.wrap (((MixP.mix X : Nat) : Int) + 1) = (Z : Int) ∧ Z < MixP.M ∧ Z ≠ MixP.mix X := by
            have hm : MixP.mix X < 18446744073709551616 := MixP.mix_lt X
            generalize MixP.mix X = m at hm
            exact ⟨(m + 1) % 18446744073709551616, by rw [IntKind.wrap_u64]; omega, Nat.mod_lt _ (by decide), by omega⟩
          have hne : ((((MixP.back Z : Nat) : Int) != (X : Int))) = true := by
            rw [bne_iff_ne]
            intro e
            have e' : MixP.back Z = X := by omega
            have := MixP.mix_back Z hZ'
            rw [e'] at this
            exact hZ2 this.symm
          rw [HP.out]
          have HZ := Lib.hid hZ'
          have HX := Lib.hid hX
          clear hZ' hZ2 hX
          go_wp2_with fail
          refine (mix_any X HX.out _).mono ?_
          rintro e w2 ⟨rfl, g2⟩
          go_wp2_with fail
          refine (back_any Z HZ.out _).mono ?_
          rintro e w3 ⟨rfl, g3⟩
          go_wp2_with fail
          refine (awake_any _).mono ?_
          rintro e w4 ⟨rfl, g4⟩
          go_wp2
          go_ret
          exact ⟨rfl, ((g.trans g2).trans g3).trans g4⟩
theorem far (a0 : Int) (w0 : (Lit.int .u64 a0).wf = true) (w : World) : Calls Try.prog 12 #[.int .u64 a0] w fun e w' => e = .returned (.bool true) ∧ Ext w w' := by
  obtain ⟨l0, u0⟩ := u64_bd w0
  obtain ⟨X, rfl⟩ := Int.eq_ofNat_of_zero_le l0
  exact far_of X (by show X < 18446744073709551616; omega) w
end Go.Proofs.Ytooiepmjaeimeaa.Mx
