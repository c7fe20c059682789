/- DERIVED. Layer 13 (bucket): the document's buckets: New; In of any number; rows that are alike. -/
import Derived.Test.YtlficiohenpghaaBkU
set_option linter.unusedVariables false
set_option linter.unusedSimpArgs false
set_option maxRecDepth 100000
namespace Go.Proofs.Ytlficiohenpghaa.Bk
open Go.RowKit Go.Proofs.Ytlficiohenpghaa Go.Proofs.Ytlficiohenpghaa.TreeP Go.Proofs.Ytlficiohenpghaa.Tr

theorem rnew_ok (b r : Nat) (hb : b ≤ 10) (h1 : 1 ≤ r) (h2 : r ≤ 4096) {l : List HP} {w : World} (h : Own l w) :
    Calls Try.prog 20 #[.int .i64 (b : Int), .int .i64 (r : Int)] w fun e w' => e = .returned (.tuple #[rs b r (.slice none 0 0), .bool true]) ∧ Own l w' := by
  have hx := Go.Proofs.Ytlficiohenpghaa.Own.blkNew h #[.int .i64 0, .int .i64 0, .slice none 0 0] 51
  obtain ⟨c, hc⟩ : ∃ c, c = w.heap.size := ⟨_, rfl⟩
  obtain ⟨W, hW⟩ : ∃ W, w.alloc (.cells #[.int .i64 0, .int .i64 0, .slice none 0 0] 51) = W := ⟨_, rfl⟩
  rw [hW, ← hc] at hx
  obtain ⟨y0, y1, y2, f0, f1, f2⟩ := bs_cells (b := c) (bits := 0) (room := 0) (v := .slice none 0 0) hx (.head _)
  obtain ⟨w4, e4, h4⟩ := Own.bsSet (bits' := b) (room' := r) (v' := .slice none 0 0) (show Own (BS c 0 0 (.slice none 0 0) :: l) W from hx)
  obtain ⟨q0, q1, q2, -, -, -⟩ := bs_cells h4 (.head _)
  have H4 := Lib.hid h4
  have HW := Lib.hid hW
  have HC := Lib.hid hc
  have b1 : (0 : Int) ≤ (b : Int) := by omega
  have b2 : (b : Int) ≤ 10 := by omega
  have b3 : (1 : Int) ≤ (r : Int) := by omega
  have b4 : (r : Int) ≤ 4096 := by omega
  clear h hx h4 hW hc
  go_enter Try.func20, Try.ntmps20
  go_upto_region 1 with fail
  rw [HW.out, ← HC.out]
  go_wp2_with fail
  exact bodyPost_ret (v := .tuple #[rs b r (.slice none 0 0), .bool true]) (by simp [results, Try.results20, go_sem, q0, q1, q2]) rfl ⟨rfl, H4.out.drop⟩
/-- In of the buckets, of any number -/
theorem lin_any {p bits room : Nat} {R : List En} {l : List HP} {w : World} (h : Own (Bkt p bits room R :: l) w) (i : Int) :
    Calls Try.prog 10 #[.pointer (some ⟨p, 0, none⟩), .int .i64 i] w fun e w' => ∃ v, e = .returned v ∧ Own (RO v (rI bits R i) :: Bkt p bits room R :: l) w' := by
  by_cases hi : i < 0 ∨ ((2 ^ bits : Nat) : Int) ≤ i
  · rw [rI_out bits R i (own_rk h).2 hi]
    exact (in_none h i hi).mono fun e w' ⟨he, hw⟩ => ⟨_, he, hw ▸ h.nilRow 32 3⟩
  · obtain ⟨k, rfl⟩ := Int.eq_ofNat_of_zero_le (show 0 ≤ i by omega)
    rw [rI_in]
    exact own_in h k (by omega)
/-- two rows of the same entries -/
theorem same2 {v1 v2 : Value} {E : List En} {l : List HP} {w : World} (h : Own (RO v2 E :: RO v1 E :: l) w) (hE : E.length ≤ 65536) :
    Calls Try.prog 18 #[v1, v2] w fun e w' => e = .returned (.bool true) ∧ Own (RO v2 E :: RO v1 E :: l) w' := by
  refine (same_any v1 v2 E.length E.length E E w rfl rfl (ownsR_of h.swap.row) (ownsR_of h.row) hE hE).mono fun e w' ⟨he, hx⟩ => ⟨?_, h.step hx⟩
  rw [he]; simp
theorem rI_len (bits : Nat) (R : List En) (i : Int) : (rI bits R i).length ≤ R.length := List.length_filter_le _ _
end Go.Proofs.Ytlficiohenpghaa.Bk
