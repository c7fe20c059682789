/- DERIVED. Layer 13 (bucket): the calls' contracts at known sockets; the chapter's examples. -/
import Derived.Test.YtlficiohenpghaaBkF
set_option linter.unusedVariables false
set_option linter.unusedSimpArgs false
set_option maxRecDepth 100000
namespace Go.Proofs.Ytlficiohenpghaa.Bk
open Go.RowKit Go.Proofs.Ytlficiohenpghaa Go.Proofs.Ytlficiohenpghaa.TreeP Go.Proofs.Ytlficiohenpghaa.Tr

section
variable {p bits room : Nat} {R : List En} {l : List HP} {w : World}
theorem own_put' {s v x : Int} {R' : List En} (h : Own (Bkt p bits room R :: l) w) (h0 : 0 ≤ s) (h1 : s < 18446744073709551616) (h2 : Tr.putE room R (s, 0) = x) (h3 : Tr.putT room R (s, 0) v = R') :
    Calls Try.prog 17 #[.pointer (some ⟨p, 0, none⟩), .int .u64 s, .int .i64 v] w fun e w' => e = .returned (.int .i64 x) ∧ Own (Bkt p bits room R' :: l) w' := by
  subst h2 h3
  exact own_put h s v h0 h1
theorem own_drop' {s x : Int} {b : Bool} {R' : List En} (h : Own (Bkt p bits room R :: l) w) (h0 : 0 ≤ s) (h1 : s < 18446744073709551616) (h2 : (Tr.look R (s, 0)).getD 0 = x) (h3 : (Tr.look R (s, 0)).isSome = b) (h4 : del R (s, 0) = R') :
    Calls Try.prog 16 #[.pointer (some ⟨p, 0, none⟩), .int .u64 s] w fun e w' => e = .returned (.tuple #[.int .i64 x, .bool b]) ∧ Own (Bkt p bits room R' :: l) w' := by
  subst h2 h3 h4
  exact own_drop h s h0 h1
theorem own_get' {s x : Int} {b : Bool} (h : Own (Bkt p bits room R :: l) w) (h0 : 0 ≤ s) (h1 : s < 18446744073709551616) (h2 : (Tr.look R (s, 0)).getD 0 = x) (h3 : (Tr.look R (s, 0)).isSome = b) :
    Calls Try.prog 11 #[.pointer (some ⟨p, 0, none⟩), .int .u64 s] w fun e w' => e = .returned (.tuple #[.int .i64 x, .bool b]) ∧ Own (Bkt p bits room R :: l) w' := by
  subst h2 h3
  exact own_get h s h0 h1
theorem own_in' {i : Int} {k : Nat} {E : List En} (h : Own (Bkt p bits room R :: l) w) (hk : i = (k : Int)) (h1 : k < 2 ^ bits) (h2 : inB (β bits) R k = E) :
    Calls Try.prog 10 #[.pointer (some ⟨p, 0, none⟩), .int .i64 i] w fun e w' => ∃ v, e = .returned v ∧ Own (Row 32 3 v E.length (Tr.ents E) :: Bkt p bits room R :: l) w' := by
  subst hk h2
  exact own_in h k h1
end
/-- entries that are written out, in a block of the call's own -/
theorem lit_ents {l : List HP} {w : World} {b : Nat} {cs : Array Value} {E : List En} (h : Own l w) (hm : Go.Proofs.Ytlficiohenpghaa.Blk b cs 32 ∈ l) (hc : cs.toList = ents E) (hl : E.length ≤ 1000) : w.ownsRow 0 32 3 (.slice (some ⟨b, 0, none⟩) E.length E.length) E.length (ents E) := by
  have hb := Go.Proofs.Ytlficiohenpghaa.Own.blk h hm
  refine ⟨by rw [ents_len], .inr ⟨b, E.length, cs, rfl, Nat.zero_le _, hb, Nat.le_refl _, by simp only [maxLen]; omega, by rw [← Array.length_toList, hc, ents_len], ?_⟩⟩
  rw [hc, List.take_of_length_le (by rw [ents_len]; exact Nat.le_refl _)]
theorem β_zero (s : Int) (h0 : 0 ≤ s) : β 0 s = 0 := by
  have := β_lt 0 s (by omega)
  omega
theorem in_zero {R : List En} : inB (β 0) R 0 = R := by
  unfold inB
  rw [List.filter_eq_self]
  intro e _
  have := β_lt 0 e.1.1 (by omega)
  simp; omega
set_option maxHeartbeats 4000000 in
theorem awake_any {l : List HP} {w : World} (h : Own l w) :
    Calls Try.prog 15 #[] w fun e w' => e = .returned (.bool true) ∧ Own l w' := by
  have H := Lib.hid h
  clear h
  go_enter Try.func15, Try.ntmps15
  go_wp2_with fail
  refine (own_new 0 2 (by omega) (by omega) (by omega) H.out).mono ?_
  rintro e w1 ⟨p, rfl, h1⟩
  have H1 := Lib.hid h1
  clear h1 H
  go_wp2_with fail
  refine (own_put' (s := 9) (v := 1) (x := 0) (R' := [((9, 0), 1)]) H1.out (by decide) (by decide) (by decide) (by decide)).mono ?_
  rintro e w2 ⟨rfl, h2⟩
  have H2 := Lib.hid h2
  clear h2 H1
  go_wp2_with fail
  refine (own_put' (s := 4) (v := 2) (x := 0) (R' := [((4, 0), 2), ((9, 0), 1)]) H2.out (by decide) (by decide) (by decide) (by decide)).mono ?_
  rintro e w3 ⟨rfl, h3⟩
  have H3 := Lib.hid h3
  clear h3 H2
  go_wp2_with fail
  refine (own_in' (i := 0) (k := 0) H3.out rfl (by decide) in_zero).mono ?_
  rintro e w4 ⟨v4, rfl, h4⟩
  have H4 := Lib.hid h4.swap
  clear h4 H3
  go_wp2_with fail
  refine (own_put' (s := 9) (v := 3) (x := 60) (R' := [((4, 0), 2), ((9, 0), 1)]) H4.out (by decide) (by decide) (by decide) (by decide)).mono ?_
  rintro e w5 ⟨rfl, h5⟩
  have H5 := Lib.hid h5
  clear h5 H4
  go_wp2_with fail
  refine (own_put' (s := 5) (v := 3) (x := 4) (R' := [((4, 0), 2), ((9, 0), 1)]) H5.out (by decide) (by decide) (by decide) (by decide)).mono ?_
  rintro e w6 ⟨rfl, h6⟩
  have H6 := Lib.hid h6
  clear h6 H5
  go_wp2_with fail
  refine (own_drop' (s := 4) (x := 2) (b := true) (R' := [((9, 0), 1)]) H6.out (by decide) (by decide) (by decide) (by decide) (by decide)).mono ?_
  rintro e w7 ⟨rfl, h7⟩
  have H7 := Lib.hid h7
  clear h7 H6
  go_wp2_with fail
  refine (new_not 11 2 (by decide) w7).mono ?_
  rintro e w' ⟨rfl, rfl⟩
  have h8 := Go.Proofs.Ytlficiohenpghaa.Own.blkNew H7.out #[.int .u64 4, .int .u64 0, .int .i64 2, .int .u64 9, .int .u64 0, .int .i64 1] 32
  have hs := same_any v4 (.slice (some ⟨w7.heap.size, 0, none⟩) 2 2) 2 2 [((4, 0), 2), ((9, 0), 1)] [((4, 0), 2), ((9, 0), 1)] _ rfl rfl (ownsR_of h8.third.row) (ownsR_of (lit_ents (E := [((4, 0), 2), ((9, 0), 1)]) h8 (.head _) rfl (by decide))) (by omega) (by omega)
  rw [show decide (([((4, 0), 2), ((9, 0), 1)] : List En) = [((4, 0), 2), ((9, 0), 1)]) = true from by simp] at hs
  have HS := Lib.hid hs
  have H8 := Lib.hid h8
  clear hs h8 H7
  go_wp2_with fail
  refine (HS.out).mono ?_
  rintro e w9 ⟨rfl, hx⟩
  have H9 := Lib.hid ((H8.out.step hx).drop.swap.drop)
  clear hx HS H8
  go_wp2_with fail
  have ho := own_of H9.out 7 (by decide) (by decide)
  rw [β_zero 7 (by decide)] at ho
  have HO := Lib.hid ho
  clear ho
  refine (HO.out).mono ?_
  rintro e w10 ⟨rfl, hx⟩
  have H10 := Lib.hid (H9.out.step hx)
  clear hx HO H9
  go_wp2_with fail
  refine (in_none H10.out 1 (.inr (by decide))).mono ?_
  rintro e w' ⟨rfl, rfl⟩
  go_wp2_with fail
  go_ret
  exact ⟨rfl, H10.out.drop⟩
end Go.Proofs.Ytlficiohenpghaa.Bk
