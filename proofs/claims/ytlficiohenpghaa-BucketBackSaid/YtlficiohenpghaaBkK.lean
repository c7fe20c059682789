/- DERIVED. Layer 13 (bucket): the law BucketBack. -/
import Derived.Test.YtlficiohenpghaaBkI
set_option linter.unusedVariables false
set_option linter.unusedSimpArgs false
set_option maxRecDepth 100000
namespace Go.Proofs.Ytlficiohenpghaa.Bk
open Go.RowKit Go.Proofs.Ytlficiohenpghaa Go.Proofs.Ytlficiohenpghaa.TreeP Go.Proofs.Ytlficiohenpghaa.Tr

set_option maxHeartbeats 4000000 in
theorem back_of (bits : Int) (v : Value) (s x : Int) (y : Nat × (Nat → BOp)) (wf1 : (Lit.int .u8 bits).wf = true) (wf2 : (Lit.int .u64 s).wf = true) (wf3 : (Lit.int .i64 x).wf = true) (w : World) (ho : Ops2 w v y) :
    Calls Try.prog 5 #[.int .u8 bits, v, .int .u64 s, .int .i64 x] w fun e w' => e = .returned (.bool true) ∧ Ext w w' := by
  obtain ⟨a0, a1⟩ := u8_bd wf1
  obtain ⟨s0, s1⟩ := u64_bd wf2
  replace s1 : s < 18446744073709551616 := by omega
  obtain ⟨n, hn⟩ : ∃ n : Nat, bits % 11 = (n : Int) := ⟨(bits % 11).toNat, by omega⟩
  have n1 : n ≤ 10 := by omega
  obtain ⟨N, f⟩ := y
  obtain ⟨R, hR⟩ : ∃ R, R = playP 30 f (min N 50) := ⟨_, rfl⟩
  have HP := Lib.hid (played_any n v N f n1 ho (Own.start w) (.head _))
  rw [← hR] at HP
  obtain ⟨-, a, cap, rfl, -, -, -⟩ := ho
  have N1 := Lib.hid n1
  have S0 := Lib.hid s0
  have S1 := Lib.hid s1
  obtain ⟨K, hK⟩ : ∃ K, K = β n s := ⟨_, rfl⟩
  have KL := Lib.hid (show K < 2 ^ n by rw [hK]; exact β_lt n s n1)
  have HK := Lib.hid hK
  clear wf1 wf2 wf3 hR n1 s0 s1 hK
  go_enter Try.func5, Try.ntmps5
  go_wp2_with fail
  refine (HP.out).mono ?_
  rintro e w1 ⟨p, rfl, h1⟩
  obtain ⟨rk, -⟩ := own_rk h1
  have HRK := Lib.hid rk
  have ho := own_of h1 s S0.out S1.out
  rw [← HK.out] at ho
  have HO := Lib.hid ho
  have H1 := Lib.hid h1
  clear h1 HP rk ho hn a0 a1
  go_wp2_with fail
  refine (HO.out).mono ?_
  rintro e w2 ⟨rfl, hx⟩
  have H2 := Lib.hid (H1.out.step hx)
  clear hx H1 HO
  obtain ⟨X, hX⟩ : ∃ X, X = (Tr.look R (s, 0)).getD 0 := ⟨_, rfl⟩
  obtain ⟨B, hB⟩ : ∃ B, B = (Tr.look R (s, 0)).isSome := ⟨_, rfl⟩
  obtain ⟨R1, hR1⟩ : ∃ R1, R1 = del R (s, 0) := ⟨_, rfl⟩
  have rk1 : RK 30 R1 := by rw [hR1]; exact HRK.out.drop s
  have hn1 : Tr.look R1 (s, 0) = none := by rw [hR1, look_del HRK.out.rise, if_pos rfl]
  obtain ⟨M, hM⟩ : ∃ M, M = R1.length := ⟨_, rfl⟩
  have hBM : B = true → M < 30 := fun e => by
    have := del_length HRK.out.rise (s, 0)
    rw [← hB, e, ← hR1, ← hM] at this
    have := HRK.out.len
    simp at *
    omega
  have hBX : B = false → X = 0 := fun e => by
    rw [hX]
    rw [hB] at e
    cases hl : Tr.look R (s, 0) with
    | none => rfl
    | some u => rw [hl] at e; cases e
  have M30 : M ≤ 30 := by rw [hM]; exact rk1.len
  have HD := Lib.hid (own_drop' H2.out S0.out S1.out hX.symm hB.symm hR1.symm)
  have RK1 := Lib.hid rk1
  have HN1 := Lib.hid hn1
  have HM := Lib.hid hM
  have HBM := Lib.hid hBM
  have HBX := Lib.hid hBX
  clear hX hB hR1 rk1 hn1 hM hBM hBX HRK
  go_wp2_with fail
  refine (HD.out).mono ?_
  rintro e w3 ⟨rfl, h3⟩
  obtain ⟨E1, hE1⟩ : ∃ E1, E1 = inB (β n) R1 K := ⟨_, rfl⟩
  have HI := Lib.hid (own_in' h3 rfl KL.out hE1.symm)
  have hl1 : E1.length ≤ 30 := by rw [hE1]; exact Nat.le_trans (in_len _) RK1.out.len
  obtain ⟨L1, hL1⟩ : ∃ L1, L1 = E1.length := ⟨_, rfl⟩
  rw [← hL1] at HI hl1
  have HL1 := Lib.hid hL1
  have HE1 := Lib.hid hE1
  clear h3 HD H2 hL1 hE1
  go_wp2_with fail
  refine (HI.out).mono ?_
  rintro e w4 ⟨v4, rfl, h4⟩
  obtain ⟨va, vc, rfl⟩ := own_slice h4.row
  have hl := own_len h4.swap
  rw [← HM.out] at hl
  have HL := Lib.hid hl
  have H4 := Lib.hid h4.swap
  clear h4 HI hl
  go_wp2_with fail
  refine (HL.out).mono ?_
  rintro e w' ⟨rfl, rfl⟩
  clear HL
  by_cases hM30 : M = 30
  · subst hM30
    have hb : B = false := by
      cases B with
      | true => exact absurd (HBM.out rfl) (by omega)
      | false => rfl
    subst hb
    have hx0 := HBX.out rfl
    subst hx0
    have hp := own_put' (v := x) (x := 4) (R' := R1) H4.out S0.out S1.out (by unfold Tr.putE; rw [HN1.out, ← HM.out]; rfl) (by unfold Tr.putT; rw [HN1.out, ← HM.out]; rfl)
    have HP := Lib.hid hp
    clear hp H4 HBM HBX
    go_wp2_with fail
    refine (HP.out).mono ?_
    rintro e w5 ⟨rfl, h5⟩
    have hl := own_len h5
    rw [← HM.out] at hl
    have HL := Lib.hid hl
    have H5 := Lib.hid h5
    clear h5 hl HP
    go_wp2_with fail
    refine (HL.out).mono ?_
    rintro e w' ⟨rfl, rfl⟩
    go_wp2_with fail
    refine (awake_any H5.out).mono ?_
    rintro e w8 ⟨rfl, h8⟩
    have H8 := Lib.hid h8
    clear h8 H5
    go_wp2_with fail
    go_ret
    exact ⟨rfl, H8.out.ext (by simp)⟩
  · have hMl : M < 30 := by omega
    have m0 : ((M : Int) == 30) = false := by simp; omega
    obtain ⟨R2, hR2⟩ : ∃ R2, R2 = ins R1 (s, 0) x := ⟨_, rfl⟩
    obtain ⟨q1, q2, q3, q4, q5⟩ := rise_ins RK1.out.rise (s, 0) x HN1.out
    rw [← hR2] at q1 q2 q3 q4 q5
    have rk2 : RK 30 R2 := by rw [hR2]; exact RK1.out.put S0.out S1.out HN1.out (by rw [← HM.out]; exact hMl)
    have hp := own_put' (v := x) (x := 0) (R' := R2) H4.out S0.out S1.out (by unfold Tr.putE; rw [HN1.out, ← HM.out, if_neg (by simp), if_neg hM30]) (by unfold Tr.putT; rw [HN1.out, ← HM.out, if_neg (by simp), if_neg hM30, hR2])
    have HP := Lib.hid hp
    obtain ⟨E2, hE2⟩ : ∃ E2, E2 = inB (β n) R2 K := ⟨_, rfl⟩
    have hlk1 := look_in (β := β n) (R := R1) s K HK.out.symm
    have hE2l : E2.length = L1 + 1 := by
      rw [hE2, hR2, ins_in s x K HK.out.symm, ← HE1.out]
      rw [← HE1.out, HN1.out] at hlk1
      rw [HL1.out]
      refine (rise_ins ?_ (s, 0) x hlk1).2.1
      rw [HE1.out]
      exact RK1.out.rise.filter _
    have HE2 := Lib.hid hE2
    have HE2L := Lib.hid hE2l
    have Q2 := Lib.hid q2
    have Q4 := Lib.hid q4
    have Q5 := Lib.hid q5
    have RK2 := Lib.hid rk2
    have hcase : B = true ∨ (B = false ∧ X = 0) := by
      cases hb : B with
      | true => exact .inl rfl
      | false => exact .inr ⟨rfl, HBX.out hb⟩
    clear hp H4 HBM hR2 q1 q2 q3 q4 q5 rk2 hE2 hE2l hlk1 HBX
    rcases hcase with rfl | ⟨rfl, rfl⟩
    all_goals
      go_wp2_with fail
      refine (HP.out).mono ?_
      rintro e w5 ⟨rfl, h5⟩
      have H5 := Lib.hid h5
      clear h5 HP
      have HG := Lib.hid (own_get' (x := x) (b := true) H5.out S0.out S1.out (by rw [Q4.out]; rfl) (by rw [Q4.out]; rfl))
      clear H5
      go_wp2_with fail
      refine (HG.out).mono ?_
      rintro e w6 ⟨rfl, h6⟩
      have HG2 : Hid (∀ u, Calls Try.prog 17 #[.pointer (some ⟨p, 0, none⟩), .int .u64 s, .int .i64 u] w6 fun e w' => e = .returned (.int .i64 60) ∧ Own [Bkt p n 30 R2, Row 32 3 (.slice va L1 vc) L1 (Tr.ents E1), Old w] w') := Lib.hid (fun u => own_put' (x := 60) h6 S0.out S1.out (by unfold Tr.putE; rw [Q4.out]; rfl) (by unfold Tr.putT; rw [Q4.out]; rfl))
      have xx : (x != x) = false := by simp
      clear h6 HG
      go_wp2_with fail
      refine (HG2.out _).mono ?_
      rintro e w7 ⟨rfl, h7⟩
      have hl := own_len h7
      rw [Q2.out, ← HM.out] at hl
      have HL := Lib.hid hl
      have H7 := Lib.hid h7
      clear h7 hl HG2
      go_wp2_with fail
      refine (HL.out).mono ?_
      rintro e w' ⟨rfl, rfl⟩
      have mm : (((M + 1 : Nat) : Int) != (M : Int) + 1) = false := by simp
      have hi := own_in' H7.out rfl KL.out HE2.out.symm
      rw [HE2L.out] at hi
      have HI := Lib.hid hi
      clear hi HL
      go_wp2_with fail
      refine (HI.out).mono ?_
      rintro e w8 ⟨v8, rfl, h8⟩
      obtain ⟨va8, vc8, rfl⟩ := own_slice h8.row
      have ll : (((L1 + 1 : Nat) : Int) != (L1 : Int) + 1) = false := by simp
      have HD := Lib.hid (own_drop' (x := x) (b := true) h8.swap S0.out S1.out (by rw [Q4.out]; rfl) (by rw [Q4.out]; rfl) Q5.out)
      clear h8 HI H7
      go_wp2_with fail
      refine (HD.out).mono ?_
      rintro e w9 ⟨rfl, h9⟩
      have HD2 := Lib.hid (own_drop' (x := 0) (b := false) h9 S0.out S1.out (by rw [HN1.out]; rfl) (by rw [HN1.out]; rfl) (Tr.del_none HN1.out))
      clear h9 HD
      go_wp2_with fail
      refine (HD2.out).mono ?_
      rintro e w10 ⟨rfl, h10⟩
      have hl := own_len h10
      rw [← HM.out] at hl
      have HL := Lib.hid hl
      have H10 := Lib.hid (h10.swap.drop)
      have mm2 : ((M : Int) == (M : Int)) = true := by simp
      have xx2 : (x == x) = true := by simp
      clear hl h10 HD2
      go_wp2_with fail
      refine (HL.out).mono ?_
      rintro e w' ⟨rfl, rfl⟩
      have hi := own_in' H10.out rfl KL.out HE1.out.symm
      rw [← HL1.out] at hi
      have HI := Lib.hid hi
      clear hi HL
      go_wp2_with fail
      refine (HI.out).mono ?_
      rintro e w11 ⟨v11, rfl, h11⟩
      have hs := same_any v11 (.slice va L1 vc) L1 L1 E1 E1 w11 HL1.out.symm HL1.out.symm (ownsR_of h11.row) (ownsR_of h11.third.row) (by omega) (by omega)
      rw [show decide (E1 = E1) = true from by simp] at hs
      have HS := Lib.hid hs
      have H11 := Lib.hid h11
      clear h11 hs HI H10
      go_wp2_with fail
      refine (HS.out).mono ?_
      rintro e w12 ⟨rfl, hx⟩
      have H12 := Lib.hid (H11.out.step hx)
      clear hx HS H11
      go_wp2_with fail
      refine (awake_any H12.out).mono ?_
      rintro e w13 ⟨rfl, h13⟩
      have H13 := Lib.hid h13
      clear h13 H12
      go_wp2_with fail
      go_ret
      exact ⟨rfl, H13.out.ext (by simp)⟩
end Go.Proofs.Ytlficiohenpghaa.Bk
