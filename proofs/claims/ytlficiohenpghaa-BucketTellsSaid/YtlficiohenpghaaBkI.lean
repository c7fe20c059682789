/- DERIVED. Layer 13 (bucket): the law BucketBits. -/
import Derived.Test.YtlficiohenpghaaBkH
set_option linter.unusedVariables false
set_option linter.unusedSimpArgs false
set_option maxRecDepth 100000
namespace Go.Proofs.Ytlficiohenpghaa.Bk
open Go.RowKit Go.Proofs.Ytlficiohenpghaa Go.Proofs.Ytlficiohenpghaa.TreeP Go.Proofs.Ytlficiohenpghaa.Tr

def BI (w0 : World) (p1 p2 p3 n m M : Nat) (R E : List En) (v : Value) (vi : Value) (wr : World) : Prop :=
  ∃ k : Nat, vi = .int .i64 (k : Int) ∧ k ≤ M ∧ Own [Bkt p1 n 30 R, Bkt p2 m 30 R, Bkt p3 0 30 R, Row 32 3 v M (Tr.ents E), Old w0] wr
/-- one entry of a row that is owned -/
theorem entry_at {w : World} {E : List En} {a : Option Addr} {c n : Nat} {l : List HP} (h : Own (Row 32 3 (.slice a n c) n (Tr.ents E) :: l) w) {k : Nat} {e : En} (hk : k < n) (he : E[k]? = some e) :
    ∃ g, a = some ⟨g, 0, none⟩ ∧ w.cell? ⟨g, k * 3, none⟩ = some (.int .u64 e.1.1) ∧ w.cell? ⟨g, k * 3 + 1, none⟩ = some (.int .u64 e.1.2) ∧ w.cell? ⟨g, k * 3 + 2, none⟩ = some (.int .i64 e.2) := by
  obtain ⟨g, cap, ev, -, -⟩ := own_cap h.row (by omega)
  injection ev with e1 _ e3
  subst e1 e3
  exact ⟨g, rfl, rowEnt (ownsR_of h.row) he⟩
theorem Own.blk3c {l : List HP} {w : World} {b : Nat} {x y z : Value} {t : TypeId} (h : Own (Go.Proofs.Ytlficiohenpghaa.Blk b #[x, y, z] t :: l) w) :
    w.cell? ⟨b, 0, none⟩ = some x ∧ w.cell? ⟨b, 1, none⟩ = some y ∧ w.cell? ⟨b, 2, none⟩ = some z := by
  simp [World.cell?, Go.Proofs.Ytlficiohenpghaa.Own.blk h (.head _)]
set_option maxHeartbeats 2000000 in
theorem bits_of (few more : Int) (v : Value) (s : Int) (x : Nat × (Nat → BOp)) (wf1 : (Lit.int .u8 few).wf = true) (wf2 : (Lit.int .u8 more).wf = true) (wf3 : (Lit.int .u64 s).wf = true) (w : World) (ho : Ops2 w v x) :
    Calls Try.prog 4 #[.int .u8 few, .int .u8 more, v, .int .u64 s] w fun e w' => e = .returned (.bool true) ∧ Ext w w' := by
  obtain ⟨a0, a1⟩ := u8_bd wf1
  obtain ⟨b0, b1⟩ := u8_bd wf2
  obtain ⟨s0, s1⟩ := u64_bd wf3
  obtain ⟨n, hn⟩ : ∃ n : Nat, few % 11 = (n : Int) := ⟨(few % 11).toNat, by omega⟩
  obtain ⟨m, hm⟩ : ∃ m : Nat, more % 11 = (m : Int) := ⟨(more % 11).toNat, by omega⟩
  have n1 : n ≤ 10 := by omega
  have m1 : m ≤ 10 := by omega
  obtain ⟨N, f⟩ := x
  obtain ⟨R, hR⟩ : ∃ R, R = playP 30 f (min N 50) := ⟨_, rfl⟩
  have HP : Hid (∀ (b : Nat) (l : List HP) (w' : World), b ≤ 10 → Own l w' → Old w ∈ l → Calls Try.prog 9 #[.int .i64 (b : Int), v] w' fun e w' => ∃ p : Nat, e = .returned (.tuple #[.pointer (some ⟨p, 0, none⟩), .bool true]) ∧ Own (Bkt p b 30 R :: l) w') := Lib.hid (fun b l w' hb h hold => by
    rw [hR]; exact played_any b v N f hb ho h hold)
  obtain ⟨-, a, cap, rfl, -, -, -⟩ := ho
  have H0 := Lib.hid (Own.start w)
  have N1 := Lib.hid n1
  have M1 := Lib.hid m1
  have S0 := Lib.hid s0
  have S1 := Lib.hid s1
  clear wf1 wf2 wf3 hR n1 m1 s0 s1
  go_enter Try.func4, Try.ntmps4
  go_wp2_with fail
  refine (HP.out n _ _ N1.out H0.out (.head _)).mono ?_
  rintro e w1 ⟨p1, rfl, h1⟩
  have H1 := Lib.hid h1
  clear h1
  go_wp2_with fail
  refine (HP.out m _ _ M1.out H1.out (by simp)).mono ?_
  rintro e w2 ⟨p2, rfl, h2⟩
  have H2 := Lib.hid h2
  clear h2 H1
  go_wp2_with fail
  refine (HP.out 0 _ _ (by omega) H2.out (by simp)).mono ?_
  rintro e w3 ⟨p3, rfl, h3⟩
  have H3 := Lib.hid h3
  clear h3 H2 hn hm a0 a1 b0 b1 HP
  obtain ⟨rk, -⟩ := own_rk H3.out
  have HRK := Lib.hid rk
  obtain ⟨L, hL⟩ : ∃ L, L = R.length := ⟨_, rfl⟩
  have L30 : L ≤ 30 := by rw [hL]; exact rk.len
  have hl1 := own_len H3.out.third
  have hl2 := own_len H3.out.second
  rw [← hL] at hl1 hl2
  have HL1 := Lib.hid hl1
  have HL2 := Lib.hid hl2
  have HI := Lib.hid (own_in' (i := 0) (k := 0) H3.out rfl (by decide) in_zero)
  rw [← hL] at HI
  have HL := Lib.hid hL
  have LL : ((L : Int) != (L : Int)) = false := by simp
  clear rk hl1 hl2 hL
  go_wp2_with fail
  refine (HL1.out).mono ?_
  rintro e w' ⟨rfl, rfl⟩
  go_wp2_with fail
  refine (HL2.out).mono ?_
  rintro e w' ⟨rfl, rfl⟩
  go_wp2_with fail
  refine (HI.out).mono ?_
  rintro e w4 ⟨v4, rfl, h4⟩
  obtain ⟨va, vc, rfl⟩ := own_slice h4.row
  have hl1 := own_len (h4.drop.third)
  rw [← HL.out] at hl1
  have HL1' := Lib.hid hl1
  have H4 := Lib.hid h4.drop
  clear h4 hl1 HL1 HL2 HI H3
  go_wp2_with fail
  refine (HL1'.out).mono ?_
  rintro e w' ⟨rfl, rfl⟩
  have hin := own_in' (i := 0) (k := 0) H4.out rfl (by decide) in_zero
  rw [← HL.out] at hin
  have HI2 := Lib.hid hin
  clear hin HL1'
  go_wp2_with fail
  refine (HI2.out).mono ?_
  rintro e w5 ⟨v5, rfl, h5⟩
  obtain ⟨va5, vc5, rfl⟩ := own_slice h5.row
  have H5 := Lib.hid h5
  clear h5 HI2 H4
  obtain ⟨E, hE⟩ : ∃ E : List En, E = R ++ [((s, 0), 0)] := ⟨_, rfl⟩
  have hEe : Tr.ents E = Tr.ents R ++ [.int .u64 s, .int .u64 0, .int .i64 0] := by rw [hE, ents_append]; rfl
  have hEl : E.length = L + 1 := by rw [hE, List.length_append, HL.out]; rfl
  have hEm : ∀ e ∈ E, (0 ≤ e.1.1 ∧ e.1.1 < 18446744073709551616) ∧ ((Tr.look R (e.1.1, 0)).isSome = false → e.1.1 = s) := by
    intro e he
    rw [hE, List.mem_append, List.mem_singleton] at he
    rcases he with he | rfl
    · obtain ⟨k0, k1, k2⟩ := HRK.out.key e he
      refine ⟨⟨k1, k2⟩, fun hf => ?_⟩
      have : Tr.look R (e.1.1, 0) = some e.2 := look_mem HRK.out.rise (by
        have : ((e.1.1, 0), e.2) = e := Prod.ext (Prod.ext rfl k0.symm) rfl
        rw [this]; exact he)
      rw [this] at hf
      cases hf
    · have := S1.out
      exact ⟨⟨S0.out, by simp only; omega⟩, fun _ => rfl⟩
  have HEM := Lib.hid hEm
  have HEE := Lib.hid hEe
  have HEL := Lib.hid hEl
  clear hE hEm hEe hEl
  go_wp2_with (at_builtin; refine app_own (W := w5) rfl _ _ _ _ _ 3 24 rfl Try.underlying26 infoEntry rfl (by omega) (by omega) (.slice va5 L vc5) L (Tr.ents R) [.int .u64 s, .int .u64 0, .int .i64 0] rfl _ (by simp) rfl rfl (by simp [Value.oneCell']) (H5.out.row) (by omega) ?_)
  intro v1 w6 hown hgrow hmv
  rw [← HEE.out, ← HEL.out] at hown
  have h6 := H5.out.rowApp hown hgrow hmv
  obtain ⟨va6, vc6, rfl⟩ := own_slice h6.row
  have H6 := Lib.hid h6
  clear hown hgrow hmv h6 H5
  obtain ⟨M, hM⟩ : ∃ M, M = E.length := ⟨_, rfl⟩
  have hM1 : M ≤ 31 := by rw [hM, HEL.out]; omega
  rw [← hM] at H6 ⊢
  have H7 := Lib.hid (H6.out.back4.third.tail OwnIn.swap)
  have HM := Lib.hid hM
  have HMM := Lib.hid (show ∀ e ∈ E, True from fun _ _ => trivial)
  clear hM H6
  go_wp2_with fail
  go_loopw [77] (fun vi wr => BI w p1 p2 p3 n m M R E (.slice va6 M vc6) vi wr) (fun vi _ => M - (intOf vi).toNat)
  case atStart => exact ⟨0, rfl, Nat.zero_le _, H7.out⟩
  case round =>
    clear H7
    obtain ⟨k, rfl, hk, h⟩ := hrel
    by_cases hlt : k < M
    · have hltI : (k : Int) < (M : Int) := by omega
      obtain ⟨e, he⟩ : ∃ e, E[k]? = some e := ⟨_, List.getElem?_eq_getElem (by rw [← HM.out]; exact hlt)⟩
      obtain ⟨g, rfl, r0, r1, r2⟩ := entry_at h.fourth hlt he
      obtain ⟨⟨e0, e1⟩, e2⟩ := HEM.out e (List.mem_of_getElem? he)
      obtain ⟨⟨ea, es⟩, ev⟩ := e
      simp only at r0 r1 r2 e0 e1 e2
      obtain ⟨X, hX⟩ : ∃ X, X = (Tr.look R (ea, 0)).getD 0 := ⟨_, rfl⟩
      obtain ⟨B, hB⟩ : ∃ B, B = (Tr.look R (ea, 0)).isSome := ⟨_, rfl⟩
      rw [← hB] at e2
      have hA := Go.Proofs.Ytlficiohenpghaa.Own.blkNew h #[.int .u64 ea, .int .u64 es, .int .i64 ev] 32
      have HG1 := Lib.hid (own_get' hA.swap e0 e1 hX.symm hB.symm)
      have HG2 : Hid (∀ (l : List HP) (w' : World), Own (Bkt p2 m 30 R :: l) w' → Calls Try.prog 11 #[.pointer (some ⟨p2, 0, none⟩), .int .u64 ea] w' fun e w' => e = .returned (.tuple #[.int .i64 X, .bool B]) ∧ Own (Bkt p2 m 30 R :: l) w') := Lib.hid (fun l w' h' => own_get' h' e0 e1 hX.symm hB.symm)
      have HG3 : Hid (∀ (l : List HP) (w' : World), Own (Bkt p3 0 30 R :: l) w' → Calls Try.prog 11 #[.pointer (some ⟨p3, 0, none⟩), .int .u64 ea] w' fun e w' => e = .returned (.tuple #[.int .i64 X, .bool B]) ∧ Own (Bkt p3 0 30 R :: l) w') := Lib.hid (fun l w' h' => own_get' h' e0 e1 hX.symm hB.symm)
      have xx : (X != X) = false := by simp
      have bb : (B != B) = false := by simp
      have hkM : k + 1 ≤ M := by omega
      clear h hA hX hB he hlt hk e0 e1
      go_wp2_with fail
      refine (HG1.out).mono ?_
      rintro e w7 ⟨rfl, h7⟩
      have H7 := Lib.hid h7.swap
      obtain ⟨q0, q1, q2⟩ := Own.blk3c h7.swap
      clear h7 HG1
      go_wp2_with fail
      refine (HG2.out _ _ H7.out.third).mono ?_
      rintro e w8 ⟨rfl, h8⟩
      have H8 := Lib.hid h8.back3
      clear q0 q1 q2
      obtain ⟨q0, q1, q2⟩ := Own.blk3c h8.back3
      clear h8 HG2 H7
      go_wp2_with fail
      refine (HG3.out _ _ H8.out.fourth).mono ?_
      rintro e w9 ⟨rfl, h9⟩
      have H9 := Lib.hid h9.back4
      clear q0 q1 q2
      obtain ⟨q0, q1, q2⟩ := Own.blk3c h9.back4
      have HBI := Lib.hid (show BI w p1 p2 p3 n m M R E (.slice (some ⟨g, 0, none⟩) M vc6) (.int .i64 ((k : Int) + 1)) w9 from ⟨k + 1, by go_num, hkM, h9.back4.drop⟩)
      clear h9 HG3 H8 r0 r1 r2 H9
      cases B with
      | true =>
        clear e2
        go_wp2_with fail
        exact ⟨HBI.out, by simp [intOf]; omega⟩
      | false =>
        have es' : ea = s := e2 rfl
        have ee : (ea != s) = false := by simp [es']
        clear e2 es'
        go_wp2_with fail
        exact ⟨HBI.out, by simp [intOf]; omega⟩
    · obtain rfl : k = M := by omega
      have H := Lib.hid h
      clear h hlt hk
      go_wp2_with fail
      refine (awake_any H.out).mono ?_
      rintro e w8 ⟨rfl, h8⟩
      have H8 := Lib.hid h8
      clear h8 H
      go_wp2_with fail
      go_ret
      exact ⟨rfl, H8.out.ext (by simp)⟩
end Go.Proofs.Ytlficiohenpghaa.Bk
