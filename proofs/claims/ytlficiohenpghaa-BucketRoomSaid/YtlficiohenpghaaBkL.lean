/- DERIVED. Layer 13 (bucket): the law BucketRoom. -/
import Derived.Test.YtlficiohenpghaaBkI
set_option linter.unusedVariables false
set_option linter.unusedSimpArgs false
set_option maxRecDepth 100000
namespace Go.Proofs.Ytlficiohenpghaa.Bk
open Go.RowKit Go.Proofs.Ytlficiohenpghaa Go.Proofs.Ytlficiohenpghaa.TreeP Go.Proofs.Ytlficiohenpghaa.Tr

/-- the socket beside another one, j places on -/
def sk (a : Int) (j : Nat) : Int := (a + (j : Int)) % 18446744073709551616
theorem sk_wrap (a : Int) (j : Nat) : IntKind.u64.wrap (a + (j : Int)) = sk a j := by
  simp [IntKind.wrap, IntKind.bits, IntKind.signed, sk]
theorem sk_bd (a : Int) (j : Nat) : 0 ≤ sk a j ∧ sk a j < 18446744073709551616 := by unfold sk; omega
theorem sk_ne {a : Int} {i j : Nat} (hi : i ≤ 1000) (hj : j ≤ 1000) (h : sk a i = sk a j) : i = j := by unfold sk at h; omega
/-- the first k of them, with their places -/
def rowR (a : Int) : Nat → List En
  | 0 => []
  | k + 1 => ins (rowR a k) (sk a k, 0) (k : Int)
theorem rowR_ok (a : Int) (n : Nat) (hn : n ≤ 1000) : ∀ k, k ≤ n → RK n (rowR a k) ∧ (rowR a k).length = k ∧ ∀ j, j ≤ 1000 → Tr.look (rowR a k) (sk a j, 0) = if j < k then some (j : Int) else none
  | 0, _ => ⟨rk_nil n, rfl, fun j _ => by simp [rowR, Tr.look]⟩
  | k + 1, hk => by
    obtain ⟨h1, h2, h3⟩ := rowR_ok a n hn k (by omega)
    have hl : Tr.look (rowR a k) (sk a k, 0) = none := by rw [h3 k (by omega), if_neg (by omega)]
    have hb := sk_bd a k
    refine ⟨h1.put hb.1 hb.2 hl (by omega), ?_, fun j hj => ?_⟩
    · have := (rise_ins h1.rise (sk a k, 0) (k : Int) hl).2.1
      rw [rowR, this, h2]
    · rw [rowR, look_ins h1.rise hl]
      by_cases hjk : j = k
      · subst hjk; rw [if_pos rfl, if_pos (by omega)]
      · have : ¬ ((sk a j, (0 : Int)) = (sk a k, 0)) := fun e => hjk (sk_ne hj (by omega) (congrArg Prod.fst e))
        rw [if_neg this, h3 j hj]
        by_cases hlt : j < k
        · rw [if_pos hlt, if_pos (by omega)]
        · rw [if_neg hlt, if_neg (by omega)]
def LI (w0 : World) (p m n : Nat) (a : Int) (vi : Value) (wr : World) : Prop := ∃ k : Nat, vi = .int .i64 (k : Int) ∧ k ≤ n ∧ Own [Bkt p m n (rowR a k), Old w0] wr
def LJ (w0 : World) (p m n : Nat) (a : Int) (vi : Value) (wr : World) : Prop := ∃ k : Nat, vi = .int .i64 (k : Int) ∧ k ≤ n ∧ Own [Bkt p m n (rowR a n), Old w0] wr
set_option maxHeartbeats 4000000 in
theorem room_of (bits room a : Int) (wf1 : (Lit.int .u8 bits).wf = true) (wf2 : (Lit.int .u8 room).wf = true) (wf3 : (Lit.int .u64 a).wf = true) (w : World) :
    Calls Try.prog 6 #[.int .u8 bits, .int .u8 room, .int .u64 a] w fun e w' => e = .returned (.bool true) ∧ Ext w w' := by
  obtain ⟨a0, a1⟩ := u8_bd wf1
  obtain ⟨b0, b1⟩ := u8_bd wf2
  obtain ⟨s0, s1⟩ := u64_bd wf3
  obtain ⟨m, hm⟩ : ∃ m : Nat, bits % 11 = (m : Int) := ⟨(bits % 11).toNat, by omega⟩
  obtain ⟨r, hr⟩ : ∃ r : Nat, room % 200 = (r : Int) := ⟨(room % 200).toNat, by omega⟩
  have m1 : m ≤ 10 := by omega
  obtain ⟨n, hn⟩ : ∃ n : Nat, n = 1 + r := ⟨_, rfl⟩
  have n1 : 1 ≤ n := by omega
  have n2 : n ≤ 200 := by omega
  have hn' : (1 : Int) + (r : Int) = (n : Int) := by omega
  have hr2 : (r : Int) < 200 := by omega
  have HNEW := Lib.hid (own_new m n m1 n1 (by omega) (Own.start w))
  have HN1 := Lib.hid n1
  have HN2 := Lib.hid n2
  clear wf1 wf2 wf3 n1 hn m1
  go_enter Try.func6, Try.ntmps6
  go_wp2_with fail
  refine (HNEW.out).mono ?_
  rintro e w1 ⟨p, rfl, h1⟩
  have H1 := Lib.hid h1
  clear h1 HNEW hm hr a0 a1 b0 b1 hr2 hn'
  go_wp2_with fail
  go_loopw [31] (fun vi wr => LI w p m n a vi wr) (fun vi _ => n - (intOf vi).toNat)
  case atStart => exact ⟨0, rfl, Nat.zero_le _, H1.out⟩
  case round =>
    clear H1
    obtain ⟨k, rfl, hk, h⟩ := hrel
    by_cases hlt : k < n
    · have hltI : (k : Int) < (n : Int) := by omega
      obtain ⟨o1, o2, o3⟩ := rowR_ok a n (by omega) k hk
      have hb := sk_bd a k
      have hl : Tr.look (rowR a k) (sk a k, 0) = none := by rw [o3 k (by omega), if_neg (by omega)]
      have hp := own_put' (v := (k : Int)) (x := 0) (R' := rowR a (k + 1)) h hb.1 hb.2 (by unfold Tr.putE; rw [hl, if_neg (by simp), if_neg (by omega)]) (by unfold Tr.putT; rw [hl, if_neg (by simp), if_neg (by omega)]; rfl)
      have HP := Lib.hid hp
      have hw := sk_wrap a k
      clear h hp o1 o2 o3 hb hl
      go_wp2_with fail
      refine (HP.out).mono ?_
      rintro e w2 ⟨rfl, h2⟩
      have hl := own_len h2
      rw [(rowR_ok a n (by have := HN2.out; omega) (k + 1) (by omega)).2.1] at hl
      have HL := Lib.hid hl
      have HX := Lib.hid (show LI w p m n a (.int .i64 ((k : Int) + 1)) w2 from ⟨k + 1, by go_num, by omega, h2⟩)
      have kk : (((k + 1 : Nat) : Int) != (k : Int) + 1) = false := by simp
      clear hl h2 HP hw
      go_wp2_with fail
      refine (HL.out).mono ?_
      rintro e w' ⟨rfl, rfl⟩
      go_wp2_with fail
      exact ⟨HX.out, by simp [intOf]; omega⟩
    · obtain rfl : k = n := by omega
      obtain ⟨o1, o2, o3⟩ := rowR_ok a k (by omega) k (Nat.le_refl _)
      have hb := sk_bd a k
      have hw := sk_wrap a k
      have hl : Tr.look (rowR a k) (sk a k, 0) = none := by rw [o3 k (by omega), if_neg (by omega)]
      have hb0 := sk_bd a 0
      have hl0 : Tr.look (rowR a k) (a, 0) = some 0 := by
        have := o3 0 (by omega)
        rw [if_pos (by have := HN1.out; omega)] at this
        have e : sk a 0 = a := by unfold sk; omega
        rw [e] at this
        exact this
      have HP := Lib.hid (own_put' (v := 0) (x := 4) (R' := rowR a k) h hb.1 hb.2 (by unfold Tr.putE; rw [hl, if_neg (by simp), if_pos o2]) (by unfold Tr.putT; rw [hl, if_neg (by simp), if_pos o2]))
      have HL := Lib.hid hl
      have HL0 := Lib.hid hl0
      have HO3 := Lib.hid o3
      have S0 := Lib.hid s0
      have S1 := Lib.hid s1
      have HB := Lib.hid hb
      clear h hb hl hb0 hl0 o1 o2 o3 hlt hk
      go_wp2_with fail
      refine (HP.out).mono ?_
      rintro e w2 ⟨rfl, h2⟩
      have HP2 := Lib.hid (own_put' (s := a) (v := 0) (x := 60) (R' := rowR a k) h2 S0.out (by have := S1.out; omega) (by unfold Tr.putE; rw [HL0.out]; rfl) (by unfold Tr.putT; rw [HL0.out]; rfl))
      clear h2 HP
      go_wp2_with fail
      refine (HP2.out).mono ?_
      rintro e w3 ⟨rfl, h3⟩
      have H3 := Lib.hid h3
      clear h3 HP2
      go_wp2_with fail
      go_loopw [64] (fun vi wr => LJ w p m k a vi wr) (fun vi _ => k - (intOf vi).toNat)
      case atStart => exact ⟨0, rfl, Nat.zero_le _, H3.out⟩
      case round =>
        clear H3
        obtain ⟨j, rfl, hj, h⟩ := hrel
        by_cases hlt : j < k
        · have hltI : (j : Int) < (k : Int) := by omega
          have hbj := sk_bd a j
          have hwj := sk_wrap a j
          have hlj := HO3.out j (by have := HN2.out; omega)
          rw [if_pos hlt] at hlj
          have HG := Lib.hid (own_get' (x := (j : Int)) (b := true) h hbj.1 hbj.2 (by rw [hlj]; rfl) (by rw [hlj]; rfl))
          have jj : ((j : Int) != (j : Int)) = false := by simp
          clear h hbj hlj hw
          go_wp2_with fail
          refine (HG.out).mono ?_
          rintro e w4 ⟨rfl, h4⟩
          have HX := Lib.hid (show LJ w p m k a (.int .i64 ((j : Int) + 1)) w4 from ⟨j + 1, by go_num, by omega, h4⟩)
          clear h4 HG hwj
          go_wp2_with fail
          exact ⟨HX.out, by simp [intOf]; omega⟩
        · obtain rfl : j = k := by omega
          have HG := Lib.hid (own_get' (x := 0) (b := false) h HB.out.1 HB.out.2 (by rw [HL.out]; rfl) (by rw [HL.out]; rfl))
          clear h hlt hj
          go_wp2_with fail
          refine (HG.out).mono ?_
          rintro e w4 ⟨rfl, h4⟩
          have H4 := Lib.hid h4
          clear h4 HG
          go_wp2_with fail
          refine (awake_any H4.out).mono ?_
          rintro e w8 ⟨rfl, h8⟩
          have H8 := Lib.hid h8
          clear h8 H4
          go_wp2_with fail
          go_ret
          exact ⟨rfl, H8.out.ext (by simp)⟩
end Go.Proofs.Ytlficiohenpghaa.Bk
