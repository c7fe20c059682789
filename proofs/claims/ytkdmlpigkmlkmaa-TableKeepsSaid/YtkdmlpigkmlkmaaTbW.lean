/- DERIVED. Layer 15 (rehash): the law RehashSpread. Written by wip/mktbw.py. -/
import Derived.Test.YtkdmlpigkmlkmaaTbV
set_option linter.unusedVariables false
set_option linter.unusedSimpArgs false
set_option maxRecDepth 100000
namespace Go.Proofs.Ytkdmlpigkmlkmaa.Tb
open Go.RowKit Go.Proofs.Ytkdmlpigkmlkmaa Go.Proofs.Ytkdmlpigkmlkmaa.TreeP Go.Proofs.Ytkdmlpigkmlkmaa.Tr Go.Proofs.Ytkdmlpigkmlkmaa.Bk

def SdI (w : World) (p n m : Nat) (vi : Value) (wr : World) : Prop :=
  ∃ (i b : Nat) (keep : Int) (S : T), vi = .int .i64 (i : Int) ∧ i ≤ m ∧ Own (Tbl p n b (9 * i) keep S :: [Old w]) wr
def SdJ (w : World) (p n b N P : Nat) (keep : Int) (S : T) (C : List Nat) (v : Value) (vs vj : Value) (wr : World) : Prop :=
  ∃ j : Nat, vj = .int .i64 (j : Int) ∧ j ≤ P ∧ vs = .int .i64 ((C.take j).sum : Nat) ∧ Own (RN v C :: Tbl p n b N keep S :: [Old w]) wr
def SdK (w : World) (p n d N P : Nat) (keep : Int) (S : T) (C C2 : List Nat) (v v2 : Value) (vj : Value) (wr : World) : Prop :=
  ∃ j : Nat, vj = .int .i64 (j : Int) ∧ j ≤ P ∧ Own (RN v2 C2 :: Tbl p n d N keep S :: RN v C :: [Old w]) wr
theorem take_sum {ys : List Nat} {k x : Nat} (h : ys[k]? = some x) : (ys.take (k + 1)).sum = (ys.take k).sum + x := by
  rw [List.take_add_one, h]
  simp
theorem take_sum_le : ∀ (ys : List Nat) (k : Nat), (ys.take k).sum ≤ ys.sum
  | [], k => by simp
  | y :: ys, 0 => by simp
  | y :: ys, k + 1 => by
    have := take_sum_le ys k
    simp only [List.take_succ_cons, List.sum_cons]
    omega
theorem rn_at {a : Option Addr} {xs : List Nat} {l : List HP} {w : World} {m cap k x : Nat} (h : Own (RN (.slice a m cap) xs :: l) w) (hl : xs.length = m) (hx : xs[k]? = some x) : ∃ g, a = some ⟨g, 0, none⟩ ∧ w.cell? ⟨g, k, none⟩ = some (.int .i64 (x : Int)) := by
  obtain ⟨a2, c2, e, f0⟩ := rn_cells h hl
  injection e with e1 _ _
  subst e1
  obtain ⟨g, rfl, f⟩ := f0 (by have := (List.getElem?_eq_some_iff.1 hx).1; omega)
  exact ⟨g, rfl, f k x hx⟩
set_option maxHeartbeats 8000000 in
theorem spread_main (v : Value) (nn : Nat) (f : Nat → TOp) (size bits : Int) (s0 : 0 ≤ size) (s1 : size ≤ 255) (b0 : 0 ≤ bits) (b1 : bits ≤ 255) (w : World) (ho : Ops w v nn f) :
    Calls Try.prog 10 #[.int .u8 size, .int .u8 bits, v] w fun e w' => e = .returned (.bool true) ∧ Ext w w' := by
  obtain ⟨n, hn⟩ : ∃ n : Nat, 1 + size % 200 = (n : Int) := ⟨(1 + size % 200).toNat, by omega⟩
  have n1 : 1 ≤ n := by omega
  have n200 : n ≤ 200 := by omega
  obtain ⟨ba, hba⟩ : ∃ ba : Nat, bits % 11 = (ba : Int) := ⟨(bits % 11).toNat, by omega⟩
  have HNW := Lib.hid (own_new n ba 9 n1 (by omega) (by omega) (by omega) (by omega) (Own.start w))
  obtain ⟨hs, av, cap, rfl, q1, q2, q3⟩ := ho
  have Q3 := Lib.hid q3
  have HS := Lib.hid hs
  obtain ⟨m, hm⟩ : ∃ m, m = min nn 60 := ⟨_, rfl⟩
  have hm60 : m ≤ 60 := by omega
  have HM := Lib.hid hm
  unfold maxLen at q2
  clear hs q3 hm
  go_enter Try.func10, Try.ntmps10
  go_wp2_with fail
  try rw [hn]
  try rw [hba]
  (with_reducible refine (HNW.out).mono ?_)
  rintro e w1 ⟨p, rfl, h1⟩
  have H1 := Lib.hid h1
  clear h1 HNW hn hba
  go_wp2_with fail
  go_loopw [11] (fun vi wr => SdI w p n m vi wr) (fun vi _ => m - (intOf vi).toNat)
  case atStart => exact ⟨0, ba, 9, _, rfl, Nat.zero_le _, H1.out⟩
  case round =>
    clear H1
    obtain ⟨i, b, keep, S, rfl, hi, h⟩ := hrel
    by_cases hlt : i < m
    · have hin : i < nn := by have := HM.out; omega
      have c1 : (i : Int) < (nn : Int) := by omega
      have c2 : (i : Int) < 60 := by omega
      have c3 : (i : Int) < (cap : Int) := by omega
      obtain ⟨b2, off, rfl, hb2, hcell⟩ := Q3.out (by omega)
      have hx := h.ext (.tail _ (.head _))
      have HOK := Lib.hid (HS.out i hin)
      obtain ⟨o, ho⟩ : ∃ o, o = f i := ⟨_, rfl⟩
      rw [← ho] at HOK
      have hcc : ∀ c, c < 12 → wr.cell? ⟨b2, off + i * 12 + c, none⟩ = some (oc o c) := fun c hc => by rw [ho]; exact hx.cell (hcell i c hin hc)
      have x0 : wr.cell? ⟨b2, off + i * 12, none⟩ = some (.int .u8 o.kind) := hcc 0 (by omega)
      have x1 : wr.cell? ⟨b2, off + i * 12 + 1, none⟩ = some (.int .u64 o.sock) := hcc 1 (by omega)
      have x2 : wr.cell? ⟨b2, off + i * 12 + 2, none⟩ = some (.int .u64 o.cookie) := hcc 2 (by omega)
      have x3 : wr.cell? ⟨b2, off + i * 12 + 3, none⟩ = some (.int .u64 o.now) := hcc 3 (by omega)
      have x4 : wr.cell? ⟨b2, off + i * 12 + 4, none⟩ = some (.int .i64 o.f) := hcc 4 (by omega)
      have x5 : wr.cell? ⟨b2, off + i * 12 + 5, none⟩ = some (.int .u64 o.x.s) := hcc 5 (by omega)
      have x6 : wr.cell? ⟨b2, off + i * 12 + 6, none⟩ = some (.int .u64 o.x.c) := hcc 6 (by omega)
      have x7 : wr.cell? ⟨b2, off + i * 12 + 7, none⟩ = some (.int .u64 o.x.ra) := hcc 7 (by omega)
      have x8 : wr.cell? ⟨b2, off + i * 12 + 8, none⟩ = some (.int .i64 o.x.cr) := hcc 8 (by omega)
      have x9 : wr.cell? ⟨b2, off + i * 12 + 9, none⟩ = some (.int .u64 o.x.nx) := hcc 9 (by omega)
      have x10 : wr.cell? ⟨b2, off + i * 12 + 10, none⟩ = some (.int .u64 o.x.db) := hcc 10 (by omega)
      have x11 : wr.cell? ⟨b2, off + i * 12 + 11, none⟩ = some (.int .u64 o.x.ag) := hcc 11 (by omega)
      have HD := Lib.hid (does_any h (by omega) o HOK.out)
      clear h hx hcell hb2 ho hcc
      go_wp2_with fail
      (with_reducible refine (HD.out).mono ?_)
      rintro e w3 ⟨rfl, h3⟩
      have HFIN : Hid (SdI w p n m (.int .i64 ((i : Int) + 1)) w3) := Lib.hid ⟨i + 1, _, _, _, by go_num, by omega, h3⟩
      clear h3 HD x0 x1 x2 x3 x4 x5 x6 x7 x8 x9 x10 x11
      go_wp2_with fail
      exact ⟨HFIN.out, by simp [intOf]; omega⟩
    · obtain rfl : i = m := by omega
      obtain ⟨ht, hb⟩ := own_ti h
      have HBI := Lib.hid (own_bits h)
      have hRn : S.R.length ≤ 200 := by have := ht.rk.len; omega
      have HSL : Hid ((socks S).length = S.R.length) := Lib.hid (by rw [socks_len, all_len ht])
      have HSUM : Hid ((cnt b (socks S)).sum = S.R.length) := Lib.hid (by rw [cnt_sum hb, socks_len, all_len ht])
      obtain ⟨A, hA⟩ : ∃ A, A = S.R.length := ⟨_, rfl⟩
      rw [← hA] at HSL HSUM hRn
      have HA := Lib.hid hA
      have H := Lib.hid h
      have HB := Lib.hid hb
      obtain ⟨pk1, pk2⟩ := Re.pw_le hb
      obtain ⟨P, hP⟩ : ∃ P, P = 2 ^ b := ⟨_, rfl⟩
      rw [← hP] at pk1 pk2
      have hsh : wrap64 ((2 : Int) ^ b) = (P : Int) := by
        have e : ((2 : Int) ^ b) = (P : Int) := by rw [hP]; simp
        rw [e]
        unfold wrap64
        omega
      have hne : ((P : Int) != wrap64 ((2 : Int) ^ b)) = false := by rw [hsh]; simp
      have HSH := Lib.hid hsh
      obtain ⟨C, hC⟩ : ∃ C, C = cnt b (socks S) := ⟨_, rfl⟩
      rw [← hC] at HSUM
      have HC := Lib.hid hC
      have HCL : Hid (C.length = P) := Lib.hid (by rw [hC, cnt_len, hP])
      have HPP := Lib.hid hP
      have b64 : b < 64 := by omega
      have hI : ¬ ((i : Int) < (nn : Int)) ∨ ¬ ((i : Int) < 60) := by have := HM.out; omega
      clear h ht hb hA hC hP hlt hi
      go_upto_region 6 with fail
      go_cut [41] (fun s41 wx => s41 = .bool false ∧ wx = wr)
      case first =>
        by_cases c1 : (i : Int) < (nn : Int)
        · have c2 : ¬ ((i : Int) < 60) := by omega
          have c3 : decide ((i : Int) < 60) = false := by simp; omega
          clear hI
          go_wp2_with fail
          go_meet
          exact ⟨rfl, rfl⟩
        · have c2 : decide ((i : Int) < (nn : Int)) = false := by simp; omega
          clear hI
          go_wp2_with fail
          go_meet
          exact ⟨rfl, rfl⟩
      case rest =>
        obtain ⟨rfl, rfl⟩ := hcut
        clear hI
        go_wp2_with fail
        (with_reducible refine (HBI.out).mono ?_)
        rintro e w3 ⟨rfl, rfl⟩
        have HSP := spread_any H.out
        rw [← HC.out] at HSP
        have HSP := Lib.hid HSP
        clear HBI
        go_wp2_with fail
        (with_reducible refine (HSP.out).mono ?_)
        rintro e w4 ⟨v1, rfl, h4⟩
        obtain ⟨a1, cap1, rfl, -⟩ := rn_cells h4 HCL.out
        have H4 := Lib.hid h4
        clear h4 HSP H
        obtain ⟨M, hM⟩ : ∃ M, M = maxL C := ⟨_, rfl⟩
        have hxA : ∀ x ∈ C, x ≤ A := fun x hx => by
          obtain ⟨k, hk⟩ := List.getElem?_of_mem hx
          rw [HC.out] at hk
          have := cnt_bd hk
          rw [HSL.out] at this
          exact this
        have hMA : M ≤ A := by rw [hM]; exact max_le hxA
        have hAM : A ≤ M * P := by
          have := sum_le (m := M) (xs := C) fun x hx => by rw [hM]; exact max_ge hx
          rw [HSUM.out, HCL.out] at this
          exact this
        have HFA : Hid (∀ l w', Own (Tbl p n b (9 * i) keep S :: l) w' → Calls Try.prog 42 #[.pointer (some ⟨p, 0, none⟩)] w' fun e w2 => e = .returned (.int .i64 (M : Nat)) ∧ Own (Tbl p n b (9 * i) keep S :: l) w2) := Lib.hid fun l w' h' => by rw [hM, HC.out]; exact fullest_any h'
        have HMG : Hid (∀ x ∈ C, x ≤ M) := Lib.hid fun x hx => by rw [hM]; exact max_ge hx
        have HAM := Lib.hid hAM
        clear hM hxA hAM hsh
        go_wp2_with fail
        go_loopw [13, 61] (fun vs vj wr => SdJ w p n b (9 * i) P keep S C (.slice a1 P cap1) vs vj wr) (fun _ vj _ => P - (intOf vj).toNat)
        case atStart => exact ⟨0, rfl, Nat.zero_le _, by simp, H4.out⟩
        case round =>
          clear H4
          obtain ⟨j, rfl, hj, rfl, h⟩ := hrel
          by_cases hjt : j < P
          · have hjI : (j : Int) < (P : Int) := by omega
            obtain ⟨x, hx⟩ : ∃ e, C[j]? = some e := ⟨_, List.getElem?_eq_getElem (by rw [HCL.out]; exact hjt)⟩
            obtain ⟨g4, rfl, p0⟩ := rn_at h HCL.out hx
            have hts := take_sum hx
            have htl := take_sum_le C (j + 1)
            rw [HSUM.out] at htl
            obtain ⟨t0, ht0⟩ : ∃ t0, t0 = (C.take j).sum := ⟨_, rfl⟩
            rw [← ht0] at hts ⊢
            have hxM : x ≤ M := HMG.out x (List.mem_of_getElem? hx)
            have hxI : ¬ ((M : Int) < (x : Int)) := by omega
            have hxd : decide ((M : Int) < (x : Int)) = false := by simp; omega
            have hx0 : ¬ ((x : Int) < 0) := by omega
            have hx0d : decide ((x : Int) < 0) = false := by simp
            have htI : (t0 : Int) + (x : Int) ≤ 200 := by omega
            have HTS := Lib.hid hts
            have HF := Lib.hid (HFA.out _ _ h.swap)
            clear h hx ht0 hts htl
            go_wp2_with fail
            (with_reducible refine (HF.out).mono ?_)
            rintro e w5 ⟨rfl, h5⟩
            have HFIN : Hid (SdJ w p n b (9 * i) P keep S C (.slice (some ⟨g4, 0, none⟩) P cap1) (.int .i64 ((t0 : Int) + (x : Int))) (.int .i64 ((j : Int) + 1)) w5) := Lib.hid ⟨j + 1, by go_num, by omega, by rw [HTS.out]; go_num, h5.swap⟩
            clear h5 HF p0
            go_wp2_with fail
            exact ⟨HFIN.out, by simp [intOf]; omega⟩
          · obtain rfl : j = P := by omega
            have hall : (C.take j).sum = A := by rw [List.take_of_length_le (by rw [HCL.out]; exact Nat.le_refl _), HSUM.out]
            rw [hall]
            have hln := own_len h.swap
            rw [← HA.out] at hln
            have HLN := Lib.hid hln
            have HF := Lib.hid (HFA.out _ _ h.swap)
            have yA : ((A : Int) != (A : Int)) = false := by simp
            have hs2 : wrap64 ((M : Int) * (2 : Int) ^ b) = ((M * j : Nat) : Int) := by
              have e : ((2 : Int) ^ b) = (j : Int) := by rw [HPP.out]; simp
              rw [e, ← Int.natCast_mul]
              have : M * j ≤ 200 * 1024 := Nat.mul_le_mul (by omega) pk2
              unfold wrap64
              omega
            clear h hall hln hjt hj
            go_wp2_with fail
            (with_reducible refine (HLN.out).mono ?_)
            rintro e w5 ⟨rfl, rfl⟩
            go_wp2_with fail
            (with_reducible refine (HF.out).mono ?_)
            rintro e w6 ⟨rfl, h6⟩
            have hdec : decide (wrap64 ((M : Int) * (2 : Int) ^ b) < (A : Int)) = false := by rw [hs2]; simp; have := HAM.out; omega
            have hdec2 : ¬ ((M : Int) * (j : Int) < (A : Int)) := by have h1 := HAM.out; have h2 : ((M * j : Nat) : Int) = (M : Int) * (j : Int) := Int.natCast_mul M j; omega
            have hdec3 : decide ((M : Int) * (j : Int) < (A : Int)) = false := by simpa using hdec2
            have H6 := Lib.hid h6
            clear h6 HF HLN
            have HPJ := Lib.hid (And.intro pk1 pk2)
            go_upto_region 22 with fail
            clear hdec hdec2 hdec3 hs2 hne HAM HFA HMG hMA pk1 pk2
            rcases Nat.eq_zero_or_pos b with hb0 | hb0
            · have g0 : ¬ ((0 : Int) < (b : Int)) := by omega
              have g1 : decide ((0 : Int) < (b : Int)) = false := by simp; omega
              clear hb0
              go_upto_region 34 with fail
              have HRB : Hid (Calls Try.prog 28 #[.pointer (some ⟨p, 0, none⟩), .int .i64 0] w6 fun e w' => e = .returned (.int .i64 0) ∧ Own (Tbl p n 0 (9 * i) keep S :: RN (.slice a1 j cap1) C :: [Old w]) w') := Lib.hid (rebuild_ok H6.out 0 (by omega))
              clear H6
              go_wp2_with fail
              (with_reducible refine (HRB.out).mono ?_)
              rintro e w20 ⟨rfl, h20⟩
              have hfu := fullest_any h20
              rw [cnt_zero, show maxL [(socks S).length] = (socks S).length from rfl, HSL.out] at hfu
              have HFU := Lib.hid hfu
              clear h20 hfu HRB
              go_wp2_with fail
              (with_reducible refine (HFU.out).mono ?_)
              rintro e w21 ⟨rfl, h21⟩
              have HAW := Lib.hid (Re.awake_any h21)
              have HX := Lib.hid (show Ext w w21 from h21.ext (by simp))
              have yy : ((A : Int) == (A : Int)) = true := by simp
              clear h21 HFU
              go_wp2_with fail
              (with_reducible refine (HAW.out).mono ?_)
              rintro e w22 ⟨rfl, rfl⟩
              go_wp2_with fail
              go_ret
              exact ⟨rfl, HX.out⟩
            · have g0 : (0 : Int) < (b : Int) := by omega
              obtain ⟨d, hd⟩ : ∃ d : Nat, b = d + 1 := ⟨b - 1, by omega⟩
              have hdI : (b : Int) - 1 = (d : Int) := by omega
              have hd10 : d + 1 ≤ 10 := by have := HB.out; omega
              have HRB := Lib.hid (rebuild_ok H6.out d (by omega))
              obtain ⟨qk1, qk2⟩ := Re.pw_le (show d ≤ 10 by omega)
              obtain ⟨P2, hP2⟩ : ∃ P2, P2 = 2 ^ d := ⟨_, rfl⟩
              rw [← hP2] at qk1 qk2
              have hP12 : j = 2 * P2 := by rw [HPP.out, hP2, hd, Nat.pow_succ]; omega
              have hsh2 : wrap64 ((2 : Int) ^ d) = (P2 : Int) := by
                have e : ((2 : Int) ^ d) = (P2 : Int) := by rw [hP2]; simp
                rw [e]
                unfold wrap64
                omega
              have HD := Lib.hid hd
              have HP2 := Lib.hid hP2
              subst hP12
              clear hb0 H6 hd hP2
              go_wp2_with fail
              try simp only [hdI]
              (with_reducible refine (HRB.out).mono ?_)
              rintro e w7 ⟨rfl, h7⟩
              have hsp := spread_any h7
              obtain ⟨C2, hC2⟩ : ∃ C2, C2 = cnt d (socks S) := ⟨_, rfl⟩
              rw [← hC2] at hsp
              have HCL2 : Hid (C2.length = P2) := Lib.hid (by rw [hC2, cnt_len, HP2.out])
              have HC2 := Lib.hid hC2
              have HSP := Lib.hid hsp
              clear h7 HRB hsp hC2
              go_wp2_with fail
              (with_reducible refine (HSP.out).mono ?_)
              rintro e w8 ⟨v2, rfl, h8⟩
              obtain ⟨a2, cap2, rfl, -⟩ := rn_cells h8 HCL2.out
              have H8 := Lib.hid h8
              clear h8 HSP
              go_upto_region 26 with fail
              go_cut [103] (fun s wx => s = .bool false ∧ wx = w8)
              case first =>
                go_wp2_with fail
                go_meet
                exact ⟨rfl, rfl⟩
              case rest =>
                obtain ⟨rfl, rfl⟩ := hcut
                clear hsh2
                go_wp2_with fail
                go_loopw [106] (fun vj wr => SdK w p n d (9 * i) P2 keep S C C2 (.slice a1 (2 * P2) cap1) (.slice a2 P2 cap2) vj wr) (fun vj _ => P2 - (intOf vj).toNat)
                case atStart => exact ⟨0, rfl, Nat.zero_le _, H8.out⟩
                case round =>
                  clear H8
                  obtain ⟨k, rfl, hk, h⟩ := hrel
                  by_cases hkt : k < P2
                  · have hkI : (k : Int) < (P2 : Int) := by omega
                    obtain ⟨x, hx⟩ : ∃ e, C2[k]? = some e := ⟨_, List.getElem?_eq_getElem (by rw [HCL2.out]; exact hkt)⟩
                    obtain ⟨g5, rfl, p0⟩ := rn_at h HCL2.out hx
                    have hx2 : (cnt d (socks S))[k]? = some x := by rw [← HC2.out]; exact hx
                    obtain ⟨y, z, hy, hz, hxyz⟩ := cnt_half hd10 hx2
                    rw [← HD.out, ← HC.out] at hy hz
                    obtain ⟨g6, rfl, p1⟩ := rn_at h.third HCL.out hy
                    obtain ⟨g7, e7, p2⟩ := rn_at h.third HCL.out hz
                    injection e7 with e7
                    injection e7 with e7
                    subst e7
                    have hxA : x ≤ A := by
                      have := cnt_bd hx2
                      rw [HSL.out] at this
                      exact this
                    have yI : (y : Int) + (z : Int) ≤ 200 := by omega
                    have hxI : ((x : Int) != (y : Int) + (z : Int)) = false := by simp; omega
                    have hxJ : (x : Int) = (y : Int) + (z : Int) := by omega
                    have HFIN : Hid (∀ m, SdK w p n d (9 * i) P2 keep S C C2 (.slice (some ⟨g6, 0, none⟩) (2 * P2) cap1) (.slice (some ⟨g5, 0, none⟩) P2 cap2) (.int .i64 ((k : Int) + 1)) (wr.drewN m)) := Lib.hid fun m => ⟨k + 1, by go_num, by omega, h.step ((Ext.refl _).drewN m)⟩
                    clear h hx hx2 hy hz hxyz
                    go_wp2_with fail
                    go_quiet (fail)
                    go_wp2_with fail
                    exact ⟨HFIN.out _, by simp [intOf]; omega⟩
                  · obtain rfl : k = P2 := by omega
                    have H6 := Lib.hid h.drop
                    clear h hkt hk
                    go_upto_region 34 with fail
                    have HRB : Hid (Calls Try.prog 28 #[.pointer (some ⟨p, 0, none⟩), .int .i64 0] wr fun e w' => e = .returned (.int .i64 0) ∧ Own (Tbl p n 0 (9 * i) keep S :: RN (.slice a1 (2 * k) cap1) C :: [Old w]) w') := Lib.hid (rebuild_ok H6.out 0 (by omega))
                    clear H6
                    go_wp2_with fail
                    (with_reducible refine (HRB.out).mono ?_)
                    rintro e w20 ⟨rfl, h20⟩
                    have hfu := fullest_any h20
                    rw [cnt_zero, show maxL [(socks S).length] = (socks S).length from rfl, HSL.out] at hfu
                    have HFU := Lib.hid hfu
                    clear h20 hfu HRB
                    go_wp2_with fail
                    (with_reducible refine (HFU.out).mono ?_)
                    rintro e w21 ⟨rfl, h21⟩
                    have HAW := Lib.hid (Re.awake_any h21)
                    have HX := Lib.hid (show Ext w w21 from h21.ext (by simp))
                    have yy : ((A : Int) == (A : Int)) = true := by simp
                    clear h21 HFU
                    go_wp2_with fail
                    (with_reducible refine (HAW.out).mono ?_)
                    rintro e w22 ⟨rfl, rfl⟩
                    go_wp2_with fail
                    go_ret
                    exact ⟨rfl, HX.out⟩
theorem spread_row (size bits : Int) (v : Value) (x : Nat × (Nat → TOp)) (ws : (Lit.int .u8 size).wf = true) (wb : (Lit.int .u8 bits).wf = true) (w : World) (ho : Ops2 w v x) :
    Calls Try.prog 10 #[.int .u8 size, .int .u8 bits, v] w fun e w' => e = .returned (.bool true) ∧ Ext w w' :=
  spread_main v x.1 x.2 size bits (u8_bd ws).1 (u8_bd ws).2 (u8_bd wb).1 (u8_bd wb).2 w ho
end Go.Proofs.Ytkdmlpigkmlkmaa.Tb
