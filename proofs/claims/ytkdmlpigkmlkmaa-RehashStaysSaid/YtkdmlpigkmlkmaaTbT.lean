/- DERIVED. Layer 15 (rehash): the law RehashStays. -/
import Derived.Test.YtkdmlpigkmlkmaaTbS
import Derived.Test.YtkdmlpigkmlkmaaTbM
set_option linter.unusedVariables false
set_option linter.unusedSimpArgs false
set_option maxRecDepth 100000
namespace Go.Proofs.Ytkdmlpigkmlkmaa.Tb
open Go.RowKit Go.Proofs.Ytkdmlpigkmlkmaa Go.Proofs.Ytkdmlpigkmlkmaa.TreeP Go.Proofs.Ytkdmlpigkmlkmaa.Tr Go.Proofs.Ytkdmlpigkmlkmaa.Bk

theorem step_never {n N b b' : Nat} {S : T} {o : TOp} (h : TI n N S) (ho : OKo o) : stepS n b Never S o = stepS n b' Never S o := by
  unfold stepS
  split
  · rw [find_never h ho.n1, find_never h ho.n1]
  · rfl
def SyI (w : World) (p1 p2 n bb m : Nat) (vi : Value) (wr : World) : Prop :=
  ∃ (i ba : Nat) (S : T), vi = .int .i64 (i : Int) ∧ i ≤ m ∧ Own (Tbl p1 n ba (9 * i) Never S :: Tbl p2 n bb (9 * i) Never S :: [Old w]) wr
def SyJ (w : World) (p1 p2 n ba bb N : Nat) (S : T) (v : Value) (vi : Value) (wr : World) : Prop :=
  ∃ j : Nat, vi = .int .i64 (j : Int) ∧ j ≤ (allL S).length ∧ Own (RN v (allL S) :: Tbl p1 n ba N Never S :: Tbl p2 n bb N Never S :: [Old w]) wr
abbrev opA (o : TOp) : Value := .agg #[.int .u8 o.kind, .int .u64 o.sock, .int .u64 o.cookie, .int .u64 o.now, .int .i64 o.f, .int .u64 o.x.s, .int .u64 o.x.c, .int .u64 o.x.ra, .int .i64 o.x.cr, .int .u64 o.x.nx, .int .u64 o.x.db, .int .u64 o.x.ag]
set_option maxHeartbeats 8000000 in
theorem stays_main (v : Value) (nn : Nat) (f : Nat → TOp) (size a b : Int) (s0 : 0 ≤ size) (s1 : size ≤ 255) (a0 : 0 ≤ a) (a1 : a ≤ 255) (b0 : 0 ≤ b) (b1 : b ≤ 255) (w : World) (ho : Ops w v nn f) :
    Calls Try.prog 11 #[.int .u8 size, .int .u8 a, .int .u8 b, v] w fun e w' => e = .returned (.bool true) ∧ Ext w w' := by
  obtain ⟨n, hn⟩ : ∃ n : Nat, 1 + size % 200 = (n : Int) := ⟨(1 + size % 200).toNat, by omega⟩
  have n1 : 1 ≤ n := by omega
  have n200 : n ≤ 200 := by omega
  obtain ⟨ba, hba⟩ : ∃ ba : Nat, a % 11 = (ba : Int) := ⟨(a % 11).toNat, by omega⟩
  obtain ⟨bb, hbb⟩ : ∃ bb : Nat, b % 11 = (bb : Int) := ⟨(b % 11).toNat, by omega⟩
  have HNW : ∀ (x : Nat) (l : List HP) (w' : World), x ≤ 10 → Own l w' → Calls Try.prog 12 #[.int .i64 (n : Int), .int .i64 (x : Int), .int .u64 18446744073709551615] w' fun e w2 => ∃ p, e = .returned (.tuple #[.pointer (some ⟨p, 0, none⟩), .int .i64 0]) ∧ Own (Tbl p n x 0 Never (freshT n) :: l) w2 := fun x l w' hx h' => own_new n x Never n1 (by omega) hx (by unfold Never; omega) (by unfold Never; omega) h'
  have HNW1 := Lib.hid (HNW ba _ _ (by omega) (Own.start w))
  have HNW2 : Hid (∀ l w', Own l w' → Calls Try.prog 12 #[.int .i64 (n : Int), .int .i64 (bb : Int), .int .u64 18446744073709551615] w' fun e w2 => ∃ p, e = .returned (.tuple #[.pointer (some ⟨p, 0, none⟩), .int .i64 0]) ∧ Own (Tbl p n bb 0 Never (freshT n) :: l) w2) := Lib.hid fun l w' h' => HNW bb l w' (by omega) h'
  clear HNW
  obtain ⟨hs, av, cap, rfl, q1, q2, q3⟩ := ho
  have Q3 := Lib.hid q3
  have HS := Lib.hid hs
  obtain ⟨m, hm⟩ : ∃ m, m = min nn 60 := ⟨_, rfl⟩
  have hm60 : m ≤ 60 := by omega
  have HM := Lib.hid hm
  unfold maxLen at q2
  clear hs q3 hm
  go_enter Try.func11, Try.ntmps11
  go_wp2_with fail
  try rw [hn]
  try rw [hba]
  (with_reducible refine (HNW1.out).mono ?_)
  rintro e w1 ⟨p1, rfl, h1⟩
  have HH2 := Lib.hid (HNW2.out _ _ h1)
  clear h1 HNW1 HNW2
  go_wp2_with fail
  try rw [hn]
  try rw [hbb]
  (with_reducible refine (HH2.out).mono ?_)
  rintro e w2 ⟨p2, rfl, h2⟩
  have H2 := Lib.hid h2.swap
  clear h2 HH2 hn hba hbb
  go_wp2_with fail
  go_loopw [14] (fun vi wr => SyI w p1 p2 n bb m vi wr) (fun vi _ => m - (intOf vi).toNat)
  case atStart => exact ⟨0, ba, _, rfl, Nat.zero_le _, H2.out⟩
  case round =>
    clear H2
    obtain ⟨i, b1', S1, rfl, hi, h⟩ := hrel
    by_cases hlt : i < m
    · have hin : i < nn := by have := HM.out; omega
      have c1 : (i : Int) < (nn : Int) := by omega
      have c2 : (i : Int) < 60 := by omega
      have c3 : (i : Int) < (cap : Int) := by omega
      obtain ⟨b2, off, rfl, hb2, hcell⟩ := Q3.out (by omega)
      have hx := h.ext (.tail _ (.tail _ (.head _)))
      have HOK := Lib.hid (HS.out i hin)
      obtain ⟨o, ho⟩ : ∃ o, o = f i := ⟨_, rfl⟩
      rw [← ho] at HOK
      have hcc : ∀ c, c < 12 → wr.cell? ⟨b2, off + i * 12 + c, none⟩ = some (oc o c) := fun c hc => by rw [ho]; exact hx.cell (hcell i c hin hc)
      have x0 : wr.cell? ⟨b2, off + i * 12, none⟩ = some (.int .u8 o.kind) := hcc 0 (by omega)
      have x1 : wr.cell? ⟨b2, off + i * 12 + 1, none⟩ = some (.int .u64 o.sock) := hcc 1 (by omega)
      have x2 : wr.cell? ⟨b2, off + i * 12 + 2, none⟩ = some (.int .u64 o.cookie) := hcc 2 (by omega)
      have x3 : wr.cell? ⟨b2, off + i * 12 + 3, none⟩ = some (.int .u64 o.now) := hcc 3 (by omega)
      have x4 : wr.cell? ⟨b2, off + i * 12 + 4, none⟩ = some (.int .i64 o.f) := hcc 4 (by omega)
      have x5 : wr.cell? ⟨b2, off + i * 12 + 5, none⟩ = some (.int .u64 o.x.s) := hcc 5 (by omega)
      have x6 : wr.cell? ⟨b2, off + i * 12 + 6, none⟩ = some (.int .u64 o.x.c) := hcc 6 (by omega)
      have x7 : wr.cell? ⟨b2, off + i * 12 + 7, none⟩ = some (.int .u64 o.x.ra) := hcc 7 (by omega)
      have x8 : wr.cell? ⟨b2, off + i * 12 + 8, none⟩ = some (.int .i64 o.x.cr) := hcc 8 (by omega)
      have x9 : wr.cell? ⟨b2, off + i * 12 + 9, none⟩ = some (.int .u64 o.x.nx) := hcc 9 (by omega)
      have x10 : wr.cell? ⟨b2, off + i * 12 + 10, none⟩ = some (.int .u64 o.x.db) := hcc 10 (by omega)
      have x11 : wr.cell? ⟨b2, off + i * 12 + 11, none⟩ = some (.int .u64 o.x.ag) := hcc 11 (by omega)
      obtain ⟨NN, hNN⟩ : ∃ NN, NN = 9 * i := ⟨_, rfl⟩
      rw [← hNN] at h
      have HNN := Lib.hid hNN
      have hNl : NN ≤ 1000 := by omega
      have h1 := Go.Proofs.Ytkdmlpigkmlkmaa.Own.blkNew h #[.int .u8 o.kind, .int .u64 o.sock, .int .u64 o.cookie, .int .u64 o.now, .int .i64 o.f, .int .u64 o.x.s, .int .u64 o.x.c, .int .u64 o.x.ra, .int .i64 o.x.cr, .int .u64 o.x.nx, .int .u64 o.x.db, .int .u64 o.x.ag] 60
      obtain ⟨bo, hbo⟩ : ∃ bo, bo = wr.heap.size := ⟨_, rfl⟩
      rw [← hbo] at h1
      obtain ⟨d0, d1, d2, d3, d4, d5, d6, d7, d8, d9, d10, d11⟩ := (op_c h1 (.head _) : OpC _ bo o)
      obtain ⟨W, hW⟩ : ∃ W, W = wr.alloc (.cells #[.int .u8 o.kind, .int .u64 o.sock, .int .u64 o.cookie, .int .u64 o.now, .int .i64 o.f, .int .u64 o.x.s, .int .u64 o.x.c, .int .u64 o.x.ra, .int .i64 o.x.cr, .int .u64 o.x.nx, .int .u64 o.x.db, .int .u64 o.x.ag] 60) := ⟨_, rfl⟩
      rw [← hW] at h1 d0 d1 d2 d3 d4 d5 d6 d7 d8 d9 d10 d11
      have H := Lib.hid h1
      have HW := Lib.hid hW
      have HBO := Lib.hid hbo
      clear h h1 hx hcell hb2 ho hcc hNN hW hbo
      go_upto_region 10 with fail
      rw [← HBO.out, ← HW.out]
      clear HBO HW x0 x1 x2 x3 x4 x5 x6 x7 x8 x9 x10 x11
      by_cases hk6 : o.kind = 6
      · have g6 : (o.kind == 6) = true := by simp [hk6]
        clear hk6
        have HFIN : Hid (SyI w p1 p2 n bb m (.int .i64 ((i : Int) + 1)) W) := Lib.hid ⟨i + 1, b1', S1, by go_num, by omega, by
          have hN := HNN.out
          exact (tb_mono (tb_mono H.out.drop (show NN ≤ 9 * (i + 1) by omega)).swap (show NN ≤ 9 * (i + 1) by omega)).swap⟩
        go_wp2_with fail
        exact ⟨HFIN.out, by simp [intOf]; omega⟩
      · by_cases hk7 : o.kind = 7
        · have g6 : (o.kind == 6) = false := by simp [hk6]
          have g7 : (o.kind == 7) = true := by simp [hk7]
          clear hk6 hk7
          have HFIN : Hid (SyI w p1 p2 n bb m (.int .i64 ((i : Int) + 1)) W) := Lib.hid ⟨i + 1, b1', S1, by go_num, by omega, by
            have hN := HNN.out
            exact (tb_mono (tb_mono H.out.drop (show NN ≤ 9 * (i + 1) by omega)).swap (show NN ≤ 9 * (i + 1) by omega)).swap⟩
          go_wp2_with fail
          exact ⟨HFIN.out, by simp [intOf]; omega⟩
        · have g6 : (o.kind == 6) = false := by simp [hk6]
          have g7 : (o.kind == 7) = false := by simp [hk7]
          have hkp : keepD Never o = Never := by unfold keepD; rw [if_neg hk6]
          have hbt : ∀ x, bitsD x o = x := fun x => by unfold bitsD; rw [if_neg hk7]
          obtain ⟨ht1, -⟩ := own_ti H.out.drop
          obtain ⟨S2, hS2⟩ : ∃ S2, S2 = stepS n b1' Never S1 o := ⟨_, rfl⟩
          have hS2' : stepS n bb Never S1 o = S2 := by rw [hS2]; exact step_never ht1 HOK.out
          have hd1 := does_any H.out.swap (by omega) o HOK.out
          rw [hkp, hbt, ← hS2] at hd1
          have HD1 := Lib.hid hd1
          have HD2 : Hid (∀ l w', Own (Tbl p2 n bb NN Never S1 :: l) w' → Calls Try.prog 40 #[.pointer (some ⟨p2, 0, none⟩), opA o] w' fun e w2 => e = .returned (.tuple #[]) ∧ Own (Tbl p2 n bb (NN + 9) Never S2 :: l) w2) := Lib.hid fun l w' h' => by
            have := does_any h' (by omega) o HOK.out
            rw [hkp, hbt, hS2'] at this
            exact this
          clear hk6 hk7 hkp hbt ht1 hS2 hS2' hd1
          go_wp2_with fail
          (with_reducible refine (HD1.out).mono ?_)
          rintro e w3 ⟨rfl, h3⟩
          obtain ⟨d0, d1, d2, d3, d4, d5, d6, d7, d8, d9, d10, d11⟩ := (op_c h3.swap (.head _) : OpC _ bo o)
          have HD3 := Lib.hid (HD2.out _ _ h3.third)
          clear h3 HD1 HD2 H
          go_wp2_with fail
          (with_reducible refine (HD3.out).mono ?_)
          rintro e w4 ⟨rfl, h4⟩
          have HF1 := Lib.hid (fit_any h4.swap)
          clear h4 HD3 d0 d1 d2 d3 d4 d5 d6 d7 d8 d9 d10 d11
          go_wp2_with fail
          (with_reducible refine (HF1.out).mono ?_)
          rintro e w5 ⟨rfl, h5⟩
          obtain ⟨ht2, hb5⟩ := own_ti h5
          have hwa := ReP.want_again (n := S2.R.length) (b := b1') (by have := ht2.rk.len; have := ht2.n2; omega)
          obtain ⟨k1, hk1⟩ : ∃ k1, k1 = ReP.want S2.R.length b1' := ⟨_, rfl⟩
          rw [← hk1] at h5 hwa hb5 ⊢
          have hf2 := fit_any h5
          rw [hwa] at hf2
          have HF2 := Lib.hid hf2
          have HWA := Lib.hid hwa
          have HB5 := Lib.hid hb5
          have HT2 := Lib.hid ht2
          have y1 : ((k1 : Int) != (k1 : Int)) = false := by simp
          clear h5 hf2 hwa hk1 HF1 hb5 ht2
          go_wp2_with fail
          (with_reducible refine (HF2.out).mono ?_)
          rintro e w6 ⟨rfl, h6⟩
          have HBT := Lib.hid (own_bits h6)
          have HA1 := Lib.hid (own_all h6)
          clear h6 HF2
          go_wp2_with fail
          (with_reducible refine (HBT.out).mono ?_)
          rintro e w7 ⟨rfl, rfl⟩
          clear HBT
          go_wp2_with fail
          (with_reducible refine (HA1.out).mono ?_)
          rintro e w8 ⟨v1, rfl, h8⟩
          have HA2 := Lib.hid (own_all h8.third)
          clear h8 HA1
          go_wp2_with fail
          (with_reducible refine (HA2.out).mono ?_)
          rintro e w9 ⟨v2, rfl, h9⟩
          have hlen : (allL S2).length = S2.R.length := all_len HT2.out
          have hL200 : S2.R.length ≤ 200 := by have := HT2.out.rk.len; omega
          have HI := Lib.hid (ints_same h9.third (by omega))
          obtain ⟨L, hL⟩ : ∃ L, L = S2.R.length := ⟨_, rfl⟩
          have HLE := Lib.hid (hL.trans hlen.symm)
          have HL := Lib.hid hL
          rw [← hL] at hL200
          clear h9 HA2 hlen hL
          go_wp2_with fail
          (with_reducible refine (HI.out).mono ?_)
          rintro e w10 ⟨rfl, h10⟩
          have h11 : Own (Tbl p1 n k1 (NN + 9) Never S2 :: Tbl p2 n bb (NN + 9) Never S2 :: [Old w]) w10 := h10.drop.drop.third.drop.swap
          have hfl := fit_law HWA.out
          obtain ⟨pk1, pk2⟩ := Re.pw_le HB5.out
          obtain ⟨P, hP⟩ : ∃ P, P = 2 ^ k1 := ⟨_, rfl⟩
          rw [← HL.out, ← hP] at hfl
          rw [← hP] at pk1 pk2
          have hsh : wrap64 ((2 : Int) ^ k1) = (P : Int) := by
            have e : ((2 : Int) ^ k1) = (P : Int) := by rw [hP]; simp
            rw [e]
            unfold wrap64
            omega
          have HLN := own_len h11
          rw [← HL.out] at HLN
          have HLN := Lib.hid HLN
          have HFL := Lib.hid hfl
          have H11 := Lib.hid h11
          have k64 : k1 < 64 := by have := HB5.out; omega
          clear h10 h11 HI hfl hP
          go_upto_region 18 with fail
          simp only [hsh]
          clear hsh
          go_cut [137] (fun s137 wx => s137 = .bool false ∧ wx = w10)
          case first =>
            by_cases ha : 2 * P < L
            · have hk10 := HFL.out.1 ha
              have g1 : 2 * (P : Int) < (L : Int) := by omega
              have g2 : decide ((k1 : Int) < 10) = false := by simp; omega
              have g3 : decide (8 * (L : Int) < (P : Int)) = false := by simp; omega
              have g4 : (10 : Int) ≤ (k1 : Int) := by omega
              have g5 : (P : Int) ≤ 8 * (L : Int) := by omega
              clear ha hk10
              go_wp2_with (go_at_call 16; (with_reducible refine (HLN.out).mono ?_); rintro e w12 ⟨rfl, rfl⟩)
              go_meet
              exact ⟨rfl, rfl⟩
            · have g1 : decide (2 * (P : Int) < (L : Int)) = false := by simp; omega
              have g4 : (L : Int) ≤ 2 * (P : Int) := by omega
              by_cases hb : 8 * L < P
              · have hp1 := HFL.out.2 hb
                have g2 : 8 * (L : Int) < (P : Int) := by omega
                have g3 : decide ((1 : Int) < (P : Int)) = false := by simp; omega
                have g5 : (P : Int) ≤ 1 := by omega
                clear ha hb hp1
                go_wp2_with (go_at_call 16; (with_reducible refine (HLN.out).mono ?_); rintro e w12 ⟨rfl, rfl⟩)
                go_meet
                exact ⟨rfl, rfl⟩
              · have g2 : decide (8 * (L : Int) < (P : Int)) = false := by simp; omega
                have g5 : (P : Int) ≤ 8 * (L : Int) := by omega
                clear ha hb
                go_wp2_with (go_at_call 16; (with_reducible refine (HLN.out).mono ?_); rintro e w12 ⟨rfl, rfl⟩)
                go_meet
                exact ⟨rfl, rfl⟩
          case rest =>
            obtain ⟨rfl, rfl⟩ := hcut
            have HA3 := Lib.hid (own_all H11.out)
            clear HLN HFL pk1 pk2 k64
            go_wp2_with fail
            (with_reducible refine (HA3.out).mono ?_)
            rintro e w12 ⟨v3, rfl, h12⟩
            obtain ⟨a3, cap3, rfl, -⟩ := rn_cells h12 HLE.out.symm
            have H12 := Lib.hid h12
            clear h12 HA3 H11
            go_wp2_with fail
            go_loopw [141] (fun vj wr => SyJ w p1 p2 n k1 bb (NN + 9) S2 (.slice a3 L cap3) vj wr) (fun vj _ => L - (intOf vj).toNat)
            case atStart => exact ⟨0, rfl, Nat.zero_le _, H12.out⟩
            case round =>
              clear H12
              obtain ⟨j, rfl, hj, h⟩ := hrel
              rw [← HLE.out] at hj
              by_cases hjt : j < L
              · have hjI : (j : Int) < (L : Int) := by omega
                obtain ⟨k, hk⟩ : ∃ k, (allL S2)[j]? = some k := ⟨_, List.getElem?_eq_getElem (by rw [← HLE.out]; exact hjt)⟩
                obtain ⟨r, hr⟩ : ∃ r, rowAt S2.rows k = some r := Option.isSome_iff_exists.1 (mem_all.1 (List.mem_of_getElem? hk))
                obtain ⟨a4, c4, e4, f4⟩ := rn_cells h HLE.out.symm
                obtain ⟨g4, rfl, ff4⟩ := f4 (by omega)
                injection e4 with e5 _ e6
                subst e5 e6
                have p0 := ff4 j k hk
                have HR0 := Lib.hid hr
                obtain ⟨F, hFF⟩ : ∃ F, F = r.f := ⟨_, rfl⟩
                obtain ⟨q, hq⟩ : ∃ q, q = r.q := ⟨_, rfl⟩
                have HG : Hid (∀ {p bb : Nat} {l : List HP} {w' : World}, Own (Tbl p n bb (NN + 9) Never S2 :: l) w' → Calls Try.prog 20 #[.pointer (some ⟨p, 0, none⟩), .int .i64 (k : Int)] w' fun e w2 => e = .returned (.tuple #[fagg F, .bool true]) ∧ Own (Tbl p n bb (NN + 9) Never S2 :: l) w2) := Lib.hid fun h' => by rw [hFF]; exact get_row h' hr
                have HQ : Hid (∀ {p bb : Nat} {l : List HP} {w' : World}, Own (Tbl p n bb (NN + 9) Never S2 :: l) w' → Calls Try.prog 21 #[.pointer (some ⟨p, 0, none⟩), .int .i64 (k : Int)] w' fun e w2 => e = .returned (.bool q) ∧ w' = w2) := Lib.hid fun h' => by rw [hq]; exact rests_row h' hr
                have HG1 := Lib.hid (HG.out h.swap)
                clear h f4 ff4 hk hr hFF hq HR0
                go_wp2_with fail
                (with_reducible refine (HG1.out).mono ?_)
                rintro e w13 ⟨rfl, h13⟩
                have h14 := Go.Proofs.Ytkdmlpigkmlkmaa.Own.blkNew h13 (f7 F) 41
                obtain ⟨b23, hb23⟩ : ∃ b, b = w13.heap.size := ⟨_, rfl⟩
                rw [← hb23] at h14
                obtain ⟨W6, hW6⟩ : ∃ W6, W6 = w13.alloc (.cells (f7 F) 41) := ⟨_, rfl⟩
                rw [← hW6] at h14
                have HG2 := Lib.hid (HG.out h14.fourth)
                have HB23 := Lib.hid hb23
                have HW6 := Lib.hid hW6
                clear h13 h14 hb23 hW6 HG1 HG p0
                go_upto_region 24 with fail
                rw [← HB23.out, ← HW6.out]
                clear HB23 HW6
                go_wp2_with fail
                (with_reducible refine (HG2.out).mono ?_)
                rintro e w14 ⟨rfl, h15⟩
                have h8 := Go.Proofs.Ytkdmlpigkmlkmaa.Own.blkNew h15 (f7 F) 41
                obtain ⟨b25, hb25⟩ : ∃ b, b = w14.heap.size := ⟨_, rfl⟩
                rw [← hb25] at h8
                obtain ⟨W8, hW8⟩ : ∃ W8, W8 = w14.alloc (.cells (f7 F) 41) := ⟨_, rfl⟩
                rw [← hW8] at h8
                replace h8 : Own (BF b25 F :: Tbl p2 n bb (NN + 9) Never S2 :: BF b23 F :: Tbl p1 n k1 (NN + 9) Never S2 :: RN (.slice (some ⟨g4, 0, none⟩) L cap3) (allL S2) :: [Old w]) W8 := h8
                obtain ⟨c0, c1, c2, c3, c4, c5, c6⟩ := bf_cells (b := b25) (F := F) h8 (.head _)
                obtain ⟨d0, d1, d2, d3, d4, d5, d6⟩ := bf_cells (b := b23) (F := F) h8 (.tail _ (.tail _ (.head _)))
                have HR1 := Lib.hid (HQ.out h8.fourth)
                have HR2 := Lib.hid (HQ.out h8.swap)
                have HP : Hid (SyJ w p1 p2 n k1 bb (NN + 9) S2 (.slice (some ⟨g4, 0, none⟩) L cap3) (.int .i64 ((j : Int) + 1)) W8) := Lib.hid ⟨j + 1, by go_num, by rw [← HLE.out]; omega, h8.drop.swap.drop.swap.third⟩
                have HB25 := Lib.hid hb25
                have HW8 := Lib.hid hW8
                have y6 : (q != q) = false := by simp
                clear h15 h8 hb25 hW8 HG2 HQ
                go_upto_region 25 with fail
                rw [← HB25.out, ← HW8.out]
                clear HB25 HW8
                go_wp2_with (first
                  | ((with_reducible refine (HR1.out).mono ?_); rintro e w15 ⟨rfl, rfl⟩)
                  | ((with_reducible refine (HR2.out).mono ?_); rintro e w15 ⟨rfl, rfl⟩))
                exact ⟨HP.out, by simp [intOf]; omega⟩
              · obtain rfl : j = L := by omega
                have HFIN : Hid (SyI w p1 p2 n bb m (.int .i64 ((i : Int) + 1)) wr) := Lib.hid ⟨i + 1, k1, S2, by go_num, by omega, by
                  have hN := HNN.out
                  rw [show 9 * (i + 1) = NN + 9 by omega]
                  exact h.drop⟩
                clear h hj hjt
                go_wp2_with fail
                exact ⟨HFIN.out, by simp [intOf]; omega⟩
    · have HA := Lib.hid (Re.awake_any h)
      have HX := Lib.hid (h.ext (.tail _ (.tail _ (.head _))))
      obtain rfl : i = m := by omega
      clear h hi hlt
      by_cases c1 : (i : Int) < (nn : Int)
      · have c2 : decide ((i : Int) < 60) = false := by have := HM.out; simp; omega
        go_wp2_with fail
        (with_reducible refine (HA.out).mono ?_)
        rintro e w3 ⟨rfl, rfl⟩
        go_wp2_with fail
        go_ret
        exact ⟨rfl, HX.out⟩
      · have c2 : decide ((i : Int) < (nn : Int)) = false := by simp; omega
        go_wp2_with fail
        (with_reducible refine (HA.out).mono ?_)
        rintro e w3 ⟨rfl, rfl⟩
        go_wp2_with fail
        go_ret
        exact ⟨rfl, HX.out⟩
theorem stays_row (size a b : Int) (v : Value) (x : Nat × (Nat → TOp)) (ws : (Lit.int .u8 size).wf = true) (wa : (Lit.int .u8 a).wf = true) (wb : (Lit.int .u8 b).wf = true) (w : World) (ho : Ops2 w v x) :
    Calls Try.prog 11 #[.int .u8 size, .int .u8 a, .int .u8 b, v] w fun e w' => e = .returned (.bool true) ∧ Ext w w' :=
  stays_main v x.1 x.2 size a b (u8_bd ws).1 (u8_bd ws).2 (u8_bd wa).1 (u8_bd wa).2 (u8_bd wb).1 (u8_bd wb).2 w ho
end Go.Proofs.Ytkdmlpigkmlkmaa.Tb
