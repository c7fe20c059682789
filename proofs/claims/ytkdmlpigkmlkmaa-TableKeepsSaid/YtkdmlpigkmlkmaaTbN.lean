/- DERIVED. Layer 14 (table): the law TableBits. -/
import Derived.Test.YtkdmlpigkmlkmaaTbL
import Derived.BigQuiet
set_option linter.unusedVariables false
set_option linter.unusedSimpArgs false
set_option maxRecDepth 100000
namespace Go.Proofs.Ytkdmlpigkmlkmaa.Tb
open Go.RowKit Go.Proofs.Ytkdmlpigkmlkmaa Go.Proofs.Ytkdmlpigkmlkmaa.TreeP Go.Proofs.Ytkdmlpigkmlkmaa.Tr Go.Proofs.Ytkdmlpigkmlkmaa.Bk

/-- what Rebuild answers, and of how many bits a table is then -/
def RbR (b : Nat) (more e : Int) (b1 : Nat) : Prop := (more = (b1 : Int) ∧ b1 ≤ 10 ∧ e = 0) ∨ ((more < 0 ∨ 10 < more) ∧ e = 2 ∧ b1 = b)
theorem rebuild_any {p n bits N : Nat} {keep : Int} {S : T} {l : List HP} {w : World} (h : Own (Tbl p n bits N keep S :: l) w) (more : Int) :
    Calls Try.prog 28 #[.pointer (some ⟨p, 0, none⟩), .int .i64 more] w fun e w' => ∃ (er : Int) (b1 : Nat), e = .returned (.int .i64 er) ∧ RbR bits more er b1 ∧ Own (Tbl p n b1 N keep S :: l) w' := by
  by_cases hm : 0 ≤ more ∧ more ≤ 10
  · obtain ⟨m, rfl⟩ := Int.eq_ofNat_of_zero_le hm.1
    exact (rebuild_ok h m (by omega)).mono fun e w2 ⟨he, h2⟩ => ⟨0, m, he, .inl ⟨rfl, by omega, rfl⟩, h2⟩
  · exact (rebuild_bad h more (by omega)).mono fun e w2 ⟨he, h2⟩ => ⟨2, bits, he, .inr ⟨by omega, rfl, rfl⟩, h2⟩
theorem find_never {n N b : Nat} {sock cookie now fi : Int} {S : T} (h : TI n N S) (h1 : now < 18446744073709551616) : findT n b Never sock cookie now fi S = foundT n sock cookie fi S := by
  unfold findT
  rw [collT_never h h1]
/-- two tables, of the same flows -/
def TwI (w : World) (p1 p2 b1 b2 m : Nat) (vi : Value) (wr : World) : Prop :=
  ∃ (i : Nat) (S : T), vi = .int .i64 (i : Int) ∧ i ≤ m ∧ Own (Tbl p1 12 b1 (450 + 9 * i) Never S :: Tbl p2 12 b2 (450 + 9 * i) Never S :: [Old w]) wr
def TwJ (w : World) (p1 p2 b1 b2 N : Nat) (S : T) (vi : Value) (wr : World) : Prop :=
  ∃ i : Nat, vi = .int .i64 (i : Int) ∧ i ≤ 12 ∧ Own (Tbl p1 12 b1 N Never S :: Tbl p2 12 b2 N Never S :: [Old w]) wr
set_option maxHeartbeats 8000000 in
theorem bits_main (v v3 : Value) (nn n3 : Nat) (f f3 : Nat → TOp) (bits more : Int) (b0 : 0 ≤ bits) (b1 : bits ≤ 255) (m0 : -9223372036854775808 ≤ more) (m1 : more ≤ 9223372036854775807) (w : World) (ho : Ops w v nn f) (ho3 : Ops w v3 n3 f3) :
    Calls Try.prog 7 #[.int .u8 bits, .int .i64 more, v, v3] w fun e w' => e = .returned (.bool true) ∧ Ext w w' := by
  obtain ⟨b, hb⟩ : ∃ b : Nat, bits % 11 = (b : Int) := ⟨(bits % 11).toNat, by omega⟩
  have hb10 : b ≤ 10 := by omega
  have HPL : Hid (∀ l w', Own l w' → Old w ∈ l → Calls Try.prog 19 #[.int .i64 (b : Int), .int .u64 18446744073709551615, v] w' fun e w2 => ∃ p : Nat, e = .returned (.tuple #[.pointer (some ⟨p, 0, none⟩), .bool true]) ∧ Own (Tbl p 12 b 450 Never (playS 12 b Never f (min nn 50)) :: l) w2) := Lib.hid fun l w' h' hm => played_any (keep := Never) v nn f hb10 (by unfold Never; omega) (by unfold Never; omega) ho h' hm
  obtain ⟨S, hS⟩ : ∃ S, S = playS 12 b Never f (min nn 50) := ⟨_, rfl⟩
  rw [← hS] at HPL
  have HB10 := Lib.hid hb10
  have HH0 := Lib.hid (HPL.out _ _ (Own.start w) (.head _))
  obtain ⟨hs, a, cap, rfl, q1, q2, q3⟩ := ho3
  have Q3 := Lib.hid q3
  have HS := Lib.hid hs
  obtain ⟨m, hm⟩ : ∃ m, m = min n3 20 := ⟨_, rfl⟩
  have hmn : (m : Int) ≤ (n3 : Int) := by omega
  have hmc : (m : Int) ≤ (cap : Int) := by omega
  have hm20 : m ≤ 20 := by omega
  have hmI : (if (20 : Int) < (n3 : Int) then (20 : Int) else (n3 : Int)) = (m : Int) := by split <;> omega
  have HM := Lib.hid hm
  unfold maxLen at q2
  clear ho hS hs q3 hm hb10
  go_enter Try.func7, Try.ntmps7
  go_wp2_with fail
  rw [hb]
  (with_reducible refine (HH0.out).mono ?_)
  rintro e w1 ⟨p1, rfl, h1⟩
  have HH1 := Lib.hid (HPL.out _ _ h1 (.tail _ (.head _)))
  clear h1 HH0 HPL
  go_wp2_with fail
  try rw [hb]
  (with_reducible refine (HH1.out).mono ?_)
  rintro e w2 ⟨p2, rfl, h2⟩
  have HR := Lib.hid (rebuild_any h2.swap more)
  clear h2 HH1
  go_wp2_with fail
  (with_reducible refine (HR.out).mono ?_)
  rintro e w3 ⟨er, b1', rfl, hrb, h3⟩
  have HRB := Lib.hid hrb
  have H3 := Lib.hid h3
  clear h3 hrb HR
  go_upto_region 6 with fail
  go_cut [86] (fun s86 wx => s86 = .bool false ∧ Own (Tbl p1 12 b1' 450 Never S :: Tbl p2 12 b 450 Never S :: [Old w]) wx)
  case first =>
    have HBI := Lib.hid (own_bits H3.out)
    rcases HRB.out with ⟨rfl, hb1, rfl⟩ | ⟨hmo, rfl, hbe⟩
    · have g0 : (0 : Int) ≤ (b1' : Int) := by omega
      have g1 : (b1' : Int) ≤ 10 := by omega
      have bb : ((b1' : Int) != (b1' : Int)) = false := by simp
      clear HRB
      go_wp2_with (go_at_call 29; (with_reducible refine (HBI.out).mono ?_); rintro e w4 ⟨rfl, rfl⟩)
      go_meet
      exact ⟨rfl, H3.out⟩
    · subst hbe
      have bb : ((b1' : Int) != (b1' : Int)) = false := by simp
      clear HRB
      rcases hmo with hmo | hmo
      · have g0 : decide ((0 : Int) ≤ more) = false := by simp; omega
        go_wp2_with fail
        (with_reducible refine (HBI.out).mono ?_)
        rintro e w4 ⟨rfl, rfl⟩
        go_wp2_with fail
        go_meet
        exact ⟨rfl, H3.out⟩
      · have g0 : (0 : Int) ≤ more := by omega
        have g1 : decide (more ≤ (10 : Int)) = false := by simp; omega
        go_wp2_with fail
        (with_reducible refine (HBI.out).mono ?_)
        rintro e w4 ⟨rfl, rfl⟩
        go_wp2_with fail
        go_meet
        exact ⟨rfl, H3.out⟩
  case rest =>
    obtain ⟨rfl, h4⟩ := hcut
    have H4 := Lib.hid h4
    clear h4 H3 HRB
    go_wp2_with fail
    go_loopw [93] (fun vi wr => TwI w p1 p2 b1' b m vi wr) (fun vi _ => m - (intOf vi).toNat)
    case atStart => exact ⟨0, S, rfl, Nat.zero_le _, H4.out⟩
    case round =>
      clear H4
      obtain ⟨i, S1, rfl, hi, h⟩ := hrel
      by_cases hlt : i < m
      · have hltI : (i : Int) < (m : Int) := by omega
        have hin : i < n3 := by have := HM.out; omega
        obtain ⟨b2, off, rfl, hb2, hcell⟩ := Q3.out (by omega)
        have hx := h.ext (.tail _ (.tail _ (.head _)))
        have HOK := Lib.hid (HS.out i hin)
        obtain ⟨o, ho⟩ : ∃ o, o = f3 i := ⟨_, rfl⟩
        rw [← ho] at HOK
        have hcc : ∀ c, c < 12 → wr.cell? ⟨b2, off + i * 12 + c, none⟩ = some (oc o c) := fun c hc => by rw [ho]; exact hx.cell (hcell i c hin hc)
        have x0 : wr.cell? ⟨b2, off + i * 12, none⟩ = some (.int .u8 o.kind) := hcc 0 (by omega)
        have x1 : wr.cell? ⟨b2, off + i * 12 + 1, none⟩ = some (.int .u64 o.sock) := hcc 1 (by omega)
        have x2 : wr.cell? ⟨b2, off + i * 12 + 2, none⟩ = some (.int .u64 o.cookie) := hcc 2 (by omega)
        have x3 : wr.cell? ⟨b2, off + i * 12 + 3, none⟩ = some (.int .u64 o.now) := hcc 3 (by omega)
        have x4 : wr.cell? ⟨b2, off + i * 12 + 4, none⟩ = some (.int .i64 o.f) := hcc 4 (by omega)
        have x5 : wr.cell? ⟨b2, off + i * 12 + 5, none⟩ = some (.int .u64 o.x.s) := hcc 5 (by omega)
        have x6 : wr.cell? ⟨b2, off + i * 12 + 6, none⟩ = some (.int .u64 o.x.c) := hcc 6 (by omega)
        have x7 : wr.cell? ⟨b2, off + i * 12 + 7, none⟩ = some (.int .u64 o.x.ra) := hcc 7 (by omega)
        have x8 : wr.cell? ⟨b2, off + i * 12 + 8, none⟩ = some (.int .i64 o.x.cr) := hcc 8 (by omega)
        have x9 : wr.cell? ⟨b2, off + i * 12 + 9, none⟩ = some (.int .u64 o.x.nx) := hcc 9 (by omega)
        have x10 : wr.cell? ⟨b2, off + i * 12 + 10, none⟩ = some (.int .u64 o.x.db) := hcc 10 (by omega)
        have x11 : wr.cell? ⟨b2, off + i * 12 + 11, none⟩ = some (.int .u64 o.x.ag) := hcc 11 (by omega)
        obtain ⟨NN, hNN⟩ : ∃ NN, NN = 450 + 9 * i := ⟨_, rfl⟩
        rw [← hNN] at h
        have HNN := Lib.hid hNN
        have hNl : NN ≤ 1000 := by omega
        have h1 := Go.Proofs.Ytkdmlpigkmlkmaa.Own.blkNew h #[.int .u8 o.kind, .int .u64 o.sock, .int .u64 o.cookie, .int .u64 o.now, .int .i64 o.f, .int .u64 o.x.s, .int .u64 o.x.c, .int .u64 o.x.ra, .int .i64 o.x.cr, .int .u64 o.x.nx, .int .u64 o.x.db, .int .u64 o.x.ag] 60
        obtain ⟨bo, hbo⟩ : ∃ bo, bo = wr.heap.size := ⟨_, rfl⟩
        rw [← hbo] at h1
        obtain ⟨F, hF⟩ : ∃ F, F = foundT 12 o.sock o.cookie 300 S1 := ⟨_, rfl⟩
        obtain ⟨ff, hff⟩ : ∃ ff, ff = F.f := ⟨_, rfl⟩
        obtain ⟨kd, hkd⟩ : ∃ kd, kd = F.kind := ⟨_, rfl⟩
        obtain ⟨er2, her⟩ : ∃ er2, er2 = F.err := ⟨_, rfl⟩
        obtain ⟨S2, hS2⟩ : ∃ S2, S2 = F.S := ⟨_, rfl⟩
        obtain ⟨LA, hLA⟩ : ∃ LA, LA = BOp bo o :: Tbl p1 12 b1' NN Never S1 :: Tbl p2 12 b NN Never S1 :: [Old w] := ⟨_, rfl⟩
        obtain ⟨LB, hLB⟩ : ∃ LB, LB = BOp bo o :: Tbl p1 12 b1' (NN + 9) Never S2 :: Tbl p2 12 b NN Never S1 :: [Old w] := ⟨_, rfl⟩
        obtain ⟨LC, hLC⟩ : ∃ LC, LC = BOp bo o :: Tbl p1 12 b1' (NN + 9) Never S2 :: Tbl p2 12 b (NN + 9) Never S2 :: [Old w] := ⟨_, rfl⟩
        rw [← hLA] at h1
        have hfo : ∀ {p bb : Nat} {l : List HP} {w' : World}, Own (Tbl p 12 bb NN Never S1 :: l) w' → Calls Try.prog 13 #[.pointer (some ⟨p, 0, none⟩), .int .u64 o.sock, .int .u64 o.cookie, .int .u64 o.now, pace] w' fun e w2 => e = .returned (.tuple #[.int .i64 ff, .int .u8 kd, .int .i64 er2]) ∧ Own (Tbl p 12 bb (NN + 9) Never S2 :: l) w2 := fun {p bb l w'} h' => by
          obtain ⟨ht, -⟩ := own_ti h'
          have hfn := find_never (b := bb) (sock := o.sock) (cookie := o.cookie) (now := o.now) (fi := 300) ht HOK.out.n1
          have := own_find h' (by omega) o.sock o.cookie o.now 100 300 0 0 0 HOK.out.s0 HOK.out.s1
          rw [hfn, ← hF, ← hff, ← hkd, ← her, ← hS2] at this
          exact this
        have HF1 : Hid (∀ w', Own LA w' → Calls Try.prog 13 #[.pointer (some ⟨p1, 0, none⟩), .int .u64 o.sock, .int .u64 o.cookie, .int .u64 o.now, pace] w' fun e w2 => e = .returned (.tuple #[.int .i64 ff, .int .u8 kd, .int .i64 er2]) ∧ Own LB w2) := Lib.hid fun w' h' => by
          rw [hLA] at h'
          rw [hLB]
          exact (hfo h'.swap).mono fun e w2 ⟨he, h2⟩ => ⟨he, h2.swap⟩
        have HF2 : Hid (∀ w', Own LB w' → Calls Try.prog 13 #[.pointer (some ⟨p2, 0, none⟩), .int .u64 o.sock, .int .u64 o.cookie, .int .u64 o.now, pace] w' fun e w2 => e = .returned (.tuple #[.int .i64 ff, .int .u8 kd, .int .i64 er2]) ∧ Own LC w2) := Lib.hid fun w' h' => by
          rw [hLB] at h'
          rw [hLC]
          exact (hfo h'.third).mono fun e w2 ⟨he, h2⟩ => ⟨he, h2.back3⟩
        have hC : ∀ {L : List HP} {w' : World}, Own L w' → BOp bo o ∈ L → w'.cell? ⟨bo, 1, none⟩ = some (.int .u64 o.sock) ∧ w'.cell? ⟨bo, 2, none⟩ = some (.int .u64 o.cookie) ∧ w'.cell? ⟨bo, 3, none⟩ = some (.int .u64 o.now) := fun h' hm => ⟨(op_c h' hm).c1, (op_c h' hm).c2, (op_c h' hm).c3⟩
        have HCA : Hid (∀ w', Own LA w' → w'.cell? ⟨bo, 1, none⟩ = some (.int .u64 o.sock) ∧ w'.cell? ⟨bo, 2, none⟩ = some (.int .u64 o.cookie) ∧ w'.cell? ⟨bo, 3, none⟩ = some (.int .u64 o.now)) := Lib.hid fun w' h' => hC h' (by rw [hLA]; exact .head _)
        have HCB : Hid (∀ w', Own LB w' → w'.cell? ⟨bo, 1, none⟩ = some (.int .u64 o.sock) ∧ w'.cell? ⟨bo, 2, none⟩ = some (.int .u64 o.cookie) ∧ w'.cell? ⟨bo, 3, none⟩ = some (.int .u64 o.now)) := Lib.hid fun w' h' => hC h' (by rw [hLB]; exact .head _)
        have HCC : Hid (∀ w', Own LC w' → w'.cell? ⟨bo, 1, none⟩ = some (.int .u64 o.sock) ∧ w'.cell? ⟨bo, 2, none⟩ = some (.int .u64 o.cookie) ∧ w'.cell? ⟨bo, 3, none⟩ = some (.int .u64 o.now)) := Lib.hid fun w' h' => hC h' (by rw [hLC]; exact .head _)
        have HPA : Hid (∀ w', Own LA w' → Calls Try.prog 14 #[] w' fun e w2 => e = .returned pace ∧ Own LA w2) := Lib.hid fun w' h' => pace_own h'
        have HPB : Hid (∀ w', Own LB w' → Calls Try.prog 14 #[] w' fun e w2 => e = .returned pace ∧ Own LB w2) := Lib.hid fun w' h' => pace_own h'
        obtain ⟨rl, hrl⟩ : ∃ rl, rl = S2.R.length := ⟨_, rfl⟩
        have HL1 : Hid (∀ w', Own LC w' → Calls Try.prog 16 #[.pointer (some ⟨p1, 0, none⟩)] w' fun e w2 => e = .returned (.int .i64 (rl : Int)) ∧ w' = w2) := Lib.hid fun w' h' => by rw [hLC] at h'; rw [hrl]; exact own_len h'.swap
        have HL2 : Hid (∀ w', Own LC w' → Calls Try.prog 16 #[.pointer (some ⟨p2, 0, none⟩)] w' fun e w2 => e = .returned (.int .i64 (rl : Int)) ∧ w' = w2) := Lib.hid fun w' h' => by rw [hLC] at h'; rw [hrl]; exact own_len h'.third
        have HFIN : Hid (∀ w', Own LC w' → TwI w p1 p2 b1' b m (.int .i64 ((i : Int) + 1)) w') := Lib.hid fun w' h' => by
          rw [hLC] at h'
          exact ⟨i + 1, S2, by go_num, by omega, by rw [show 450 + 9 * (i + 1) = NN + 9 by omega]; exact h'.drop⟩
        have y1 : (ff != ff) = false := by simp
        have y2 : (kd != kd) = false := by simp
        have y3 : (er2 != er2) = false := by simp
        have y4 : ((rl : Int) != (rl : Int)) = false := by simp
        obtain ⟨W, hW⟩ : ∃ W, W = wr.alloc (.cells #[.int .u8 o.kind, .int .u64 o.sock, .int .u64 o.cookie, .int .u64 o.now, .int .i64 o.f, .int .u64 o.x.s, .int .u64 o.x.c, .int .u64 o.x.ra, .int .i64 o.x.cr, .int .u64 o.x.nx, .int .u64 o.x.db, .int .u64 o.x.ag] 60) := ⟨_, rfl⟩
        rw [← hW] at h1
        obtain ⟨d1, d2, d3⟩ := HCA.out _ h1
        have hg := h1.step (Ext.refl _).drew
        have HW := Lib.hid hW
        have HBO := Lib.hid hbo
        clear h h1 hx hcell hb2 ho hcc hNN hbo hF hff hkd her hS2 hLA hLB hLC hfo hC hrl hW
        go_upto_region 11 with fail
        rw [← HBO.out, ← HW.out]
        clear HBO HW x0 x1 x2 x3 x4 x5 x6 x7 x8 x9 x10 x11
        go_region_held3 (fun w' => w'.cell? ⟨bo, 1, none⟩ = some (.int .u64 o.sock) ∧ w'.cell? ⟨bo, 2, none⟩ = some (.int .u64 o.cookie) ∧ w'.cell? ⟨bo, 3, none⟩ = some (.int .u64 o.now))
          (first | exact ⟨(Ext.refl _).drew.cell d1, (Ext.refl _).drew.cell d2, (Ext.refl _).drew.cell d3⟩ | exact HCA.out _ (by assumption) | exact HCB.out _ (by assumption))
          (first
            | (go_at_call 14; (with_reducible refine (HPA.out _ (by assumption)).mono ?_); rintro e w8 ⟨rfl, hz⟩)
            | (go_at_call 13; (with_reducible refine (HF1.out _ (by assumption)).mono ?_); rintro e w9 ⟨rfl, h9⟩))
        obtain ⟨d1, d2, d3⟩ := HCB.out _ h9
        have hg2 := h9.step (Ext.refl _).drew
        clear hg hz
        go_upto_region 12 with fail
        go_region_held3 (fun w' => w'.cell? ⟨bo, 1, none⟩ = some (.int .u64 o.sock) ∧ w'.cell? ⟨bo, 2, none⟩ = some (.int .u64 o.cookie) ∧ w'.cell? ⟨bo, 3, none⟩ = some (.int .u64 o.now))
          (first | exact ⟨(Ext.refl _).drew.cell d1, (Ext.refl _).drew.cell d2, (Ext.refl _).drew.cell d3⟩ | exact HCB.out _ (by assumption) | exact HCC.out _ (by assumption))
          (first
            | (go_at_call 14; (with_reducible refine (HPB.out _ (by assumption)).mono ?_); rintro e w10 ⟨rfl, hz⟩)
            | (go_at_call 13; (with_reducible refine (HF2.out _ (by assumption)).mono ?_); rintro e w11 ⟨rfl, h11⟩))
        clear hg2 hz h9 d1 d2 d3
        go_wp2_with (first
          | (go_at_call 16; (with_reducible refine (HL1.out _ (by assumption)).mono ?_); rintro e w12 ⟨rfl, rfl⟩)
          | (go_at_call 16; (with_reducible refine (HL2.out _ (by assumption)).mono ?_); rintro e w12 ⟨rfl, rfl⟩))
        exact ⟨HFIN.out _ h11, by simp [intOf]; omega⟩
      · obtain rfl : i = m := by omega
        obtain ⟨NN, hNN⟩ : ∃ NN, NN = 450 + 9 * i := ⟨_, rfl⟩
        rw [← hNN] at h
        have H := Lib.hid h
        clear h hlt hi hNN
        go_wp2_with fail
        go_loopw [144] (fun vi wr => TwJ w p1 p2 b1' b NN S1 vi wr) (fun vi _ => 12 - (intOf vi).toNat)
        case atStart => exact ⟨0, rfl, by omega, H.out⟩
        case round =>
          clear H
          obtain ⟨j, rfl, hj, h⟩ := hrel
          by_cases hjt : j < 12
          · have hjI : (j : Int) < 12 := by omega
            obtain ⟨Gf, hGf⟩ : ∃ Gf, Gf = getF S1 (j : Int) := ⟨_, rfl⟩
            obtain ⟨Bf, hBf⟩ : ∃ Bf, Bf = (atF S1 (j : Int)).isSome := ⟨_, rfl⟩
            obtain ⟨qf, hqf⟩ : ∃ qf, qf = (((atF S1 (j : Int)).map (·.q)).getD false) := ⟨_, rfl⟩
            have hget : ∀ {p bb : Nat} {l : List HP} {w' : World}, Own (Tbl p 12 bb NN Never S1 :: l) w' → Calls Try.prog 20 #[.pointer (some ⟨p, 0, none⟩), .int .i64 (j : Int)] w' fun e w2 => e = .returned (.tuple #[fagg Gf, .bool Bf]) ∧ Own (Tbl p 12 bb NN Never S1 :: l) w2 := fun h' => by rw [hGf, hBf]; exact own_get h' (j : Int)
            have hres : ∀ {p bb : Nat} {l : List HP} {w' : World}, Own (Tbl p 12 bb NN Never S1 :: l) w' → Calls Try.prog 21 #[.pointer (some ⟨p, 0, none⟩), .int .i64 (j : Int)] w' fun e w2 => e = .returned (.bool qf) ∧ w' = w2 := fun h' => by rw [hqf]; exact own_rests h' (j : Int)
            have HG1 := Lib.hid (hget h)
            have HGE : Hid (∀ (p bb : Nat) (l : List HP) (w' : World), Own (Tbl p 12 bb NN Never S1 :: l) w' → Calls Try.prog 20 #[.pointer (some ⟨p, 0, none⟩), .int .i64 (j : Int)] w' fun e w2 => e = .returned (.tuple #[fagg Gf, .bool Bf]) ∧ Own (Tbl p 12 bb NN Never S1 :: l) w2) := Lib.hid fun p bb l w' h' => hget h'
            have HRE : Hid (∀ (p bb : Nat) (l : List HP) (w' : World), Own (Tbl p 12 bb NN Never S1 :: l) w' → Calls Try.prog 21 #[.pointer (some ⟨p, 0, none⟩), .int .i64 (j : Int)] w' fun e w2 => e = .returned (.bool qf) ∧ w' = w2) := Lib.hid fun p bb l w' h' => hres h'
            clear h hGf hBf hqf hget hres
            go_wp2_with fail
            (with_reducible refine (HG1.out).mono ?_)
            rintro e w5 ⟨rfl, h5⟩
            have h6 := Go.Proofs.Ytkdmlpigkmlkmaa.Own.blkNew h5 (f7 Gf) 41
            obtain ⟨b23, hb23⟩ : ∃ b, b = w5.heap.size := ⟨_, rfl⟩
            rw [← hb23] at h6
            obtain ⟨W6, hW6⟩ : ∃ W6, W6 = w5.alloc (.cells (f7 Gf) 41) := ⟨_, rfl⟩
            rw [← hW6] at h6
            have HG2 := Lib.hid (HGE.out _ _ _ _ h6.third)
            have HB23 := Lib.hid hb23
            have HW6 := Lib.hid hW6
            clear h5 h6 hb23 hW6 HG1 HGE
            go_upto_region 20 with fail
            rw [← HB23.out, ← HW6.out]
            clear HB23 HW6
            go_wp2_with fail
            (with_reducible refine (HG2.out).mono ?_)
            rintro e w7 ⟨rfl, h7⟩
            have h8 := Go.Proofs.Ytkdmlpigkmlkmaa.Own.blkNew h7 (f7 Gf) 41
            obtain ⟨b25, hb25⟩ : ∃ b, b = w7.heap.size := ⟨_, rfl⟩
            rw [← hb25] at h8
            obtain ⟨W8, hW8⟩ : ∃ W8, W8 = w7.alloc (.cells (f7 Gf) 41) := ⟨_, rfl⟩
            rw [← hW8] at h8
            replace h8 : Own (BF b25 Gf :: Tbl p2 12 b NN Never S1 :: BF b23 Gf :: Tbl p1 12 b1' NN Never S1 :: [Old w]) W8 := h8
            obtain ⟨c0, c1, c2, c3, c4, c5, c6⟩ := bf_cells (b := b25) (F := Gf) h8 (.head _)
            obtain ⟨d0, d1, d2, d3, d4, d5, d6⟩ := bf_cells (b := b23) (F := Gf) h8 (.tail _ (.tail _ (.head _)))
            have HR1 := Lib.hid (HRE.out _ _ _ _ h8.fourth)
            have HR2 := Lib.hid (HRE.out _ _ _ _ h8.swap)
            have HP : Hid (TwJ w p1 p2 b1' b NN S1 (.int .i64 ((j : Int) + 1)) W8) := Lib.hid ⟨j + 1, by go_num, by omega, h8.drop.swap.drop.swap⟩
            have HB25 := Lib.hid hb25
            have HW8 := Lib.hid hW8
            have y5 : (Bf != Bf) = false := by simp
            have y6 : (qf != qf) = false := by simp
            clear h7 h8 hb25 hW8 HG2
            go_upto_region 21 with fail
            rw [← HB25.out, ← HW8.out]
            clear HB25 HW8
            go_wp2_with (first
              | ((with_reducible refine (HR1.out).mono ?_); rintro e w12 ⟨rfl, rfl⟩)
              | ((with_reducible refine (HR2.out).mono ?_); rintro e w12 ⟨rfl, rfl⟩))
            exact ⟨HP.out, by simp [intOf]; omega⟩
          · obtain rfl : j = 12 := by omega
            have HA := Lib.hid (awake_any h)
            clear h hj hjt
            go_wp2_with fail
            (with_reducible refine (HA.out).mono ?_)
            rintro e w8 ⟨rfl, h8⟩
            have H8 := Lib.hid h8
            clear h8 HA
            go_wp2_with fail
            go_ret
            exact ⟨rfl, H8.out.ext (by simp)⟩
theorem bits_row (bits more : Int) (v v3 : Value) (x x3 : Nat × (Nat → TOp)) (wb : (Lit.int .u8 bits).wf = true) (wm : (Lit.int .i64 more).wf = true) (w : World) (ho : Ops2 w v x) (ho3 : Ops2 w v3 x3) :
    Calls Try.prog 7 #[.int .u8 bits, .int .i64 more, v, v3] w fun e w' => e = .returned (.bool true) ∧ Ext w w' :=
  bits_main v v3 x.1 x3.1 x.2 x3.2 bits more (u8_bd wb).1 (u8_bd wb).2 (i64_bd wm).1 (i64_bd wm).2 w ho ho3
end Go.Proofs.Ytkdmlpigkmlkmaa.Tb
