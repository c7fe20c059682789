/- DERIVED. Layer 14 (table): what Find answers, plainly; the law TableFinds. -/
import Derived.Test.YtkdmlpigkmlkmaaTbL
import Derived.BigQuiet
set_option linter.unusedVariables false
set_option linter.unusedSimpArgs false
set_option maxRecDepth 100000
namespace Go.Proofs.Ytkdmlpigkmlkmaa.Tb
open Go.RowKit Go.Proofs.Ytkdmlpigkmlkmaa Go.Proofs.Ytkdmlpigkmlkmaa.TreeP Go.Proofs.Ytkdmlpigkmlkmaa.Tr Go.Proofs.Ytkdmlpigkmlkmaa.Bk

section
variable {n N b k : Nat} {keep sock cookie now fi : Int} {S : T} {r : RW}
theorem found_there (h : TI n N S) (hr : rowAt S.rows k = some r) (hs : r.f.s = sock) :
    foundT n sock cookie fi S = if r.f.c = cookie then ⟨S, (k : Int), 0, 0⟩ else ⟨setT S k ⟨{ bornF sock cookie fi with ag := r.f.ag }, r.h, r.q⟩, (k : Int), 2, 0⟩ := by
  have hl := h.look_row hr
  rw [hs] at hl
  unfold foundT
  rw [hl]
  simp only [Int.toNat_natCast]
  rw [hr]
theorem found_new (hl : Tr.look S.R (sock, 0) = none) : foundT n sock cookie fi S = if S.X.used = n then ⟨S, 0, 0, 140⟩ else ⟨newT S (bornF sock cookie fi), ((Ar.tq S.X : Nat) : Int), 1, 0⟩ := by
  unfold foundT
  rw [hl]
theorem row_set_at (h : TI n N S) (hr : rowAt S.rows k = some r) (x : RW) : rowAt (setT S k x).rows k = some x := by
  unfold setT
  rw [rowAt_set (rowAt_lt hr), if_pos rfl]
theorem row_new_at (h : TI n N S) (hu : S.X.used < n) (f : FD) : ∃ hd, rowAt (newT S f).rows (Ar.tq S.X) = some ⟨f, hd, false⟩ := by
  refine ⟨Ar.hdl (Ar.tk S.X) (Ar.tq S.X), ?_⟩
  unfold newT
  rw [rowAt_set (by rw [h.len]; exact (new_at h hu).1), if_pos rfl]
/-- a socket's flow: who it is behind Find -/
theorem find_cases (h : TI n N S) :
    (findT n b keep sock cookie now fi S = ⟨collT b keep now sock S, 0, 0, 140⟩ ∧ (collT b keep now sock S).X.used = n ∧ Tr.look (collT b keep now sock S).R (sock, 0) = none) ∨
    ∃ S1 k r kd, findT n b keep sock cookie now fi S = ⟨S1, (k : Nat), kd, 0⟩ ∧ rowAt S1.rows k = some r ∧ r.f.s = sock ∧ r.f.c = cookie ∧ (kd = 0 ∨ kd = 1 ∨ kd = 2) ∧ (kd = 1 → r.q = false ∧ r.f = bornF sock cookie fi) := by
  have hc := collT_ok (bits := b) (keep := keep) (now := now) (sock := sock) h
  unfold findT
  obtain ⟨C, hC⟩ : ∃ C, C = collT b keep now sock S := ⟨_, rfl⟩
  rw [← hC] at hc ⊢
  cases hl : Tr.look C.R (sock, 0) with
  | some v =>
    obtain ⟨k, r, hr, rfl, hs⟩ := (hc.look sock v).1 hl
    right
    rw [found_there hc hr hs]
    by_cases e : r.f.c = cookie
    · rw [if_pos e]
      exact ⟨C, k, r, 0, rfl, hr, hs, e, .inl rfl, fun h => by simp at h⟩
    · rw [if_neg e]
      exact ⟨_, k, _, 2, rfl, row_set_at hc hr _, rfl, rfl, .inr (.inr rfl), fun h => by simp at h⟩
  | none =>
    rw [found_new hl]
    by_cases hu : C.X.used = n
    · rw [if_pos hu]
      exact .inl ⟨rfl, hu, rfl⟩
    · rw [if_neg hu]
      obtain ⟨hd, hh⟩ := row_new_at hc (by have := hc.ok.used_le; have := hc.room; omega) (bornF sock cookie fi)
      exact .inr ⟨_, _, _, 1, rfl, hh, rfl, rfl, .inr (.inl rfl), fun _ => ⟨rfl, rfl⟩⟩
theorem find_same (h : TI n N S) (hr : rowAt S.rows k = some r) (hs : r.f.s = sock) (hc : r.f.c = cookie) : ∃ S2, findT n b keep sock cookie now fi S = ⟨S2, (k : Int), 0, 0⟩ ∧ rowAt S2.rows k = some r := by
  have hcc := collT_ok (bits := b) (keep := keep) (now := now) (sock := sock) h
  have hrow := collT_own (bits := b) (keep := keep) (now := now) h hr hs
  unfold findT
  rw [found_there hcc hrow hs, if_pos hc]
  exact ⟨_, rfl, hrow⟩
theorem find_other (h : TI n N S) (hr : rowAt S.rows k = some r) (hs : r.f.s = sock) (hc : r.f.c ≠ cookie) : ∃ S2, findT n b keep sock cookie now fi S = ⟨S2, (k : Int), 2, 0⟩ ∧ rowAt S2.rows k = some ⟨{ bornF sock cookie fi with ag := r.f.ag }, r.h, r.q⟩ := by
  have hcc := collT_ok (bits := b) (keep := keep) (now := now) (sock := sock) h
  have hrow := collT_own (bits := b) (keep := keep) (now := now) h hr hs
  unfold findT
  rw [found_there hcc hrow hs, if_neg hc]
  exact ⟨_, rfl, row_set_at hcc hrow _⟩
end
section
variable {p n bits N k : Nat} {keep : Int} {S : T} {l : List HP} {w : World} {r : RW}
theorem get_row (h : Own (Tbl p n bits N keep S :: l) w) (hr : rowAt S.rows k = some r) :
    Calls Try.prog 20 #[.pointer (some ⟨p, 0, none⟩), .int .i64 (k : Int)] w fun e w' => e = .returned (.tuple #[fagg r.f, .bool true]) ∧ Own (Tbl p n bits N keep S :: l) w' := by
  have := own_get h (k : Int)
  unfold getF at this
  rw [atF_nat, hr] at this
  exact this
theorem rests_row (h : Own (Tbl p n bits N keep S :: l) w) (hr : rowAt S.rows k = some r) :
    Calls Try.prog 21 #[.pointer (some ⟨p, 0, none⟩), .int .i64 (k : Int)] w fun e w' => e = .returned (.bool r.q) ∧ w = w' := by
  have := own_rests h (k : Int)
  rw [atF_nat, hr] at this
  exact this
end
/-- a flow written into a block of its own -/
theorem bf_wr {b : Nat} {F : FD} {l : List HP} {w : World} (h : Own (BF b F :: l) w) (G : FD) :
    ∃ v1 v2 v3 v4 v5 v6 v7, Wr w ⟨b, 0, none⟩ (.int .u64 G.s) v1 ∧ Wr v1 ⟨b, 1, none⟩ (.int .u64 G.c) v2 ∧ Wr v2 ⟨b, 2, none⟩ (.int .u64 G.ra) v3 ∧ Wr v3 ⟨b, 3, none⟩ (.int .i64 G.cr) v4 ∧ Wr v4 ⟨b, 4, none⟩ (.int .u64 G.nx) v5 ∧ Wr v5 ⟨b, 5, none⟩ (.int .u64 G.db) v6 ∧ Wr v6 ⟨b, 6, none⟩ (.int .u64 G.ag) v7 ∧ Own (BF b G :: l) v7 := by
  have one : ∀ {cs : Array Value} {w : World} (h : Own (Go.Proofs.Ytkdmlpigkmlkmaa.Blk b cs 41 :: l) w) (o : Nat) (ho : o < cs.size) (u : Value), Wr w ⟨b, o, none⟩ u (w.setCell ⟨b, o, none⟩ u) ∧ Own (Go.Proofs.Ytkdmlpigkmlkmaa.Blk b (cs.setIfInBounds o u) 41 :: l) (w.setCell ⟨b, o, none⟩ u) := fun {cs w} h o ho u => by
    have hb := Go.Proofs.Ytkdmlpigkmlkmaa.Own.blk h (.head _)
    exact ⟨⟨rfl, ⟨cs[o], by simp [World.cell?, hb, ho]⟩, by simp [World.frozen?, hb]⟩, Go.Proofs.Ytkdmlpigkmlkmaa.Own.blkSet (o := o) h u⟩
  obtain ⟨q1, h1⟩ := one h 0 (by simp) (.int .u64 G.s)
  replace h1 : Own (Go.Proofs.Ytkdmlpigkmlkmaa.Blk b #[.int .u64 G.s, .int .u64 F.c, .int .u64 F.ra, .int .i64 F.cr, .int .u64 F.nx, .int .u64 F.db, .int .u64 F.ag] 41 :: l) _ := h1
  obtain ⟨q2, h2⟩ := one h1 1 (by simp) (.int .u64 G.c)
  replace h2 : Own (Go.Proofs.Ytkdmlpigkmlkmaa.Blk b #[.int .u64 G.s, .int .u64 G.c, .int .u64 F.ra, .int .i64 F.cr, .int .u64 F.nx, .int .u64 F.db, .int .u64 F.ag] 41 :: l) _ := h2
  obtain ⟨q3, h3⟩ := one h2 2 (by simp) (.int .u64 G.ra)
  replace h3 : Own (Go.Proofs.Ytkdmlpigkmlkmaa.Blk b #[.int .u64 G.s, .int .u64 G.c, .int .u64 G.ra, .int .i64 F.cr, .int .u64 F.nx, .int .u64 F.db, .int .u64 F.ag] 41 :: l) _ := h3
  obtain ⟨q4, h4⟩ := one h3 3 (by simp) (.int .i64 G.cr)
  replace h4 : Own (Go.Proofs.Ytkdmlpigkmlkmaa.Blk b #[.int .u64 G.s, .int .u64 G.c, .int .u64 G.ra, .int .i64 G.cr, .int .u64 F.nx, .int .u64 F.db, .int .u64 F.ag] 41 :: l) _ := h4
  obtain ⟨q5, h5⟩ := one h4 4 (by simp) (.int .u64 G.nx)
  replace h5 : Own (Go.Proofs.Ytkdmlpigkmlkmaa.Blk b #[.int .u64 G.s, .int .u64 G.c, .int .u64 G.ra, .int .i64 G.cr, .int .u64 G.nx, .int .u64 F.db, .int .u64 F.ag] 41 :: l) _ := h5
  obtain ⟨q6, h6⟩ := one h5 5 (by simp) (.int .u64 G.db)
  replace h6 : Own (Go.Proofs.Ytkdmlpigkmlkmaa.Blk b #[.int .u64 G.s, .int .u64 G.c, .int .u64 G.ra, .int .i64 G.cr, .int .u64 G.nx, .int .u64 G.db, .int .u64 F.ag] 41 :: l) _ := h6
  obtain ⟨q7, h7⟩ := one h6 6 (by simp) (.int .u64 G.ag)
  replace h7 : Own (Go.Proofs.Ytkdmlpigkmlkmaa.Blk b #[.int .u64 G.s, .int .u64 G.c, .int .u64 G.ra, .int .i64 G.cr, .int .u64 G.nx, .int .u64 G.db, .int .u64 G.ag] 41 :: l) _ := h7
  exact ⟨_, _, _, _, _, _, _, q1, q2, q3, q4, q5, q6, q7, h7⟩
set_option maxHeartbeats 8000000 in
theorem finds_main (v : Value) (nn : Nat) (f : Nat → TOp) (bits keep sock cookie other now : Int) (b0 : 0 ≤ bits) (b1 : bits ≤ 255) (k0 : 0 ≤ keep) (k1 : keep ≤ 18446744073709551615) (s0 : 0 ≤ sock) (s1 : sock < 18446744073709551616) (w : World) (ho : Ops w v nn f) :
    Calls Try.prog 4 #[.int .u8 bits, .int .u64 keep, v, .int .u64 sock, .int .u64 cookie, .int .u64 other, .int .u64 now] w fun e w' => e = .returned (.bool true) ∧ Ext w w' := by
  obtain ⟨b, hb⟩ : ∃ b : Nat, bits % 11 = (b : Int) := ⟨(bits % 11).toNat, by omega⟩
  have hb10 : b ≤ 10 := by omega
  have HPL := Lib.hid (played_any (b := b) (keep := keep) v nn f hb10 k0 k1 ho (Own.start w) (.head _))
  have S0 := Lib.hid s0
  have S1 := Lib.hid s1
  obtain ⟨S, hS⟩ : ∃ S, S = playS 12 b keep f (min nn 50) := ⟨_, rfl⟩
  rw [← hS] at HPL
  clear ho hS k0 k1 s0 s1
  go_enter Try.func4, Try.ntmps4
  go_wp2_with fail
  try rw [hb]
  (with_reducible refine (HPL.out).mono ?_)
  rintro e w1 ⟨p, rfl, h1⟩
  obtain ⟨ht1, -⟩ := own_ti h1
  have HP1 := Lib.hid (pace_own h1)
  clear h1 HPL hb b0 b1
  go_wp2_with fail
  (with_reducible refine (HP1.out).mono ?_)
  rintro e w2 ⟨rfl, h2⟩
  rcases find_cases (b := b) (keep := keep) (sock := sock) (cookie := cookie) (now := now) (fi := 300) ht1 with ⟨hF, -, -⟩ | ⟨S2, k, r, kd, hF, hr, hs, hc, hkd, hk1⟩
  · have HF := Lib.hid (own_find' (M := 459) h2 (by omega) S0.out S1.out hF rfl)
    clear h2 hF ht1 HP1
    go_wp2_with fail
    (with_reducible refine (HF.out).mono ?_)
    rintro e w3 ⟨rfl, h3⟩
    have HA := Lib.hid (awake_any h3.drop)
    clear h3 HF
    go_wp2_with fail
    (with_reducible refine (HA.out).mono ?_)
    rintro e w4 ⟨rfl, h4⟩
    have H4 := Lib.hid h4
    clear h4 HA
    go_wp2_with fail
    go_ret
    exact ⟨rfl, H4.out.ext (.head _)⟩
  · have ht2 : TI 12 459 S2 := by
      have := find_ok (bits := b) (keep := keep) (now := now) (cookie := cookie) (fi := 300) ht1 S0.out S1.out
      rw [hF] at this
      exact this
    have HF := Lib.hid (own_find' (M := 459) h2 (by omega) S0.out S1.out hF rfl)
    have HR := Lib.hid hr
    have HS := Lib.hid hs
    have HC := Lib.hid hc
    have HT2 := Lib.hid ht2
    have HK1 := Lib.hid hk1
    obtain ⟨F, hFF⟩ : ∃ F, F = r.f := ⟨_, rfl⟩
    obtain ⟨q, hq⟩ : ∃ q, q = r.q := ⟨_, rfl⟩
    have HFF := Lib.hid hFF
    have HQ := Lib.hid hq
    clear h2 hF ht1 HP1 hr hs hc ht2 hk1 hFF hq
    go_wp2_with fail
    (with_reducible refine (HF.out).mono ?_)
    rintro e w3 ⟨rfl, h3⟩
    have HG := Lib.hid (get_row h3 HR.out)
    rw [← HFF.out] at HG
    clear h3 HF
    go_wp2_with fail
    (with_reducible refine (HG.out).mono ?_)
    rintro e w4 ⟨rfl, h4⟩
    have h5 := Go.Proofs.Ytkdmlpigkmlkmaa.Own.blkNew h4 (f7 F) 41
    obtain ⟨b20, hb20⟩ : ∃ b, b = w4.heap.size := ⟨_, rfl⟩
    rw [← hb20] at h5
    obtain ⟨W5, hW5⟩ : ∃ W5, W5 = w4.alloc (.cells (f7 F) 41) := ⟨_, rfl⟩
    rw [← hW5] at h5
    obtain ⟨c0, c1, c2, c3, c4, c5, c6⟩ := bf_cells (b := b20) (F := F) h5 (.head _)
    have HRS := Lib.hid (rests_row h5.swap HR.out)
    rw [← HQ.out] at HRS
    have H5 := Lib.hid h5
    have HB20 := Lib.hid hb20
    have HW5 := Lib.hid hW5
    clear h4 h5 hb20 hW5 HG
    go_upto_region 8 with fail
    rw [← HB20.out, ← HW5.out]
    clear HB20 HW5
    go_wp2_with fail
    (with_reducible refine (HRS.out).mono ?_)
    rintro e w6 ⟨rfl, rfl⟩
    clear HRS
    go_upto_region 9 with fail
    go_cut [79] (fun s79 wx => s79 = .bool false ∧ Own (BF b20 F :: Tbl p 12 b 459 keep S2 :: [Old w]) wx)
    case first =>
      by_cases hkk : kd = 1
      · subst hkk
        obtain ⟨q1, q2⟩ := HK1.out rfl
        rw [← HQ.out] at q1
        rw [← HFF.out] at q2
        subst q1 q2
        have HCC : Hid (∀ w', Own (BF b20 (bornF sock cookie 300) :: Tbl p 12 b 459 keep S2 :: [Old w]) w' → w'.cell? ⟨b20, 0, none⟩ = some (.int .u64 sock) ∧ w'.cell? ⟨b20, 1, none⟩ = some (.int .u64 cookie) ∧ w'.cell? ⟨b20, 2, none⟩ = some (.int .u64 0) ∧ w'.cell? ⟨b20, 3, none⟩ = some (.int .i64 300) ∧ w'.cell? ⟨b20, 4, none⟩ = some (.int .u64 0) ∧ w'.cell? ⟨b20, 5, none⟩ = some (.int .u64 0) ∧ w'.cell? ⟨b20, 6, none⟩ = some (.int .u64 0)) := Lib.hid fun w' h' => bf_cells (b := b20) (F := bornF sock cookie 300) h' (.head _)
        obtain ⟨LL, hLL⟩ : ∃ LL, LL = BF b20 (bornF sock cookie 300) :: Tbl p 12 b 459 keep S2 :: [Old w] := ⟨_, rfl⟩
        rw [← hLL] at HCC
        have hg : Own LL W5.drew := by rw [hLL]; exact H5.out.step (Ext.refl _).drew
        have HPP : Hid (∀ w', Own LL w' → Calls Try.prog 14 #[] w' fun e w2 => e = .returned pace ∧ Own LL w2) := Lib.hid fun w' h' => pace_own h'
        have HBN : Hid (∀ w', Own LL w' → Calls Try.prog 22 #[.int .u64 sock, .int .u64 cookie, pace] w' fun e w2 => e = .returned (.agg #[.int .u64 sock, .int .u64 cookie, .int .u64 0, .int .i64 300, .int .u64 0, .int .u64 0, .int .u64 0]) ∧ Own LL w2) := Lib.hid fun w' h' => (born_any sock cookie 100 300 0 0 0 w').mono fun e w2 ⟨he, hx⟩ => ⟨he, h'.step hx⟩
        obtain ⟨c0, c1, c2, c3, c4, c5, c6⟩ := HCC.out _ (by rw [hLL]; exact H5.out)
        have HLL := Lib.hid hLL
        clear hLL
        go_region_held3 (fun w' => w'.cell? ⟨b20, 0, none⟩ = some (.int .u64 sock) ∧ w'.cell? ⟨b20, 1, none⟩ = some (.int .u64 cookie) ∧ w'.cell? ⟨b20, 2, none⟩ = some (.int .u64 0) ∧ w'.cell? ⟨b20, 3, none⟩ = some (.int .i64 300) ∧ w'.cell? ⟨b20, 4, none⟩ = some (.int .u64 0) ∧ w'.cell? ⟨b20, 5, none⟩ = some (.int .u64 0) ∧ w'.cell? ⟨b20, 6, none⟩ = some (.int .u64 0))
          (first | exact ⟨(Ext.refl _).drew.cell c0, (Ext.refl _).drew.cell c1, (Ext.refl _).drew.cell c2, (Ext.refl _).drew.cell c3, (Ext.refl _).drew.cell c4, (Ext.refl _).drew.cell c5, (Ext.refl _).drew.cell c6⟩ | exact HCC.out _ (by assumption))
          (first
            | (go_at_call 14; (with_reducible refine (HPP.out _ (by assumption)).mono ?_); rintro e w8 ⟨rfl, hz⟩)
            | (go_at_call 22; (with_reducible refine (HBN.out _ (by assumption)).mono ?_); rintro e w9 ⟨rfl, hz⟩))
        all_goals (go_wp2_with fail; go_meet; exact ⟨rfl, by rw [← HLL.out]; assumption⟩)
      · have hkf : (kd == 1) = false := by simp [hkk]
        have HH : Hid (∀ m, Own (BF b20 F :: Tbl p 12 b 459 keep S2 :: [Old w]) (W5.drewN m)) := Lib.hid fun m => H5.out.step ((Ext.refl _).drewN m)
        clear hkk
        go_quiet (fail)
        go_wp2_with fail
        go_meet
        exact ⟨rfl, HH.out _⟩
    case rest =>
      obtain ⟨rfl, h6⟩ := hcut
      have HP2 := Lib.hid (pace_own h6)
      clear h6 HK1 c0 c1 c2 c3 c4 c5 c6 H5
      go_wp2_with fail
      (with_reducible refine (HP2.out).mono ?_)
      rintro e w7 ⟨rfl, h7⟩
      obtain ⟨S3, hF3, hr3⟩ := find_same (b := b) (keep := keep) (now := now) (fi := 300) HT2.out HR.out HS.out HC.out
      have ht3 : TI 12 468 S3 := by
        have := find_ok (bits := b) (keep := keep) (now := now) (cookie := cookie) (fi := 300) HT2.out S0.out S1.out
        rw [hF3] at this
        exact this
      have HF3 := Lib.hid (own_find' (M := 468) h7.swap (by omega) S0.out S1.out hF3 rfl)
      have HR3 := Lib.hid hr3
      have HT3 := Lib.hid ht3
      clear h7 HP2 hF3 hr3 ht3
      go_wp2_with fail
      (with_reducible refine (HF3.out).mono ?_)
      rintro e w8 ⟨rfl, h8⟩
      have HG3 := Lib.hid (get_row h8 HR3.out)
      rw [← HFF.out] at HG3
      clear h8 HF3
      go_wp2_with fail
      (with_reducible refine (HG3.out).mono ?_)
      rintro e w9 ⟨rfl, h9⟩
      have h10 := Go.Proofs.Ytkdmlpigkmlkmaa.Own.blkNew h9 (f7 F) 41
      obtain ⟨b26, hb26⟩ : ∃ b, b = w9.heap.size := ⟨_, rfl⟩
      rw [← hb26] at h10
      obtain ⟨W10, hW10⟩ : ∃ W10, W10 = w9.alloc (.cells (f7 F) 41) := ⟨_, rfl⟩
      rw [← hW10] at h10
      obtain ⟨c0, c1, c2, c3, c4, c5, c6⟩ := bf_cells (b := b20) (F := F) h10 (.tail _ (.tail _ (.head _)))
      obtain ⟨d0, d1, d2, d3, d4, d5, d6⟩ := bf_cells (b := b26) (F := F) h10 (.head _)
      have HRS3 := Lib.hid (rests_row h10.swap HR3.out)
      rw [← HQ.out] at HRS3
      have H10 := Lib.hid h10
      have HB26 := Lib.hid hb26
      have HW10 := Lib.hid hW10
      have kk : ((k : Int) != (k : Int)) = false := by simp
      have qq : (q != q) = false := by simp
      clear h9 h10 hb26 hW10 HG3
      go_upto_region 13 with fail
      rw [← HB26.out, ← HW10.out]
      clear HB26 HW10
      go_wp2_with fail
      (with_reducible refine (HRS3.out).mono ?_)
      rintro e w11 ⟨rfl, rfl⟩
      clear HRS3 d0 d1 d2 d3 d4 d5 d6
      have HP3 := Lib.hid (pace_own H10.out)
      go_wp2_with fail
      (with_reducible refine (HP3.out).mono ?_)
      rintro e w12 ⟨rfl, h12⟩
      clear HP3 H10 c0 c1 c2 c3 c4 c5 c6
      by_cases hoc : other = cookie
      · subst hoc
        obtain ⟨S4, hF4, hr4⟩ := find_same (b := b) (keep := keep) (now := now) (fi := 300) HT3.out HR3.out HS.out HC.out
        have HF4 := Lib.hid (own_find' (M := 477) h12.swap (by omega) S0.out S1.out hF4 rfl)
        have HR4 := Lib.hid hr4
        have oo : (other != other) = false := by simp
        clear h12 hF4 hr4
        go_wp2_with fail
        (with_reducible refine (HF4.out).mono ?_)
        rintro e w13 ⟨rfl, h13⟩
        have HG4 := Lib.hid (get_row h13 HR4.out)
        rw [← HFF.out] at HG4
        clear h13 HF4
        go_wp2_with fail
        (with_reducible refine (HG4.out).mono ?_)
        rintro e w14 ⟨rfl, h14⟩
        have h15 := Go.Proofs.Ytkdmlpigkmlkmaa.Own.blkNew h14 (f7 F) 41
        obtain ⟨b31, hb31⟩ : ∃ b, b = w14.heap.size := ⟨_, rfl⟩
        rw [← hb31] at h15
        obtain ⟨W15, hW15⟩ : ∃ W15, W15 = w14.alloc (.cells (f7 F) 41) := ⟨_, rfl⟩
        rw [← hW15] at h15
        obtain ⟨c0, c1, c2, c3, c4, c5, c6⟩ := bf_cells (b := b20) (F := F) h15 (.tail _ (.tail _ (.tail _ (.head _))))
        have HRS4 := Lib.hid (rests_row h15.swap HR4.out)
        rw [← HQ.out] at HRS4
        have h16 := Go.Proofs.Ytkdmlpigkmlkmaa.Own.blkNew h15 (f7 F) 41
        obtain ⟨b33, hb33⟩ : ∃ b, b = W15.heap.size := ⟨_, rfl⟩
        rw [← hb33] at h16
        obtain ⟨W16, hW16⟩ : ∃ W16, W16 = W15.alloc (.cells (f7 F) 41) := ⟨_, rfl⟩
        rw [← hW16] at h16
        obtain ⟨d0, d1, d2, d3, d4, d5, d6⟩ := bf_cells (b := b31) (F := F) h16 (.tail _ (.head _))
        obtain ⟨g0, g1, g2, g3, g4, g5, g6⟩ := bf_cells (b := b33) (F := F) h16 (.head _)
        have HA := Lib.hid (awake_any h16)
        have HB31 := Lib.hid hb31
        have HW15 := Lib.hid hW15
        have HB33 := Lib.hid hb33
        have HW16 := Lib.hid hW16
        clear h14 h15 h16 hb31 hW15 hb33 hW16 HG4
        go_upto_region 17 with fail
        rw [← HB31.out, ← HW15.out]
        clear HB31 HW15
        go_wp2_with fail
        (with_reducible refine (HRS4.out).mono ?_)
        rintro e w17 ⟨rfl, rfl⟩
        clear HRS4
        go_upto_region 20 with fail
        rw [← HB33.out, ← HW16.out]
        clear HB33 HW16 c0 c1 c2 c3 c4 c5 c6
        go_wp2_with fail
        (with_reducible refine (HA.out).mono ?_)
        rintro e w18 ⟨rfl, h18⟩
        have H18 := Lib.hid h18
        clear h18 HA d0 d1 d2 d3 d4 d5 d6 g0 g1 g2 g3 g4 g5 g6
        go_wp2_with fail
        go_ret
        exact ⟨rfl, H18.out.ext (by simp)⟩
      · obtain ⟨S4, hF4, hr4⟩ := find_other (b := b) (keep := keep) (cookie := other) (now := now) (fi := 300) HT3.out HR3.out HS.out (by rw [HC.out]; exact fun e => hoc e.symm)
        have HF4 := Lib.hid (own_find' (M := 477) h12.swap (by omega) S0.out S1.out hF4 rfl)
        have HR4 := Lib.hid hr4
        have oo : (other != cookie) = true := by simp [hoc]
        obtain ⟨ag, hag⟩ : ∃ ag, ag = F.ag := ⟨_, rfl⟩
        have HAG := Lib.hid hag
        clear h12 hF4 hr4 hoc hag
        go_wp2_with fail
        (with_reducible refine (HF4.out).mono ?_)
        rintro e w13 ⟨rfl, h13⟩
        obtain ⟨F3, hF3⟩ : ∃ F3, F3 = (⟨sock, other, 0, 300, 0, 0, ag⟩ : FD) := ⟨_, rfl⟩
        have hagr : r.f.ag = ag := by rw [HAG.out, HFF.out]
        have hg4 := get_row h13 HR4.out
        rw [hagr] at hg4
        have HG4 : Hid (Calls Try.prog 20 #[.pointer (some ⟨p, 0, none⟩), .int .i64 (k : Int)] w13 fun e w' => e = .returned (.tuple #[fagg F3, .bool true]) ∧ Own (Tbl p 12 b 477 keep S4 :: BF b26 F :: BF b20 F :: [Old w]) w') := Lib.hid (by
          rw [hF3]
          exact hg4)
        have HF3 := Lib.hid hF3
        clear h13 HF4 hF3 hg4 hagr
        go_wp2_with fail
        (with_reducible refine (HG4.out).mono ?_)
        rintro e w14 ⟨rfl, h14⟩
        have h15 := Go.Proofs.Ytkdmlpigkmlkmaa.Own.blkNew h14 (f7 F3) 41
        obtain ⟨b31, hb31⟩ : ∃ b, b = w14.heap.size := ⟨_, rfl⟩
        rw [← hb31] at h15
        obtain ⟨W15, hW15⟩ : ∃ W15, W15 = w14.alloc (.cells (f7 F3) 41) := ⟨_, rfl⟩
        rw [← hW15] at h15
        obtain ⟨c0, c1, c2, c3, c4, c5, c6⟩ := bf_cells (b := b20) (F := F) h15 (.tail _ (.tail _ (.tail _ (.head _))))
        have HRS4 := Lib.hid (rests_row h15.swap HR4.out)
        have HRS5 : Hid (Calls Try.prog 21 #[.pointer (some ⟨p, 0, none⟩), .int .i64 (k : Int)] W15 fun e w' => e = .returned (.bool q) ∧ W15 = w') := Lib.hid (by rw [HQ.out]; exact HRS4.out)
        have h16 := Go.Proofs.Ytkdmlpigkmlkmaa.Own.blkNew h15 (f7 F) 41
        obtain ⟨b33, hb33⟩ : ∃ b, b = W15.heap.size := ⟨_, rfl⟩
        rw [← hb33] at h16
        obtain ⟨W16, hW16⟩ : ∃ W16, W16 = W15.alloc (.cells (f7 F) 41) := ⟨_, rfl⟩
        rw [← hW16] at h16
        have HPP := Lib.hid (pace_own h16)
        have HBN : Hid (∀ w', Calls Try.prog 22 #[.int .u64 sock, .int .u64 other, pace] w' fun e w2 => e = .returned (.agg #[.int .u64 sock, .int .u64 other, .int .u64 0, .int .i64 300, .int .u64 0, .int .u64 0, .int .u64 0]) ∧ Ext w' w2) := Lib.hid fun w' => born_any sock other 100 300 0 0 0 w'
        have HB31 := Lib.hid hb31
        have HW15 := Lib.hid hW15
        have HB33 := Lib.hid hb33
        have HW16 := Lib.hid hW16
        clear h14 h15 h16 hb31 hW15 hb33 hW16 HG4 HRS4
        go_upto_region 17 with fail
        rw [← HB31.out, ← HW15.out]
        clear HB31 HW15
        go_wp2_with fail
        (with_reducible refine (HRS5.out).mono ?_)
        rintro e w17 ⟨rfl, rfl⟩
        clear HRS5
        go_upto_region 20 with fail
        rw [← HB33.out, ← HW16.out]
        clear HB33 HW16 c0 c1 c2 c3 c4 c5 c6
        go_wp2_with fail
        (with_reducible refine (HPP.out).mono ?_)
        rintro e w18 ⟨rfl, h18⟩
        clear HPP
        have H18 := Lib.hid h18
        clear h18
        go_wp2_with fail
        (with_reducible refine (HBN.out _).mono ?_)
        rintro e w19 ⟨rfl, hx19⟩
        have h19 := H18.out.step hx19
        obtain ⟨v1, v2, v3, v4, v5, v6, v7, ⟨e1, ⟨x1, z1⟩, f1⟩, ⟨e2, ⟨x2, z2⟩, f2⟩, ⟨e3, ⟨x3, z3⟩, f3⟩, ⟨e4, ⟨x4, z4⟩, f4⟩, ⟨e5, ⟨x5, z5⟩, f5⟩, ⟨e6, ⟨x6, z6⟩, f6⟩, ⟨e7, ⟨x7, z7⟩, f7'⟩, h20⟩ := bf_wr h19 (bornF sock other 300)
        simp only [bornF] at e1 e2 e3 e4 e5 e6 e7
        obtain ⟨-, -, -, -, -, -, c6⟩ := bf_cells (b := b20) (F := F) h20 (by simp)
        obtain ⟨v8, ⟨e8, ⟨x8, z8⟩, f8⟩, h21⟩ := bf_set h20 ag
        rw [← HAG.out] at c6
        replace h21 : Own (BF b33 ⟨sock, other, 0, 300, 0, 0, ag⟩ :: _) _ := h21
        rw [← HF3.out] at h21
        obtain ⟨d0, d1, d2, d3, d4, d5, d6⟩ := bf_cells (b := b31) (F := F3) h21 (by simp)
        obtain ⟨g0, g1, g2, g3, g4, g5, g6⟩ := bf_cells (b := b33) (F := F3) h21 (.head _)
        have HA := Lib.hid (awake_any h21)
        clear h19 h20 h21 hx19 H18
        go_wp2_with fail
        (with_reducible refine (HA.out).mono ?_)
        rintro e w22 ⟨rfl, h22⟩
        have H22 := Lib.hid h22
        clear h22 HA d0 d1 d2 d3 d4 d5 d6 g0 g1 g2 g3 g4 g5 g6
        go_wp2_with fail
        go_ret
        exact ⟨rfl, H22.out.ext (by simp)⟩
theorem finds_row (bits keep : Int) (v : Value) (sock cookie other now : Int) (x : Nat × (Nat → TOp)) (wb : (Lit.int .u8 bits).wf = true) (wk : (Lit.int .u64 keep).wf = true) (ws : (Lit.int .u64 sock).wf = true) (wc : (Lit.int .u64 cookie).wf = true) (wo : (Lit.int .u64 other).wf = true) (wn : (Lit.int .u64 now).wf = true) (w : World) (ho : Ops2 w v x) :
    Calls Try.prog 4 #[.int .u8 bits, .int .u64 keep, v, .int .u64 sock, .int .u64 cookie, .int .u64 other, .int .u64 now] w fun e w' => e = .returned (.bool true) ∧ Ext w w' :=
  finds_main v x.1 x.2 bits keep sock cookie other now (u8_bd wb).1 (u8_bd wb).2 (u64_bd wk).1 (u64_bd wk).2 (u64_bd ws).1 (by have := u64_bd ws; omega) w ho
end Go.Proofs.Ytkdmlpigkmlkmaa.Tb
