/- DERIVED. Layer 14 (table): the document's tables: contract of collected. -/
import Derived.Test.YtkdmlpigkmlkmaaTcF
set_option linter.unusedVariables false
set_option linter.unusedSimpArgs false
set_option maxRecDepth 100000
namespace Go.Proofs.Ytkdmlpigkmlkmaa.Tb
open Go.RowKit Go.Proofs.Ytkdmlpigkmlkmaa Go.Proofs.Ytkdmlpigkmlkmaa.TreeP Go.Proofs.Ytkdmlpigkmlkmaa.Tr Go.Proofs.Ytkdmlpigkmlkmaa.Bk

set_option maxHeartbeats 8000000 in
theorem rcoll_any {v vG : Value} {n N bits u : Nat} {keep : Int} {L : List DR} {G : List Nat} {l : List HP} {w : World} (h : Own (DRR v n L :: DGG vG G :: l) w) (hL : L.length = n) (bn : n ≤ 50000) (bg : G.length ≤ 50000) (hu : UniqD L) (hi : ∀ d ∈ L, InF d.f) (hb : bits ≤ 10) (hk : 0 ≤ keep ∧ keep ≤ 18446744073709551615) (sock now : Int) (s0 : 0 ≤ sock) (s1 : sock < 18446744073709551616) :
    Calls Try.prog 66 #[dv N bits keep v vG u, .int .u64 sock, .int .u64 now] w fun e w' => ∃ v' vG', e = .returned (dv N bits keep v' vG' u) ∧ Own (DRR v' (collD (elig bits keep now sock) 8 (L, G)).1.length (collD (elig bits keep now sock) 8 (L, G)).1 :: DGG vG' (collD (elig bits keep now sock) 8 (L, G)).2 :: l) w' := by
  obtain ⟨p, hp⟩ : ∃ p, p = elig bits keep now sock := ⟨_, rfl⟩
  obtain ⟨R, hR⟩ : ∃ R, R = collD p 8 (L, G) := ⟨_, rfl⟩
  rw [← hp, ← hR]
  obtain ⟨b, hbb⟩ : ∃ b, w.heap.size = b := ⟨_, rfl⟩
  obtain ⟨W1, hW1, hs1, h1⟩ := boxT h hbb N bits keep v vG u
  obtain ⟨W2, hW2, hs2, h2⟩ := boxZ h1 hs1
  have h3 : Own (L5 b n N bits u keep v vG L G l) W2 := h2.third.tail OwnIn.third
  subst hL
  have H0 : Hid (DcI b N bits u keep p L G l (.int .i64 0) W2) := Lib.hid ⟨0, L, G, v, vG, rfl, by omega, rfl, fun d hd => hd, Nat.le_refl _, Nat.le_refl _, h3⟩
  have HP := Lib.hid hp
  have HR := Lib.hid hR
  have HU := Lib.hid hu
  have HIN := Lib.hid hi
  have HBT := Lib.hid hb
  have HKP := Lib.hid hk
  have HB := Lib.hid hbb
  have HW1 := Lib.hid hW1
  have HW2 := Lib.hid hW2
  have HS0 := Lib.hid s0
  have HS1 := Lib.hid s1
  clear h h1 h2 h3 hp hR hu hi hb hk hbb hW1 hW2 hs1 hs2 s0 s1
  go_enter Try.func66, Try.ntmps66
  go_upto_region 1 with fail
  rw [HB.out, HW1.out, HW2.out]
  clear HB HW1 HW2
  go_wp2_with fail
  go_loopw [7] (fun s7 wr => DcI b N bits u keep p L G l s7 wr) (fun s7 _ => 8 - (intOf s7).toNat)
  case atStart => exact H0.out
  case round =>
    clear H0
    obtain ⟨m, L2, G2, vL2, vG2, rfl, hm, hco, hsub, hl2, hg2, h⟩ := hrel
    obtain ⟨va, vc, rfl⟩ := h.rowR.slice
    obtain ⟨ga, gcc, rfl⟩ := h.swap.rowR.slice
    obtain ⟨n2, hn2⟩ : ∃ n2, n2 = L2.length := ⟨_, rfl⟩
    obtain ⟨g2, hg2'⟩ : ∃ g2, g2 = G2.length := ⟨_, rfl⟩
    rw [← hn2, ← hg2'] at h
    rw [← hn2] at hl2
    rw [← hg2'] at hg2
    have HCO := Lib.hid hco
    have HSUB := Lib.hid hsub
    have HN2 := Lib.hid hn2
    have HG2 := Lib.hid hg2'
    obtain ⟨LL, hLL⟩ : ∃ LL, LL = L5 b n2 N bits u keep (.slice va n2 vc) (.slice ga g2 gcc) L2 G2 l := ⟨_, rfl⟩
    rw [← hLL] at h
    have HLL := Lib.hid hLL
    have bn2 : n2 ≤ 50000 := by omega
    have HT : Hid (∀ w', Own LL w' → w'.cell? ⟨b, 0, none⟩ = some (.int .i64 (N : Int)) ∧ w'.cell? ⟨b, 1, none⟩ = some (.int .i64 (bits : Int)) ∧ w'.cell? ⟨b, 2, none⟩ = some (.int .u64 keep) ∧ w'.cell? ⟨b, 3, none⟩ = some (.slice va n2 vc) ∧ w'.cell? ⟨b, 4, none⟩ = some (.slice ga g2 gcc) ∧ w'.cell? ⟨b, 5, none⟩ = some (.int .i64 (u : Int))) := Lib.hid fun w' h' => by
      rw [hLL] at h'
      exact l5_t h'
    have H := Lib.hid h
    clear hco hsub hn2 hg2' h hLL
    by_cases hlt : m < 8
    · have hltI : (m : Int) < 8 := by omega
      go_wp2_with fail
      go_loopw [8, 9] (fun s8 s9 wr => DiI LL p L2 n2 s8 s9 wr) (fun _ s9 _ => n2 - (intOf s9).toNat)
      case atStart => exact ⟨0, -1, rfl, Nat.zero_le _, rfl, best_zero p L2, H.out⟩
      case round =>
        clear H
        obtain ⟨k, B, rfl, hk, rfl, hB, h⟩ := hrel
        obtain ⟨c0, c1, c2, c3, c4, c5⟩ := HT.out _ h
        by_cases hlt2 : k < n2
        · have hlt2I : (k : Int) < (n2 : Int) := by omega
          obtain ⟨e, he⟩ : ∃ e, L2[k]? = some e := ⟨_, List.getElem?_eq_getElem (by rw [← HN2.out]; exact hlt2)⟩
          obtain ⟨g, rfl⟩ : ∃ g, va = some ⟨g, 0, none⟩ := by
            have h' := h
            rw [HLL.out] at h'
            obtain ⟨g, hg, -⟩ := drow h' hlt2 he
            exact ⟨g, hg⟩
          have HRW : Hid (∀ (j : Nat) (x : DR) (w' : World), Own LL w' → j < n2 → L2[j]? = some x → w'.cell? ⟨g, j * 9, none⟩ = some (.int .i64 (x.k : Int)) ∧ w'.cell? ⟨g, j * 9 + 1, none⟩ = some (.int .u64 x.f.s) ∧ w'.cell? ⟨g, j * 9 + 2, none⟩ = some (.int .u64 x.f.c) ∧ w'.cell? ⟨g, j * 9 + 3, none⟩ = some (.int .u64 x.f.ra) ∧ w'.cell? ⟨g, j * 9 + 4, none⟩ = some (.int .i64 x.f.cr) ∧ w'.cell? ⟨g, j * 9 + 5, none⟩ = some (.int .u64 x.f.nx) ∧ w'.cell? ⟨g, j * 9 + 6, none⟩ = some (.int .u64 x.f.db) ∧ w'.cell? ⟨g, j * 9 + 7, none⟩ = some (.int .u64 x.f.ag) ∧ w'.cell? ⟨g, j * 9 + 8, none⟩ = some (.bool x.q) ∧ n2 ≤ vc) := Lib.hid fun j x w' h' hj hx => by
            rw [HLL.out] at h'
            obtain ⟨g', hg, gc, r⟩ := drow h' hj hx
            injection hg with hg
            injection hg with hg
            subst hg
            exact ⟨r.1, r.2.1, r.2.2.1, r.2.2.2.1, r.2.2.2.2.1, r.2.2.2.2.2.1, r.2.2.2.2.2.2.1, r.2.2.2.2.2.2.2.1, r.2.2.2.2.2.2.2.2, gc⟩
          obtain ⟨r0, r1, r2, r3, r4, r5, r6, r7, r8, gc⟩ := HRW.out k e _ h hlt2 he
          have hin := HIN.out e (HSUB.out e (List.mem_of_getElem? he))
          obtain ⟨c, hc⟩ : ∃ c, wr.heap.size = c := ⟨_, rfl⟩
          obtain ⟨Wc, hWc, hsc, h5⟩ := boxR h hc e
          obtain ⟨y0, y1, y2, y3, y4, y5, y6, y7, y8⟩ := br_cells h5 (.head _)
          have HC := Lib.hid hc
          have HWC := Lib.hid hWc
          have HBI := Lib.hid hB
          have HE := Lib.hid he
          have HIE := Lib.hid hin
          clear h hB he hin hc hWc hsc
          go_upto_region 9 with fail
          rw [HC.out, HWC.out]
          clear HC HWC r0 r1 r2 r3 r4 r5 r6 r7 r8 c0 c1 c2 c3 c4 c5
          obtain ⟨Pe, hPe⟩ : ∃ Pe, Pe = p e := ⟨_, rfl⟩
          have HPE := Lib.hid hPe
          obtain ⟨LL9, hLL9⟩ : ∃ LL9, LL9 = BR c e :: LL := ⟨_, rfl⟩
          rw [← hLL9] at h5
          have HL9 := Lib.hid hLL9
          have HALL : Hid (∀ w', Own LL9 w' → Own LL9 w' ∧ w'.cell? ⟨b, 0, none⟩ = some (.int .i64 (N : Int)) ∧ w'.cell? ⟨b, 1, none⟩ = some (.int .i64 (bits : Int)) ∧ w'.cell? ⟨b, 2, none⟩ = some (.int .u64 keep) ∧ w'.cell? ⟨b, 3, none⟩ = some (.slice (some ⟨g, 0, none⟩) n2 vc) ∧ w'.cell? ⟨b, 4, none⟩ = some (.slice ga g2 gcc) ∧ w'.cell? ⟨b, 5, none⟩ = some (.int .i64 (u : Int)) ∧ w'.cell? ⟨c, 0, none⟩ = some (.int .i64 (e.k : Int)) ∧ w'.cell? ⟨c, 1, none⟩ = some (.int .u64 e.f.s) ∧ w'.cell? ⟨c, 2, none⟩ = some (.int .u64 e.f.c) ∧ w'.cell? ⟨c, 3, none⟩ = some (.int .u64 e.f.ra) ∧ w'.cell? ⟨c, 4, none⟩ = some (.int .i64 e.f.cr) ∧ w'.cell? ⟨c, 5, none⟩ = some (.int .u64 e.f.nx) ∧ w'.cell? ⟨c, 6, none⟩ = some (.int .u64 e.f.db) ∧ w'.cell? ⟨c, 7, none⟩ = some (.int .u64 e.f.ag) ∧ w'.cell? ⟨c, 8, none⟩ = some (.bool e.q)) := Lib.hid fun w' h' => by
            have h0 := h'
            rw [HL9.out] at h'
            obtain ⟨c0, c1, c2, c3, c4, c5⟩ := HT.out _ h'.drop
            obtain ⟨y0, y1, y2, y3, y4, y5, y6, y7, y8⟩ := br_cells h' (.head _)
            exact ⟨h0, c0, c1, c2, c3, c4, c5, y0, y1, y2, y3, y4, y5, y6, y7, y8⟩
          have HBU : Hid (∀ w', Calls Try.prog 87 #[.int .u64 e.f.s, .int .i64 (bits : Int)] w' fun x w2 => x = .returned (.int .i64 ((β bits e.f.s : Nat) : Int)) ∧ w' = w2) := Lib.hid fun w' => rbk_any e.f.s bits HIE.out.1.1 HIE.out.1.2 HBT.out w'
          have HBS : Hid (∀ w', Calls Try.prog 87 #[.int .u64 sock, .int .i64 (bits : Int)] w' fun x w2 => x = .returned (.int .i64 ((β bits sock : Nat) : Int)) ∧ w' = w2) := Lib.hid fun w' => rbk_any sock bits HS0.out HS1.out HBT.out w'
          obtain ⟨be, hbe⟩ : ∃ be, be = β bits e.f.s := ⟨_, rfl⟩
          obtain ⟨bs, hbs⟩ : ∃ bs, bs = β bits sock := ⟨_, rfl⟩
          rw [← hbe] at HBU
          rw [← hbs] at HBS
          obtain ⟨od, hod⟩ : ∃ od, od = (e.q && decide (Hz.sat e.f.ag keep < now)) := ⟨_, rfl⟩
          have HOLD : Hid (∀ w', Own LL9 w' → Calls Try.prog 88 #[dv N bits keep (.slice (some ⟨g, 0, none⟩) n2 vc) (.slice ga g2 gcc) u, drv e, .int .u64 now] w' fun x w2 => x = .returned (.bool od) ∧ Own LL9 w2 ∧ w2.cell? ⟨b, 0, none⟩ = some (.int .i64 (N : Int)) ∧ w2.cell? ⟨b, 1, none⟩ = some (.int .i64 (bits : Int)) ∧ w2.cell? ⟨b, 2, none⟩ = some (.int .u64 keep) ∧ w2.cell? ⟨b, 3, none⟩ = some (.slice (some ⟨g, 0, none⟩) n2 vc) ∧ w2.cell? ⟨b, 4, none⟩ = some (.slice ga g2 gcc) ∧ w2.cell? ⟨b, 5, none⟩ = some (.int .i64 (u : Int)) ∧ w2.cell? ⟨c, 0, none⟩ = some (.int .i64 (e.k : Int)) ∧ w2.cell? ⟨c, 1, none⟩ = some (.int .u64 e.f.s) ∧ w2.cell? ⟨c, 2, none⟩ = some (.int .u64 e.f.c) ∧ w2.cell? ⟨c, 3, none⟩ = some (.int .u64 e.f.ra) ∧ w2.cell? ⟨c, 4, none⟩ = some (.int .i64 e.f.cr) ∧ w2.cell? ⟨c, 5, none⟩ = some (.int .u64 e.f.nx) ∧ w2.cell? ⟨c, 6, none⟩ = some (.int .u64 e.f.db) ∧ w2.cell? ⟨c, 7, none⟩ = some (.int .u64 e.f.ag) ∧ w2.cell? ⟨c, 8, none⟩ = some (.bool e.q)) := Lib.hid fun w' h' => by
            rw [hod]
            exact (rold_any h' e now HIE.out.2 HKP.out).mono fun x w2 ⟨hx, h2⟩ => ⟨hx, HALL.out w2 h2⟩
          have hel : p e = (decide (e.f.s ≠ sock) && (decide (be = bs) && od)) := by
            rw [HP.out, hbe, hbs, hod]; rfl
          have HEL := Lib.hid hel
          clear hPe hLL9 hbe hbs hod hel
          have H5 := Lib.hid h5
          obtain ⟨c0, c1, c2, c3, c4, c5, -⟩ := (HALL.out _ h5).2
          clear h5
          go_cut [51] (fun s51 wx => s51 = .bool (!Pe) ∧ Own LL9 wx)
          case first =>
            by_cases t1 : e.f.s = sock
            · have seq : (e.f.s == sock) = true := by simp [t1]
              have hPe : Pe = false := by rw [HPE.out, HEL.out]; simp [t1]
              subst hPe
              clear t1
              go_quiet (fail)
              go_wp2_with fail
              go_meet
              exact ⟨rfl, H5.out.step ((Ext.refl _).drewN _)⟩
            · have seq : (e.f.s == sock) = false := by simp [t1]
              by_cases t2 : be = bs
              · have sne : ((be : Int) != (bs : Int)) = false := by simp [t2]
                have hPe : Pe = od := by rw [HPE.out, HEL.out]; simp [t1, t2]
                subst hPe
                subst t2
                clear t1
                go_region_held3 (fun w' => Own LL9 w' ∧ w'.cell? ⟨b, 0, none⟩ = some (.int .i64 (N : Int)) ∧ w'.cell? ⟨b, 1, none⟩ = some (.int .i64 (bits : Int)) ∧ w'.cell? ⟨b, 2, none⟩ = some (.int .u64 keep) ∧ w'.cell? ⟨b, 3, none⟩ = some (.slice (some ⟨g, 0, none⟩) n2 vc) ∧ w'.cell? ⟨b, 4, none⟩ = some (.slice ga g2 gcc) ∧ w'.cell? ⟨b, 5, none⟩ = some (.int .i64 (u : Int)) ∧ w'.cell? ⟨c, 0, none⟩ = some (.int .i64 (e.k : Int)) ∧ w'.cell? ⟨c, 1, none⟩ = some (.int .u64 e.f.s) ∧ w'.cell? ⟨c, 2, none⟩ = some (.int .u64 e.f.c) ∧ w'.cell? ⟨c, 3, none⟩ = some (.int .u64 e.f.ra) ∧ w'.cell? ⟨c, 4, none⟩ = some (.int .i64 e.f.cr) ∧ w'.cell? ⟨c, 5, none⟩ = some (.int .u64 e.f.nx) ∧ w'.cell? ⟨c, 6, none⟩ = some (.int .u64 e.f.db) ∧ w'.cell? ⟨c, 7, none⟩ = some (.int .u64 e.f.ag) ∧ w'.cell? ⟨c, 8, none⟩ = some (.bool e.q))
                  (first | exact HALL.out _ (H5.out.step (Ext.refl _).drew) | (refine ⟨?_, ?_, ?_, ?_, ?_, ?_, ?_, ?_, ?_, ?_, ?_, ?_, ?_, ?_, ?_, ?_⟩ <;> assumption))
                  (first
                    | (go_at_call 87; (with_reducible refine (HBU.out _).mono ?_); rintro x w4 ⟨rfl, rfl⟩)
                    | (go_at_call 87; (with_reducible refine (HBS.out _).mono ?_); rintro x w4 ⟨rfl, rfl⟩)
                    | (go_at_call 88; go_split_ands; (with_reducible refine (HOLD.out _ (by assumption)).mono ?_); rintro x w4 ⟨rfl, hz, z0, z1, z2, z3, z4, z5, z6, z7, z8, z9, z10, z11, z12, z13, z14⟩))
                all_goals go_split_ands
                all_goals go_wp2_with fail
                all_goals go_meet
                all_goals exact ⟨rfl, by assumption⟩
              · have sne : ((be : Int) != (bs : Int)) = true := by simp; omega
                have sne2 : (be != bs) = true := by simp [t2]
                have hPe : Pe = false := by rw [HPE.out, HEL.out]; simp [t1, t2]
                subst hPe
                clear t1 t2
                go_quiet (first
                  | (go_at_call 87; with_reducible exact Calls.quiet_of_same ((HBU.out _).mono (fun _ _ h => ⟨h.1, h.2.symm⟩)))
                  | (go_at_call 87; with_reducible exact Calls.quiet_of_same ((HBS.out _).mono (fun _ _ h => ⟨h.1, h.2.symm⟩))))
                go_wp2_with fail
                go_meet
                exact ⟨rfl, H5.out.step ((Ext.refl _).drewN _)⟩
          case rest =>
            obtain ⟨rfl, h⟩ := hcut
            have h8 := h
            rw [HL9.out] at h8
            cases Pe with
            | false =>
              have HX : Hid (DiI LL p L2 n2 (.int .i64 B) (.int .i64 ((k : Int) + 1)) wc) := Lib.hid ⟨k + 1, B, by go_num, by omega, rfl, best_no HBI.out HE.out HPE.out.symm, h8.drop⟩
              clear h h8 H5 c0 c1 c2 c3 c4 c5 y0 y1 y2 y3 y4 y5 y6 y7 y8
              go_wp2_with fail
              exact ⟨HX.out, by simp [intOf]; omega⟩
            | true =>
              clear c0 c1 c2 c3 c4 c5 y0 y1 y2 y3 y4 y5 y6 y7 y8
              obtain ⟨-, c0, c1, c2, c3, c4, c5, y0, y1, y2, y3, y4, y5, y6, y7, y8⟩ := HALL.out _ h
              have HPT := Lib.hid HPE.out.symm
              have H8 := Lib.hid h8.drop
              rcases HBI.out with ⟨rfl, hl⟩ | ⟨j, d, rfl, hj, hjd, hl⟩
              · have HX : Hid (∀ q, DiI LL p L2 n2 (.int .i64 (k : Int)) (.int .i64 ((k : Int) + 1)) (wc.drewN q)) := Lib.hid fun q => ⟨k + 1, (k : Int), by go_num, by omega, rfl, best_new HBI.out HE.out HPT.out (fun d hd => by rw [hl] at hd; cases hd), H8.out.step ((Ext.refl _).drewN q)⟩
                clear h h8 H5 hl
                go_upto_region 10 with fail
                go_quiet (fail)
                clear c0 c1 c2 c3 c4 c5 y0 y1 y2 y3 y4 y5 y6 y7 y8
                go_wp2_with fail
                exact ⟨HX.out _, by simp [intOf]; omega⟩
              · have hjn : j < n2 := by rw [HN2.out]; exact hj
                have hjI : (j : Int) < (n2 : Int) := by omega
                obtain ⟨r0, r1, r2, r3, r4, r5, r6, r7, r8, gc⟩ := HRW.out j d _ H8.out hjn hjd
                by_cases hlt3 : e.f.s < d.f.s
                · have HX : Hid (∀ q, DiI LL p L2 n2 (.int .i64 (k : Int)) (.int .i64 ((k : Int) + 1)) (wc.drewN q)) := Lib.hid fun q => ⟨k + 1, (k : Int), by go_num, by omega, rfl, best_new HBI.out HE.out HPT.out (fun x hx => by rw [hl] at hx; injection hx with hx; rw [← hx]; exact hlt3), H8.out.step ((Ext.refl _).drewN q)⟩
                  clear h h8 H5 hl hjd
                  go_upto_region 10 with fail
                  go_quiet (fail)
                  clear c0 c1 c2 c3 c4 c5 y0 y1 y2 y3 y4 y5 y6 y7 y8 r0 r1 r2 r3 r4 r5 r6 r7 r8
                  go_wp2_with fail
                  exact ⟨HX.out _, by simp [intOf]; omega⟩
                · have HX : Hid (∀ q, DiI LL p L2 n2 (.int .i64 (j : Int)) (.int .i64 ((k : Int) + 1)) (wc.drewN q)) := Lib.hid fun q => ⟨k + 1, (j : Int), by go_num, by omega, rfl, best_old HBI.out HE.out HPT.out hl hlt3, H8.out.step ((Ext.refl _).drewN q)⟩
                  clear h h8 H5 hl hjd
                  go_upto_region 10 with fail
                  go_quiet (fail)
                  clear c0 c1 c2 c3 c4 c5 y0 y1 y2 y3 y4 y5 y6 y7 y8 r0 r1 r2 r3 r4 r5 r6 r7 r8
                  go_wp2_with fail
                  exact ⟨HX.out _, by simp [intOf]; omega⟩
        · obtain rfl : k = n2 := by omega
          rcases hB with ⟨rfl, hl⟩ | ⟨j, d, rfl, hj, hjd, hl⟩
          · rw [List.take_of_length_le (by rw [← HN2.out]; exact Nat.le_refl _)] at hl
            clear c0 c1 c2 c3 c4 c5
            have hst := coll_stop (m := 8 - m) (G := G2) hl
            have hRR : R = (L2, G2) := by rw [HR.out, ← HCO.out, hst]
            rw [HLL.out] at h
            obtain ⟨c0, c1, c2, c3, c4, c5⟩ := l5_t h
            obtain ⟨x0, x1, x2, x3, x4, x5, f0, f1, f2, f3, f4, f5⟩ := bd_cells (b := b + 1) (n := 0) (bits := 0) (keep := 0) (vL := nilv) (vG := nilv) (u := 0) h (.tail _ (.tail _ (.head _)))
            obtain ⟨w4, e4, h4⟩ := Own.bdSet (n' := N) (bits' := bits) (keep' := keep) (vL' := .slice va k vc) (vG' := .slice ga g2 gcc) (u' := u) h.third
            obtain ⟨q0, q1, q2, q3, q4, q5, -⟩ := bd_cells h4 (.head _)
            have HF : Hid (Own (DRR (.slice va k vc) R.1.length R.1 :: DGG (.slice ga g2 gcc) R.2 :: l) w4) := Lib.hid (by
              have := h4.drop.third.drop
              rw [hRR]
              simp only
              rw [← HN2.out]
              exact this)
            clear h h4 hRR
            go_wp2_with fail
            exact bodyPost_ret (v := dv N bits keep (.slice va k vc) (.slice ga g2 gcc) u) (by simp [results, Try.results66, go_sem, q0, q1, q2, q3, q4, q5]) rfl ⟨_, _, rfl, HF.out⟩

          · rw [List.take_of_length_le (by rw [← HN2.out]; exact Nat.le_refl _)] at hl
            have hjn : j < k := by rw [HN2.out]; exact hj
            have hjI : (j : Int) < (k : Int) := by omega
            have hdm := List.mem_of_getElem? hjd
            have huq : UniqD L2 := fun x hx y hy => HU.out x (HSUB.out x hx) y (HSUB.out y hy)
            obtain ⟨F, hF⟩ : ∃ F, F = L2.filter fun x => decide (x.k ≠ d.k) := ⟨_, rfl⟩
            have hcg := coll_go (G := G2) hlt hl
            rw [HCO.out, ← hF] at hcg
            have hFL : F.length ≤ k := by rw [hF, HN2.out]; exact List.length_filter_le _ _
            have hFS : ∀ x ∈ F, x ∈ L := fun x hx => HSUB.out x (by rw [hF] at hx; exact (List.mem_filter.1 hx).1)
            obtain ⟨n3, hn3⟩ : ∃ n3, n3 = F.length := ⟨_, rfl⟩
            have hG3 : (G2 ++ [d.k]).length = g2 + 1 := by rw [List.length_append, ← HG2.out]; rfl
            have HNX : Hid (∀ vL vG w', Own (L5 b n3 N bits u keep vL vG F (G2 ++ [d.k]) l) w' → DcI b N bits u keep p L G l (.int .i64 ((m : Int) + 1)) w') := Lib.hid fun vL vG w' h' => ⟨m + 1, F, G2 ++ [d.k], vL, vG, by go_num, by omega, hcg.symm, hFS, by rw [← hn3]; omega, by rw [hG3]; omega, by rw [← hn3]; exact h'⟩
            obtain ⟨g, rfl⟩ : ∃ g, va = some ⟨g, 0, none⟩ := by
              have h' := h
              rw [HLL.out] at h'
              obtain ⟨g, hg, -⟩ := drow h' hjn hjd
              exact ⟨g, hg⟩
            have HDR : Hid (∀ w', Own LL w' → Calls Try.prog 34 #[dv N bits keep (.slice (some ⟨g, 0, none⟩) k vc) (.slice ga g2 gcc) u, .int .i64 (d.k : Int)] w' fun x w2 => ∃ aL cL aG cG v1 v2 v3 v4 v5 v6, x = .returned (.tuple #[dv N bits keep (.slice aL n3 cL) (.slice aG (g2 + 1) cG) u, .bool true]) ∧ (Wr w2 ⟨b, 0, none⟩ (.int .i64 (N : Int)) v1 ∧ Wr v1 ⟨b, 1, none⟩ (.int .i64 (bits : Int)) v2 ∧ Wr v2 ⟨b, 2, none⟩ (.int .u64 keep) v3 ∧ Wr v3 ⟨b, 3, none⟩ (.slice aL n3 cL) v4 ∧ Wr v4 ⟨b, 4, none⟩ (.slice aG (g2 + 1) cG) v5 ∧ Wr v5 ⟨b, 5, none⟩ (.int .i64 (u : Int)) v6) ∧ DcI b N bits u keep p L G l (.int .i64 ((m : Int) + 1)) v6) := Lib.hid fun w' h' => by
              rw [HLL.out] at h'
              refine (rdrop_yes h' HN2.out.symm (by omega) (by rw [← HG2.out]; omega) huq d (fnd_of huq hdm)).mono ?_
              rintro x w2 ⟨v', vG', rfl, h2⟩
              rw [← hF, ← hn3] at h2
              obtain ⟨aL, cL, rfl⟩ := h2.rowR.slice
              obtain ⟨aG, cG, rfl⟩ := h2.swap.rowR.slice
              rw [hG3] at h2 ⊢
              obtain ⟨v1, v2, v3, v4, v5, v6, w1, w2', w3, w4, w5, w6, h6⟩ := bd_wr (n' := N) (bits' := bits) (keep' := keep) (vL' := .slice aL n3 cL) (vG' := .slice aG (g2 + 1) cG) (u' := u) h2.fourth
              exact ⟨aL, cL, aG, cG, v1, v2, v3, v4, v5, v6, rfl, ⟨w1, w2', w3, w4, w5, w6⟩, HNX.out _ _ _ h6.back4⟩
            have hd1 := h.step (Ext.refl wr).drew
            have hr := hd1
            rw [HLL.out] at hr
            obtain ⟨g', hg, gc, r0, r1, r2, r3, r4, r5, r6, r7, r8⟩ := drow hr hjn hjd
            obtain rfl : g = g' := by injection hg with hg; injection hg
            have HD1 := Lib.hid hd1
            clear h hd1 hr hl hjd hdm huq hF hcg hFL hFS hn3 hG3 HNX hg r1 r2 r3 r4 r5 r6 r7 r8
            go_upto_region 14 with fail
            clear c0 c1 c2 c3 c4 c5
            obtain ⟨c0, c1, c2, c3, c4, c5⟩ := HT.out _ HD1.out
            go_region_with ((go_at_call 34; (with_reducible refine (HDR.out _ HD1.out).mono ?_); rintro x w5 ⟨aL, cL, aG, cG, v1, v2, v3, v4, v5, v6, rfl, ⟨⟨e1, ⟨x1, z1⟩, f1⟩, ⟨e2, ⟨x2, z2⟩, f2⟩, ⟨e3, ⟨x3, z3⟩, f3⟩, ⟨e4, ⟨x4, z4⟩, f4⟩, ⟨e5, ⟨x5, z5⟩, f5⟩, ⟨e6, ⟨x6, z6⟩, f6⟩⟩, hx⟩; have HX := Lib.hid hx; clear hx))
            all_goals go_wp2_with fail
            all_goals exact ⟨HX.out, by simp [intOf]; omega⟩
    · obtain rfl : m = 8 := by omega
      have hRR : R = (L2, G2) := by rw [HR.out, ← HCO.out]; rfl
      have h := H.out
      rw [HLL.out] at h
      obtain ⟨c0, c1, c2, c3, c4, c5⟩ := l5_t h
      obtain ⟨x0, x1, x2, x3, x4, x5, f0, f1, f2, f3, f4, f5⟩ := bd_cells (b := b + 1) (n := 0) (bits := 0) (keep := 0) (vL := nilv) (vG := nilv) (u := 0) h (.tail _ (.tail _ (.head _)))
      obtain ⟨w4, e4, h4⟩ := Own.bdSet (n' := N) (bits' := bits) (keep' := keep) (vL' := .slice va n2 vc) (vG' := .slice ga g2 gcc) (u' := u) h.third
      obtain ⟨q0, q1, q2, q3, q4, q5, -⟩ := bd_cells h4 (.head _)
      have HF : Hid (Own (DRR (.slice va n2 vc) R.1.length R.1 :: DGG (.slice ga g2 gcc) R.2 :: l) w4) := Lib.hid (by
        have := h4.drop.third.drop
        rw [hRR]
        simp only
        rw [← HN2.out]
        exact this)
      clear h h4 hRR H
      go_wp2_with fail
      exact bodyPost_ret (v := dv N bits keep (.slice va n2 vc) (.slice ga g2 gcc) u) (by simp [results, Try.results66, go_sem, q0, q1, q2, q3, q4, q5]) rfl ⟨_, _, rfl, HF.out⟩
end Go.Proofs.Ytkdmlpigkmlkmaa.Tb
