/- DERIVED. Layer 6 (tree): the law TreeBack. -/
import Derived.Test.YtekdahppacghbaaTBa
import Derived.Test.YtekdahppacghbaaShC
import Derived.Test.YtekdahppacghbaaR6D
import Derived.Test.YtekdahppacghbaaTrV
import Derived.Deep.DeepCutAuto
import Derived.Deep.CutBlock
import Derived.Deep.RegionLaw
import Derived.Deep.RegionHeld3
set_option linter.unusedVariables false
set_option linter.unusedSimpArgs false
set_option maxRecDepth 100000
namespace Go.Proofs.Ytekdahppacghbaa.Tr
open Go.RowKit Go.Proofs.Ytekdahppacghbaa Go.Proofs.Ytekdahppacghbaa.TreeP

abbrev KB (b : Nat) (q1 q2 : Int) : HP := Go.Proofs.Ytekdahppacghbaa.Blk b #[.int .u64 q1, .int .u64 q2] 25
theorem kb_cells {w : World} {b : Nat} {q1 q2 : Int} {l : List HP} (h : Own l w) (hm : KB b q1 q2 ∈ l) : w.cell? ⟨b, 0, none⟩ = some (.int .u64 q1) ∧ w.cell? ⟨b, 1, none⟩ = some (.int .u64 q2) := by
  have g := Go.Proofs.Ytekdahppacghbaa.Own.blk h hm
  simp [World.cell?, g]
/-- what is left, and the tree -/
def BL (w0 : World) (p kb n : Nat) (q1 q2 : Int) (v15 v16 : Value) (wr : World) : Prop :=
  ∃ (i m : Nat) (L E : List En), v16 = .int .i64 (i : Int) ∧ L.length = m ∧ i + m = n ∧ L.Perm E ∧ Own [RowR 31 3 v15 m (ents L), Tree p 60 E, KB kb q1 q2, Old w0] wr
set_option maxHeartbeats 8000000 in
theorem back_of (v : Value) (q1 q2 : Int) (v2 : Value) (n0 : Nat) (f : Nat → Op) (bs : List Nat) (w : World) (ho : Ops w v n0 f) (hb2 : Bytes w v2 bs) :
    Calls Try.prog 7 #[v, .agg #[.int .u64 q1, .int .u64 q2], v2] w fun e w' => e = .returned (.bool true) ∧ Ext w w' := by
  have h0 := Go.Proofs.Ytekdahppacghbaa.Own.blkNew (Own.start w) #[.int .u64 q1, .int .u64 q2] 25
  have HPL := Lib.hid (played_any v n0 f ho h0 (.tail _ (.head _)))
  obtain ⟨a, cap0, rfl, -, -, -⟩ := ho
  obtain ⟨a2, cap2, rfl, q3, q4, q5⟩ := hb2
  unfold maxLen at q4
  obtain ⟨N, hN⟩ : ∃ N, N = bs.length := ⟨_, rfl⟩
  rw [← hN] at q3 q5
  rw [← hN]
  have HBY := Lib.hid q5
  have HNB := Lib.hid hN
  clear h0 q5 hN
  go_enter Try.func7, Try.ntmps7
  go_wp2_with fail
  refine (HPL.out).mono ?_
  rintro e w1 ⟨p, E, rfl, h1⟩
  obtain ⟨kb, hkb⟩ : ∃ kb, kb = w.heap.size := ⟨_, rfl⟩
  rw [← hkb]
  rw [← hkb] at h1
  have HR := Lib.hid (rising_of h1)
  have H1 := Lib.hid h1
  clear h1 HPL hkb
  go_wp2_with fail
  refine (own_all H1.out).mono ?_
  rintro e w2 ⟨va, rfl, h2⟩
  obtain ⟨n, hn⟩ : ∃ n, n = E.length := ⟨_, rfl⟩
  rw [← hn] at h2
  have hn60 : n ≤ 60 := by rw [hn]; exact HR.out.2
  obtain ⟨ea, ec, rfl⟩ := own_slice h2.row
  have H2 := Lib.hid h2.toR.swap
  have HN := Lib.hid hn
  clear h2 hn H1
  obtain ⟨k0, k1⟩ := kb_cells H2.out (.tail _ (.tail _ (.head _)))
  go_wp2_with fail
  refine (own_get H2.out q1 q2).mono ?_
  rintro e w3 ⟨rfl, h3⟩
  obtain ⟨o, ho⟩ : ∃ o, o = look E (q1, q2) := ⟨_, rfl⟩
  rw [← ho]
  have HO := Lib.hid ho.symm
  have H3 := Lib.hid h3
  have HLE : Hid (Calls Try.prog 24 #[.pointer (some ⟨p, 0, none⟩)] w3 fun e w' => e = .returned (.int .i64 (n : Nat)) ∧ w3 = w') := Lib.hid (by
    have := own_len h3
    rw [← HN.out] at this
    exact this)
  obtain ⟨y, hy⟩ : ∃ y, y = o.isSome := ⟨_, rfl⟩
  obtain ⟨z, hz⟩ : ∃ z : Int, z = o.getD 0 := ⟨_, rfl⟩
  rw [← hy, ← hz]
  have HY := Lib.hid hy
  clear ho h3 H2 hy hz k0 k1
  obtain ⟨D, hD⟩ : ∃ D, D = (!y && decide (n < 60)) := ⟨_, rfl⟩
  have HD := Lib.hid hD
  clear hD
  go_upto_region 4 with fail
  go_cut [40] (fun s wx => s = .bool D ∧ w3 = wx)
  case first =>
    cases y with
    | true =>
      have hD : D = false := HD.out
      subst hD
      go_wp2_with fail
      go_meet
      case rel => exact ⟨rfl, rfl⟩
    | false =>
      by_cases hlt : n < 60
      · have hltI : (n : Int) < 60 := by omega
        have hD : D = true := by rw [HD.out]; simp [hlt]
        subst hD
        go_wp2_with fail
        refine (HLE.out).mono ?_
        rintro e w' ⟨rfl, rfl⟩
        go_wp2_with fail
        go_meet
        case rel => exact ⟨rfl, rfl⟩
      · have hltI : decide ((n : Int) < 60) = false := by simp; omega
        have hD : D = false := by rw [HD.out]; simp [hlt]
        subst hD
        go_wp2_with fail
        refine (HLE.out).mono ?_
        rintro e w' ⟨rfl, rfl⟩
        go_wp2_with fail
        go_meet
        case rel => exact ⟨rfl, rfl⟩
  case rest =>
  obtain ⟨rfl, rfl⟩ := hcut
  clear HLE
  go_upto_if 40 with fail
  go_cut [6] (fun s6 wx => s6 = .bool false ∧ Own [Tree p 60 E, RowR 31 3 (.slice ea n ec) n (ents E), KB kb q1 q2, Old w] wx)
  case first =>
    as_aux_lemma =>
    obtain ⟨k0, k1⟩ := kb_cells H3.out (.tail _ (.tail _ (.head _)))
    cases D with
    | false =>
      go_wp2_with fail
      go_meet
      case rel => exact ⟨rfl, H3.out⟩
    | true =>
      have hyn : y = false ∧ n < 60 := by
        have := HD.out
        cases y
        · simp at this
          exact ⟨rfl, this⟩
        · simp at this
      obtain ⟨rfl, hlt⟩ := hyn
      have hon : o = none := by
        cases o
        · rfl
        · have := HY.out
          simp at this
      subst hon
      obtain ⟨i1, i2, i3, i4, i5⟩ := rising_ins HR.out.1 (q1, q2) 7 HO.out
      have hput := own_put H3.out q1 q2 7
      have e1 : putE 60 E (q1, q2) = 0 := by unfold putE; rw [HO.out, if_neg (by simp), if_neg (by rw [← HN.out]; omega)]
      have e2 : putT 60 E (q1, q2) 7 = ins E (q1, q2) 7 := by unfold putT; rw [HO.out, if_neg (by simp), if_neg (by rw [← HN.out]; omega)]
      rw [e1, e2] at hput
      have HPUT := Lib.hid hput
      have I4 := Lib.hid i4
      have I5 := Lib.hid i5
      clear hput e1 e2 i1 i2 i3 i4 i5
      go_wp2_with fail
      refine (HPUT.out).mono ?_
      rintro e w4 ⟨rfl, h4⟩
      obtain ⟨k0, k1⟩ := kb_cells h4 (.tail _ (.tail _ (.head _)))
      have H4 := Lib.hid h4
      clear h4 HPUT H3
      go_wp2_with fail
      refine (own_drop H4.out q1 q2).mono ?_
      rintro e w5 ⟨rfl, h5⟩
      rw [I4.out]
      rw [I5.out] at h5
      obtain ⟨k0, k1⟩ := kb_cells h5 (.tail _ (.tail _ (.head _)))
      have H5 := Lib.hid h5
      clear h5 H4
      go_wp2_with fail
      refine (own_drop H5.out q1 q2).mono ?_
      rintro e w6 ⟨rfl, h6⟩
      rw [HO.out]
      rw [del_none HO.out] at h6
      have H6 := Lib.hid h6
      clear h6 H5 k0 k1
      go_wp2_with fail
      refine (own_all H6.out).mono ?_
      rintro e w7 ⟨vb, rfl, h7⟩
      rw [← HN.out] at h7
      obtain ⟨ba, bc, rfl⟩ := own_slice h7.row
      have hs := same_any _ _ n n E E w7 HN.out.symm HN.out.symm (ownsR_of h7.row) h7.third.rowR (by omega) (by omega)
      rw [decide_eq_true rfl] at hs
      have HS := Lib.hid hs
      have H7 := Lib.hid h7.drop
      clear h7 hs H6
      go_wp2_with fail
      refine (HS.out).mono ?_
      rintro e w8 ⟨rfl, hx8⟩
      have H8 := Lib.hid (H7.out.step hx8)
      clear hx8 H7 HS
      go_wp2_with fail
      go_meet
      case rel => exact ⟨rfl, H8.out⟩
  case rest =>
    obtain ⟨rfl, h⟩ := hcut
    clear H3
    have hb1 : n * 24 ≤ 140737488355328 := by omega
    have h2 : Own (RowR 31 3 (.slice (some ⟨wc.heap.size, 0, none⟩) 0 0) 0 [] :: [Tree p 60 E, RowR 31 3 (.slice ea n ec) n (ents E), KB kb q1 q2, Old w]) (wc.alloc (.cells #[] 31)) :=
      h.new ((Ext.refl wc).alloc _) (P := RowR 31 3 (.slice (some ⟨wc.heap.size, 0, none⟩) 0 0) 0 []) (s := fun b => b = wc.heap.size)
        ⟨⟨rfl, .inr ⟨wc.heap.size, 0, #[], rfl, heap_alloc_new wc _, Nat.le_refl _, by simp [maxLen], by simp, by simp⟩⟩, fun b => by simp [Value.ownBlock, eq_comm]⟩ (fun b hb => by rw [hb]; exact Nat.le_refl _)
    have H2 := Lib.hid h2
    have HL := Lib.hid (show (ents E).length = n * 3 by rw [ents_len, ← HN.out])
    have hwas := h.second.rowR.2
    have HON : Hid (∀ u ∈ ents E, u.oneCell' = true) := Lib.hid (ents_one E)
    clear h h2
    go_upto_region 11 with fail
    go_cut [15] (fun s wx => Own [RowR 31 3 s n (ents E), Tree p 60 E, KB kb q1 q2, Old w] wx)
    case first =>
      rcases hwas with ⟨hv, hn0⟩ | ⟨g, cap, cur, hv, -, hc1, hc2, -, -⟩
      · injection hv with e1 e2 e3
        subst e1 e3
        have hE0 : ents E = [] := by
          have := HL.out
          rw [hn0] at this
          exact List.length_eq_zero_iff.1 this
        have HE0 := Lib.hid hE0
        subst hn0
        clear hE0 e2
        go_wp2_with (at_builtin; refine app_nil _ rfl _ _ _ _ _ 3 24 rfl Try.underlying28 infoEntry _ _ _ rfl rfl H2.out.rowR ?_)
        go_meet
        case rel => exact (by rw [HE0.out]; exact H2.out.third.drop)
      · injection hv with e1 e2 e3
        subst e1 e3
        have HS : Hid (∀ j u, (ents E)[j]? = some u → (wc.alloc (.cells #[] 31)).cell? ((⟨g, 0, none⟩ : Addr).add j) = some u) := Lib.hid (fun j u hj => by
          rw [add_plain]
          exact (H2.out.third.rowR.cells rfl j u hj).1)
        have M1 := Lib.hid (show 0 + n ≤ maxLen by simp only [maxLen]; omega)
        have M2 := Lib.hid (show (0 + n) * 24 ≤ 140737488355328 by omega)
        clear hc1 hc2 e2
        go_wp2_with (at_builtin; refine app_R _ rfl _ _ _ _ _ 3 24 rfl Try.underlying28 infoEntry rfl (by omega) _ 0 [] rfl ⟨g, 0, none⟩ n _ (ents E) rfl HL.out HS.out HON.out H2.out.rowR M1.out M2.out ?_; intro v1 w3 hown hgrow hmv; rw [Nat.zero_add, List.nil_append] at hown; have H3 := Lib.hid (H2.out.rowRGrown hown rfl hgrow hmv); clear hown hgrow hmv)
        go_meet
        case rel => exact H3.out.third.drop
    case rest =>
    clear hwas H2 HL
    have HC := Lib.hid hcut
    clear hcut
    go_upto_block 0 with fail
    go_cut [16] (fun s wx => Own [Tree p 60 [], KB kb q1 q2, Old w] wx)
    case first =>
      as_aux_lemma =>
      go_wp2_with fail
      go_loopw [15, 16] (fun v15 v16 wr => BL w p kb n q1 q2 v15 v16 wr) (fun _ v16 _ => n - (intOf v16).toNat)
      case atStart => exact ⟨0, n, E, E, rfl, HN.out.symm, by omega, List.Perm.refl _, HC.out⟩
      case round =>
        clear HC
        obtain ⟨i, m, L, E2, rfl, hL, him, hperm, h⟩ := hrel
        obtain ⟨la, lc, hla⟩ := h.rowR.slice
        subst hla
        have H := Lib.hid h
        have HPM := Lib.hid hperm
        have HLL := Lib.hid hL
        by_cases hm : 0 < m
        · have hmI : (0 : Int) < (m : Int) := by omega
          have hx := h.ext (w0 := w) (by simp)
          have HX := Lib.hid hx
          clear h hperm hL hx
          go_upto_if 83 with fail
          go_cut [17] (fun s wx => ∃ k : Nat, s = .int .i64 (k : Int) ∧ k < m ∧ wr = wx)
          case first =>
            by_cases hN0 : 0 < N
            · have hNI : (0 : Int) < (N : Int) := by omega
              obtain ⟨b, off, rfl, hb, hcs⟩ := HBY.out (by omega)
              obtain ⟨q, hq⟩ : ∃ q, q = i % N := ⟨_, rfl⟩
              have hqN : q < N := by rw [hq]; exact Nat.mod_lt _ hN0
              obtain ⟨x, hx⟩ : ∃ x, bs[q]? = some x := ⟨_, List.getElem?_eq_getElem (by rw [← HNB.out]; exact hqN)⟩
              obtain ⟨hx255, c0⟩ := hcs q x hx
              replace c0 := HX.out.cell c0
              obtain ⟨k, hk⟩ : ∃ k, k = x % m := ⟨_, rfl⟩
              have hkm : k < m := by rw [hk]; exact Nat.mod_lt _ hm
              have e1 : (i : Int) % (N : Int) = (q : Int) := by rw [hq]; rfl
              have e2 : (x : Int) % (m : Int) = (k : Int) := by rw [hk]; rfl
              have hqI : (q : Int) < (N : Int) := by omega
              clear hcs hx hq hk hb
              go_wp2_with fail
              go_meet
              case rel => exact ⟨k, by first | rfl | rw [e2], hkm, by first | rfl | trivial⟩
            · have hNI : decide ((0 : Int) < (N : Int)) = false := by simp; omega
              have hNN : N = 0 := by omega
              subst hNN
              go_wp2_with fail
              go_meet
              case rel => exact ⟨0, rfl, hm, by first | rfl | trivial⟩
          case rest =>
          obtain ⟨k, rfl, hkm, rfl⟩ := hcut
          obtain ⟨e, he⟩ : ∃ e, L[k]? = some e := ⟨_, List.getElem?_eq_getElem (by rw [HLL.out]; exact hkm)⟩
          obtain ⟨d1, d2, d3, d4⟩ := drop_there (rising_of H.out.swap).1 HPM.out he
          have hE2 : E2.length = m := by rw [← HPM.out.length_eq, HLL.out]
          rw [hE2] at d4
          obtain ⟨E3, hE3⟩ : ∃ E3, E3 = del E2 e.1 := ⟨_, rfl⟩
          rw [← hE3] at d2 d3 d4
          obtain ⟨g, cp, ev, hc1, hc2⟩ := H.out.rowR.form hm
          injection ev with e1 _ e3
          subst e1 e3
          unfold maxLen at hc2
          obtain ⟨r0, r1, r2⟩ := rowEnt H.out.rowR he
          have hdrop := own_drop H.out.swap e.1.1 e.1.2
          rw [show look E2 (e.1.1, e.1.2) = some e.2 from d1, show del E2 (e.1.1, e.1.2) = E3 from hE3.symm] at hdrop
          obtain ⟨⟨a3, s3⟩, u3⟩ := e
          simp only at r0 r1 r2 hdrop d1
          have HDR := Lib.hid hdrop
          have HP3 := Lib.hid d2
          have HL3 := Lib.hid d4
          have hkI : (k : Int) < (m : Int) := by omega
          have hm60 : m ≤ 60 := by omega
          have HAT : Hid (∀ W, ownsR W 31 3 (.slice (some ⟨g, 0, none⟩) m lc) m (ents L) → W.cell? ⟨g, k * 3 + 2, none⟩ = some (.int .i64 u3)) := Lib.hid (fun W hW => (rowEnt hW he).2.2)
          clear hdrop d1 d2 d3 d4 hE2 hE3 he H HPM HLL
          go_wp2_with fail
          refine (HDR.out).mono ?_
          rintro e' w4 ⟨rfl, h4⟩
          have H4 := Lib.hid h4
          clear h4 HDR r0 r1 r2
          go_wp2_with fail
          refine (own_shape H4.out).mono ?_
          rintro e' w5 ⟨vs, Z, rfl, hsh, h5⟩
          obtain ⟨M, hM⟩ : ∃ M, M = Z.length := ⟨_, rfl⟩
          have hMm : M + 1 = m := by rw [hM, hsh.len]; exact HL3.out
          rw [← hM] at h5
          obtain ⟨sa, sc, rfl⟩ := h5.rowR.slice
          obtain ⟨bh, hw⟩ := hsh.wk
          rw [← hM] at hw
          have HW := Lib.hid (walk_any h5.rowR hM.symm (by omega) hw (Nat.le_refl _))
          have r2 := HAT.out _ h5.third.rowR
          have f1 : (m : Int) - 1 = (M : Int) := by omega
          have f2 : (0 : Int) ≤ (bh : Int) := by omega
          have f3 : decide ((bh : Int) < 0) = false := by simp
          have H5 := Lib.hid h5.drop.swap
          clear hsh h5 hw hM H4
          obtain ⟨w6, hw6⟩ : ∃ w6, w6 = w5 := ⟨_, rfl⟩
          have h6 := H5.out.step (Ext.refl w5).drew
          have hrow := h6.rowR
          have hcells := hrow.cells rfl
          have hus : (ents L).length = m * 3 := hrow.1
          obtain ⟨A, hA, hnews⟩ : ∃ A : Addr, (if lc = k + 1 then some (⟨g, 0, none⟩ : Addr) else some ⟨g, (k + 1) * 3, none⟩) = some A ∧ Hid (∀ j u, ((ents L).drop ((k + 1) * 3))[j]? = some u → w5.drew.cell? (A.add j) = some u) := by
            by_cases h : lc = k + 1
            · refine ⟨⟨g, 0, none⟩, by simp [h], fun j u hu => ?_⟩
              rw [List.drop_eq_nil_of_le (by omega)] at hu
              simp at hu
            · refine ⟨⟨g, (k + 1) * 3, none⟩, by simp [h], fun j u hu => ?_⟩
              rw [List.getElem?_drop] at hu
              rw [Addr.add_lit]
              exact (hcells _ _ hu).1
          have HY := Lib.hid (show ((ents L).drop ((k + 1) * 3)).length = (m - (k + 1)) * 3 by rw [List.length_drop, hus]; omega)
          have H1C : Hid (∀ u ∈ (ents L).drop ((k + 1) * 3), u.oneCell' = true) := Lib.hid (fun u hu => ents_one L u (List.drop_subset _ _ hu))
          have HROW : Hid (ownsR w5.drew 31 3 (.slice (some ⟨g, 0, none⟩) k k) k ((ents L).take (k * 3))) := Lib.hid (hrow.cut (k := k) (c := k) (by omega) (Nat.le_refl _) (by omega))
          have HUS := Lib.hid (ents_erase L k)
          have HLE : Hid (k + (m - (k + 1)) = M) := Lib.hid (by omega)
          have HQ : Hid (∀ v1 w1, ownsR w1 31 3 v1 M (ents (L.eraseIdx k)) → w5.drew.grownBy w1 (Value.slice (some ⟨g, 0, none⟩) k k).ownBlock → Moved w5.drew (.slice (some ⟨g, 0, none⟩) k k) v1 → BL w p kb n q1 q2 v1 (.int .i64 ((i : Int) + 1)) w1) :=
            Lib.hid (fun v1 w1 hown hg hm => ⟨i + 1, M, L.eraseIdx k, E3, by go_num, by rw [HP3.out.length_eq]; have := HL3.out; omega, by omega, HP3.out, h6.rowRGrown hown rfl hg hm⟩)
          have hp0 : (0 : Int) ≤ (k : Int) + 1 := by omega
          have hp1 : (k : Int) + 1 ≤ (m : Int) := by omega
          have hp2 : ((k : Int) + 1).toNat = k + 1 := by omega
          have hp3 : (k : Int) ≤ (lc : Int) := by omega
          have hp4 : (k : Int) ≤ (m : Int) := by omega
          have hwr : IntKind.i64.wrap ((k : Int) + 1) = (k : Int) + 1 := by rw [IntKind.wrap_i64]; omega
          have H63 : Hid (k + (m - (k + 1)) ≤ maxLen) := Lib.hid (by simp only [maxLen]; omega)
          have H47 : Hid ((k + (m - (k + 1))) * 24 ≤ 140737488355328) := Lib.hid (by omega)
          clear h6 hrow hcells hus hw6
          go_wp2_with fail
          refine (HW.out).mono ?_
          rintro e' w' ⟨rfl, rfl⟩
          go_wp2_with fail
          go_region_held3 (fun _ => True)
            (first | trivial | go_keep)
            ((refine step_app_R w5.drew rfl (.tmp 136) (.tmp 140) 28 31 (.agg #[.int .u64 0, .int .u64 0, .int .i64 0]) 3 24 rfl Try.underlying28 infoEntry rfl (by decide) (.slice (some ⟨g, 0, none⟩) k k) k ((ents L).take (k * 3)) (by simp [Act.eval, Act.put]) A (m - (k + 1)) (lc - (k + 1)) ((ents L).drop ((k + 1) * 3)) (by simp [Act.eval, Act.put]) HY.out hnews.out H1C.out HROW.out H63.out H47.out ?_; intro v1 w8 hown hgrow hmv; rw [HUS.out, HLE.out] at hown; have H8 := Lib.hid (HQ.out _ _ hown hgrow hmv); clear hown hgrow hmv))
          go_wp2_with fail
          exact ⟨H8.out, by simp [intOf]; omega⟩
        · obtain rfl : m = 0 := by omega
          have hE2 : E2 = [] := by
            have : L = [] := List.length_eq_zero_iff.1 hL
            rw [this] at hperm
            exact List.nil_perm.1 hperm
          rw [hE2] at h
          have HF := Lib.hid h.drop
          clear h H HPM HLL hperm hE2 hm
          go_wp2_with fail
          go_meet
          case rel => exact HF.out
    case rest =>
    clear HC
    have H := Lib.hid hcut
    clear hcut
    go_wp2_with fail
    refine (own_first H.out).mono ?_
    rintro e w3 ⟨rfl, h3⟩
    have H3 := Lib.hid (h3.step ((Ext.refl w3).alloc (.cells #[.int .u64 0, .int .u64 0, .int .i64 0] 31)))
    clear h3 H
    rw [show entO ([] : List En).head? = ent 0 0 0 from rfl, show ([] : List En).head?.isSome = false from rfl]
    go_wp2_with fail
    go_loopw [147] (fun vi wr => ∃ (i : Nat) (F : List En), vi = .int .u64 (i : Int) ∧ i ≤ 60 ∧ Sixty F i ∧ Own [Tree p 60 F, KB kb q1 q2, Old w] wr) (fun vi _ => 60 - (intOf vi).toNat)
    case atStart => exact ⟨0, [], rfl, by omega, sixty_zero, H3.out⟩
    case round =>
      clear H3
      obtain ⟨i, F, rfl, hi, h60, h⟩ := hrel
      by_cases hlt : i < 60
      · have hltI : (i : Int) < 60 := by omega
        obtain ⟨p1, p2⟩ := sixty_step h60 hlt
        obtain ⟨K, hK⟩ : ∃ K, K = i * 7 % 60 := ⟨_, rfl⟩
        have hKI : (i : Int) * 7 % 60 = (K : Int) := by rw [hK]; rfl
        rw [← hK] at p1 p2
        have hput := own_put h (K : Int) 0 0
        rw [p1] at hput
        have HPUT := Lib.hid hput
        have P2 := Lib.hid p2
        clear hput p1 p2 h h60 hK
        go_wp2_with fail
        refine (HPUT.out).mono ?_
        rintro e w4 ⟨rfl, h4⟩
        have H4 := Lib.hid h4
        clear h4 HPUT
        go_wp2_with fail
        exact ⟨⟨i + 1, _, by go_num, by omega, P2.out, H4.out⟩, by simp [intOf]; omega⟩
      · obtain rfl : i = 60 := by omega
        obtain ⟨f1, f2⟩ := sixty_full h60
        have hput := own_put h 99 0 0
        rw [f1, f2] at hput
        have HPUT := Lib.hid hput
        have HL6 := Lib.hid h60.len
        clear hput f1 f2 h h60 hlt hi
        go_wp2_with fail
        refine (HPUT.out).mono ?_
        rintro e w4 ⟨rfl, h4⟩
        have hlen := own_len h4
        rw [HL6.out] at hlen
        have HLEN := Lib.hid hlen
        have H4 := Lib.hid h4
        clear h4 HPUT hlen
        go_wp2_with fail
        refine (HLEN.out).mono ?_
        rintro e w' ⟨rfl, rfl⟩
        go_wp2_with fail
        refine (awake_any H4.out).mono ?_
        rintro e w8 ⟨rfl, h8⟩
        have H8 := Lib.hid h8
        clear h8 H4
        go_wp2_with fail
        go_ret
        exact ⟨rfl, H8.out.ext (by simp)⟩
theorem back_row (v : Value) (q1 q2 : Int) (v2 : Value) (x : Nat × (Nat → Op)) (bs : List Nat) (wf1 : (Lit.int .u64 q1).wf = true) (wf2 : (Lit.int .u64 q2).wf = true) (w : World) (ho : Ops w v x.1 x.2) (hb : Bytes w v2 bs) :
    Calls Try.prog 7 #[v, .agg #[.int .u64 q1, .int .u64 q2], v2] w fun e w' => e = .returned (.bool true) ∧ Ext w w' := back_of v q1 q2 v2 x.1 x.2 bs w ho hb
end Go.Proofs.Ytekdahppacghbaa.Tr
