/- DERIVED. Layer 14 (table): the document's tables: contract of Find. -/
import Derived.Test.YtkdmlpigkmlkmaaTcG
set_option linter.unusedVariables false
set_option linter.unusedSimpArgs false
set_option maxRecDepth 100000
namespace Go.Proofs.Ytkdmlpigkmlkmaa.Tb
open Go.RowKit Go.Proofs.Ytkdmlpigkmlkmaa Go.Proofs.Ytkdmlpigkmlkmaa.TreeP Go.Proofs.Ytkdmlpigkmlkmaa.Tr Go.Proofs.Ytkdmlpigkmlkmaa.Bk

theorem Own.rCut {e size n g cap k : Nat} {xs : List Value} {l : List HP} {w : World} (h : Own (RowR e size (.slice (some ⟨g, 0, none⟩) n cap) n xs :: l) w) (hk : k ≤ n) (hkc : k ≤ cap) : Own (RowR e size (.slice (some ⟨g, 0, none⟩) k cap) k (xs.take (k * size)) :: l) w := by
  obtain ⟨s, hP, hb, K⟩ := h.open
  exact K (Step.refl s w) (s' := s) ⟨hP.1.cut hk hkc (Nat.le_refl _), hP.2⟩ (fun b hb => .inl hb)
theorem ints_drop (G : List Nat) : (Tr.ints G).take ((G.length - 1) * 1) = Tr.ints G.dropLast := by
  unfold Tr.ints
  rw [Nat.mul_one, ← List.map_take, List.dropLast_eq_take]
/-- the document's table that stands for S -/
abbrev Dc (vL vG : Value) (S : T) (l : List HP) : List HP := DRR vL (docL 0 S.rows).length (docL 0 S.rows) :: DGG vG S.X.bk :: l
theorem found_own {n M : Nat} {S : T} (h : TI n M S) {i : Nat} {d : DR} (hd : (docL 0 S.rows)[i]? = some d) (sock cookie fi : Int) (hs : d.f.s = sock) (hc : d.f.c = cookie) : foundT n sock cookie fi S = ⟨S, (d.k : Int), 0, 0⟩ := by
  obtain ⟨r, hr, he⟩ := doc_at hd
  have e1 : d.f = r.f := by rw [he]
  have hl := h.look_row hr
  rw [← e1, hs] at hl
  unfold foundT
  rw [hl]
  simp only [Int.toNat_natCast, hr]
  rw [if_pos (by rw [← e1]; exact hc)]
theorem found_as {n M : Nat} {S : T} (h : TI n M S) {i : Nat} {d : DR} (hd : (docL 0 S.rows)[i]? = some d) (sock cookie fi : Int) (hs : d.f.s = sock) (hc : d.f.c ≠ cookie) :
    (foundT n sock cookie fi S).f = (d.k : Int) ∧ (foundT n sock cookie fi S).kind = 2 ∧ (foundT n sock cookie fi S).err = 0 ∧ docL 0 (foundT n sock cookie fi S).S.rows = withD (docL 0 S.rows) ⟨d.k, { bornF sock cookie fi with ag := d.f.ag }, d.q⟩ ∧ (foundT n sock cookie fi S).S.X = S.X := by
  obtain ⟨r, hr, he⟩ := doc_at hd
  have e1 : d.f = r.f := by rw [he]
  have e2 : d.q = r.q := by rw [he]
  have hl := h.look_row hr
  rw [← e1, hs] at hl
  unfold foundT
  rw [hl]
  simp only [Int.toNat_natCast, hr]
  rw [if_neg (by rw [← e1]; exact hc)]
  refine ⟨rfl, rfl, rfl, ?_, rfl⟩
  simp only
  rw [set_doc h hr, e1, e2]
theorem look_doc {n M : Nat} {S : T} (h : TI n M S) {sock : Int} (hn : ∀ d ∈ docL 0 S.rows, d.f.s ≠ sock) : Tr.look S.R (sock, 0) = none := by
  cases hl : Tr.look S.R (sock, 0) with
  | none => rfl
  | some v =>
    obtain ⟨k, r, hr, -, hs⟩ := (h.look sock v).1 hl
    exact absurd hs (hn _ (doc_of hr))
theorem found_full {n M : Nat} {S : T} (h : TI n M S) (sock cookie fi : Int) (hn : ∀ d ∈ docL 0 S.rows, d.f.s ≠ sock) (hu : n ≤ (docL 0 S.rows).length) : foundT n sock cookie fi S = ⟨S, 0, 0, 140⟩ := by
  rw [doc_len h, ← h.cnt] at hu
  have := h.ok.used_le
  have := h.room
  unfold foundT
  rw [look_doc h hn]
  simp only
  rw [if_pos (by omega)]
theorem found_new {n M : Nat} {S : T} (h : TI n M S) (sock cookie fi : Int) (hn : ∀ d ∈ docL 0 S.rows, d.f.s ≠ sock) (hu : (docL 0 S.rows).length < n) : foundT n sock cookie fi S = ⟨newT S (bornF sock cookie fi), ((Ar.tq S.X : Nat) : Int), 1, 0⟩ ∧ S.X.used < n := by
  rw [doc_len h, ← h.cnt] at hu
  unfold foundT
  rw [look_doc h hn]
  simp only
  rw [if_neg (by omega)]
  exact ⟨rfl, hu⟩
theorem dinf {n M : Nat} {S : T} (h : TI n M S) : ∀ d ∈ docL 0 S.rows, InF d.f := fun d hd => by
  obtain ⟨i, r, h1, h2⟩ := doc_mem.1 hd
  rw [h2]
  exact (h.hd i r h1).2.2
theorem dlen {n M : Nat} {S : T} (h : TI n M S) : (docL 0 S.rows).length ≤ n ∧ S.X.bk.length ≤ n ∧ S.X.st.length ≤ n := by
  rw [doc_len h, ← h.cnt]
  have h1 := h.ok.used_le
  have h2 := h.room
  have h3 := h.ok.sum
  have h4 := h.ok.len
  omega
theorem tq_cases (X : Ar.A) : (X.bk = [] ∧ Ar.tq X = X.st.length) ∨ (X.bk ≠ [] ∧ ∀ d, X.bk[X.bk.length - 1]? = some d → Ar.tq X = d) := by
  by_cases h : X.bk = []
  · exact .inl ⟨h, by unfold Ar.tq; rw [if_pos h]⟩
  · refine .inr ⟨h, fun d hd => ?_⟩
    unfold Ar.tq
    rw [if_neg h, List.getLastD_eq_getLast?, List.getLast?_eq_getElem?, hd]
    rfl

def FiI (LL : List HP) (L : List DR) (n : Nat) (sock : Int) (s15 : Value) (wr : World) : Prop :=
  ∃ k : Nat, s15 = .int .i64 (k : Int) ∧ k ≤ n ∧ (∀ j d, j < k → L[j]? = some d → d.f.s ≠ sock) ∧ Own LL wr
set_option maxHeartbeats 8000000 in
theorem rfind_any {vL vG : Value} {n bits M : Nat} {keep : Int} {S : T} {l : List HP} {w : World} (ht : TI n M S) (hb : bits ≤ 10) (hk : 0 ≤ keep ∧ keep ≤ 18446744073709551615) (h : Own (Dc vL vG S l) w) (sock cookie now qu fi rf mo lo : Int) (s0 : 0 ≤ sock) (s1 : sock < 18446744073709551616) :
    Calls Try.prog 31 #[dv n bits keep vL vG S.X.st.length, .int .u64 sock, .int .u64 cookie, .int .u64 now, .agg #[.int .i64 qu, .int .i64 fi, .int .u64 rf, .int .u64 mo, .int .u64 lo]] w fun e w' =>
      ∃ vL' vG', e = .returned (.tuple #[dv n bits keep vL' vG' (findT n bits keep sock cookie now fi S).S.X.st.length, .int .i64 (findT n bits keep sock cookie now fi S).f, .int .u8 (findT n bits keep sock cookie now fi S).kind, .int .i64 (findT n bits keep sock cookie now fi S).err]) ∧ Own (Dc vL' vG' (findT n bits keep sock cookie now fi S).S l) w' := by
  obtain ⟨b1, b2, b3⟩ := dlen ht
  have n2 := ht.n2
  obtain ⟨va0, vc0, rfl⟩ := h.rowR.slice
  obtain ⟨ga0, gc0, rfl⟩ := h.swap.rowR.slice
  obtain ⟨n0, hn0⟩ : ∃ n0, n0 = (docL 0 S.rows).length := ⟨_, rfl⟩
  obtain ⟨g0, hg0⟩ : ∃ g0, g0 = S.X.bk.length := ⟨_, rfl⟩
  rw [← hn0, ← hg0] at h
  rw [← hn0, ← hg0]
  rw [← hn0] at b1
  obtain ⟨u, hu⟩ : ∃ u, u = S.X.st.length := ⟨_, rfl⟩
  rw [← hu]
  rw [← hu] at b3
  have hcd := collT_doc (bits := bits) (keep := keep) (now := now) (sock := sock) ht
  have ht1 := collT_ok (bits := bits) (keep := keep) (now := now) (sock := sock) ht
  obtain ⟨S1, hS1⟩ : ∃ S1, S1 = collT bits keep now sock S := ⟨_, rfl⟩
  rw [← hS1] at hcd ht1
  obtain ⟨F, hF⟩ : ∃ F, F = findT n bits keep sock cookie now fi S := ⟨_, rfl⟩
  have hF1 : F = foundT n sock cookie fi S1 := by rw [hF, hS1]; rfl
  rw [← hF]
  obtain ⟨b, hbb⟩ : ∃ b, w.heap.size = b := ⟨_, rfl⟩
  obtain ⟨W1, hW1, hs1, h1⟩ := boxT h hbb n bits keep (.slice va0 n0 vc0) (.slice ga0 g0 gc0) u
  have h2 := Go.Proofs.Ytkdmlpigkmlkmaa.Own.blkNew h1 #[.int .i64 qu, .int .i64 fi, .int .u64 rf, .int .u64 mo, .int .u64 lo] 30
  rw [hs1] at h2
  obtain ⟨W2, hW2⟩ : ∃ W, W1.alloc (.cells #[.int .i64 qu, .int .i64 fi, .int .u64 rf, .int .u64 mo, .int .u64 lo] 30) = W := ⟨_, rfl⟩
  have hs2 : W2.heap.size = b + 1 + 1 := by rw [← hW2, World.size_alloc, hs1]
  rw [hW2] at h2
  obtain ⟨W3, hW3, hs3, h3⟩ := boxZ h2 hs2
  -- Z :: P :: T :: DRR :: DGG :: l
  have h4 : Own (DRR (.slice va0 n0 vc0) n0 (docL 0 S.rows) :: DGG (.slice ga0 g0 gc0) S.X.bk :: BD (b + 1 + 1) 0 0 0 nilv nilv 0 :: BPc (b + 1) qu fi rf mo lo :: BD b n bits keep (.slice va0 n0 vc0) (.slice ga0 g0 gc0) u :: l) W3 := by
    have := h3.fourth.tail OwnIn.fourth
    rw [← hn0] at this
    exact this
  obtain ⟨c0, c1, c2, c3, c4, c5, -⟩ := bd_cells h4 (b := b) (n := n) (bits := bits) (keep := keep) (vL := .slice va0 n0 vc0) (vG := .slice ga0 g0 gc0) (u := u) (.tail _ (.tail _ (.tail _ (.tail _ (.head _)))))
  have HCL := Lib.hid (rcoll_any (N := n) (u := u) h4 hn0.symm (by omega) (by omega) (doc_uniqD S) (dinf ht) hb hk sock now s0 s1)
  rw [hcd.1] at HCL
  have hst : S1.X.st.length = u := by rw [hcd.2, hu]
  have HST := Lib.hid hst
  have HT1 := Lib.hid ht1
  have HF1 := Lib.hid hF1
  have HB := Lib.hid hbb
  have HW1 := Lib.hid hW1
  have HW2 := Lib.hid hW2
  have HW3 := Lib.hid hW3
  clear h h1 h2 h3 h4 hn0 hg0 hu hcd ht1 hS1 hF hF1 hbb hW1 hW2 hW3 hs1 hs2 hs3 hst hb hk ht
  go_enter Try.func31, Try.ntmps31
  go_upto_region 1 with fail
  rw [HB.out, HW1.out, HW2.out, HW3.out]
  clear HB HW1 HW2 HW3
  go_wp2_with fail
  (with_reducible refine (HCL.out).mono ?_)
  rintro e w2 ⟨v1, v2, rfl, h5⟩
  clear HCL c0 c1 c2 c3 c4 c5
  obtain ⟨L1, hL1⟩ : ∃ L1, L1 = docL 0 S1.rows := ⟨_, rfl⟩
  obtain ⟨G1, hG1⟩ : ∃ G1, G1 = S1.X.bk := ⟨_, rfl⟩
  obtain ⟨b4, b5, -⟩ := dlen HT1.out
  rw [← hL1, ← hG1] at h5
  rw [← hL1] at b4
  rw [← hG1] at b5
  obtain ⟨va, vc, rfl⟩ := h5.rowR.slice
  obtain ⟨ga, gc, rfl⟩ := h5.swap.rowR.slice
  obtain ⟨n1, hn1⟩ : ∃ n1, n1 = L1.length := ⟨_, rfl⟩
  obtain ⟨g1, hg1⟩ : ∃ g1, g1 = G1.length := ⟨_, rfl⟩
  rw [← hn1, ← hg1] at h5 ⊢
  rw [← hn1] at b4
  rw [← hg1] at b5
  obtain ⟨c0, c1, c2, c3, c4, c5, f0, f1, f2, f3, f4, f5⟩ := bd_cells h5 (b := b) (n := n) (bits := bits) (keep := keep) (vL := .slice va0 n0 vc0) (vG := .slice ga0 g0 gc0) (u := u) (.tail _ (.tail _ (.tail _ (.tail _ (.head _)))))
  obtain ⟨w3, e3, h6⟩ := Own.bdSet (n' := n) (bits' := bits) (keep' := keep) (vL' := .slice va n1 vc) (vG' := .slice ga g1 gc) (u' := u) h5.fifth
  obtain ⟨q0, q1, q2, q3, q4⟩ := bpc_cells h6 (b := b + 1) (qu := qu) (fi := fi) (rf := rf) (mo := mo) (lo := lo) (.tail _ (.tail _ (.tail _ (.tail _ (.head _)))))
  have HBO := Lib.hid (rborn_any sock cookie qu fi rf mo lo h6.back5)
  have HL1 := Lib.hid hL1
  have HG1 := Lib.hid hG1
  have HN1 := Lib.hid hn1
  have HGG := Lib.hid hg1
  clear h5 h6 hL1 hG1 hn1 hg1
  go_wp2_with fail
  (with_reducible refine (HBO.out).mono ?_)
  rintro e w4 ⟨rfl, h7⟩
  clear HBO c0 c1 c2 c3 c4 c5 f0 f1 f2 f3 f4 f5 q0 q1 q2 q3 q4 e3
  obtain ⟨c, hc⟩ : ∃ c, w4.heap.size = c := ⟨_, rfl⟩
  obtain ⟨W5, hW5, hs5, h8⟩ := boxF h7 hc (bornF sock cookie fi)
  obtain ⟨LL, hLL⟩ : ∃ LL, LL = DRR (.slice va n1 vc) n1 L1 :: DGG (.slice ga g1 gc) G1 :: BF c (bornF sock cookie fi) :: BD (b + 1 + 1) 0 0 0 nilv nilv 0 :: BPc (b + 1) qu fi rf mo lo :: BD b n bits keep (.slice va n1 vc) (.slice ga g1 gc) u :: l := ⟨_, rfl⟩
  have h9 : Own LL W5 := by rw [hLL]; exact h8.swap.tail OwnIn.swap
  have HLL := Lib.hid hLL
  have H9 := Lib.hid h9
  have HC := Lib.hid hc
  have HW5 := Lib.hid hW5
  have HT : Hid (∀ w', Own LL w' → w'.cell? ⟨b, 0, none⟩ = some (.int .i64 (n : Int)) ∧ w'.cell? ⟨b, 1, none⟩ = some (.int .i64 (bits : Int)) ∧ w'.cell? ⟨b, 2, none⟩ = some (.int .u64 keep) ∧ w'.cell? ⟨b, 3, none⟩ = some (.slice va n1 vc) ∧ w'.cell? ⟨b, 4, none⟩ = some (.slice ga g1 gc) ∧ w'.cell? ⟨b, 5, none⟩ = some (.int .i64 (u : Int))) := Lib.hid fun w' h' => by
    rw [HLL.out] at h'
    obtain ⟨c0, c1, c2, c3, c4, c5, -⟩ := bd_cells h' (b := b) (n := n) (bits := bits) (keep := keep) (vL := .slice va n1 vc) (vG := .slice ga g1 gc) (u := u) (.tail _ (.tail _ (.tail _ (.tail _ (.tail _ (.head _))))))
    exact ⟨c0, c1, c2, c3, c4, c5⟩
  have HW5 := Lib.hid hW5
  clear h7 h8 h9 hLL hc hW5 hs5
  go_upto_region 3 with fail
  rw [HC.out, HW5.out]
  clear HC HW5
  go_wp2_with fail
  go_loopw [15] (fun s15 wr => FiI LL L1 n1 sock s15 wr) (fun s15 _ => n1 - (intOf s15).toNat)
  case atStart => exact ⟨0, rfl, Nat.zero_le _, fun j d hj => absurd hj (Nat.not_lt_zero j), H9.out⟩
  case round =>
    clear H9
    obtain ⟨k, rfl, hk, hno, h⟩ := hrel
    obtain ⟨c0, c1, c2, c3, c4, c5⟩ := HT.out _ h
    by_cases hlt : k < n1
    · have hltI : (k : Int) < (n1 : Int) := by omega
      obtain ⟨e, he⟩ : ∃ e, L1[k]? = some e := ⟨_, List.getElem?_eq_getElem (by rw [← HN1.out]; exact hlt)⟩
      obtain ⟨g, rfl⟩ : ∃ g, va = some ⟨g, 0, none⟩ := by
        have h' := h
        rw [HLL.out] at h'
        obtain ⟨g, hg, -⟩ := drow h' hlt he
        exact ⟨g, hg⟩
      have h' := h
      rw [HLL.out] at h'
      obtain ⟨g', hg, gc', r0, r1, r2, r3, r4, r5, r6, r7, r8⟩ := drow h' hlt he
      obtain rfl : g = g' := by injection hg with hg; injection hg
      obtain ⟨c2', hc⟩ : ∃ c2', wr.heap.size = c2' := ⟨_, rfl⟩
      obtain ⟨Wc, hWc, hsc, h5⟩ := boxR h hc e
      obtain ⟨y0, y1, y2, y3, y4, y5, y6, y7, y8⟩ := br_cells h5 (.head _)
      obtain ⟨d0, d1, d2, d3, d4, d5⟩ := HT.out _ h5.drop
      have HCC := Lib.hid hc
      have HWC := Lib.hid hWc
      have HE := Lib.hid he
      by_cases hs : e.f.s = sock
      · have hne : (e.f.s != sock) = false := by simp [hs]
        have hdoc : (docL 0 S1.rows)[k]? = some e := by rw [← HL1.out]; exact he
        by_cases hcc : e.f.c = cookie
        · have hceq : (e.f.c == cookie) = true := by simp [hcc]
          have hFv : F = ⟨S1, (e.k : Int), 0, 0⟩ := by rw [HF1.out]; exact found_own HT1.out hdoc sock cookie fi hs hcc
          have hFS : F.S.X.st.length = u := by rw [hFv]; exact HST.out
          have h5f : Own (BR c2' e :: BD (b + 1 + 1) 0 0 0 nilv nilv 0 :: DRR (.slice (some ⟨g, 0, none⟩) n1 vc) n1 L1 :: DGG (.slice ga g1 gc) G1 :: BF c (bornF sock cookie fi) :: BPc (b + 1) qu fi rf mo lo :: BD b n bits keep (.slice (some ⟨g, 0, none⟩) n1 vc) (.slice ga g1 gc) u :: l) Wc := h5.tail (fun hh => by rw [HLL.out] at hh; exact hh.fourth)
          have h5e := h5f.step (Ext.refl Wc).drew
          obtain ⟨v1, v2, v3, v4, v5, v6, ⟨e1, ⟨x1, z1⟩, f1⟩, ⟨e2, ⟨x2, z2⟩, f2⟩, ⟨e3, ⟨x3, z3⟩, f3⟩, ⟨e4, ⟨x4, z4⟩, f4⟩, ⟨e5, ⟨x5, z5⟩, f5⟩, ⟨e6, ⟨x6, z6⟩, f6⟩, h6⟩ := bd_wr (n' := n) (bits' := bits) (keep' := keep) (vL' := .slice (some ⟨g, 0, none⟩) n1 vc) (vG' := .slice ga g1 gc) (u' := u) h5e.swap
          obtain ⟨q0, q1, q2, q3, q4, q5, -⟩ := bd_cells h6 (.head _)
          obtain ⟨t0, -⟩ := br_cells h6 (.tail _ (.head _))
          obtain ⟨p0, -⟩ := br_cells h5e (.head _)
          obtain ⟨k0, k1, k2, k3, k4, k5, -⟩ := bd_cells h5e (b := b) (n := n) (bits := bits) (keep := keep) (vL := .slice (some ⟨g, 0, none⟩) n1 vc) (vG := .slice ga g1 gc) (u := u) (.tail _ (.tail _ (.tail _ (.tail _ (.tail _ (.tail _ (.head _)))))))
          have HF : Hid (Own (Dc (.slice (some ⟨g, 0, none⟩) n1 vc) (.slice ga g1 gc) F.S l) v6) := Lib.hid (by
            have h7 := h6.drop.drop.third.drop.third.drop.third.drop
            rw [hFv]
            show Own (DRR _ (docL 0 S1.rows).length (docL 0 S1.rows) :: DGG _ S1.X.bk :: l) v6
            rw [← HL1.out, ← HG1.out, ← HN1.out]
            exact h7)
          have HFV := Lib.hid hFv
          have HFS := Lib.hid hFS
          clear h h' he hg hc hWc hsc h5 h5f h5e h6 hno hs hcc hdoc hFv hFS
          go_upto_region 7 with fail
          rw [HCC.out, HWC.out]
          clear HCC HWC c0 c1 c2 c3 c4 c5 r0 r1 r2 r3 r4 r5 r6 r7 r8
          go_upto_region 9 with fail
          clear y0 y1 y2 y3 y4 y5 y6 y7 y8 d0 d1 d2 d3 d4 d5
          go_region
          all_goals go_wp2_with fail
          all_goals exact bodyPost_ret (v := .tuple #[dv n bits keep (.slice (some ⟨g, 0, none⟩) n1 vc) (.slice ga g1 gc) u, .int .i64 (e.k : Int), .int .u8 0, .int .i64 0]) (by simp [results, Try.results31, go_sem, q0, q1, q2, q3, q4, q5]) rfl ⟨_, _, by rw [HFS.out, HFV.out], HF.out⟩
        · have hceq : (e.f.c == cookie) = false := by simp [hcc]
          obtain ⟨hf1, hf2, hf3, hf4, hf5⟩ := found_as HT1.out hdoc sock cookie fi hs hcc
          rw [← HF1.out] at hf1 hf2 hf3 hf4 hf5
          obtain ⟨B2, hB2⟩ : ∃ B2, B2 = { bornF sock cookie fi with ag := e.f.ag } := ⟨_, rfl⟩
          rw [← hB2, ← HL1.out] at hf4
          have h5f : Own (BR c2' e :: DRR (.slice (some ⟨g, 0, none⟩) n1 vc) n1 L1 :: DGG (.slice ga g1 gc) G1 :: BF c (bornF sock cookie fi) :: BD (b + 1 + 1) 0 0 0 nilv nilv 0 :: BPc (b + 1) qu fi rf mo lo :: BD b n bits keep (.slice (some ⟨g, 0, none⟩) n1 vc) (.slice ga g1 gc) u :: l) Wc := h5.tail (fun hh => by rw [HLL.out] at hh; exact hh)
          obtain ⟨w6, ⟨e6, ⟨x6, z6⟩, fz6⟩, h6⟩ := bf_set h5f.fourth e.f.ag
          rw [← hB2] at h6
          obtain ⟨s0', s1', s2', s3', s4', s5', s6'⟩ := bf_cells h6 (.head _)
          obtain ⟨-, t1, t2, t3, t4, t5, t6, t7, -⟩ := br_cells h6 (.tail _ (.head _))
          have tf := br_frozen h6 (.tail _ (.head _))
          obtain ⟨w7, e7, h7⟩ := Own.brFlow h6.swap B2
          have h8 : Own (DRR (.slice (some ⟨g, 0, none⟩) n1 vc) n1 L1 :: BR c2' ⟨e.k, B2, e.q⟩ :: BF c B2 :: DGG (.slice ga g1 gc) G1 :: BD (b + 1 + 1) 0 0 0 nilv nilv 0 :: BPc (b + 1) qu fi rf mo lo :: BD b n bits keep (.slice (some ⟨g, 0, none⟩) n1 vc) (.slice ga g1 gc) u :: l) w7 := h7.third
          obtain ⟨K, hK⟩ : ∃ K, K = (withD L1 ⟨e.k, B2, e.q⟩).length := ⟨_, rfl⟩
          obtain ⟨LB, hLB⟩ : ∃ LB, LB = DRR (.slice (some ⟨g, 0, none⟩) n1 vc) n1 L1 :: BR c2' ⟨e.k, B2, e.q⟩ :: BF c B2 :: DGG (.slice ga g1 gc) G1 :: BD (b + 1 + 1) 0 0 0 nilv nilv 0 :: BPc (b + 1) qu fi rf mo lo :: BD b n bits keep (.slice (some ⟨g, 0, none⟩) n1 vc) (.slice ga g1 gc) u :: l := ⟨_, rfl⟩
          have HWI : Hid (∀ w', Own LB w' → Calls Try.prog 68 #[dv n bits keep (.slice (some ⟨g, 0, none⟩) n1 vc) (.slice ga g1 gc) u, drv ⟨e.k, B2, e.q⟩] w' fun x w2 => ∃ aL cL v1 v2 v3 v4 v5 v6, x = .returned (dv n bits keep (.slice aL K cL) (.slice ga g1 gc) u) ∧ (Wr w2 ⟨b + 1 + 1, 0, none⟩ (.int .i64 (n : Int)) v1 ∧ Wr v1 ⟨b + 1 + 1, 1, none⟩ (.int .i64 (bits : Int)) v2 ∧ Wr v2 ⟨b + 1 + 1, 2, none⟩ (.int .u64 keep) v3 ∧ Wr v3 ⟨b + 1 + 1, 3, none⟩ (.slice aL K cL) v4 ∧ Wr v4 ⟨b + 1 + 1, 4, none⟩ (.slice ga g1 gc) v5 ∧ Wr v5 ⟨b + 1 + 1, 5, none⟩ (.int .i64 (u : Int)) v6) ∧ w2.cell? ⟨c2', 0, none⟩ = some (.int .i64 (e.k : Int)) ∧ v6.cell? ⟨c2', 0, none⟩ = some (.int .i64 (e.k : Int)) ∧
              (v6.cell? ⟨b + 1 + 1, 0, none⟩ = some (.int .i64 (n : Int)) ∧ v6.cell? ⟨b + 1 + 1, 1, none⟩ = some (.int .i64 (bits : Int)) ∧ v6.cell? ⟨b + 1 + 1, 2, none⟩ = some (.int .u64 keep) ∧ v6.cell? ⟨b + 1 + 1, 3, none⟩ = some (.slice aL K cL) ∧ v6.cell? ⟨b + 1 + 1, 4, none⟩ = some (.slice ga g1 gc) ∧ v6.cell? ⟨b + 1 + 1, 5, none⟩ = some (.int .i64 (u : Int))) ∧ Own (Dc (.slice aL K cL) (.slice ga g1 gc) F.S l) v6) := Lib.hid fun w' h' => by
            rw [hLB] at h'
            refine (rwith_any (N := n) (bits := bits) (keep := keep) (ga := ga) (gk := g1) (gcc := gc) (u := u) h' HN1.out.symm (by omega) ⟨e.k, B2, e.q⟩).mono ?_
            rintro x w2 ⟨v', rfl, h2⟩
            obtain ⟨aL, cL, rfl⟩ := h2.rowR.slice
            rw [← hK] at h2 ⊢
            obtain ⟨m0, -⟩ := br_cells h2 (.tail _ (.head _))
            obtain ⟨v1, v2, v3, v4, v5, v6, w1, w2', w3, w4, w5, w6, h6⟩ := bd_wr (n' := n) (bits' := bits) (keep' := keep) (vL' := .slice aL K cL) (vG' := .slice ga g1 gc) (u' := u) h2.fifth
            obtain ⟨q0, q1, q2, q3, q4, q5, -⟩ := bd_cells h6 (.head _)
            obtain ⟨m1, -⟩ := br_cells h6 (.tail _ (.tail _ (.head _)))
            refine ⟨aL, cL, v1, v2, v3, v4, v5, v6, rfl, ⟨w1, w2', w3, w4, w5, w6⟩, m0, m1, ⟨q0, q1, q2, q3, q4, q5⟩, ?_⟩
            have h9 := h6.drop.swap.drop.swap.drop.third.drop.third.drop
            show Own (DRR _ (docL 0 F.S.rows).length (docL 0 F.S.rows) :: DGG _ F.S.X.bk :: l) v6
            rw [hf4, hf5, ← HG1.out, ← hK]
            exact h9
          have h9 : Own LB w7 := by rw [hLB]; exact h8
          have h10 := h9.step (Ext.refl w7).drew
          have h11 := h10
          rw [hLB] at h11
          obtain ⟨p0, p1, p2, p3, p4, p5, p6, p7, p8⟩ := br_cells h11 (.tail _ (.head _))
          obtain ⟨k0, k1, k2, k3, k4, k5, -⟩ := bd_cells h11 (b := b) (n := n) (bits := bits) (keep := keep) (vL := .slice (some ⟨g, 0, none⟩) n1 vc) (vG := .slice ga g1 gc) (u := u) (.tail _ (.tail _ (.tail _ (.tail _ (.tail _ (.tail _ (.head _)))))))
          have H10 := Lib.hid h10
          have HFE : Hid (F.f = (e.k : Int) ∧ F.kind = 2 ∧ F.err = 0 ∧ F.S.X.st.length = u) := Lib.hid ⟨hf1, hf2, hf3, by rw [hf5]; exact HST.out⟩
          clear h h' he hg hc hWc hsc h5 h5f h6 h7 h8 h9 h10 h11 hno hs hcc hdoc hf1 hf2 hf3 hf4 hf5 hB2 hK hLB
          go_upto_region 7 with fail
          rw [HCC.out, HWC.out]
          clear HCC HWC c0 c1 c2 c3 c4 c5 r0 r1 r2 r3 r4 r5 r6 r7 r8
          go_upto_region 12 with fail
          clear y0 y1 y2 y3 y4 y5 y6 y7 y8 d0 d1 d2 d3 d4 d5 s0' s1' s2' s3' s4' s5' s6' t1 t2 t3 t4 t5 t6 t7 tf e6 z6 fz6 e7
          go_region_with ((go_at_call 68; (with_reducible refine (HWI.out _ H10.out).mono ?_); rintro x w8 ⟨aL, cL, v1, v2, v3, v4, v5, v6, rfl, ⟨⟨e1, ⟨x1, z1⟩, f1⟩, ⟨e2, ⟨x2, z2⟩, f2⟩, ⟨e3, ⟨x3, z3⟩, f3⟩, ⟨e4, ⟨x4, z4⟩, f4⟩, ⟨e5, ⟨x5, z5⟩, f5⟩, ⟨e6, ⟨x6, z6⟩, f6⟩⟩, m0, m1, ⟨q0, q1, q2, q3, q4, q5⟩, hx⟩; have HX := Lib.hid hx; clear hx))
          all_goals go_wp2_with fail
          all_goals exact bodyPost_ret (v := .tuple #[dv n bits keep (.slice aL K cL) (.slice ga g1 gc) u, .int .i64 (e.k : Int), .int .u8 2, .int .i64 0]) (by simp [results, Try.results31, go_sem, q0, q1, q2, q3, q4, q5]) rfl ⟨_, _, by rw [HFE.out.1, HFE.out.2.1, HFE.out.2.2.1, HFE.out.2.2.2], HX.out⟩
      · have hne : (e.f.s != sock) = true := by simp [hs]
        have HX : Hid (FiI LL L1 n1 sock (.int .i64 ((k : Int) + 1)) Wc) := Lib.hid ⟨k + 1, by go_num, by omega, fun j d hj hd => by
          by_cases hjk : j = k
          · subst hjk
            rw [he] at hd
            injection hd with hd
            rw [← hd]; exact hs
          · exact hno j d (by omega) hd, h5.drop⟩
        clear h h' he hg hc hWc hsc h5 hno hs
        go_upto_region 7 with fail
        rw [HCC.out, HWC.out]
        clear HCC HWC c0 c1 c2 c3 c4 c5 r0 r1 r2 r3 r4 r5 r6 r7 r8
        go_wp2_with fail
        exact ⟨HX.out, by simp [intOf]; omega⟩
    · obtain rfl : k = n1 := by omega
      have hn : ∀ d ∈ docL 0 S1.rows, d.f.s ≠ sock := fun d hd => by
        rw [← HL1.out] at hd
        obtain ⟨j, hj⟩ := List.getElem?_of_mem hd
        exact hno j d (by have := (List.getElem?_eq_some_iff.1 hj).1; rw [← HN1.out] at this; exact this) hj
      rw [HLL.out] at h
      by_cases hfull : n ≤ k
      · have hfI : (n : Int) ≤ (k : Int) := by omega
        have hFv : F = ⟨S1, 0, 0, 140⟩ := by rw [HF1.out]; exact found_full HT1.out sock cookie fi hn (by rw [← HL1.out, ← HN1.out]; exact hfull)
        have hFS : F.S.X.st.length = u := by rw [hFv]; exact HST.out
        obtain ⟨x0, x1, x2, x3, x4, x5, f0, f1, f2, f3, f4, f5⟩ := bd_cells h (b := b + 1 + 1) (n := 0) (bits := 0) (keep := 0) (vL := nilv) (vG := nilv) (u := 0) (.tail _ (.tail _ (.tail _ (.head _))))
        obtain ⟨w4, e4, h4⟩ := Own.bdSet (n' := n) (bits' := bits) (keep' := keep) (vL' := .slice va k vc) (vG' := .slice ga g1 gc) (u' := u) h.fourth
        obtain ⟨q0, q1, q2, q3, q4, q5, -⟩ := bd_cells h4 (.head _)
        have HF : Hid (Own (Dc (.slice va k vc) (.slice ga g1 gc) F.S l) w4) := Lib.hid (by
          have h7 := h4.drop.third.drop.third.drop.third.drop
          rw [hFv]
          show Own (DRR _ (docL 0 S1.rows).length (docL 0 S1.rows) :: DGG _ S1.X.bk :: l) w4
          rw [← HL1.out, ← HG1.out, ← HN1.out]
          exact h7)
        have HFV := Lib.hid hFv
        have HFS := Lib.hid hFS
        clear h h4 hno hn hFv hFS hlt hk hfull
        go_wp2_with fail
        exact bodyPost_ret (v := .tuple #[dv n bits keep (.slice va k vc) (.slice ga g1 gc) u, .int .i64 0, .int .u8 0, .int .i64 140]) (by simp [results, Try.results31, go_sem, q0, q1, q2, q3, q4, q5]) rfl ⟨_, _, by rw [HFS.out, HFV.out], HF.out⟩
      · have hfI : (k : Int) < (n : Int) := by omega
        obtain ⟨hFv, huse⟩ := found_new HT1.out sock cookie fi hn (by rw [← HL1.out, ← HN1.out]; omega)
        rw [← HF1.out] at hFv
        obtain ⟨hd1, hd2, hd3⟩ := new_doc HT1.out huse (bornF sock cookie fi)
        obtain ⟨tq, htq⟩ : ∃ tq, tq = Ar.tq S1.X := ⟨_, rfl⟩
        rw [← htq, ← HL1.out] at hd1
        rw [← htq] at hFv
        rw [← HG1.out] at hd2 hd3
        rw [HST.out] at hd3
        have hkn : (decide (n ≤ k)) = false := by simp; omega
        obtain ⟨y0, y1, y2, y3, y4, y5, y6⟩ := bf_cells h (b := c) (F := bornF sock cookie fi) (.tail _ (.tail _ (.head _)))
        obtain ⟨K, hK⟩ : ∃ K, K = (withD L1 ⟨tq, bornF sock cookie fi, false⟩).length := ⟨_, rfl⟩
        rcases tq_cases S1.X with ⟨hb0, htq0⟩ | ⟨hb0, htq0⟩
        · rw [← HG1.out] at hb0
          obtain rfl : tq = u := by rw [htq, htq0, HST.out]
          rw [if_pos hb0] at hd3
          obtain rfl : g1 = 0 := by rw [HGG.out, hb0]; rfl
          obtain ⟨-, -, -, -, -, -, -, -, -, -, -, z5⟩ := bd_cells h (b := b) (n := n) (bits := bits) (keep := keep) (vL := .slice va k vc) (vG := .slice ga 0 gc) (u := tq) (.tail _ (.tail _ (.tail _ (.tail _ (.tail _ (.head _))))))
          obtain ⟨wt, et, ht'⟩ := Own.bdU (u' := tq + 1) h.sixth
          have et1 : wr.setCell ⟨b, 5, none⟩ (.int .i64 ((tq : Int) + 1)) = wt := et
          obtain ⟨a0, a1, a2, a3, a4, a5, -⟩ := bd_cells ht' (.head _)
          have a5' : wt.cell? ⟨b, 5, none⟩ = some (.int .i64 ((tq : Int) + 1)) := a5
          have hT := ht'.back6
          obtain ⟨s0', s1', s2', s3', s4', s5', s6'⟩ := bf_cells hT (b := c) (F := bornF sock cookie fi) (.tail _ (.tail _ (.head _)))
          have hwi := rwith_any (N := n) (bits := bits) (keep := keep) (ga := ga) (gk := 0) (gcc := gc) (u := tq + 1) hT HN1.out.symm (by omega) ⟨tq, bornF sock cookie fi, false⟩
          rw [← hK] at hwi
          have HWI : Hid (Calls Try.prog 68 #[.agg #[.int .i64 (n : Int), .int .i64 (bits : Int), .int .u64 keep, .slice va k vc, .slice ga 0 gc, .int .i64 ((tq : Int) + 1)], drv ⟨tq, bornF sock cookie fi, false⟩] wt fun x w2 => ∃ aL cL w9, x = .returned (.agg #[.int .i64 (n : Int), .int .i64 (bits : Int), .int .u64 keep, .slice aL K cL, .slice ga 0 gc, .int .i64 ((tq : Int) + 1)]) ∧ (w2.cell? ⟨b + 1 + 1, 0, none⟩ = some (.int .i64 0) ∧ w2.cell? ⟨b + 1 + 1, 1, none⟩ = some (.int .i64 0) ∧ w2.cell? ⟨b + 1 + 1, 2, none⟩ = some (.int .u64 0) ∧ w2.cell? ⟨b + 1 + 1, 3, none⟩ = some nilv ∧ w2.cell? ⟨b + 1 + 1, 4, none⟩ = some nilv ∧ w2.cell? ⟨b + 1 + 1, 5, none⟩ = some (.int .i64 0)) ∧ (w2.frozen? ⟨b + 1 + 1, 0, none⟩ = false ∧ w2.frozen? ⟨b + 1 + 1, 1, none⟩ = false ∧ w2.frozen? ⟨b + 1 + 1, 2, none⟩ = false ∧ w2.frozen? ⟨b + 1 + 1, 3, none⟩ = false ∧ w2.frozen? ⟨b + 1 + 1, 4, none⟩ = false ∧ w2.frozen? ⟨b + 1 + 1, 5, none⟩ = false) ∧
              (((((w2.setCell ⟨b + 1 + 1, 0, none⟩ (.int .i64 (n : Int))).setCell ⟨b + 1 + 1, 1, none⟩ (.int .i64 (bits : Int))).setCell ⟨b + 1 + 1, 2, none⟩ (.int .u64 keep)).setCell ⟨b + 1 + 1, 3, none⟩ (.slice aL K cL)).setCell ⟨b + 1 + 1, 4, none⟩ (.slice ga 0 gc)).setCell ⟨b + 1 + 1, 5, none⟩ (.int .i64 ((tq : Int) + 1)) = w9 ∧
              (w9.cell? ⟨b + 1 + 1, 0, none⟩ = some (.int .i64 (n : Int)) ∧ w9.cell? ⟨b + 1 + 1, 1, none⟩ = some (.int .i64 (bits : Int)) ∧ w9.cell? ⟨b + 1 + 1, 2, none⟩ = some (.int .u64 keep) ∧ w9.cell? ⟨b + 1 + 1, 3, none⟩ = some (.slice aL K cL) ∧ w9.cell? ⟨b + 1 + 1, 4, none⟩ = some (.slice ga 0 gc) ∧ w9.cell? ⟨b + 1 + 1, 5, none⟩ = some (.int .i64 ((tq : Int) + 1))) ∧ Own (Dc (.slice aL K cL) (.slice ga 0 gc) F.S l) w9) := Lib.hid (hwi.mono (by
            rintro x w2 ⟨v', rfl, h2⟩
            obtain ⟨aL, cL, rfl⟩ := h2.rowR.slice
            obtain ⟨x0, x1, x2, x3, x4, x5, f0, f1, f2, f3, f4, f5⟩ := bd_cells h2 (b := b + 1 + 1) (n := 0) (bits := 0) (keep := 0) (vL := nilv) (vG := nilv) (u := 0) (.tail _ (.tail _ (.tail _ (.head _))))
            obtain ⟨w9, e9, h9⟩ := Own.bdSet (n' := n) (bits' := bits) (keep' := keep) (vL' := .slice aL K cL) (vG' := .slice ga 0 gc) (u' := tq + 1) h2.fourth
            obtain ⟨q0, q1, q2, q3, q4, q5, -⟩ := bd_cells h9 (.head _)
            refine ⟨aL, cL, w9, rfl, ⟨x0, x1, x2, x3, x4, x5⟩, ⟨f0, f1, f2, f3, f4, f5⟩, e9, ⟨q0, q1, q2, q3, q4, q5⟩, ?_⟩
            have h7 := h9.drop.third.drop.third.drop.third.drop
            have e1 : docL 0 F.S.rows = withD L1 ⟨tq, bornF sock cookie fi, false⟩ := by rw [hFv]; exact hd1
            have e2 : F.S.X.bk = G1 := by rw [hFv]; simp only; rw [hd2, hb0]; rfl
            show Own (DRR _ (docL 0 F.S.rows).length (docL 0 F.S.rows) :: DGG _ F.S.X.bk :: l) w9
            rw [e1, e2, ← hK]
            exact h7))
          have HFE : Hid (F.f = (tq : Int) ∧ F.kind = 1 ∧ F.err = 0 ∧ F.S.X.st.length = tq + 1) := Lib.hid ⟨by rw [hFv], by rw [hFv], by rw [hFv], by rw [hFv]; exact hd3⟩
          have htn : tq ≤ 4096 := by omega
          clear h ht' hT hwi hno hn hFv hd1 hd2 hd3 htq htq0 hb0 hK hlt hk hfull huse et a5
          go_wp2_with fail
          (with_reducible refine (HWI.out).mono ?_)
          rintro x w8 ⟨aL, cL, w9, rfl, ⟨x0, x1, x2, x3, x4, x5⟩, ⟨f0, f1, f2, f3, f4, f5⟩, e9, ⟨q0, q1, q2, q3, q4, q5⟩, h9⟩
          have HX := Lib.hid h9
          clear h9 HWI
          go_wp2_with fail
          exact bodyPost_ret (v := .tuple #[.agg #[.int .i64 (n : Int), .int .i64 (bits : Int), .int .u64 keep, .slice aL K cL, .slice ga 0 gc, .int .i64 ((tq : Int) + 1)], .int .i64 (tq : Int), .int .u8 1, .int .i64 0]) (by simp [results, Try.results31, go_sem, q0, q1, q2, q3, q4, q5]) rfl ⟨_, _, by rw [HFE.out.1, HFE.out.2.1, HFE.out.2.2.1, HFE.out.2.2.2]; rfl, HX.out⟩
        · rw [← HG1.out] at hb0
          rw [if_neg hb0] at hd3
          obtain ⟨j, rfl⟩ : ∃ j, g1 = j + 1 := by
            cases g1 with
            | zero => exact (hb0 (List.length_eq_zero_iff.1 HGG.out.symm)).elim
            | succ j => exact ⟨j, rfl⟩
          obtain ⟨gg, rfl, gcj⟩ : ∃ gg, ga = some ⟨gg, 0, none⟩ ∧ j + 1 ≤ gc := by
            obtain ⟨gg, cap, hv, hc1, -⟩ := (h.swap.rowR).form (by rw [← HGG.out]; omega)
            injection hv with e1 _ e3
            subst e3
            exact ⟨gg, e1, by rw [HGG.out]; exact hc1⟩
          have hGj : G1[j]? = some tq := by
            obtain ⟨x, hx⟩ : ∃ x, G1[j]? = some x := ⟨_, List.getElem?_eq_getElem (by rw [← HGG.out]; omega)⟩
            have := htq0 x (by rw [← HG1.out, ← HGG.out]; exact hx)
            rw [htq, this]; exact hx
          have hcj : wr.cell? ⟨gg, j, none⟩ = some (.int .i64 (tq : Int)) := (h.swap.rowR.cells (g := gg) rfl j _ (by unfold Tr.ints; rw [List.getElem?_map, hGj]; rfl)).1
          have cM1 : ((j : Int) + 1 - 1) = (j : Int) := by omega
          have cM2 : (((j + 1 : Nat) : Int) - 1) = (j : Int) := by omega
          have hj6 : j ≤ 65536 := by omega
          have hjc : j ≤ gc := by omega
          have hGd : (Tr.ints G1).take (j * 1) = Tr.ints G1.dropLast := by have := ints_drop G1; rw [← HGG.out] at this; exact this
          have hGl : G1.dropLast.length = j := by rw [List.length_dropLast, ← HGG.out]; rfl
          obtain ⟨-, -, -, -, -, -, -, -, -, -, z4, -⟩ := bd_cells h (b := b) (n := n) (bits := bits) (keep := keep) (vL := .slice va k vc) (vG := .slice (some ⟨gg, 0, none⟩) (j + 1) gc) (u := u) (.tail _ (.tail _ (.tail _ (.tail _ (.tail _ (.head _))))))
          obtain ⟨wt, et1, ht'⟩ := Own.bdG (vG' := .slice (some ⟨gg, 0, none⟩) j gc) h.sixth
          obtain ⟨a0, a1, a2, a3, a4, a5, -⟩ := bd_cells ht' (.head _)
          have hT : Own (DRR (.slice va k vc) k L1 :: DGG (.slice (some ⟨gg, 0, none⟩) j gc) G1.dropLast :: BF c (bornF sock cookie fi) :: BD (b + 1 + 1) 0 0 0 nilv nilv 0 :: BPc (b + 1) qu fi rf mo lo :: BD b n bits keep (.slice va k vc) (.slice (some ⟨gg, 0, none⟩) j gc) u :: l) wt := by
            have h7 := ht'.back6.swap
            rw [HGG.out] at h7
            have h8 := Own.rCut (k := j) h7 (by rw [← HGG.out]; omega) hjc
            rw [hGd] at h8
            unfold DGG
            rw [hGl]
            exact h8.swap
          obtain ⟨s0', s1', s2', s3', s4', s5', s6'⟩ := bf_cells hT (b := c) (F := bornF sock cookie fi) (.tail _ (.tail _ (.head _)))
          have hwi := rwith_any (N := n) (bits := bits) (keep := keep) (ga := some ⟨gg, 0, none⟩) (gk := j) (gcc := gc) (u := u) hT HN1.out.symm (by omega) ⟨tq, bornF sock cookie fi, false⟩
          rw [← hK] at hwi
          have HWI : Hid (Calls Try.prog 68 #[.agg #[.int .i64 (n : Int), .int .i64 (bits : Int), .int .u64 keep, .slice va k vc, .slice (some ⟨gg, 0, none⟩) j gc, .int .i64 (u : Int)], drv ⟨tq, bornF sock cookie fi, false⟩] wt fun x w2 => ∃ aL cL w9, x = .returned (.agg #[.int .i64 (n : Int), .int .i64 (bits : Int), .int .u64 keep, .slice aL K cL, .slice (some ⟨gg, 0, none⟩) j gc, .int .i64 (u : Int)]) ∧ (w2.cell? ⟨b + 1 + 1, 0, none⟩ = some (.int .i64 0) ∧ w2.cell? ⟨b + 1 + 1, 1, none⟩ = some (.int .i64 0) ∧ w2.cell? ⟨b + 1 + 1, 2, none⟩ = some (.int .u64 0) ∧ w2.cell? ⟨b + 1 + 1, 3, none⟩ = some nilv ∧ w2.cell? ⟨b + 1 + 1, 4, none⟩ = some nilv ∧ w2.cell? ⟨b + 1 + 1, 5, none⟩ = some (.int .i64 0)) ∧ (w2.frozen? ⟨b + 1 + 1, 0, none⟩ = false ∧ w2.frozen? ⟨b + 1 + 1, 1, none⟩ = false ∧ w2.frozen? ⟨b + 1 + 1, 2, none⟩ = false ∧ w2.frozen? ⟨b + 1 + 1, 3, none⟩ = false ∧ w2.frozen? ⟨b + 1 + 1, 4, none⟩ = false ∧ w2.frozen? ⟨b + 1 + 1, 5, none⟩ = false) ∧
              (((((w2.setCell ⟨b + 1 + 1, 0, none⟩ (.int .i64 (n : Int))).setCell ⟨b + 1 + 1, 1, none⟩ (.int .i64 (bits : Int))).setCell ⟨b + 1 + 1, 2, none⟩ (.int .u64 keep)).setCell ⟨b + 1 + 1, 3, none⟩ (.slice aL K cL)).setCell ⟨b + 1 + 1, 4, none⟩ (.slice (some ⟨gg, 0, none⟩) j gc)).setCell ⟨b + 1 + 1, 5, none⟩ (.int .i64 (u : Int)) = w9 ∧
              (w9.cell? ⟨b + 1 + 1, 0, none⟩ = some (.int .i64 (n : Int)) ∧ w9.cell? ⟨b + 1 + 1, 1, none⟩ = some (.int .i64 (bits : Int)) ∧ w9.cell? ⟨b + 1 + 1, 2, none⟩ = some (.int .u64 keep) ∧ w9.cell? ⟨b + 1 + 1, 3, none⟩ = some (.slice aL K cL) ∧ w9.cell? ⟨b + 1 + 1, 4, none⟩ = some (.slice (some ⟨gg, 0, none⟩) j gc) ∧ w9.cell? ⟨b + 1 + 1, 5, none⟩ = some (.int .i64 (u : Int))) ∧ Own (Dc (.slice aL K cL) (.slice (some ⟨gg, 0, none⟩) j gc) F.S l) w9) := Lib.hid (hwi.mono (by
            rintro x w2 ⟨v', rfl, h2⟩
            obtain ⟨aL, cL, rfl⟩ := h2.rowR.slice
            obtain ⟨x0, x1, x2, x3, x4, x5, f0, f1, f2, f3, f4, f5⟩ := bd_cells h2 (b := b + 1 + 1) (n := 0) (bits := 0) (keep := 0) (vL := nilv) (vG := nilv) (u := 0) (.tail _ (.tail _ (.tail _ (.head _))))
            obtain ⟨w9, e9, h9⟩ := Own.bdSet (n' := n) (bits' := bits) (keep' := keep) (vL' := .slice aL K cL) (vG' := .slice (some ⟨gg, 0, none⟩) j gc) (u' := u) h2.fourth
            obtain ⟨q0, q1, q2, q3, q4, q5, -⟩ := bd_cells h9 (.head _)
            refine ⟨aL, cL, w9, rfl, ⟨x0, x1, x2, x3, x4, x5⟩, ⟨f0, f1, f2, f3, f4, f5⟩, e9, ⟨q0, q1, q2, q3, q4, q5⟩, ?_⟩
            have h7 := h9.drop.third.drop.third.drop.third.drop
            have e1 : docL 0 F.S.rows = withD L1 ⟨tq, bornF sock cookie fi, false⟩ := by rw [hFv]; exact hd1
            have e2 : F.S.X.bk = G1.dropLast := by rw [hFv]; exact hd2
            show Own (DRR _ (docL 0 F.S.rows).length (docL 0 F.S.rows) :: DGG _ F.S.X.bk :: l) w9
            rw [e1, e2, ← hK]
            exact h7))
          have HFE : Hid (F.f = (tq : Int) ∧ F.kind = 1 ∧ F.err = 0 ∧ F.S.X.st.length = u) := Lib.hid ⟨by rw [hFv], by rw [hFv], by rw [hFv], by rw [hFv]; exact hd3⟩
          clear h ht' hT hwi hno hn hFv hd1 hd2 hd3 htq htq0 hb0 hK hlt hk hfull huse hGj hGd hGl
          go_wp2_with fail
          (with_reducible refine (HWI.out).mono ?_)
          rintro x w8 ⟨aL, cL, w9, rfl, ⟨x0, x1, x2, x3, x4, x5⟩, ⟨f0, f1, f2, f3, f4, f5⟩, e9, ⟨q0, q1, q2, q3, q4, q5⟩, h9⟩
          have HX := Lib.hid h9
          clear h9 HWI
          go_wp2_with fail
          exact bodyPost_ret (v := .tuple #[.agg #[.int .i64 (n : Int), .int .i64 (bits : Int), .int .u64 keep, .slice aL K cL, .slice (some ⟨gg, 0, none⟩) j gc, .int .i64 (u : Int)], .int .i64 (tq : Int), .int .u8 1, .int .i64 0]) (by simp [results, Try.results31, go_sem, q0, q1, q2, q3, q4, q5]) rfl ⟨_, _, by rw [HFE.out.1, HFE.out.2.1, HFE.out.2.2.1, HFE.out.2.2.2], HX.out⟩
end Go.Proofs.Ytkdmlpigkmlkmaa.Tb
