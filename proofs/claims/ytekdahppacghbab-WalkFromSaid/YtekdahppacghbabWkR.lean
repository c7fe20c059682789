/- DERIVED. Layer 7 (walk): the law WalkThrough (the chapter's examples come as a hypothesis). Written by wip/mkwkr.py. -/
import Derived.Test.YtekdahppacghbabWkL
import Derived.Test.YtekdahppacghbabWkQ
import Derived.Test.YtekdahppacghbabWkO
set_option linter.unusedVariables false
set_option linter.unusedSimpArgs false
set_option maxRecDepth 100000
namespace Go.Proofs.Ytekdahppacghbab.Wk
open Go.RowKit Go.Proofs.Ytekdahppacghbab Go.Proofs.Ytekdahppacghbab.TreeP Go.Proofs.Ytekdahppacghbab.Tr

theorem Own.blk2g {l : List HP} {w : World} {b : Nat} {x y : Value} {t : TypeId} (h : Own (Go.Proofs.Ytekdahppacghbab.Blk b #[x, y] t :: l) w) :
    w.cell? ⟨b, 0, none⟩ = some x ∧ w.cell? ⟨b, 1, none⟩ = some y ∧ w.frozen? ⟨b, 0, none⟩ = false ∧ w.frozen? ⟨b, 1, none⟩ = false := by
  simp [World.cell?, World.frozen?, Go.Proofs.Ytekdahppacghbab.Own.blk h (.head _)]
theorem Own.blkSet2 {l : List HP} {w : World} {b : Nat} {x y : Value} {t : TypeId} (h : Own (Go.Proofs.Ytekdahppacghbab.Blk b #[x, y] t :: l) w) (a0 a1 : Value) :
    Own (Go.Proofs.Ytekdahppacghbab.Blk b #[a0, a1] t :: l) ((w.setCell ⟨b, 0, none⟩ a0).setCell ⟨b, 1, none⟩ a1) :=
  Go.Proofs.Ytekdahppacghbab.Own.blkSet (Go.Proofs.Ytekdahppacghbab.Own.blkSet h a0) a1
/-- a beginning of the keys -/
theorem KOps.take {W : World} {a : Option Addr} {n cap m : Nat} {f : Nat → Key} (h : KOps W (.slice a n cap) n f) (hm : m ≤ n) : KOps W (.slice a m cap) m f := by
  obtain ⟨h1, a', cap', e, h2, h3, h4⟩ := h
  injection e with e1 _ e3
  subst e1 e3
  exact ⟨fun i hi => h1 i (by omega), a, cap, rfl, by omega, h3, fun hp => by
    obtain ⟨b, off, e, hb, hc⟩ := h4 (by omega)
    exact ⟨b, off, e, hb, fun i c hi hc2 => hc i c (by omega) hc2⟩⟩
/-- a round of sweeps: where it stands -/
def ThI (w : World) (p b14 b12 L t : Nat) (E : List En) (mx ms : Int) (vi : Value) (wr : World) : Prop :=
  ∃ (r : Nat) (kx ks : Int), vi = .int .i64 (r : Int) ∧ r ≤ L + 30 ∧ (30 ≤ r → far L (lowL E (kx, ks)).length t + (r - 30) + 1 ≤ L) ∧ Own (BK b14 kx ks :: BK b12 mx ms :: Tree p 60 E :: [Old w]) wr
theorem two_filters {α : Type} {p q : α → Bool} (h : ∀ x, p x = true → q x = true → False) : ∀ l : List α, (l.filter p).length + (l.filter q).length ≤ l.length
  | [] => Nat.le_refl _
  | x :: l => by
    have ih := two_filters h l
    cases hp : p x <;> cases hq : q x <;> simp [List.filter_cons, hp, hq]
    · omega
    · omega
    · omega
    · exact absurd hq (fun hq => h x hp hq)
theorem ofP_len (f : Nat → Key) : ∀ k, (ofP f k).length ≤ k
  | 0 => Nat.le_refl _
  | k + 1 => by
    have ih := ofP_len f k
    unfold ofP putT
    split
    · omega
    · split
      · omega
      · unfold ins
        rw [List.length_append, List.length_cons]
        have h2 : ∀ a b c : Nat, a + b ≤ c → c ≤ k → a + (b + 1) ≤ k + 1 := fun a b c _ _ => by omega
        exact h2 _ _ _ (two_filters (fun x h1 h2 => lt_asymm h1 h2) (ofP f k)) ih
theorem put_cases {E : List En} (h : RisingE E) (hl : E.length ≤ 30) (q : Key) (v : Int) :
    (putE 60 E q = 60 ∧ putT 60 E q v = E) ∨ (putE 60 E q = 0 ∧ putT 60 E q v = ins E q v ∧ (Tr.look (ins E q v) q).isSome = true ∧ del (ins E q v) q = E ∧ (∀ e ∈ ins E q v, e = (q, v) ∨ e ∈ E)) := by
  unfold putE putT
  cases hq : Tr.look E q with
  | some u => left; simp
  | none =>
    right
    obtain ⟨_, _, h3, h4, h5⟩ := rising_ins h q v hq
    have : E.length ≠ 60 := by omega
    simp [this, h4, h5]
    intro a b c hm
    have := h3 _ hm
    simpa using this
set_option maxHeartbeats 8000000 in
theorem through_main (haw : Awake) (v : Value) (n : Nat) (f : Nat → Key) (which : Int) (v2 : Value) (n2 : Nat) (f2 : Nat → Key) (ns : Int) (g0 : 0 ≤ which) (g1 : which ≤ 255) (s0 : 0 ≤ ns) (s1 : ns ≤ 255) (w : World) (ho : KOps w v n f) (ho2 : KOps w v2 n2 f2) :
    Calls Try.prog 6 #[v, .int .u8 which, v2, .int .u8 ns] w fun e w' => e = .returned (.bool true) ∧ Ext w w' := by
  obtain ⟨a, cap, rfl, hcap, hmax⟩ : ∃ a cap, v = .slice a n cap ∧ n ≤ cap ∧ cap ≤ maxLen := by obtain ⟨_, a, cap, h1, h2, h3, _⟩ := ho; exact ⟨a, cap, h1, h2, h3⟩
  obtain ⟨a2, cap2, rfl, hcap2, hmax2⟩ : ∃ a cap, v2 = .slice a n2 cap ∧ n2 ≤ cap ∧ cap ≤ maxLen := by obtain ⟨_, a, cap, h1, h2, h3, _⟩ := ho2; exact ⟨a, cap, h1, h2, h3⟩
  have hO2 : ∀ i, i < n2 → InK (f2 i) ∧ ∃ b off, a2 = some ⟨b, off, none⟩ ∧ w.cell? ⟨b, off + i * 2, none⟩ = some (.int .u64 (f2 i).1) ∧ w.cell? ⟨b, off + i * 2 + 1, none⟩ = some (.int .u64 (f2 i).2) := fun i hi => by
    obtain ⟨k1, a', cap', e, _, _, k4⟩ := ho2
    injection e with e1 _ _
    obtain ⟨b, off, e, hb, hc⟩ := k4 (by omega)
    exact ⟨k1 i hi, b, off, e1.trans e, hc i 0 hi (by omega), hc i 1 hi (by omega)⟩
  obtain ⟨M0, hM0⟩ : ∃ M0 : Nat, M0 = min n 30 := ⟨_, rfl⟩
  have hk := ho.take (m := M0) (by omega)
  have hof := of_ops hk (Own.start w) (.head _)
  have hn0 := nn_ofP hk.1 (Nat.min_le_left M0 60)
  obtain ⟨E, hE⟩ : ∃ E, E = ofP f (min M0 60) := ⟨_, rfl⟩
  have hE30 : E.length ≤ 30 := by rw [hE]; exact Nat.le_trans (ofP_len _ _) (by omega)
  rw [← hE] at hof hn0
  obtain ⟨st, hst⟩ : ∃ st : Nat, ns % 10 = (st : Int) := ⟨(ns % 10).toNat, by omega⟩
  have st9 : st ≤ 9 := by omega
  obtain ⟨wh, rfl⟩ : ∃ wh : Nat, which = (wh : Int) := ⟨which.toNat, by omega⟩
  have HOF := Lib.hid hof
  have HNN := Lib.hid hn0
  have HAW := Lib.hid haw
  have HO2 := Lib.hid hO2
  have hmI : (if (30 : Int) < (n : Int) then (30 : Int) else (n : Int)) = (M0 : Int) := by split <;> omega
  have hmc : (M0 : Int) ≤ (cap : Int) := by omega
  unfold maxLen at hmax hmax2
  obtain ⟨Q, hQ⟩ : ∃ Q : Nat, Q = min n2 30 := ⟨_, rfl⟩
  have hQI : (if (30 : Int) < (n2 : Int) then (30 : Int) else (n2 : Int)) = (Q : Int) := by split <;> omega
  have hQ30 : Q ≤ 30 := by omega
  have hQn : Q ≤ n2 := by omega
  have HQ := Lib.hid (And.intro hQ30 hQn)
  clear hof hn0 hE haw ho ho2 hO2 hk hM0 hQ
  go_enter Try.func6, Try.ntmps6
  go_wp2_with fail
  refine (HOF.out).mono ?_
  rintro e w1 ⟨p, v', rfl, h1⟩
  have h2 : Own [Tree p 60 E, Old w] w1 := h1.swap.drop
  obtain ⟨hr, _⟩ := own_rising h2
  obtain ⟨va0, vc0, rfl⟩ : ∃ va vc, v' = .slice va E.length vc := h1.swap.rowR.slice
  have HR := Lib.hid hr
  have HAL := Lib.hid (own_all (h2.step ((Ext.refl w1).alloc (.cells #[.slice va0 E.length vc0, .int .i64 60] 28))))
  obtain ⟨L, hL⟩ : ∃ L, L = E.length := ⟨_, rfl⟩
  rw [← hL] at hE30
  have HL := Lib.hid hL
  clear h1 h2 hr hL HOF
  go_wp2_with fail
  refine (HAL.out).mono ?_
  rintro e w2 ⟨vw, rfl, h2⟩
  obtain ⟨vaw, vcw, rfl⟩ := own_slice h2.row
  rw [← HL.out] at h2 ⊢
  by_cases hL0 : L = 0
  · as_aux_lemma =>
    have H2 := Lib.hid (show Own [Old w] w2 from h2.drop.drop)
    clear h2 HAL
    subst hL0
    go_wp2_with fail
    refine (HAW.out _ _ H2.out).mono ?_
    rintro e w15 ⟨rfl, h15⟩
    have H15 := Lib.hid h15
    clear h15 H2
    go_wp2_with fail
    go_ret
    exact ⟨rfl, H15.out.ext (by simp)⟩
  obtain ⟨t, ht⟩ : ∃ t, t = wh % L := ⟨_, rfl⟩
  have htL : t < L := by rw [ht]; exact Nat.mod_lt _ (by omega)
  have htI : Int.tmod (wh : Int) (L : Int) = (t : Int) := by rw [ht]; rfl
  have hLI : ¬ (L : Int) = 0 := by omega
  have htLI : (t : Int) < (L : Int) := by omega
  obtain ⟨e, he⟩ : ∃ e, E[t]? = some e := ⟨_, List.getElem?_eq_getElem (by rw [← HL.out]; exact htL)⟩
  obtain ⟨g, eg, r0, r1, r2⟩ := entry_at h2 htL he
  subst eg
  obtain ⟨⟨mx, ms⟩, mv⟩ := e
  simp only at r0 r1 r2
  have h3 := Go.Proofs.Ytekdahppacghbab.Own.blkNew (Go.Proofs.Ytekdahppacghbab.Own.blkNew h2.drop #[.int .u64 mx, .int .u64 ms] 24) #[.int .u64 mx, .int .u64 ms] 24
  simp only [World.size_alloc] at h3
  obtain ⟨b12, hb12⟩ : ∃ b, b = w2.heap.size := ⟨_, rfl⟩
  obtain ⟨W3, hW3⟩ : ∃ W3, (w2.alloc (.cells #[.int .u64 mx, .int .u64 ms] 24)).alloc (.cells #[.int .u64 mx, .int .u64 ms] 24) = W3 := ⟨_, rfl⟩
  rw [← hb12, hW3] at h3
  obtain ⟨b14, hb14⟩ : ∃ b, b = b12 + 1 := ⟨_, rfl⟩
  rw [← hb14] at h3
  have H3 : Hid (Own (BK b14 mx ms :: BK b12 mx ms :: Tree p 60 E :: [Old w]) W3) := Lib.hid h3
  have HB12 := Lib.hid hb12
  have HB14 := Lib.hid hb14
  have HW3 := Lib.hid hW3
  have HE := Lib.hid he
  have hHM : Hid (htL = htL) := Lib.hid rfl
  have hn9 : (ns : Int) % 10 = (st : Int) := hst
  clear h2 h3 hb12 hb14 hW3 HAL ht he
  go_wp2_with fail
  rw [HW3.out, ← HB12.out, ← HB14.out]
  have hL00 : ((L : Int) == 0) = false := by simp; omega
  simp only [hL00, hn9]
  clear hL00
  clear HW3 HB12
  go_loopw [56] (fun vi wr => ThI w p b14 b12 L t E mx ms vi wr) (fun vi _ => L + 30 - (intOf vi).toNat)
  case atStart => exact ⟨0, mx, ms, rfl, Nat.zero_le _, fun h => absurd h (by omega), H3.out⟩
  case round =>
    clear H3
    obtain ⟨r, kx, ks, rfl, hr, hfar, h⟩ := hrel
    by_cases hrL : r < L + 30
    · have hrI : (r : Int) < (L : Int) + 30 := by omega
      obtain ⟨b16, hb16⟩ : ∃ b, b = wr.heap.size := ⟨_, rfl⟩
      have h4 := Go.Proofs.Ytekdahppacghbab.Own.blkNew h #[.int .u64 0, .int .u64 0] 24
      rw [← hb16] at h4
      have HB16 := Lib.hid hb16
      have HFAR := Lib.hid hfar
      by_cases hrQ : r < Q
      · have hrQI : (r : Int) < (Q : Int) := by omega
        have hrn : (r : Int) < (n2 : Int) := by have := HQ.out; omega
        obtain ⟨⟨i0, i1⟩, b, off, rfl, c0, c1⟩ := HO2.out r (by have := HQ.out; omega)
        obtain ⟨⟨ox, os⟩, ho⟩ : ∃ q, q = f2 r := ⟨_, rfl⟩
        rw [← ho] at c0 c1 i0 i1
        simp only at c0 c1 i0 i1
        have hx := h.ext (w0 := w) (by simp)
        have d0 := hx.cell c0
        have d1 := hx.cell c1
        have h5 := Go.Proofs.Ytekdahppacghbab.Own.blkNew h #[.int .u64 ox, .int .u64 os] 24
        rw [← hb16] at h5
        have H5 : Hid (Own (BK b16 ox os :: BK b14 kx ks :: BK b12 mx ms :: Tree p 60 E :: [Old w]) _) := Lib.hid h5
        have d2 : (wr.alloc (.cells #[.int .u64 0, .int .u64 0] 24)).cell? ⟨b, off + r * 2, none⟩ = some (.int .u64 ox) := ((Ext.refl wr).alloc _).cell d0
        have d3 : (wr.alloc (.cells #[.int .u64 0, .int .u64 0] 24)).cell? ⟨b, off + r * 2 + 1, none⟩ = some (.int .u64 os) := ((Ext.refl wr).alloc _).cell d1
        rcases put_cases HR.out (by rw [← HL.out]; exact hE30) (ox, os) (-1) with ⟨p1, p2⟩ | ⟨p1, p2, p3, p4, p5⟩
        · as_aux_lemma =>
          have HPUT := Lib.hid (own_put' (v := -1) H5.out.fourth p1 p2)
          clear h h4 h5 hx p1 p2 c0 c1 ho hfar hb16
          go_wp2_with fail
          refine (HPUT.out).mono ?_
          rintro e w5 ⟨rfl, h5⟩
          rw [← HB16.out]
          clear HPUT H5
          -- h5 : Own (Tree p 60 E1 :: BK b16 .. :: BK b14 kx ks :: BK b12 mx ms :: [Old w]) _
          obtain ⟨re1, hl1⟩ := own_rising h5
          obtain ⟨y14, y15⟩ := bk_cells (b := b14) (x := kx) (s := ks) h5 (.tail _ (.tail _ (.head _)))
          obtain ⟨M, hM⟩ : ∃ M, M = sweepL E (kx, ks) (1 + st) := ⟨_, rfl⟩
          obtain ⟨lx, hlx⟩ : ∃ x, x = (M.getLast?.map (·.1.1)).getD kx := ⟨_, rfl⟩
          obtain ⟨ls, hls⟩ : ∃ x, x = (M.getLast?.map (·.1.2)).getD ks := ⟨_, rfl⟩
          have hsw := own_sweep' (n := 1 + (st : Int)) (M := M) (kx := lx) (ks := ls) re1 HNN.out (by omega) (by omega) (by omega) (by rw [show (1 + (st : Int)).toNat = 1 + st by omega]; exact hM.symm) hlx.symm hls.symm h5
          have hnext : (∀ i x, i < M.length → M[i]? = some x → x.1 ≠ (mx, ms)) → 30 ≤ r + 1 → far L (lowL E (lx, ls)).length t + (r + 1 - 30) + 1 ≤ L := fun hno h30 => by
            by_cases hr30 : r + 1 = 30
            · have := far_lt (c := (lowL E (lx, ls)).length) htL (by rw [HL.out]; exact low_le _ _)
              omega
            · obtain ⟨⟨⟨l1, l2⟩, l3⟩, n1, n2⟩ := nearer HR.out (kx, ks) (n := 1 + st) (by omega) HE.out (fun x hx => by
                obtain ⟨i, hi⟩ := List.getElem?_of_mem hx
                rw [← hM] at hi
                exact hno i x (by obtain ⟨h1, _⟩ := List.getElem?_eq_some_iff.1 hi; exact h1) hi)
              rw [← hM] at n1
              rw [n1] at hlx hls
              simp only [Option.map_some, Option.getD_some] at hlx hls n2
              have n3 := HFAR.out (by omega)
              rw [hlx, hls, HL.out]
              rw [HL.out] at n3
              omega
          have HSW := Lib.hid hsw
          have HNEXT := Lib.hid hnext
          have hm60 : M.length ≤ 60 := by rw [hM, sweep_len re1]; omega
          obtain ⟨m, hm⟩ : ∃ m, m = M.length := ⟨_, rfl⟩
          rw [← hm] at hm60
          have HM := Lib.hid hm
          clear h5 hsw hnext hM hlx hls hm re1 hl1
          go_wp2_with fail
          refine (HSW.out).mono ?_
          rintro e w3 ⟨vs, rfl, h6⟩
          obtain ⟨vas, vcs, rfl⟩ := own_slice h6.row
          obtain ⟨b19, hb19⟩ : ∃ b, b = w3.heap.size := ⟨_, rfl⟩
          have h7 := Go.Proofs.Ytekdahppacghbab.Own.blkNew h6 #[.int .u64 lx, .int .u64 ls] 24
          rw [← hb19] at h7
          unfold RE at h7
          rw [← HM.out] at h7 ⊢
          have HB19 := Lib.hid hb19
          have H7 := Lib.hid h7
          clear h6 h7 hb19 HSW
          go_wp2_with fail
          rw [← HB19.out]
          go_loopw [81] (fun vj w4 => ∃ j : Nat, vj = .int .i64 (j : Int) ∧ j ≤ m ∧ (∀ i x, i < j → M[i]? = some x → x.1 ≠ (mx, ms)) ∧ Own (BK b19 lx ls :: Row 49 3 (.slice vas m vcs) m (Tr.ents M) :: Tree p 60 E :: BK b16 ox os :: BK b14 kx ks :: BK b12 mx ms :: [Old w]) w4) (fun vj _ => m - (intOf vj).toNat)
          case atStart => exact ⟨0, rfl, Nat.zero_le _, fun i x h => absurd h (Nat.not_lt_zero _), H7.out⟩
          case round =>
            clear H7
            obtain ⟨j, rfl, hj, hno, h⟩ := hrel
            rename World => w4
            by_cases hjm : j < m
            · have hjI : (j : Int) < (m : Int) := by omega
              obtain ⟨e, he⟩ : ∃ e, M[j]? = some e := ⟨_, List.getElem?_eq_getElem (by rw [← HM.out]; exact hjm)⟩
              obtain ⟨g', rfl, q0, q1, q2⟩ := entry_at h.swap hjm he
              obtain ⟨⟨ea, es⟩, ev⟩ := e
              simp only at q0 q1 q2
              have hA := h.step ((Ext.refl w4).alloc (.cells #[.int .u64 ea, .int .u64 es, .int .i64 ev] 49))
              have hB := hA.drop.drop.drop.drop.drop
              obtain ⟨z0, z1, -, -⟩ := Own.blk2g hB
              have HA := Lib.hid hA
              have HBW := Lib.hid (show Own [Old w] _ from hB.drop)
              have hne : (ea, es) ≠ (mx, ms) → ∃ j2 : Nat, (.int .i64 ((j : Int) + 1) : Value) = .int .i64 (j2 : Int) ∧ j2 ≤ m ∧ (∀ i x, i < j2 → M[i]? = some x → x.1 ≠ (mx, ms)) ∧ Own (BK b19 lx ls :: Row 49 3 (.slice (some ⟨g', 0, none⟩) m vcs) m (Tr.ents M) :: Tree p 60 E :: BK b16 ox os :: BK b14 kx ks :: BK b12 mx ms :: [Old w]) (w4.alloc (.cells #[.int .u64 ea, .int .u64 es, .int .i64 ev] 49)) := fun hne => ⟨j + 1, by go_num, by omega, fun i x hi hx => by
                by_cases hij : i = j
                · subst hij
                  rw [he] at hx
                  injection hx with hx
                  subst hx
                  exact hne
                · exact hno i x (by omega) hx, HA.out⟩
              have HNE := Lib.hid hne
              clear h he hA hB hno hne
              by_cases k1 : ea = mx
              · have e1 : (ea == mx) = true := by simp [k1]
                by_cases k2 : es = ms
                · have e2 : (es == ms) = true := by simp [k2]
                  clear k1 k2
                  go_wp2_with fail
                  refine (HAW.out _ _ HBW.out).mono ?_
                  rintro e w15 ⟨rfl, h15⟩
                  have H15 := Lib.hid h15
                  clear h15 HBW
                  go_wp2_with fail
                  go_ret
                  exact ⟨rfl, H15.out.ext (by simp)⟩
                · have e2 : (es == ms) = false := by simp [k2]
                  have HX2 := Lib.hid (HNE.out (fun e => k2 (congrArg Prod.snd e)))
                  clear k1 k2
                  go_wp2_with fail
                  exact ⟨HX2.out, by simp [intOf]; omega⟩
              · have e1 : (ea == mx) = false := by simp [k1]
                have HX2 := Lib.hid (HNE.out (fun e => k1 (congrArg Prod.fst e)))
                clear k1
                go_wp2_with fail
                exact ⟨HX2.out, by simp [intOf]; omega⟩
            · obtain rfl : j = m := by omega
              rw [HM.out] at hno
              obtain ⟨y0, y1, -, -⟩ := Own.blk2g h
              have hB := h.drop.drop.fourth.third.swap
              have h9 := h.drop.drop
              have hC : Own (BK b14 kx ks :: Tree p 60 E :: BK b16 ox os :: BK b12 mx ms :: [Old w]) w4 := h9.third
              obtain ⟨z0, z1, z2, z3⟩ := Own.blk2g hC
              have h6 := Own.blkSet2 hC (.int .u64 lx) (.int .u64 ls)
              clear hB h9 hC
              have HX : Hid (ThI w p b14 b12 L t E mx ms (.int .i64 ((r : Int) + 1)) ((w4.setCell ⟨b14, 0, none⟩ (.int .u64 lx)).setCell ⟨b14, 1, none⟩ (.int .u64 ls))) := Lib.hid ⟨r + 1, lx, ls, by go_num, by omega, HNEXT.out hno, h6.third.drop.third.swap⟩
              clear h6 h hno
              go_wp2_with fail
              go_roundw
              case rel => exact HX.out
              case measure => simp only [intOf]; omega
        · as_aux_lemma =>
          have HPUT := Lib.hid (own_put' (v := -1) H5.out.fourth p1 p2)
          have HP3 := Lib.hid p3
          have HP4 := Lib.hid p4
          have nn1 : Nn (ins E (ox, os) (-1)) := fun e he => by
            rcases p5 e he with rfl | he
            · exact ⟨i0.1, i1.1⟩
            · exact HNN.out e he
          obtain ⟨E1, hE1⟩ : ∃ E1, E1 = ins E (ox, os) (-1) := ⟨_, rfl⟩
          rw [← hE1] at HPUT HP3 HP4 nn1
          have HN1 := Lib.hid nn1
          clear h h4 h5 hx p1 p2 p3 p4 p5 c0 c1 ho hfar hb16 nn1 hE1
          go_wp2_with fail
          refine (HPUT.out).mono ?_
          rintro e w5 ⟨rfl, h5⟩
          rw [← HB16.out]
          clear HPUT H5
          -- h5 : Own (Tree p 60 E1 :: BK b16 .. :: BK b14 kx ks :: BK b12 mx ms :: [Old w]) _
          obtain ⟨re1, hl1⟩ := own_rising h5
          obtain ⟨y14, y15⟩ := bk_cells (b := b14) (x := kx) (s := ks) h5 (.tail _ (.tail _ (.head _)))
          obtain ⟨M, hM⟩ : ∃ M, M = sweepL E1 (kx, ks) (1 + st) := ⟨_, rfl⟩
          obtain ⟨lx, hlx⟩ : ∃ x, x = (M.getLast?.map (·.1.1)).getD kx := ⟨_, rfl⟩
          obtain ⟨ls, hls⟩ : ∃ x, x = (M.getLast?.map (·.1.2)).getD ks := ⟨_, rfl⟩
          have hsw := own_sweep' (n := 1 + (st : Int)) (M := M) (kx := lx) (ks := ls) re1 HN1.out (by omega) (by omega) (by omega) (by rw [show (1 + (st : Int)).toNat = 1 + st by omega]; exact hM.symm) hlx.symm hls.symm h5
          have hnext : (∀ i x, i < M.length → M[i]? = some x → x.1 ≠ (mx, ms)) → 30 ≤ r + 1 → far L (lowL E (lx, ls)).length t + (r + 1 - 30) + 1 ≤ L := fun hno h30 => by
            by_cases hr30 : r + 1 = 30
            · have := far_lt (c := (lowL E (lx, ls)).length) htL (by rw [HL.out]; exact low_le _ _)
              omega
            · exfalso
              have := HQ.out
              omega
          have HSW := Lib.hid hsw
          have HNEXT := Lib.hid hnext
          have hm60 : M.length ≤ 60 := by rw [hM, sweep_len re1]; omega
          obtain ⟨m, hm⟩ : ∃ m, m = M.length := ⟨_, rfl⟩
          rw [← hm] at hm60
          have HM := Lib.hid hm
          clear h5 hsw hnext hM hlx hls hm re1 hl1
          go_wp2_with fail
          refine (HSW.out).mono ?_
          rintro e w3 ⟨vs, rfl, h6⟩
          obtain ⟨vas, vcs, rfl⟩ := own_slice h6.row
          obtain ⟨b19, hb19⟩ : ∃ b, b = w3.heap.size := ⟨_, rfl⟩
          have h7 := Go.Proofs.Ytekdahppacghbab.Own.blkNew h6 #[.int .u64 lx, .int .u64 ls] 24
          rw [← hb19] at h7
          unfold RE at h7
          rw [← HM.out] at h7 ⊢
          have HB19 := Lib.hid hb19
          have H7 := Lib.hid h7
          clear h6 h7 hb19 HSW
          go_wp2_with fail
          rw [← HB19.out]
          go_loopw [81] (fun vj w4 => ∃ j : Nat, vj = .int .i64 (j : Int) ∧ j ≤ m ∧ (∀ i x, i < j → M[i]? = some x → x.1 ≠ (mx, ms)) ∧ Own (BK b19 lx ls :: Row 49 3 (.slice vas m vcs) m (Tr.ents M) :: Tree p 60 E1 :: BK b16 ox os :: BK b14 kx ks :: BK b12 mx ms :: [Old w]) w4) (fun vj _ => m - (intOf vj).toNat)
          case atStart => exact ⟨0, rfl, Nat.zero_le _, fun i x h => absurd h (Nat.not_lt_zero _), H7.out⟩
          case round =>
            clear H7
            obtain ⟨j, rfl, hj, hno, h⟩ := hrel
            rename World => w4
            by_cases hjm : j < m
            · have hjI : (j : Int) < (m : Int) := by omega
              obtain ⟨e, he⟩ : ∃ e, M[j]? = some e := ⟨_, List.getElem?_eq_getElem (by rw [← HM.out]; exact hjm)⟩
              obtain ⟨g', rfl, q0, q1, q2⟩ := entry_at h.swap hjm he
              obtain ⟨⟨ea, es⟩, ev⟩ := e
              simp only at q0 q1 q2
              have hA := h.step ((Ext.refl w4).alloc (.cells #[.int .u64 ea, .int .u64 es, .int .i64 ev] 49))
              have hB := hA.drop.drop.drop.drop.drop
              obtain ⟨z0, z1, -, -⟩ := Own.blk2g hB
              have HA := Lib.hid hA
              have HBW := Lib.hid (show Own [Old w] _ from hB.drop)
              have hne : (ea, es) ≠ (mx, ms) → ∃ j2 : Nat, (.int .i64 ((j : Int) + 1) : Value) = .int .i64 (j2 : Int) ∧ j2 ≤ m ∧ (∀ i x, i < j2 → M[i]? = some x → x.1 ≠ (mx, ms)) ∧ Own (BK b19 lx ls :: Row 49 3 (.slice (some ⟨g', 0, none⟩) m vcs) m (Tr.ents M) :: Tree p 60 E1 :: BK b16 ox os :: BK b14 kx ks :: BK b12 mx ms :: [Old w]) (w4.alloc (.cells #[.int .u64 ea, .int .u64 es, .int .i64 ev] 49)) := fun hne => ⟨j + 1, by go_num, by omega, fun i x hi hx => by
                by_cases hij : i = j
                · subst hij
                  rw [he] at hx
                  injection hx with hx
                  subst hx
                  exact hne
                · exact hno i x (by omega) hx, HA.out⟩
              have HNE := Lib.hid hne
              clear h he hA hB hno hne
              by_cases k1 : ea = mx
              · have e1 : (ea == mx) = true := by simp [k1]
                by_cases k2 : es = ms
                · have e2 : (es == ms) = true := by simp [k2]
                  clear k1 k2
                  go_wp2_with fail
                  refine (HAW.out _ _ HBW.out).mono ?_
                  rintro e w15 ⟨rfl, h15⟩
                  have H15 := Lib.hid h15
                  clear h15 HBW
                  go_wp2_with fail
                  go_ret
                  exact ⟨rfl, H15.out.ext (by simp)⟩
                · have e2 : (es == ms) = false := by simp [k2]
                  have HX2 := Lib.hid (HNE.out (fun e => k2 (congrArg Prod.snd e)))
                  clear k1 k2
                  go_wp2_with fail
                  exact ⟨HX2.out, by simp [intOf]; omega⟩
              · have e1 : (ea == mx) = false := by simp [k1]
                have HX2 := Lib.hid (HNE.out (fun e => k1 (congrArg Prod.fst e)))
                clear k1
                go_wp2_with fail
                exact ⟨HX2.out, by simp [intOf]; omega⟩
            · obtain rfl : j = m := by omega
              rw [HM.out] at hno
              obtain ⟨y0, y1, -, -⟩ := Own.blk2g h
              have hB := h.drop.drop.fourth.third.swap
              have h9 := h.drop.drop
              have hC : Own (BK b14 kx ks :: Tree p 60 E1 :: BK b16 ox os :: BK b12 mx ms :: [Old w]) w4 := h9.third
              obtain ⟨z0, z1, z2, z3⟩ := Own.blk2g hC
              have h6 := Own.blkSet2 hC (.int .u64 lx) (.int .u64 ls)
              clear hB h9 hC
              have HDR := Lib.hid (own_drop' h6.swap rfl HP3.out HP4.out)
              obtain ⟨x0, x1⟩ := bk_cells (b := b16) (x := ox) (s := os) h6 (.tail _ (.tail _ (.head _)))
              have HNX := Lib.hid (HNEXT.out hno)
              clear h6 h hno
              go_wp2_with fail
              refine (HDR.out).mono ?_
              rintro e w6 ⟨rfl, h7⟩
              have HX : Hid (ThI w p b14 b12 L t E mx ms (.int .i64 ((r : Int) + 1)) w6) := Lib.hid ⟨r + 1, lx, ls, by go_num, by omega, HNX.out, h7.third.drop.third.third⟩
              clear h7 HDR
              go_wp2_with fail
              go_roundw
              case rel => exact HX.out
              case measure => simp only [intOf]; omega
      · as_aux_lemma =>
        have hrQI : ¬ (r : Int) < (Q : Int) := by omega
        obtain ⟨ox, hox⟩ : ∃ x : Int, x = 0 := ⟨_, rfl⟩
        have h5 := h4.fourth
        clear h h4 hfar hb16
        -- h5 : Own (Tree p 60 E1 :: BK b16 .. :: BK b14 kx ks :: BK b12 mx ms :: [Old w]) _
        obtain ⟨re1, hl1⟩ := own_rising h5
        obtain ⟨y14, y15⟩ := bk_cells (b := b14) (x := kx) (s := ks) h5 (.tail _ (.tail _ (.head _)))
        obtain ⟨M, hM⟩ : ∃ M, M = sweepL E (kx, ks) (1 + st) := ⟨_, rfl⟩
        obtain ⟨lx, hlx⟩ : ∃ x, x = (M.getLast?.map (·.1.1)).getD kx := ⟨_, rfl⟩
        obtain ⟨ls, hls⟩ : ∃ x, x = (M.getLast?.map (·.1.2)).getD ks := ⟨_, rfl⟩
        have hsw := own_sweep' (n := 1 + (st : Int)) (M := M) (kx := lx) (ks := ls) re1 HNN.out (by omega) (by omega) (by omega) (by rw [show (1 + (st : Int)).toNat = 1 + st by omega]; exact hM.symm) hlx.symm hls.symm h5
        have hnext : (∀ i x, i < M.length → M[i]? = some x → x.1 ≠ (mx, ms)) → 30 ≤ r + 1 → far L (lowL E (lx, ls)).length t + (r + 1 - 30) + 1 ≤ L := fun hno h30 => by
          by_cases hr30 : r + 1 = 30
          · have := far_lt (c := (lowL E (lx, ls)).length) htL (by rw [HL.out]; exact low_le _ _)
            omega
          · obtain ⟨⟨⟨l1, l2⟩, l3⟩, n1, n2⟩ := nearer HR.out (kx, ks) (n := 1 + st) (by omega) HE.out (fun x hx => by
              obtain ⟨i, hi⟩ := List.getElem?_of_mem hx
              rw [← hM] at hi
              exact hno i x (by obtain ⟨h1, _⟩ := List.getElem?_eq_some_iff.1 hi; exact h1) hi)
            rw [← hM] at n1
            rw [n1] at hlx hls
            simp only [Option.map_some, Option.getD_some] at hlx hls n2
            have n3 := HFAR.out (by omega)
            rw [hlx, hls, HL.out]
            rw [HL.out] at n3
            omega
        have HSW := Lib.hid hsw
        have HNEXT := Lib.hid hnext
        have hm60 : M.length ≤ 60 := by rw [hM, sweep_len re1]; omega
        obtain ⟨m, hm⟩ : ∃ m, m = M.length := ⟨_, rfl⟩
        rw [← hm] at hm60
        have HM := Lib.hid hm
        clear h5 hsw hnext hM hlx hls hm re1 hl1
        go_wp2_with fail
        refine (HSW.out).mono ?_
        rintro e w3 ⟨vs, rfl, h6⟩
        obtain ⟨vas, vcs, rfl⟩ := own_slice h6.row
        obtain ⟨b19, hb19⟩ : ∃ b, b = w3.heap.size := ⟨_, rfl⟩
        have h7 := Go.Proofs.Ytekdahppacghbab.Own.blkNew h6 #[.int .u64 lx, .int .u64 ls] 24
        rw [← hb19] at h7
        unfold RE at h7
        rw [← HM.out] at h7 ⊢
        have HB19 := Lib.hid hb19
        have H7 := Lib.hid h7
        clear h6 h7 hb19 HSW
        go_wp2_with fail
        rw [← HB19.out]
        go_loopw [81] (fun vj w4 => ∃ j : Nat, vj = .int .i64 (j : Int) ∧ j ≤ m ∧ (∀ i x, i < j → M[i]? = some x → x.1 ≠ (mx, ms)) ∧ Own (BK b19 lx ls :: Row 49 3 (.slice vas m vcs) m (Tr.ents M) :: Tree p 60 E :: BK b16 0 0 :: BK b14 kx ks :: BK b12 mx ms :: [Old w]) w4) (fun vj _ => m - (intOf vj).toNat)
        case atStart => exact ⟨0, rfl, Nat.zero_le _, fun i x h => absurd h (Nat.not_lt_zero _), H7.out⟩
        case round =>
          clear H7
          obtain ⟨j, rfl, hj, hno, h⟩ := hrel
          rename World => w4
          by_cases hjm : j < m
          · have hjI : (j : Int) < (m : Int) := by omega
            obtain ⟨e, he⟩ : ∃ e, M[j]? = some e := ⟨_, List.getElem?_eq_getElem (by rw [← HM.out]; exact hjm)⟩
            obtain ⟨g', rfl, q0, q1, q2⟩ := entry_at h.swap hjm he
            obtain ⟨⟨ea, es⟩, ev⟩ := e
            simp only at q0 q1 q2
            have hA := h.step ((Ext.refl w4).alloc (.cells #[.int .u64 ea, .int .u64 es, .int .i64 ev] 49))
            have hB := hA.drop.drop.drop.drop.drop
            obtain ⟨z0, z1, -, -⟩ := Own.blk2g hB
            have HA := Lib.hid hA
            have HBW := Lib.hid (show Own [Old w] _ from hB.drop)
            have hne : (ea, es) ≠ (mx, ms) → ∃ j2 : Nat, (.int .i64 ((j : Int) + 1) : Value) = .int .i64 (j2 : Int) ∧ j2 ≤ m ∧ (∀ i x, i < j2 → M[i]? = some x → x.1 ≠ (mx, ms)) ∧ Own (BK b19 lx ls :: Row 49 3 (.slice (some ⟨g', 0, none⟩) m vcs) m (Tr.ents M) :: Tree p 60 E :: BK b16 0 0 :: BK b14 kx ks :: BK b12 mx ms :: [Old w]) (w4.alloc (.cells #[.int .u64 ea, .int .u64 es, .int .i64 ev] 49)) := fun hne => ⟨j + 1, by go_num, by omega, fun i x hi hx => by
              by_cases hij : i = j
              · subst hij
                rw [he] at hx
                injection hx with hx
                subst hx
                exact hne
              · exact hno i x (by omega) hx, HA.out⟩
            have HNE := Lib.hid hne
            clear h he hA hB hno hne
            by_cases k1 : ea = mx
            · have e1 : (ea == mx) = true := by simp [k1]
              by_cases k2 : es = ms
              · have e2 : (es == ms) = true := by simp [k2]
                clear k1 k2
                go_wp2_with fail
                refine (HAW.out _ _ HBW.out).mono ?_
                rintro e w15 ⟨rfl, h15⟩
                have H15 := Lib.hid h15
                clear h15 HBW
                go_wp2_with fail
                go_ret
                exact ⟨rfl, H15.out.ext (by simp)⟩
              · have e2 : (es == ms) = false := by simp [k2]
                have HX2 := Lib.hid (HNE.out (fun e => k2 (congrArg Prod.snd e)))
                clear k1 k2
                go_wp2_with fail
                exact ⟨HX2.out, by simp [intOf]; omega⟩
            · have e1 : (ea == mx) = false := by simp [k1]
              have HX2 := Lib.hid (HNE.out (fun e => k1 (congrArg Prod.fst e)))
              clear k1
              go_wp2_with fail
              exact ⟨HX2.out, by simp [intOf]; omega⟩
          · obtain rfl : j = m := by omega
            rw [HM.out] at hno
            obtain ⟨y0, y1, -, -⟩ := Own.blk2g h
            have hB := h.drop.drop.fourth.third.swap
            have h9 := h.drop.drop
            have hC : Own (BK b14 kx ks :: Tree p 60 E :: BK b16 0 0 :: BK b12 mx ms :: [Old w]) w4 := h9.third
            obtain ⟨z0, z1, z2, z3⟩ := Own.blk2g hC
            have h6 := Own.blkSet2 hC (.int .u64 lx) (.int .u64 ls)
            clear hB h9 hC
            have HX : Hid (ThI w p b14 b12 L t E mx ms (.int .i64 ((r : Int) + 1)) ((w4.setCell ⟨b14, 0, none⟩ (.int .u64 lx)).setCell ⟨b14, 1, none⟩ (.int .u64 ls))) := Lib.hid ⟨r + 1, lx, ls, by go_num, by omega, HNEXT.out hno, h6.third.drop.third.swap⟩
            clear h6 h hno
            go_wp2_with fail
            go_roundw
            case rel => exact HX.out
            case measure => simp only [intOf]; omega
    · exfalso
      have h1 := hfar (by omega)
      omega
end Go.Proofs.Ytekdahppacghbab.Wk
