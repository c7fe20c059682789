/- DERIVED. Layer 14 (table): the document's tables: contracts of Rest, Busy, Set, Rebuild, New, Born. -/
import Derived.Test.YtkdmlpigkmlkmaaTcC
set_option linter.unusedVariables false
set_option linter.unusedSimpArgs false
set_option maxRecDepth 100000
namespace Go.Proofs.Ytkdmlpigkmlkmaa.Tb
open Go.RowKit Go.Proofs.Ytkdmlpigkmlkmaa Go.Proofs.Ytkdmlpigkmlkmaa.TreeP Go.Proofs.Ytkdmlpigkmlkmaa.Tr Go.Proofs.Ytkdmlpigkmlkmaa.Bk

set_option maxHeartbeats 2000000 in
theorem rrest_no {v : Value} {ga : Option Addr} {gk gcc : Nat} {n N bits u : Nat} {keep : Int} {L : List DR} {l : List HP} {w : World} (h : Own (DRR v n L :: l) w) (hL : L.length = n) (bn : n ≤ 60000) (hu : UniqD L) (f : Int) (now : Int) (hf : fndD L f = none) :
    Calls Try.prog 32 #[dv N bits keep v (.slice ga gk gcc) u, .int .i64 f, .int .u64 now] w fun e w' => e = .returned (.tuple #[dv N bits keep v (.slice ga gk gcc) u, .int .i64 2]) ∧ Own (DRR v n L :: l) w' := by
  obtain ⟨va, vc, rfl⟩ := h.rowR.slice
  obtain ⟨b, hb⟩ : ∃ b, w.heap.size = b := ⟨_, rfl⟩
  obtain ⟨W1, hW1, hs1, h1⟩ := boxT h hb N bits keep (.slice va n vc) (.slice ga gk gcc) u
  obtain ⟨W2, hW2, hs2, h2⟩ := boxZ h1 hs1
  have h4 : Own (DRR (.slice va n vc) n L :: BD (b + 1) 0 0 0 nilv nilv 0 :: BD b N bits keep (.slice va n vc) (.slice ga gk gcc) u :: l) W2 := h2.third
  obtain ⟨c0, c1, c2, c3, c4, c5, -, -, -, -, -, -⟩ := bd_cells h4 (b := b) (n := N) (bits := bits) (keep := keep) (vL := .slice va n vc) (vG := .slice ga gk gcc) (u := u) (.tail _ (.tail _ (.head _)))
  have HAT := Lib.hid (rat_any (N := N) (bits := bits) (keep := keep) (vG := .slice ga gk gcc) (u := u) h4 hL bn f)
  have HFN := Lib.hid (fun i (hi : AtS L f i) => at_find hu hi)
  have HO := Lib.hid hf
  have HR := Lib.hid hL
  have HB := Lib.hid hb
  have HW1 := Lib.hid hW1
  have HW2 := Lib.hid hW2
  clear h h1 h2 h4 hL hu hf hb hW1 hW2 hs1 hs2
  go_enter Try.func32, Try.ntmps32
  go_upto_region 1 with fail
  rw [HB.out, HW1.out, HW2.out]
  clear HB HW1 HW2
  go_wp2_with fail
  (with_reducible refine (HAT.out).mono ?_)
  rintro e w2 ⟨i, rfl, hi, h3⟩
  have hi1 : i = -1 := by
    rcases HFN.out i hi with ⟨rfl, -⟩ | ⟨j, d, rfl, hj, hd⟩
    · rfl
    · rw [HO.out] at hd; cases hd
  subst hi1
  obtain ⟨c0, c1, c2, c3, c4, c5, -, -, -, -, -, -⟩ := bd_cells h3 (b := b) (n := N) (bits := bits) (keep := keep) (vL := .slice va n vc) (vG := .slice ga gk gcc) (u := u) (.tail _ (.tail _ (.head _)))
  obtain ⟨x0, x1, x2, x3, x4, x5, f0, f1, f2, f3, f4, f5⟩ := bd_cells h3 (b := b + 1) (n := 0) (bits := 0) (keep := 0) (vL := nilv) (vG := nilv) (u := 0) (.tail _ (.head _))
  obtain ⟨w4, e4, h4⟩ := Own.bdSet (n' := N) (bits' := bits) (keep' := keep) (vL' := .slice va n vc) (vG' := .slice ga gk gcc) (u' := u) h3.swap
  obtain ⟨q0, q1, q2, q3, q4, q5, -, -, -, -, -, -⟩ := bd_cells h4 (.head _)
  have H4 := Lib.hid h4
  clear h3 h4 hi HAT HFN
  go_wp2_with fail
  exact bodyPost_ret (v := .tuple #[dv N bits keep (.slice va n vc) (.slice ga gk gcc) u, .int .i64 2]) (by simp [results, Try.results32, go_sem, q0, q1, q2, q3, q4, q5]) rfl ⟨rfl, H4.out.drop.swap.drop⟩
set_option maxHeartbeats 2000000 in
theorem rrest_yes {v : Value} {ga : Option Addr} {gk gcc : Nat} {n N bits u : Nat} {keep : Int} {L : List DR} {l : List HP} {w : World} (h : Own (DRR v n L :: l) w) (hL : L.length = n) (bn : n ≤ 60000) (hu : UniqD L) (f : Int) (now : Int) (d : DR) (hf : fndD L f = some d) :
    Calls Try.prog 32 #[dv N bits keep v (.slice ga gk gcc) u, .int .i64 f, .int .u64 now] w fun e w' => ∃ v', e = .returned (.tuple #[dv N bits keep v' (.slice ga gk gcc) u, .int .i64 0]) ∧ Own (DRR v' (withD L ⟨d.k, { d.f with ag := now }, true⟩).length (withD L ⟨d.k, { d.f with ag := now }, true⟩) :: l) w' := by
  obtain ⟨va, vc, rfl⟩ := h.rowR.slice
  obtain ⟨O, hO⟩ : ∃ O, O = withD L ⟨d.k, { d.f with ag := now }, true⟩ := ⟨_, rfl⟩
  rw [← hO]
  obtain ⟨b, hb⟩ : ∃ b, w.heap.size = b := ⟨_, rfl⟩
  obtain ⟨W1, hW1, hs1, h1⟩ := boxT h hb N bits keep (.slice va n vc) (.slice ga gk gcc) u
  obtain ⟨W2, hW2, hs2, h2⟩ := boxZ h1 hs1
  have h4 : Own (DRR (.slice va n vc) n L :: BD (b + 1) 0 0 0 nilv nilv 0 :: BD b N bits keep (.slice va n vc) (.slice ga gk gcc) u :: l) W2 := h2.third
  obtain ⟨c0, c1, c2, c3, c4, c5, -, -, -, -, -, -⟩ := bd_cells h4 (b := b) (n := N) (bits := bits) (keep := keep) (vL := .slice va n vc) (vG := .slice ga gk gcc) (u := u) (.tail _ (.tail _ (.head _)))
  have HAT := Lib.hid (rat_any (N := N) (bits := bits) (keep := keep) (vG := .slice ga gk gcc) (u := u) h4 hL bn f)
  have HFN := Lib.hid (fun i (hi : AtS L f i) => at_find hu hi)
  have HO := Lib.hid hf
  have HR := Lib.hid hL
  have HB := Lib.hid hb
  have HOO := Lib.hid hO
  have HW1 := Lib.hid hW1
  have HW2 := Lib.hid hW2
  clear h h1 h2 h4 hL hu hf hb hW1 hW2 hs1 hs2 hO
  go_enter Try.func32, Try.ntmps32
  go_upto_region 1 with fail
  rw [HB.out, HW1.out, HW2.out]
  clear HB HW1 HW2
  go_wp2_with fail
  (with_reducible refine (HAT.out).mono ?_)
  rintro e w2 ⟨i, rfl, hi, h3⟩
  obtain ⟨j, rfl, hj⟩ : ∃ j : Nat, i = (j : Int) ∧ L[j]? = some d := by
    rcases HFN.out i hi with ⟨-, hn⟩ | ⟨j, d', rfl, hj, hd⟩
    · rw [HO.out] at hn; cases hn
    · rw [HO.out] at hd
      injection hd with hd
      exact ⟨j, rfl, by rw [hd]; exact hj⟩
  have hlt : j < n := by rw [← HR.out]; exact (List.getElem?_eq_some_iff.1 hj).1
  have hltI : (j : Int) < (n : Int) := by omega
  obtain ⟨g, rfl⟩ : ∃ g, va = some ⟨g, 0, none⟩ := by
    obtain ⟨g, hg, -⟩ := drow h3 hlt hj
    exact ⟨g, hg⟩
  obtain ⟨c0, c1, c2, c3, c4, c5, -, -, -, -, -, -⟩ := bd_cells h3 (b := b) (n := N) (bits := bits) (keep := keep) (vL := .slice (some ⟨g, 0, none⟩) n vc) (vG := .slice ga gk gcc) (u := u) (.tail _ (.tail _ (.head _)))
  obtain ⟨x0, x1, x2, x3, x4, x5, f0, f1, f2, f3, f4, f5⟩ := bd_cells h3 (b := b + 1) (n := 0) (bits := 0) (keep := 0) (vL := nilv) (vG := nilv) (u := 0) (.tail _ (.head _))
  obtain ⟨g', hg, gc, r0, r1, r2, r3, r4, r5, r6, r7, r8⟩ := drow h3 hlt hj
  obtain rfl : g = g' := by injection hg with hg; injection hg
  obtain ⟨c, hc⟩ : ∃ c, w2.heap.size = c := ⟨_, rfl⟩
  obtain ⟨W5, hW5, hs5, h5⟩ := boxR h3 hc d
  obtain ⟨s0, s1, s2, s3, s4, s5, s6, s7, s8⟩ := br_cells h5 (.head _)
  have sf := br_frozen h5 (.head _)
  obtain ⟨w6, e6, h6⟩ := Own.brAge h5 now
  obtain ⟨w7, e7, h7⟩ := Own.brRests h6 true
  obtain ⟨-, -, -, -, -, -, -, -, u8⟩ := br_cells h6 (.head _)
  have uf := br_frozen h6 (.head _)
  clear h6
  have hbx := h7.swap
  obtain ⟨p0, p1, p2, p3, p4, p5, -, -, -, -, -, -⟩ := bd_cells h7 (b := b) (n := N) (bits := bits) (keep := keep) (vL := .slice (some ⟨g, 0, none⟩) n vc) (vG := .slice ga gk gcc) (u := u) (.tail _ (.tail _ (.tail _ (.head _))))
  obtain ⟨t0, t1, t2, t3, t4, t5, t6, t7, t8⟩ := br_cells h7 (.head _)
  have HWI := Lib.hid (rwith_any (N := N) (bits := bits) (keep := keep) (ga := ga) (gk := gk) (gcc := gcc) (u := u) hbx HR.out bn ⟨d.k, { d.f with ag := now }, true⟩)
  have HC := Lib.hid hc
  have HW5 := Lib.hid hW5
  have HH := Lib.hid h7
  clear h3 hi hj HAT HFN hc hW5 hs5 h5 h7 hbx
  go_upto_region 5 with fail
  rw [HC.out, HW5.out]
  clear HC HW5
  go_wp2_with fail
  (with_reducible refine (HWI.out).mono ?_)
  rintro e w8 ⟨v', rfl, h8⟩
  rw [← HOO.out] at h8
  obtain ⟨va8, vc8, rfl⟩ := h8.rowR.slice
  obtain ⟨K, hK⟩ : ∃ K, K = O.length := ⟨_, rfl⟩
  rw [← hK] at h8 ⊢
  obtain ⟨x0, x1, x2, x3, x4, x5, f0, f1, f2, f3, f4, f5⟩ := bd_cells h8 (b := b + 1) (n := 0) (bits := 0) (keep := 0) (vL := nilv) (vG := nilv) (u := 0) (.tail _ (.tail _ (.head _)))
  obtain ⟨w9, e9, h9⟩ := Own.bdSet (n' := N) (bits' := bits) (keep' := keep) (vL' := .slice va8 K vc8) (vG' := .slice ga gk gcc) (u' := u) h8.third
  obtain ⟨q0, q1, q2, q3, q4, q5, -, -, -, -, -, -⟩ := bd_cells h9 (.head _)
  have HF : Hid (Own (DRR (.slice va8 K vc8) K O :: l) w9) := Lib.hid (h9.drop.swap.drop.swap.drop)
  have HK := Lib.hid hK
  clear h8 h9 hK HH HWI
  go_wp2_with fail
  exact bodyPost_ret (v := .tuple #[dv N bits keep (.slice va8 K vc8) (.slice ga gk gcc) u, .int .i64 0]) (by simp [results, Try.results32, go_sem, q0, q1, q2, q3, q4, q5]) rfl ⟨_, rfl, by rw [← HK.out]; exact HF.out⟩
set_option maxHeartbeats 2000000 in
theorem rbusy_no {v : Value} {ga : Option Addr} {gk gcc : Nat} {n N bits u : Nat} {keep : Int} {L : List DR} {l : List HP} {w : World} (h : Own (DRR v n L :: l) w) (hL : L.length = n) (bn : n ≤ 60000) (hu : UniqD L) (f : Int) (hf : fndD L f = none) :
    Calls Try.prog 33 #[dv N bits keep v (.slice ga gk gcc) u, .int .i64 f] w fun e w' => e = .returned (.tuple #[dv N bits keep v (.slice ga gk gcc) u, .int .i64 2]) ∧ Own (DRR v n L :: l) w' := by
  obtain ⟨va, vc, rfl⟩ := h.rowR.slice
  obtain ⟨b, hb⟩ : ∃ b, w.heap.size = b := ⟨_, rfl⟩
  obtain ⟨W1, hW1, hs1, h1⟩ := boxT h hb N bits keep (.slice va n vc) (.slice ga gk gcc) u
  obtain ⟨W2, hW2, hs2, h2⟩ := boxZ h1 hs1
  have h4 : Own (DRR (.slice va n vc) n L :: BD (b + 1) 0 0 0 nilv nilv 0 :: BD b N bits keep (.slice va n vc) (.slice ga gk gcc) u :: l) W2 := h2.third
  obtain ⟨c0, c1, c2, c3, c4, c5, -, -, -, -, -, -⟩ := bd_cells h4 (b := b) (n := N) (bits := bits) (keep := keep) (vL := .slice va n vc) (vG := .slice ga gk gcc) (u := u) (.tail _ (.tail _ (.head _)))
  have HAT := Lib.hid (rat_any (N := N) (bits := bits) (keep := keep) (vG := .slice ga gk gcc) (u := u) h4 hL bn f)
  have HFN := Lib.hid (fun i (hi : AtS L f i) => at_find hu hi)
  have HO := Lib.hid hf
  have HR := Lib.hid hL
  have HB := Lib.hid hb
  have HW1 := Lib.hid hW1
  have HW2 := Lib.hid hW2
  clear h h1 h2 h4 hL hu hf hb hW1 hW2 hs1 hs2
  go_enter Try.func33, Try.ntmps33
  go_upto_region 1 with fail
  rw [HB.out, HW1.out, HW2.out]
  clear HB HW1 HW2
  go_wp2_with fail
  (with_reducible refine (HAT.out).mono ?_)
  rintro e w2 ⟨i, rfl, hi, h3⟩
  have hi1 : i = -1 := by
    rcases HFN.out i hi with ⟨rfl, -⟩ | ⟨j, d, rfl, hj, hd⟩
    · rfl
    · rw [HO.out] at hd; cases hd
  subst hi1
  obtain ⟨c0, c1, c2, c3, c4, c5, -, -, -, -, -, -⟩ := bd_cells h3 (b := b) (n := N) (bits := bits) (keep := keep) (vL := .slice va n vc) (vG := .slice ga gk gcc) (u := u) (.tail _ (.tail _ (.head _)))
  obtain ⟨x0, x1, x2, x3, x4, x5, f0, f1, f2, f3, f4, f5⟩ := bd_cells h3 (b := b + 1) (n := 0) (bits := 0) (keep := 0) (vL := nilv) (vG := nilv) (u := 0) (.tail _ (.head _))
  obtain ⟨w4, e4, h4⟩ := Own.bdSet (n' := N) (bits' := bits) (keep' := keep) (vL' := .slice va n vc) (vG' := .slice ga gk gcc) (u' := u) h3.swap
  obtain ⟨q0, q1, q2, q3, q4, q5, -, -, -, -, -, -⟩ := bd_cells h4 (.head _)
  have H4 := Lib.hid h4
  clear h3 h4 hi HAT HFN
  go_wp2_with fail
  exact bodyPost_ret (v := .tuple #[dv N bits keep (.slice va n vc) (.slice ga gk gcc) u, .int .i64 2]) (by simp [results, Try.results33, go_sem, q0, q1, q2, q3, q4, q5]) rfl ⟨rfl, H4.out.drop.swap.drop⟩
set_option maxHeartbeats 2000000 in
theorem rbusy_yes {v : Value} {ga : Option Addr} {gk gcc : Nat} {n N bits u : Nat} {keep : Int} {L : List DR} {l : List HP} {w : World} (h : Own (DRR v n L :: l) w) (hL : L.length = n) (bn : n ≤ 60000) (hu : UniqD L) (f : Int) (d : DR) (hf : fndD L f = some d) :
    Calls Try.prog 33 #[dv N bits keep v (.slice ga gk gcc) u, .int .i64 f] w fun e w' => ∃ v', e = .returned (.tuple #[dv N bits keep v' (.slice ga gk gcc) u, .int .i64 0]) ∧ Own (DRR v' (withD L ⟨d.k, d.f, false⟩).length (withD L ⟨d.k, d.f, false⟩) :: l) w' := by
  obtain ⟨va, vc, rfl⟩ := h.rowR.slice
  obtain ⟨O, hO⟩ : ∃ O, O = withD L ⟨d.k, d.f, false⟩ := ⟨_, rfl⟩
  rw [← hO]
  obtain ⟨b, hb⟩ : ∃ b, w.heap.size = b := ⟨_, rfl⟩
  obtain ⟨W1, hW1, hs1, h1⟩ := boxT h hb N bits keep (.slice va n vc) (.slice ga gk gcc) u
  obtain ⟨W2, hW2, hs2, h2⟩ := boxZ h1 hs1
  have h4 : Own (DRR (.slice va n vc) n L :: BD (b + 1) 0 0 0 nilv nilv 0 :: BD b N bits keep (.slice va n vc) (.slice ga gk gcc) u :: l) W2 := h2.third
  obtain ⟨c0, c1, c2, c3, c4, c5, -, -, -, -, -, -⟩ := bd_cells h4 (b := b) (n := N) (bits := bits) (keep := keep) (vL := .slice va n vc) (vG := .slice ga gk gcc) (u := u) (.tail _ (.tail _ (.head _)))
  have HAT := Lib.hid (rat_any (N := N) (bits := bits) (keep := keep) (vG := .slice ga gk gcc) (u := u) h4 hL bn f)
  have HFN := Lib.hid (fun i (hi : AtS L f i) => at_find hu hi)
  have HO := Lib.hid hf
  have HR := Lib.hid hL
  have HB := Lib.hid hb
  have HOO := Lib.hid hO
  have HW1 := Lib.hid hW1
  have HW2 := Lib.hid hW2
  clear h h1 h2 h4 hL hu hf hb hW1 hW2 hs1 hs2 hO
  go_enter Try.func33, Try.ntmps33
  go_upto_region 1 with fail
  rw [HB.out, HW1.out, HW2.out]
  clear HB HW1 HW2
  go_wp2_with fail
  (with_reducible refine (HAT.out).mono ?_)
  rintro e w2 ⟨i, rfl, hi, h3⟩
  obtain ⟨j, rfl, hj⟩ : ∃ j : Nat, i = (j : Int) ∧ L[j]? = some d := by
    rcases HFN.out i hi with ⟨-, hn⟩ | ⟨j, d', rfl, hj, hd⟩
    · rw [HO.out] at hn; cases hn
    · rw [HO.out] at hd
      injection hd with hd
      exact ⟨j, rfl, by rw [hd]; exact hj⟩
  have hlt : j < n := by rw [← HR.out]; exact (List.getElem?_eq_some_iff.1 hj).1
  have hltI : (j : Int) < (n : Int) := by omega
  obtain ⟨g, rfl⟩ : ∃ g, va = some ⟨g, 0, none⟩ := by
    obtain ⟨g, hg, -⟩ := drow h3 hlt hj
    exact ⟨g, hg⟩
  obtain ⟨c0, c1, c2, c3, c4, c5, -, -, -, -, -, -⟩ := bd_cells h3 (b := b) (n := N) (bits := bits) (keep := keep) (vL := .slice (some ⟨g, 0, none⟩) n vc) (vG := .slice ga gk gcc) (u := u) (.tail _ (.tail _ (.head _)))
  obtain ⟨x0, x1, x2, x3, x4, x5, f0, f1, f2, f3, f4, f5⟩ := bd_cells h3 (b := b + 1) (n := 0) (bits := 0) (keep := 0) (vL := nilv) (vG := nilv) (u := 0) (.tail _ (.head _))
  obtain ⟨g', hg, gc, r0, r1, r2, r3, r4, r5, r6, r7, r8⟩ := drow h3 hlt hj
  obtain rfl : g = g' := by injection hg with hg; injection hg
  obtain ⟨c, hc⟩ : ∃ c, w2.heap.size = c := ⟨_, rfl⟩
  obtain ⟨W5, hW5, hs5, h5⟩ := boxR h3 hc d
  obtain ⟨s0, s1, s2, s3, s4, s5, s6, s7, s8⟩ := br_cells h5 (.head _)
  have sf := br_frozen h5 (.head _)
  obtain ⟨w7, e7, h7⟩ := Own.brRests h5 false
  have hbx := h7.swap
  obtain ⟨p0, p1, p2, p3, p4, p5, -, -, -, -, -, -⟩ := bd_cells h7 (b := b) (n := N) (bits := bits) (keep := keep) (vL := .slice (some ⟨g, 0, none⟩) n vc) (vG := .slice ga gk gcc) (u := u) (.tail _ (.tail _ (.tail _ (.head _))))
  obtain ⟨t0, t1, t2, t3, t4, t5, t6, t7, t8⟩ := br_cells h7 (.head _)
  have HWI := Lib.hid (rwith_any (N := N) (bits := bits) (keep := keep) (ga := ga) (gk := gk) (gcc := gcc) (u := u) hbx HR.out bn ⟨d.k, d.f, false⟩)
  have HC := Lib.hid hc
  have HW5 := Lib.hid hW5
  have HH := Lib.hid h7
  clear h3 hi hj HAT HFN hc hW5 hs5 h5 h7 hbx
  go_upto_region 5 with fail
  rw [HC.out, HW5.out]
  clear HC HW5
  go_wp2_with fail
  (with_reducible refine (HWI.out).mono ?_)
  rintro e w8 ⟨v', rfl, h8⟩
  rw [← HOO.out] at h8
  obtain ⟨va8, vc8, rfl⟩ := h8.rowR.slice
  obtain ⟨K, hK⟩ : ∃ K, K = O.length := ⟨_, rfl⟩
  rw [← hK] at h8 ⊢
  obtain ⟨x0, x1, x2, x3, x4, x5, f0, f1, f2, f3, f4, f5⟩ := bd_cells h8 (b := b + 1) (n := 0) (bits := 0) (keep := 0) (vL := nilv) (vG := nilv) (u := 0) (.tail _ (.tail _ (.head _)))
  obtain ⟨w9, e9, h9⟩ := Own.bdSet (n' := N) (bits' := bits) (keep' := keep) (vL' := .slice va8 K vc8) (vG' := .slice ga gk gcc) (u' := u) h8.third
  obtain ⟨q0, q1, q2, q3, q4, q5, -, -, -, -, -, -⟩ := bd_cells h9 (.head _)
  have HF : Hid (Own (DRR (.slice va8 K vc8) K O :: l) w9) := Lib.hid (h9.drop.swap.drop.swap.drop)
  have HK := Lib.hid hK
  clear h8 h9 hK HH HWI
  go_wp2_with fail
  exact bodyPost_ret (v := .tuple #[dv N bits keep (.slice va8 K vc8) (.slice ga gk gcc) u, .int .i64 0]) (by simp [results, Try.results33, go_sem, q0, q1, q2, q3, q4, q5]) rfl ⟨_, rfl, by rw [← HK.out]; exact HF.out⟩
set_option maxHeartbeats 2000000 in
theorem rset_no {v : Value} {ga : Option Addr} {gk gcc : Nat} {n N bits u : Nat} {keep : Int} {L : List DR} {l : List HP} {w : World} (h : Own (DRR v n L :: l) w) (hL : L.length = n) (bn : n ≤ 60000) (hu : UniqD L) (f : Int) (x : FD) (hf : fndD L f = none) :
    Calls Try.prog 35 #[dv N bits keep v (.slice ga gk gcc) u, .int .i64 f, fagg x] w fun e w' => e = .returned (.tuple #[dv N bits keep v (.slice ga gk gcc) u, .int .i64 2]) ∧ Own (DRR v n L :: l) w' := by
  obtain ⟨va, vc, rfl⟩ := h.rowR.slice
  obtain ⟨b, hb⟩ : ∃ b, w.heap.size = b := ⟨_, rfl⟩
  obtain ⟨W1, hW1, hs1, h1⟩ := boxT h hb N bits keep (.slice va n vc) (.slice ga gk gcc) u
  obtain ⟨W2, hW2, hs2, h2⟩ := boxF h1 hs1 x
  obtain ⟨W3, hW3, hs3, h3⟩ := boxZ h2 hs2
  have h4 : Own (DRR (.slice va n vc) n L :: BD (b + 1 + 1) 0 0 0 nilv nilv 0 :: BF (b + 1) x :: BD b N bits keep (.slice va n vc) (.slice ga gk gcc) u :: l) W3 := h3.fourth
  obtain ⟨c0, c1, c2, c3, c4, c5, -, -, -, -, -, -⟩ := bd_cells h4 (b := b) (n := N) (bits := bits) (keep := keep) (vL := .slice va n vc) (vG := .slice ga gk gcc) (u := u) (.tail _ (.tail _ (.tail _ (.head _))))
  have HAT := Lib.hid (rat_any (N := N) (bits := bits) (keep := keep) (vG := .slice ga gk gcc) (u := u) h4 hL bn f)
  have HFN := Lib.hid (fun i (hi : AtS L f i) => at_find hu hi)
  have HO := Lib.hid hf
  have HR := Lib.hid hL
  have HB := Lib.hid hb
  have HW1 := Lib.hid hW1
  have HW2 := Lib.hid hW2
  have HW3 := Lib.hid hW3
  clear h h1 h2 h3 h4 hL hu hf hb hW1 hW2 hW3 hs1 hs2 hs3
  go_enter Try.func35, Try.ntmps35
  go_upto_region 1 with fail
  rw [HB.out, HW1.out, HW2.out, HW3.out]
  clear HB HW1 HW2 HW3
  go_wp2_with fail
  (with_reducible refine (HAT.out).mono ?_)
  rintro e w2 ⟨i, rfl, hi, h3⟩
  have hi1 : i = -1 := by
    rcases HFN.out i hi with ⟨rfl, -⟩ | ⟨j, d, rfl, hj, hd⟩
    · rfl
    · rw [HO.out] at hd; cases hd
  subst hi1
  clear c0 c1 c2 c3 c4 c5
  obtain ⟨c0, c1, c2, c3, c4, c5, -, -, -, -, -, -⟩ := bd_cells h3 (b := b) (n := N) (bits := bits) (keep := keep) (vL := .slice va n vc) (vG := .slice ga gk gcc) (u := u) (.tail _ (.tail _ (.tail _ (.head _))))
  obtain ⟨x0, x1, x2, x3, x4, x5, f0, f1, f2, f3, f4, f5⟩ := bd_cells h3 (b := b + 1 + 1) (n := 0) (bits := 0) (keep := 0) (vL := nilv) (vG := nilv) (u := 0) (.tail _ (.head _))
  obtain ⟨y0, y1, y2, y3, y4, y5, y6⟩ := bf_cells (b := b + 1) (F := x) h3 (.tail _ (.tail _ (.head _)))
  go_upto_region 2 with fail
  go_quiet (fail)
  replace h3 := h3.step ((Ext.refl _).drewN nq)
  generalize World.drewN _ nq = w2 at h3 ⊢
  clear c0 c1 c2 c3 c4 c5 x0 x1 x2 x3 x4 x5 f0 f1 f2 f3 f4 f5 y0 y1 y2 y3 y4 y5 y6
  obtain ⟨c0, c1, c2, c3, c4, c5, -, -, -, -, -, -⟩ := bd_cells h3 (b := b) (n := N) (bits := bits) (keep := keep) (vL := .slice va n vc) (vG := .slice ga gk gcc) (u := u) (.tail _ (.tail _ (.tail _ (.head _))))
  obtain ⟨x0, x1, x2, x3, x4, x5, f0, f1, f2, f3, f4, f5⟩ := bd_cells h3 (b := b + 1 + 1) (n := 0) (bits := 0) (keep := 0) (vL := nilv) (vG := nilv) (u := 0) (.tail _ (.head _))
  obtain ⟨y0, y1, y2, y3, y4, y5, y6⟩ := bf_cells (b := b + 1) (F := x) h3 (.tail _ (.tail _ (.head _)))
  obtain ⟨w4, e4, h4⟩ := Own.bdSet (n' := N) (bits' := bits) (keep' := keep) (vL' := .slice va n vc) (vG' := .slice ga gk gcc) (u' := u) h3.swap
  obtain ⟨q0, q1, q2, q3, q4, q5, -, -, -, -, -, -⟩ := bd_cells h4 (.head _)
  have H4 := Lib.hid h4
  clear h3 h4 hi HAT HFN
  go_wp2_with fail
  exact bodyPost_ret (v := .tuple #[dv N bits keep (.slice va n vc) (.slice ga gk gcc) u, .int .i64 2]) (by simp [results, Try.results35, go_sem, q0, q1, q2, q3, q4, q5]) rfl ⟨rfl, H4.out.drop.swap.drop.swap.drop⟩
set_option maxHeartbeats 2000000 in
theorem rset_yes {v : Value} {ga : Option Addr} {gk gcc : Nat} {n N bits u : Nat} {keep : Int} {L : List DR} {l : List HP} {w : World} (h : Own (DRR v n L :: l) w) (hL : L.length = n) (bn : n ≤ 60000) (hu : UniqD L) (f : Int) (x : FD) (d : DR) (hf : fndD L f = some d) (hx : d.f.s = x.s) :
    Calls Try.prog 35 #[dv N bits keep v (.slice ga gk gcc) u, .int .i64 f, fagg x] w fun e w' => ∃ v', e = .returned (.tuple #[dv N bits keep v' (.slice ga gk gcc) u, .int .i64 0]) ∧ Own (DRR v' (withD L ⟨d.k, x, d.q⟩).length (withD L ⟨d.k, x, d.q⟩) :: l) w' := by
  obtain ⟨va, vc, rfl⟩ := h.rowR.slice
  obtain ⟨O, hO⟩ : ∃ O, O = withD L ⟨d.k, x, d.q⟩ := ⟨_, rfl⟩
  rw [← hO]
  obtain ⟨b, hb⟩ : ∃ b, w.heap.size = b := ⟨_, rfl⟩
  obtain ⟨W1, hW1, hs1, h1⟩ := boxT h hb N bits keep (.slice va n vc) (.slice ga gk gcc) u
  obtain ⟨W2, hW2, hs2, h2⟩ := boxF h1 hs1 x
  obtain ⟨W3, hW3, hs3, h3⟩ := boxZ h2 hs2
  have h4 : Own (DRR (.slice va n vc) n L :: BD (b + 1 + 1) 0 0 0 nilv nilv 0 :: BF (b + 1) x :: BD b N bits keep (.slice va n vc) (.slice ga gk gcc) u :: l) W3 := h3.fourth
  obtain ⟨c0, c1, c2, c3, c4, c5, -, -, -, -, -, -⟩ := bd_cells h4 (b := b) (n := N) (bits := bits) (keep := keep) (vL := .slice va n vc) (vG := .slice ga gk gcc) (u := u) (.tail _ (.tail _ (.tail _ (.head _))))
  have HAT := Lib.hid (rat_any (N := N) (bits := bits) (keep := keep) (vG := .slice ga gk gcc) (u := u) h4 hL bn f)
  have HFN := Lib.hid (fun i (hi : AtS L f i) => at_find hu hi)
  have HO := Lib.hid hf
  have HR := Lib.hid hL
  have HB := Lib.hid hb
  have HOO := Lib.hid hO
  have HW1 := Lib.hid hW1
  have HW2 := Lib.hid hW2
  have HW3 := Lib.hid hW3
  clear h h1 h2 h3 h4 hL hu hf hb hW1 hW2 hW3 hs1 hs2 hs3 hO
  go_enter Try.func35, Try.ntmps35
  go_upto_region 1 with fail
  rw [HB.out, HW1.out, HW2.out, HW3.out]
  clear HB HW1 HW2 HW3
  go_wp2_with fail
  (with_reducible refine (HAT.out).mono ?_)
  rintro e w2 ⟨i, rfl, hi, h3⟩
  obtain ⟨j, rfl, hj⟩ : ∃ j : Nat, i = (j : Int) ∧ L[j]? = some d := by
    rcases HFN.out i hi with ⟨-, hn⟩ | ⟨j, d', rfl, hj, hd⟩
    · rw [HO.out] at hn; cases hn
    · rw [HO.out] at hd
      injection hd with hd
      exact ⟨j, rfl, by rw [hd]; exact hj⟩
  have hlt : j < n := by rw [← HR.out]; exact (List.getElem?_eq_some_iff.1 hj).1
  have hltI : (j : Int) < (n : Int) := by omega
  obtain ⟨g, rfl⟩ : ∃ g, va = some ⟨g, 0, none⟩ := by
    obtain ⟨g, hg, -⟩ := drow h3 hlt hj
    exact ⟨g, hg⟩
  clear c0 c1 c2 c3 c4 c5
  obtain ⟨c0, c1, c2, c3, c4, c5, -, -, -, -, -, -⟩ := bd_cells h3 (b := b) (n := N) (bits := bits) (keep := keep) (vL := .slice (some ⟨g, 0, none⟩) n vc) (vG := .slice ga gk gcc) (u := u) (.tail _ (.tail _ (.tail _ (.head _))))
  obtain ⟨x0, x1, x2, x3, x4, x5, f0, f1, f2, f3, f4, f5⟩ := bd_cells h3 (b := b + 1 + 1) (n := 0) (bits := 0) (keep := 0) (vL := nilv) (vG := nilv) (u := 0) (.tail _ (.head _))
  obtain ⟨y0, y1, y2, y3, y4, y5, y6⟩ := bf_cells (b := b + 1) (F := x) h3 (.tail _ (.tail _ (.head _)))
  obtain ⟨g', hg, gc, r0, r1, r2, r3, r4, r5, r6, r7, r8⟩ := drow h3 hlt hj
  obtain rfl : g = g' := by injection hg with hg; injection hg
  have hne : (d.f.s != x.s) = false := by simp [hx]
  have HX := Lib.hid hx
  clear hx
  go_upto_region 2 with fail
  go_quiet (fail)
  replace h3 := h3.step ((Ext.refl _).drewN nq)
  generalize World.drewN _ nq = w2 at h3 ⊢
  clear c0 c1 c2 c3 c4 c5 x0 x1 x2 x3 x4 x5 f0 f1 f2 f3 f4 f5 y0 y1 y2 y3 y4 y5 y6 r0 r1 r2 r3 r4 r5 r6 r7 r8
  obtain ⟨c0, c1, c2, c3, c4, c5, -, -, -, -, -, -⟩ := bd_cells h3 (b := b) (n := N) (bits := bits) (keep := keep) (vL := .slice (some ⟨g, 0, none⟩) n vc) (vG := .slice ga gk gcc) (u := u) (.tail _ (.tail _ (.tail _ (.head _))))
  obtain ⟨x0, x1, x2, x3, x4, x5, f0, f1, f2, f3, f4, f5⟩ := bd_cells h3 (b := b + 1 + 1) (n := 0) (bits := 0) (keep := 0) (vL := nilv) (vG := nilv) (u := 0) (.tail _ (.head _))
  obtain ⟨y0, y1, y2, y3, y4, y5, y6⟩ := bf_cells (b := b + 1) (F := x) h3 (.tail _ (.tail _ (.head _)))
  obtain ⟨g', hg, gc, r0, r1, r2, r3, r4, r5, r6, r7, r8⟩ := drow h3 hlt hj
  obtain rfl : g = g' := by injection hg with hg; injection hg
  obtain ⟨c, hc⟩ : ∃ c, w2.heap.size = c := ⟨_, rfl⟩
  obtain ⟨W5, hW5, hs5, h5⟩ := boxR h3 hc d
  obtain ⟨s0, s1, s2, s3, s4, s5, s6, s7, s8⟩ := br_cells h5 (.head _)
  have sf := br_frozen h5 (.head _)
  obtain ⟨w7, e7, h7⟩ := Own.brFlow h5 x
  have hbx := h7.swap
  obtain ⟨p0, p1, p2, p3, p4, p5, -, -, -, -, -, -⟩ := bd_cells h7 (b := b) (n := N) (bits := bits) (keep := keep) (vL := .slice (some ⟨g, 0, none⟩) n vc) (vG := .slice ga gk gcc) (u := u) (.tail _ (.tail _ (.tail _ (.tail _ (.head _)))))
  obtain ⟨t0, t1, t2, t3, t4, t5, t6, t7, t8⟩ := br_cells h7 (.head _)
  clear y0 y1 y2 y3 y4 y5 y6
  obtain ⟨y0, y1, y2, y3, y4, y5, y6⟩ := bf_cells (b := b + 1) (F := x) h5 (.tail _ (.tail _ (.tail _ (.head _))))
  have HWI := Lib.hid (rwith_any (N := N) (bits := bits) (keep := keep) (ga := ga) (gk := gk) (gcc := gcc) (u := u) hbx HR.out bn ⟨d.k, x, d.q⟩)
  have HC := Lib.hid hc
  have HW5 := Lib.hid hW5
  have HH := Lib.hid h7
  clear h3 hi hj HAT HFN hc hW5 hs5 h5 h7 hbx
  go_upto_region 5 with fail
  rw [HC.out, HW5.out]
  clear HC HW5
  go_wp2_with fail
  (with_reducible refine (HWI.out).mono ?_)
  rintro e w8 ⟨v', rfl, h8⟩
  rw [← HOO.out] at h8
  obtain ⟨va8, vc8, rfl⟩ := h8.rowR.slice
  obtain ⟨K, hK⟩ : ∃ K, K = O.length := ⟨_, rfl⟩
  rw [← hK] at h8 ⊢
  obtain ⟨x0, x1, x2, x3, x4, x5, f0, f1, f2, f3, f4, f5⟩ := bd_cells h8 (b := b + 1 + 1) (n := 0) (bits := 0) (keep := 0) (vL := nilv) (vG := nilv) (u := 0) (.tail _ (.tail _ (.head _)))
  obtain ⟨w9, e9, h9⟩ := Own.bdSet (n' := N) (bits' := bits) (keep' := keep) (vL' := .slice va8 K vc8) (vG' := .slice ga gk gcc) (u' := u) h8.third
  obtain ⟨q0, q1, q2, q3, q4, q5, -, -, -, -, -, -⟩ := bd_cells h9 (.head _)
  have HF : Hid (Own (DRR (.slice va8 K vc8) K O :: l) w9) := Lib.hid (h9.drop.swap.drop.swap.drop.swap.drop)
  have HK := Lib.hid hK
  clear h8 h9 hK HH HWI
  go_wp2_with fail
  exact bodyPost_ret (v := .tuple #[dv N bits keep (.slice va8 K vc8) (.slice ga gk gcc) u, .int .i64 0]) (by simp [results, Try.results35, go_sem, q0, q1, q2, q3, q4, q5]) rfl ⟨_, rfl, by rw [← HK.out]; exact HF.out⟩
set_option maxHeartbeats 2000000 in
theorem rset_other {v : Value} {ga : Option Addr} {gk gcc : Nat} {n N bits u : Nat} {keep : Int} {L : List DR} {l : List HP} {w : World} (h : Own (DRR v n L :: l) w) (hL : L.length = n) (bn : n ≤ 60000) (hu : UniqD L) (f : Int) (x : FD) (d : DR) (hf : fndD L f = some d) (hx : d.f.s ≠ x.s) :
    Calls Try.prog 35 #[dv N bits keep v (.slice ga gk gcc) u, .int .i64 f, fagg x] w fun e w' => e = .returned (.tuple #[dv N bits keep v (.slice ga gk gcc) u, .int .i64 2]) ∧ Own (DRR v n L :: l) w' := by
  obtain ⟨va, vc, rfl⟩ := h.rowR.slice
  obtain ⟨b, hb⟩ : ∃ b, w.heap.size = b := ⟨_, rfl⟩
  obtain ⟨W1, hW1, hs1, h1⟩ := boxT h hb N bits keep (.slice va n vc) (.slice ga gk gcc) u
  obtain ⟨W2, hW2, hs2, h2⟩ := boxF h1 hs1 x
  obtain ⟨W3, hW3, hs3, h3⟩ := boxZ h2 hs2
  have h4 : Own (DRR (.slice va n vc) n L :: BD (b + 1 + 1) 0 0 0 nilv nilv 0 :: BF (b + 1) x :: BD b N bits keep (.slice va n vc) (.slice ga gk gcc) u :: l) W3 := h3.fourth
  obtain ⟨c0, c1, c2, c3, c4, c5, -, -, -, -, -, -⟩ := bd_cells h4 (b := b) (n := N) (bits := bits) (keep := keep) (vL := .slice va n vc) (vG := .slice ga gk gcc) (u := u) (.tail _ (.tail _ (.tail _ (.head _))))
  have HAT := Lib.hid (rat_any (N := N) (bits := bits) (keep := keep) (vG := .slice ga gk gcc) (u := u) h4 hL bn f)
  have HFN := Lib.hid (fun i (hi : AtS L f i) => at_find hu hi)
  have HO := Lib.hid hf
  have HR := Lib.hid hL
  have HB := Lib.hid hb
  have HW1 := Lib.hid hW1
  have HW2 := Lib.hid hW2
  have HW3 := Lib.hid hW3
  clear h h1 h2 h3 h4 hL hu hf hb hW1 hW2 hW3 hs1 hs2 hs3
  go_enter Try.func35, Try.ntmps35
  go_upto_region 1 with fail
  rw [HB.out, HW1.out, HW2.out, HW3.out]
  clear HB HW1 HW2 HW3
  go_wp2_with fail
  (with_reducible refine (HAT.out).mono ?_)
  rintro e w2 ⟨i, rfl, hi, h3⟩
  obtain ⟨j, rfl, hj⟩ : ∃ j : Nat, i = (j : Int) ∧ L[j]? = some d := by
    rcases HFN.out i hi with ⟨-, hn⟩ | ⟨j, d', rfl, hj, hd⟩
    · rw [HO.out] at hn; cases hn
    · rw [HO.out] at hd
      injection hd with hd
      exact ⟨j, rfl, by rw [hd]; exact hj⟩
  have hlt : j < n := by rw [← HR.out]; exact (List.getElem?_eq_some_iff.1 hj).1
  have hltI : (j : Int) < (n : Int) := by omega
  obtain ⟨g, rfl⟩ : ∃ g, va = some ⟨g, 0, none⟩ := by
    obtain ⟨g, hg, -⟩ := drow h3 hlt hj
    exact ⟨g, hg⟩
  clear c0 c1 c2 c3 c4 c5
  obtain ⟨c0, c1, c2, c3, c4, c5, -, -, -, -, -, -⟩ := bd_cells h3 (b := b) (n := N) (bits := bits) (keep := keep) (vL := .slice (some ⟨g, 0, none⟩) n vc) (vG := .slice ga gk gcc) (u := u) (.tail _ (.tail _ (.tail _ (.head _))))
  obtain ⟨x0, x1, x2, x3, x4, x5, f0, f1, f2, f3, f4, f5⟩ := bd_cells h3 (b := b + 1 + 1) (n := 0) (bits := 0) (keep := 0) (vL := nilv) (vG := nilv) (u := 0) (.tail _ (.head _))
  obtain ⟨y0, y1, y2, y3, y4, y5, y6⟩ := bf_cells (b := b + 1) (F := x) h3 (.tail _ (.tail _ (.head _)))
  obtain ⟨g', hg, gc, r0, r1, r2, r3, r4, r5, r6, r7, r8⟩ := drow h3 hlt hj
  obtain rfl : g = g' := by injection hg with hg; injection hg
  have hne : (d.f.s != x.s) = true := by simp [hx]
  clear hx
  go_upto_region 2 with fail
  go_quiet (fail)
  replace h3 := h3.step ((Ext.refl _).drewN nq)
  generalize World.drewN _ nq = w2 at h3 ⊢
  clear c0 c1 c2 c3 c4 c5 x0 x1 x2 x3 x4 x5 f0 f1 f2 f3 f4 f5 y0 y1 y2 y3 y4 y5 y6 r0 r1 r2 r3 r4 r5 r6 r7 r8
  obtain ⟨c0, c1, c2, c3, c4, c5, -, -, -, -, -, -⟩ := bd_cells h3 (b := b) (n := N) (bits := bits) (keep := keep) (vL := .slice (some ⟨g, 0, none⟩) n vc) (vG := .slice ga gk gcc) (u := u) (.tail _ (.tail _ (.tail _ (.head _))))
  obtain ⟨x0, x1, x2, x3, x4, x5, f0, f1, f2, f3, f4, f5⟩ := bd_cells h3 (b := b + 1 + 1) (n := 0) (bits := 0) (keep := 0) (vL := nilv) (vG := nilv) (u := 0) (.tail _ (.head _))
  obtain ⟨y0, y1, y2, y3, y4, y5, y6⟩ := bf_cells (b := b + 1) (F := x) h3 (.tail _ (.tail _ (.head _)))
  obtain ⟨g', hg, gc, r0, r1, r2, r3, r4, r5, r6, r7, r8⟩ := drow h3 hlt hj
  obtain rfl : g = g' := by injection hg with hg; injection hg
  obtain ⟨w4, e4, h4⟩ := Own.bdSet (n' := N) (bits' := bits) (keep' := keep) (vL' := .slice (some ⟨g, 0, none⟩) n vc) (vG' := .slice ga gk gcc) (u' := u) h3.swap
  obtain ⟨q0, q1, q2, q3, q4, q5, -, -, -, -, -, -⟩ := bd_cells h4 (.head _)
  have H4 := Lib.hid h4
  clear h3 h4 hi HAT HFN
  go_wp2_with fail
  exact bodyPost_ret (v := .tuple #[dv N bits keep (.slice (some ⟨g, 0, none⟩) n vc) (.slice ga gk gcc) u, .int .i64 2]) (by simp [results, Try.results35, go_sem, q0, q1, q2, q3, q4, q5]) rfl ⟨rfl, H4.out.drop.swap.drop.swap.drop⟩
end Go.Proofs.Ytkdmlpigkmlkmaa.Tb
