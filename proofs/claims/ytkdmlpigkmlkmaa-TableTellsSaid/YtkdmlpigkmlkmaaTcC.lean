/- DERIVED. Layer 14 (table): the document's tables: contract of Drop. -/
import Derived.Test.YtkdmlpigkmlkmaaTcB
set_option linter.unusedVariables false
set_option linter.unusedSimpArgs false
set_option maxRecDepth 100000
namespace Go.Proofs.Ytkdmlpigkmlkmaa.Tb
open Go.RowKit Go.Proofs.Ytkdmlpigkmlkmaa Go.Proofs.Ytkdmlpigkmlkmaa.TreeP Go.Proofs.Ytkdmlpigkmlkmaa.Tr Go.Proofs.Ytkdmlpigkmlkmaa.Bk

abbrev DGG (v : Value) (G : List Nat) : HP := RowR 3 1 v G.length (Tr.ints G)
theorem ints_one (G : List Nat) : ∀ u ∈ Tr.ints G, u.oneCell' = true := by
  intro u hu
  obtain ⟨s, _, rfl⟩ := List.mem_map.1 hu
  rfl
theorem ints_snoc (G : List Nat) (k : Nat) : Tr.ints (G ++ [k]) = Tr.ints G ++ [.int .i64 (k : Int)] := by simp [Tr.ints]
def dfl (L : List DR) (d k : Nat) : List DR := (L.take k).filter fun x => decide (x.k ≠ d)
theorem dfl_succ {L : List DR} {d k : Nat} {e : DR} (he : L[k]? = some e) : dfl L d (k + 1) = if e.k = d then dfl L d k else dfl L d k ++ [e] := by
  unfold dfl
  rw [List.take_add_one, he, List.filter_append]
  by_cases hs : e.k = d <;> simp [hs]
theorem dfl_len (L : List DR) (d k : Nat) : (dfl L d k).length ≤ k := by
  unfold dfl
  exact Nat.le_trans (List.length_filter_le _ _) (by rw [List.length_take]; omega)
def DdI (l : List HP) (b n N bits u : Nat) (keep : Int) (v vG : Value) (L : List DR) (G : List Nat) (d : Nat) (s6 vi : Value) (wr : World) : Prop :=
  ∃ k : Nat, vi = .int .i64 (k : Int) ∧ k ≤ n ∧ Own (DRO s6 (dfl L d k) :: DRR v n L :: BD (b + 1) 0 0 0 nilv nilv 0 :: BD b N bits keep v vG u :: DGG vG G :: l) wr
theorem rdrop_no {v vG : Value} {n N bits u : Nat} {keep : Int} {L : List DR} {G : List Nat} {l : List HP} {w : World} (h : Own (DRR v n L :: DGG vG G :: l) w) (hL : L.length = n) (bn : n ≤ 60000) (hu : UniqD L) (f : Int) (hf : fndD L f = none) :
    Calls Try.prog 34 #[dv N bits keep v vG u, .int .i64 f] w fun e w' => e = .returned (.tuple #[dv N bits keep v vG u, .bool false]) ∧ Own (DRR v n L :: DGG vG G :: l) w' := by
  obtain ⟨va, vc, rfl⟩ := h.rowR.slice
  obtain ⟨ga, gk, rfl⟩ := h.swap.rowR.slice
  obtain ⟨b, hb⟩ : ∃ b, w.heap.size = b := ⟨_, rfl⟩
  obtain ⟨W1, hW1, hs1, h1⟩ := boxT h hb N bits keep (.slice va n vc) (.slice ga G.length gk) u
  obtain ⟨W2, hW2, hs2, h2⟩ := boxZ h1 hs1
  obtain ⟨c0, c1, c2, c3, c4, c5, -, -, -, -, -, -⟩ := bd_cells h2 (b := b) (n := N) (bits := bits) (keep := keep) (vL := .slice va n vc) (vG := .slice ga G.length gk) (u := u) (.tail _ (.head _))
  have HAT := Lib.hid (rat_any (N := N) (bits := bits) (keep := keep) (vG := .slice ga G.length gk) (u := u) h2.third hL bn f)
  have HF := Lib.hid (fun i (hi : AtS L f i) => at_find hu hi)
  have HO := Lib.hid hf
  have HB := Lib.hid hb
  have HW1 := Lib.hid hW1
  have HW2 := Lib.hid hW2
  have HL := Lib.hid hL
  clear h h1 h2 hL hu hf hb hW1 hW2 hs1 hs2
  go_enter Try.func34, Try.ntmps34
  go_upto_region 1 with fail
  rw [HB.out, HW1.out, HW2.out]
  clear HB HW1 HW2
  go_wp2_with fail
  (with_reducible refine (HAT.out).mono ?_)
  rintro e w2 ⟨i, rfl, hi, h3⟩
  have hi1 : i = -1 := by
    rcases HF.out i hi with ⟨rfl, -⟩ | ⟨j, d, rfl, hj, hd⟩
    · rfl
    · rw [HO.out] at hd; cases hd
  subst hi1
  obtain ⟨x0, x1, x2, x3, x4, x5, f0, f1, f2, f3, f4, f5⟩ := bd_cells (b := b + 1) (n := 0) (bits := 0) (keep := 0) (vL := nilv) (vG := nilv) (u := 0) h3 (.tail _ (.head _))
  obtain ⟨c0, c1, c2, c3, c4, c5, -, -, -, -, -, -⟩ := bd_cells h3 (b := b) (n := N) (bits := bits) (keep := keep) (vL := .slice va n vc) (vG := .slice ga G.length gk) (u := u) (.tail _ (.tail _ (.head _)))
  obtain ⟨w4, e4, h4⟩ := Own.bdSet (n' := N) (bits' := bits) (keep' := keep) (vL' := .slice va n vc) (vG' := .slice ga G.length gk) (u' := u) h3.swap
  obtain ⟨q0, q1, q2, q3, q4, q5, -, -, -, -, -, -⟩ := bd_cells h4 (.head _)
  have H4 := Lib.hid h4
  clear h3 h4 hi HAT
  go_wp2_with fail
  exact bodyPost_ret (v := .tuple #[dv N bits keep (.slice va n vc) (.slice ga G.length gk) u, .bool false]) (by simp [results, Try.results34, go_sem, q0, q1, q2, q3, q4, q5]) rfl ⟨rfl, H4.out.drop.swap.drop⟩
set_option maxHeartbeats 2000000 in
theorem rdrop_yes {v vG : Value} {n N bits u : Nat} {keep : Int} {L : List DR} {G : List Nat} {l : List HP} {w : World} (h : Own (DRR v n L :: DGG vG G :: l) w) (hL : L.length = n) (bn : n ≤ 60000) (bg : G.length ≤ 60000) (hu : UniqD L) (d : DR) (hf : fndD L (d.k : Int) = some d) :
    Calls Try.prog 34 #[dv N bits keep v vG u, .int .i64 (d.k : Int)] w fun e w' => ∃ v' vG', e = .returned (.tuple #[dv N bits keep v' vG' u, .bool true]) ∧ Own (DRR v' (L.filter fun x => decide (x.k ≠ d.k)).length (L.filter fun x => decide (x.k ≠ d.k)) :: DGG vG' (G ++ [d.k]) :: l) w' := by
  obtain ⟨va, vc, rfl⟩ := h.rowR.slice
  obtain ⟨ga, gk, rfl⟩ := h.swap.rowR.slice
  obtain ⟨m, hm⟩ : ∃ m, m = G.length := ⟨_, rfl⟩
  obtain ⟨F, hF⟩ : ∃ F, F = L.filter fun x => decide (x.k ≠ d.k) := ⟨_, rfl⟩
  rw [← hm, ← hF]
  rw [← hm] at h
  obtain ⟨b, hb⟩ : ∃ b, w.heap.size = b := ⟨_, rfl⟩
  obtain ⟨W1, hW1, hs1, h1⟩ := boxT h hb N bits keep (.slice va n vc) (.slice ga m gk) u
  obtain ⟨W2, hW2, hs2, h2⟩ := boxZ h1 hs1
  obtain ⟨c0, c1, c2, c3, c4, c5, -, -, -, -, -, -⟩ := bd_cells h2 (b := b) (n := N) (bits := bits) (keep := keep) (vL := .slice va n vc) (vG := .slice ga m gk) (u := u) (.tail _ (.head _))
  have HAT := Lib.hid (rat_any (N := N) (bits := bits) (keep := keep) (vG := .slice ga m gk) (u := u) h2.third hL bn (d.k : Int))
  have HFN := Lib.hid (fun i (hi : AtS L (d.k : Int) i) => at_find hu hi)
  have HO := Lib.hid hf
  have HB := Lib.hid hb
  have HW1 := Lib.hid hW1
  have HW2 := Lib.hid hW2
  have HR := Lib.hid hL
  have HM := Lib.hid hm
  have HFF := Lib.hid hF
  rw [← hm] at bg
  clear h h1 h2 hL hu hf hb hW1 hW2 hs1 hs2 hm hF
  go_enter Try.func34, Try.ntmps34
  go_upto_region 1 with fail
  rw [HB.out, HW1.out, HW2.out]
  clear HB HW1 HW2
  go_wp2_with fail
  (with_reducible refine (HAT.out).mono ?_)
  rintro e w2 ⟨i, rfl, hi, h3⟩
  obtain ⟨j, rfl⟩ : ∃ j : Nat, i = (j : Int) := by
    rcases HFN.out i hi with ⟨-, hn⟩ | ⟨j, d, rfl, hj, hd⟩
    · rw [HO.out] at hn; cases hn
    · exact ⟨j, rfl⟩
  have h4 : Own (DRO nilv (dfl L d.k 0) :: DRR (.slice va n vc) n L :: BD (b + 1) 0 0 0 nilv nilv 0 :: BD b N bits keep (.slice va n vc) (.slice ga m gk) u :: DGG (.slice ga m gk) G :: l) w2 := by
    exact h3.nilRow 76 9
  have H4 := Lib.hid h4
  clear h3 h4 hi HAT HFN
  go_wp2_with fail
  go_loopw [6, 7] (fun s6 vi wr => DdI l b n N bits u keep (.slice va n vc) (.slice ga m gk) L G d.k s6 vi wr) (fun _ vi _ => n - (intOf vi).toNat)
  case atStart => exact ⟨0, rfl, Nat.zero_le _, H4.out⟩
  case round =>
    clear H4
    obtain ⟨k, rfl, hk, h⟩ := hrel
    obtain ⟨c0, c1, c2, c3, c4, c5, -, -, -, z3, z4, -⟩ := bd_cells h (b := b) (n := N) (bits := bits) (keep := keep) (vL := .slice va n vc) (vG := .slice ga m gk) (u := u) (.tail _ (.tail _ (.tail _ (.head _))))
    by_cases hlt : k < n
    · have hltI : (k : Int) < (n : Int) := by omega
      obtain ⟨e, he⟩ : ∃ e, L[k]? = some e := ⟨_, List.getElem?_eq_getElem (by rw [HR.out]; exact hlt)⟩
      obtain ⟨g, rfl, gc, r0, r1, r2, r3, r4, r5, r6, r7, r8⟩ := drow h.swap hlt he
      have hs2 := dfl_succ (d := d.k) he
      by_cases hs : e.k = d.k
      · rw [if_pos hs] at hs2
        have HX : Hid (DdI l b n N bits u keep (.slice (some ⟨g, 0, none⟩) n vc) (.slice ga m gk) L G d.k u6 (.int .i64 ((k : Int) + 1)) wr) := Lib.hid ⟨k + 1, by go_num, by omega, by rw [hs2]; exact h⟩
        have hn1 : (e.k != d.k) = false := by simp [hs]
        have hn2 : ((e.k : Int) != (d.k : Int)) = false := by simp [hs]
        rw [hs] at r0
        clear h he hs2 hs
        go_wp2_with fail
        exact ⟨HX.out, by simp [intOf]; omega⟩
      · rw [if_neg hs] at hs2
        have hn1 : (e.k != d.k) = true := by simp [hs]
        have hn2 : ((e.k : Int) != (d.k : Int)) = true := by simp; omega
        obtain ⟨M, hM⟩ : ∃ M, M = (dfl L d.k k).length := ⟨_, rfl⟩
        have hMk : M ≤ k := by rw [hM]; exact dfl_len L d.k k
        obtain ⟨va9, vc9, rfl⟩ := dr_slice h.row
        rw [← hM] at h ⊢
        have H := Lib.hid h
        have HS2 := Lib.hid hs2
        have HM9 := Lib.hid hM
        clear h he hs2 hs hM
        go_wp2_with (at_builtin; refine app_own (W := wr) rfl _ _ _ _ _ 9 72 rfl Try.underlying62 infoDR rfl (by omega) (by omega) (.slice va9 M vc9) M ((dfl L d.k k).flatMap dc) [.int .i64 (e.k : Int), .int .u64 e.f.s, .int .u64 e.f.c, .int .u64 e.f.ra, .int .i64 e.f.cr, .int .u64 e.f.nx, .int .u64 e.f.db, .int .u64 e.f.ag, .bool e.q] rfl _ (by simp) rfl rfl (by simp [Value.oneCell']) (by have h := H.out.row; rw [← HM9.out] at h; exact h) (by omega) ?_)
        intro v1 w3 hown hgrow hmv
        rw [HM9.out] at hown
        have h3 := Own.drApp (e := e) H.out hown hgrow hmv
        rw [← HS2.out] at h3
        have HX : Hid (DdI l b n N bits u keep (.slice (some ⟨g, 0, none⟩) n vc) (.slice ga m gk) L G d.k v1 (.int .i64 ((k : Int) + 1)) w3) := Lib.hid ⟨k + 1, by go_num, by omega, h3⟩
        clear h3 hown hgrow hmv H
        go_wp2_with fail
        exact ⟨HX.out, by simp [intOf]; omega⟩
    · obtain rfl : k = n := by omega
      have hd : dfl L d.k k = F := by unfold dfl; rw [List.take_of_length_le (by rw [HR.out]; exact Nat.le_refl _), HFF.out]
      rw [hd] at h
      obtain ⟨M, hM⟩ : ∃ M, M = F.length := ⟨_, rfl⟩
      have hMk : M ≤ k := by rw [hM, ← hd]; exact dfl_len L d.k k
      obtain ⟨va9, vc9, rfl⟩ := dr_slice h.row
      rw [← hM] at h ⊢
      obtain ⟨w3, e3, h3⟩ := Own.bdL (vL' := .slice va9 M vc9) h.fourth
      obtain ⟨a0, a1, a2, a3, a4, a5, -, -, -, -, -, -⟩ := bd_cells h3 (.head _)
      have h5 := Go.Proofs.Ytkdmlpigkmlkmaa.Own.emptyNew 3 1 h3
      have hG := h5.sixth
      have a4' : (w3.alloc (.cells #[] 3)).cell? ⟨b, 4, none⟩ = some (.slice ga m gk) := ((Ext.refl w3).alloc _).cell a4
      have H5 := Lib.hid h5
      have HG := Lib.hid hG
      have HMF := Lib.hid hM
      have HON := Lib.hid (ints_one G)
      clear h h3 h5 hG hd hlt hk hM
      go_wp2_with (first
        | (at_builtin; refine app_fresh (w3.alloc (.cells #[] 3)) rfl _ _ _ _ _ 1 8 rfl Try.underlying47 infoI rfl (by omega) w3.heap.size rfl H5.out.rowR (.slice ga m gk) m (Tr.ints G) rfl (by have h := HG.out.rowR; rw [← HM.out] at h; exact h) HON.out (by simp only [maxLen]; omega) (by omega) ?_
           intro v5 w5 hown hgrow hmv
           obtain ⟨g5, k5, rfl⟩ := hown.slice
           have h6 := H5.out.rowRGrown hown rfl hgrow hmv
           have H6 := Lib.hid h6
           clear h6 hown hgrow hmv)
        | (at_builtin; refine app_R1 (W := w5) rfl _ _ _ _ _ 1 8 rfl Try.underlying47 infoI rfl (by omega) (by omega) (.slice g5 m k5) m (Tr.ints G) [.int .i64 (d.k : Int)] rfl _ (by simp) rfl rfl (by simp [Value.oneCell']) H6.out.rowR (by omega) ?_
           intro v6 w6 hown hgrow hmv
           rw [← ints_snoc] at hown
           obtain ⟨g6, k6, rfl⟩ := hown.slice
           have h7 := H6.out.rowRGrown hown rfl hgrow hmv
           have h8 := h7.swap
           obtain ⟨b0, b1, b2, b3, b4, b5, -, -, -, -, y4, -⟩ := bd_cells h8 (.head _)
           obtain ⟨w7, e7, h9⟩ := Own.bdG (vG' := .slice g6 (m + 1) k6) h8
           obtain ⟨p0, p1, p2, p3, p4, p5, -, -, -, -, -, -⟩ := bd_cells h9 (.head _)
           obtain ⟨x0, x1, x2, x3, x4, x5, f0, f1, f2, f3, f4, f5⟩ := bd_cells (b := b + 1) (n := 0) (bits := 0) (keep := 0) (vL := nilv) (vG := nilv) (u := 0) h9 (.tail _ (.tail _ (.tail _ (.tail _ (.head _)))))
           obtain ⟨w8, e8, h10⟩ := Own.bdSet (n' := N) (bits' := bits) (keep' := keep) (vL' := .slice va9 M vc9) (vG' := .slice g6 (m + 1) k6) (u' := u) h9.fifth
           obtain ⟨q0, q1, q2, q3, q4, q5, -, -, -, -, -, -⟩ := bd_cells h10 (.head _)
           have hn2 := bd_ne h9 (.tail _ (.tail _ (.tail _ (.head _))))
           have HF : Hid (Own (DRR (.slice va9 M vc9) M F :: DGG (.slice g6 (m + 1) k6) (G ++ [d.k]) :: l) w8) := Lib.hid (by
             have := h10.drop.drop.swap.toR.fourth.drop.third.drop
             rw [← HMF.out] at this
             have hl : (G ++ [d.k]).length = m + 1 := by rw [List.length_append, ← HM.out]; rfl
             unfold DGG
             rw [hl]
             exact this)
           clear hown hgrow hmv h7 h8 h9 h10))
      exact bodyPost_ret (v := .tuple #[dv N bits keep (.slice va9 M vc9) (.slice g6 (m + 1) k6) u, .bool true]) (by simp [results, Try.results34, go_sem, q0, q1, q2, q3, q4, q5]) rfl ⟨_, _, rfl, by rw [← HMF.out]; exact HF.out⟩
end Go.Proofs.Ytkdmlpigkmlkmaa.Tb
