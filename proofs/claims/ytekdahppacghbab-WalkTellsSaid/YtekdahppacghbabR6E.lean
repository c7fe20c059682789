/- DERIVED. Layer 6 (tree): the document's tree: Drop. -/
import Derived.Test.YtekdahppacghbabR6D
set_option linter.unusedVariables false
set_option linter.unusedSimpArgs false
set_option maxRecDepth 100000
namespace Go.Proofs.Ytekdahppacghbab.Tr
open Go.RowKit Go.Proofs.Ytekdahppacghbab Go.Proofs.Ytekdahppacghbab.TreeP

set_option maxHeartbeats 1000000 in
theorem rdrop_any {v : Value} {n room : Nat} {E : List En} {l : List HP} {w : World} (h : Own (RowR 49 3 v n (ents E) :: l) w) (hE : E.length = n) (bn : n ≤ 60000) (hr : RisingE E) (a s : Int) :
    Calls Try.prog 20 #[.agg #[v, .int .i64 (room : Int)], .agg #[.int .u64 a, .int .u64 s]] w fun e w' => ∃ v', e = .returned (.tuple #[.agg #[v', .int .i64 (room : Int)], .int .i64 ((look E (a, s)).getD 0), .bool (look E (a, s)).isSome]) ∧ Own (RowR 49 3 v' (del E (a, s)).length (ents (del E (a, s))) :: l) w' := by
  have pf := place_facts hr (a, s)
  have h3 := own_boxes h #[v, .int .i64 (room : Int)] #[.int .u64 a, .int .u64 s] #[.slice none 0 0, .int .i64 0] 28 24 28
  obtain ⟨W1, hW1⟩ : ∃ W1, W1 = ((w.alloc (.cells #[v, .int .i64 (room : Int)] 28)).alloc (.cells #[.int .u64 a, .int .u64 s] 24)).alloc (.cells #[.slice none 0 0, .int .i64 0] 28) := ⟨_, rfl⟩
  rw [← hW1] at h3
  have hpl := place_any (room := room) h3.fourth.rowR hE (by omega) a s
  rw [pf.at_] at hpl
  obtain ⟨o, ho⟩ : ∃ o, o = look E (a, s) := ⟨_, rfl⟩
  rw [← ho] at hpl ⊢
  obtain ⟨P, hP⟩ : ∃ P, P = plc E (a, s) := ⟨_, rfl⟩
  rw [← hP] at hpl
  have HPL := Lib.hid hpl
  have HW1 := Lib.hid hW1
  have H3 := Lib.hid h3
  have c := put_cells (w := w) (n := n) (E := E) (l := l) h3 (.head _) (.tail _ (.head _)) (.tail _ (.tail _ (.head _)))
  obtain ⟨c0, c1, k0, k1, -⟩ := c
  obtain ⟨va, vc, hv⟩ := h3.fourth.rowR.slice
  cases o with
  | none =>
    have hg : del E (a, s) = E := del_none ho.symm
    rw [hg, hE]
    subst hv
    clear hpl hW1 pf h h3 ho hP hg hE
    go_enter Try.func20, Try.ntmps20
    go_wp2_with fail
    rw [← HW1.out]
    go_wp2_with fail
    refine (HPL.out).mono ?_
    rintro e w2 ⟨rfl, hx2⟩
    have h4 := H3.out.step hx2
    obtain ⟨c0, c1, -, -, d0, d1, f0, f1⟩ := put_cells (w := w) (n := n) (E := E) (l := l) h4 (.head _) (.tail _ (.head _)) (.tail _ (.tail _ (.head _)))
    have HF := Lib.hid (boxes_same (a0 := .slice va n vc) (a1 := .int .i64 (room : Int)) h4)
    clear hx2 h4 HPL H3 HW1
    go_wp2_with fail
    obtain ⟨hf, z0, z1⟩ := HF.out
    exact bodyPost_ret (v := .tuple #[.agg #[.slice va n vc, .int .i64 (room : Int)], .int .i64 0, .bool false]) (by simp [results, Try.results20, go_sem, z0, z1]) rfl ⟨_, rfl, hf⟩
  | some u =>
    obtain ⟨hat, hdel, hPlt⟩ := pf.has u ho.symm
    rw [← hP] at hat hdel hPlt
    rw [hE] at hPlt
    have hgl : (del E (a, s)).length = n - 1 := by rw [hdel]; simp; omega
    have hee : ents (del E (a, s)) = (ents E).take (P * 3) ++ (ents E).drop ((P + 1) * 3) := by
      rw [hdel, ents_append, ents_take, ents_drop]
    rw [hgl, hee]
    have hfi : Hid (∀ v' W, Own (RowR 49 3 v' (n - 1) ((ents E).take (P * 3) ++ (ents E).drop ((P + 1) * 3)) :: PutLL w v n room E a s l) W → Own (RowR 49 3 v' (n - 1) ((ents E).take (P * 3) ++ (ents E).drop ((P + 1) * 3)) :: l) ((W.setCell ⟨w.heap.size + 2, 0, none⟩ v').setCell ⟨w.heap.size + 2, 1, none⟩ (.int .i64 (room : Int))) ∧ ((W.setCell ⟨w.heap.size + 2, 0, none⟩ v').setCell ⟨w.heap.size + 2, 1, none⟩ (.int .i64 (room : Int))).cell? ⟨w.heap.size + 2, 0, none⟩ = some v' ∧ ((W.setCell ⟨w.heap.size + 2, 0, none⟩ v').setCell ⟨w.heap.size + 2, 1, none⟩ (.int .i64 (room : Int))).cell? ⟨w.heap.size + 2, 1, none⟩ = some (.int .i64 (room : Int))) :=
      Lib.hid (fun v' W hh => boxes_done hh)
    have hel : (ents E).length = n * 3 := by rw [ents_len, hE]
    have HT := Lib.hid (show ((ents E).take (P * 3)).length = P * 3 by rw [List.length_take, hel]; omega)
    have HD := Lib.hid (show ((ents E).drop ((P + 1) * 3)).length = (n - (P + 1)) * 3 by rw [List.length_drop, hel]; omega)
    have HTO : Hid (∀ u ∈ (ents E).take (P * 3), u.oneCell' = true) := Lib.hid (fun u hu => ents_one E u (List.take_subset _ _ hu))
    have HDO : Hid (∀ u ∈ (ents E).drop ((P + 1) * 3), u.oneCell' = true) := Lib.hid (fun u hu => ents_one E u (List.drop_subset _ _ hu))
    obtain ⟨g, cap, hv1, hcap, hcm⟩ := h3.fourth.rowR.form (by omega)
    have HAT : Hid (∀ W, ownsR W 49 3 (.slice (some ⟨g, 0, none⟩) n cap) n (ents E) → W.cell? ⟨g, P * 3 + 2, none⟩ = some (.int .i64 u)) := Lib.hid (fun W hW => (rowEnt hW hat).2.2)
    subst hv1
    injection hv with e1 _ e3
    subst e1 e3
    unfold maxLen at hcm
    obtain ⟨A, hA, hnews⟩ : ∃ A : Addr, (if cap = P + 1 then some (⟨g, 0, none⟩ : Addr) else some ⟨g, (P + 1) * 3, none⟩) = some A ∧ Hid (∀ W, ownsR W 49 3 (.slice (some ⟨g, 0, none⟩) n cap) n (ents E) → ∀ j u, ((ents E).drop ((P + 1) * 3))[j]? = some u → W.cell? (A.add j) = some u) := by
      by_cases hc : cap = P + 1
      · refine ⟨⟨g, 0, none⟩, by simp [hc], fun W hW j u hu => ?_⟩
        rw [List.drop_eq_nil_of_le (by omega)] at hu
        simp at hu
      · refine ⟨⟨g, (P + 1) * 3, none⟩, by simp [hc], fun W hW j u hu => ?_⟩
        rw [List.getElem?_drop] at hu
        rw [Addr.add_lit]
        exact (hW.cells rfl _ _ hu).1
    have M1 := Lib.hid (show P + (n - (P + 1)) ≤ maxLen by simp only [maxLen]; omega)
    have M2 := Lib.hid (show (P + (n - (P + 1))) * 24 ≤ 140737488355328 by omega)
    have M3 := Lib.hid (show 0 + P ≤ maxLen by simp only [maxLen]; omega)
    have M4 := Lib.hid (show (0 + P) * 24 ≤ 140737488355328 by omega)
    have m5 := Lib.hid (show P + (n - (P + 1)) = n - 1 by omega)
    have p1 : (P : Int) ≤ (n : Int) := by omega
    have p2 : (P : Int) ≤ (cap : Int) := by omega
    have p3 : (P : Int) < (n : Int) := by omega
    have hp0 : (0 : Int) ≤ (P : Int) + 1 := by omega
    have hp1 : (P : Int) + 1 ≤ (n : Int) := by omega
    have hp2 : ((P : Int) + 1).toNat = P + 1 := by omega
    have hwr : IntKind.i64.wrap ((P : Int) + 1) = (P : Int) + 1 := by rw [IntKind.wrap_i64]; omega
    clear hpl hW1 pf h h3 ho hP hgl hee hE hat hdel hel
    go_enter Try.func20, Try.ntmps20
    go_wp2_with fail
    rw [← HW1.out]
    go_wp2_with fail
    refine (HPL.out).mono ?_
    rintro e w2 ⟨rfl, hx2⟩
    have h4 := H3.out.step hx2
    obtain ⟨c0, c1, k0, k1, -⟩ := put_cells (w := w) (n := n) (E := E) (l := l) h4 (.head _) (.tail _ (.head _)) (.tail _ (.tail _ (.head _)))
    have H4 := Lib.hid (h4.nilRowR 49 3)
    have HS4 : Hid (∀ j u, ((ents E).take (P * 3))[j]? = some u → w2.cell? ((⟨g, 0, none⟩ : Addr).add j) = some u) := Lib.hid (fun j u hj => by
      rw [add_plain]
      refine (h4.fourth.rowR.cells rfl j u ?_).1
      rw [List.getElem?_take] at hj
      split at hj
      · exact hj
      · cases hj)
    clear hx2 h4 HPL H3 HW1
    go_wp2_with (first
      | (at_builtin; refine app_R _ rfl _ _ _ _ _ 3 24 rfl Try.underlying26 infoEntry rfl (by omega) (.slice none 0 0) 0 [] rfl ⟨g, 0, none⟩ P _ ((ents E).take (P * 3)) rfl HT.out HS4.out HTO.out H4.out.rowR M3.out M4.out ?_
         intro v1 w3 hown hgrow hmv
         rw [Nat.zero_add, List.nil_append] at hown
         have h5 := H4.out.rowRGrown hown rfl hgrow hmv
         obtain ⟨c0, c1, k0, k1, -⟩ := put_cells (w := w) (n := n) (E := E) (l := l) h5 (.tail _ (.head _)) (.tail _ (.tail _ (.head _))) (.tail _ (.tail _ (.tail _ (.head _))))
         obtain ⟨va1, vc1, rfl⟩ := h5.rowR.slice
         have HS5 := Lib.hid (hnews.out _ h5.fifth.rowR)
         have H5 := Lib.hid h5
         clear hown hgrow hmv h5)
      | (at_builtin; refine app_R _ rfl _ _ _ _ _ 3 24 rfl Try.underlying26 infoEntry rfl (by omega) (.slice va1 P vc1) P _ rfl A (n - (P + 1)) _ ((ents E).drop ((P + 1) * 3)) rfl HD.out HS5.out HDO.out H5.out.rowR M1.out M2.out ?_
         intro v3 w5 hown hgrow hmv
         rw [m5.out] at hown
         have h7 := H5.out.rowRGrown hown rfl hgrow hmv
         obtain ⟨c0, c1, -, -, d0, d1, f0, f1⟩ := put_cells (w := w) (n := n) (E := E) (l := l) h7 (.tail _ (.head _)) (.tail _ (.tail _ (.head _))) (.tail _ (.tail _ (.tail _ (.head _))))
         obtain ⟨va3, vc3, rfl⟩ := h7.rowR.slice
         have cu := HAT.out _ h7.fifth.rowR
         have H7 := Lib.hid h7
         clear hown hgrow hmv h7))
    go_region
    go_wp2_with fail
    obtain ⟨hf, z0, z1⟩ := hfi.out (.slice va3 (n - 1) vc3) w5 H7.out
    exact bodyPost_ret (v := .tuple #[.agg #[.slice va3 (n - 1) vc3, .int .i64 (room : Int)], .int .i64 u, .bool true]) (by simp [results, Try.results20, go_sem, z0, z1]) rfl ⟨_, rfl, hf.step (Ext.refl _).drew⟩
end Go.Proofs.Ytekdahppacghbab.Tr
