/- DERIVED. Layer 6 (tree): the document's tree: Put, Drop. -/
import Derived.Test.YtekdahppacghbabR6C
set_option linter.unusedVariables false
set_option linter.unusedSimpArgs false
set_option maxRecDepth 100000
namespace Go.Proofs.Ytekdahppacghbab.Tr
open Go.RowKit Go.Proofs.Ytekdahppacghbab Go.Proofs.Ytekdahppacghbab.TreeP

/-- the call's own blocks: the tree that came, the key that came, the tree that goes -/
theorem own_boxes {l : List HP} {w : World} (h : Own l w) (A B C : Array Value) (t t' t'' : TypeId) :
    Own (Go.Proofs.Ytekdahppacghbab.Blk (w.heap.size + 2) C t'' :: Go.Proofs.Ytekdahppacghbab.Blk (w.heap.size + 1) B t' :: Go.Proofs.Ytekdahppacghbab.Blk w.heap.size A t :: l) (((w.alloc (.cells A t)).alloc (.cells B t')).alloc (.cells C t'')) := by
  have h1 := Go.Proofs.Ytekdahppacghbab.Own.blkNew h A t
  have h2 := Go.Proofs.Ytekdahppacghbab.Own.blkNew h1 B t'
  have h3 := Go.Proofs.Ytekdahppacghbab.Own.blkNew h2 C t''
  rw [show (w.alloc (.cells A t)).heap.size = w.heap.size + 1 by simp] at h3
  rw [show ((w.alloc (.cells A t)).alloc (.cells B t')).heap.size = w.heap.size + 2 by simp] at h3
  exact h3
/-- the tree that goes is written; the call's own blocks and the tree that came are let go -/
theorem boxes_done {l : List HP} {w : World} {b2 b1 b0 : Nat} {x y a0 a1 : Value} {B A : Array Value} {t t' t'' : TypeId} {P Q : HP}
    (h : Own (Q :: Go.Proofs.Ytekdahppacghbab.Blk b2 #[x, y] t'' :: Go.Proofs.Ytekdahppacghbab.Blk b1 B t' :: Go.Proofs.Ytekdahppacghbab.Blk b0 A t :: P :: l) w) :
    Own (Q :: l) ((w.setCell ⟨b2, 0, none⟩ a0).setCell ⟨b2, 1, none⟩ a1) ∧ ((w.setCell ⟨b2, 0, none⟩ a0).setCell ⟨b2, 1, none⟩ a1).cell? ⟨b2, 0, none⟩ = some a0 ∧ ((w.setCell ⟨b2, 0, none⟩ a0).setCell ⟨b2, 1, none⟩ a1).cell? ⟨b2, 1, none⟩ = some a1 := by
  have hh := Go.Proofs.Ytekdahppacghbab.Own.blk h (.tail _ (.head _))
  have h1 := Go.Proofs.Ytekdahppacghbab.Own.blkSet (o := 1) (Go.Proofs.Ytekdahppacghbab.Own.blkSet (o := 0) h.swap a0) a1
  have hf : ((w.setCell ⟨b2, 0, none⟩ a0).setCell ⟨b2, 1, none⟩ a1).heap[b2]? = some (.cells #[a0, a1] t'' (0, 0)) := heap_set a1 (heap_set a0 hh)
  exact ⟨h1.drop.swap.drop.swap.drop.swap.drop, (cell_at (o := 0) hf rfl).1, (cell_at (o := 1) hf rfl).1⟩
/-- nothing came of it: the tree that came goes -/
theorem boxes_same {l : List HP} {w : World} {b2 b1 b0 : Nat} {x y a0 a1 : Value} {B A : Array Value} {t t' t'' : TypeId} {P : HP}
    (h : Own (Go.Proofs.Ytekdahppacghbab.Blk b2 #[x, y] t'' :: Go.Proofs.Ytekdahppacghbab.Blk b1 B t' :: Go.Proofs.Ytekdahppacghbab.Blk b0 A t :: P :: l) w) :
    Own (P :: l) ((w.setCell ⟨b2, 0, none⟩ a0).setCell ⟨b2, 1, none⟩ a1) ∧ ((w.setCell ⟨b2, 0, none⟩ a0).setCell ⟨b2, 1, none⟩ a1).cell? ⟨b2, 0, none⟩ = some a0 ∧ ((w.setCell ⟨b2, 0, none⟩ a0).setCell ⟨b2, 1, none⟩ a1).cell? ⟨b2, 1, none⟩ = some a1 := by
  have hh := Go.Proofs.Ytekdahppacghbab.Own.blk h (.head _)
  have h1 := Go.Proofs.Ytekdahppacghbab.Own.blkSet (o := 1) (Go.Proofs.Ytekdahppacghbab.Own.blkSet (o := 0) h a0) a1
  have hf : ((w.setCell ⟨b2, 0, none⟩ a0).setCell ⟨b2, 1, none⟩ a1).heap[b2]? = some (.cells #[a0, a1] t'' (0, 0)) := heap_set a1 (heap_set a0 hh)
  exact ⟨h1.drop.drop.drop, (cell_at (o := 0) hf rfl).1, (cell_at (o := 1) hf rfl).1⟩
theorem ents_one : ∀ (E : List En) (u : Value), u ∈ ents E → u.oneCell' = true
  | [], u, h => by simp [ents] at h
  | e :: E, u, h => by
    rw [ents, List.mem_append] at h
    rcases h with h | h
    · simp only [ec, List.mem_cons, List.not_mem_nil, or_false] at h
      rcases h with rfl | rfl | rfl <;> rfl
    · exact ents_one E u h
abbrev PutLL (w : World) (v : Value) (n room : Nat) (E : List En) (a s : Int) (l : List HP) : List HP :=
  Go.Proofs.Ytekdahppacghbab.Blk (w.heap.size + 2) #[.slice none 0 0, .int .i64 0] 28 :: Go.Proofs.Ytekdahppacghbab.Blk (w.heap.size + 1) #[.int .u64 a, .int .u64 s] 24 :: Go.Proofs.Ytekdahppacghbab.Blk w.heap.size #[v, .int .i64 (room : Int)] 28 :: RowR 49 3 v n (ents E) :: l
/-- cells of the call's own blocks -/
theorem put_cells {w W : World} {v : Value} {n room : Nat} {E : List En} {a s : Int} {l l' : List HP} (h : Own l' W) (h2 : Go.Proofs.Ytekdahppacghbab.Blk (w.heap.size + 2) #[.slice none 0 0, .int .i64 0] 28 ∈ l') (h1 : Go.Proofs.Ytekdahppacghbab.Blk (w.heap.size + 1) #[.int .u64 a, .int .u64 s] 24 ∈ l') (h0 : Go.Proofs.Ytekdahppacghbab.Blk w.heap.size #[v, .int .i64 (room : Int)] 28 ∈ l') :
    W.cell? ⟨w.heap.size, 0, none⟩ = some v ∧ W.cell? ⟨w.heap.size, 1, none⟩ = some (.int .i64 (room : Int)) ∧ W.cell? ⟨w.heap.size + 1, 0, none⟩ = some (.int .u64 a) ∧ W.cell? ⟨w.heap.size + 1, 1, none⟩ = some (.int .u64 s) ∧
    W.cell? ⟨w.heap.size + 2, 0, none⟩ = some (.slice none 0 0) ∧ W.cell? ⟨w.heap.size + 2, 1, none⟩ = some (.int .i64 0) ∧ W.frozen? ⟨w.heap.size + 2, 0, none⟩ = false ∧ W.frozen? ⟨w.heap.size + 2, 1, none⟩ = false := by
  have g0 := Go.Proofs.Ytekdahppacghbab.Own.blk h h0
  have g1 := Go.Proofs.Ytekdahppacghbab.Own.blk h h1
  have g2 := Go.Proofs.Ytekdahppacghbab.Own.blk h h2
  exact ⟨(cell_at (o := 0) g0 rfl).1, (cell_at (o := 1) g0 rfl).1, (cell_at (o := 0) g1 rfl).1, (cell_at (o := 1) g1 rfl).1, (cell_at (o := 0) g2 rfl).1, (cell_at (o := 1) g2 rfl).1, (cell_at (o := 0) g2 rfl).2, (cell_at (o := 1) g2 rfl).2⟩
set_option maxHeartbeats 1000000 in
theorem rput_any {v : Value} {n room : Nat} {E : List En} {l : List HP} {w : World} (h : Own (RowR 49 3 v n (ents E) :: l) w) (hE : E.length = n) (bn : n ≤ 60000) (hr : RisingE E) (hroom : n ≤ room) (hr1 : 1 ≤ room) (a s u : Int) :
    Calls Try.prog 25 #[.agg #[v, .int .i64 (room : Int)], .agg #[.int .u64 a, .int .u64 s], .int .i64 u] w fun e w' => ∃ v', e = .returned (.tuple #[.agg #[v', .int .i64 (room : Int)], .int .i64 (putE room E (a, s))]) ∧ Own (RowR 49 3 v' (putT room E (a, s) u).length (ents (putT room E (a, s) u)) :: l) w' := by
  have pf := place_facts hr (a, s)
  have h3 := own_boxes h #[v, .int .i64 (room : Int)] #[.int .u64 a, .int .u64 s] #[.slice none 0 0, .int .i64 0] 28 24 28
  obtain ⟨W1, hW1⟩ : ∃ W1, W1 = ((w.alloc (.cells #[v, .int .i64 (room : Int)] 28)).alloc (.cells #[.int .u64 a, .int .u64 s] 24)).alloc (.cells #[.slice none 0 0, .int .i64 0] 28) := ⟨_, rfl⟩
  rw [← hW1] at h3
  have hpl := place_any (room := room) h3.fourth.rowR hE (by omega) a s
  rw [pf.at_] at hpl
  obtain ⟨o, ho⟩ : ∃ o, o = look E (a, s) := ⟨_, rfl⟩
  rw [← ho] at hpl
  obtain ⟨P, hP⟩ : ∃ P, P = plc E (a, s) := ⟨_, rfl⟩
  have hPn : P ≤ n := by rw [hP, ← hE]; exact plc_le E (a, s)
  rw [← hP] at hpl
  have HPL := Lib.hid hpl
  have HW1 := Lib.hid hW1
  have H3 := Lib.hid h3
  have HE := Lib.hid hE
  have c := put_cells (w := w) (n := n) (E := E) (l := l) h3 (.head _) (.tail _ (.head _)) (.tail _ (.tail _ (.head _)))
  obtain ⟨c0, c1, k0, k1, -⟩ := c
  obtain ⟨va, vc, hv⟩ := h3.fourth.rowR.slice
  cases o with
  | some x =>
    have hf : putE room E (a, s) = 60 := by unfold putE; rw [← ho]; rfl
    have hg : putT room E (a, s) u = E := by unfold putT; rw [← ho]; rfl
    rw [hf, hg]
    subst hv
    rw [hE]
    clear hpl hW1 pf h h3 ho hP hf hg hE
    go_enter Try.func25, Try.ntmps25
    go_wp2_with fail
    rw [← HW1.out]
    go_wp2_with fail
    refine (HPL.out).mono ?_
    rintro e w2 ⟨rfl, hx2⟩
    have h4 := H3.out.step hx2
    obtain ⟨c0, c1, -, -, d0, d1, f0, f1⟩ := put_cells (w := w) (n := n) (E := E) (l := l) h4 (.head _) (.tail _ (.head _)) (.tail _ (.tail _ (.head _)))
    have HF := Lib.hid (boxes_same (a0 := .slice va n vc) (a1 := .int .i64 (room : Int)) h4)
    clear hx2 h4 HPL H3 HW1
    go_wp2_with fail
    obtain ⟨hf, z0, z1⟩ := HF.out
    exact bodyPost_ret (v := .tuple #[.agg #[.slice va n vc, .int .i64 (room : Int)], .int .i64 60]) (by simp [results, Try.results25, go_sem, z0, z1]) rfl ⟨_, rfl, hf⟩
  | none =>
    by_cases hfull : n = room
    · have hf : putE room E (a, s) = 4 := by unfold putE; rw [← ho, if_neg (by simp), if_pos (by rw [hE]; exact hfull)]
      have hg : putT room E (a, s) u = E := by unfold putT; rw [← ho, if_neg (by simp), if_pos (by rw [hE]; exact hfull)]
      rw [hf, hg]
      subst hv
      rw [hE]
      subst hfull
      clear hpl hW1 pf h h3 ho hP hf hg hE
      go_enter Try.func25, Try.ntmps25
      go_wp2_with fail
      rw [← HW1.out]
      go_wp2_with fail
      refine (HPL.out).mono ?_
      rintro e w2 ⟨rfl, hx2⟩
      have h4 := H3.out.step hx2
      obtain ⟨c0, c1, -, -, d0, d1, f0, f1⟩ := put_cells (w := w) (n := n) (E := E) (l := l) h4 (.head _) (.tail _ (.head _)) (.tail _ (.tail _ (.head _)))
      have HF := Lib.hid (boxes_same (a0 := .slice va n vc) (a1 := .int .i64 (n : Int)) h4)
      clear hx2 h4 HPL H3 HW1
      go_wp2_with fail
      obtain ⟨hf, z0, z1⟩ := HF.out
      exact bodyPost_ret (v := .tuple #[.agg #[.slice va n vc, .int .i64 (n : Int)], .int .i64 4]) (by simp [results, Try.results25, go_sem, z0, z1]) rfl ⟨_, rfl, hf⟩
    · have hlt : n < room := by omega
      have hf : putE room E (a, s) = 0 := by unfold putE; rw [← ho, if_neg (by simp), if_neg (by rw [hE]; exact hfull)]
      have hg : putT room E (a, s) u = E.take P ++ ((a, s), u) :: E.drop P := by
        unfold putT; rw [← ho, if_neg (by simp), if_neg (by rw [hE]; exact hfull), pf.put ho.symm u, ← hP]
      have hgl : (E.take P ++ ((a, s), u) :: E.drop P).length = n + 1 := by simp; omega
      rw [hf, hg, hgl]
      have hee : ents (E.take P ++ ((a, s), u) :: E.drop P) = ((ents E).take (P * 3) ++ [.int .u64 a, .int .u64 s, .int .i64 u]) ++ (ents E).drop (P * 3) := by
        rw [ents_append, ents, ents_take, ents_drop, List.append_assoc]; rfl
      rw [hee]
      have hfi : Hid (∀ v' W, Own (RowR 49 3 v' (n + 1) (((ents E).take (P * 3) ++ [.int .u64 a, .int .u64 s, .int .i64 u]) ++ (ents E).drop (P * 3)) :: PutLL w v n room E a s l) W → Own (RowR 49 3 v' (n + 1) (((ents E).take (P * 3) ++ [.int .u64 a, .int .u64 s, .int .i64 u]) ++ (ents E).drop (P * 3)) :: l) ((W.setCell ⟨w.heap.size + 2, 0, none⟩ v').setCell ⟨w.heap.size + 2, 1, none⟩ (.int .i64 (room : Int))) ∧ ((W.setCell ⟨w.heap.size + 2, 0, none⟩ v').setCell ⟨w.heap.size + 2, 1, none⟩ (.int .i64 (room : Int))).cell? ⟨w.heap.size + 2, 0, none⟩ = some v' ∧ ((W.setCell ⟨w.heap.size + 2, 0, none⟩ v').setCell ⟨w.heap.size + 2, 1, none⟩ (.int .i64 (room : Int))).cell? ⟨w.heap.size + 2, 1, none⟩ = some (.int .i64 (room : Int))) :=
        Lib.hid (fun v' W hh => boxes_done hh)
      have hel : (ents E).length = n * 3 := by rw [ents_len, hE]
      have HT := Lib.hid (show ((ents E).take (P * 3)).length = P * 3 by rw [List.length_take, hel]; omega)
      have HD := Lib.hid (show ((ents E).drop (P * 3)).length = (n - P) * 3 by rw [List.length_drop, hel]; omega)
      have HTO : Hid (∀ u ∈ (ents E).take (P * 3), u.oneCell' = true) := Lib.hid (fun u hu => ents_one E u (List.take_subset _ _ hu))
      have HDO : Hid (∀ u ∈ (ents E).drop (P * 3), u.oneCell' = true) := Lib.hid (fun u hu => ents_one E u (List.drop_subset _ _ hu))
      have b1 : (n + 1) * 24 ≤ 140737488355328 := by omega
      have b2 : (P + 1) * 24 ≤ 140737488355328 := by omega
      have hltI : (n : Int) < (room : Int) := by omega
      rcases h3.fourth.rowR.2 with ⟨hv1, hn0⟩ | ⟨g, cap, cur, hv1, -, hcap, hcm, -, -⟩
      · subst hv1 hn0
        clear hpl hW1 pf h h3 ho hP hf hg hE
        go_enter Try.func25, Try.ntmps25
        go_wp2_with fail
        rw [← HW1.out]
        go_wp2_with fail
        refine (HPL.out).mono ?_
        rintro e w2 ⟨rfl, hx2⟩
        have h4 := H3.out.step hx2
        obtain ⟨c0, c1, k0, k1, -⟩ := put_cells (w := w) (n := 0) (E := E) (l := l) h4 (.head _) (.tail _ (.head _)) (.tail _ (.tail _ (.head _)))
        have hP0 : P = 0 := by omega
        subst hP0
        have hEn : ents E = [] := by rw [List.length_eq_zero_iff.1 HE.out]; rfl
        have HEN := Lib.hid hEn
        have H4 := Lib.hid (h4.nilRowR 49 3)
        clear hx2 h4 HPL H3 HW1 hEn
        go_wp2_with (first
          | (at_builtin; refine app_nil _ rfl _ _ _ _ _ 3 24 rfl Try.underlying26 infoEntry (.slice none 0 0) 0 [] rfl rfl H4.out.rowR ?_)
          | (at_builtin; refine app_R1 (W := w2) rfl _ _ _ _ _ 3 24 rfl Try.underlying26 infoEntry rfl (by omega) (by omega) (.slice none 0 0) 0 [] [.int .u64 a, .int .u64 s, .int .i64 u] rfl _ (by simp) rfl rfl (by simp [Value.oneCell']) (by exact H4.out.rowR) b1 ?_
             intro v1 w3 hown hgrow hmv
             have h5 := H4.out.rowRGrown hown rfl hgrow hmv
             obtain ⟨c0, c1, -, -, d0, d1, f0, f1⟩ := put_cells (w := w) (n := 0) (E := E) (l := l) h5 (.tail _ (.head _)) (.tail _ (.tail _ (.head _))) (.tail _ (.tail _ (.tail _ (.head _))))
             obtain ⟨va1, vc1, rfl⟩ := h5.rowR.slice
             have H5 := Lib.hid h5
             clear hown hgrow hmv h5)
          | (at_builtin; refine app_nil _ rfl _ _ _ _ _ 3 24 rfl Try.underlying26 infoEntry _ _ _ rfl rfl H5.out.rowR ?_))
        obtain ⟨hf, z0, z1⟩ := hfi.out (.slice va1 (0 + 1) vc1) w3 (by have h5 := H5.out; simpa [HEN.out, PutLL] using h5)
        exact bodyPost_ret (v := .tuple #[.agg #[.slice va1 (0 + 1) vc1, .int .i64 (room : Int)], .int .i64 0]) (by simp [results, Try.results25, go_sem, z0, z1]) rfl ⟨_, rfl, hf⟩
      · subst hv1
        injection hv with e1 _ e3
        subst e1 e3
        unfold maxLen at hcm
        clear hpl hW1 pf h h3 ho hP hf hg hE
        go_enter Try.func25, Try.ntmps25
        go_wp2_with fail
        rw [← HW1.out]
        go_wp2_with fail
        refine (HPL.out).mono ?_
        rintro e w2 ⟨rfl, hx2⟩
        have h4 := H3.out.step hx2
        obtain ⟨c0, c1, k0, k1, -⟩ := put_cells (w := w) (n := n) (E := E) (l := l) h4 (.head _) (.tail _ (.head _)) (.tail _ (.tail _ (.head _)))
        have H4 := Lib.hid (h4.nilRowR 49 3)
        have HS4 : Hid (∀ j u, ((ents E).take (P * 3))[j]? = some u → w2.cell? ((⟨g, 0, none⟩ : Addr).add j) = some u) := Lib.hid (fun j u hj => by
          rw [add_plain]
          refine (h4.fourth.rowR.cells rfl j u ?_).1
          rw [List.getElem?_take] at hj
          split at hj
          · exact hj
          · cases hj)
        obtain ⟨A, hA, hnews⟩ : ∃ A : Addr, (if cap = P then some (⟨g, 0, none⟩ : Addr) else some ⟨g, P * 3, none⟩) = some A ∧ Hid (∀ W, ownsR W 49 3 (.slice (some ⟨g, 0, none⟩) n cap) n (ents E) → ∀ j u, ((ents E).drop (P * 3))[j]? = some u → W.cell? (A.add j) = some u) := by
          by_cases hc : cap = P
          · refine ⟨⟨g, 0, none⟩, by simp [hc], fun W hW j u hu => ?_⟩
            rw [List.drop_eq_nil_of_le (by omega)] at hu
            simp at hu
          · refine ⟨⟨g, P * 3, none⟩, by simp [hc], fun W hW j u hu => ?_⟩
            rw [List.getElem?_drop] at hu
            rw [Addr.add_lit]
            exact (hW.cells rfl _ _ hu).1
        have m3 : P + 1 + (n - P) ≤ maxLen := by simp only [maxLen]; omega
        have m4 : (P + 1 + (n - P)) * 24 ≤ 140737488355328 := by omega
        have m5 := Lib.hid (show P + 1 + (n - P) = n + 1 by omega)
        have M1 := Lib.hid m3
        have M2 := Lib.hid m4
        have p1 : (P : Int) ≤ (n : Int) := by omega
        have p2 : (P : Int) ≤ (cap : Int) := by omega
        have m1 : 0 + P ≤ maxLen := by simp only [maxLen]; omega
        have m2 : (0 + P) * 24 ≤ 140737488355328 := by omega
        have M3 := Lib.hid m1
        have M4 := Lib.hid m2
        clear hx2 h4 HPL H3 HW1 m1 m2 m3 m4
        go_wp2_with (first
          | (at_builtin; refine app_R _ rfl _ _ _ _ _ 3 24 rfl Try.underlying26 infoEntry rfl (by omega) (.slice none 0 0) 0 [] rfl ⟨g, 0, none⟩ P _ ((ents E).take (P * 3)) rfl HT.out HS4.out HTO.out H4.out.rowR M3.out M4.out ?_
             intro v1 w3 hown hgrow hmv
             rw [Nat.zero_add, List.nil_append] at hown
             have h5 := H4.out.rowRGrown hown rfl hgrow hmv
             obtain ⟨c0, c1, k0, k1, -⟩ := put_cells (w := w) (n := n) (E := E) (l := l) h5 (.tail _ (.head _)) (.tail _ (.tail _ (.head _))) (.tail _ (.tail _ (.tail _ (.head _))))
             obtain ⟨va1, vc1, rfl⟩ := h5.rowR.slice
             have H5 := Lib.hid h5
             clear hown hgrow hmv h5)
          | (at_builtin; refine app_R1 (W := w3) rfl _ _ _ _ _ 3 24 rfl Try.underlying26 infoEntry rfl (by omega) (by omega) (.slice va1 P vc1) P ((ents E).take (P * 3)) [.int .u64 a, .int .u64 s, .int .i64 u] rfl _ (by simp) rfl rfl (by simp [Value.oneCell']) (by exact H5.out.rowR) b2 ?_
             intro v2 w4 hown hgrow hmv
             have h6 := H5.out.rowRGrown hown rfl hgrow hmv
             obtain ⟨c0, c1, -, -, d0, d1, f0, f1⟩ := put_cells (w := w) (n := n) (E := E) (l := l) h6 (.tail _ (.head _)) (.tail _ (.tail _ (.head _))) (.tail _ (.tail _ (.tail _ (.head _))))
             obtain ⟨va2, vc2, rfl⟩ := h6.rowR.slice
             have H6 := Lib.hid h6
             have HS6 := Lib.hid (hnews.out _ h6.fifth.rowR)
             clear hown hgrow hmv h6)
          | (at_builtin; refine app_R _ rfl _ _ _ _ _ 3 24 rfl Try.underlying26 infoEntry rfl (by omega) (.slice va2 (P + 1) vc2) (P + 1) _ rfl A (n - P) _ ((ents E).drop (P * 3)) rfl HD.out HS6.out HDO.out H6.out.rowR M1.out M2.out ?_
             intro v3 w5 hown hgrow hmv
             rw [m5.out] at hown
             have h7 := H6.out.rowRGrown hown rfl hgrow hmv
             obtain ⟨c0, c1, -, -, d0, d1, f0, f1⟩ := put_cells (w := w) (n := n) (E := E) (l := l) h7 (.tail _ (.head _)) (.tail _ (.tail _ (.head _))) (.tail _ (.tail _ (.tail _ (.head _))))
             obtain ⟨va3, vc3, rfl⟩ := h7.rowR.slice
             have H7 := Lib.hid h7
             clear hown hgrow hmv h7))
        obtain ⟨hf, z0, z1⟩ := hfi.out (.slice va3 (n + 1) vc3) w5 H7.out
        exact bodyPost_ret (v := .tuple #[.agg #[.slice va3 (n + 1) vc3, .int .i64 (room : Int)], .int .i64 0]) (by simp [results, Try.results25, go_sem, z0, z1]) rfl ⟨_, rfl, hf⟩
end Go.Proofs.Ytekdahppacghbab.Tr
