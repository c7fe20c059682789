/- DERIVED. Layer 6 (tree): the document's tree: Get, Next. -/
import Derived.Test.YtekdahppacghbaaR6B
set_option linter.unusedVariables false
set_option linter.unusedSimpArgs false
set_option maxRecDepth 100000
namespace Go.Proofs.Ytekdahppacghbaa.Tr
open Go.RowKit Go.Proofs.Ytekdahppacghbaa Go.Proofs.Ytekdahppacghbaa.TreeP

theorem three_new (w : World) (A B C : Array Value) (t t' t'' : TypeId) :
    (((w.alloc (.cells A t)).alloc (.cells B t')).alloc (.cells C t'')).heap[w.heap.size]? = some (.cells A t (0, 0)) ∧
    (((w.alloc (.cells A t)).alloc (.cells B t')).alloc (.cells C t'')).heap[w.heap.size + 1]? = some (.cells B t' (0, 0)) ∧
    (((w.alloc (.cells A t)).alloc (.cells B t')).alloc (.cells C t'')).heap[w.heap.size + 2]? = some (.cells C t'' (0, 0)) := by
  have s1 : (w.alloc (.cells A t)).heap.size = w.heap.size + 1 := by simp
  have s2 : ((w.alloc (.cells A t)).alloc (.cells B t')).heap.size = w.heap.size + 2 := by simp
  refine ⟨?_, ?_, ?_⟩
  · exact ((((Ext.refl _).alloc (.cells B t')).alloc (.cells C t'')).heap (heap_alloc_new w (.cells A t)))
  · rw [← s1]
    exact (((Ext.refl _).alloc (.cells C t'')).heap (heap_alloc_new (w.alloc (.cells A t)) (.cells B t')))
  · rw [← s2]
    exact heap_alloc_new ((w.alloc (.cells A t)).alloc (.cells B t')) (.cells C t'')
theorem cell_at {w : World} {b o : Nat} {cs : Array Value} {t : TypeId} {u : Value} (h : w.heap[b]? = some (.cells cs t (0, 0))) (hu : cs[o]? = some u) : w.cell? ⟨b, o, none⟩ = some u ∧ w.frozen? ⟨b, o, none⟩ = false := by
  simp [World.cell?, World.frozen?, h, hu]
theorem set3 {w : World} {b : Nat} {x y z : Value} {t : TypeId} (h : w.heap[b]? = some (.cells #[x, y, z] t (0, 0))) (a0 a1 a2 : Value) :
    (((w.setCell ⟨b, 0, none⟩ a0).setCell ⟨b, 1, none⟩ a1).setCell ⟨b, 2, none⟩ a2).heap[b]? = some (.cells #[a0, a1, a2] t (0, 0)) := heap_set a2 (heap_set a1 (heap_set a0 h))
set_option maxHeartbeats 1000000 in
theorem rget_any {v : Value} {n room : Nat} {E : List En} {w : World} (h : ownsR w 31 3 v n (ents E)) (hE : E.length = n) (bn : n ≤ 65536) (hr : RisingE E) (a s : Int) :
    Calls Try.prog 22 #[.agg #[v, .int .i64 (room : Int)], .agg #[.int .u64 a, .int .u64 s]] w fun e w' => e = .returned (.tuple #[.int .i64 ((look E (a, s)).getD 0), .bool (look E (a, s)).isSome]) ∧ Ext w w' := by
  have pf := place_facts hr (a, s)
  obtain ⟨va, vc, rfl⟩ := h.slice
  have x0 := ((Ext.refl w).alloc (.cells #[.slice va n vc, .int .i64 (room : Int)] 50)).alloc (.cells #[.int .u64 a, .int .u64 s] 25)
  obtain ⟨W1, hW1⟩ : ∃ W1, W1 = (w.alloc (.cells #[.slice va n vc, .int .i64 (room : Int)] 50)).alloc (.cells #[.int .u64 a, .int .u64 s] 25) := ⟨_, rfl⟩
  rw [← hW1] at x0
  have c0 : W1.cell? ⟨w.heap.size, 0, none⟩ = some (.slice va n vc) := by rw [hW1]; simp
  have c1 : W1.cell? ⟨w.heap.size, 1, none⟩ = some (.int .i64 (room : Int)) := by rw [hW1]; simp
  have k0 : W1.cell? ⟨w.heap.size + 1, 0, none⟩ = some (.int .u64 a) := by rw [hW1]; simp
  have k1 : W1.cell? ⟨w.heap.size + 1, 1, none⟩ = some (.int .u64 s) := by rw [hW1]; simp
  have h1 := ownsR_keep h x0
  have hpl := place_any (room := room) h1 hE bn a s
  rw [pf.at_] at hpl
  obtain ⟨o, ho⟩ : ∃ o, o = look E (a, s) := ⟨_, rfl⟩
  rw [← ho] at hpl ⊢
  obtain ⟨P, hP⟩ : ∃ P, P = plc E (a, s) := ⟨_, rfl⟩
  rw [← hP] at hpl
  have HPL := Lib.hid hpl
  have X0 := Lib.hid x0
  have HW1 := Lib.hid hW1
  cases o with
  | none =>
    clear hpl x0 hW1 pf h h1 ho hP
    go_enter Try.func22, Try.ntmps22
    go_wp2_with fail
    rw [← HW1.out]
    go_wp2_with fail
    refine (HPL.out).mono ?_
    rintro e w2 ⟨rfl, hx2⟩
    have HX := Lib.hid (X0.out.trans hx2)
    clear hx2
    go_wp2_with fail
    go_ret2
    exact ⟨rfl, HX.out⟩
  | some u =>
    obtain ⟨hat, -, hlt⟩ := pf.has u ho.symm
    rw [← hP] at hat hlt
    rw [hE] at hlt
    obtain ⟨g1, cap1, e1, q1, -⟩ := h1.form (by omega)
    injection e1 with e1 _ e3
    subst e1 e3
    have hcell := (rowEnt h1 hat).2.2
    simp only at hcell
    have hltI : (P : Int) < (n : Int) := by omega
    clear hpl x0 hW1 pf h h1 ho hP hat
    go_enter Try.func22, Try.ntmps22
    go_wp2_with fail
    rw [← HW1.out]
    go_wp2_with fail
    refine (HPL.out).mono ?_
    rintro e w2 ⟨rfl, hx2⟩
    have HX := Lib.hid (X0.out.trans hx2)
    replace c0 := hx2.cell c0
    replace hcell := hx2.cell hcell
    clear hx2
    go_wp2_with fail
    go_ret2
    exact ⟨rfl, HX.out⟩
theorem firstAbove : ∀ {E : List En} (q : Key) (j : Nat) (e : En), E[j]? = some e → lt q e.1 = true → (∀ i e', i < j → E[i]? = some e' → lt q e'.1 = false) → nextE E q = some e
  | [], q, j, e, he, _, _ => by simp at he
  | x :: l, q, 0, e, he, hl, _ => by
    obtain rfl : x = e := by simpa using he
    simp [nextE, List.find?_cons, hl]
  | x :: l, q, j + 1, e, he, hl, hn => by
    unfold nextE
    rw [List.find?_cons_of_neg (by simpa using hn 0 x (by omega) rfl)]
    exact firstAbove (E := l) q j e (by simpa using he) hl (fun i e' hi h => hn (i + 1) e' (by omega) (by simpa using h))
theorem noneAbove {E : List En} (q : Key) (hn : ∀ (i : Nat) (e' : En), E[i]? = some e' → lt q e'.1 = false) : nextE E q = none := by
  unfold nextE
  rw [List.find?_eq_none]
  intro e he
  obtain ⟨i, hi⟩ := List.getElem?_of_mem he
  simpa using hn i e hi
set_option maxHeartbeats 1000000 in
theorem rnext_any {v : Value} {n room : Nat} {E : List En} {w : World} (h : ownsR w 31 3 v n (ents E)) (hE : E.length = n) (bn : n ≤ 65536) (a s : Int) :
    Calls Try.prog 23 #[.agg #[v, .int .i64 (room : Int)], .agg #[.int .u64 a, .int .u64 s]] w fun e w' => e = .returned (.tuple #[entO (nextE E (a, s)), .bool (nextE E (a, s)).isSome]) ∧ Ext w w' := by
  obtain ⟨va, vc, rfl⟩ := h.slice
  have x0 := (((Ext.refl w).alloc (.cells #[.slice va n vc, .int .i64 (room : Int)] 50)).alloc (.cells #[.int .u64 a, .int .u64 s] 25)).alloc (.cells #[.int .u64 0, .int .u64 0, .int .i64 0] 31)
  obtain ⟨W1, hW1⟩ : ∃ W1, W1 = ((w.alloc (.cells #[.slice va n vc, .int .i64 (room : Int)] 50)).alloc (.cells #[.int .u64 a, .int .u64 s] 25)).alloc (.cells #[.int .u64 0, .int .u64 0, .int .i64 0] 31) := ⟨_, rfl⟩
  rw [← hW1] at x0
  obtain ⟨ha0, ha1, ha2⟩ := three_new w #[.slice va n vc, .int .i64 (room : Int)] #[.int .u64 a, .int .u64 s] #[.int .u64 0, .int .u64 0, .int .i64 0] 50 25 31
  rw [← hW1] at ha0 ha1 ha2
  have c0 := (cell_at (o := 0) ha0 rfl).1
  have k0 := (cell_at (o := 0) ha1 rfl).1
  have k1 := (cell_at (o := 1) ha1 rfl).1
  have hb := ha2
  have HC := Lib.hid (And.intro c0 (And.intro k0 (And.intro k1 hb)))
  have HW1 := Lib.hid hW1
  have HE := Lib.hid hE
  have HR := Lib.hid h
  have X0 := Lib.hid x0
  obtain ⟨o, ho⟩ : ∃ o, o = nextE E (a, s) := ⟨_, rfl⟩
  rw [← ho]
  have HO := Lib.hid ho
  clear hW1 c0 k0 k1 hb h x0 hE ha0 ha1 ha2 ho
  go_enter Try.func23, Try.ntmps23
  go_wp2_with fail
  rw [← HW1.out]
  go_loopw [6] (fun vi wr => ∃ k : Nat, vi = .int .i64 (k : Int) ∧ k ≤ n ∧ Ext W1 wr ∧ ∀ (i : Nat) (e' : En), i < k → E[i]? = some e' → lt (a, s) e'.1 = false) (fun vi _ => n - (intOf vi).toNat)
  case atStart => exact ⟨0, rfl, Nat.zero_le _, Ext.refl W1, fun i e' hi => absurd hi (Nat.not_lt_zero i)⟩
  case round =>
    obtain ⟨k, rfl, hk, hx, hno⟩ := hrel
    obtain ⟨c0, k0, k1, hb⟩ := HC.out
    replace c0 := hx.cell c0
    replace k0 := hx.cell k0
    replace k1 := hx.cell k1
    have HB := Lib.hid (hx.heap hb)
    have HX := Lib.hid hx
    have HXW := Lib.hid (X0.out.trans hx)
    have HNO := Lib.hid hno
    clear hx hno hb
    by_cases hlt : k < n
    · have hltI : (k : Int) < (n : Int) := by omega
      obtain ⟨g1, cap1, e1, q1, -⟩ := HR.out.form (by omega)
      injection e1 with e1 _ e3
      subst e1 e3
      obtain ⟨e, he⟩ : ∃ e, E[k]? = some e := ⟨_, List.getElem?_eq_getElem (by rw [HE.out]; exact hlt)⟩
      obtain ⟨r0, r1, r2⟩ := rowEnt HR.out he
      replace r0 := HXW.out.cell r0
      replace r1 := HXW.out.cell r1
      replace r2 := HXW.out.cell r2
      obtain ⟨B, hB⟩ : ∃ B, B = lt (a, s) e.1 := ⟨_, rfl⟩
      have HL : Hid (∀ W, Calls Try.prog 38 #[.agg #[.int .u64 a, .int .u64 s], .agg #[.int .u64 e.1.1, .int .u64 e.1.2]] W fun e' w' => e' = .returned (.bool B) ∧ Ext W w') := Lib.hid (fun W => by rw [hB]; exact rless_any _ _ _ _ _)
      have HLE := Lib.hid he
      have HBB := Lib.hid hB
      clear he hB
      go_wp2_with fail
      go_region_held3 (fun w' => w'.cell? ⟨w.heap.size, 0, none⟩ = some (.slice (some ⟨g1, 0, none⟩) n vc) ∧ w'.cell? ⟨w.heap.size + 1, 0, none⟩ = some (.int .u64 a) ∧ w'.cell? ⟨w.heap.size + 1, 1, none⟩ = some (.int .u64 s) ∧ w'.cell? ⟨g1, k * 3, none⟩ = some (.int .u64 e.1.1) ∧ w'.cell? ⟨g1, k * 3 + 1, none⟩ = some (.int .u64 e.1.2))
        (first | go_keep | (go_split_ands; exact ⟨y0, y1, y2, y3, y4⟩))
        ((go_at_call 38; refine (HL.out _).mono ?_; rintro e' w2 ⟨rfl, hx2⟩; have hx3 := (Ext.refl wr).drew.trans hx2; have y0 := hx3.cell c0; have y1 := hx3.cell k0; have y2 := hx3.cell k1; have y3 := hx3.cell r0; have y4 := hx3.cell r1))
      cases B with
      | true =>
        have hn := firstAbove (a, s) k e HLE.out HBB.out.symm HNO.out
        obtain ⟨⟨ea, es⟩, ev⟩ := e
        have ho : o = some ((ea, es), ev) := by rw [HO.out, hn]
        subst ho
        have b0 : w2.cell? ⟨w.heap.size + 2, 0, none⟩ = some (.int .u64 0) := by simp [World.cell?, hx3.heap HB.out]
        have b1 : w2.cell? ⟨w.heap.size + 2, 1, none⟩ = some (.int .u64 0) := by simp [World.cell?, hx3.heap HB.out]
        have b2 : w2.cell? ⟨w.heap.size + 2, 2, none⟩ = some (.int .i64 0) := by simp [World.cell?, hx3.heap HB.out]
        have f0 : ∀ o, w2.frozen? ⟨w.heap.size + 2, o, none⟩ = false := fun o => by simp [World.frozen?, hx3.heap HB.out]
        have f1 := f0 0
        have f2 := f0 1
        have f3 := f0 2
        replace r0 := hx3.cell r0
        replace r1 := hx3.cell r1
        replace r2 := hx3.cell r2
        have HXF := Lib.hid ((((HXW.out.trans hx3).setCell (p := ⟨w.heap.size + 2, 0, none⟩) (by simp) (.int .u64 ea)).setCell (p := ⟨w.heap.size + 2, 1, none⟩) (by simp) (.int .u64 es)).setCell (p := ⟨w.heap.size + 2, 2, none⟩) (by simp) (.int .i64 ev))
        simp only at r0 r1 r2
        have hf := set3 (hx3.heap HB.out) (.int .u64 ea) (.int .u64 es) (.int .i64 ev)
        have z0 := (cell_at (o := 0) hf rfl).1
        have z1 := (cell_at (o := 1) hf rfl).1
        have z2 := (cell_at (o := 2) hf rfl).1
        have Z := Lib.hid (And.intro z0 (And.intro z1 z2))
        clear hx2 hx3 hn f0 c0 k0 k1 y1 y2 y3 y4 hf z0 z1 z2
        go_wp2_with fail
        obtain ⟨z0, z1, z2⟩ := Z.out
        exact bodyPost_ret (v := .tuple #[.agg #[.int .u64 ea, .int .u64 es, .int .i64 ev], .bool true]) (by simp [results, Try.results23, go_sem, z0, z1, z2]) rfl ⟨rfl, HXF.out⟩
      | false =>
        have HX2 := Lib.hid (HX.out.trans hx3)
        have HNO2 : Hid (∀ (i : Nat) (e' : En), i < k + 1 → E[i]? = some e' → lt (a, s) e'.1 = false) := Lib.hid (fun i e' hi hie => by
          by_cases hij : i = k
          · subst hij
            rw [HLE.out] at hie
            injection hie with hie
            rw [← hie]; exact HBB.out.symm
          · exact HNO.out i e' (by omega) hie)
        clear hx2 hx3 r0 r1 r2 c0 k0 k1 y0 y1 y2 y3 y4
        go_wp2_with fail
        exact ⟨⟨k + 1, by go_num, by omega, HX2.out, HNO2.out⟩, by simp [intOf]; omega⟩
    · have hkn : k = n := by omega
      have hn := noneAbove (E := E) (a, s) (fun i e' hie => HNO.out i e' (by have := (List.getElem?_eq_some_iff.1 hie).1; rw [HE.out] at this; omega) hie)
      have ho : o = none := by rw [HO.out, hn]
      subst ho
      have b0 : wr.cell? ⟨w.heap.size + 2, 0, none⟩ = some (.int .u64 0) := by simp [World.cell?, HB.out]
      have b1 : wr.cell? ⟨w.heap.size + 2, 1, none⟩ = some (.int .u64 0) := by simp [World.cell?, HB.out]
      have b2 : wr.cell? ⟨w.heap.size + 2, 2, none⟩ = some (.int .i64 0) := by simp [World.cell?, HB.out]
      have f0 : ∀ o, wr.frozen? ⟨w.heap.size + 2, o, none⟩ = false := fun o => by simp [World.frozen?, HB.out]
      have f1 := f0 0
      have f2 := f0 1
      have f3 := f0 2
      have HXF := Lib.hid ((((HXW.out).setCell (p := ⟨w.heap.size + 2, 0, none⟩) (by simp) (.int .u64 0)).setCell (p := ⟨w.heap.size + 2, 1, none⟩) (by simp) (.int .u64 0)).setCell (p := ⟨w.heap.size + 2, 2, none⟩) (by simp) (.int .i64 0))
      subst hkn
      have hf := set3 HB.out (.int .u64 0) (.int .u64 0) (.int .i64 0)
      have z0 := (cell_at (o := 0) hf rfl).1
      have z1 := (cell_at (o := 1) hf rfl).1
      have z2 := (cell_at (o := 2) hf rfl).1
      have Z := Lib.hid (And.intro z0 (And.intro z1 z2))
      clear hn f0 hf z0 z1 z2
      go_wp2_with fail
      obtain ⟨z0, z1, z2⟩ := Z.out
      exact bodyPost_ret (v := .tuple #[.agg #[.int .u64 0, .int .u64 0, .int .i64 0], .bool false]) (by simp [results, Try.results23, go_sem, z0, z1, z2]) rfl ⟨rfl, HXF.out⟩
end Go.Proofs.Ytekdahppacghbaa.Tr
