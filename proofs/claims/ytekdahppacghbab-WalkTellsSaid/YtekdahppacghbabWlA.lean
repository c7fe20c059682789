/- DERIVED. Layer 7 (walk): the document's walks: first, From, Upto, Sweep. Written by wip/mkwla.py. -/
import Derived.Test.YtekdahppacghbabWkF
import Derived.Test.YtekdahppacghbabR6B
import Derived.Deep.RegionHeld3
set_option linter.unusedVariables false
set_option linter.unusedSimpArgs false
set_option maxRecDepth 100000
namespace Go.Proofs.Ytekdahppacghbab.Wk
open Go.RowKit Go.Proofs.Ytekdahppacghbab Go.Proofs.Ytekdahppacghbab.TreeP Go.Proofs.Ytekdahppacghbab.Tr

theorem own_cut {e size n g c k : Nat} {xs : List Value} {l : List HP} {w : World} (h : Own (RowR e size (.slice (some ⟨g, 0, none⟩) n c) n xs :: l) w) (hk : k ≤ n) (hc : n ≤ c) : Own (RowR e size (.slice (some ⟨g, 0, none⟩) k c) k (xs.take (k * size)) :: l) w := by
  obtain ⟨s, hP, hb, K⟩ := h.open
  exact K (Step.refl s w) (s' := s) ⟨hP.1.cut hk (by omega) (Nat.le_refl _), fun b => (hP.2 b).trans (by simp [Value.ownBlock])⟩ (fun b hb => .inl hb)
theorem rfirst_any {v : Value} {M : List En} {l : List HP} {w : World} (h : Own (RR v M :: l) w) (bn : M.length ≤ 200000) (n : Int) :
    Calls Try.prog 35 #[v, .int .i64 n] w fun e w' => ∃ v', e = .returned v' ∧ Own (RR v' (M.take n.toNat) :: l) w' := by
  obtain ⟨m, hm⟩ : ∃ m, m = M.length := ⟨_, rfl⟩
  unfold RR at h
  rw [← hm] at h bn
  obtain ⟨a, c, rfl⟩ := h.rowR.slice
  by_cases h1 : n < 1
  · have hM : M.take n.toNat = [] := by rw [show n.toNat = 0 by omega, List.take_zero]
    rw [hM]
    have HF : Hid (Own (RR (.slice none 0 0) [] :: l) w) := Lib.hid (h.drop.nilRowR 49 3)
    clear h hM hm
    go_enter Try.func35, Try.ntmps35
    go_wp2_with fail
    go_ret
    exact ⟨_, rfl, HF.out⟩
  · obtain ⟨k, rfl⟩ := Int.eq_ofNat_of_zero_le (show 0 ≤ n by omega)
    rw [Int.toNat_natCast]
    by_cases h2 : k < m
    · obtain ⟨g, cap, ev, hc, hcm⟩ := h.rowR.form (by omega)
      injection ev with e1 _ e3
      subst e1 e3
      have hlt : (k : Int) < (m : Int) := by omega
      have hlc : (k : Int) ≤ (c : Int) := by omega
      have hlm : (k : Int) ≤ (m : Int) := by omega
      have HF : Hid (Own (RR (.slice (some ⟨g, 0, none⟩) k c) (M.take k) :: l) w) := Lib.hid (by
        have := own_cut h (k := k) (by omega) hc
        unfold RR
        rw [ents_take, List.length_take, ← hm, Nat.min_eq_left (by omega)]
        exact this)
      unfold maxLen at hcm
      clear h hm
      go_enter Try.func35, Try.ntmps35
      go_wp2_with fail
      go_ret
      exact ⟨_, rfl, HF.out⟩
    · have hM : M.take k = M := List.take_of_length_le (by omega)
      rw [hM]
      have hlt : ¬ (k : Int) < (m : Int) := by omega
      have HF : Hid (Own (RR (.slice a m c) M :: l) w) := Lib.hid (by unfold RR; rw [← hm]; exact h)
      clear h hm hM
      go_enter Try.func35, Try.ntmps35
      go_wp2_with fail
      go_ret
      exact ⟨_, rfl, HF.out⟩
theorem filter_step {p : En → Bool} {E : List En} {k : Nat} {e : En} (he : E[k]? = some e) : (E.take (k + 1)).filter p = (E.take k).filter p ++ (if p e = true then [e] else []) := by
  rw [List.take_add_one, he, List.filter_append]
  cases hp : p e <;> simp [hp]
theorem filter_yes {p : En → Bool} {E : List En} {k : Nat} {e : En} (he : E[k]? = some e) (hp : p e = true) : ents ((E.take (k + 1)).filter p) = ents ((E.take k).filter p) ++ [.int .u64 e.1.1, .int .u64 e.1.2, .int .i64 e.2] ∧ ((E.take (k + 1)).filter p).length = ((E.take k).filter p).length + 1 := by
  rw [filter_step he, if_pos hp, ents_append]
  exact ⟨rfl, by simp⟩
theorem filter_no {p : En → Bool} {E : List En} {k : Nat} {e : En} (he : E[k]? = some e) (hp : p e = false) : (E.take (k + 1)).filter p = (E.take k).filter p := by
  rw [filter_step he, if_neg (by rw [hp]; simp), List.append_nil]
theorem filter_le (p : En → Bool) (E : List En) (k : Nat) : ((E.take k).filter p).length ≤ k := by
  have h1 := List.length_filter_le p (E.take k)
  have h2 := List.length_take_le k E
  omega
def LfI (p : En → Bool) (E : List En) (L0 : List HP) (s7 s8 : Value) (wr : World) : Prop :=
  ∃ k : Nat, s8 = .int .i64 (k : Int) ∧ k ≤ E.length ∧ Own (RE s7 ((E.take k).filter p) :: L0) wr
def Lf2 (p : En → Bool) (E : List En) (L0 : List HP) (s8 s9 s10 : Value) (wr : World) : Prop :=
  ∃ k : Nat, s10 = .int .i64 (k : Int) ∧ k ≤ E.length ∧ Own (RE s8 ((E.take k).filter p) :: RE s9 ((E.take k).filter fun e => !p e) :: L0) wr
set_option maxHeartbeats 2000000 in
theorem rfrom_any {v : Value} {room : Int} {E : List En} {l : List HP} {w : World} (h : Own (RR v E :: l) w) (bn : E.length ≤ 60000) (x s n : Int) :
    Calls Try.prog 17 #[.agg #[v, .int .i64 room], .agg #[.int .u64 x, .int .u64 s], .int .i64 n] w fun e w' => ∃ v', e = .returned v' ∧ Own (RR v' ((E.filter fun e => !lt e.1 (x, s)).take n.toNat) :: RR v E :: l) w' := by
  obtain ⟨pp, hpp⟩ : ∃ pp : En → Bool, pp = fun e => !lt e.1 (x, s) := ⟨_, rfl⟩
  rw [← hpp]
  have h3 : Own (BK (w.heap.size + 1) x s :: BR w.heap.size v room :: RR v E :: l) ((w.alloc (.cells #[v, .int .i64 room] 28)).alloc (.cells #[.int .u64 x, .int .u64 s] 24)) := by
    have := Go.Proofs.Ytekdahppacghbab.Own.blkNew (Go.Proofs.Ytekdahppacghbab.Own.blkNew h #[v, .int .i64 room] 28) #[.int .u64 x, .int .u64 s] 24
    rw [World.size_alloc] at this
    exact this
  obtain ⟨L0, hL0⟩ : ∃ L0, L0 = BK (w.heap.size + 1) x s :: BR w.heap.size v room :: RR v E :: l := ⟨_, rfl⟩
  rw [← hL0] at h3
  obtain ⟨va, vc, rfl⟩ := h.rowR.slice
  have hvc : E.length ≤ vc := by rcases h.rowR.2 with ⟨e1, _⟩ | ⟨_, _, _, e1, _, h2, _⟩ <;> (injection e1 with _ _ e1; omega)
  obtain ⟨m, hm⟩ : ∃ m, m = E.length := ⟨_, rfl⟩
  have HB : Hid (∀ X w', Own (X ++ L0) w' → w'.cell? ⟨w.heap.size, 0, none⟩ = some (.slice va m vc) ∧ w'.cell? ⟨w.heap.size + 1, 0, none⟩ = some (.int .u64 x) ∧ w'.cell? ⟨w.heap.size + 1, 1, none⟩ = some (.int .u64 s)) := Lib.hid fun X w' hw => by
    rw [hL0] at hw
    obtain ⟨b0, -⟩ := br_cells (b := w.heap.size) (v := .slice va E.length vc) (r := room) hw (by simp)
    rw [hm]
    obtain ⟨k0, k1⟩ := bk_cells (b := w.heap.size + 1) (x := x) (s := s) hw (by simp)
    exact ⟨b0, k0, k1⟩
  have HG : Hid (∀ k e, E[k]? = some e → ∃ g, va = some ⟨g, 0, none⟩ ∧ ∀ X w', Own (X ++ L0) w' → w'.cell? ⟨g, k * 3, none⟩ = some (.int .u64 e.1.1) ∧ w'.cell? ⟨g, k * 3 + 1, none⟩ = some (.int .u64 e.1.2) ∧ w'.cell? ⟨g, k * 3 + 2, none⟩ = some (.int .i64 e.2)) := Lib.hid fun k e he => by
    have hk := (List.getElem?_eq_some_iff.1 he).1
    obtain ⟨g, cap, ev, _, _⟩ := h.rowR.form (by omega)
    injection ev with e1 _ e3
    subst e1 e3
    refine ⟨g, rfl, fun X w' hw => ?_⟩
    rw [hL0] at hw
    obtain ⟨l9, h9⟩ : ∃ l9, Own (RR (.slice (some ⟨g, 0, none⟩) E.length vc) E :: l9) w' := ⟨_, (hw.perm (l' := RR (.slice (some ⟨g, 0, none⟩) E.length vc) E :: ((X ++ [_, _]) ++ l)) (by simpa using List.perm_middle (l₁ := X ++ [BK (w.heap.size + 1) x s, BR w.heap.size (.slice (some ⟨g, 0, none⟩) E.length vc) room]) (l₂ := l)))⟩
    exact rowEnt h9.rowR he
  have HE : Hid (∀ w', Own L0 w' → Own (RR (.slice va E.length vc) E :: l) w') := Lib.hid fun w' hw => by rw [hL0] at hw; exact hw.drop.drop
  have HM := Lib.hid hm
  rw [← hm] at h3
  have H0 := Lib.hid (h3.nilRow 49 3)
  have bm : m ≤ 60000 := by omega
  have HPP := Lib.hid hpp
  rw [← hm] at hvc
  have hfin : ∀ v1 w1, Own (RE v1 (E.filter pp) :: L0) w1 → Calls Try.prog 35 #[v1, .int .i64 n] w1 fun e w' => ∃ v', e = .returned v' ∧ Own (RR v' ((E.filter pp).take n.toNat) :: RR (.slice va m vc) E :: l) w' := fun v1 w1 h1 => by
    have hle := List.length_filter_le pp E
    rw [hm]
    exact (rfirst_any h1.toR (by omega) n).mono fun e w2 ⟨v2, he, h2⟩ => ⟨v2, he, by rw [hL0] at h2; exact h2.swap.drop.swap.drop⟩
  have HFIN := Lib.hid hfin
  rw [← hm]
  clear h h3 hL0 hm hpp hfin
  go_enter Try.func17, Try.ntmps17
  go_wp2_with fail
  go_loopw [7, 8] (fun s7 s8 wr => LfI pp E L0 s7 s8 wr) (fun _ s8 _ => m - (intOf s8).toNat)
  case atStart => exact ⟨0, rfl, Nat.zero_le _, H0.out⟩
  case round =>
    clear H0
    obtain ⟨k, rfl, hk, h⟩ := hrel
    rw [← HM.out] at hk
    by_cases hlt : k < m
    · have hltI : (k : Int) < (m : Int) := by omega
      obtain ⟨e, he⟩ : ∃ e, E[k]? = some e := ⟨_, List.getElem?_eq_getElem (by rw [← HM.out]; exact hlt)⟩
      obtain ⟨g, rfl, hg⟩ := HG.out k e he
      obtain ⟨r0, r1, r2⟩ := hg [RE u7 ((E.take k).filter pp)] wr h
      obtain ⟨c0, k0, k1⟩ := HB.out [RE u7 ((E.take k).filter pp)] wr h
      have HGG := Lib.hid hg
      have hfl := filter_le pp E k
      have HFY := Lib.hid fun hp => filter_yes (p := pp) he hp
      have HFN := Lib.hid fun hp => filter_no (p := pp) he hp
      obtain ⟨⟨ea, es⟩, ev⟩ := e
      simp only at r0 r1 r2
      have H := Lib.hid h
      obtain ⟨q, hq⟩ : ∃ q, q = ((E.take k).filter pp).length := ⟨_, rfl⟩
      rw [← hq] at hfl
      have HQ := Lib.hid hq
      obtain ⟨B, hB⟩ : ∃ B, B = lt (ea, es) (x, s) := ⟨_, rfl⟩
      have HBB : Hid (pp ((ea, es), ev) = !B) := Lib.hid (by rw [HPP.out, hB])
      have HL : Hid (∀ W, Calls Try.prog 34 #[.agg #[.int .u64 ea, .int .u64 es], .agg #[.int .u64 x, .int .u64 s]] W fun e' w' => e' = .returned (.bool B) ∧ Ext W w') := Lib.hid (fun W => by rw [hB]; exact rless_any _ _ _ _ _)
      clear h he hg hq hB
      go_wp2_with fail
      go_region_held3 (fun w' => w'.cell? ⟨w.heap.size, 0, none⟩ = some (.slice (some ⟨g, 0, none⟩) m vc) ∧ w'.cell? ⟨w.heap.size + 1, 0, none⟩ = some (.int .u64 x) ∧ w'.cell? ⟨w.heap.size + 1, 1, none⟩ = some (.int .u64 s) ∧ w'.cell? ⟨g, k * 3, none⟩ = some (.int .u64 ea) ∧ w'.cell? ⟨g, k * 3 + 1, none⟩ = some (.int .u64 es))
        (first | go_keep | (go_split_ands; exact ⟨y0, y1, y2, y3, y4⟩))
        ((go_at_call 34; (with_reducible refine (HL.out _).mono ?_); rintro e' w2 ⟨rfl, hx2⟩; have hx3 := (Ext.refl wr).drew.trans hx2; have y0 := hx3.cell c0; have y1 := hx3.cell k0; have y2 := hx3.cell k1; have y3 := hx3.cell r0; have y4 := hx3.cell r1))
      have H1 := Lib.hid (H.out.step hx3)
      have y5 := hx3.cell r2
      clear hx2 hx3 c0 k0 k1 r0 r1 r2 H
      cases B with
      | false =>
        have H2 := Lib.hid H1.out
        go_wp2_with (at_builtin; refine app_own (W := w2) rfl _ _ _ _ _ 3 24 rfl Try.underlying26 infoEntry rfl (by omega) (by omega) u7 q (ents ((E.take k).filter pp)) [.int .u64 ea, .int .u64 es, .int .i64 ev] rfl _ (by simp) rfl rfl (by simp [Value.oneCell']) (by rw [HQ.out]; exact H2.out.row) (by omega) ?_)
        intro v1 w3 hown hgrow hmv
        obtain ⟨fy1, fy2⟩ := HFY.out (by rw [HBB.out]; rfl)
        rw [← fy1] at hown
        have h3 := H2.out.rowApp hown hgrow hmv
        rw [HQ.out, ← fy2] at h3
        have HP := Lib.hid (show LfI pp E L0 v1 (.int .i64 ((k : Int) + 1)) w3 from ⟨k + 1, by go_num, by rw [← HM.out]; omega, h3⟩)
        clear hown hgrow hmv h3 H2 fy1 fy2
        go_wp2_with fail
        exact ⟨HP.out, by simp [intOf]; omega⟩
      | true =>
        have HP : Hid (LfI pp E L0 u7 (.int .i64 ((k : Int) + 1)) w2) := Lib.hid ⟨k + 1, by go_num, by rw [← HM.out]; omega, by rw [HFN.out (by rw [HBB.out]; rfl)]; exact H1.out⟩
        go_wp2_with fail
        exact ⟨HP.out, by simp [intOf]; omega⟩
    · obtain rfl : k = m := by omega
      have hEE : E.take k = E := List.take_of_length_le (by rw [← HM.out]; exact Nat.le_refl _)
      rw [hEE] at h
      obtain ⟨c0, k0, k1⟩ := HB.out [RE u7 (E.filter pp)] wr h
      have HF := Lib.hid (HFIN.out _ _ h)
      clear h hEE hlt hk
      go_wp2_with fail
      (with_reducible refine (HF.out).mono ?_)
      rintro e w5 ⟨v5, rfl, h5⟩
      have H5 := Lib.hid h5
      clear h5 HF
      go_wp2_with fail
      go_ret
      exact ⟨_, rfl, H5.out⟩
set_option maxHeartbeats 2000000 in
theorem rupto_any {v : Value} {room : Int} {E : List En} {l : List HP} {w : World} (h : Own (RR v E :: l) w) (bn : E.length ≤ 60000) (at' n : Int) :
    Calls Try.prog 18 #[.agg #[v, .int .i64 room], .int .u64 at', .int .i64 n] w fun e w' => ∃ v', e = .returned v' ∧ Own (RR v' ((E.filter fun e => decide (e.1.1 ≤ at')).take n.toNat) :: RR v E :: l) w' := by
  obtain ⟨pp, hpp⟩ : ∃ pp : En → Bool, pp = fun e => decide (e.1.1 ≤ at') := ⟨_, rfl⟩
  rw [← hpp]
  have h3 : Own (BR w.heap.size v room :: RR v E :: l) (w.alloc (.cells #[v, .int .i64 room] 28)) := Go.Proofs.Ytekdahppacghbab.Own.blkNew h _ _
  obtain ⟨L0, hL0⟩ : ∃ L0, L0 = BR w.heap.size v room :: RR v E :: l := ⟨_, rfl⟩
  rw [← hL0] at h3
  obtain ⟨va, vc, rfl⟩ := h.rowR.slice
  have hvc : E.length ≤ vc := by rcases h.rowR.2 with ⟨e1, _⟩ | ⟨_, _, _, e1, _, h2, _⟩ <;> (injection e1 with _ _ e1; omega)
  obtain ⟨m, hm⟩ : ∃ m, m = E.length := ⟨_, rfl⟩
  have HB : Hid (∀ X w', Own (X ++ L0) w' → w'.cell? ⟨w.heap.size, 0, none⟩ = some (.slice va m vc)) := Lib.hid fun X w' hw => by
    rw [hL0] at hw
    obtain ⟨b0, -⟩ := br_cells (b := w.heap.size) (v := .slice va E.length vc) (r := room) hw (by simp)
    rw [hm]
    exact b0
  have HG : Hid (∀ k e, E[k]? = some e → ∃ g, va = some ⟨g, 0, none⟩ ∧ ∀ X w', Own (X ++ L0) w' → w'.cell? ⟨g, k * 3, none⟩ = some (.int .u64 e.1.1) ∧ w'.cell? ⟨g, k * 3 + 1, none⟩ = some (.int .u64 e.1.2) ∧ w'.cell? ⟨g, k * 3 + 2, none⟩ = some (.int .i64 e.2)) := Lib.hid fun k e he => by
    have hk := (List.getElem?_eq_some_iff.1 he).1
    obtain ⟨g, cap, ev, _, _⟩ := h.rowR.form (by omega)
    injection ev with e1 _ e3
    subst e1 e3
    refine ⟨g, rfl, fun X w' hw => ?_⟩
    rw [hL0] at hw
    obtain ⟨l9, h9⟩ : ∃ l9, Own (RR (.slice (some ⟨g, 0, none⟩) E.length vc) E :: l9) w' := ⟨_, (hw.perm (l' := RR (.slice (some ⟨g, 0, none⟩) E.length vc) E :: ((X ++ [_]) ++ l)) (by simpa using List.perm_middle (l₁ := X ++ [BR w.heap.size (.slice (some ⟨g, 0, none⟩) E.length vc) room]) (l₂ := l)))⟩
    exact rowEnt h9.rowR he
  have HE : Hid (∀ w', Own L0 w' → Own (RR (.slice va E.length vc) E :: l) w') := Lib.hid fun w' hw => by rw [hL0] at hw; exact hw.drop
  have HM := Lib.hid hm
  rw [← hm] at h3
  have H0 := Lib.hid (h3.nilRow 49 3)
  have bm : m ≤ 60000 := by omega
  have HPP := Lib.hid hpp
  rw [← hm] at hvc
  have hfin : ∀ v1 w1, Own (RE v1 (E.filter pp) :: L0) w1 → Calls Try.prog 35 #[v1, .int .i64 n] w1 fun e w' => ∃ v', e = .returned v' ∧ Own (RR v' ((E.filter pp).take n.toNat) :: RR (.slice va m vc) E :: l) w' := fun v1 w1 h1 => by
    have hle := List.length_filter_le pp E
    rw [hm]
    exact (rfirst_any h1.toR (by omega) n).mono fun e w2 ⟨v2, he, h2⟩ => ⟨v2, he, by rw [hL0] at h2; exact h2.swap.drop⟩
  have HFIN := Lib.hid hfin
  rw [← hm]
  clear h h3 hL0 hm hpp hfin
  go_enter Try.func18, Try.ntmps18
  go_wp2_with fail
  go_loopw [7, 8] (fun s7 s8 wr => LfI pp E L0 s7 s8 wr) (fun _ s8 _ => m - (intOf s8).toNat)
  case atStart => exact ⟨0, rfl, Nat.zero_le _, H0.out⟩
  case round =>
    clear H0
    obtain ⟨k, rfl, hk, h⟩ := hrel
    rw [← HM.out] at hk
    by_cases hlt : k < m
    · have hltI : (k : Int) < (m : Int) := by omega
      obtain ⟨e, he⟩ : ∃ e, E[k]? = some e := ⟨_, List.getElem?_eq_getElem (by rw [← HM.out]; exact hlt)⟩
      obtain ⟨g, rfl, hg⟩ := HG.out k e he
      obtain ⟨r0, r1, r2⟩ := hg [RE u7 ((E.take k).filter pp)] wr h
      have c0 := HB.out [RE u7 ((E.take k).filter pp)] wr h
      have HGG := Lib.hid hg
      have hfl := filter_le pp E k
      have HFY := Lib.hid fun hp => filter_yes (p := pp) he hp
      have HFN := Lib.hid fun hp => filter_no (p := pp) he hp
      obtain ⟨⟨ea, es⟩, ev⟩ := e
      simp only at r0 r1 r2
      have H := Lib.hid h
      obtain ⟨q, hq⟩ : ∃ q, q = ((E.take k).filter pp).length := ⟨_, rfl⟩
      rw [← hq] at hfl
      have HQ := Lib.hid hq
      obtain ⟨B, hB⟩ : ∃ B, B = decide (ea ≤ at') := ⟨_, rfl⟩
      have HBB : Hid (pp ((ea, es), ev) = B) := Lib.hid (by rw [HPP.out, hB])
      clear h he hg hq
      by_cases hle : ea ≤ at'
      · obtain rfl : B = true := by rw [hB]; exact decide_eq_true hle
        clear hB
        have H2 := Lib.hid H.out
        go_wp2_with (at_builtin; refine app_own (W := wr) rfl _ _ _ _ _ 3 24 rfl Try.underlying26 infoEntry rfl (by omega) (by omega) u7 q (ents ((E.take k).filter pp)) [.int .u64 ea, .int .u64 es, .int .i64 ev] rfl _ (by simp) rfl rfl (by simp [Value.oneCell']) (by rw [HQ.out]; exact H2.out.row) (by omega) ?_)
        intro v1 w3 hown hgrow hmv
        obtain ⟨fy1, fy2⟩ := HFY.out (by rw [HBB.out])
        rw [← fy1] at hown
        have h3 := H2.out.rowApp hown hgrow hmv
        rw [HQ.out, ← fy2] at h3
        have HP := Lib.hid (show LfI pp E L0 v1 (.int .i64 ((k : Int) + 1)) w3 from ⟨k + 1, by go_num, by rw [← HM.out]; omega, h3⟩)
        clear hown hgrow hmv h3 H2 fy1 fy2
        go_wp2_with fail
        exact ⟨HP.out, by simp [intOf]; omega⟩
      · obtain rfl : B = false := by rw [hB]; exact decide_eq_false hle
        clear hB
        have HP : Hid (LfI pp E L0 u7 (.int .i64 ((k : Int) + 1)) wr) := Lib.hid ⟨k + 1, by go_num, by rw [← HM.out]; omega, by rw [HFN.out HBB.out]; exact H.out⟩
        go_wp2_with fail
        exact ⟨HP.out, by simp [intOf]; omega⟩
    · obtain rfl : k = m := by omega
      have hEE : E.take k = E := List.take_of_length_le (by rw [← HM.out]; exact Nat.le_refl _)
      rw [hEE] at h
      have c0 := HB.out [RE u7 (E.filter pp)] wr h
      have HF := Lib.hid (HFIN.out _ _ h)
      clear h hEE hlt hk
      go_wp2_with fail
      (with_reducible refine (HF.out).mono ?_)
      rintro e w5 ⟨v5, rfl, h5⟩
      have H5 := Lib.hid h5
      clear h5 HF
      go_wp2_with fail
      go_ret
      exact ⟨_, rfl, H5.out⟩
set_option maxHeartbeats 4000000 in
theorem rsweep_any {v : Value} {room : Int} {E : List En} {l : List HP} {w : World} (h : Own (RR v E :: l) w) (bn : E.length ≤ 60000) (x s n : Int) :
    Calls Try.prog 15 #[.agg #[v, .int .i64 room], .agg #[.int .u64 x, .int .u64 s], .int .i64 n] w fun e w' => ∃ v', e = .returned (.tuple #[v', Tr.key ((sweepL E (x, s) n.toNat).getLast?.map (·.1.1) |>.getD x) ((sweepL E (x, s) n.toNat).getLast?.map (·.1.2) |>.getD s)]) ∧ Own (RR v' (sweepL E (x, s) n.toNat) :: RR v E :: l) w' := by
  obtain ⟨pp, hpp⟩ : ∃ pp : En → Bool, pp = fun e => lt (x, s) e.1 := ⟨_, rfl⟩
  have h3 : Own (BK (w.heap.size + 1 + 1) 0 0 :: BK (w.heap.size + 1) x s :: BR w.heap.size v room :: RR v E :: l) (((w.alloc (.cells #[v, .int .i64 room] 28)).alloc (.cells #[.int .u64 x, .int .u64 s] 24)).alloc (.cells #[.int .u64 0, .int .u64 0] 24)) := by
    have := Go.Proofs.Ytekdahppacghbab.Own.blkNew (Go.Proofs.Ytekdahppacghbab.Own.blkNew (Go.Proofs.Ytekdahppacghbab.Own.blkNew h #[v, .int .i64 room] 28) #[.int .u64 x, .int .u64 s] 24) #[.int .u64 0, .int .u64 0] 24
    simp only [World.size_alloc] at this
    exact this
  obtain ⟨L0, hL0⟩ : ∃ L0, L0 = BK (w.heap.size + 1 + 1) 0 0 :: BK (w.heap.size + 1) x s :: BR w.heap.size v room :: RR v E :: l := ⟨_, rfl⟩
  rw [← hL0] at h3
  obtain ⟨va, vc, rfl⟩ := h.rowR.slice
  have hvc : E.length ≤ vc := by rcases h.rowR.2 with ⟨e1, _⟩ | ⟨_, _, _, e1, _, h2, _⟩ <;> (injection e1 with _ _ e1; omega)
  obtain ⟨m, hm⟩ : ∃ m, m = E.length := ⟨_, rfl⟩
  have HB : Hid (∀ X w', Own (X ++ L0) w' → w'.cell? ⟨w.heap.size, 0, none⟩ = some (.slice va m vc) ∧ w'.cell? ⟨w.heap.size + 1, 0, none⟩ = some (.int .u64 x) ∧ w'.cell? ⟨w.heap.size + 1, 1, none⟩ = some (.int .u64 s)) := Lib.hid fun X w' hw => by
    rw [hL0] at hw
    obtain ⟨b0, -⟩ := br_cells (b := w.heap.size) (v := .slice va E.length vc) (r := room) hw (by simp)
    rw [hm]
    obtain ⟨k0, k1⟩ := bk_cells (b := w.heap.size + 1) (x := x) (s := s) hw (by simp)
    exact ⟨b0, k0, k1⟩
  have HG : Hid (∀ k e, E[k]? = some e → ∃ g, va = some ⟨g, 0, none⟩ ∧ ∀ X w', Own (X ++ L0) w' → w'.cell? ⟨g, k * 3, none⟩ = some (.int .u64 e.1.1) ∧ w'.cell? ⟨g, k * 3 + 1, none⟩ = some (.int .u64 e.1.2) ∧ w'.cell? ⟨g, k * 3 + 2, none⟩ = some (.int .i64 e.2)) := Lib.hid fun k e he => by
    have hk := (List.getElem?_eq_some_iff.1 he).1
    obtain ⟨g, cap, ev, _, _⟩ := h.rowR.form (by omega)
    injection ev with e1 _ e3
    subst e1 e3
    refine ⟨g, rfl, fun X w' hw => ?_⟩
    rw [hL0] at hw
    obtain ⟨l9, h9⟩ : ∃ l9, Own (RR (.slice (some ⟨g, 0, none⟩) E.length vc) E :: l9) w' := ⟨_, (hw.perm (l' := RR (.slice (some ⟨g, 0, none⟩) E.length vc) E :: ((X ++ [_, _, _]) ++ l)) (by simpa using List.perm_middle (l₁ := X ++ [BK (w.heap.size + 1 + 1) 0 0, BK (w.heap.size + 1) x s, BR w.heap.size (.slice (some ⟨g, 0, none⟩) E.length vc) room]) (l₂ := l)))⟩
    exact rowEnt h9.rowR he
  have HL0 := Lib.hid hL0
  have HM := Lib.hid hm
  rw [← hm] at h3
  have H0 := Lib.hid ((h3.nilRow 49 3).nilRow 49 3)
  have bm : m ≤ 60000 := by omega
  have HPP := Lib.hid hpp
  rw [← hm] at hvc
  have hab : (above E (x, s) = E.filter pp) ∧ (lowL E (x, s) = E.filter fun e => !pp e) := by rw [hpp]; exact ⟨rfl, rfl⟩
  have hsw : sweepL E (x, s) n.toNat = (E.filter pp ++ E.filter fun e => !pp e).take n.toNat := by unfold sweepL; rw [hab.1, hab.2]
  obtain ⟨M, hM⟩ : ∃ M, M = sweepL E (x, s) n.toNat := ⟨_, rfl⟩
  rw [← hM] at hsw ⊢
  obtain ⟨kx, hkx⟩ : ∃ kx, kx = (M.getLast?.map (·.1.1)).getD x := ⟨_, rfl⟩
  obtain ⟨ks, hks⟩ : ∃ ks, ks = (M.getLast?.map (·.1.2)).getD s := ⟨_, rfl⟩
  rw [← hkx, ← hks, ← hm]
  have HKX := Lib.hid hkx
  have HKS := Lib.hid hks
  have HSW := Lib.hid hsw
  clear h h3 hL0 hm hpp hab hsw hM hkx hks
  go_enter Try.func15, Try.ntmps15
  go_wp2_with fail
  go_loopw [8, 9, 10] (fun s8 s9 s10 wr => Lf2 pp E L0 s8 s9 s10 wr) (fun _ _ s10 _ => m - (intOf s10).toNat)
  case atStart => exact ⟨0, rfl, Nat.zero_le _, H0.out⟩
  case round =>
    clear H0
    obtain ⟨k, rfl, hk, h⟩ := hrel
    rw [← HM.out] at hk
    by_cases hlt : k < m
    · have hltI : (k : Int) < (m : Int) := by omega
      obtain ⟨e, he⟩ : ∃ e, E[k]? = some e := ⟨_, List.getElem?_eq_getElem (by rw [← HM.out]; exact hlt)⟩
      obtain ⟨g, rfl, hg⟩ := HG.out k e he
      obtain ⟨r0, r1, r2⟩ := hg [_, _] wr h
      obtain ⟨c0, k0, k1⟩ := HB.out [_, _] wr h
      have hfl := filter_le pp E k
      have hfl2 := filter_le (fun e => !pp e) E k
      have HFY := Lib.hid fun hp => filter_yes (p := pp) he hp
      have HFN := Lib.hid fun hp => filter_no (p := pp) he hp
      have HFY2 := Lib.hid fun hp => filter_yes (p := fun e => !pp e) he hp
      have HFN2 := Lib.hid fun hp => filter_no (p := fun e => !pp e) he hp
      obtain ⟨⟨ea, es⟩, ev⟩ := e
      simp only at r0 r1 r2
      have H := Lib.hid h
      obtain ⟨q, hq⟩ : ∃ q, q = ((E.take k).filter pp).length := ⟨_, rfl⟩
      obtain ⟨q2, hq2⟩ : ∃ q2, q2 = ((E.take k).filter fun e => !pp e).length := ⟨_, rfl⟩
      rw [← hq] at hfl
      rw [← hq2] at hfl2
      have HQ := Lib.hid hq
      have HQ2 := Lib.hid hq2
      obtain ⟨B, hB⟩ : ∃ B, B = lt (x, s) (ea, es) := ⟨_, rfl⟩
      have HBB : Hid (pp ((ea, es), ev) = B) := Lib.hid (by rw [HPP.out, hB])
      have HL : Hid (∀ W, Calls Try.prog 34 #[.agg #[.int .u64 x, .int .u64 s], .agg #[.int .u64 ea, .int .u64 es]] W fun e' w' => e' = .returned (.bool B) ∧ Ext W w') := Lib.hid (fun W => by rw [hB]; exact rless_any _ _ _ _ _)
      clear h he hg hq hq2 hB
      go_wp2_with fail
      go_region_held3 (fun w' => w'.cell? ⟨w.heap.size, 0, none⟩ = some (.slice (some ⟨g, 0, none⟩) m vc) ∧ w'.cell? ⟨w.heap.size + 1, 0, none⟩ = some (.int .u64 x) ∧ w'.cell? ⟨w.heap.size + 1, 1, none⟩ = some (.int .u64 s) ∧ w'.cell? ⟨g, k * 3, none⟩ = some (.int .u64 ea) ∧ w'.cell? ⟨g, k * 3 + 1, none⟩ = some (.int .u64 es))
        (first | go_keep | (go_split_ands; exact ⟨y0, y1, y2, y3, y4⟩))
        ((go_at_call 34; (with_reducible refine (HL.out _).mono ?_); rintro e' w2 ⟨rfl, hx2⟩; have hx3 := (Ext.refl wr).drew.trans hx2; have y0 := hx3.cell c0; have y1 := hx3.cell k0; have y2 := hx3.cell k1; have y3 := hx3.cell r0; have y4 := hx3.cell r1))
      have H1 := Lib.hid (H.out.step hx3)
      have y5 := hx3.cell r2
      clear hx2 hx3 c0 k0 k1 r0 r1 r2 H
      have H2 := Lib.hid H1.out
      clear H1
      cases B with
      | true =>
        go_wp2_with (at_builtin; refine app_own (W := w2) rfl _ _ _ _ _ 3 24 rfl Try.underlying26 infoEntry rfl (by omega) (by omega) u8 q (ents ((E.take k).filter pp)) [.int .u64 ea, .int .u64 es, .int .i64 ev] rfl _ (by simp) rfl rfl (by simp [Value.oneCell']) (by rw [HQ.out]; exact H2.out.row) (by omega) ?_)
        intro v1 w3 hown hgrow hmv
        obtain ⟨fy1, fy2⟩ := HFY.out (by rw [HBB.out])
        rw [← fy1] at hown
        have h3 := H2.out.rowApp hown hgrow hmv
        rw [HQ.out, ← fy2] at h3
        have HP := Lib.hid (show Lf2 pp E L0 v1 u9 (.int .i64 ((k : Int) + 1)) w3 from ⟨k + 1, by go_num, by rw [← HM.out]; omega, by rw [HFN2.out (by simp only [HBB.out]; rfl)]; exact h3⟩)
        clear hown hgrow hmv h3 H2 fy1 fy2
        go_wp2_with fail
        exact ⟨HP.out, by simp [intOf]; omega⟩
      | false =>
        go_wp2_with (at_builtin; refine app_own (W := w2) rfl _ _ _ _ _ 3 24 rfl Try.underlying26 infoEntry rfl (by omega) (by omega) u9 q2 (ents ((E.take k).filter fun e => !pp e)) [.int .u64 ea, .int .u64 es, .int .i64 ev] rfl _ (by simp) rfl rfl (by simp [Value.oneCell']) (by rw [HQ2.out]; exact H2.out.swap.row) (by omega) ?_)
        intro v1 w3 hown hgrow hmv
        obtain ⟨fy1, fy2⟩ := HFY2.out (by simp only [HBB.out]; rfl)
        rw [← fy1] at hown
        have h3 := (H2.out.swap.rowApp hown hgrow hmv).swap
        rw [HQ2.out, ← fy2] at h3
        have HP := Lib.hid (show Lf2 pp E L0 u8 v1 (.int .i64 ((k : Int) + 1)) w3 from ⟨k + 1, by go_num, by rw [← HM.out]; omega, by rw [HFN.out HBB.out]; exact h3⟩)
        clear hown hgrow hmv h3 H2 fy1 fy2
        go_wp2_with fail
        exact ⟨HP.out, by simp [intOf]; omega⟩
    · obtain rfl : k = m := by omega
      have hEE : E.take k = E := List.take_of_length_le (by rw [← HM.out]; exact Nat.le_refl _)
      rw [hEE] at h
      obtain ⟨c0, k0, k1⟩ := HB.out [_, _] wr h
      obtain ⟨A, hA⟩ : ∃ A, A = E.filter pp := ⟨_, rfl⟩
      obtain ⟨B, hB⟩ : ∃ B, B = E.filter fun e => !pp e := ⟨_, rfl⟩
      have hAl : A.length ≤ 60000 := by have := List.length_filter_le pp E; rw [hA]; have := HM.out; omega
      have hBl : B.length ≤ 60000 := by have := List.length_filter_le (fun e => !pp e) E; rw [hB]; have := HM.out; omega
      have hMM : M = (A ++ B).take n.toNat := by rw [hA, hB]; exact HSW.out
      rw [← hA, ← hB] at h
      obtain ⟨a8, c8, rfl⟩ := own_slice h.row
      obtain ⟨a9, c9, rfl⟩ := own_slice h.swap.row
      obtain ⟨LA, hLA⟩ : ∃ LA, LA = A.length := ⟨_, rfl⟩
      obtain ⟨LB, hLB⟩ : ∃ LB, LB = B.length := ⟨_, rfl⟩
      rw [← hLA] at hAl
      rw [← hLB] at hBl
      have hMl : M.length ≤ LA + LB := by rw [hMM, List.length_take, List.length_append]; omega
      have hfin : ∀ v1 w1, Own (RE v1 (A ++ B) :: L0) w1 → Calls Try.prog 35 #[v1, .int .i64 n] w1 fun e w' => ∃ v', e = .returned v' ∧ Own (RR v' M :: L0) w' := fun v1 w1 h1 => by
        rw [hMM]
        exact rfirst_any h1.toR (by rw [List.length_append]; omega) n
      have H := Lib.hid h
      have HFIN := Lib.hid hfin
      have HLA := Lib.hid hLA
      have HLB := Lib.hid hLB
      rw [← hLA, ← hLB]
      clear h hEE hlt hk hA hB hMM hLA hLB hfin k0 k1
      go_wp2_with (at_builtin; refine app_row (W := wr) rfl _ _ _ _ _ 3 24 rfl Try.underlying26 infoEntry rfl (by omega) (by omega) (.slice a8 LA c8) (.slice a9 LB c9) LA LB (Tr.ents A) (Tr.ents B) rfl rfl (Wk.ents_one B) (by rw [HLA.out, HLB.out]; exact H.out) (by omega) ?_; intro v6 w6 h6; rw [← ents_append, HLA.out, HLB.out, ← List.length_append] at h6; have H6 := Lib.hid (HFIN.out _ _ (h6.swap.drop)); clear h6)
      (with_reducible refine (H6.out).mono ?_)
      rintro e w7 ⟨v7, rfl, h7⟩
      obtain ⟨va6, vc6, rfl⟩ := h7.rowR.slice
      have H7 := Lib.hid h7
      clear h7 H6 c0
      have h7 := H7.out
      rw [HL0.out] at h7
      unfold RR at h7
      obtain ⟨T, hT⟩ : ∃ T, T = M.length := ⟨_, rfl⟩
      rw [← hT] at hMl h7 ⊢
      rw [← HM.out] at h7
      obtain ⟨bk, hbk⟩ : ∃ bk, bk = w.heap.size + 1 := ⟨_, rfl⟩
      rw [← hbk] at h7 ⊢
      have HT := Lib.hid hT
      clear H7 HB HG HFIN hT hbk
      by_cases hT0 : T = 0
      · subst hT0
        obtain rfl : M = [] := List.length_eq_zero_iff.1 HT.out.symm
        obtain rfl : x = kx := HKX.out.symm
        obtain rfl : s = ks := HKS.out.symm
        obtain ⟨k0, k1⟩ := bk_cells (b := bk) (x := x) (s := s) h7 (.tail _ (.tail _ (.head _)))
        obtain ⟨r0, r1, f0, f1⟩ : w7.cell? ⟨bk + 1, 0, none⟩ = some (.int .u64 0) ∧ w7.cell? ⟨bk + 1, 1, none⟩ = some (.int .u64 0) ∧ w7.frozen? ⟨bk + 1, 0, none⟩ = false ∧ w7.frozen? ⟨bk + 1, 1, none⟩ = false := by
          have := Go.Proofs.Ytekdahppacghbab.Own.blk h7 (b := bk + 1) (cs := #[.int .u64 0, .int .u64 0]) (t := 24) (.tail _ (.head _))
          simp [World.cell?, World.frozen?, this]
        obtain ⟨w8, e8⟩ : ∃ w8, (w7.setCell ⟨bk + 1, 0, none⟩ (.int .u64 x)).setCell ⟨bk + 1, 1, none⟩ (.int .u64 s) = w8 := ⟨_, rfl⟩
        have h9 := Go.Proofs.Ytekdahppacghbab.Own.blkSet (o := 1) (Go.Proofs.Ytekdahppacghbab.Own.blkSet (o := 0) h7.drop (.int .u64 x)) (.int .u64 s)
        rw [e8] at h9
        have H9 : Hid (Own (BK (bk + 1) x s :: BK bk x s :: BR w.heap.size (.slice va k vc) room :: RowR 49 3 (.slice va k vc) k (Tr.ents E) :: l) w8) := Lib.hid h9
        have E8 := Lib.hid e8
        clear h7 h9 e8
        go_wp2_with fail
        go_region_held3 (fun w' => w'.cell? ⟨bk, 0, none⟩ = some (.int .u64 x) ∧ w'.cell? ⟨bk, 1, none⟩ = some (.int .u64 s))
          (first | go_keep | skip)
          (fail)
        rename_i hh
        rw [E8.out]
        have hb8 := Go.Proofs.Ytekdahppacghbab.Own.blk H9.out (.head _)
        have r0' : w8.cell? ⟨bk + 1, 0, none⟩ = some (.int .u64 x) := by simp [World.cell?, hb8]
        have r1' : w8.cell? ⟨bk + 1, 1, none⟩ = some (.int .u64 s) := by simp [World.cell?, hb8]
        clear hh k0 k1 r0 r1 f0 f1 hb8 E8
        go_wp2_with fail
        exact bodyPost_ret (v := .tuple #[.slice none 0 0, Tr.key x s]) (by simp [results, Try.results15, go_sem, r0', r1']) rfl ⟨_, rfl, by
          have := ((H9.out.drop.drop.drop).step ((Ext.refl w8).drewN 1)).nilRowR 49 3
          unfold RR
          rw [← HM.out]
          exact this⟩
      · obtain ⟨j, rfl⟩ : ∃ j, T = j + 1 := ⟨T - 1, by omega⟩
        obtain ⟨e, he⟩ : ∃ e, M[j]? = some e := ⟨_, List.getElem?_eq_getElem (by rw [← HT.out]; omega)⟩
        have hlast : M.getLast? = some e := by rw [List.getLast?_eq_getElem?, ← HT.out]; exact he
        have hx1 : kx = e.1.1 := by rw [HKX.out, hlast]; rfl
        have hs1 : ks = e.1.2 := by rw [HKS.out, hlast]; rfl
        obtain ⟨g, rfl, d0, d1, d2⟩ : ∃ g, va6 = some ⟨g, 0, none⟩ ∧ w7.cell? ⟨g, j * 3, none⟩ = some (.int .u64 e.1.1) ∧ w7.cell? ⟨g, j * 3 + 1, none⟩ = some (.int .u64 e.1.2) ∧ w7.cell? ⟨g, j * 3 + 2, none⟩ = some (.int .i64 e.2) := by
          obtain ⟨g, cap, ev, -, -⟩ := h7.rowR.form (by omega)
          injection ev with e1 _ e3
          subst e1 e3
          exact ⟨g, rfl, rowEnt h7.rowR he⟩
        rw [← hx1] at d0
        rw [← hs1] at d1
        obtain ⟨r0, r1, f0, f1⟩ : w7.cell? ⟨bk + 1, 0, none⟩ = some (.int .u64 0) ∧ w7.cell? ⟨bk + 1, 1, none⟩ = some (.int .u64 0) ∧ w7.frozen? ⟨bk + 1, 0, none⟩ = false ∧ w7.frozen? ⟨bk + 1, 1, none⟩ = false := by
          have := Go.Proofs.Ytekdahppacghbab.Own.blk h7 (b := bk + 1) (cs := #[.int .u64 0, .int .u64 0]) (t := 24) (.tail _ (.head _))
          simp [World.cell?, World.frozen?, this]
        have hne : g ≠ bk + 1 := by
          intro e9
          obtain ⟨U, s1, V, hP, hl1, hd, hU⟩ := h7.swap
          obtain ⟨s2, V2, hP2, hl2, hd2, hU2⟩ := hl1
          exact hd g ((hP.2 g).2 e9) ((hU2 g).2 (.inl ((hP2.2 g).2 rfl)))
        have hne' : bk + 1 ≠ g := fun e => hne e.symm
        obtain ⟨w8, e8⟩ : ∃ w8, (w7.setCell ⟨bk + 1, 0, none⟩ (.int .u64 kx)).setCell ⟨bk + 1, 1, none⟩ (.int .u64 ks) = w8 := ⟨_, rfl⟩
        have h9 := Go.Proofs.Ytekdahppacghbab.Own.blkSet (o := 1) (Go.Proofs.Ytekdahppacghbab.Own.blkSet (o := 0) h7.swap (.int .u64 kx)) (.int .u64 ks)
        rw [e8] at h9
        have H9 : Hid (Own (BK (bk + 1) kx ks :: RowR 49 3 (.slice (some ⟨g, 0, none⟩) (j + 1) vc6) (j + 1) (Tr.ents M) :: BK bk x s :: BR w.heap.size (.slice va k vc) room :: RowR 49 3 (.slice va k vc) k (Tr.ents E) :: l) w8) := Lib.hid h9
        have E8 := Lib.hid e8
        have jI : (j : Int) < (j : Int) + 1 := by omega
        have j0 : (0 : Int) ≤ (j : Int) := by omega
        have wj : IntKind.i64.wrap ((j : Int) + 1 - 1) = (j : Int) := by rw [IntKind.wrap_i64]; omega
        have wj2 : IntKind.i64.wrap (j : Int) = (j : Int) := by rw [IntKind.wrap_i64]; omega
        have jt : ((j : Int) + 1 == 0) = false := by simp; omega
        clear h7 h9 e8 he hlast hx1 hs1 hT0
        go_wp2_with fail
        go_region_held3 (fun w' => w'.cell? ⟨g, j * 3, none⟩ = some (.int .u64 kx) ∧ w'.cell? ⟨g, j * 3 + 1, none⟩ = some (.int .u64 ks))
          (first | go_keep | skip)
          (fail)
        rename_i hh
        rw [E8.out]
        have hb8 := Go.Proofs.Ytekdahppacghbab.Own.blk H9.out (.head _)
        have r0' : w8.cell? ⟨bk + 1, 0, none⟩ = some (.int .u64 kx) := by simp [World.cell?, hb8]
        have r1' : w8.cell? ⟨bk + 1, 1, none⟩ = some (.int .u64 ks) := by simp [World.cell?, hb8]
        clear hh d0 d1 d2 r0 r1 f0 f1 hb8 E8
        go_wp2_with fail
        exact bodyPost_ret (v := .tuple #[.slice (some ⟨g, 0, none⟩) (j + 1) vc6, Tr.key kx ks]) (by simp [results, Try.results15, go_sem, r0', r1']) rfl ⟨_, rfl, by
          have := (H9.out.drop.swap.drop.swap.drop).step ((Ext.refl w8).drewN 1)
          unfold RR
          rw [← HM.out, ← HT.out]
          exact this⟩
end Go.Proofs.Ytekdahppacghbab.Wk
