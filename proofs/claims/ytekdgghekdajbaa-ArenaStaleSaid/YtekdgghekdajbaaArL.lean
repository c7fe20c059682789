/- DERIVED. Layer 4 (arena): the law ArenaStale. -/
import Derived.Test.YtekdgghekdajbaaArH
import Derived.Test.YtekdgghekdajbaaArJ
import Derived.Test.YtekdgghekdajbaaArNone
import Derived.Test.YtekdgghekdajbaaMapI
set_option linter.unusedVariables false
set_option linter.unusedSimpArgs false
set_option maxRecDepth 100000
namespace Go.Proofs.Ytekdgghekdajbaa.Ar
open Go.RowKit Go.Proofs.Ytekdgghekdajbaa Go.Maps

theorem zeroI (w : World) : (zeroValue 3).run Try.prog w = .ok (.int .i64 0) w := by kernel_rfl
theorem u64_wf {n : Nat} (h : n < 18446744073709551616) : (Lit.int .u64 (n : Int)).wf = true := by
  simp [Lit.wf, IntKind.min, IntKind.max, IntKind.signed, IntKind.bits]
  omega
theorem i64_wf {n : Int} (h : -9223372036854775808 ≤ n) (h2 : n ≤ 9223372036854775807) : (Lit.int .i64 n).wf = true := by
  simp [Lit.wf, IntKind.min, IntKind.max, IntKind.signed, IntKind.bits]
  omega
/-- two handles that hold for the same place are one -/
theorem one_place {X : A} {x y : Nat} (hx : pb X (x : Int) = true) (hy : pb X (y : Int) = true) (h : pv X (x : Int) = pv X (y : Int)) : x = y := by
  obtain ⟨q, h1, _, _, h4⟩ := pb_spec hx
  obtain ⟨q', k1, _, _, k4⟩ := pb_spec hy
  have : q = q' := by omega
  subst this
  rw [h4, k4]
theorem count_take_succ {G : List Bool} {k : Nat} {g : Bool} (h : G[k]? = some g) : (G.take (k + 1)).count false = (G.take k).count false + (if g = false then 1 else 0) := by
  rw [List.take_add_one, h, Option.toList_some, List.count_append]
  cases g <;> simp
theorem handle_at {X : A} {q : Nat} (hq : q < X.st.length) (h : X.st.getD q 0 % 2 = 1) : hb X (q : Int) = true ∧ hv X (q : Int) = ((hdl X q : Nat) : Int) := by
  have eh : hb X (q : Int) = true := by
    have h' := h
    rw [List.getD_eq_getElem?_getD, List.getElem?_eq_getElem hq, Option.getD_some] at h'
    unfold hb; simp [hq, h']
  refine ⟨eh, ?_⟩
  unfold hv
  rw [eh, Int.toNat_natCast]
  simp
/-- behind k of the handles -/
def SL (w0 : World) (p b6 b7 : Nat) (tg : Option Addr) (tc : Nat) (gg : Option Addr) (gc : Nat) (X : A) (T : List Nat) (G : List Bool) (v8 v25 : Value) (wr : World) : Prop :=
  ∃ (k m2 : Nat) (F1 F2 : Int → Int), v25 = .int .i64 (k : Int) ∧ v8 = .int .i64 (((G.take k).count false : Nat) : Int) ∧ k ≤ T.length ∧ m2 ≤ k ∧
    Own [MapI Try.prog 30 3 .u64 b6 k F1, MapI Try.prog 3 3 .i64 b7 m2 F2, Row 30 1 (.slice tg T.length tc) T.length (us T), Row 4 1 (.slice gg G.length gc) G.length (bs G), Arena p X, Old w0] wr ∧
    (∀ (i x : Nat), k ≤ i → T[i]? = some x → F1 (x : Int) = 0) ∧ (∀ (i x : Nat), k ≤ i → T[i]? = some x → pb X (x : Int) = true → F2 (pv X (x : Int)) = 0)
set_option maxHeartbeats 2000000 in
theorem stale_of (v : Value) (l : List Op) (w : World) (ho : Ops w v l) :
    Calls Try.prog 3 #[v] w fun e w' => e = .returned (.bool true) ∧ Ext w w' := by
  have hmm := @run_makeMap Try.prog
  have HPL := Lib.hid (played_any v l w ho)
  obtain ⟨a, cap0, rfl, -, -, -⟩ := ho
  go_enter Try.func3, Try.ntmps3
  go_wp2_with fail
  refine (HPL.out).mono ?_
  rintro e w1 ⟨p, tv, gv, X, T, G, N, rfl, h1, hok, hN, hT60, hinv⟩
  obtain ⟨tg, tc, rfl⟩ := own_slice h1.row
  obtain ⟨gg, gc, rfl⟩ := own_slice h1.swap.row
  obtain ⟨b6, hb6⟩ : ∃ b, b = w1.heap.size := ⟨_, rfl⟩
  have h2 := (Own.mapNew (P := Try.prog) 30 3 .u64 h1)
  have h3 := (Own.mapNew (P := Try.prog) 3 3 .i64 h2).swap
  rw [show (w1.alloc (.map #[] 0)).heap.size = w1.heap.size + 1 by simp] at h3
  have HS : Hid (SL w p w1.heap.size (w1.heap.size + 1) tg tc gg gc X T G (.int .i64 0) (.int .i64 0) ((w1.alloc (.map #[] 0)).alloc (.map #[] 0))) :=
    Lib.hid ⟨0, 0, _, _, rfl, by simp, Nat.zero_le _, Nat.le_refl _, h3, fun _ _ _ _ => rfl, fun _ _ _ _ _ => rfl⟩
  obtain ⟨t, ht⟩ : ∃ t, t = T.length := ⟨_, rfl⟩
  have HOK := Lib.hid hok
  have HIV := Lib.hid hinv
  clear h1 h2 h3 HPL hok hinv hb6
  go_wp2_with fail
  go_loopw [8, 25] (fun v8 v25 wr => SL w p w1.heap.size (w1.heap.size + 1) tg tc gg gc X T G v8 v25 wr) (fun _ v25 _ => T.length - (intOf v25).toNat)
  case atStart => exact HS.out
  case round =>
    clear HS
    obtain ⟨k, m2, F1, F2, rfl, hv8, hk, hm2, h, hF1, hF2⟩ := hrel
    by_cases hlt : k < T.length
    · have hltI : (k : Int) < (T.length : Int) := by omega
      obtain ⟨tga, tca, ev, htc, -⟩ := own_cap h.third.row (by omega)
      injection ev with e1 _ e3
      subst e1 e3
      have hgl : G.length = T.length := HIV.out.len.symm
      obtain ⟨gga, gca, ev, hgc, -⟩ := own_cap h.fourth.row (by omega)
      injection ev with e1 _ e3
      subst e1 e3
      obtain ⟨x, hx⟩ : ∃ x, T[k]? = some x := ⟨_, List.getElem?_eq_getElem hlt⟩
      obtain ⟨g, hg⟩ : ∃ g, G[k]? = some g := ⟨_, List.getElem?_eq_getElem (by omega)⟩
      have hxT : T.getD k 0 = x := by simp [List.getD, hx]
      have hgG : G.getD k true = g := by simp [List.getD, hg]
      have hct : Hid (∀ W : World, W.ownsRow 0 30 1 (.slice (some ⟨tga, 0, none⟩) T.length tc) T.length (us T) → W.cell? ⟨tga, k, none⟩ = some (.int .u64 (x : Int))) := Lib.hid (fun W hW => by
        have := (row_cell hW (us_at T k hlt)).1
        rw [hxT] at this
        exact this)
      have hcg : Hid (∀ W : World, W.ownsRow 0 4 1 (.slice (some ⟨gga, 0, none⟩) G.length gc) G.length (bs G) → W.cell? ⟨gga, k, none⟩ = some (.bool g)) := Lib.hid (fun W hW => by
        have := (row_cell hW (bs_at G k (by omega))).1
        rw [hgG] at this
        exact this)
      have ct := hct.out _ h.third.row
      have cg := hcg.out _ h.fourth.row
      have hpb := HIV.out.each k x hx
      rw [hgG] at hpb
      obtain ⟨x1, x2⟩ := inv_lt HIV.out HOK.out (by omega) (List.mem_of_getElem? hx)
      have HWX := Lib.hid (u64_wf x2)
      have HF1 := Lib.hid (hF1 k x (Nat.le_refl _) hx)
      have HPB := Lib.hid hpb
      have HX := Lib.hid hx
      have HGK := Lib.hid hg
      have hx0 : ((x : Int) == 0) = false := by simp; omega
      have hxn0 : (x == 0) = false := by simp; omega
      obtain ⟨c8, hc8⟩ : ∃ c, c = (G.take k).count false := ⟨_, rfl⟩
      rw [← hc8] at hv8
      subst hv8
      have hc60 : c8 ≤ 60 := by
        rw [hc8]
        have h1 := List.count_le_length (a := false) (l := G.take k)
        rw [List.length_take] at h1
        omega
      have HC8 := Lib.hid hc8
      have H := Lib.hid h
      have HF1A := Lib.hid hF1
      have HF2A := Lib.hid hF2
      have hgI : (k : Int) < (G.length : Int) := by omega
      have HGL := Lib.hid hgl
      have hkmax : k < maxLen := by simp only [maxLen]; omega
      have HKM := Lib.hid hkmax
      clear h hF1 hF2 hx hg hpb hc8 hxT hgG hgl hkmax
      go_wp2_with (first
        | (at_lookup; refine map_look _ rfl _ _ 28 rfl 30 3 .u64 Try.underlying30 Try.underlying28 Try.underlying3 (zeroI _) w1.heap.size k F1 rfl H.out (x : Int) rfl HWX.out ?_; rw [HF1.out])
        | (at_mapUpdate; refine map_put _ rfl _ _ _ 28 rfl 30 3 .u64 Try.underlying30 Try.underlying28 Try.underlying3 w1.heap.size k F1 rfl H.out HKM.out (x : Int) rfl HWX.out 1 rfl (by decide) ?_; intro w2 h2; have ct2 := hct.out _ h2.third.row; have cg2 := hcg.out _ h2.fourth.row; have H2 := Lib.hid h2; clear h2)
        | fail)
      refine (own_place H2.out.fifth HOK.out (by omega) x x2).mono ?_
      rintro e w' ⟨rfl, rfl⟩
      have HN1 : Hid (∀ (i y : Nat), k + 1 ≤ i → T[i]? = some y → (fun z : Int => if z = (x : Int) then 1 else F1 z) (y : Int) = 0) := Lib.hid (fun i y hi hy => by
        have hne : ¬ ((y : Int) = (x : Int)) := by
          intro e
          have e' : y = x := by omega
          subst e'
          obtain ⟨i1, i2⟩ := List.getElem?_eq_some_iff.1 hy
          obtain ⟨j1, j2⟩ := List.getElem?_eq_some_iff.1 HX.out
          have := (List.getElem_inj HIV.out.nd).1 (i2.trans j2.symm)
          omega
        simp only [hne, if_false]
        exact HF1A.out i y (by omega) hy)
      cases g with
      | true =>
        have hpb : pb X (x : Int) = false := HPB.out
        have HG1 := Lib.hid (show gvE X x = 40 by unfold gvE; rw [hpb]; rfl)
        have HG2 := Lib.hid (show gvA X x = X by unfold gvA; rw [hpb]; rfl)
        have HPV := Lib.hid (show pv X (x : Int) = 0 by unfold pv; rw [hpb]; rfl)
        have HCT := Lib.hid (count_take_succ HGK.out)
        rw [hpb, HPV.out]
        clear hpb
        go_wp2_with (first
          | (at_lookup; refine map_look _ rfl _ _ 28 rfl 30 3 .u64 Try.underlying30 Try.underlying28 Try.underlying3 (zeroI _) w1.heap.size (k + 1) _ rfl H2.out (x : Int) rfl HWX.out ?_; rw [if_pos rfl])
          | fail)
        refine (own_give H2.out.fifth HOK.out (by omega) x x2).mono ?_
        rintro e w3 ⟨rfl, h3⟩
        rw [HG1.out]
        rw [HG2.out] at h3
        have HP : Hid (SL w p w1.heap.size (w1.heap.size + 1) (some ⟨tga, 0, none⟩) tc (some ⟨gga, 0, none⟩) gc X T G (.int .i64 (c8 : Int)) (.int .i64 ((k : Int) + 1)) w3) := Lib.hid ⟨k + 1, m2, _, F2, by go_num, by rw [HCT.out, ← HC8.out]; rfl, by omega, by omega, h3.back5, HN1.out, fun i y hi hy hb => HF2A.out i y (by omega) hy hb⟩
        clear h3 H2 ct2 cg2 ct cg
        go_wp2_with fail
        go_roundw
        case rel => exact HP.out
        case measure => simp only [intOf]; omega
      | false =>
        have hpb : pb X (x : Int) = true := HPB.out
        obtain ⟨q, hq1, hq2, hq3, hq4⟩ := pb_spec hpb
        have hq10 : q < 10 := by
          have h1 := HOK.out.len
          have h2 := HIV.out.rm
          omega
        obtain ⟨hh1, hh2⟩ := handle_at hq2 hq3
        rw [← hq4] at hh2
        have HH1 := Lib.hid hh1
        have HH2 := Lib.hid hh2
        have HF2 := Lib.hid (show F2 (q : Int) = 0 by rw [← hq1]; exact HF2A.out k x (Nat.le_refl _) HX.out hpb)
        have HCT := Lib.hid (count_take_succ HGK.out)
        have HWQ := Lib.hid (i64_wf (n := (q : Int)) (by omega) (by omega))
        have HM2 : Hid (m2 < maxLen) := Lib.hid (by simp only [maxLen]; omega)
        have HN2 : Hid (∀ (i y : Nat), k + 1 ≤ i → T[i]? = some y → pb X (y : Int) = true → (fun z : Int => if z = (q : Int) then 1 else F2 z) (pv X (y : Int)) = 0) := Lib.hid (fun i y hi hy hb => by
          have hne : ¬ (pv X (y : Int) = (q : Int)) := by
            intro e
            have e' : y = x := one_place hb hpb (by rw [e, hq1])
            subst e'
            obtain ⟨i1, i2⟩ := List.getElem?_eq_some_iff.1 hy
            obtain ⟨j1, j2⟩ := List.getElem?_eq_some_iff.1 HX.out
            have := (List.getElem_inj HIV.out.nd).1 (i2.trans j2.symm)
            omega
          simp only [hne, if_false]
          exact HF2A.out i y (by omega) hy hb)
        rw [hpb, hq1]
        have qI9 : (q : Int) ≤ 9 := by omega
        have q9 : q ≤ 9 := by omega
        have xx : ((x : Int) != (x : Int)) = false := by simp
        have xn : (x != x) = false := by simp
        clear hpb hh1 hh2 hq1 hq2 hq3 hq4
        go_wp2_with (first
          | (at_lookup; refine map_look _ rfl _ _ 28 rfl 30 3 .u64 Try.underlying30 Try.underlying28 Try.underlying3 (zeroI _) w1.heap.size (k + 1) _ rfl H2.out (x : Int) rfl HWX.out ?_; rw [if_pos rfl])
          | (at_lookup; refine map_look _ rfl _ _ 29 rfl 3 3 .i64 Try.underlying3 Try.underlying29 Try.underlying3 (zeroI _) (w1.heap.size + 1) m2 F2 rfl H2.out.swap (q : Int) rfl HWQ.out ?_; rw [HF2.out])
          | (at_mapUpdate; refine map_put _ rfl _ _ _ 29 rfl 3 3 .i64 Try.underlying3 Try.underlying29 Try.underlying3 (w1.heap.size + 1) m2 F2 rfl H2.out.swap HM2.out (q : Int) rfl HWQ.out 1 rfl (by decide) ?_; intro w3 h3; have H3 := Lib.hid h3; clear h3)
          | fail)
        refine (own_handle H3.out.fifth HOK.out (by omega) (q : Int)).mono ?_
        rintro e w' ⟨rfl, rfl⟩
        rw [HH1.out, HH2.out]
        have HP : Hid (SL w p w1.heap.size (w1.heap.size + 1) (some ⟨tga, 0, none⟩) tc (some ⟨gga, 0, none⟩) gc X T G (.int .i64 ((c8 : Int) + 1)) (.int .i64 ((k : Int) + 1)) w3) := Lib.hid ⟨k + 1, m2 + 1, _, _, by go_num, by rw [HCT.out, ← HC8.out]; rfl, by omega, by omega, H3.out.swap, HN1.out, HN2.out⟩
        clear H2 ct2 cg2 ct cg
        go_wp2_with (first
          | (at_lookup; refine map_look _ rfl _ _ 29 rfl 3 3 .i64 Try.underlying3 Try.underlying29 Try.underlying3 (zeroI _) (w1.heap.size + 1) (m2 + 1) _ rfl H3.out (q : Int) rfl HWQ.out ?_; rw [if_pos rfl])
          | fail)
        go_roundw
        case rel => exact HP.out
        case measure => simp only [intOf]; omega
    · obtain rfl : k = T.length := by omega
      have hgt : G.take T.length = G := List.take_of_length_le (by rw [HIV.out.len]; exact Nat.le_refl _)
      rw [hgt] at hv8
      obtain ⟨c, hc⟩ : ∃ c, c = G.count false := ⟨_, rfl⟩
      rw [← hc] at hv8
      subst hv8
      have HU := Lib.hid (show X.used = c by rw [hc]; exact HIV.out.cnt)
      have H := Lib.hid h
      have cc : ((c : Int) == (c : Int)) = true := by simp
      clear h hF1 hF2 hgt hc hlt hk
      go_wp2_with fail
      refine (own_used' H.out.fifth HOK.out HU.out).mono ?_
      rintro e w' ⟨rfl, rfl⟩
      go_wp2_with fail
      refine (awake_any H.out).mono ?_
      rintro e w8 ⟨rfl, h8⟩
      have H8 := Lib.hid h8
      clear h8 H
      go_wp2_with fail
      go_ret
      exact ⟨rfl, H8.out.ext (by simp)⟩
end Go.Proofs.Ytekdgghekdajbaa.Ar
