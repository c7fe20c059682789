/- DERIVED. Layer 6 (tree): contract of Shape. -/
import Derived.Test.YtekdahppacghbaaShB
import Derived.Test.YtekdahppacghbaaTrT
import Derived.Deep.RegionHeld3
import Derived.OwnWalk
set_option linter.unusedVariables false
set_option linter.unusedSimpArgs false
set_option maxRecDepth 100000
namespace Go.Proofs.Ytekdahppacghbaa.Tr
open Go.RowKit Go.Proofs.Ytekdahppacghbaa Go.Proofs.Ytekdahppacghbaa.TreeP

def isI (l : List Int) : List Value := l.map fun n => .int .i64 n
theorem isI_at (l : List Int) (j : Nat) (x : Int) (h : l[j]? = some x) : (isI l)[j]? = some (.int .i64 x) := by simp [isI, h]
theorem isI_set (l : List Int) (j : Nat) (x : Int) : (isI l).set j (.int .i64 x) = isI (l.set j x) := by simp [isI, List.map_set]
theorem made_zero (n : Nat) : (madeCells (Value.int .i64 0).cells (n * 1)).toList = isI (List.replicate n 0) := by
  apply List.ext_getElem?
  intro j
  by_cases hj : j < n
  · have h1 : (madeCells (Value.int .i64 0).cells (n * 1)).toList[j]? = some (.int .i64 0) := by
      simp [madeCells, Value.cells, hj, Nat.mod_one]
    have h2 : (isI (List.replicate n 0))[j]? = some (.int .i64 0) := isI_at _ _ _ (by simp [hj])
    rw [h1, h2]
  · rw [List.getElem?_eq_none (by simp [size_madeCells]; omega), List.getElem?_eq_none (by simp [isI]; omega)]
theorem infoTwig : (Try.prog.info? 62).map (fun i => (i.zero, i.size, i.bytes)) = some (some (.agg #[.int .u64 0, .int .u64 0, .bool false, .int .i64 0]), 4, 32) := by kernel_rfl
theorem up_cases {S : TS} {t : T} (h : Is S t S.root 0) {x : Nat} (hx : x ∈ t.ids) : (S.nd x).up = 0 ∨ (S.nd x).up ∈ t.ids := by
  by_cases e : x = S.root
  · exact .inl (by rw [e]; exact is_up h (e ▸ hx))
  · exact .inr (up_in h x hx e)
theorem row_any {w : World} {e n g cap j : Nat} {l : List Int} {u : Int} (h : w.ownsRow 0 e 1 (.slice (some ⟨g, 0, none⟩) n cap) n (isI l)) (hu : l[j]? = some u) : w.cell? ⟨g, j, none⟩ = some (.int .i64 u) ∧ w.frozen? ⟨g, j, none⟩ = false := by
  have := h.cells (g := g) rfl j _ (isI_at l j u hu)
  rw [add_plain] at this
  exact ⟨this, h.frozen' rfl j⟩
def S1 (l0 : List HP) (ids : List Nat) (n N : Nat) (va vi : Value) (wr : World) : Prop :=
  ∃ (k : Nat) (A : List Int), vi = .int .i64 (k : Int) ∧ k ≤ n ∧ A.length = N ∧ (∀ j x, j < k → ids[j]? = some x → A[x]? = some (j : Int)) ∧ Own (Row 3 1 va N (isI A) :: l0) wr
def S2 (l0 : List HP) (S : TS) (ids : List Nat) (n : Nat) (vo vi : Value) (wr : World) : Prop :=
  ∃ k : Nat, vi = .int .i64 (k : Int) ∧ k ≤ n ∧ Own (RowR 62 4 vo k (tws ((ids.take k).map (tw S ids))) :: l0) wr
set_option maxHeartbeats 2000000 in
theorem own_shape {p room : Nat} {E : List En} {l : List HP} {w : World} (h : Own (Tree p room E :: l) w) :
    Calls Try.prog 26 #[.pointer (some ⟨p, 0, none⟩)] w fun e w' => ∃ v Z, e = .returned v ∧ Shp E Z ∧ Own (RowR 62 4 v Z.length (tws Z) :: Tree p room E :: l) w' := by
  obtain ⟨g, cap, fr, free, many, S, t, h1, hi, he⟩ := tree_at h
  have hshp := shp_tree hi
  rw [he] at hshp
  obtain ⟨ids, eids⟩ : ∃ ids, ids = t.ids := ⟨_, rfl⟩
  have hil : ids.length ≤ 65536 := by rw [eids, ← hi.cnt]; have := hi.mr; have := hi.r2; omega
  obtain ⟨n, hn⟩ : ∃ n, n = ids.length := ⟨_, rfl⟩
  obtain ⟨N, hN⟩ : ∃ N, N = S.n.length := ⟨_, rfl⟩
  have hN1 : 1 ≤ N := by rw [hN]; exact hi.rng.pos
  have hN2 : N ≤ 65537 := by rw [hN]; have := hi.lr; have := hi.r2; omega
  have HNO := Lib.hid (no_any (own_tl h1).tw)
  have HOR := Lib.hid (order_any h1 hi.rng ids hil (by rw [eids]; exact ord_all hi.is))
  have HBACK : Hid (∀ (l' : List HP) (w' : World), Own (TreeAt p g cap fr free many room S :: l') w' → Own (Tree p room E :: l') w') := Lib.hid (fun l' w' h' => tree_back h' hi he)
  have HM : Hid (∀ x ∈ ids, x ≠ 0 ∧ x < N) := Lib.hid (by rw [eids, hN]; exact ids_lt hi.is)
  have HND : Hid (ids.Nodup) := Lib.hid (by rw [eids]; exact hi.nd)
  have HUP : Hid (∀ x ∈ ids, (S.nd x).up = 0 ∨ (S.nd x).up ∈ ids) := Lib.hid (fun x hx => by rw [eids] at hx ⊢; exact up_cases hi.is hx)
  rw [← eids] at hshp
  have HSH := Lib.hid hshp
  have HN := Lib.hid hn
  have HNN := Lib.hid hN
  have hn6 : n ≤ 65536 := by omega
  obtain ⟨i0, hii, hzz⟩ := Option.map_eq_some_iff.1 infoInt
  simp only [Prod.mk.injEq] at hzz
  obtain ⟨hz0, hz1, hz2⟩ := hzz
  have HI := Lib.hid hii
  have HZ0 := Lib.hid hz0
  have HZ1 := Lib.hid hz1
  have HZ2 := Lib.hid hz2
  clear h h1 hi he hil hn eids hN hshp hii hz0 hz1 hz2
  go_enter Try.func26, Try.ntmps26
  go_wp2_with fail
  refine (HNO.out).mono ?_
  rintro e w' ⟨rfl, rfl⟩
  go_wp2_with fail
  refine (HOR.out).mono ?_
  rintro e w1 ⟨v, rfl, h1⟩
  rw [← HN.out] at h1
  obtain ⟨va, vc, rfl⟩ := own_slice h1.row
  have c0 := (own_tl h1.swap).tw.c0
  rw [← HNN.out] at c0
  have H1 := Lib.hid h1
  clear h1 HOR HNO
  have b2 : i0.bytes * N ≤ 281474976710656 := by rw [HZ2.out]; omega
  have B2 := Lib.hid b2
  clear b2
  go_wp2_with (refine wpList_make_full w1 rfl _ _ 68 rfl 0 3 i0 _ 1 Try.underlying68 HI.out HZ0.out HZ1.out .i64 .i64 (N : Int) (N : Int) N rfl rfl rfl rfl B2.out (by simp only [maxLen]; omega) (Nat.zero_le _) ?_; intro w2 hown hgrow; rw [made_zero] at hown; have H2 := Lib.hid (H1.out.new (P := Row 3 1 (.slice (some ⟨w1.heap.size, 0, none⟩) N N) N (isI (List.replicate N 0))) (s := fun b => b = w1.heap.size) (Step.to_ext ((Step.refl _ w1).grown hgrow (fun k hk => by cases hk))) ⟨hown, fun b => by simp [Value.ownBlock, eq_comm]⟩ (fun b hb => by rw [hb]; exact Nat.le_refl _)); clear hown hgrow)
  obtain ⟨bA, hbA⟩ : ∃ b, b = w1.heap.size := ⟨_, rfl⟩
  rw [← hbA] at H2
  rw [← hbA]
  clear hbA H1 c0
  go_loopw [22] (fun vi wr => S1 (Row 3 1 (.slice va n vc) n (ints ids) :: TreeAt p g cap fr free many room S :: l) ids n N (.slice (some ⟨bA, 0, none⟩) N N) vi wr) (fun vi _ => n - (intOf vi).toNat)
  case atStart => exact ⟨0, List.replicate N 0, rfl, Nat.zero_le _, by simp, fun j x hj => absurd hj (Nat.not_lt_zero j), H2.out⟩
  case round =>
    clear H2
    obtain ⟨k, A, rfl, hk, hAl, hA, h⟩ := hrel
    by_cases hlt : k < n
    · have hltI : (k : Int) < (n : Int) := by omega
      obtain ⟨gv, cv, ev, -, -⟩ := own_cap h.swap.row (by omega)
      injection ev with e1 _ e3
      subst e1 e3
      have hkl : k < ids.length := by rw [← HN.out]; exact hlt
      obtain ⟨x, hx⟩ : ∃ x, x = ids.getD k 0 := ⟨_, rfl⟩
      have hget : ids[k]? = some x := by rw [hx]; simp [List.getD, hkl]
      have cx : wr.cell? ⟨gv, k, none⟩ = some (.int .i64 (x : Int)) := by
        obtain ⟨g', cap', e', -, hcs⟩ := own_form h.swap.row (by omega)
        injection e' with e1 _ _
        injection e1 with e1
        injection e1 with e1
        subst e1
        have := (hcs k _ (ints_at ids k hkl)).1
        rw [← hx] at this
        exact this
      have hm := (HM.out x (List.mem_of_getElem? hget)).2
      have hmI : (x : Int) < (N : Int) := by omega
      have ca := row_any h.row (j := x) (u := A.getD x 0) (by simp [List.getD, hAl, hm])
      obtain ⟨y, hy⟩ : ∃ y, y = A.getD x 0 := ⟨_, rfl⟩
      rw [← hy] at ca
      obtain ⟨ca, fa⟩ := ca
      have hset := h.rowSet (o := x) (by omega) (.int .i64 (k : Int))
      rw [isI_set] at hset
      have HP : Hid (S1 (Row 3 1 (.slice (some ⟨gv, 0, none⟩) n vc) n (ints ids) :: TreeAt p g cap fr free many room S :: l) ids n N (.slice (some ⟨bA, 0, none⟩) N N) (.int .i64 ((k : Int) + 1)) (wr.setCell ⟨bA, x, none⟩ (.int .i64 (k : Int)))) := Lib.hid ⟨k + 1, A.set x (k : Int), by go_num, by omega, by rw [List.length_set]; exact hAl, fun j z hj hz => by
        by_cases ej : j = k
        · subst ej
          rw [hget] at hz
          injection hz with hz
          subst hz
          simp [hAl, hm]
        · have hne : x ≠ z := by
            intro e
            subst e
            obtain ⟨a1, a2⟩ := List.getElem?_eq_some_iff.1 hget
            obtain ⟨b1, b2⟩ := List.getElem?_eq_some_iff.1 hz
            exact ej ((List.getElem_inj HND.out).1 (b2.trans a2.symm))
          rw [List.getElem?_set_ne hne]
          exact hA j z (by omega) hz, hset⟩
      clear h hset hA hget hx hkl hm hy
      go_wp2_with fail
      go_roundw
      case rel => exact HP.out
      case measure => simp only [intOf]; omega
    · obtain rfl : k = n := by omega
      have hNI : (0 : Int) < (N : Int) := by omega
      have ca := row_any h.row (j := 0) (u := A.getD 0 0) (by simp [List.getD, List.getElem?_eq_getElem (show 0 < A.length by omega)])
      obtain ⟨y, hy⟩ : ∃ y, y = A.getD 0 0 := ⟨_, rfl⟩
      rw [← hy] at ca
      obtain ⟨ca, fa⟩ := ca
      have hset := h.rowSet (o := 0) (by omega) (.int .i64 (-1))
      rw [isI_set] at hset
      have HAT : Hid (∀ x, x = 0 ∨ x ∈ ids → (A.set 0 (-1))[x]? = some (posI ids x)) := Lib.hid (fun x hx => by
        rcases hx with rfl | hx
        · have h0 : 0 < A.length := by omega
          rw [List.getElem?_set_self h0]
          rfl
        · have h0 := (HM.out x hx).1
          obtain ⟨q, hq⟩ := List.mem_iff_getElem?.1 hx
          have hql : q < k := by have := (List.getElem?_eq_some_iff.1 hq).1; rw [← HN.out] at this; exact this
          rw [List.getElem?_set_ne (Ne.symm h0), hA q x hql hq, posI_at HND.out h0 hq])
      have h2 := hset.nilRowR 62 4
      have H2 := Lib.hid h2
      obtain ⟨wA, hwA⟩ : ∃ wA, wA = wr.setCell ⟨bA, 0, none⟩ (.int .i64 (-1)) := ⟨_, rfl⟩
      rw [← hwA] at H2
      have HWA := Lib.hid hwA
      clear h hset h2 hA hy hwA
      go_wp2_with fail
      rw [← HWA.out]
      clear HWA ca fa
      go_loopw [7, 36] (fun vo vi wr => S2 (Row 3 1 (.slice (some ⟨bA, 0, none⟩) N N) N (isI (A.set 0 (-1))) :: Row 3 1 (.slice va k vc) k (ints ids) :: TreeAt p g cap fr free many room S :: l) S ids k vo vi wr) (fun _ vi _ => k - (intOf vi).toNat)
      case atStart => exact ⟨0, rfl, Nat.zero_le _, H2.out⟩
      case round =>
        clear H2
        obtain ⟨j, rfl, hj, h⟩ := hrel
        by_cases hjt : j < k
        · have hjI : (j : Int) < (k : Int) := by omega
          obtain ⟨gv, cv, ev, -, -⟩ := own_cap h.third.row (by omega)
          injection ev with e1 _ e3
          subst e1 e3
          have hkl : j < ids.length := by rw [← HN.out]; exact hjt
          obtain ⟨x, hx⟩ : ∃ x, x = ids.getD j 0 := ⟨_, rfl⟩
          have hget : ids[j]? = some x := by rw [hx]; simp [List.getD, hkl]
          have cx : wr.cell? ⟨gv, j, none⟩ = some (.int .i64 (x : Int)) := by
            obtain ⟨g', cap', e', -, hcs⟩ := own_form h.third.row (by omega)
            injection e' with e1 _ _
            injection e1 with e1
            injection e1 with e1
            subst e1
            have := (hcs j _ (ints_at ids j hkl)).1
            rw [← hx] at this
            exact this
          have hxm := List.mem_of_getElem? hget
          have hm := (HM.out x hxm).2
          have hmI : (x : Int) < (N : Int) := by omega
          have tw := (own_tl h.fourth).tw
          have c0 := tw.c0
          rw [← HNN.out] at c0
          have ta := tw.a (i := x) (by rw [← HNN.out]; exact hm)
          have ts := tw.s (i := x) (by rw [← HNN.out]; exact hm)
          have tr := tw.red (i := x) (by rw [← HNN.out]; exact hm)
          have tu := tw.up (i := x) (by rw [← HNN.out]; exact hm)
          obtain ⟨u, hu⟩ : ∃ u, u = (S.nd x).up := ⟨_, rfl⟩
          have huc := HUP.out x hxm
          rw [← hu] at huc tu
          have huN : u < N := by
            rcases huc with h0 | h0
            · omega
            · exact (HM.out u h0).2
          have huI : (u : Int) < (N : Int) := by omega
          have cu := (row_any h.second.row (HAT.out u huc)).1
          obtain ⟨pu, hpu⟩ : ∃ pu, pu = posI ids u := ⟨_, rfl⟩
          rw [← hpu] at cu
          obtain ⟨na, hna⟩ : ∃ y, y = (S.nd x).a := ⟨_, rfl⟩
          obtain ⟨ns, hns⟩ : ∃ y, y = (S.nd x).s := ⟨_, rfl⟩
          obtain ⟨nr, hnr⟩ : ∃ y, y = (S.nd x).red := ⟨_, rfl⟩
          rw [← hna] at ta
          rw [← hns] at ts
          rw [← hnr] at tr
          have hek : tws ((ids.take (j + 1)).map (Tr.tw S ids)) = tws ((ids.take j).map (Tr.tw S ids)) ++ [.int .u64 na, .int .u64 ns, .bool nr, .int .i64 pu] := by
            rw [List.take_add_one, hget]
            simp [tws_append, tws, tc, Tr.tw, hna, hns, hnr, hpu, hu]
          have HEK := Lib.hid hek
          have H := Lib.hid h
          obtain ⟨ao, co, rfl⟩ := h.rowR.slice
          have HRO : Hid (∀ W, Ext wr W → ownsR W 62 4 (.slice ao j co) j (tws ((ids.take j).map (Tr.tw S ids)))) := Lib.hid (fun W hW => (h.step hW).rowR)
          have HQ : Hid (∀ W v1 W1, Ext wr W → ownsR W1 62 4 v1 (j + 1) (tws ((ids.take j).map (Tr.tw S ids)) ++ [.int .u64 na, .int .u64 ns, .bool nr, .int .i64 pu]) → W.grownBy W1 (Value.slice ao j co).ownBlock → Moved W (.slice ao j co) v1 → S2 (Row 3 1 (.slice (some ⟨bA, 0, none⟩) N N) N (isI (A.set 0 (-1))) :: Row 3 1 (.slice (some ⟨gv, 0, none⟩) k vc) k (ints ids) :: TreeAt p g cap fr free many room S :: l) S ids k v1 (.int .i64 ((j : Int) + 1)) W1 ∧ W1.cell? ⟨p, 0, none⟩ = some (.slice (some ⟨g, 0, none⟩) N cap) ∧ W1.cell? ⟨g, x * 7, none⟩ = some (.int .u64 na) ∧ W1.cell? ⟨g, x * 7 + 1, none⟩ = some (.int .u64 ns) ∧ W1.cell? ⟨g, x * 7 + 6, none⟩ = some (.bool nr) ∧ W1.cell? ⟨g, x * 7 + 5, none⟩ = some (.int .i64 u) ∧ W1.cell? ⟨bA, u, none⟩ = some (.int .i64 pu)) :=
            Lib.hid (fun W v1 W1 hW hown hg hmv => by
              have hO := (H.out.step hW).rowRGrown hown rfl hg hmv
              have tw1 := (own_tl hO.fourth).tw
              have d0 := tw1.c0
              rw [← HNN.out] at d0
              refine ⟨⟨j + 1, by go_num, by omega, by rw [HEK.out]; exact hO⟩, d0, ?_, ?_, ?_, ?_, ?_⟩
              · rw [hna]; exact tw1.a (by rw [← HNN.out]; exact hm)
              · rw [hns]; exact tw1.s (by rw [← HNN.out]; exact hm)
              · rw [hnr]; exact tw1.red (by rw [← HNN.out]; exact hm)
              · rw [hu]; exact tw1.up (by rw [← HNN.out]; exact hm)
              · rw [hpu]; exact (row_any hO.second.row (HAT.out u huc)).1)
          have m1 : j + 1 ≤ maxLen := by simp only [maxLen]; omega
          have m2 : (j + 1) * 32 ≤ 140737488355328 := by omega
          have M1 := Lib.hid m1
          have M2 := Lib.hid m2
          clear h tw hna hns hnr hpu hu hek hget hxm hx hkl huc m1 m2
          go_wp2_with fail
          go_region_held3 (fun w' => w'.cell? ⟨p, 0, none⟩ = some (.slice (some ⟨g, 0, none⟩) N cap) ∧ w'.cell? ⟨g, x * 7, none⟩ = some (.int .u64 na) ∧ w'.cell? ⟨g, x * 7 + 1, none⟩ = some (.int .u64 ns) ∧ w'.cell? ⟨g, x * 7 + 6, none⟩ = some (.bool nr) ∧ w'.cell? ⟨g, x * 7 + 5, none⟩ = some (.int .i64 u) ∧ w'.cell? ⟨bA, u, none⟩ = some (.int .i64 pu))
            (first | go_keep | (go_split_ands; exact ⟨y0, y1, y2, y3, y4, y5⟩))
            (first
              | (refine step_app_R _ rfl (.tmp 40) (.tmp 69) 59 62 (.agg #[.int .u64 0, .int .u64 0, .bool false, .int .i64 0]) 4 32 rfl Try.underlying59 infoTwig rfl (by decide) (.slice ao j co) j (tws ((ids.take j).map (Tr.tw S ids))) (by simp [Act.eval, Act.put]) ⟨wr.heap.size, 0, none⟩ 1 1 [.int .u64 na, .int .u64 ns, .bool nr, .int .i64 pu] (by simp [Act.eval, Act.put]) rfl (by simpa using World.news_of_block (heap_alloc_new wr (.cells #[.int .u64 na, .int .u64 ns, .bool nr, .int .i64 pu] 62))) (by simp [Value.oneCell']) (HRO.out _ ((Ext.refl wr).alloc _).drew) M1.out M2.out ?_; intro v1 w3 hown hgrow hmv; obtain ⟨hp, y0, y1, y2, y3, y4, y5⟩ := HQ.out _ _ _ ((Ext.refl wr).alloc _).drew hown hgrow hmv; have HP := Lib.hid hp; clear hp hown hgrow hmv))
          go_wp2_with fail
          exact ⟨HP.out, by simp [intOf]; omega⟩
        · obtain rfl : j = k := by omega
          have hT : ids.take j = ids := List.take_of_length_le (by rw [← HN.out]; exact Nat.le_refl _)
          rw [hT] at h
          have hF := HBACK.out _ _ ((h.swap.drop).swap.drop.swap)
          have HF : Hid (Own (RowR 62 4 u7 (ids.map (Tr.tw S ids)).length (tws (ids.map (Tr.tw S ids))) :: Tree p room E :: l) wr) := Lib.hid (by
            rw [List.length_map, ← HN.out]
            exact hF.swap)
          clear h hT hlt hj hjt hF
          go_wp2_with fail
          go_ret
          exact ⟨_, _, rfl, HSH.out, HF.out⟩
end Go.Proofs.Ytekdahppacghbaa.Tr
