/- DERIVED. Layer 7 (walk): the law WalkTake (under way; the chapter's examples come as a hypothesis). -/
import Derived.Test.YtekdahppacghbabWkL
import Derived.Test.YtekdahppacghbabWkN
import Derived.Test.YtekdahppacghbabTrT
set_option linter.unusedVariables false
set_option linter.unusedSimpArgs false
set_option maxRecDepth 100000
namespace Go.Proofs.Ytekdahppacghbab.Wk
open Go.RowKit Go.Proofs.Ytekdahppacghbab Go.Proofs.Ytekdahppacghbab.TreeP Go.Proofs.Ytekdahppacghbab.Tr

theorem infoU8 : (Try.prog.info? 5).map (fun i => (i.zero, i.size, i.bytes)) = some (some (.int .u8 0), 1, 1) := by kernel_rfl
def u8s (B : List Nat) : List Value := B.map fun x : Nat => .int .u8 (x : Int)
theorem u8s_one (B : List Nat) : ∀ u ∈ u8s B, u.oneCell' = true := by
  intro u hu
  unfold u8s at hu
  rw [List.mem_map] at hu
  obtain ⟨x, -, rfl⟩ := hu
  rfl
/-- append of what may be nil -/
theorem app_may {P : Program} {ops : Array Oper} {rest : List Oper} {o : Oper} {a : Act} {Q : Exit → Act → World → Prop} (w : World) (hgd : o.guard = none) (s x : Operand) (t e : TypeId) (z : Value) (size bytes : Nat)
    (ho : o.op = .call { callee := .builtin .append, args := #[s, x], argTypes := #[t, t] })
    (ht : P.underlying t = some (.slice e)) (hinfo : (P.info? e).map (fun i => (i.zero, i.size, i.bytes)) = some (some z, size, bytes)) (hz : z.cells.size = size) (hs0 : 0 < size)
    (v : Value) (n : Nat) (xs : List Value) (hs : a.eval s = v) (ad : Option Addr) (m c : Nat) (ys : List Value) (hx : a.eval x = .slice ad m c) (hys : ys.length = m * size)
    (hnews : 0 < m → ∃ d, ad = some d ∧ ∀ j u, ys[j]? = some u → w.cell? (d.add j) = some u) (h1 : ∀ u ∈ ys, u.oneCell' = true)
    (HO : ownsR w e size v n xs) (hl : n + m ≤ maxLen) (hl2 : (n + m) * bytes ≤ 140737488355328)
    (h : ∀ v1 w1, ownsR w1 e size v1 (n + m) (xs ++ ys) → w.grownBy w1 v.ownBlock → Moved w v v1 → wpList P ops Q rest (a.put o.dst v1) w1) :
    wpList P ops Q (o :: rest) a w := by
  cases ad with
  | some d =>
    refine app_R w hgd s x t e z size bytes ho ht hinfo hz hs0 v n xs hs d m c ys hx hys (fun j u hj => ?_) h1 HO hl hl2 h
    by_cases hm : 0 < m
    · obtain ⟨d', hd, hd2⟩ := hnews hm
      injection hd with hd
      subst hd
      exact hd2 j u hj
    · obtain rfl : m = 0 := by omega
      rw [Nat.zero_mul] at hys
      rw [List.length_eq_zero_iff.1 hys] at hj
      simp at hj
  | none =>
    obtain rfl : m = 0 := by
      by_cases hm : 0 < m
      · obtain ⟨d', hd, _⟩ := hnews hm
        cases hd
      · omega
    rw [Nat.zero_mul] at hys
    have hy := List.length_eq_zero_iff.1 hys
    subst hy
    obtain ⟨i0, hi, hzz⟩ := Option.map_eq_some_iff.1 hinfo
    refine wpList_plain hgd fun K hK => ?_
    have hr : (Builtin.append_ #[t, t] o.type #[v, .slice none 0 c]).run P w = .ok v w := by
      rcases HO.2 with ⟨rfl, rfl⟩ | ⟨g, cap, cur, rfl, hg, hnc, hcm, hcs, htake⟩
      · simp [Builtin.append_, run_underlying ht, sizeOf, typeInfo, hi, Builtin.lenOf, Builtin.firstCells, loadCells, loadCellsFrom]
      · simp [Builtin.append_, run_underlying ht, sizeOf, typeInfo, hi, Builtin.lenOf, Builtin.firstCells, loadCells, loadCellsFrom, hnc, storeCells]
    unfold Oper.wp execOp
    simp only [ho, resolve, invoke, builtin, Sem.run_bind, Sem.run_pure, Result.andThen_ok, List.map_toArray, List.map_cons, List.map_nil, hs, hx, hr]
    exact hK _ _ (h v w (by simpa using HO) (World.grownBy.refl _ _) (.inl rfl))
/-- a list that is written out with nothing in it -/
theorem Own.asRow {e size k : Nat} {l : List HP} {w : World} (h : Own (Go.Proofs.Ytekdahppacghbab.Blk k #[] e :: l) w) : Own (Row e size (.slice (some ⟨k, 0, none⟩) 0 0) 0 [] :: l) w := by
  have hb := Go.Proofs.Ytekdahppacghbab.Own.blk h (.head _)
  obtain ⟨U, s, V, hP, hl, hd, hU⟩ := h
  refine ⟨U, s, V, ⟨⟨by simp, .inr ⟨k, 0, #[], rfl, Nat.zero_le _, hb, Nat.le_refl _, Nat.zero_le _, by simp, by simp⟩⟩, fun b => ?_⟩, hl, hd, hU⟩
  rw [hP.2 b]
  simp [Value.ownBlock]
  exact eq_comm
/-- one entry of a row that is owned -/
theorem entry_at {w : World} {E : List En} {a : Option Addr} {c n : Nat} {l : List HP} (h : Own (Row 49 3 (.slice a n c) n (Tr.ents E) :: l) w) {k : Nat} {e : En} (hk : k < n) (he : E[k]? = some e) :
    ∃ g, a = some ⟨g, 0, none⟩ ∧ w.cell? ⟨g, k * 3, none⟩ = some (.int .u64 e.1.1) ∧ w.cell? ⟨g, k * 3 + 1, none⟩ = some (.int .u64 e.1.2) ∧ w.cell? ⟨g, k * 3 + 2, none⟩ = some (.int .i64 e.2) := by
  obtain ⟨g, cap, ev, -, -⟩ := own_cap h.row (by omega)
  injection ev with e1 _ e3
  subst e1 e3
  exact ⟨g, rfl, rowEnt (ownsR_of h.row) he⟩
/-- an operation whose guard lets it run, as one without a guard -/
theorem wpList_guarded {P : Program} {ops : Array Oper} {rest : List Oper} {o : Oper} {a : Act} {Q : Exit → Act → World → Prop} {W : World} (hw : Region.wanted o (yielded ops a.tmps) = true) (h : wpList P ops Q ({ o with guard := none } :: rest) a W) : wpList P ops Q (o :: rest) a W := by
  unfold wpList at h ⊢
  rw [if_pos hw]
  rw [if_pos (by simp [Region.wanted])] at h
  cases o
  exact h
set_option maxHeartbeats 4000000 in
theorem take_main (haw : Awake) (v : Value) (n : Nat) (f : Nat → Key) (at' : Int) (sv : Value) (B : List Nat) (w : World) (ho : KOps w v n f) (hB : Bytes w sv B) :
    Calls Try.prog 7 #[v, .int .u64 at', sv] w fun e w' => e = .returned (.bool true) ∧ Ext w w' := by
  have hof := of_ops ho (Own.start w) (.head _)
  have hn0 := nn_ofP ho.1 (Nat.min_le_left n 60)
  obtain ⟨E, hE⟩ : ∃ E, E = ofP f (min n 60) := ⟨_, rfl⟩
  rw [← hE] at hof hn0
  have HOF := Lib.hid hof
  have HNN := Lib.hid hn0
  have HAW := Lib.hid haw
  have HB := Lib.hid hB
  obtain ⟨hs, a, cap, rfl, -, -, -⟩ := ho
  clear hof hn0 hE haw hB hs
  go_enter Try.func7, Try.ntmps7
  go_wp2_with fail
  refine (HOF.out).mono ?_
  rintro e w1 ⟨p, v', rfl, h1⟩
  have h2 : Own [Tree p 60 E, Old w] w1 := h1.swap.drop
  obtain ⟨hr, hl60⟩ := own_rising h2
  obtain ⟨va0, vc0, rfl⟩ : ∃ va vc, v' = .slice va E.length vc := h1.swap.rowR.slice
  have HR := Lib.hid hr
  have HAL := Lib.hid (own_all (h2.step ((Ext.refl w1).alloc (.cells #[.slice va0 E.length vc0, .int .i64 60] 28))))
  obtain ⟨L, hL⟩ : ∃ L, L = E.length := ⟨_, rfl⟩
  rw [← hL] at hl60
  have HL := Lib.hid hL
  clear h1 h2 hr hL HOF
  go_wp2_with fail
  refine (HAL.out).mono ?_
  rintro e w2 ⟨vw, rfl, h2⟩
  obtain ⟨MM, hMM⟩ : ∃ MM, MM = (uptoL E at').take 60 := ⟨_, rfl⟩
  have HMM := Lib.hid hMM
  have HUP := Lib.hid (own_upto' (at' := at') (n := 60) (M := MM) HR.out HNN.out (by rw [← HL.out]; omega) (by omega) hMM.symm h2.swap)
  clear hMM
  clear h2 HAL
  go_wp2_with fail
  refine (HUP.out).mono ?_
  rintro e w3 ⟨vu, rfl, h3⟩
  have H3 := Lib.hid h3
  clear h3 HUP
  obtain ⟨asv, csv, rfl, b1, b2, b3⟩ := HB.out
  have h4 := (Go.Proofs.Ytekdahppacghbab.Own.blkNew H3.out #[] 5)
  have hx4 : Ext w (w3.alloc (.cells #[] 5)) := h4.ext (w0 := w) (by simp)
  have h5 := (Own.asRow (size := 1) h4).toR
  obtain ⟨k28, hk28⟩ : ∃ k, k = w3.heap.size := ⟨_, rfl⟩
  obtain ⟨w4, hw4⟩ : ∃ w4, w3.alloc (.cells #[] 5) = w4 := ⟨_, rfl⟩
  rw [hw4] at h5 hx4
  rw [← hk28] at h5
  unfold maxLen at b2
  have hnews : 0 < min B.length 30 → ∃ d, asv = some d ∧ ∀ j u, (u8s (B.take 30))[j]? = some u → w4.cell? (d.add j) = some u := fun hp => by
    obtain ⟨b, off, rfl, hb, hc⟩ := b3 (by omega)
    refine ⟨_, rfl, fun j u hj => ?_⟩
    unfold u8s at hj
    rw [List.getElem?_map, Option.map_eq_some_iff] at hj
    obtain ⟨x, hx, rfl⟩ := hj
    rw [List.getElem?_take] at hx
    split at hx
    · have := hx4.cell (hc j x hx).2
      unfold Addr.add
      split
      · subst_vars; simpa using this
      · exact this
    · cases hx
  have HNEWS := Lib.hid hnews
  have H5 := Lib.hid h5
  have HW4 := Lib.hid hw4
  have HK := Lib.hid hk28
  have HBB : Hid (∀ i x, (B.take 30 ++ [60])[i]? = some x → x ≤ 255) := Lib.hid (fun i x hi => by
    have hm := List.mem_of_getElem? hi
    rw [List.mem_append] at hm
    rcases hm with hm | hm
    · have hB := List.mem_of_mem_take hm
      obtain ⟨j, hj⟩ := List.getElem?_of_mem hB
      obtain ⟨b, off, -, -, hc⟩ := b3 (List.length_pos_of_mem hB)
      exact (hc j x hj).1
    · simp at hm; omega)
  clear h4 h5 hx4 hk28 hw4 hnews b3 H3
  by_cases hm : B.length < 30
  · have hmI : (B.length : Int) < 30 := by omega
    have hmc : (B.length : Int) ≤ (csv : Int) := by omega
    have hyl : (u8s (B.take 30)).length = B.length * 1 := by unfold u8s; rw [List.length_map, List.length_take]; omega
    have hmin : min B.length 30 = B.length := by omega
    have HYL := Lib.hid hyl
    have HMIN := Lib.hid hmin
    clear hyl hmin hm
    go_wp2_with (at_builtin; refine app_may (w3.alloc (.cells #[] 5)) rfl _ _ _ _ _ 1 1 rfl Try.underlying60 infoU8 rfl (by omega) (.slice (some ⟨w3.heap.size, 0, none⟩) 0 0) 0 [] rfl asv B.length _ (u8s (B.take 30)) rfl HYL.out (by rw [HW4.out]; have h := HNEWS.out; rw [HMIN.out] at h; exact h) (u8s_one _) (by rw [HW4.out, ← HK.out]; exact H5.out.rowR) (by simp only [maxLen]; omega) (by omega) ?_)
    intro v1 w5 hown hgrow hmv
    have ek := HK.out
    have e4 := HW4.out
    subst ek
    subst e4
    have hown : ownsR w5 5 1 v1 B.length (u8s (B.take 30)) := by simpa using hown
    have h6 := H5.out.rowRGrown hown rfl hgrow hmv
    have H6 := Lib.hid h6
    clear hown hgrow hmv h6 H5
    go_wp2_with (at_builtin; refine app_R1 (W := w5) rfl _ _ _ _ _ 1 1 rfl Try.underlying60 infoU8 rfl (by omega) (by omega) v1 B.length (u8s (B.take 30)) [.int .u8 60] rfl _ (by simp) rfl rfl (by simp [Value.oneCell']) H6.out.rowR (by omega) ?_)
    intro v2 w6 hown hgrow hmv
    have h7 := H6.out.rowRGrown hown rfl hgrow hmv
    obtain ⟨va2, vc2, rfl⟩ := h7.rowR.slice
    have H7 := Lib.hid h7
    clear hown hgrow hmv h7 H6
    obtain ⟨m, hm⟩ : ∃ m, m = B.length := ⟨_, rfl⟩
    have hX : ∃ X : List Nat, u8s (B.take 30) ++ [.int .u8 60] = u8s X ∧ X.length = m + 1 ∧ (∀ i x, X[i]? = some x → x ≤ 255) ∧ X[m]? = some 60 := ⟨B.take 30 ++ [60], by simp [u8s], by simp; omega, HBB.out, by rw [List.getElem?_append_right (by simp; omega)]; simp [show m - min 30 B.length = 0 by omega]⟩
    obtain ⟨X, hX1, hX2, hX3, hX4⟩ := hX
    have h7 := H7.out
    rw [hX1, ← hm] at h7
    rw [← hm]
    have m30 : m < 30 := by omega
    have H8 := Lib.hid h7
    have HX := Lib.hid (And.intro hX2 (And.intro hX3 hX4))
    clear h7 H7 hX1 hX2 hX3 hX4 hmI hmc hm HYL HMIN HNEWS HB
    obtain ⟨U, hU⟩ : ∃ U, U = uptoL E at' := ⟨_, rfl⟩
    have HU := Lib.hid hU
    clear hU
    go_wp2_with fail
    go_loopw [11, 38] (fun s11 vi wr => ∃ i j : Nat, vi = .int .i64 (i : Int) ∧ i ≤ m + 1 ∧ j ≤ U.length ∧ (i = m + 1 → j = U.length) ∧ Own (RE s11 (U.take j) :: Tree p 60 (E.drop j) :: RowR 5 1 (.slice va2 (m + 1) vc2) (m + 1) (u8s X) :: RE vu MM :: RE vw E :: [Old w]) wr) (fun _ vi _ => m + 1 - (intOf vi).toNat)
    case atStart => exact ⟨0, 0, rfl, Nat.zero_le _, Nat.zero_le _, fun h => absurd h (by omega), by rw [List.take_zero, List.drop_zero]; exact H8.out.third.nilRow 49 3⟩
    case round =>
      clear H8
      obtain ⟨i, j, rfl, hi, hj, hlast, h⟩ := hrel
      have hU60 : U.length ≤ 60 := by rw [HU.out]; exact Nat.le_trans (List.length_filter_le _ _) (by rw [← HL.out]; exact hl60)
      by_cases hlt : i < m + 1
      · as_aux_lemma =>
        have hltI : (i : Int) < (m : Int) + 1 := by omega
        obtain ⟨x, hx⟩ : ∃ x, X[i]? = some x := ⟨_, List.getElem?_eq_getElem (by rw [HX.out.1]; exact hlt)⟩
        have x255 := HX.out.2.1 i x hx
        have xlast : i = m → x = 60 := fun e => by rw [e, HX.out.2.2] at hx; injection hx with hx; exact hx.symm
        obtain ⟨g, cg, ev, -, -⟩ := h.third.rowR.form (by omega)
        injection ev with e1 _ e3
        subst e1 e3
        have hc : wr.cell? ⟨g, i, none⟩ = some (.int .u8 (x : Int)) := by
          have := (h.third.rowR.cells rfl i (.int .u8 (x : Int)) (by unfold u8s; rw [List.getElem?_map, hx]; rfl)).1
          exact this
        obtain ⟨q1, q2, q3, q4⟩ := upto_more HR.out at' (j := j) (b := x) (by rw [← HU.out]; exact hj)
        have ht := own_take HR.out.drop (fun e he => HNN.out e (List.mem_of_mem_drop he)) (by rw [List.length_drop, ← HL.out]; omega) at' (x : Int) (by omega) h.swap
        rw [Int.toNat_natCast] at ht
        obtain ⟨K, hK⟩ : ∃ K, K = (uptoL (E.drop j) at').take x := ⟨_, rfl⟩
        rw [← hK] at q1 q2 q3 q4 ht
        rw [← HU.out] at q1 q2 q4
        obtain ⟨k, hk⟩ : ∃ k, k = K.length := ⟨_, rfl⟩
        rw [← hk] at q1 q2 q3 q4 ht
        rw [List.drop_drop] at ht
        have hdone : i + 1 = m + 1 → j + k = U.length := fun e => q4 (by have := xlast (by omega); omega)
        have hUj : (U.take j).length = j := by rw [List.length_take]; omega
        have HT := Lib.hid ht
        have HQ1 := Lib.hid q1
        have HD := Lib.hid hdone
        have HK := Lib.hid hk
        have HUJ := Lib.hid hUj
        have hxI : (x : Int) ≤ 255 := by omega
        have hkx : ¬ (x : Int) < (k : Int) := by omega
        have hkx2 : (k : Int) ≤ (x : Int) := by omega
        obtain ⟨va11, vc11, rfl⟩ := own_slice h.row
        rw [hUj]
        clear h hx xlast ht q1 hdone hk hK hUj q4 hlast
        go_wp2_with fail
        refine (HT.out).mono ?_
        rintro e w8 ⟨vx, rfl, h8⟩
        obtain ⟨va14, vc14, rfl⟩ := own_slice h8.row
        rw [← HK.out]
        have h9 : Own (RE (.slice va11 (U.take j).length vc11) (U.take j) :: RE (.slice va14 K.length vc14) K :: Tree p 60 (E.drop (j + k)) :: RowR 5 1 (.slice (some ⟨g, 0, none⟩) (m + 1) vc2) (m + 1) (u8s X) :: RE vu MM :: RE vw E :: [Old w]) w8 := h8.third
        have H9 := Lib.hid h9
        clear h8 h9 HT
        go_wp2_with (at_builtin; refine app_row (W := w8) rfl _ _ _ _ _ 3 24 rfl Try.underlying26 infoEntry rfl (by omega) (by omega) (.slice va11 j vc11) (.slice va14 k vc14) j k (Tr.ents (U.take j)) (Tr.ents K) rfl rfl (ents_one K) (by have h := H9.out; unfold RE at h; rw [HUJ.out, ← HK.out] at h; exact h) (by omega) ?_)
        intro v6 w9 h6
        rw [← ents_append, HQ1.out] at h6
        have hjl : (U.take (j + k)).length = j + k := by rw [List.length_take]; omega
        have HXX : Hid (∃ i2 j2 : Nat, (.int .i64 ((i : Int) + 1) : Value) = .int .i64 (i2 : Int) ∧ i2 ≤ m + 1 ∧ j2 ≤ U.length ∧ (i2 = m + 1 → j2 = U.length) ∧ Own (RE v6 (U.take j2) :: Tree p 60 (E.drop j2) :: RowR 5 1 (.slice (some ⟨g, 0, none⟩) (m + 1) vc2) (m + 1) (u8s X) :: RE vu MM :: RE vw E :: [Old w]) w9) := Lib.hid ⟨i + 1, j + k, by go_num, by omega, q2, HD.out, by have h7 := h6.swap.drop; unfold RE; rw [hjl]; unfold RE at h7; exact h7⟩
        clear h6 H9 hjl
        go_wp2_with fail
        exact ⟨HXX.out, by simp [intOf]; omega⟩
      · as_aux_lemma =>
        have ei : i = m + 1 := by omega
        have ej := hlast ei
        have hsp := upto_taken HR.out at' (j := j) (by rw [← HU.out]; exact hj)
        rw [← HU.out] at hsp
        have hD := upto_left HR.out at'
        rw [← HU.out, ← ej] at hD
        have hUt : U.take j = U := by rw [ej]; exact List.take_of_length_le (Nat.le_refl _)
        rw [hUt] at hsp h
        obtain ⟨va11, vc11, rfl⟩ := own_slice h.row
        have hUE : U ++ E.drop j = E := by rw [hsp]; exact List.take_append_drop j E
        obtain ⟨D, eD⟩ : ∃ D, D = E.drop j := ⟨_, rfl⟩
        rw [← eD] at hUE hD h
        obtain ⟨u, hu⟩ : ∃ u, u = U.length := ⟨_, rfl⟩
        obtain ⟨d, hd⟩ : ∃ d, d = D.length := ⟨_, rfl⟩
        have hLud : L = u + d := by rw [HL.out, ← hUE, List.length_append, hu, hd]
        have hMM : MM = U := by rw [HMM.out, ← HU.out]; exact List.take_of_length_le hU60
        rw [hMM] at h
        subst ei
        have HALL := Lib.hid (own_all h.swap)
        have HD := Lib.hid hD
        have HUE := Lib.hid hUE
        have HLUD := Lib.hid hLud
        have Hu := Lib.hid hu
        have Hd := Lib.hid hd
        have hu60 : u ≤ 60 := by omega
        have hd60 : d ≤ 60 := by omega
        have huI : (u : Int) ≤ 60 := by omega
        have hdI : (d : Int) ≤ 60 := by omega
        clear h hlt hi hj hlast hU60 ej hsp hD hUt eD hu hd hLud hMM hUE
        go_wp2_with fail
        refine (HALL.out).mono ?_
        rintro e w10 ⟨vl, rfl, h10⟩
        have h11 : Own (RE (.slice va11 U.length vc11) U :: RE vu U :: RE vw E :: RE vl D :: [Old w]) w10 := h10.swap.drop.third.drop.fourth.fourth.fourth
        clear h10 HALL
        obtain ⟨val, vcl, rfl⟩ := own_slice h11.fourth.row
        obtain ⟨vaw, vcw, rfl⟩ := own_slice h11.third.row
        have hs1 := same_any (.slice va11 U.length vc11) vu U.length U.length U U w10 rfl rfl (ownsR_of h11.row) (ownsR_of h11.swap.row) (by rw [← Hu.out]; omega) (by rw [← Hu.out]; omega)
        rw [show decide (U = U) = true from by simp] at hs1
        unfold RE at h11
        rw [← Hu.out] at hs1
        rw [← Hu.out, ← Hd.out, ← HL.out] at h11
        rw [← Hu.out, ← Hd.out, ← HL.out]
        have HS1 := Lib.hid hs1
        have H11 := Lib.hid h11
        have esub : (L : Int) - (u : Int) = (d : Int) := by have := HLUD.out; omega
        have hL60 : (L : Int) ≤ 60 := by omega
        clear hs1 h11
        go_wp2_with fail
        refine (HS1.out).mono ?_
        rintro e w11 ⟨rfl, hx⟩
        have h12 := H11.out.step hx
        have h13 := Own.asRow (size := 3) (Go.Proofs.Ytekdahppacghbab.Own.blkNew h12 #[] 49)
        have H13 := Lib.hid h13
        clear hx h12 h13 HS1 H11
        go_wp2_with (at_builtin; refine wpList_guarded (by rfl) ?_; refine app_row (W := w11.alloc (.cells #[] 49)) rfl _ _ _ _ _ 3 24 rfl Try.underlying26 infoEntry rfl (by omega) (by omega) (.slice (some ⟨w11.heap.size, 0, none⟩) 0 0) (.slice va11 u vc11) 0 u [] (Tr.ents U) rfl rfl (ents_one U) H13.out (by omega) ?_)
        intro v2 w12 h14
        try simp only [Nat.zero_add, List.nil_append] at h14
        have h16 := h14.swap.drop.swap.drop.third.swap
        have H16 := Lib.hid h16
        clear h14 h16 H13
        go_wp2_with (at_builtin; refine wpList_guarded (by rfl) ?_; refine app_row (W := w12) rfl _ _ _ _ _ 3 24 rfl Try.underlying26 infoEntry rfl (by omega) (by omega) v2 (.slice val d vcl) u d (Tr.ents U) (Tr.ents D) rfl rfl (ents_one D) H16.out (by omega) ?_)
        intro v3 w13 h17
        rw [← ents_append, HUE.out, ← HLUD.out] at h17
        have hs2 := same_any v3 (.slice vaw L vcw) L L E E w13 HL.out.symm HL.out.symm (ownsR_of h17.row) (ownsR_of h17.third.row) (by omega) (by omega)
        rw [show decide (E = E) = true from by simp] at hs2
        have HS2 := Lib.hid hs2
        have H17 := Lib.hid h17
        clear hs2 h17 H16
        go_wp2_with fail
        refine (HS2.out).mono ?_
        rintro e w14 ⟨rfl, hx⟩
        have h18 := (H17.out.step hx).drop.swap.drop
        have H18 := Lib.hid h18
        clear hx h18 H17 HS2
        go_wp2_with fail
        go_loopw [84] (fun vi wr => ∃ k : Nat, vi = .int .i64 (k : Int) ∧ k ≤ d ∧ Own (Row 49 3 (.slice val d vcl) d (Tr.ents D) :: [Old w]) wr) (fun vi _ => d - (intOf vi).toNat)
        case atStart => exact ⟨0, rfl, Nat.zero_le _, H18.out⟩
        case round =>
          clear H18
          obtain ⟨k, rfl, hk, h⟩ := hrel
          by_cases hkd : k < d
          · have hkI : (k : Int) < (d : Int) := by omega
            obtain ⟨e, he⟩ : ∃ e, D[k]? = some e := ⟨_, List.getElem?_eq_getElem (by rw [← Hd.out]; exact hkd)⟩
            obtain ⟨g, rfl, r0, r1, r2⟩ := entry_at h hkd he
            have hlate := HD.out e (List.mem_of_getElem? he)
            obtain ⟨⟨ea, es⟩, ev⟩ := e
            simp only at r0 r1 r2 hlate
            have hA := h.step ((Ext.refl wr).alloc (.cells #[.int .u64 ea, .int .u64 es, .int .i64 ev] 49))
            have HX2 : Hid (∃ k2 : Nat, (.int .i64 ((k : Int) + 1) : Value) = .int .i64 (k2 : Int) ∧ k2 ≤ d ∧ Own (Row 49 3 (.slice (some ⟨g, 0, none⟩) d vcl) d (Tr.ents D) :: [Old w]) (wr.alloc (.cells #[.int .u64 ea, .int .u64 es, .int .i64 ev] 49))) := Lib.hid ⟨k + 1, by go_num, by omega, hA⟩
            have hnle : ¬ ea ≤ at' := by omega
            clear h he hA hlate
            go_wp2_with fail
            exact ⟨HX2.out, by simp [intOf]; omega⟩
          · obtain rfl : k = d := by omega
            have H := Lib.hid h
            clear h hkd hk
            go_wp2_with fail
            refine (HAW.out _ _ H.out).mono ?_
            rintro e w15 ⟨rfl, h15⟩
            have H15 := Lib.hid h15
            clear h15 H
            go_wp2_with fail
            go_ret
            exact ⟨rfl, H15.out.ext (by simp)⟩
  · have hmI : ¬ (B.length : Int) < 30 := by omega
    have hmJ : (30 : Int) ≤ (B.length : Int) := by omega
    have hmc : (30 : Int) ≤ (csv : Int) := by omega
    have hif : (if (30 : Int) < (B.length : Int) then (30 : Int) else (B.length : Int)) = 30 := by split <;> omega
    obtain ⟨dsv, rfl, -⟩ := HNEWS.out (by omega)
    have hyl : (u8s (B.take 30)).length = 30 * 1 := by unfold u8s; rw [List.length_map, List.length_take]; omega
    have hmin : min B.length 30 = 30 := by omega
    have HYL := Lib.hid hyl
    have HMIN := Lib.hid hmin
    clear hyl hmin hm
    go_wp2_with (at_builtin; refine app_may (w3.alloc (.cells #[] 5)) rfl _ _ _ _ _ 1 1 rfl Try.underlying60 infoU8 rfl (by omega) (.slice (some ⟨w3.heap.size, 0, none⟩) 0 0) 0 [] rfl (some dsv) 30 _ (u8s (B.take 30)) rfl HYL.out (by rw [HW4.out]; have h := HNEWS.out; rw [HMIN.out] at h; exact h) (u8s_one _) (by rw [HW4.out, ← HK.out]; exact H5.out.rowR) (by simp only [maxLen]; omega) (by omega) ?_)
    intro v1 w5 hown hgrow hmv
    have ek := HK.out
    have e4 := HW4.out
    subst ek
    subst e4
    have hown : ownsR w5 5 1 v1 30 (u8s (B.take 30)) := by simpa using hown
    have h6 := H5.out.rowRGrown hown rfl hgrow hmv
    have H6 := Lib.hid h6
    clear hown hgrow hmv h6 H5
    go_wp2_with (at_builtin; refine app_R1 (W := w5) rfl _ _ _ _ _ 1 1 rfl Try.underlying60 infoU8 rfl (by omega) (by omega) v1 30 (u8s (B.take 30)) [.int .u8 60] rfl _ (by simp) rfl rfl (by simp [Value.oneCell']) H6.out.rowR (by omega) ?_)
    intro v2 w6 hown hgrow hmv
    have h7 := H6.out.rowRGrown hown rfl hgrow hmv
    obtain ⟨va2, vc2, rfl⟩ := h7.rowR.slice
    have H7 := Lib.hid h7
    clear hown hgrow hmv h7 H6
    have hX : ∃ X : List Nat, u8s (B.take 30) ++ [.int .u8 60] = u8s X ∧ X.length = 30 + 1 ∧ (∀ i x, X[i]? = some x → x ≤ 255) ∧ X[30]? = some 60 := ⟨B.take 30 ++ [60], by simp [u8s], by simp; omega, HBB.out, by rw [List.getElem?_append_right (by simp; omega)]; simp [show 30 - min 30 B.length = 0 by omega]⟩
    obtain ⟨X, hX1, hX2, hX3, hX4⟩ := hX
    have h7 := H7.out
    rw [hX1] at h7
    have H8 := Lib.hid h7
    have HX := Lib.hid (And.intro hX2 (And.intro hX3 hX4))
    clear h7 H7 hX1 hX2 hX3 hX4 hmI hmJ hmc hif HYL HMIN HNEWS HB
    obtain ⟨U, hU⟩ : ∃ U, U = uptoL E at' := ⟨_, rfl⟩
    have HU := Lib.hid hU
    clear hU
    go_wp2_with fail
    go_loopw [11, 38] (fun s11 vi wr => ∃ i j : Nat, vi = .int .i64 (i : Int) ∧ i ≤ 31 ∧ j ≤ U.length ∧ (i = 31 → j = U.length) ∧ Own (RE s11 (U.take j) :: Tree p 60 (E.drop j) :: RowR 5 1 (.slice va2 31 vc2) 31 (u8s X) :: RE vu MM :: RE vw E :: [Old w]) wr) (fun _ vi _ => 31 - (intOf vi).toNat)
    case atStart => exact ⟨0, 0, rfl, Nat.zero_le _, Nat.zero_le _, fun h => absurd h (by omega), by rw [List.take_zero, List.drop_zero]; exact H8.out.third.nilRow 49 3⟩
    case round =>
      clear H8
      obtain ⟨i, j, rfl, hi, hj, hlast, h⟩ := hrel
      have hU60 : U.length ≤ 60 := by rw [HU.out]; exact Nat.le_trans (List.length_filter_le _ _) (by rw [← HL.out]; exact hl60)
      by_cases hlt : i < 31
      · as_aux_lemma =>
        have hltI : (i : Int) < 31 := by omega
        obtain ⟨x, hx⟩ : ∃ x, X[i]? = some x := ⟨_, List.getElem?_eq_getElem (by rw [HX.out.1]; exact hlt)⟩
        have x255 := HX.out.2.1 i x hx
        have xlast : i = 30 → x = 60 := fun e => by rw [e, HX.out.2.2] at hx; injection hx with hx; exact hx.symm
        obtain ⟨g, cg, ev, -, -⟩ := h.third.rowR.form (by omega)
        injection ev with e1 _ e3
        subst e1 e3
        have hc : wr.cell? ⟨g, i, none⟩ = some (.int .u8 (x : Int)) := by
          have := (h.third.rowR.cells rfl i (.int .u8 (x : Int)) (by unfold u8s; rw [List.getElem?_map, hx]; rfl)).1
          exact this
        obtain ⟨q1, q2, q3, q4⟩ := upto_more HR.out at' (j := j) (b := x) (by rw [← HU.out]; exact hj)
        have ht := own_take HR.out.drop (fun e he => HNN.out e (List.mem_of_mem_drop he)) (by rw [List.length_drop, ← HL.out]; omega) at' (x : Int) (by omega) h.swap
        rw [Int.toNat_natCast] at ht
        obtain ⟨K, hK⟩ : ∃ K, K = (uptoL (E.drop j) at').take x := ⟨_, rfl⟩
        rw [← hK] at q1 q2 q3 q4 ht
        rw [← HU.out] at q1 q2 q4
        obtain ⟨k, hk⟩ : ∃ k, k = K.length := ⟨_, rfl⟩
        rw [← hk] at q1 q2 q3 q4 ht
        rw [List.drop_drop] at ht
        have hdone : i + 1 = 31 → j + k = U.length := fun e => q4 (by have := xlast (by omega); omega)
        have hUj : (U.take j).length = j := by rw [List.length_take]; omega
        have HT := Lib.hid ht
        have HQ1 := Lib.hid q1
        have HD := Lib.hid hdone
        have HK := Lib.hid hk
        have HUJ := Lib.hid hUj
        have hxI : (x : Int) ≤ 255 := by omega
        have hkx : ¬ (x : Int) < (k : Int) := by omega
        have hkx2 : (k : Int) ≤ (x : Int) := by omega
        obtain ⟨va11, vc11, rfl⟩ := own_slice h.row
        rw [hUj]
        clear h hx xlast ht q1 hdone hk hK hUj q4 hlast
        go_wp2_with fail
        refine (HT.out).mono ?_
        rintro e w8 ⟨vx, rfl, h8⟩
        obtain ⟨va14, vc14, rfl⟩ := own_slice h8.row
        rw [← HK.out]
        have h9 : Own (RE (.slice va11 (U.take j).length vc11) (U.take j) :: RE (.slice va14 K.length vc14) K :: Tree p 60 (E.drop (j + k)) :: RowR 5 1 (.slice (some ⟨g, 0, none⟩) 31 vc2) 31 (u8s X) :: RE vu MM :: RE vw E :: [Old w]) w8 := h8.third
        have H9 := Lib.hid h9
        clear h8 h9 HT
        go_wp2_with (at_builtin; refine app_row (W := w8) rfl _ _ _ _ _ 3 24 rfl Try.underlying26 infoEntry rfl (by omega) (by omega) (.slice va11 j vc11) (.slice va14 k vc14) j k (Tr.ents (U.take j)) (Tr.ents K) rfl rfl (ents_one K) (by have h := H9.out; unfold RE at h; rw [HUJ.out, ← HK.out] at h; exact h) (by omega) ?_)
        intro v6 w9 h6
        rw [← ents_append, HQ1.out] at h6
        have hjl : (U.take (j + k)).length = j + k := by rw [List.length_take]; omega
        have HXX : Hid (∃ i2 j2 : Nat, (.int .i64 ((i : Int) + 1) : Value) = .int .i64 (i2 : Int) ∧ i2 ≤ 31 ∧ j2 ≤ U.length ∧ (i2 = 31 → j2 = U.length) ∧ Own (RE v6 (U.take j2) :: Tree p 60 (E.drop j2) :: RowR 5 1 (.slice (some ⟨g, 0, none⟩) 31 vc2) 31 (u8s X) :: RE vu MM :: RE vw E :: [Old w]) w9) := Lib.hid ⟨i + 1, j + k, by go_num, by omega, q2, HD.out, by have h7 := h6.swap.drop; unfold RE; rw [hjl]; unfold RE at h7; exact h7⟩
        clear h6 H9 hjl
        go_wp2_with fail
        exact ⟨HXX.out, by simp [intOf]; omega⟩
      · as_aux_lemma =>
        have ei : i = 31 := by omega
        have ej := hlast ei
        have hsp := upto_taken HR.out at' (j := j) (by rw [← HU.out]; exact hj)
        rw [← HU.out] at hsp
        have hD := upto_left HR.out at'
        rw [← HU.out, ← ej] at hD
        have hUt : U.take j = U := by rw [ej]; exact List.take_of_length_le (Nat.le_refl _)
        rw [hUt] at hsp h
        obtain ⟨va11, vc11, rfl⟩ := own_slice h.row
        have hUE : U ++ E.drop j = E := by rw [hsp]; exact List.take_append_drop j E
        obtain ⟨D, eD⟩ : ∃ D, D = E.drop j := ⟨_, rfl⟩
        rw [← eD] at hUE hD h
        obtain ⟨u, hu⟩ : ∃ u, u = U.length := ⟨_, rfl⟩
        obtain ⟨d, hd⟩ : ∃ d, d = D.length := ⟨_, rfl⟩
        have hLud : L = u + d := by rw [HL.out, ← hUE, List.length_append, hu, hd]
        have hMM : MM = U := by rw [HMM.out, ← HU.out]; exact List.take_of_length_le hU60
        rw [hMM] at h
        subst ei
        have HALL := Lib.hid (own_all h.swap)
        have HD := Lib.hid hD
        have HUE := Lib.hid hUE
        have HLUD := Lib.hid hLud
        have Hu := Lib.hid hu
        have Hd := Lib.hid hd
        have hu60 : u ≤ 60 := by omega
        have hd60 : d ≤ 60 := by omega
        have huI : (u : Int) ≤ 60 := by omega
        have hdI : (d : Int) ≤ 60 := by omega
        clear h hlt hi hj hlast hU60 ej hsp hD hUt eD hu hd hLud hMM hUE
        go_wp2_with fail
        refine (HALL.out).mono ?_
        rintro e w10 ⟨vl, rfl, h10⟩
        have h11 : Own (RE (.slice va11 U.length vc11) U :: RE vu U :: RE vw E :: RE vl D :: [Old w]) w10 := h10.swap.drop.third.drop.fourth.fourth.fourth
        clear h10 HALL
        obtain ⟨val, vcl, rfl⟩ := own_slice h11.fourth.row
        obtain ⟨vaw, vcw, rfl⟩ := own_slice h11.third.row
        have hs1 := same_any (.slice va11 U.length vc11) vu U.length U.length U U w10 rfl rfl (ownsR_of h11.row) (ownsR_of h11.swap.row) (by rw [← Hu.out]; omega) (by rw [← Hu.out]; omega)
        rw [show decide (U = U) = true from by simp] at hs1
        unfold RE at h11
        rw [← Hu.out] at hs1
        rw [← Hu.out, ← Hd.out, ← HL.out] at h11
        rw [← Hu.out, ← Hd.out, ← HL.out]
        have HS1 := Lib.hid hs1
        have H11 := Lib.hid h11
        have esub : (L : Int) - (u : Int) = (d : Int) := by have := HLUD.out; omega
        have hL60 : (L : Int) ≤ 60 := by omega
        clear hs1 h11
        go_wp2_with fail
        refine (HS1.out).mono ?_
        rintro e w11 ⟨rfl, hx⟩
        have h12 := H11.out.step hx
        have h13 := Own.asRow (size := 3) (Go.Proofs.Ytekdahppacghbab.Own.blkNew h12 #[] 49)
        have H13 := Lib.hid h13
        clear hx h12 h13 HS1 H11
        go_wp2_with (at_builtin; refine wpList_guarded (by rfl) ?_; refine app_row (W := w11.alloc (.cells #[] 49)) rfl _ _ _ _ _ 3 24 rfl Try.underlying26 infoEntry rfl (by omega) (by omega) (.slice (some ⟨w11.heap.size, 0, none⟩) 0 0) (.slice va11 u vc11) 0 u [] (Tr.ents U) rfl rfl (ents_one U) H13.out (by omega) ?_)
        intro v2 w12 h14
        try simp only [Nat.zero_add, List.nil_append] at h14
        have h16 := h14.swap.drop.swap.drop.third.swap
        have H16 := Lib.hid h16
        clear h14 h16 H13
        go_wp2_with (at_builtin; refine wpList_guarded (by rfl) ?_; refine app_row (W := w12) rfl _ _ _ _ _ 3 24 rfl Try.underlying26 infoEntry rfl (by omega) (by omega) v2 (.slice val d vcl) u d (Tr.ents U) (Tr.ents D) rfl rfl (ents_one D) H16.out (by omega) ?_)
        intro v3 w13 h17
        rw [← ents_append, HUE.out, ← HLUD.out] at h17
        have hs2 := same_any v3 (.slice vaw L vcw) L L E E w13 HL.out.symm HL.out.symm (ownsR_of h17.row) (ownsR_of h17.third.row) (by omega) (by omega)
        rw [show decide (E = E) = true from by simp] at hs2
        have HS2 := Lib.hid hs2
        have H17 := Lib.hid h17
        clear hs2 h17 H16
        go_wp2_with fail
        refine (HS2.out).mono ?_
        rintro e w14 ⟨rfl, hx⟩
        have h18 := (H17.out.step hx).drop.swap.drop
        have H18 := Lib.hid h18
        clear hx h18 H17 HS2
        go_wp2_with fail
        go_loopw [84] (fun vi wr => ∃ k : Nat, vi = .int .i64 (k : Int) ∧ k ≤ d ∧ Own (Row 49 3 (.slice val d vcl) d (Tr.ents D) :: [Old w]) wr) (fun vi _ => d - (intOf vi).toNat)
        case atStart => exact ⟨0, rfl, Nat.zero_le _, H18.out⟩
        case round =>
          clear H18
          obtain ⟨k, rfl, hk, h⟩ := hrel
          by_cases hkd : k < d
          · have hkI : (k : Int) < (d : Int) := by omega
            obtain ⟨e, he⟩ : ∃ e, D[k]? = some e := ⟨_, List.getElem?_eq_getElem (by rw [← Hd.out]; exact hkd)⟩
            obtain ⟨g, rfl, r0, r1, r2⟩ := entry_at h hkd he
            have hlate := HD.out e (List.mem_of_getElem? he)
            obtain ⟨⟨ea, es⟩, ev⟩ := e
            simp only at r0 r1 r2 hlate
            have hA := h.step ((Ext.refl wr).alloc (.cells #[.int .u64 ea, .int .u64 es, .int .i64 ev] 49))
            have HX2 : Hid (∃ k2 : Nat, (.int .i64 ((k : Int) + 1) : Value) = .int .i64 (k2 : Int) ∧ k2 ≤ d ∧ Own (Row 49 3 (.slice (some ⟨g, 0, none⟩) d vcl) d (Tr.ents D) :: [Old w]) (wr.alloc (.cells #[.int .u64 ea, .int .u64 es, .int .i64 ev] 49))) := Lib.hid ⟨k + 1, by go_num, by omega, hA⟩
            have hnle : ¬ ea ≤ at' := by omega
            clear h he hA hlate
            go_wp2_with fail
            exact ⟨HX2.out, by simp [intOf]; omega⟩
          · obtain rfl : k = d := by omega
            have H := Lib.hid h
            clear h hkd hk
            go_wp2_with fail
            refine (HAW.out _ _ H.out).mono ?_
            rintro e w15 ⟨rfl, h15⟩
            have H15 := Lib.hid h15
            clear h15 H
            go_wp2_with fail
            go_ret
            exact ⟨rfl, H15.out.ext (by simp)⟩
end Go.Proofs.Ytekdahppacghbab.Wk
