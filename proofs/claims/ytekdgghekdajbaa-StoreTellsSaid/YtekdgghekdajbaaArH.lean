/- DERIVED. Layer 4 (arena): 'of', 'played'. -/
import Derived.Test.YtekdgghekdajbaaArF
import Derived.Test.YtekdgghekdajbaaArG
set_option linter.unusedVariables false
set_option linter.unusedSimpArgs false
set_option maxRecDepth 100000
namespace Go.Proofs.Ytekdgghekdajbaa.Ar
open Go.RowKit Go.Proofs.Ytekdgghekdajbaa

structure Op where
  kind : Nat
  n : Int
  h : Nat
def Op.ok (o : Op) : Prop := o.kind ≤ 255 ∧ -9223372036854775808 ≤ o.n ∧ o.n ≤ 9223372036854775807 ∧ o.h < 18446744073709551616
/-- a slice of calls, as it came in -/
def Ops (W : World) (v : Value) (l : List Op) : Prop :=
  ∃ a cap, v = .slice a l.length cap ∧ l.length ≤ cap ∧ cap ≤ maxLen ∧ (0 < l.length → ∃ b off, a = some ⟨b, off, none⟩ ∧ b < W.heap.size ∧ ∀ (i : Nat) (o : Op), l[i]? = some o → o.ok ∧
    W.cell? ⟨b, off + i * 3, none⟩ = some (.int .u8 o.kind) ∧ W.cell? ⟨b, off + i * 3 + 1, none⟩ = some (.int .i64 o.n) ∧ W.cell? ⟨b, off + i * 3 + 2, none⟩ = some (.int .u64 o.h))
def ofv (T : List Nat) (n : Int) : Nat := if n < 0 then 0 else T.getD n.toNat 0
theorem of_any (v : Value) (T : List Nat) (n : Int) (w : World) (h : w.ownsRow 0 30 1 v T.length (us T)) (hT : T.length ≤ 100000) :
    Calls Try.prog 22 #[v, .int .i64 n] w fun e w' => e = .returned (.int .u64 ((ofv T n : Nat) : Int)) ∧ w = w' := by
  obtain ⟨a, cap, rfl⟩ := own_slice h
  by_cases h0 : n < 0
  · have e : ofv T n = 0 := by unfold ofv; rw [if_pos h0]
    rw [e]
    clear h e
    go_enter Try.func22, Try.ntmps22
    go_wp2
    go_ret
    exact ⟨rfl, rfl⟩
  · obtain ⟨q, rfl⟩ := Int.eq_ofNat_of_zero_le (show 0 ≤ n by omega)
    have e : ofv T (q : Int) = T.getD q 0 := by unfold ofv; rw [if_neg h0, Int.toNat_natCast]
    rw [e]
    by_cases hq : q < T.length
    · obtain ⟨g, cap', hv, hc, hcs⟩ := own_form h (by omega)
      injection hv with e1 e2 e3
      subst e1 e3
      obtain ⟨hcell, hfr⟩ := hcs q _ (us_at T q hq)
      obtain ⟨m, hm⟩ : ∃ m, m = T.getD q 0 := ⟨_, rfl⟩
      rw [← hm] at hcell ⊢
      clear h e hm hcs
      go_enter Try.func22, Try.ntmps22
      go_wp2
      go_ret
      exact ⟨rfl, rfl⟩
    · have e2 : T.getD q 0 = 0 := by simp [List.getD, List.getElem?_eq_none (by omega : T.length ≤ q)]
      rw [e2]
      clear h e e2
      go_enter Try.func22, Try.ntmps22
      go_wp2
      go_ret
      exact ⟨rfl, rfl⟩
theorem info4 : (Try.prog.info? 4).map (fun i => (i.zero, i.size, i.bytes)) = some (some (.bool false), 1, 1) := by kernel_rfl
def bs (l : List Bool) : List Value := l.map fun b => .bool b
theorem bs_at (l : List Bool) (j : Nat) (h : j < l.length) : (bs l)[j]? = some (.bool (l.getD j true)) := by simp [bs, h, List.getD]
theorem bs_set (l : List Bool) (j : Nat) (b : Bool) : (bs l).set j (.bool b) = bs (l.set j b) := by simp [bs, List.map_set]
theorem row_cell {w : World} {e n g cap j : Nat} {xs : List Value} {u : Value} (h : w.ownsRow 0 e 1 (.slice (some ⟨g, 0, none⟩) n cap) n xs) (hj : xs[j]? = some u) : w.cell? ⟨g, j, none⟩ = some u ∧ w.frozen? ⟨g, j, none⟩ = false := by
  have := h.cells (g := g) rfl j u hj
  rw [add_plain] at this
  exact ⟨this, h.frozen' rfl j⟩
/-- the first j of them marked -/
def Marked (T : List Nat) (h : Nat) (G : List Bool) (j : Nat) (G' : List Bool) : Prop := ∀ (i x : Nat), T[i]? = some x → G'.getD i true = if i < j then (G.getD i true || x == h) else G.getD i true
theorem marked_zero (T : List Nat) (h : Nat) (G : List Bool) : Marked T h G 0 G := fun i x _ => by simp
theorem marked_step {T : List Nat} {h : Nat} {G G' : List Bool} {j x : Nat} {b : Bool} (hm : Marked T h G j G') (hj : j < T.length) (hl : T.length = G.length) (hl' : G'.length = G.length) (hb : b = G'.getD j true) (hx : x = T.getD j 0) :
    Marked T h G (j + 1) (G'.set j (b || x == h)) := by
  intro i y hy
  by_cases e : i = j
  · subst e
    have h1 := hm i y hy
    rw [if_neg (by omega)] at h1
    have ex : x = y := by rw [hx]; simp [List.getD, hy]
    rw [if_pos (by omega), ← h1, ← hb, ex]
    have : i < G'.length := by omega
    simp [List.getD, this]
  · have h1 := hm i y hy
    have e2 : (G'.set j (b || x == h)).getD i true = G'.getD i true := by simp [List.getD, List.getElem?_set_ne (Ne.symm e)]
    rw [e2, h1]
    by_cases hlt : i < j
    · rw [if_pos hlt, if_pos (by omega)]
    · rw [if_neg hlt, if_neg (by omega)]
theorem marked_all {T : List Nat} {h : Nat} {G G' : List Bool} (hl : T.length = G.length) (hl' : G'.length = G.length) (hm : Marked T h G T.length G') : G' = mark T h G := by
  apply List.ext_getElem?
  intro i
  by_cases hi : i < T.length
  · have hx : T[i]? = some T[i] := by simp [hi]
    have h1 := hm i _ hx
    rw [if_pos hi, ← mark_at h hl hx] at h1
    have l1 : i < G'.length := by omega
    have l2 : i < (mark T h G).length := by rw [mark_len h hl]; omega
    rw [List.getD_eq_getElem?_getD, List.getElem?_eq_getElem l1, List.getD_eq_getElem?_getD, List.getElem?_eq_getElem l2] at h1
    rw [List.getElem?_eq_getElem l1, List.getElem?_eq_getElem l2]
    simpa using h1
  · rw [List.getElem?_eq_none (by omega), List.getElem?_eq_none (by rw [mark_len h hl]; omega)]
theorem inv_lt {N : Nat} {X : A} {T : List Nat} {G : List Bool} (hi : Inv X T G) (ho : Ok N X) (hN : N < 4294967295) {h : Nat} (hh : h ∈ T) : 1 ≤ h ∧ h < 18446744073709551616 := by
  obtain ⟨k, q, e1, e2, e3⟩ := hi.code h hh
  have := ho.len
  have := ho.r2
  have := ho.bd q
  omega
theorem ofv_lt {N : Nat} {X : A} {T : List Nat} {G : List Bool} (hi : Inv X T G) (ho : Ok N X) (hN : N < 4294967295) (n : Int) : ofv T n < 18446744073709551616 := by
  unfold ofv
  split
  · omega
  · by_cases h : n.toNat < T.length
    · have hm : T.getD n.toNat 0 ∈ T := by simp [List.getD, h]
      exact (inv_lt hi ho hN hm).2
    · have : T.getD n.toNat 0 = 0 := by simp [List.getD, List.getElem?_eq_none (by omega : T.length ≤ n.toNat)]
      omega
set_option maxHeartbeats 400000 in
theorem played_short (v : Value) (l : List Op) (w : World) (h : Ops w v l) (h60 : l.length ≤ 60) :
    Calls Try.prog 13 #[v] w fun e w' => ∃ p tv gv X T G N, e = .returned (.tuple #[.pointer (some ⟨p, 0, none⟩), tv, gv]) ∧
      Own [Row 30 1 tv T.length (us T), Row 4 1 gv G.length (bs G), Arena p X, Old w] w' ∧ Ok N X ∧ N ≤ 60 ∧ T.length ≤ 60 ∧ Inv X T G := by
  obtain ⟨a, cap, rfl, hc1, hc2, hcells⟩ := h
  unfold maxLen at hc2
  obtain ⟨n, hn⟩ : ∃ n, n = l.length := ⟨_, rfl⟩
  rw [← hn] at hc1 hcells h60 ⊢
  have hn60 := h60
  clear h60
  have HC := Lib.hid hcells
  have HN := Lib.hid hn
  have H0 := Lib.hid (Own.start w)
  clear hcells hn
  go_enter Try.func13, Try.ntmps13
  go_wp2_with (go_at_call 20; refine (own_new 10 (by omega) (by omega) H0.out).mono ?_; rintro e w1 ⟨p, rfl, h1, _⟩; have H := Lib.hid h1; clear h1)
  go_loopw [7, 8, 26] (fun tv gv i wr => ∃ (k N : Nat) (X : A) (T : List Nat) (G : List Bool), i = .int .i64 k ∧ k ≤ n ∧ Own [Row 30 1 tv T.length (us T), Row 4 1 gv G.length (bs G), Arena p X, Old w] wr ∧ Ok N X ∧ N ≤ k ∧ T.length ≤ k ∧ Inv X T G) (fun _ _ i _ => n - (intOf i).toNat)
  case atStart => exact ⟨0, 0, fresh 10, [], [], rfl, by omega, (H.out.nilRow _ _).nilRow _ _, ok_fresh 10 (by omega) (by omega), by omega, by simp, inv_fresh 10⟩
  case round =>
    obtain ⟨k, N, X, T, G, rfl, hk, HO, hok, hNk, hTk, hinv⟩ := hrel
    by_cases hlt : k < n
    · have hpos : 0 < n := by omega
      obtain ⟨b, off, rfl, hb, hcs⟩ := HC.out (by have := HN.out; omega)
      obtain ⟨o, ho⟩ : ∃ o, l[k]? = some o := ⟨l[k]'(by have := HN.out; omega), by simp⟩
      obtain ⟨hoo, c0, c1, c2⟩ := hcs k o ho
      have hx : Ext w wr := HO.ext (by simp)
      replace c0 := hx.cell c0
      replace c1 := hx.cell c1
      replace c2 := hx.cell c2
      have HOO := Lib.hid hoo
      have HX := Lib.hid hx
      have H1 := Lib.hid HO.third
      have HI := Lib.hid hinv
      have HK := Lib.hid hok
      clear hcs hoo hx HO hinv hok
      by_cases hk1 : o.kind = 1
      · rw [hk1] at c0
        by_cases hu : X.used = X.room
        · have e1 : tkE X = 4 := by unfold tkE; rw [if_pos hu]
          have HE := Lib.hid e1
          have eX : tkA X = X := by unfold tkA; rw [if_pos hu]
          clear e1 hu
          go_wp2_with (go_at_call 19; refine (own_take (H1.out.step ((Ext.refl _).alloc _)) HK.out (by omega)).mono ?_; rintro e w2 ⟨rfl, h2⟩; rw [HE.out])
          rw [eX] at h2
          exact ⟨⟨k + 1, N + 1, X, T, G, rfl, by omega, h2.back3, HK.out.mono (by omega), by omega, by omega, HI.out⟩, by simp only [intOf]; omega⟩
        · have e1 : tkE X = 0 := by unfold tkE; rw [if_neg hu]
          have eX : tkA X = tk X := by unfold tkA; rw [if_neg hu]
          have eH : tkH X = hdl (tk X) (tq X) := by unfold tkH; rw [if_neg hu]
          have HE := Lib.hid e1
          have HE2 := Lib.hid eX
          have HE3 := Lib.hid eH
          have hlt2 : X.used < X.room := by have := HK.out.used_le; omega
          have hgl : G.length = T.length := HI.out.len.symm
          have HG := Lib.hid hgl
          clear e1 hu eX eH hgl
          go_wp2_with (first
            | (go_at_call 19; refine (own_take (H1.out.step ((Ext.refl _).alloc _)) HK.out (by omega)).mono ?_; rintro e w2 ⟨rfl, h2⟩; rw [HE.out, HE3.out]; rw [HE2.out] at h2; have H2 := Lib.hid h2; clear h2)
            | (at_builtin; refine app_own rfl _ _ _ _ _ 1 8 rfl Try.underlying24 info30 rfl (by omega) (by omega) _ T.length (us T) [.int .u64 (hdl (tk X) (tq X) : Nat)] rfl _ rfl rfl rfl (by simp [Value.oneCell']) (by exact H2.out.swap.row) (by omega) ?_; intro v1 w3 hown hgrow hmv; have H3 := Lib.hid (H2.out.swap.rowApp hown hgrow hmv); clear hown hgrow hmv)
            | (at_builtin; refine app_own rfl _ _ _ _ _ 1 1 rfl Try.underlying25 info4 rfl (by omega) (by omega) _ G.length (bs G) [.bool false] rfl _ rfl rfl rfl (by simp [Value.oneCell']) (by exact H3.out.third.row) (by have := HG.out; omega) ?_; intro v2 w4 hown hgrow hmv; have H4 := Lib.hid (H3.out.third.rowApp hown hgrow hmv); clear hown hgrow hmv))
          have hT2 : (us T ++ [Value.int .u64 ((hdl (tk X) (tq X) : Nat) : Int)]) = us (T ++ [hdl (tk X) (tq X)]) := by simp [us]
          have hG2 : (bs G ++ [Value.bool false]) = bs (G ++ [false]) := by simp [bs]
          have h4 := H4.out
          rw [hT2, hG2] at h4
          exact ⟨⟨k + 1, N + 1, tk X, T ++ [hdl (tk X) (tq X)], G ++ [false], rfl, by omega, by rw [List.length_append, List.length_append]; exact h4.swap, (take_spec HK.out hlt2).2, by omega, by rw [List.length_append]; simp; omega, inv_take HK.out HI.out hlt2⟩, by simp only [intOf]; omega⟩
      · have hk1' : ((o.kind : Int) == 1) = false := by simp; omega
        obtain ⟨Hh, hHv⟩ : ∃ Hh : Nat, Hh = if o.kind = 2 then ofv T o.n else o.h := ⟨_, rfl⟩
        have hHb : Hh < 18446744073709551616 := by
          rw [hHv]
          split
          · exact ofv_lt HI.out HK.out (by omega) _
          · exact HOO.out.2.2.2
        have HHB := Lib.hid hHb
        clear hHb
        by_cases hpb : pb X Hh = true
        · have e1 : gvE X Hh = 0 := by unfold gvE; rw [if_pos hpb]
          have HE := Lib.hid e1
          have HPB := Lib.hid hpb
          clear e1 hpb
          have hTpos : 0 < T.length := List.length_pos_of_mem (inv_give HK.out HI.out HPB.out).2
          obtain ⟨tg, tcap, hu7, htc, htm⟩ := own_cap H1.out.swap.row hTpos
          obtain ⟨gg, gcap, hu8, hgc, hgm⟩ := own_cap H1.out.third.row (by have := HI.out.len; omega)
          subst hu7 hu8
          have HG := Lib.hid HI.out.len
          by_cases hk2 : o.kind = 2
          · rw [if_pos hk2] at hHv
            have HHV := Lib.hid hHv.symm
            rw [hk2] at c0
            clear hHv hk1'
            go_wp2_with (first
              | (go_at_call 22; refine (of_any _ T _ _ ((H1.out.step ((Ext.refl _).alloc _)).swap.row) (by omega)).mono ?_; rintro e w2 ⟨rfl, rfl⟩; rw [HHV.out])
              | (go_at_call 15; refine (own_give (H1.out.step ((Ext.refl _).alloc _)) HK.out (by omega) Hh HHB.out).mono ?_; rintro e w2 ⟨rfl, h2⟩; rw [HE.out]; have H2 := Lib.hid h2; clear h2))
            go_loopw [62] (fun i wr2 => ∃ (j : Nat) (G' : List Bool), i = .int .i64 j ∧ j ≤ T.length ∧ G'.length = G.length ∧ Marked T Hh G j G' ∧ Own [Row 4 1 (.slice (some ⟨gg, 0, none⟩) G.length gcap) G.length (bs G'), Row 30 1 (.slice (some ⟨tg, 0, none⟩) T.length tcap) T.length (us T), Arena p (gvA X Hh), Old w] wr2) (fun i _ => T.length - (intOf i).toNat)
            case atStart => exact ⟨0, G, rfl, by omega, rfl, marked_zero T Hh G, H2.out.third.tail OwnIn.swap⟩
            case round =>
              obtain ⟨j, G', rfl, hj, hlg, hmk, hO⟩ := hrel
              by_cases hjt : j < T.length
              · have hjg : j < G.length := by have := HG.out; omega
                obtain ⟨ct, ft⟩ := row_cell hO.swap.row (us_at T j hjt)
                obtain ⟨cg, fg⟩ := row_cell hO.row (bs_at G' j (by have := HG.out; omega))
                obtain ⟨x, hx⟩ : ∃ x, x = T.getD j 0 := ⟨_, rfl⟩
                obtain ⟨b0, hb0⟩ : ∃ b0, b0 = G'.getD j true := ⟨_, rfl⟩
                rw [← hx] at ct
                rw [← hb0] at cg
                have K := Lib.hid hO
                have KM := Lib.hid hmk
                have KX := Lib.hid hx
                have KB := Lib.hid hb0
                have KL := Lib.hid hlg
                clear hO hmk hx hb0 hlg
                cases b0 with
                | true =>
                  go_wp2
                  exact ⟨⟨j + 1, G'.set j (true || x == Hh), rfl, by omega, by rw [List.length_set]; exact KL.out, marked_step KM.out hjt HG.out KL.out KB.out KX.out, by
                    have := K.out.rowSet (o := j) (by have := HG.out; omega) (.bool (true || x == Hh))
                    rw [bs_set] at this
                    exact this⟩, by simp only [intOf]; omega⟩
                | false =>
                  by_cases hxh : x = Hh
                  · have hxe : ((x : Int) == (Hh : Int)) = true := by simp [hxh]
                    go_wp2
                    exact ⟨⟨j + 1, G'.set j (false || x == Hh), rfl, by omega, by rw [List.length_set]; exact KL.out, marked_step KM.out hjt HG.out KL.out KB.out KX.out, by
                      have := K.out.rowSet (o := j) (by have := HG.out; omega) (.bool (false || x == Hh))
                      rw [bs_set] at this
                      rw [show (false || x == Hh) = true by simp [hxh]] at this ⊢
                      exact this⟩, by simp only [intOf]; omega⟩
                  · have hxe : ((x : Int) == (Hh : Int)) = false := by simp; omega
                    go_wp2
                    exact ⟨⟨j + 1, G'.set j (false || x == Hh), rfl, by omega, by rw [List.length_set]; exact KL.out, marked_step KM.out hjt HG.out KL.out KB.out KX.out, by
                      have := K.out.rowSet (o := j) (by have := HG.out; omega) (.bool (false || x == Hh))
                      rw [bs_set] at this
                      rw [show (false || x == Hh) = false by simp [hxh]] at this ⊢
                      exact this⟩, by simp only [intOf]; omega⟩
              · obtain rfl : j = T.length := by omega
                have eG := marked_all HI.out.len hlg hmk
                rw [eG] at hO
                have K := Lib.hid hO
                obtain ⟨hinv2, _⟩ := inv_give HK.out HI.out HPB.out
                have KI := Lib.hid hinv2
                clear hO eG hmk hlg hinv2
                go_wp2
                exact ⟨⟨k + 1, N + 1, gvA X Hh, T, mark T Hh G, rfl, by omega, by rw [mark_len _ HI.out.len]; exact K.out.swap, gvA_ok HK.out Hh, by omega, by omega, KI.out⟩, by simp only [intOf]; omega⟩
          · rw [if_neg hk2] at hHv
            have hk2' : ((o.kind : Int) == 2) = false := by simp; omega
            subst hHv
            go_wp2_with (first
              | (go_at_call 15; refine (own_give (H1.out.step ((Ext.refl _).alloc _)) HK.out (by omega) o.h HHB.out).mono ?_; rintro e w2 ⟨rfl, h2⟩; rw [HE.out]; have H2 := Lib.hid h2; clear h2))
            go_loopw [62] (fun i wr2 => ∃ (j : Nat) (G' : List Bool), i = .int .i64 j ∧ j ≤ T.length ∧ G'.length = G.length ∧ Marked T o.h G j G' ∧ Own [Row 4 1 (.slice (some ⟨gg, 0, none⟩) G.length gcap) G.length (bs G'), Row 30 1 (.slice (some ⟨tg, 0, none⟩) T.length tcap) T.length (us T), Arena p (gvA X o.h), Old w] wr2) (fun i _ => T.length - (intOf i).toNat)
            case atStart => exact ⟨0, G, rfl, by omega, rfl, marked_zero T o.h G, H2.out.third.tail OwnIn.swap⟩
            case round =>
              obtain ⟨j, G', rfl, hj, hlg, hmk, hO⟩ := hrel
              by_cases hjt : j < T.length
              · have hjg : j < G.length := by have := HG.out; omega
                obtain ⟨ct, ft⟩ := row_cell hO.swap.row (us_at T j hjt)
                obtain ⟨cg, fg⟩ := row_cell hO.row (bs_at G' j (by have := HG.out; omega))
                obtain ⟨x, hx⟩ : ∃ x, x = T.getD j 0 := ⟨_, rfl⟩
                obtain ⟨b0, hb0⟩ : ∃ b0, b0 = G'.getD j true := ⟨_, rfl⟩
                rw [← hx] at ct
                rw [← hb0] at cg
                have K := Lib.hid hO
                have KM := Lib.hid hmk
                have KX := Lib.hid hx
                have KB := Lib.hid hb0
                have KL := Lib.hid hlg
                clear hO hmk hx hb0 hlg
                cases b0 with
                | true =>
                  go_wp2
                  exact ⟨⟨j + 1, G'.set j (true || x == o.h), rfl, by omega, by rw [List.length_set]; exact KL.out, marked_step KM.out hjt HG.out KL.out KB.out KX.out, by
                    have := K.out.rowSet (o := j) (by have := HG.out; omega) (.bool (true || x == o.h))
                    rw [bs_set] at this
                    exact this⟩, by simp only [intOf]; omega⟩
                | false =>
                  by_cases hxh : x = o.h
                  · have hxe : ((x : Int) == (o.h : Int)) = true := by simp [hxh]
                    go_wp2
                    exact ⟨⟨j + 1, G'.set j (false || x == o.h), rfl, by omega, by rw [List.length_set]; exact KL.out, marked_step KM.out hjt HG.out KL.out KB.out KX.out, by
                      have := K.out.rowSet (o := j) (by have := HG.out; omega) (.bool (false || x == o.h))
                      rw [bs_set] at this
                      rw [show (false || x == o.h) = true by simp [hxh]] at this ⊢
                      exact this⟩, by simp only [intOf]; omega⟩
                  · have hxe : ((x : Int) == (o.h : Int)) = false := by simp; omega
                    go_wp2
                    exact ⟨⟨j + 1, G'.set j (false || x == o.h), rfl, by omega, by rw [List.length_set]; exact KL.out, marked_step KM.out hjt HG.out KL.out KB.out KX.out, by
                      have := K.out.rowSet (o := j) (by have := HG.out; omega) (.bool (false || x == o.h))
                      rw [bs_set] at this
                      rw [show (false || x == o.h) = false by simp [hxh]] at this ⊢
                      exact this⟩, by simp only [intOf]; omega⟩
              · obtain rfl : j = T.length := by omega
                have eG := marked_all HI.out.len hlg hmk
                rw [eG] at hO
                have K := Lib.hid hO
                obtain ⟨hinv2, _⟩ := inv_give HK.out HI.out HPB.out
                have KI := Lib.hid hinv2
                clear hO eG hmk hlg hinv2
                go_wp2
                exact ⟨⟨k + 1, N + 1, gvA X o.h, T, mark T o.h G, rfl, by omega, by rw [mark_len _ HI.out.len]; exact K.out.swap, gvA_ok HK.out o.h, by omega, by omega, KI.out⟩, by simp only [intOf]; omega⟩
        · have e1 : gvE X Hh = 40 := by unfold gvE; rw [if_neg hpb]
          have eX : gvA X Hh = X := by unfold gvA; rw [if_neg hpb]
          have HE := Lib.hid e1
          have HE2 := Lib.hid eX
          clear e1 eX hpb
          by_cases hk2 : o.kind = 2
          · rw [if_pos hk2] at hHv
            have HHV := Lib.hid hHv.symm
            rw [hk2] at c0
            clear hHv hk1'
            go_wp2_with (first
              | (go_at_call 22; refine (of_any _ T _ _ ((H1.out.step ((Ext.refl _).alloc _)).swap.row) (by omega)).mono ?_; rintro e w2 ⟨rfl, rfl⟩; rw [HHV.out])
              | (go_at_call 15; refine (own_give (H1.out.step ((Ext.refl _).alloc _)) HK.out (by omega) Hh HHB.out).mono ?_; rintro e w2 ⟨rfl, h2⟩; rw [HE.out]; rw [HE2.out] at h2; have H2 := Lib.hid h2; clear h2))
            exact ⟨⟨k + 1, N + 1, X, T, G, rfl, by omega, H2.out.back3, HK.out.mono (by omega), by omega, by omega, HI.out⟩, by simp only [intOf]; omega⟩
          · rw [if_neg hk2] at hHv
            have hk2' : ((o.kind : Int) == 2) = false := by simp; omega
            subst hHv
            go_wp2_with (first
              | (go_at_call 15; refine (own_give (H1.out.step ((Ext.refl _).alloc _)) HK.out (by omega) o.h HHB.out).mono ?_; rintro e w2 ⟨rfl, h2⟩; rw [HE.out]; rw [HE2.out] at h2; have H2 := Lib.hid h2; clear h2))
            exact ⟨⟨k + 1, N + 1, X, T, G, rfl, by omega, H2.out.back3, HK.out.mono (by omega), by omega, by omega, HI.out⟩, by simp only [intOf]; omega⟩
    · obtain rfl : k = n := by omega
      have HO := Lib.hid HO
      have HI := Lib.hid hinv
      have HK := Lib.hid hok
      clear hinv hok
      go_wp2
      refine bodyPost_ret (v := .tuple #[.pointer (some ⟨p, 0, none⟩), u7, u8]) (by simp [results, Try.results13, go_sem]) rfl ⟨p, u7, u8, X, T, G, N, rfl, HO.out, HK.out, by omega, by omega, HI.out⟩
set_option maxHeartbeats 400000 in
theorem played_long (v : Value) (l : List Op) (w : World) (h : Ops w v l) (h60 : ¬ l.length ≤ 60) :
    Calls Try.prog 13 #[v] w fun e w' => ∃ p tv gv X T G N, e = .returned (.tuple #[.pointer (some ⟨p, 0, none⟩), tv, gv]) ∧
      Own [Row 30 1 tv T.length (us T), Row 4 1 gv G.length (bs G), Arena p X, Old w] w' ∧ Ok N X ∧ N ≤ 60 ∧ T.length ≤ 60 ∧ Inv X T G := by
  obtain ⟨a, cap, rfl, hc1, hc2, hcells⟩ := h
  unfold maxLen at hc2
  obtain ⟨n, hn⟩ : ∃ n, n = l.length := ⟨_, rfl⟩
  rw [← hn] at hc1 hcells h60 ⊢
  have hn60 := h60
  clear h60
  have HC := Lib.hid hcells
  have HN := Lib.hid hn
  have H0 := Lib.hid (Own.start w)
  clear hcells hn
  go_enter Try.func13, Try.ntmps13
  go_wp2_with (go_at_call 20; refine (own_new 10 (by omega) (by omega) H0.out).mono ?_; rintro e w1 ⟨p, rfl, h1, _⟩; have H := Lib.hid h1; clear h1)
  go_loopw [7, 8, 26] (fun tv gv i wr => ∃ (k N : Nat) (X : A) (T : List Nat) (G : List Bool), i = .int .i64 k ∧ k ≤ 60 ∧ Own [Row 30 1 tv T.length (us T), Row 4 1 gv G.length (bs G), Arena p X, Old w] wr ∧ Ok N X ∧ N ≤ k ∧ T.length ≤ k ∧ Inv X T G) (fun _ _ i _ => 60 - (intOf i).toNat)
  case atStart => exact ⟨0, 0, fresh 10, [], [], rfl, by omega, (H.out.nilRow _ _).nilRow _ _, ok_fresh 10 (by omega) (by omega), by omega, by simp, inv_fresh 10⟩
  case round =>
    obtain ⟨k, N, X, T, G, rfl, hk, HO, hok, hNk, hTk, hinv⟩ := hrel
    by_cases hlt : k < 60
    · have hpos : 0 < n := by omega
      obtain ⟨b, off, rfl, hb, hcs⟩ := HC.out (by have := HN.out; omega)
      obtain ⟨o, ho⟩ : ∃ o, l[k]? = some o := ⟨l[k]'(by have := HN.out; omega), by simp⟩
      obtain ⟨hoo, c0, c1, c2⟩ := hcs k o ho
      have hx : Ext w wr := HO.ext (by simp)
      replace c0 := hx.cell c0
      replace c1 := hx.cell c1
      replace c2 := hx.cell c2
      have HOO := Lib.hid hoo
      have HX := Lib.hid hx
      have H1 := Lib.hid HO.third
      have HI := Lib.hid hinv
      have HK := Lib.hid hok
      clear hcs hoo hx HO hinv hok
      by_cases hk1 : o.kind = 1
      · rw [hk1] at c0
        by_cases hu : X.used = X.room
        · have e1 : tkE X = 4 := by unfold tkE; rw [if_pos hu]
          have HE := Lib.hid e1
          have eX : tkA X = X := by unfold tkA; rw [if_pos hu]
          clear e1 hu
          go_wp2_with (go_at_call 19; refine (own_take (H1.out.step ((Ext.refl _).alloc _)) HK.out (by omega)).mono ?_; rintro e w2 ⟨rfl, h2⟩; rw [HE.out])
          rw [eX] at h2
          exact ⟨⟨k + 1, N + 1, X, T, G, rfl, by omega, h2.back3, HK.out.mono (by omega), by omega, by omega, HI.out⟩, by simp only [intOf]; omega⟩
        · have e1 : tkE X = 0 := by unfold tkE; rw [if_neg hu]
          have eX : tkA X = tk X := by unfold tkA; rw [if_neg hu]
          have eH : tkH X = hdl (tk X) (tq X) := by unfold tkH; rw [if_neg hu]
          have HE := Lib.hid e1
          have HE2 := Lib.hid eX
          have HE3 := Lib.hid eH
          have hlt2 : X.used < X.room := by have := HK.out.used_le; omega
          have hgl : G.length = T.length := HI.out.len.symm
          have HG := Lib.hid hgl
          clear e1 hu eX eH hgl
          go_wp2_with (first
            | (go_at_call 19; refine (own_take (H1.out.step ((Ext.refl _).alloc _)) HK.out (by omega)).mono ?_; rintro e w2 ⟨rfl, h2⟩; rw [HE.out, HE3.out]; rw [HE2.out] at h2; have H2 := Lib.hid h2; clear h2)
            | (at_builtin; refine app_own rfl _ _ _ _ _ 1 8 rfl Try.underlying24 info30 rfl (by omega) (by omega) _ T.length (us T) [.int .u64 (hdl (tk X) (tq X) : Nat)] rfl _ rfl rfl rfl (by simp [Value.oneCell']) (by exact H2.out.swap.row) (by omega) ?_; intro v1 w3 hown hgrow hmv; have H3 := Lib.hid (H2.out.swap.rowApp hown hgrow hmv); clear hown hgrow hmv)
            | (at_builtin; refine app_own rfl _ _ _ _ _ 1 1 rfl Try.underlying25 info4 rfl (by omega) (by omega) _ G.length (bs G) [.bool false] rfl _ rfl rfl rfl (by simp [Value.oneCell']) (by exact H3.out.third.row) (by have := HG.out; omega) ?_; intro v2 w4 hown hgrow hmv; have H4 := Lib.hid (H3.out.third.rowApp hown hgrow hmv); clear hown hgrow hmv))
          have hT2 : (us T ++ [Value.int .u64 ((hdl (tk X) (tq X) : Nat) : Int)]) = us (T ++ [hdl (tk X) (tq X)]) := by simp [us]
          have hG2 : (bs G ++ [Value.bool false]) = bs (G ++ [false]) := by simp [bs]
          have h4 := H4.out
          rw [hT2, hG2] at h4
          exact ⟨⟨k + 1, N + 1, tk X, T ++ [hdl (tk X) (tq X)], G ++ [false], rfl, by omega, by rw [List.length_append, List.length_append]; exact h4.swap, (take_spec HK.out hlt2).2, by omega, by rw [List.length_append]; simp; omega, inv_take HK.out HI.out hlt2⟩, by simp only [intOf]; omega⟩
      · have hk1' : ((o.kind : Int) == 1) = false := by simp; omega
        obtain ⟨Hh, hHv⟩ : ∃ Hh : Nat, Hh = if o.kind = 2 then ofv T o.n else o.h := ⟨_, rfl⟩
        have hHb : Hh < 18446744073709551616 := by
          rw [hHv]
          split
          · exact ofv_lt HI.out HK.out (by omega) _
          · exact HOO.out.2.2.2
        have HHB := Lib.hid hHb
        clear hHb
        by_cases hpb : pb X Hh = true
        · have e1 : gvE X Hh = 0 := by unfold gvE; rw [if_pos hpb]
          have HE := Lib.hid e1
          have HPB := Lib.hid hpb
          clear e1 hpb
          have hTpos : 0 < T.length := List.length_pos_of_mem (inv_give HK.out HI.out HPB.out).2
          obtain ⟨tg, tcap, hu7, htc, htm⟩ := own_cap H1.out.swap.row hTpos
          obtain ⟨gg, gcap, hu8, hgc, hgm⟩ := own_cap H1.out.third.row (by have := HI.out.len; omega)
          subst hu7 hu8
          have HG := Lib.hid HI.out.len
          by_cases hk2 : o.kind = 2
          · rw [if_pos hk2] at hHv
            have HHV := Lib.hid hHv.symm
            rw [hk2] at c0
            clear hHv hk1'
            go_wp2_with (first
              | (go_at_call 22; refine (of_any _ T _ _ ((H1.out.step ((Ext.refl _).alloc _)).swap.row) (by omega)).mono ?_; rintro e w2 ⟨rfl, rfl⟩; rw [HHV.out])
              | (go_at_call 15; refine (own_give (H1.out.step ((Ext.refl _).alloc _)) HK.out (by omega) Hh HHB.out).mono ?_; rintro e w2 ⟨rfl, h2⟩; rw [HE.out]; have H2 := Lib.hid h2; clear h2))
            go_loopw [62] (fun i wr2 => ∃ (j : Nat) (G' : List Bool), i = .int .i64 j ∧ j ≤ T.length ∧ G'.length = G.length ∧ Marked T Hh G j G' ∧ Own [Row 4 1 (.slice (some ⟨gg, 0, none⟩) G.length gcap) G.length (bs G'), Row 30 1 (.slice (some ⟨tg, 0, none⟩) T.length tcap) T.length (us T), Arena p (gvA X Hh), Old w] wr2) (fun i _ => T.length - (intOf i).toNat)
            case atStart => exact ⟨0, G, rfl, by omega, rfl, marked_zero T Hh G, H2.out.third.tail OwnIn.swap⟩
            case round =>
              obtain ⟨j, G', rfl, hj, hlg, hmk, hO⟩ := hrel
              by_cases hjt : j < T.length
              · have hjg : j < G.length := by have := HG.out; omega
                obtain ⟨ct, ft⟩ := row_cell hO.swap.row (us_at T j hjt)
                obtain ⟨cg, fg⟩ := row_cell hO.row (bs_at G' j (by have := HG.out; omega))
                obtain ⟨x, hx⟩ : ∃ x, x = T.getD j 0 := ⟨_, rfl⟩
                obtain ⟨b0, hb0⟩ : ∃ b0, b0 = G'.getD j true := ⟨_, rfl⟩
                rw [← hx] at ct
                rw [← hb0] at cg
                have K := Lib.hid hO
                have KM := Lib.hid hmk
                have KX := Lib.hid hx
                have KB := Lib.hid hb0
                have KL := Lib.hid hlg
                clear hO hmk hx hb0 hlg
                cases b0 with
                | true =>
                  go_wp2
                  exact ⟨⟨j + 1, G'.set j (true || x == Hh), rfl, by omega, by rw [List.length_set]; exact KL.out, marked_step KM.out hjt HG.out KL.out KB.out KX.out, by
                    have := K.out.rowSet (o := j) (by have := HG.out; omega) (.bool (true || x == Hh))
                    rw [bs_set] at this
                    exact this⟩, by simp only [intOf]; omega⟩
                | false =>
                  by_cases hxh : x = Hh
                  · have hxe : ((x : Int) == (Hh : Int)) = true := by simp [hxh]
                    go_wp2
                    exact ⟨⟨j + 1, G'.set j (false || x == Hh), rfl, by omega, by rw [List.length_set]; exact KL.out, marked_step KM.out hjt HG.out KL.out KB.out KX.out, by
                      have := K.out.rowSet (o := j) (by have := HG.out; omega) (.bool (false || x == Hh))
                      rw [bs_set] at this
                      rw [show (false || x == Hh) = true by simp [hxh]] at this ⊢
                      exact this⟩, by simp only [intOf]; omega⟩
                  · have hxe : ((x : Int) == (Hh : Int)) = false := by simp; omega
                    go_wp2
                    exact ⟨⟨j + 1, G'.set j (false || x == Hh), rfl, by omega, by rw [List.length_set]; exact KL.out, marked_step KM.out hjt HG.out KL.out KB.out KX.out, by
                      have := K.out.rowSet (o := j) (by have := HG.out; omega) (.bool (false || x == Hh))
                      rw [bs_set] at this
                      rw [show (false || x == Hh) = false by simp [hxh]] at this ⊢
                      exact this⟩, by simp only [intOf]; omega⟩
              · obtain rfl : j = T.length := by omega
                have eG := marked_all HI.out.len hlg hmk
                rw [eG] at hO
                have K := Lib.hid hO
                obtain ⟨hinv2, _⟩ := inv_give HK.out HI.out HPB.out
                have KI := Lib.hid hinv2
                clear hO eG hmk hlg hinv2
                go_wp2
                exact ⟨⟨k + 1, N + 1, gvA X Hh, T, mark T Hh G, rfl, by omega, by rw [mark_len _ HI.out.len]; exact K.out.swap, gvA_ok HK.out Hh, by omega, by omega, KI.out⟩, by simp only [intOf]; omega⟩
          · rw [if_neg hk2] at hHv
            have hk2' : ((o.kind : Int) == 2) = false := by simp; omega
            subst hHv
            go_wp2_with (first
              | (go_at_call 15; refine (own_give (H1.out.step ((Ext.refl _).alloc _)) HK.out (by omega) o.h HHB.out).mono ?_; rintro e w2 ⟨rfl, h2⟩; rw [HE.out]; have H2 := Lib.hid h2; clear h2))
            go_loopw [62] (fun i wr2 => ∃ (j : Nat) (G' : List Bool), i = .int .i64 j ∧ j ≤ T.length ∧ G'.length = G.length ∧ Marked T o.h G j G' ∧ Own [Row 4 1 (.slice (some ⟨gg, 0, none⟩) G.length gcap) G.length (bs G'), Row 30 1 (.slice (some ⟨tg, 0, none⟩) T.length tcap) T.length (us T), Arena p (gvA X o.h), Old w] wr2) (fun i _ => T.length - (intOf i).toNat)
            case atStart => exact ⟨0, G, rfl, by omega, rfl, marked_zero T o.h G, H2.out.third.tail OwnIn.swap⟩
            case round =>
              obtain ⟨j, G', rfl, hj, hlg, hmk, hO⟩ := hrel
              by_cases hjt : j < T.length
              · have hjg : j < G.length := by have := HG.out; omega
                obtain ⟨ct, ft⟩ := row_cell hO.swap.row (us_at T j hjt)
                obtain ⟨cg, fg⟩ := row_cell hO.row (bs_at G' j (by have := HG.out; omega))
                obtain ⟨x, hx⟩ : ∃ x, x = T.getD j 0 := ⟨_, rfl⟩
                obtain ⟨b0, hb0⟩ : ∃ b0, b0 = G'.getD j true := ⟨_, rfl⟩
                rw [← hx] at ct
                rw [← hb0] at cg
                have K := Lib.hid hO
                have KM := Lib.hid hmk
                have KX := Lib.hid hx
                have KB := Lib.hid hb0
                have KL := Lib.hid hlg
                clear hO hmk hx hb0 hlg
                cases b0 with
                | true =>
                  go_wp2
                  exact ⟨⟨j + 1, G'.set j (true || x == o.h), rfl, by omega, by rw [List.length_set]; exact KL.out, marked_step KM.out hjt HG.out KL.out KB.out KX.out, by
                    have := K.out.rowSet (o := j) (by have := HG.out; omega) (.bool (true || x == o.h))
                    rw [bs_set] at this
                    exact this⟩, by simp only [intOf]; omega⟩
                | false =>
                  by_cases hxh : x = o.h
                  · have hxe : ((x : Int) == (o.h : Int)) = true := by simp [hxh]
                    go_wp2
                    exact ⟨⟨j + 1, G'.set j (false || x == o.h), rfl, by omega, by rw [List.length_set]; exact KL.out, marked_step KM.out hjt HG.out KL.out KB.out KX.out, by
                      have := K.out.rowSet (o := j) (by have := HG.out; omega) (.bool (false || x == o.h))
                      rw [bs_set] at this
                      rw [show (false || x == o.h) = true by simp [hxh]] at this ⊢
                      exact this⟩, by simp only [intOf]; omega⟩
                  · have hxe : ((x : Int) == (o.h : Int)) = false := by simp; omega
                    go_wp2
                    exact ⟨⟨j + 1, G'.set j (false || x == o.h), rfl, by omega, by rw [List.length_set]; exact KL.out, marked_step KM.out hjt HG.out KL.out KB.out KX.out, by
                      have := K.out.rowSet (o := j) (by have := HG.out; omega) (.bool (false || x == o.h))
                      rw [bs_set] at this
                      rw [show (false || x == o.h) = false by simp [hxh]] at this ⊢
                      exact this⟩, by simp only [intOf]; omega⟩
              · obtain rfl : j = T.length := by omega
                have eG := marked_all HI.out.len hlg hmk
                rw [eG] at hO
                have K := Lib.hid hO
                obtain ⟨hinv2, _⟩ := inv_give HK.out HI.out HPB.out
                have KI := Lib.hid hinv2
                clear hO eG hmk hlg hinv2
                go_wp2
                exact ⟨⟨k + 1, N + 1, gvA X o.h, T, mark T o.h G, rfl, by omega, by rw [mark_len _ HI.out.len]; exact K.out.swap, gvA_ok HK.out o.h, by omega, by omega, KI.out⟩, by simp only [intOf]; omega⟩
        · have e1 : gvE X Hh = 40 := by unfold gvE; rw [if_neg hpb]
          have eX : gvA X Hh = X := by unfold gvA; rw [if_neg hpb]
          have HE := Lib.hid e1
          have HE2 := Lib.hid eX
          clear e1 eX hpb
          by_cases hk2 : o.kind = 2
          · rw [if_pos hk2] at hHv
            have HHV := Lib.hid hHv.symm
            rw [hk2] at c0
            clear hHv hk1'
            go_wp2_with (first
              | (go_at_call 22; refine (of_any _ T _ _ ((H1.out.step ((Ext.refl _).alloc _)).swap.row) (by omega)).mono ?_; rintro e w2 ⟨rfl, rfl⟩; rw [HHV.out])
              | (go_at_call 15; refine (own_give (H1.out.step ((Ext.refl _).alloc _)) HK.out (by omega) Hh HHB.out).mono ?_; rintro e w2 ⟨rfl, h2⟩; rw [HE.out]; rw [HE2.out] at h2; have H2 := Lib.hid h2; clear h2))
            exact ⟨⟨k + 1, N + 1, X, T, G, rfl, by omega, H2.out.back3, HK.out.mono (by omega), by omega, by omega, HI.out⟩, by simp only [intOf]; omega⟩
          · rw [if_neg hk2] at hHv
            have hk2' : ((o.kind : Int) == 2) = false := by simp; omega
            subst hHv
            go_wp2_with (first
              | (go_at_call 15; refine (own_give (H1.out.step ((Ext.refl _).alloc _)) HK.out (by omega) o.h HHB.out).mono ?_; rintro e w2 ⟨rfl, h2⟩; rw [HE.out]; rw [HE2.out] at h2; have H2 := Lib.hid h2; clear h2))
            exact ⟨⟨k + 1, N + 1, X, T, G, rfl, by omega, H2.out.back3, HK.out.mono (by omega), by omega, by omega, HI.out⟩, by simp only [intOf]; omega⟩
    · obtain rfl : k = 60 := by omega
      have HO := Lib.hid HO
      have HI := Lib.hid hinv
      have HK := Lib.hid hok
      clear hinv hok
      go_wp2
      refine bodyPost_ret (v := .tuple #[.pointer (some ⟨p, 0, none⟩), u7, u8]) (by simp [results, Try.results13, go_sem]) rfl ⟨p, u7, u8, X, T, G, N, rfl, HO.out, HK.out, by omega, by omega, HI.out⟩
theorem played_any (v : Value) (l : List Op) (w : World) (h : Ops w v l) :
    Calls Try.prog 13 #[v] w fun e w' => ∃ p tv gv X T G N, e = .returned (.tuple #[.pointer (some ⟨p, 0, none⟩), tv, gv]) ∧
      Own [Row 30 1 tv T.length (us T), Row 4 1 gv G.length (bs G), Arena p X, Old w] w' ∧ Ok N X ∧ N ≤ 60 ∧ T.length ≤ 60 ∧ Inv X T G := by
  by_cases h60 : l.length ≤ 60
  · exact played_short v l w h h60
  · exact played_long v l w h h60
end Go.Proofs.Ytekdgghekdajbaa.Ar
