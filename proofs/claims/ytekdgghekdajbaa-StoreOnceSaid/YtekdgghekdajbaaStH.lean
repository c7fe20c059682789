/- DERIVED. Layer 10 (store): the law StoreOnce. -/
import Derived.Test.YtekdgghekdajbaaStG
import Derived.Deep.RegionHeld3
set_option linter.unusedVariables false
set_option linter.unusedSimpArgs false
set_option maxRecDepth 100000
namespace Go.Proofs.Ytekdgghekdajbaa.St
open Go.RowKit Go.Proofs.Ytekdgghekdajbaa Go.Proofs.Ytekdgghekdajbaa.Ar Go.WideShapes Go.ChangeShapes

theorem Sto.rowApp {p : Nat} {X : A} {H : List Hd} {b x : Int} {l : List HP} {W w1 : World} {e size n n' : Nat} {v v1 : Value} {xs xs' : List Value} (h : Sto p X H b x (Row e size v n xs :: l) W)
    (hr : w1.ownsRow 0 e size v1 n' xs') (hg : W.grownBy w1 v.ownBlock) (hm : Moved W v v1) : Sto p X H b x (Row e size v1 n' xs' :: l) w1 := by
  obtain ⟨pa, v', h⟩ := h
  exact ⟨pa, v', (h.fourth.rowApp hr hg hm).back4⟩
/-- the handles that were told, m of them -/
def hs (m : Nat) : List Value := us (List.range' 1 m)
theorem hs_succ (m : Nat) : hs m ++ [.int .u64 (((m + 1 : Nat) : Int))] = hs (m + 1) := by
  unfold hs
  rw [List.range'_concat]
  simp [us, Nat.add_comm]
theorem hs_at (m i : Nat) (h : i < m) : (hs m)[i]? = some (.int .u64 ((i : Int) + 1)) := by
  unfold hs us
  rw [List.getElem?_map, List.getElem?_range' h]
  simp
  omega
/-- behind k packets, m of them put -/
def GI (w0 : World) (p : Nat) (n : Nat) (tv i : Value) (wr : World) : Prop :=
  ∃ (k m : Nat) (H : List Hd) (B : Int), i = .int .i64 (k : Int) ∧ k ≤ n ∧ m ≤ k ∧ Sto p (Xm 20 m) H B ((m : Int) + 1) [Row 30 1 tv m (hs m), Old w0] wr ∧ H.length = m ∧ 0 ≤ B ∧ B ≤ (m : Int) * 65536 ∧ ∀ x ∈ H, 0 ≤ x.len ∧ x.len ≤ 65536
theorem xm_hb (r m q : Nat) : hb (Xm r m) ((q : Int)) = decide (q < m) := by
  unfold hb Xm
  by_cases h : q < m
  · simp [h, List.getD]
  · simp [h, List.getD]
theorem xm_pb (r m h : Nat) (hm : m < 4294967295) : pb (Xm r m) ((h : Nat) : Int) = decide (1 ≤ h ∧ h ≤ m) := by
  have e : ((h : Int) % 4294967296 - 1) = ((h % 4294967296 : Nat) : Int) - 1 := by omega
  unfold pb
  rw [e]
  rcases Nat.eq_zero_or_pos (h % 4294967296) with h0 | h0
  · rw [h0]
    have : hb (Xm r m) (((0 : Nat) : Int) - 1) = false := by unfold hb; simp
    rw [this]
    simp
    omega
  · obtain ⟨q, hq⟩ : ∃ q, h % 4294967296 = q + 1 := ⟨h % 4294967296 - 1, by omega⟩
    rw [hq]
    have : (((q + 1 : Nat) : Int) - 1) = (q : Int) := by omega
    rw [this]
    unfold hv
    rw [xm_hb]
    by_cases hm' : q < m
    · have eh := xm_hdl r m q hm'
      have et : ((q : Int)).toNat = q := rfl
      rw [et, eh]
      simp only [hm', decide_true, if_true, Bool.true_and]
      by_cases hh : h = q + 1
      · have : 1 ≤ h ∧ h ≤ m := by omega
        simp [this]
        omega
      · have : ¬ (1 ≤ h ∧ h ≤ m) := by omega
        simp [this]
        omega
    · have : ¬ (1 ≤ h ∧ h ≤ m) := by omega
      simp [hm', this]
theorem xm_pv (r m q : Nat) (hm : m < 4294967295) (h : q < m) : pb (Xm r m) ((q + 1 : Nat) : Int) = true ∧ pv (Xm r m) ((q + 1 : Nat) : Int) = (q : Nat) := by
  have h1 : pb (Xm r m) ((q + 1 : Nat) : Int) = true := by rw [xm_pb r m _ hm]; simp; omega
  refine ⟨h1, ?_⟩
  unfold pv
  rw [if_pos h1]
  omega
theorem xm_gone (r m q : Nat) (hm : m < 4294967295) (h : q < m) : pb (gv (Xm r m) q) ((q + 1 : Nat) : Int) = false := by
  unfold pb
  have : (((q + 1 : Nat) : Int) % 4294967296 - 1) = (q : Int) := by omega
  rw [this]
  have : hb (gv (Xm r m) q) (q : Int) = false := by
    unfold hb gv Xm
    simp [List.getD, h]
  rw [this]
  rfl
theorem get_x {p N : Nat} {X : A} {H : List Hd} {bys nx : Int} {l : List HP} {w : World} {B0 : Bool} (h : Sto p X H bys nx l w) (ho : Ok N X) (hN : N < 4294967294) (hh : Nat) (hH : hh < 18446744073709551616) (hb : pb X hh = B0) (hq : B0 = true → ∃ q : Nat, pv X hh = q ∧ q < H.length) :
    Calls Try.prog 31 #[.pointer (some ⟨p, 0, none⟩), .int .u64 hh] w fun e w' => ∃ x : Hd, e = .returned (.tuple #[.agg (h7 x), .bool B0]) ∧ Sto p X H bys nx l w' := by
  cases B0
  · refine (get_no h ho hN hh hH hb).mono ?_
    rintro e w' ⟨rfl, h'⟩
    exact ⟨zeroH, rfl, h'⟩
  · obtain ⟨q, h1, h2⟩ := hq rfl
    refine (get_yes h ho hN hh hH hb q h1 _ (List.getElem?_eq_getElem h2)).mono ?_
    rintro e w' ⟨rfl, h'⟩
    exact ⟨_, rfl, h'⟩
set_option maxHeartbeats 4000000 in
theorem once_of (v : Value) (which hq : Int) (x : Nat × (Nat → Pk)) (wf1 : (Lit.int .u8 which).wf = true) (wf2 : (Lit.int .u64 hq).wf = true) (w : World) (hl : Pks w v x) :
    Calls Try.prog 8 #[v, .int .u8 which, .int .u64 hq] w fun e w' => e = .returned (.bool true) ∧ Ext w w' := by
  obtain ⟨r0, r1⟩ := u8_bd wf1
  obtain ⟨g0, g1⟩ := u64_bd wf2
  obtain ⟨hn, rfl⟩ : ∃ hn : Nat, hq = hn := ⟨hq.toNat, by omega⟩
  obtain ⟨n, f⟩ := x
  obtain ⟨a, cap, rfl, q1, q2, q3⟩ := hl
  have H0 := Lib.hid (Own.start w)
  have Q3 := Lib.hid q3
  unfold maxLen at q2
  simp only at q1 q2
  clear wf1 wf2 q3
  by_cases n1 : n < 20
  · have nI : (n : Int) < 20 := by omega
    have mI : (n : Int) ≤ (cap : Int) := by omega
    go_enter Try.func8, Try.ntmps8
    go_wp2_with fail
    refine (snew_any 20 (by omega) (by omega) H0.out).mono ?_
    rintro e w1 ⟨p, rfl, h1⟩
    have H1 := Lib.hid h1
    clear h1 H0
    go_wp2_with fail
    go_loopw [9, 38] (fun tv i wr => GI w p n tv i wr) (fun _ i _ => n - (intOf i).toNat)
    case atStart =>
      obtain ⟨pa, v', h⟩ := H1.out
      exact ⟨0, 0, [], 0, rfl, Nat.zero_le _, Nat.le_refl _, ⟨pa, v', (Own.nilRow 30 1 h).back4⟩, rfl, by omega, by omega, by simp⟩
    case round =>
      clear H1
      obtain ⟨k, m, H, B, rfl, hk, hm, h, hH, hB1, hB2, hLen⟩ := hrel
      by_cases hlt : k < n
      · have hltI : (k : Int) < (n : Int) := by omega
        obtain ⟨b, off, rfl, hb, hcell⟩ := Q3.out (by omega)
        have hx : Ext w wr := h.own.ext (by simp)
        have d0 : wr.cell? ⟨b, off + k * 5, none⟩ = some (.int .u64 (f k).k) := hx.cell (hcell k 0 (by omega) (by omega))
        have d1 : wr.cell? ⟨b, off + k * 5 + 1, none⟩ = some (.int .u64 (f k).c) := hx.cell (hcell k 1 (by omega) (by omega))
        have d2 : wr.cell? ⟨b, off + k * 5 + 2, none⟩ = some (.int .i64 (f k).len) := hx.cell (hcell k 2 (by omega) (by omega))
        have d3 : wr.cell? ⟨b, off + k * 5 + 3, none⟩ = some (.int .u8 (f k).pr) := hx.cell (hcell k 3 (by omega) (by omega))
        have d4 : wr.cell? ⟨b, off + k * 5 + 4, none⟩ = some (.int .u64 (f k).at_) := hx.cell (hcell k 4 (by omega) (by omega))
        obtain ⟨⟨pk, pcc, pl, pp, pa⟩, hP⟩ : ∃ x, f k = x := ⟨_, rfl⟩
        rw [hP] at d0 d1 d2 d3 d4
        simp only at d0 d1 d2 d3 d4
        have hA := h.step ((Ext.refl wr).alloc (.cells #[.int .u64 pk, .int .u64 pcc, .int .i64 pl, .int .u8 pp, .int .u64 pa] 69))
        by_cases hbad : bad pl pp = true
        · have HT := Lib.hid (put_arg hA pk pcc pl pp pa 3 hbad)
          have HQ := Lib.hid (show ∀ tv w3, Sto p (Xm 20 m) H B ((m : Int) + 1) [Row 30 1 tv m (hs m), Old w] w3 → GI w p n tv (.int .i64 ((k : Int) + 1)) w3 from fun tv w3 h3 => ⟨k + 1, m, H, B, by go_num, by omega, by omega, h3, hH, hB1, hB2, hLen⟩)
          have KI : (k : Int) ≤ 20 := by omega
          clear h hA hx hcell hb hP hH hB1 hB2 hLen hbad hm
          go_wp2_with fail
          refine (HT.out).mono ?_
          rintro e w3 ⟨rfl, h3⟩
          have HR := Lib.hid (HQ.out _ _ h3)
          clear h3 HT HQ
          go_wp2_with fail
          exact ⟨HR.out, by simp [intOf]; omega⟩
        · have hbad' : bad pl pp = false := by simpa using hbad
          have hpl : 1 ≤ pl ∧ pl ≤ 65536 := by
            unfold bad at hbad'
            simp only [Bool.or_eq_false_iff, decide_eq_false_iff_not] at hbad'
            omega
          have HT := Lib.hid (put_m (by omega) (by omega) hA hH (by omega) pk pcc pl pp pa 3 hbad' (by omega) (by omega))
          have HQ := Lib.hid (show ∀ tv w3, Sto p (Xm 20 (m + 1)) (H ++ [⟨pk, pcc, pl, pp, pa, (m : Int) + 1, 3⟩]) (B + pl) (((m + 1 : Nat) : Int) + 1) [Row 30 1 tv (m + 1) (hs (m + 1)), Old w] w3 → GI w p n tv (.int .i64 ((k : Int) + 1)) w3 from fun tv w3 h3 => ⟨k + 1, m + 1, _, _, by go_num, by omega, by omega, h3, by rw [List.length_append, hH]; rfl, by omega, by omega, by
            intro x hx
            rcases List.mem_append.1 hx with h | h
            · exact hLen x h
            · rw [List.mem_singleton] at h
              subst h
              simp only
              omega⟩)
          have KI : (k : Int) ≤ 20 := by omega
          have MI : m < 20 := by omega
          clear h hA hx hcell hb hP hH hB1 hB2 hLen hbad hbad' hm
          go_wp2_with fail
          refine (HT.out).mono ?_
          rintro e w3 ⟨rfl, h3⟩
          have H3 := Lib.hid h3
          clear h3 HT
          go_wp2_with (at_builtin; refine app_own rfl _ _ _ _ _ 1 8 rfl Try.underlying24 info30 rfl (by omega) (by omega) _ m (hs m) [.int .u64 (((m + 1 : Nat) : Int))] rfl _ rfl rfl rfl (by simp [Value.oneCell']) (by exact H3.out.own.row) (by omega) ?_; intro v1 w4 hown hgrow hmv; rw [hs_succ] at hown; have H4 := Lib.hid (HQ.out _ _ (H3.out.rowApp hown hgrow hmv)); clear hown hgrow hmv)
          exact ⟨H4.out, by simp [intOf]; omega⟩
      · have hk' : k = n := by omega
        subst hk'
        clear hlt hk
        have hm20 : m ≤ 20 := by omega
        clear hm
        obtain ⟨ta, tc, rfl⟩ := own_slice h.own.row
        have H5 := Lib.hid h
        have HH := Lib.hid (show H.length = m ∧ 0 ≤ B ∧ B ≤ (m : Int) * 65536 ∧ ∀ x ∈ H, 0 ≤ x.len ∧ x.len ≤ 65536 from ⟨hH, hB1, hB2, hLen⟩)
        have MI : (m : Int) ≤ 20 := by omega
        clear h hH hB1 hB2 hLen Q3
        go_wp2_with fail
        go_loopw [14, 57] (fun mv i wr => ∃ j : Nat, i = .int .i64 (j : Int) ∧ j ≤ m ∧ mv = .bool (decide (1 ≤ hn ∧ hn ≤ j)) ∧ Sto p (Xm 20 m) H B ((m : Int) + 1) [Row 30 1 (.slice ta m tc) m (hs m), Old w] wr) (fun _ i _ => m - (intOf i).toNat)
        case atStart => exact ⟨0, rfl, Nat.zero_le _, by congr 1; symm; simp; omega, H5.out⟩
        case round =>
          clear H5
          obtain ⟨j, rfl, hj, rfl, h⟩ := hrel
          by_cases hlt : j < m
          · have hltI : (j : Int) < (m : Int) := by omega
            obtain ⟨g, cap', ev, hcap, _⟩ := own_cap h.own.row (by omega)
            injection ev with ea _ ec
            subst ea ec
            obtain ⟨c0, cf⟩ := row_cell h.own.row (hs_at m j hlt)
            have HJ := Lib.hid (show ∀ mb, mb = decide (1 ≤ hn ∧ hn ≤ j + 1) → ∃ j' : Nat, Value.int .i64 ((j : Int) + 1) = .int .i64 (j' : Int) ∧ j' ≤ m ∧ Value.bool mb = .bool (decide (1 ≤ hn ∧ hn ≤ j')) ∧ Sto p (Xm 20 m) H B ((m : Int) + 1) [Row 30 1 (.slice (some ⟨g, 0, none⟩) m tc) m (hs m), Old w] wr from fun mb hmb => ⟨j + 1, by go_num, by omega, by rw [hmb], h⟩)
            by_cases hin : 1 ≤ hn ∧ hn ≤ j
            · have e1 : decide (1 ≤ hn ∧ hn ≤ j) = true := by simp [hin]
              have e2 : true = decide (1 ≤ hn ∧ hn ≤ j + 1) := by symm; simp; omega
              rw [e1]
              have HK := Lib.hid (HJ.out _ e2)
              clear h HJ e1 e2 hin
              go_wp2_with fail
              exact ⟨HK.out, by simp [intOf]; omega⟩
            · have e1 : decide (1 ≤ hn ∧ hn ≤ j) = false := by simp; omega
              have e2 : decide ((j : Int) + 1 = (hn : Int)) = decide (1 ≤ hn ∧ hn ≤ j + 1) := by rw [decide_eq_decide]; omega
              rw [e1]
              by_cases h3 : j + 1 = hn
              · have e3 : ((j : Int) + 1 == (hn : Int)) = true := by simp; omega
                have HK := Lib.hid (HJ.out true (by rw [← e2]; simp; omega))
                clear h HJ e1 e2 hin h3
                go_wp2_with fail
                exact ⟨HK.out, by simp [intOf]; omega⟩
              · have e3 : ((j : Int) + 1 == (hn : Int)) = false := by simp; omega
                have HK := Lib.hid (HJ.out false (by rw [← e2]; simp; omega))
                clear h HJ e1 e2 hin h3
                go_wp2_with fail
                exact ⟨HK.out, by simp [intOf]; omega⟩
          · obtain rfl : m = j := by omega
            have HG := Lib.hid (get_x (B0 := decide (1 ≤ hn ∧ hn ≤ m)) h (xm_ok (by omega) (by omega) m hm20) (by omega) hn (by omega) (xm_pb 20 m hn (by omega)) (by
              intro hb
              have hb' := of_decide_eq_true hb
              obtain ⟨q, rfl⟩ : ∃ q, hn = q + 1 := ⟨hn - 1, by omega⟩
              exact ⟨q, (xm_pv 20 m q (by omega) (by omega)).2, by rw [HH.out.1]; omega⟩))
            obtain ⟨B0, hB0⟩ : ∃ B0, B0 = decide (1 ≤ hn ∧ hn ≤ m) := ⟨_, rfl⟩
            rw [← hB0] at HG
            rw [← hB0]
            clear h hlt hj hB0
            go_wp2_with fail
            refine (HG.out).mono ?_
            rintro e w5 ⟨⟨x0, x1, x2, x3, x4, x5, x6⟩, rfl, h5⟩
            have H6 := Lib.hid (h5.step ((Ext.refl w5).alloc (.cells (h7 ⟨x0, x1, x2, x3, x4, x5, x6⟩) 72)))
            clear h5 HG
            by_cases hm0 : m = 0
            · subst hm0
              have HC := Lib.hid (count_any H6.out (xm_ok (by omega) (by omega) 0 (by omega)))
              have HA := Lib.hid (awake_any H6.out.own)
              go_wp2_with (first
                | (go_at_call 32; refine (HC.out).mono ?_; rintro e w' ⟨rfl, rfl⟩)
                | (go_at_call 33; refine (HA.out).mono ?_; rintro e w6 ⟨rfl, h6⟩))
              go_ret
              exact ⟨rfl, h6.ext (by simp)⟩
            · have hmI : ((m : Int) == 0) = false := by simp; omega
              obtain ⟨q, hqe⟩ : ∃ q : Nat, (q : Int) = which % (m : Int) := ⟨(which % (m : Int)).toNat, by have := Int.emod_nonneg which (show (m : Int) ≠ 0 by omega); omega⟩
              have hqm : q < m := by have := Int.emod_lt_of_pos which (show (0 : Int) < m by omega); omega
              have hqI : (q : Int) < (m : Int) := by omega
              have hqe' := hqe.symm
              obtain ⟨g, cap', ev, hcap, _⟩ := own_cap H6.out.own.row (by omega)
              injection ev with ea _ ec
              subst ea ec
              obtain ⟨c0, cf⟩ := row_cell H6.out.own.row (hs_at m q hqm)
              have hcast : ((q + 1 : Nat) : Int) = (q : Int) + 1 := by omega
              obtain ⟨x, hx⟩ : ∃ x, H[q]? = some x := ⟨_, List.getElem?_eq_getElem (by rw [HH.out.1]; exact hqm)⟩
              have hxb := HH.out.2.2.2 x (List.mem_of_getElem? hx)
              have hok := xm_ok (r := 20) (by omega) (by omega) m hm20
              have HF := free_yes H6.out hok (by omega) (q + 1) (by omega) (xm_pv 20 m q (by omega) hqm).1 q (xm_pv 20 m q (by omega) hqm).2 x hx HH.out.2.1 (by have := HH.out.2.2.1; omega) hxb.1 (by omega)
              rw [hcast] at HF
              obtain ⟨hok2, _, _, hlen2⟩ := give_spec hok q (by simp [Xm]; exact hqm) (by simp [Xm, List.getD, hqm])
              have HOK := Lib.hid hok2
              have HPG := xm_gone 20 m q (by omega) hqm
              have HPG' := Lib.hid HPG
              have HF' := Lib.hid HF
              have HHS := Lib.hid (hs_at m q hqm)
              have HU := Lib.hid (show (gv (Xm 20 m) q).used = m - 1 from rfl)
              clear hqe hm0 hcap hx hxb hok HF hok2 hlen2 HPG HH
              go_wp2_with fail
              rw [hqe']
              refine (HF'.out).mono ?_
              rintro e w7 ⟨rfl, hw7⟩
              have hw7a := hw7.step ((Ext.refl w7).alloc (.cells (h7 x) 72))
              obtain ⟨c1, cf1⟩ := row_cell hw7a.own.row HHS.out
              obtain ⟨c1', cf1'⟩ := row_cell hw7.own.row HHS.out
              have HN := free_no hw7a HOK.out (by omega) (q + 1) (by omega) HPG'.out
              rw [hcast] at HN
              have HN' := Lib.hid HN
              obtain ⟨y0, y1, y2, y3, y4, y5, y6⟩ := x
              clear hw7 hw7a HN c0 cf HF' H6
              go_wp2_with fail
              refine (HN'.out).mono ?_
              rintro e w8 ⟨rfl, h8⟩
              have h8a := h8.new #[.int .u64 0, .int .u64 0, .int .i64 0, .int .u8 0, .int .u64 0, .int .u64 0, .int .u64 0] 72
              obtain ⟨c2, cf2⟩ := row_cell h8.own.row HHS.out
              obtain ⟨c3, cf3⟩ := row_cell h8a.drop.own.row HHS.out
              have HG := get_no h8a HOK.out (by omega) (q + 1) (by omega) HPG'.out
              rw [hcast] at HG
              have HG' := Lib.hid HG
              clear h8 h8a HG HN' c1 cf1 c1' cf1'
              go_wp2_with fail
              refine (HG'.out).mono ?_
              rintro e w9 ⟨rfl, h9⟩
              have h9a := h9.new #[.int .u64 0, .int .u64 0, .int .i64 0, .int .u8 0, .int .u64 0, .int .u64 0, .int .u64 0] 72
              obtain ⟨c4, cf4⟩ := row_cell h9a.drop.drop.own.row HHS.out
              obtain ⟨e0, e1, e2, e3, e4, e5, e6, ef⟩ := Own.blk7 (b := w8.heap.size) (x0 := .int .u64 0) (x1 := .int .u64 0) (x2 := .int .i64 0) (x3 := .int .u8 0) (x4 := .int .u64 0) (x5 := .int .u64 0) (x6 := .int .u64 0) (t := 72) h9a.own (by simp)
              obtain ⟨z0, z1, z2, z3, z4, z5, z6, zf⟩ := Own.blk7 (b := w9.heap.size) (x0 := .int .u64 0) (x1 := .int .u64 0) (x2 := .int .i64 0) (x3 := .int .u8 0) (x4 := .int .u64 0) (x5 := .int .u64 0) (x6 := .int .u64 0) (t := 72) h9a.own (.head _)
              have hC := count_any h9a HOK.out
              rw [HU.out, show ((m - 1 : Nat) : Int) = (m : Int) - 1 by omega] at hC
              have HC := Lib.hid hC
              have HA := Lib.hid (awake_any h9a.own)
              clear h9 h9a hC HG' c2 cf2 c3 cf3 ef zf c4 cf4
              go_wp2_with (first
                | (go_at_call 32; refine (HC.out).mono ?_; rintro e w' ⟨rfl, rfl⟩)
                | (go_at_call 33; refine (HA.out).mono ?_; rintro e w10 ⟨rfl, h10⟩))
              go_ret
              exact ⟨rfl, h10.ext (by simp)⟩
  · by_cases n2 : 20 < n
    · have nI : (20 : Int) < (n : Int) := by omega
      have mI : (20 : Int) ≤ (cap : Int) := by omega
      go_enter Try.func8, Try.ntmps8
      go_wp2_with fail
      refine (snew_any 20 (by omega) (by omega) H0.out).mono ?_
      rintro e w1 ⟨p, rfl, h1⟩
      have H1 := Lib.hid h1
      clear h1 H0
      go_wp2_with fail
      go_loopw [9, 38] (fun tv i wr => GI w p 20 tv i wr) (fun _ i _ => 20 - (intOf i).toNat)
      case atStart =>
        obtain ⟨pa, v', h⟩ := H1.out
        exact ⟨0, 0, [], 0, rfl, Nat.zero_le _, Nat.le_refl _, ⟨pa, v', (Own.nilRow 30 1 h).back4⟩, rfl, by omega, by omega, by simp⟩
      case round =>
        clear H1
        obtain ⟨k, m, H, B, rfl, hk, hm, h, hH, hB1, hB2, hLen⟩ := hrel
        by_cases hlt : k < 20
        · have hltI : (k : Int) < (20 : Int) := by omega
          obtain ⟨b, off, rfl, hb, hcell⟩ := Q3.out (by omega)
          have hx : Ext w wr := h.own.ext (by simp)
          have d0 : wr.cell? ⟨b, off + k * 5, none⟩ = some (.int .u64 (f k).k) := hx.cell (hcell k 0 (by omega) (by omega))
          have d1 : wr.cell? ⟨b, off + k * 5 + 1, none⟩ = some (.int .u64 (f k).c) := hx.cell (hcell k 1 (by omega) (by omega))
          have d2 : wr.cell? ⟨b, off + k * 5 + 2, none⟩ = some (.int .i64 (f k).len) := hx.cell (hcell k 2 (by omega) (by omega))
          have d3 : wr.cell? ⟨b, off + k * 5 + 3, none⟩ = some (.int .u8 (f k).pr) := hx.cell (hcell k 3 (by omega) (by omega))
          have d4 : wr.cell? ⟨b, off + k * 5 + 4, none⟩ = some (.int .u64 (f k).at_) := hx.cell (hcell k 4 (by omega) (by omega))
          obtain ⟨⟨pk, pcc, pl, pp, pa⟩, hP⟩ : ∃ x, f k = x := ⟨_, rfl⟩
          rw [hP] at d0 d1 d2 d3 d4
          simp only at d0 d1 d2 d3 d4
          have hA := h.step ((Ext.refl wr).alloc (.cells #[.int .u64 pk, .int .u64 pcc, .int .i64 pl, .int .u8 pp, .int .u64 pa] 69))
          by_cases hbad : bad pl pp = true
          · have HT := Lib.hid (put_arg hA pk pcc pl pp pa 3 hbad)
            have HQ := Lib.hid (show ∀ tv w3, Sto p (Xm 20 m) H B ((m : Int) + 1) [Row 30 1 tv m (hs m), Old w] w3 → GI w p 20 tv (.int .i64 ((k : Int) + 1)) w3 from fun tv w3 h3 => ⟨k + 1, m, H, B, by go_num, by omega, by omega, h3, hH, hB1, hB2, hLen⟩)
            have KI : (k : Int) ≤ 20 := by omega
            clear h hA hx hcell hb hP hH hB1 hB2 hLen hbad hm
            go_wp2_with fail
            refine (HT.out).mono ?_
            rintro e w3 ⟨rfl, h3⟩
            have HR := Lib.hid (HQ.out _ _ h3)
            clear h3 HT HQ
            go_wp2_with fail
            exact ⟨HR.out, by simp [intOf]; omega⟩
          · have hbad' : bad pl pp = false := by simpa using hbad
            have hpl : 1 ≤ pl ∧ pl ≤ 65536 := by
              unfold bad at hbad'
              simp only [Bool.or_eq_false_iff, decide_eq_false_iff_not] at hbad'
              omega
            have HT := Lib.hid (put_m (by omega) (by omega) hA hH (by omega) pk pcc pl pp pa 3 hbad' (by omega) (by omega))
            have HQ := Lib.hid (show ∀ tv w3, Sto p (Xm 20 (m + 1)) (H ++ [⟨pk, pcc, pl, pp, pa, (m : Int) + 1, 3⟩]) (B + pl) (((m + 1 : Nat) : Int) + 1) [Row 30 1 tv (m + 1) (hs (m + 1)), Old w] w3 → GI w p 20 tv (.int .i64 ((k : Int) + 1)) w3 from fun tv w3 h3 => ⟨k + 1, m + 1, _, _, by go_num, by omega, by omega, h3, by rw [List.length_append, hH]; rfl, by omega, by omega, by
              intro x hx
              rcases List.mem_append.1 hx with h | h
              · exact hLen x h
              · rw [List.mem_singleton] at h
                subst h
                simp only
                omega⟩)
            have KI : (k : Int) ≤ 20 := by omega
            have MI : m < 20 := by omega
            clear h hA hx hcell hb hP hH hB1 hB2 hLen hbad hbad' hm
            go_wp2_with fail
            refine (HT.out).mono ?_
            rintro e w3 ⟨rfl, h3⟩
            have H3 := Lib.hid h3
            clear h3 HT
            go_wp2_with (at_builtin; refine app_own rfl _ _ _ _ _ 1 8 rfl Try.underlying24 info30 rfl (by omega) (by omega) _ m (hs m) [.int .u64 (((m + 1 : Nat) : Int))] rfl _ rfl rfl rfl (by simp [Value.oneCell']) (by exact H3.out.own.row) (by omega) ?_; intro v1 w4 hown hgrow hmv; rw [hs_succ] at hown; have H4 := Lib.hid (HQ.out _ _ (H3.out.rowApp hown hgrow hmv)); clear hown hgrow hmv)
            exact ⟨H4.out, by simp [intOf]; omega⟩
        · have hk' : k = 20 := by omega
          subst hk'
          clear hlt hk
          have hm20 : m ≤ 20 := by omega
          clear hm
          obtain ⟨ta, tc, rfl⟩ := own_slice h.own.row
          have H5 := Lib.hid h
          have HH := Lib.hid (show H.length = m ∧ 0 ≤ B ∧ B ≤ (m : Int) * 65536 ∧ ∀ x ∈ H, 0 ≤ x.len ∧ x.len ≤ 65536 from ⟨hH, hB1, hB2, hLen⟩)
          have MI : (m : Int) ≤ 20 := by omega
          clear h hH hB1 hB2 hLen Q3
          go_wp2_with fail
          go_loopw [14, 57] (fun mv i wr => ∃ j : Nat, i = .int .i64 (j : Int) ∧ j ≤ m ∧ mv = .bool (decide (1 ≤ hn ∧ hn ≤ j)) ∧ Sto p (Xm 20 m) H B ((m : Int) + 1) [Row 30 1 (.slice ta m tc) m (hs m), Old w] wr) (fun _ i _ => m - (intOf i).toNat)
          case atStart => exact ⟨0, rfl, Nat.zero_le _, by congr 1; symm; simp; omega, H5.out⟩
          case round =>
            clear H5
            obtain ⟨j, rfl, hj, rfl, h⟩ := hrel
            by_cases hlt : j < m
            · have hltI : (j : Int) < (m : Int) := by omega
              obtain ⟨g, cap', ev, hcap, _⟩ := own_cap h.own.row (by omega)
              injection ev with ea _ ec
              subst ea ec
              obtain ⟨c0, cf⟩ := row_cell h.own.row (hs_at m j hlt)
              have HJ := Lib.hid (show ∀ mb, mb = decide (1 ≤ hn ∧ hn ≤ j + 1) → ∃ j' : Nat, Value.int .i64 ((j : Int) + 1) = .int .i64 (j' : Int) ∧ j' ≤ m ∧ Value.bool mb = .bool (decide (1 ≤ hn ∧ hn ≤ j')) ∧ Sto p (Xm 20 m) H B ((m : Int) + 1) [Row 30 1 (.slice (some ⟨g, 0, none⟩) m tc) m (hs m), Old w] wr from fun mb hmb => ⟨j + 1, by go_num, by omega, by rw [hmb], h⟩)
              by_cases hin : 1 ≤ hn ∧ hn ≤ j
              · have e1 : decide (1 ≤ hn ∧ hn ≤ j) = true := by simp [hin]
                have e2 : true = decide (1 ≤ hn ∧ hn ≤ j + 1) := by symm; simp; omega
                rw [e1]
                have HK := Lib.hid (HJ.out _ e2)
                clear h HJ e1 e2 hin
                go_wp2_with fail
                exact ⟨HK.out, by simp [intOf]; omega⟩
              · have e1 : decide (1 ≤ hn ∧ hn ≤ j) = false := by simp; omega
                have e2 : decide ((j : Int) + 1 = (hn : Int)) = decide (1 ≤ hn ∧ hn ≤ j + 1) := by rw [decide_eq_decide]; omega
                rw [e1]
                by_cases h3 : j + 1 = hn
                · have e3 : ((j : Int) + 1 == (hn : Int)) = true := by simp; omega
                  have HK := Lib.hid (HJ.out true (by rw [← e2]; simp; omega))
                  clear h HJ e1 e2 hin h3
                  go_wp2_with fail
                  exact ⟨HK.out, by simp [intOf]; omega⟩
                · have e3 : ((j : Int) + 1 == (hn : Int)) = false := by simp; omega
                  have HK := Lib.hid (HJ.out false (by rw [← e2]; simp; omega))
                  clear h HJ e1 e2 hin h3
                  go_wp2_with fail
                  exact ⟨HK.out, by simp [intOf]; omega⟩
            · obtain rfl : m = j := by omega
              have HG := Lib.hid (get_x (B0 := decide (1 ≤ hn ∧ hn ≤ m)) h (xm_ok (by omega) (by omega) m hm20) (by omega) hn (by omega) (xm_pb 20 m hn (by omega)) (by
                intro hb
                have hb' := of_decide_eq_true hb
                obtain ⟨q, rfl⟩ : ∃ q, hn = q + 1 := ⟨hn - 1, by omega⟩
                exact ⟨q, (xm_pv 20 m q (by omega) (by omega)).2, by rw [HH.out.1]; omega⟩))
              obtain ⟨B0, hB0⟩ : ∃ B0, B0 = decide (1 ≤ hn ∧ hn ≤ m) := ⟨_, rfl⟩
              rw [← hB0] at HG
              rw [← hB0]
              clear h hlt hj hB0
              go_wp2_with fail
              refine (HG.out).mono ?_
              rintro e w5 ⟨⟨x0, x1, x2, x3, x4, x5, x6⟩, rfl, h5⟩
              have H6 := Lib.hid (h5.step ((Ext.refl w5).alloc (.cells (h7 ⟨x0, x1, x2, x3, x4, x5, x6⟩) 72)))
              clear h5 HG
              by_cases hm0 : m = 0
              · subst hm0
                have HC := Lib.hid (count_any H6.out (xm_ok (by omega) (by omega) 0 (by omega)))
                have HA := Lib.hid (awake_any H6.out.own)
                go_wp2_with (first
                  | (go_at_call 32; refine (HC.out).mono ?_; rintro e w' ⟨rfl, rfl⟩)
                  | (go_at_call 33; refine (HA.out).mono ?_; rintro e w6 ⟨rfl, h6⟩))
                go_ret
                exact ⟨rfl, h6.ext (by simp)⟩
              · have hmI : ((m : Int) == 0) = false := by simp; omega
                obtain ⟨q, hqe⟩ : ∃ q : Nat, (q : Int) = which % (m : Int) := ⟨(which % (m : Int)).toNat, by have := Int.emod_nonneg which (show (m : Int) ≠ 0 by omega); omega⟩
                have hqm : q < m := by have := Int.emod_lt_of_pos which (show (0 : Int) < m by omega); omega
                have hqI : (q : Int) < (m : Int) := by omega
                have hqe' := hqe.symm
                obtain ⟨g, cap', ev, hcap, _⟩ := own_cap H6.out.own.row (by omega)
                injection ev with ea _ ec
                subst ea ec
                obtain ⟨c0, cf⟩ := row_cell H6.out.own.row (hs_at m q hqm)
                have hcast : ((q + 1 : Nat) : Int) = (q : Int) + 1 := by omega
                obtain ⟨x, hx⟩ : ∃ x, H[q]? = some x := ⟨_, List.getElem?_eq_getElem (by rw [HH.out.1]; exact hqm)⟩
                have hxb := HH.out.2.2.2 x (List.mem_of_getElem? hx)
                have hok := xm_ok (r := 20) (by omega) (by omega) m hm20
                have HF := free_yes H6.out hok (by omega) (q + 1) (by omega) (xm_pv 20 m q (by omega) hqm).1 q (xm_pv 20 m q (by omega) hqm).2 x hx HH.out.2.1 (by have := HH.out.2.2.1; omega) hxb.1 (by omega)
                rw [hcast] at HF
                obtain ⟨hok2, _, _, hlen2⟩ := give_spec hok q (by simp [Xm]; exact hqm) (by simp [Xm, List.getD, hqm])
                have HOK := Lib.hid hok2
                have HPG := xm_gone 20 m q (by omega) hqm
                have HPG' := Lib.hid HPG
                have HF' := Lib.hid HF
                have HHS := Lib.hid (hs_at m q hqm)
                have HU := Lib.hid (show (gv (Xm 20 m) q).used = m - 1 from rfl)
                clear hqe hm0 hcap hx hxb hok HF hok2 hlen2 HPG HH
                go_wp2_with fail
                rw [hqe']
                refine (HF'.out).mono ?_
                rintro e w7 ⟨rfl, hw7⟩
                have hw7a := hw7.step ((Ext.refl w7).alloc (.cells (h7 x) 72))
                obtain ⟨c1, cf1⟩ := row_cell hw7a.own.row HHS.out
                obtain ⟨c1', cf1'⟩ := row_cell hw7.own.row HHS.out
                have HN := free_no hw7a HOK.out (by omega) (q + 1) (by omega) HPG'.out
                rw [hcast] at HN
                have HN' := Lib.hid HN
                obtain ⟨y0, y1, y2, y3, y4, y5, y6⟩ := x
                clear hw7 hw7a HN c0 cf HF' H6
                go_wp2_with fail
                refine (HN'.out).mono ?_
                rintro e w8 ⟨rfl, h8⟩
                have h8a := h8.new #[.int .u64 0, .int .u64 0, .int .i64 0, .int .u8 0, .int .u64 0, .int .u64 0, .int .u64 0] 72
                obtain ⟨c2, cf2⟩ := row_cell h8.own.row HHS.out
                obtain ⟨c3, cf3⟩ := row_cell h8a.drop.own.row HHS.out
                have HG := get_no h8a HOK.out (by omega) (q + 1) (by omega) HPG'.out
                rw [hcast] at HG
                have HG' := Lib.hid HG
                clear h8 h8a HG HN' c1 cf1 c1' cf1'
                go_wp2_with fail
                refine (HG'.out).mono ?_
                rintro e w9 ⟨rfl, h9⟩
                have h9a := h9.new #[.int .u64 0, .int .u64 0, .int .i64 0, .int .u8 0, .int .u64 0, .int .u64 0, .int .u64 0] 72
                obtain ⟨c4, cf4⟩ := row_cell h9a.drop.drop.own.row HHS.out
                obtain ⟨e0, e1, e2, e3, e4, e5, e6, ef⟩ := Own.blk7 (b := w8.heap.size) (x0 := .int .u64 0) (x1 := .int .u64 0) (x2 := .int .i64 0) (x3 := .int .u8 0) (x4 := .int .u64 0) (x5 := .int .u64 0) (x6 := .int .u64 0) (t := 72) h9a.own (by simp)
                obtain ⟨z0, z1, z2, z3, z4, z5, z6, zf⟩ := Own.blk7 (b := w9.heap.size) (x0 := .int .u64 0) (x1 := .int .u64 0) (x2 := .int .i64 0) (x3 := .int .u8 0) (x4 := .int .u64 0) (x5 := .int .u64 0) (x6 := .int .u64 0) (t := 72) h9a.own (.head _)
                have hC := count_any h9a HOK.out
                rw [HU.out, show ((m - 1 : Nat) : Int) = (m : Int) - 1 by omega] at hC
                have HC := Lib.hid hC
                have HA := Lib.hid (awake_any h9a.own)
                clear h9 h9a hC HG' c2 cf2 c3 cf3 ef zf c4 cf4
                go_wp2_with (first
                  | (go_at_call 32; refine (HC.out).mono ?_; rintro e w' ⟨rfl, rfl⟩)
                  | (go_at_call 33; refine (HA.out).mono ?_; rintro e w10 ⟨rfl, h10⟩))
                go_ret
                exact ⟨rfl, h10.ext (by simp)⟩
    · obtain rfl : n = 20 := by omega
      have mI : (20 : Int) ≤ (cap : Int) := by omega
      go_enter Try.func8, Try.ntmps8
      go_wp2_with fail
      refine (snew_any 20 (by omega) (by omega) H0.out).mono ?_
      rintro e w1 ⟨p, rfl, h1⟩
      have H1 := Lib.hid h1
      clear h1 H0
      go_wp2_with fail
      go_loopw [9, 38] (fun tv i wr => GI w p 20 tv i wr) (fun _ i _ => 20 - (intOf i).toNat)
      case atStart =>
        obtain ⟨pa, v', h⟩ := H1.out
        exact ⟨0, 0, [], 0, rfl, Nat.zero_le _, Nat.le_refl _, ⟨pa, v', (Own.nilRow 30 1 h).back4⟩, rfl, by omega, by omega, by simp⟩
      case round =>
        clear H1
        obtain ⟨k, m, H, B, rfl, hk, hm, h, hH, hB1, hB2, hLen⟩ := hrel
        by_cases hlt : k < 20
        · have hltI : (k : Int) < (20 : Int) := by omega
          obtain ⟨b, off, rfl, hb, hcell⟩ := Q3.out (by omega)
          have hx : Ext w wr := h.own.ext (by simp)
          have d0 : wr.cell? ⟨b, off + k * 5, none⟩ = some (.int .u64 (f k).k) := hx.cell (hcell k 0 (by omega) (by omega))
          have d1 : wr.cell? ⟨b, off + k * 5 + 1, none⟩ = some (.int .u64 (f k).c) := hx.cell (hcell k 1 (by omega) (by omega))
          have d2 : wr.cell? ⟨b, off + k * 5 + 2, none⟩ = some (.int .i64 (f k).len) := hx.cell (hcell k 2 (by omega) (by omega))
          have d3 : wr.cell? ⟨b, off + k * 5 + 3, none⟩ = some (.int .u8 (f k).pr) := hx.cell (hcell k 3 (by omega) (by omega))
          have d4 : wr.cell? ⟨b, off + k * 5 + 4, none⟩ = some (.int .u64 (f k).at_) := hx.cell (hcell k 4 (by omega) (by omega))
          obtain ⟨⟨pk, pcc, pl, pp, pa⟩, hP⟩ : ∃ x, f k = x := ⟨_, rfl⟩
          rw [hP] at d0 d1 d2 d3 d4
          simp only at d0 d1 d2 d3 d4
          have hA := h.step ((Ext.refl wr).alloc (.cells #[.int .u64 pk, .int .u64 pcc, .int .i64 pl, .int .u8 pp, .int .u64 pa] 69))
          by_cases hbad : bad pl pp = true
          · have HT := Lib.hid (put_arg hA pk pcc pl pp pa 3 hbad)
            have HQ := Lib.hid (show ∀ tv w3, Sto p (Xm 20 m) H B ((m : Int) + 1) [Row 30 1 tv m (hs m), Old w] w3 → GI w p 20 tv (.int .i64 ((k : Int) + 1)) w3 from fun tv w3 h3 => ⟨k + 1, m, H, B, by go_num, by omega, by omega, h3, hH, hB1, hB2, hLen⟩)
            have KI : (k : Int) ≤ 20 := by omega
            clear h hA hx hcell hb hP hH hB1 hB2 hLen hbad hm
            go_wp2_with fail
            refine (HT.out).mono ?_
            rintro e w3 ⟨rfl, h3⟩
            have HR := Lib.hid (HQ.out _ _ h3)
            clear h3 HT HQ
            go_wp2_with fail
            exact ⟨HR.out, by simp [intOf]; omega⟩
          · have hbad' : bad pl pp = false := by simpa using hbad
            have hpl : 1 ≤ pl ∧ pl ≤ 65536 := by
              unfold bad at hbad'
              simp only [Bool.or_eq_false_iff, decide_eq_false_iff_not] at hbad'
              omega
            have HT := Lib.hid (put_m (by omega) (by omega) hA hH (by omega) pk pcc pl pp pa 3 hbad' (by omega) (by omega))
            have HQ := Lib.hid (show ∀ tv w3, Sto p (Xm 20 (m + 1)) (H ++ [⟨pk, pcc, pl, pp, pa, (m : Int) + 1, 3⟩]) (B + pl) (((m + 1 : Nat) : Int) + 1) [Row 30 1 tv (m + 1) (hs (m + 1)), Old w] w3 → GI w p 20 tv (.int .i64 ((k : Int) + 1)) w3 from fun tv w3 h3 => ⟨k + 1, m + 1, _, _, by go_num, by omega, by omega, h3, by rw [List.length_append, hH]; rfl, by omega, by omega, by
              intro x hx
              rcases List.mem_append.1 hx with h | h
              · exact hLen x h
              · rw [List.mem_singleton] at h
                subst h
                simp only
                omega⟩)
            have KI : (k : Int) ≤ 20 := by omega
            have MI : m < 20 := by omega
            clear h hA hx hcell hb hP hH hB1 hB2 hLen hbad hbad' hm
            go_wp2_with fail
            refine (HT.out).mono ?_
            rintro e w3 ⟨rfl, h3⟩
            have H3 := Lib.hid h3
            clear h3 HT
            go_wp2_with (at_builtin; refine app_own rfl _ _ _ _ _ 1 8 rfl Try.underlying24 info30 rfl (by omega) (by omega) _ m (hs m) [.int .u64 (((m + 1 : Nat) : Int))] rfl _ rfl rfl rfl (by simp [Value.oneCell']) (by exact H3.out.own.row) (by omega) ?_; intro v1 w4 hown hgrow hmv; rw [hs_succ] at hown; have H4 := Lib.hid (HQ.out _ _ (H3.out.rowApp hown hgrow hmv)); clear hown hgrow hmv)
            exact ⟨H4.out, by simp [intOf]; omega⟩
        · have hk' : k = 20 := by omega
          subst hk'
          clear hlt hk
          have hm20 : m ≤ 20 := by omega
          clear hm
          obtain ⟨ta, tc, rfl⟩ := own_slice h.own.row
          have H5 := Lib.hid h
          have HH := Lib.hid (show H.length = m ∧ 0 ≤ B ∧ B ≤ (m : Int) * 65536 ∧ ∀ x ∈ H, 0 ≤ x.len ∧ x.len ≤ 65536 from ⟨hH, hB1, hB2, hLen⟩)
          have MI : (m : Int) ≤ 20 := by omega
          clear h hH hB1 hB2 hLen Q3
          go_wp2_with fail
          go_loopw [14, 57] (fun mv i wr => ∃ j : Nat, i = .int .i64 (j : Int) ∧ j ≤ m ∧ mv = .bool (decide (1 ≤ hn ∧ hn ≤ j)) ∧ Sto p (Xm 20 m) H B ((m : Int) + 1) [Row 30 1 (.slice ta m tc) m (hs m), Old w] wr) (fun _ i _ => m - (intOf i).toNat)
          case atStart => exact ⟨0, rfl, Nat.zero_le _, by congr 1; symm; simp; omega, H5.out⟩
          case round =>
            clear H5
            obtain ⟨j, rfl, hj, rfl, h⟩ := hrel
            by_cases hlt : j < m
            · have hltI : (j : Int) < (m : Int) := by omega
              obtain ⟨g, cap', ev, hcap, _⟩ := own_cap h.own.row (by omega)
              injection ev with ea _ ec
              subst ea ec
              obtain ⟨c0, cf⟩ := row_cell h.own.row (hs_at m j hlt)
              have HJ := Lib.hid (show ∀ mb, mb = decide (1 ≤ hn ∧ hn ≤ j + 1) → ∃ j' : Nat, Value.int .i64 ((j : Int) + 1) = .int .i64 (j' : Int) ∧ j' ≤ m ∧ Value.bool mb = .bool (decide (1 ≤ hn ∧ hn ≤ j')) ∧ Sto p (Xm 20 m) H B ((m : Int) + 1) [Row 30 1 (.slice (some ⟨g, 0, none⟩) m tc) m (hs m), Old w] wr from fun mb hmb => ⟨j + 1, by go_num, by omega, by rw [hmb], h⟩)
              by_cases hin : 1 ≤ hn ∧ hn ≤ j
              · have e1 : decide (1 ≤ hn ∧ hn ≤ j) = true := by simp [hin]
                have e2 : true = decide (1 ≤ hn ∧ hn ≤ j + 1) := by symm; simp; omega
                rw [e1]
                have HK := Lib.hid (HJ.out _ e2)
                clear h HJ e1 e2 hin
                go_wp2_with fail
                exact ⟨HK.out, by simp [intOf]; omega⟩
              · have e1 : decide (1 ≤ hn ∧ hn ≤ j) = false := by simp; omega
                have e2 : decide ((j : Int) + 1 = (hn : Int)) = decide (1 ≤ hn ∧ hn ≤ j + 1) := by rw [decide_eq_decide]; omega
                rw [e1]
                by_cases h3 : j + 1 = hn
                · have e3 : ((j : Int) + 1 == (hn : Int)) = true := by simp; omega
                  have HK := Lib.hid (HJ.out true (by rw [← e2]; simp; omega))
                  clear h HJ e1 e2 hin h3
                  go_wp2_with fail
                  exact ⟨HK.out, by simp [intOf]; omega⟩
                · have e3 : ((j : Int) + 1 == (hn : Int)) = false := by simp; omega
                  have HK := Lib.hid (HJ.out false (by rw [← e2]; simp; omega))
                  clear h HJ e1 e2 hin h3
                  go_wp2_with fail
                  exact ⟨HK.out, by simp [intOf]; omega⟩
            · obtain rfl : m = j := by omega
              have HG := Lib.hid (get_x (B0 := decide (1 ≤ hn ∧ hn ≤ m)) h (xm_ok (by omega) (by omega) m hm20) (by omega) hn (by omega) (xm_pb 20 m hn (by omega)) (by
                intro hb
                have hb' := of_decide_eq_true hb
                obtain ⟨q, rfl⟩ : ∃ q, hn = q + 1 := ⟨hn - 1, by omega⟩
                exact ⟨q, (xm_pv 20 m q (by omega) (by omega)).2, by rw [HH.out.1]; omega⟩))
              obtain ⟨B0, hB0⟩ : ∃ B0, B0 = decide (1 ≤ hn ∧ hn ≤ m) := ⟨_, rfl⟩
              rw [← hB0] at HG
              rw [← hB0]
              clear h hlt hj hB0
              go_wp2_with fail
              refine (HG.out).mono ?_
              rintro e w5 ⟨⟨x0, x1, x2, x3, x4, x5, x6⟩, rfl, h5⟩
              have H6 := Lib.hid (h5.step ((Ext.refl w5).alloc (.cells (h7 ⟨x0, x1, x2, x3, x4, x5, x6⟩) 72)))
              clear h5 HG
              by_cases hm0 : m = 0
              · subst hm0
                have HC := Lib.hid (count_any H6.out (xm_ok (by omega) (by omega) 0 (by omega)))
                have HA := Lib.hid (awake_any H6.out.own)
                go_wp2_with (first
                  | (go_at_call 32; refine (HC.out).mono ?_; rintro e w' ⟨rfl, rfl⟩)
                  | (go_at_call 33; refine (HA.out).mono ?_; rintro e w6 ⟨rfl, h6⟩))
                go_ret
                exact ⟨rfl, h6.ext (by simp)⟩
              · have hmI : ((m : Int) == 0) = false := by simp; omega
                obtain ⟨q, hqe⟩ : ∃ q : Nat, (q : Int) = which % (m : Int) := ⟨(which % (m : Int)).toNat, by have := Int.emod_nonneg which (show (m : Int) ≠ 0 by omega); omega⟩
                have hqm : q < m := by have := Int.emod_lt_of_pos which (show (0 : Int) < m by omega); omega
                have hqI : (q : Int) < (m : Int) := by omega
                have hqe' := hqe.symm
                obtain ⟨g, cap', ev, hcap, _⟩ := own_cap H6.out.own.row (by omega)
                injection ev with ea _ ec
                subst ea ec
                obtain ⟨c0, cf⟩ := row_cell H6.out.own.row (hs_at m q hqm)
                have hcast : ((q + 1 : Nat) : Int) = (q : Int) + 1 := by omega
                obtain ⟨x, hx⟩ : ∃ x, H[q]? = some x := ⟨_, List.getElem?_eq_getElem (by rw [HH.out.1]; exact hqm)⟩
                have hxb := HH.out.2.2.2 x (List.mem_of_getElem? hx)
                have hok := xm_ok (r := 20) (by omega) (by omega) m hm20
                have HF := free_yes H6.out hok (by omega) (q + 1) (by omega) (xm_pv 20 m q (by omega) hqm).1 q (xm_pv 20 m q (by omega) hqm).2 x hx HH.out.2.1 (by have := HH.out.2.2.1; omega) hxb.1 (by omega)
                rw [hcast] at HF
                obtain ⟨hok2, _, _, hlen2⟩ := give_spec hok q (by simp [Xm]; exact hqm) (by simp [Xm, List.getD, hqm])
                have HOK := Lib.hid hok2
                have HPG := xm_gone 20 m q (by omega) hqm
                have HPG' := Lib.hid HPG
                have HF' := Lib.hid HF
                have HHS := Lib.hid (hs_at m q hqm)
                have HU := Lib.hid (show (gv (Xm 20 m) q).used = m - 1 from rfl)
                clear hqe hm0 hcap hx hxb hok HF hok2 hlen2 HPG HH
                go_wp2_with fail
                rw [hqe']
                refine (HF'.out).mono ?_
                rintro e w7 ⟨rfl, hw7⟩
                have hw7a := hw7.step ((Ext.refl w7).alloc (.cells (h7 x) 72))
                obtain ⟨c1, cf1⟩ := row_cell hw7a.own.row HHS.out
                obtain ⟨c1', cf1'⟩ := row_cell hw7.own.row HHS.out
                have HN := free_no hw7a HOK.out (by omega) (q + 1) (by omega) HPG'.out
                rw [hcast] at HN
                have HN' := Lib.hid HN
                obtain ⟨y0, y1, y2, y3, y4, y5, y6⟩ := x
                clear hw7 hw7a HN c0 cf HF' H6
                go_wp2_with fail
                refine (HN'.out).mono ?_
                rintro e w8 ⟨rfl, h8⟩
                have h8a := h8.new #[.int .u64 0, .int .u64 0, .int .i64 0, .int .u8 0, .int .u64 0, .int .u64 0, .int .u64 0] 72
                obtain ⟨c2, cf2⟩ := row_cell h8.own.row HHS.out
                obtain ⟨c3, cf3⟩ := row_cell h8a.drop.own.row HHS.out
                have HG := get_no h8a HOK.out (by omega) (q + 1) (by omega) HPG'.out
                rw [hcast] at HG
                have HG' := Lib.hid HG
                clear h8 h8a HG HN' c1 cf1 c1' cf1'
                go_wp2_with fail
                refine (HG'.out).mono ?_
                rintro e w9 ⟨rfl, h9⟩
                have h9a := h9.new #[.int .u64 0, .int .u64 0, .int .i64 0, .int .u8 0, .int .u64 0, .int .u64 0, .int .u64 0] 72
                obtain ⟨c4, cf4⟩ := row_cell h9a.drop.drop.own.row HHS.out
                obtain ⟨e0, e1, e2, e3, e4, e5, e6, ef⟩ := Own.blk7 (b := w8.heap.size) (x0 := .int .u64 0) (x1 := .int .u64 0) (x2 := .int .i64 0) (x3 := .int .u8 0) (x4 := .int .u64 0) (x5 := .int .u64 0) (x6 := .int .u64 0) (t := 72) h9a.own (by simp)
                obtain ⟨z0, z1, z2, z3, z4, z5, z6, zf⟩ := Own.blk7 (b := w9.heap.size) (x0 := .int .u64 0) (x1 := .int .u64 0) (x2 := .int .i64 0) (x3 := .int .u8 0) (x4 := .int .u64 0) (x5 := .int .u64 0) (x6 := .int .u64 0) (t := 72) h9a.own (.head _)
                have hC := count_any h9a HOK.out
                rw [HU.out, show ((m - 1 : Nat) : Int) = (m : Int) - 1 by omega] at hC
                have HC := Lib.hid hC
                have HA := Lib.hid (awake_any h9a.own)
                clear h9 h9a hC HG' c2 cf2 c3 cf3 ef zf c4 cf4
                go_wp2_with (first
                  | (go_at_call 32; refine (HC.out).mono ?_; rintro e w' ⟨rfl, rfl⟩)
                  | (go_at_call 33; refine (HA.out).mono ?_; rintro e w10 ⟨rfl, h10⟩))
                go_ret
                exact ⟨rfl, h10.ext (by simp)⟩
end Go.Proofs.Ytekdgghekdajbaa.St
