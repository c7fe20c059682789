/- DERIVED. Layer 19 (delay): the law DelayOrder. Written by wip/mkdym.py. -/
import Derived.Test.YtlficiohenpghabDyL
set_option linter.unusedVariables false
set_option linter.unusedSimpArgs false
set_option maxRecDepth 100000
namespace Go.Proofs.Ytlficiohenpghab.Dy
open Go.RowKit Go.Maps Go.Proofs.Ytlficiohenpghab Go.Proofs.Ytlficiohenpghab.TreeP Go.Proofs.Ytlficiohenpghab.Tr Go.Proofs.Ytlficiohenpghab.Wk

section
variable {P : Program} {ops : Array Oper} {rest : List Oper} {o : Oper} {a : Act} {Q : Exit → Act → World → Prop}
theorem mapD_lookU (w : World) (hg : o.guard = none) (m x : Operand) (t : TypeId) (hop : o.op = Op.lookup t m x false) (k e : TypeId) (K : Keyed P k) (ht : P.underlying t = some (.map k e)) (he : P.underlying e = some (.int .u64))
    (hz : (zeroValue e).run P w = .ok (.int .u64 0) w) (b n : Nat) (D : DataW Unit) {l : List HP} (hm : a.eval m = .map (some b)) (h : Own (MapD P k (plainElem P e) b n D :: l) w) (kv : Value) (y : Lit) (hx : a.eval x = kv) (hy : keyOf P k kv = some y) (v : Int) (hv : D.atKey y (.lit (.int .u64 0)) = .lit (.int .u64 v))
    (hK : wpList P ops Q rest (a.put o.dst (.int .u64 v)) w) : wpList P ops Q (o :: rest) a w := by
  refine wpList_lookup_own_int w hg m x t hop k e .u64 K ht he hz b n D hm h.mapD _ _ hx hy ?_
  intro c hc _
  rw [hv] at hc
  injection hc with hc
  injection hc with _ hc
  rw [← hc]
  exact hK
end
theorem D2.perm {p1 q1 p2 q2 : Nat} {E1 E2 : List En} {l l' : List HP} {w : World} (h : D2 p1 q1 E1 p2 q2 E2 l w) (hp : l.Perm l') : D2 p1 q1 E1 p2 q2 E2 l' w := by
  obtain ⟨t1, b1, m1, C1, h1, h2⟩ := h
  exact ⟨t1, b1, m1, C1, h1.perm ((hp.cons _).cons _ |>.cons _), h2⟩
theorem Ri.take {w : World} {a : Option Addr} {n c k : Nat} {X : List Int} (h : Ri w (.slice a n c) n X) (hk : k ≤ n) (c' : Nat) : Ri w (.slice a k c') k (X.take k) := by
  obtain ⟨a', c1, e, h⟩ := h
  injection e with e1 _ _
  subst e1
  refine ⟨a, c', rfl, fun hp => ?_⟩
  obtain ⟨g, o, e, hc⟩ := h (by omega)
  refine ⟨g, o, e, fun i x hx => ?_⟩
  rw [List.getElem?_take] at hx
  split at hx
  · exact hc i x hx
  · cases hx
/-- counting who is due -/
def DuI (p1 q p2 b r m : Nat) (E E1 E2 : List En) (D : DataW Unit) (now : Int) (l : List HP) (s14 : Value) (wr : World) : Prop :=
  ∃ (left : Lit → Bool) (cnt : Nat), s14 = .int .i64 ((dueL E now left : Nat) : Int) ∧ D2 p1 q E1 p2 q E2 (RG b r m D left cnt :: l) wr
/-- looking at who came -/
def AlI (p1 q p2 b m L2 : Nat) (E1 E2 : List En) (D : DataW Unit) (l : List HP) (vi : Value) (wr : World) : Prop :=
  ∃ j : Nat, vi = .int .i64 (j : Int) ∧ j ≤ L2 ∧ D2 p1 q E1 p2 q E2 (MW b m D :: l) wr
set_option maxHeartbeats 8000000 in
theorem order_row (v : Value) (now most : Int) (x : Nat × (Nat → DOp)) (wf1 : (Lit.int .u64 now).wf = true) (wf2 : (Lit.int .u8 most).wf = true) (w : World) (ho : Ops2 w v x) :
    Calls Try.prog 4 #[v, .int .u64 now, .int .u8 most] w fun e w' => e = .returned (.bool true) ∧ Ext w w' := by
  obtain ⟨mo0, mo1⟩ := u8_bds wf2
  obtain ⟨mo, rfl⟩ : ∃ mo : Nat, most = (mo : Int) := ⟨most.toNat, by omega⟩
  obtain ⟨n, fs⟩ := x
  have hp := played_any v n fs ho (Own.start w) (.head _)
  have hp2 : ∀ l' w', Own l' w' → Old w ∈ l' → _ := fun l' w' h hm => played_any v n fs ho (l := l') (w := w') h hm
  have hq0 := play_le 12 fs (min n 50)
  obtain ⟨X, hX⟩ : ∃ X, X = playD 12 fs (min n 50) := ⟨_, rfl⟩
  rw [← hX] at hp hq0
  simp only [← hX] at hp2
  obtain ⟨q, E⟩ := X
  have HP := Lib.hid hp
  have HP2 := Lib.hid hp2
  have moI : (mo : Int) ≤ 255 := by omega
  have wm : IntKind.i64.wrap (mo : Int) = (mo : Int) := by rw [IntKind.wrap_i64]; omega
  obtain ⟨-, a, cap, rfl, -⟩ := ho
  clear hp hp2 hq0 hX wf1 wf2 mo0 mo1
  go_enter Try.func4, Try.ntmps4
  go_wp2_with fail
  with_reducible refine (HP.out).mono ?_
  rintro e w1 ⟨p1, rfl, h1⟩
  have hei := h1.ei
  have hri := h1.rise
  obtain ⟨t1, b1, m1, C1, g1, g2, g3, g4, g5, g6⟩ := h1
  have HP3 := Lib.hid (HP2.out _ _ g1 (.tail _ (.tail _ (.tail _ (.head _)))))
  have HD2 : Hid (∀ p2 w2, DX p2 12 (q, E) (BD p1 t1 b1 12 q :: Tree t1 12 E :: MK b1 m1 C1 :: [Old w]) w2 → D2 p1 q E p2 q E [Old w] w2) := Lib.hid fun p2 w2 h => ⟨t1, b1, m1, C1, h, g2, g3, g4⟩
  have HEI := Lib.hid hei
  have HRI := Lib.hid hri.1
  have hE12 : E.length ≤ 12 := hri.2
  have HE12 := Lib.hid hE12
  clear g1 g2 g3 g4 g5 g6 hei hri HP HP2 hE12
  go_wp2_with fail
  with_reducible refine (HP3.out).mono ?_
  rintro e w2 ⟨p2, rfl, h2⟩
  obtain ⟨Z, hz, hback⟩ := (HD2.out _ _ h2).flip.at2
  have HB1 := Lib.hid hback
  have HWA := Lib.hid (own_waiting hz)
  clear h2 hz hback HP3 HD2
  go_wp2_with fail
  with_reducible refine (HWA.out).mono ?_
  rintro e w3 ⟨b, m, D, rfl, hm, hwt, h3⟩
  have HWT := Lib.hid hwt
  obtain ⟨M1, hM1⟩ : ∃ M, M = (uptoL E now).take mo := ⟨_, rfl⟩
  obtain ⟨M2, hM2⟩ : ∃ M, M = uptoL E now := ⟨_, rfl⟩
  have hul : (uptoL E now).length ≤ E.length := List.length_filter_le _ _
  obtain ⟨Z2, hz2, hback2⟩ := (HB1.out q E [MW b m D] w3 h3).at2
  have HB2 := Lib.hid hback2
  have HWK1 := Lib.hid (own_wake hz2 now (mo : Int) (by omega) M1 (by rw [Int.toNat_natCast]; exact hM1.symm))
  obtain ⟨L1, hL1⟩ : ∃ L, L = M1.length := ⟨_, rfl⟩
  obtain ⟨L2, hL2⟩ : ∃ L, L = M2.length := ⟨_, rfl⟩
  have hM12 : M1 = M2.take L1 := by
    rw [hL1, hM1, hM2]
    rw [List.length_take]
    by_cases hc : mo ≤ (uptoL E now).length
    · rw [Nat.min_eq_left hc]
    · rw [Nat.min_eq_right (by omega), List.take_of_length_le (by omega), List.take_of_length_le (Nat.le_refl _)]
  have hLm : L1 = min mo L2 := by rw [hL1, hM1, hL2, hM2, List.length_take]
  have hL212 : L2 ≤ 12 := by have := HE12.out; rw [hL2, hM2]; omega
  have HLM := Lib.hid hLm
  clear hLm
  have HL1 := Lib.hid hL1
  have HL2 := Lib.hid hL2
  have HM2 := Lib.hid hM2
  have HM12 := Lib.hid hM12
  obtain ⟨E1, hE1⟩ : ∃ E', E' = E.drop M1.length := ⟨_, rfl⟩
  rw [← hE1] at HWK1
  clear h3 hz2 hback2 HB1 HWA hwt hM1 hM2 hul hL1 hL2 hM12 hE1
  go_wp2_with fail
  with_reducible refine (HWK1.out).mono ?_
  rintro e w4 ⟨v1, rfl, h4⟩
  obtain ⟨a1, c1, rfl⟩ := h4.rest.rowR.slice
  rw [← HL1.out] at h4 ⊢
  have hd4 := (HB2.out q E1 [RI (.slice a1 L1 c1) M1] w4 h4).flip
  obtain ⟨Z3, hz3, hback3⟩ := hd4.at2
  have HB3 := Lib.hid hback3
  have HWK2 := Lib.hid (own_wake hz3 now 12 (by omega) M2 (by rw [HM2.out]; exact List.take_of_length_le (by rw [← HM2.out, ← HL2.out]; exact hL212)))
  obtain ⟨E2, hE2⟩ : ∃ E', E' = E.drop M2.length := ⟨_, rfl⟩
  rw [← hE2] at HWK2
  have HE2 := Lib.hid hE2
  clear h4 hd4 hz3 hback3 HB2 HWK1 hE2
  go_wp2_with fail
  with_reducible refine (HWK2.out).mono ?_
  rintro e w5 ⟨v2, rfl, h5⟩
  obtain ⟨a2, c2, rfl⟩ := h5.rest.rowR.slice
  rw [← HL2.out] at h5 ⊢
  have h6 : D2 p1 q E1 p2 q E2 (MW b m D :: RI (.slice a2 L2 c2) M2 :: RI (.slice a1 L1 c1) M1 :: [Old w]) w5 := (HB3.out q E2 [RI (.slice a2 L2 c2) M2] w5 h5).perm (List.perm_middle (l₁ := [_, _]))
  have hLm := HLM.out
  have hro := h6.rest.drop
  have hcap : L2 ≤ c2 := by
    have h := hro.rowR
    unfold RI at hro
    rcases hro.rowR.2 with ⟨e, _⟩ | ⟨g, cap', cur, e, _, h1, _⟩
    · injection e with _ e1 _
      omega
    · injection e with _ e1 e2
      rw [← HL2.out] at h1
      omega
  have r2 : Ri w5 (.slice a2 L2 c2) L2 (M2.map (·.2)) := by
    have := ri_is hro.rowR
    rw [← HL2.out] at this
    exact this
  have r1 : Ri w5 (.slice a1 L1 c1) L1 (M1.map (·.2)) := by
    have := ri_is hro.drop.rowR
    rw [← HL1.out] at this
    exact this
  have HI := Lib.hid (ints_any (by rw [List.length_map, ← HL1.out]) (by rw [List.length_take, List.length_map, ← HL2.out]; omega) r1 (r2.take (k := L1) (by omega) c2) (by omega) (by omega) (B := true) (by
    rw [← List.map_take, ← HM12.out]
    simp))
  have mL : (if L2 < mo then (L2 : Int) else (mo : Int)) = (L1 : Int) := by split <;> omega
  have l12 : (L1 : Int) ≤ (L2 : Int) := by omega
  have l2c : (L1 : Int) ≤ (c2 : Int) := by omega
  have H6 := Lib.hid h6
  clear h5 h6 hro r1 r2 HB3 HWK2 hLm hcap
  go_wp2_with fail
  with_reducible refine (HI.out).mono ?_
  rintro e w6 ⟨rfl, hx⟩
  have h7 := H6.out.step hx
  obtain ⟨Zr, hr, hbackr⟩ := h7.open
  have HR := Lib.hid hr
  have HBR := Lib.hid hbackr
  clear hx h7 hr hbackr H6 HI mL l12 l2c
  go_wp2_with (refine mapR_range _ rfl _ 52 rfl 3 33 int_keyed' Try.underlying52 (plainElem Try.prog 33) b m D rfl HR.out ?_)
  intro r w7 h8
  have H8 : Hid (DuI p1 q p2 b r m E E1 E2 D now (RI (.slice a2 L2 c2) M2 :: RI (.slice a1 L1 c1) M1 :: [Old w]) (.int .i64 0) w7) := Lib.hid ⟨_, _, by rw [due_none (fun e he => by rw [HWT.out.has, (who_iff HEI.out.df).2 (show (e.1, e.2) ∈ E from he)]; rfl)]; rfl, HBR.out _ _ h8⟩
  clear h8 HR HBR
  go_wp2_with fail
  go_loopw [14] (fun s14 wr => DuI p1 q p2 b r m E E1 E2 D now (RI (.slice a2 L2 c2) M2 :: RI (.slice a1 L1 c1) M1 :: [Old w]) s14 wr) (fun _ w' => w'.rangeLeft b r)
  case atStart => exact H8.out
  case round =>
    clear H8
    obtain ⟨left, cnt, rfl, h⟩ := hrel
    obtain ⟨Z4, h9, hback4⟩ := h.open
    have hdl : dueL E now left ≤ 12 := Nat.le_trans (List.length_filter_le _ _) HE12.out
    have H9 := Lib.hid h9
    have HBK4 := Lib.hid hback4
    have HCN := Lib.hid h9.rg.left_eq
    obtain ⟨du, hdu⟩ : ∃ d, d = dueL E now left := ⟨_, rfl⟩
    rw [← hdu] at hdl ⊢
    have HDU := Lib.hid hdu
    have HH := Lib.hid h
    clear h h9 hback4 hdu
    go_wp2_with (refine mapR_next _ rfl _ rfl 3 33 .i64 .u64 int_keyed' Try.underlying3 Try.underlying33 b r m D left cnt rfl H9.out ?_ ?_)
    · intro hleft
      as_aux_lemma =>
      have h10 : D2 p1 q E1 p2 q E2 (MW b m D :: RI (.slice a2 L2 c2) M2 :: RI (.slice a1 L1 c1) M1 :: [Old w]) wr := by
        obtain ⟨Z5, h11, hb5⟩ := HH.out.open
        exact hb5 _ _ h11.mapRgDone
      obtain rfl : du = L2 := by rw [HDU.out, due_all hleft, HL2.out, HM2.out]
      have H10 : Hid (AlI p1 q p2 b m du E1 E2 D (RI (.slice a2 du c2) M2 :: RI (.slice a1 L1 c1) M1 :: [Old w]) (.int .i64 0) wr) := Lib.hid ⟨0, rfl, Nat.zero_le _, h10⟩
      clear hleft HH H9 HBK4 HCN HDU h10
      go_wp2_with fail
      go_loopw [81] (fun vi wr2 => AlI p1 q p2 b m du E1 E2 D (RI (.slice a2 du c2) M2 :: RI (.slice a1 L1 c1) M1 :: [Old w]) vi wr2) (fun vi _ => du - (intOf vi).toNat)
      case atStart => exact H10.out
      case round =>
        clear H10
        obtain ⟨j, rfl, hj, h⟩ := hrel
        rename World => w9
        have htk := upto_take HRI.out now
        rw [← HM2.out, ← HL2.out] at htk
        by_cases hjl : j < du
        · have hjI : (j : Int) < (du : Int) := by omega
          obtain ⟨e, he⟩ : ∃ e, M2[j]? = some e := ⟨_, List.getElem?_eq_getElem (by rw [← HL2.out]; exact hjl)⟩
          have hEj : E[j]? = some e := by
            have := he
            rw [htk, List.getElem?_take, if_pos hjl] at this
            exact this
          have hmem : (e.1, e.2) ∈ E := List.mem_of_getElem? hEj
          have hle : e.1.1 ≤ now := by
            have := List.mem_of_getElem? he
            rw [HM2.out] at this
            unfold uptoL at this
            simpa using (List.mem_filter.1 this).2
          have hwho : who E e.2 = some e.1 := (who_iff HEI.out.df).2 hmem
          have hgone : who E2 e.2 = none := by
            rw [HE2.out]
            exact gone HEI.out.df (by rw [← HL2.out]; exact htk) (List.mem_of_getElem? he)
          have hfl := HEI.out.flow _ hmem
          simp only at hfl
          have HKF : Hid (keyOf Try.prog 3 (.int .i64 e.2) = some (fl e.2)) := Lib.hid (keyOf_int (by simp [Lit.wf, IntKind.min, IntKind.max, IntKind.signed, IntKind.bits]; omega))
          have hwf : (Lit.int .i64 e.2).wf = true := by simp [Lit.wf, IntKind.min, IntKind.max, IntKind.signed, IntKind.bits]; omega
          have hv := HWT.out.val e.2
          rw [hwho] at hv
          have hv2 : D.atKey (fl e.2) (ul 0) = ul e.1.1 := hv
          have HV := Lib.hid (u64_at hv2)
          have HBT : Hid (Maps.has D (fl e.2) = true) := Lib.hid (by rw [HWT.out.has, hwho]; rfl)
          obtain ⟨aa, cc, eq, hc⟩ := ri_is h.rest.drop.rowR
          injection eq with eq1 eq2 eq3
          subst eq1 eq3
          clear eq2
          obtain ⟨g, o, rfl, hcell⟩ := hc (by rw [← HL2.out]; omega)
          have c0 := hcell j e.2 (by rw [List.getElem?_map, he]; rfl)
          obtain ⟨Z6, hz6, hb6⟩ := h.at2
          have hat := own_at hz6 e.2 hwf
          rw [hgone] at hat
          have HAT := Lib.hid hat
          have HB6 := Lib.hid hb6
          obtain ⟨Z7, h9, -⟩ := h.open
          have H8 := Lib.hid h9
          by_cases hj0 : j = 0
          · subst hj0
            rw [Nat.add_zero] at c0
            obtain ⟨⟨ka, ks⟩, f⟩ := e
            simp only at HKF HV HBT HAT c0 hle
            have hnl : ¬ now < ka := by omega
            clear he hEj hmem hle hwho hgone hfl hwf hv hv2 hc hcell hz6 hat hb6 h9 h htk hjI
            go_wp2_with (at_lookup; refine mapD_look2 _ rfl _ _ 52 rfl 3 33 int_keyed' Try.underlying52 (plainElem Try.prog 33) (zeroU _) (ul 0) (u64_mk (by decide)) b m D rfl H8.out (.int .i64 f) (fl f) rfl HKF.out (.int .u64 ka) HV.out true HBT.out ?_)
            with_reducible refine (HAT.out).mono ?_
            rintro e w10 ⟨rfl, h10⟩
            have HX : Hid (AlI p1 q p2 b m du E1 E2 D (RI (.slice (some ⟨g, o, none⟩) du c2) M2 :: RI (.slice a1 L1 c1) M1 :: [Old w]) (.int .i64 (1)) w10) := Lib.hid ⟨1, by go_num, by omega, HB6.out q E2 [] w10 h10⟩
            clear h10 HAT
            go_wp2_with fail
            exact ⟨HX.out, by simp [intOf]; omega⟩
          · obtain ⟨ep, hep⟩ : ∃ e, M2[j - 1]? = some e := ⟨_, List.getElem?_eq_getElem (by rw [← HL2.out]; omega)⟩
            have hEp : E[j - 1]? = some ep := by
              have := hep
              rw [htk, List.getElem?_take, if_pos (by omega)] at this
              exact this
            have hmp : (ep.1, ep.2) ∈ E := List.mem_of_getElem? hEp
            have hwp : who E ep.2 = some ep.1 := (who_iff HEI.out.df).2 hmp
            have hfp := HEI.out.flow _ hmp
            simp only at hfp
            have HKP : Hid (keyOf Try.prog 3 (.int .i64 ep.2) = some (fl ep.2)) := Lib.hid (keyOf_int (by simp [Lit.wf, IntKind.min, IntKind.max, IntKind.signed, IntKind.bits]; omega))
            have hvp := HWT.out.val ep.2
            rw [hwp] at hvp
            have HVP : Hid (D.atKey (fl ep.2) (ul 0) = ul ep.1.1) := Lib.hid hvp
            have cp := hcell (j - 1) ep.2 (by rw [List.getElem?_map, hep]; rfl)
            have hord : ep.1.1 ≤ e.1.1 := by
              have hp := List.pairwise_iff_getElem.1 HRI.out
              obtain ⟨i1, i2⟩ := List.getElem?_eq_some_iff.1 hEp
              obtain ⟨j1, j2⟩ := List.getElem?_eq_some_iff.1 hEj
              have := hp (j - 1) j i1 j1 (by omega)
              rw [i2, j2] at this
              exact lt_fst this
            obtain ⟨⟨ka, ks⟩, f⟩ := e
            obtain ⟨⟨kp, kps⟩, fp⟩ := ep
            simp only at HKF HV HBT HAT c0 hle HKP HVP cp hord
            have hnl : ¬ now < ka := by omega
            have hno : ¬ ka < kp := by omega
            have hjp : (0 : Int) < (j : Int) := by omega
            have hj1 : (j : Int) - 1 = ((j - 1 : Nat) : Int) := by omega
            have hj2 : ((j - 1 : Nat) : Int) < (du : Int) := by omega
            clear he hEj hmem hle hwho hgone hfl hwf hv hv2 hc hcell hz6 hat hb6 h9 h htk hep hEp hmp hwp hfp hvp hord
            go_wp2_with (at_lookup; first | (refine mapD_look2 _ rfl _ _ 52 rfl 3 33 int_keyed' Try.underlying52 (plainElem Try.prog 33) (zeroU _) (ul 0) (u64_mk (by decide)) b m D rfl H8.out (.int .i64 f) (fl f) rfl HKF.out (.int .u64 ka) HV.out true HBT.out ?_) | (refine wpList_guarded (by rfl) ?_; refine mapD_lookU _ rfl _ _ 52 rfl 3 33 int_keyed' Try.underlying52 Try.underlying33 (zeroU _) b m D rfl H8.out (.int .i64 fp) (fl fp) rfl HKP.out kp HVP.out ?_))
            with_reducible refine (HAT.out).mono ?_
            rintro e w10 ⟨rfl, h10⟩
            have HX : Hid (AlI p1 q p2 b m du E1 E2 D (RI (.slice (some ⟨g, o, none⟩) du c2) M2 :: RI (.slice a1 L1 c1) M1 :: [Old w]) (.int .i64 ((j : Int) + 1)) w10) := Lib.hid ⟨j + 1, by go_num, by omega, HB6.out q E2 [] w10 h10⟩
            clear h10 HAT
            go_wp2_with fail
            exact ⟨HX.out, by simp [intOf]; omega⟩
        · obtain rfl : j = du := by omega
          obtain ⟨Z6, hz6, hb6⟩ := h.at2
          have hE2r := upto_rest HRI.out now
          rw [← HM2.out, ← HE2.out] at hE2r
          have hE2l : E2.length + j = E.length := by
            have h1 := HE2.out
            have h2 := HL2.out
            have h3 := congrArg List.length htk
            rw [List.length_take, ← h2] at h3
            rw [h1, ← h2, List.length_drop]
            omega
          obtain ⟨l2, hl2⟩ : ∃ l, l = E2.length := ⟨_, rfl⟩
          obtain ⟨le, hle⟩ : ∃ l, l = E.length := ⟨_, rfl⟩
          have hsub : (le : Int) - (j : Int) = (l2 : Int) := by omega
          have hl12 : l2 ≤ 12 := by have := HE12.out; omega
          have hle12 : le ≤ 12 := by have := HE12.out; omega
          cases h2 : E2.head? with
          | none =>
            have HNX := Lib.hid (next' (x := 0) (b := false) hz6 (by rw [h2]; rfl) (by rw [h2]; rfl))
            have HB6 := Lib.hid hb6
            obtain rfl : l2 = 0 := by rw [hl2, List.head?_eq_none_iff.1 h2]; rfl
            have HL3 := Lib.hid hl2
            have HLE := Lib.hid hle
            clear h hz6 hb6 hE2r hE2l htk hjl hj h2 hl2 hle
            go_wp2_with fail
            with_reducible refine (HNX.out).mono ?_
            rintro e w11 ⟨rfl, h11'⟩
            have h11 := HB6.out q E2 [] w11 h11'
            clear h11' HNX HB6
            -- behind all
            have HSZ := Lib.hid (HWT.out.size.trans HLE.out.symm)
            obtain ⟨Z8, h12, -⟩ := h11.open
            obtain ⟨Z9, hz9, -⟩ := h11.at2
            have hlen := own_len hz9
            rw [← HL3.out] at hlen
            have HLEN := Lib.hid hlen
            have H8 := Lib.hid h12
            have HO := Lib.hid (show Own [Old w] w11 from h11.rest.drop.drop.drop)
            clear h11 h12 hz9 hlen
            go_wp2_with fail
            with_reducible refine (HLEN.out).mono ?_
            rintro e w' ⟨rfl, rfl⟩
            go_wp2_with (at_len; refine wpList_guarded (by rfl) ?_; refine mapD_len _ rfl _ 52 rfl 3 33 Try.underlying52 (plainElem Try.prog 33) b m D rfl H8.out ?_; rw [HSZ.out])
            with_reducible refine (HLEN.out).mono ?_
            rintro e w' ⟨rfl, rfl⟩
            clear HLEN H8
            go_wp2_with fail
            with_reducible refine (awake_any HO.out).mono ?_
            rintro e w15 ⟨rfl, h15⟩
            have H15 := Lib.hid h15
            clear h15 HO
            go_wp2_with fail
            go_ret
            exact ⟨rfl, H15.out.ext (by simp)⟩
          | some e2 =>
            have HNX := Lib.hid (next' (x := e2.1.1) (b := true) hz6 (by rw [h2]; rfl) (by rw [h2]; rfl))
            have HB6 := Lib.hid hb6
            have hlate : now < e2.1.1 := hE2r e2 (List.mem_of_mem_head? (by rw [h2]; rfl))
            have hl20 : (0 : Int) < (l2 : Int) := by
              cases hx : E2 with
              | nil => rw [hx] at h2; cases h2
              | cons y ys => rw [hl2, hx, List.length_cons]; omega
            obtain ⟨nx, hnx⟩ : ∃ x, x = e2.1.1 := ⟨_, rfl⟩
            rw [← hnx] at HNX hlate
            have HL3 := Lib.hid hl2
            have HLE := Lib.hid hle
            clear h hz6 hb6 hE2r hE2l htk hjl hj h2 hnx hl2 hle
            go_wp2_with fail
            with_reducible refine (HNX.out).mono ?_
            rintro e w11 ⟨rfl, h11'⟩
            have h11 := HB6.out q E2 [] w11 h11'
            clear h11' HNX HB6
            -- behind all
            have HSZ := Lib.hid (HWT.out.size.trans HLE.out.symm)
            obtain ⟨Z8, h12, -⟩ := h11.open
            obtain ⟨Z9, hz9, -⟩ := h11.at2
            have hlen := own_len hz9
            rw [← HL3.out] at hlen
            have HLEN := Lib.hid hlen
            have H8 := Lib.hid h12
            have HO := Lib.hid (show Own [Old w] w11 from h11.rest.drop.drop.drop)
            clear h11 h12 hz9 hlen
            go_wp2_with fail
            with_reducible refine (HLEN.out).mono ?_
            rintro e w' ⟨rfl, rfl⟩
            go_wp2_with (at_len; refine wpList_guarded (by rfl) ?_; refine mapD_len _ rfl _ 52 rfl 3 33 Try.underlying52 (plainElem Try.prog 33) b m D rfl H8.out ?_; rw [HSZ.out])
            with_reducible refine (HLEN.out).mono ?_
            rintro e w' ⟨rfl, rfl⟩
            clear HLEN H8
            go_wp2_with fail
            with_reducible refine (awake_any HO.out).mono ?_
            rintro e w15 ⟨rfl, h15⟩
            have H15 := Lib.hid h15
            clear h15 HO
            go_wp2_with fail
            go_ret
            exact ⟨rfl, H15.out.ext (by simp)⟩
    · intro f c w8 cnt' hl hat h10 hlt hen
      as_aux_lemma =>
      obtain ⟨k, hmem, hkc⟩ := wt_hit HWT.out HEI.out.df hat
      have hst := due_step (now := now) HEI.out.df hmem hl
      rw [hkc, ← HDU.out] at hst
      have HM : Hid (w8.rangeLeft b r < wr.rangeLeft b r) := Lib.hid (by rw [h10.rg.left_eq, HCN.out]; exact hlt)
      have h11 := HBK4.out _ _ h10
      by_cases hc : c ≤ now
      · rw [if_pos hc] at hst
        have HX : Hid (DuI p1 q p2 b r m E E1 E2 D now (RI (.slice a2 L2 c2) M2 :: RI (.slice a1 L1 c1) M1 :: [Old w]) (.int .i64 ((du : Int) + 1)) w8) := Lib.hid ⟨_, _, by rw [hst]; rfl, h11⟩
        clear hl hat h10 hlt hmem hkc hst h11 HH H9 HBK4 HDU HCN
        go_wp2_with fail
        exact ⟨HX.out, HM.out⟩
      · rw [if_neg hc, Nat.add_zero] at hst
        have HX : Hid (DuI p1 q p2 b r m E E1 E2 D now (RI (.slice a2 L2 c2) M2 :: RI (.slice a1 L1 c1) M1 :: [Old w]) (.int .i64 (du : Int)) w8) := Lib.hid ⟨_, _, by rw [hst], h11⟩
        clear hl hat h10 hlt hmem hkc hst h11 HH H9 HBK4 HDU HCN
        go_wp2_with fail
        exact ⟨HX.out, HM.out⟩
end Go.Proofs.Ytlficiohenpghab.Dy
