/- DERIVED. Layer 19 (delay): the law DelayNext. -/
import Derived.Test.YtlficiohenpghabDyJ
import Derived.Test.YtlficiohenpghabMapR
set_option linter.unusedVariables false
set_option linter.unusedSimpArgs false
set_option maxRecDepth 100000
namespace Go.Proofs.Ytlficiohenpghab.Dy
open Go.RowKit Go.Maps Go.Proofs.Ytlficiohenpghab Go.Proofs.Ytlficiohenpghab.TreeP Go.Proofs.Ytlficiohenpghab.Tr Go.Proofs.Ytlficiohenpghab.Wk

noncomputable abbrev RG (b r m : Nat) (D : DataW Unit) (left : Lit → Bool) (cnt : Nat) : HP := MapRg Try.prog 3 (plainElem Try.prog 33) b r m D left cnt
/-- the earliest instant, and that somebody waits -/
theorem head_le {E : List En} (hr : RisingE E) {k : Key} {f : Int} (hm : (k, f) ∈ E) : ∃ e, E.head? = some e ∧ e.1.1 ≤ k.1 := by
  cases E with
  | nil => cases hm
  | cons e E =>
    refine ⟨e, rfl, ?_⟩
    unfold RisingE at hr
    rw [List.pairwise_cons] at hr
    rcases List.mem_cons.1 hm with h | hm
    · rw [← h]; exact Int.le_refl _
    · exact lt_fst (hr.1 _ hm)
/-- who is told of a map that tells who waits -/
theorem wt_hit {D : DataW Unit} {E : List En} (h : Wt D E) (hd : DF E) {f c : Int} (ha : ∀ zd, D.atKey (fl f) zd = ul c) : ∃ k : Key, (k, f) ∈ E ∧ k.1 = c := by
  have hh : Maps.has D (fl f) = true := has_true_of_atKey ha
  rw [h.has] at hh
  cases hw : who E f with
  | none => rw [hw] at hh; cases hh
  | some k =>
    refine ⟨k, (who_iff hd).1 hw, ?_⟩
    have := (h.val f).symm.trans (ha (ul 0))
    rw [hw] at this
    injection this with this
    injection this with _ this
/-- nobody ahead of the earliest instant -/
theorem upto_early {E : List En} (hr : RisingE E) {e : En} (he : E.head? = some e) {now : Int} (hn : now < e.1.1) : uptoL E now = [] := by
  unfold uptoL
  rw [List.filter_eq_nil_iff]
  intro x hx
  obtain ⟨e', h1, h2⟩ := head_le hr (k := x.1) (f := x.2) hx
  rw [he] at h1
  injection h1 with h1
  subst h1
  simp
  omega
theorem upto_head {E : List En} {e : En} (he : E.head? = some e) : ((uptoL E e.1.1).take (1 : Int).toNat).length = 1 := by
  cases E with
  | nil => cases he
  | cons x E =>
    injection he with he
    subst he
    unfold uptoL
    rw [List.filter_cons_of_pos (by simp)]
    rfl
def NxI (w : World) (p q b r m : Nat) (E : List En) (D : DataW Unit) (nx : Int) (s9 : Value) (wr : World) : Prop :=
  ∃ (F : Bool) (left : Lit → Bool) (cnt : Nat), s9 = .bool F ∧ (F = true → E ≠ []) ∧ (F = false → ∀ (k : Key) (f : Int), (k, f) ∈ E → k.1 = nx → left (fl f) = true) ∧ DO p 12 q E (RG b r m D left cnt :: [Old w]) wr
theorem sameKey_fl {f g : Int} (h : g ≠ f) : (fl g).sameKey (fl f) = false := sameKey_ne (fun e => h (fl_inj e))
set_option maxHeartbeats 8000000 in
theorem next_row (v : Value) (less : Int) (x : Nat × (Nat → DOp)) (wf2 : (Lit.int .u64 less).wf = true) (w : World) (ho : Ops2 w v x) :
    Calls Try.prog 7 #[v, .int .u64 less] w fun e w' => e = .returned (.bool true) ∧ Ext w w' := by
  obtain ⟨n, fs⟩ := x
  have hp := played_any v n fs ho (Own.start w) (.head _)
  have hq0 := play_le 12 fs (min n 50)
  obtain ⟨X, hX⟩ : ∃ X, X = playD 12 fs (min n 50) := ⟨_, rfl⟩
  rw [← hX] at hp hq0
  obtain ⟨q, E⟩ := X
  have HP := Lib.hid hp
  have HLS : Hid (0 ≤ less ∧ less < 18446744073709551616) := Lib.hid (by have := u64_bd wf2; omega)
  obtain ⟨-, a, cap, rfl, -⟩ := ho
  clear hp hq0 hX wf2
  go_enter Try.func7, Try.ntmps7
  go_wp2_with fail
  refine (HP.out).mono ?_
  rintro e w1 ⟨p, rfl, h1⟩
  have hei := h1.ei
  have hri := h1.rise.1
  obtain ⟨nx, hnx⟩ : ∃ x, x = (E.head?.map (·.1.1)).getD 0 := ⟨_, rfl⟩
  obtain ⟨B, hB⟩ : ∃ b, b = E.head?.isSome := ⟨_, rfl⟩
  have HN := Lib.hid (next' h1 hnx.symm hB.symm)
  have HEI := Lib.hid hei
  have HRI := Lib.hid hri
  have HNX := Lib.hid hnx
  have HB := Lib.hid hB
  clear h1 HP hei hri hnx hB
  go_wp2_with fail
  refine (HN.out).mono ?_
  rintro e w2 ⟨rfl, h2⟩
  have HWA := Lib.hid (own_waiting h2)
  clear h2 HN
  go_wp2_with fail
  refine (HWA.out).mono ?_
  rintro e w3 ⟨b, m, D, rfl, hm, hwt, h3⟩
  obtain ⟨Z, h4, hback⟩ := h3.open
  have H4 := Lib.hid h4
  have HBK := Lib.hid hback
  have HWT := Lib.hid hwt
  clear h3 h4 hback hwt HWA
  go_wp2_with (refine mapR_range _ rfl _ 52 rfl 3 33 int_keyed' Try.underlying52 (plainElem Try.prog 33) b m D rfl H4.out ?_)
  -- BEHIND range
  intro r w4 h5
  have H5 : Hid (NxI w p q b r m E D nx (.bool false) w4) := Lib.hid ⟨false, _, _, rfl, fun h => (by cases h), fun _ k f hm _ => by
    rw [HWT.out.has, (who_iff HEI.out.df).2 hm]
    rfl, HBK.out _ _ h5⟩
  clear h5 HBK H4
  go_wp2_with fail
  go_loopw [9] (fun s9 wr => NxI w p q b r m E D nx s9 wr) (fun _ w' => w'.rangeLeft b r)
  case atStart => exact H5.out
  case round =>
    clear H5
    obtain ⟨F, left, cnt, rfl, hF1, hF2, h⟩ := hrel
    obtain ⟨Z2, h6, hback2⟩ := h.open
    have H6 := Lib.hid h6
    have HBK2 := Lib.hid hback2
    have HCN := Lib.hid h6.rg.left_eq
    have HH := Lib.hid h
    have HF1 := Lib.hid hF1
    have HF2 := Lib.hid hF2
    clear h h6 hback2 hF1 hF2
    go_wp2_with (refine mapR_next _ rfl _ rfl 3 33 .i64 .u64 int_keyed' Try.underlying3 Try.underlying33 b r m D left cnt rfl H6.out ?_ ?_)
    · intro hleft
      as_aux_lemma =>
      have h := HH.out
      cases he : E.head? with
      | none =>
        obtain rfl : E = [] := List.head?_eq_none_iff.1 he
        obtain rfl : nx = 0 := by rw [HNX.out]; rfl
        obtain rfl : B = false := by rw [HB.out]; rfl
        obtain rfl : F = false := by
          cases F with
          | false => rfl
          | true => exact absurd rfl (HF1.out rfl)
        have HLEN := Lib.hid (own_len h)
        have HWK := Lib.hid (wake' (now := 18446744073709551615) (most := 12) (M := []) (E' := []) h (by omega) rfl rfl)
        clear h he hleft HH H6 HBK2 HCN HF1 HF2
        go_wp2_with fail
        refine (HLEN.out).mono ?_
        rintro e w7 ⟨rfl, rfl⟩
        clear HLEN
        go_wp2_with fail
        refine (HWK.out).mono ?_
        rintro e w8 ⟨a8, c8, rfl, h8⟩
        have HO := Lib.hid (show Own [Old w] w8 from h8.rest.drop.drop)
        clear h8 HWK
        go_wp2_with fail
        refine (awake_any HO.out).mono ?_
        rintro e w10 ⟨rfl, h10⟩
        have H10 := Lib.hid h10
        clear h10
        go_wp2_with fail
        go_ret
        exact ⟨rfl, H10.out.ext (by simp)⟩
      | some e0 =>
        obtain rfl : B = true := by rw [HB.out, he]; rfl
        have hne : nx = e0.1.1 := by rw [HNX.out, he]; rfl
        obtain rfl : F = true := by
          cases F with
          | true => rfl
          | false =>
            have hm : (e0.1, e0.2) ∈ E := List.mem_of_mem_head? (by rw [he]; rfl)
            have := HF2.out rfl _ _ hm hne.symm
            rw [hleft] at this
            cases this
        have hnx0 : 0 ≤ nx := by
          have hm : e0 ∈ E := List.mem_of_mem_head? (by rw [he]; rfl)
          rw [hne]
          exact (HEI.out.key e0 hm).1
        have HNE := Lib.hid hne
        have HE0 := Lib.hid he
        by_cases hz0 : 0 < nx
        · have hr0 := Int.tmod_nonneg nx HLS.out.1
          have hr1 := Int.tmod_lt_of_pos less hz0
          obtain ⟨rm, hrm⟩ : ∃ rm, Int.tmod less nx = rm := ⟨_, rfl⟩
          rw [hrm] at hr0 hr1
          have nxt : nx < 18446744073709551616 := by
            have hm : e0 ∈ E := List.mem_of_mem_head? (by rw [he]; rfl)
            rw [hne]
            exact HEI.out.top e0 hm
          have w1' : IntKind.u64.wrap (nx - 1) = nx - 1 := by rw [IntKind.wrap_u64]; omega
          have w2' : IntKind.u64.wrap (nx - 1 - rm) = nx - 1 - rm := by rw [IntKind.wrap_u64]; omega
          have nz : ¬ nx = 0 := by omega
          have HWK0 := Lib.hid (wake' (now := nx - 1 - rm) (most := 12) (M := []) (E' := E) h (by omega) (by rw [upto_early HRI.out he (by omega)]; rfl) rfl)
          clear h hleft HH H6 HBK2 HCN HF1 HF2 hr0 hr1 nxt hnx0 hne he
          go_wp2_with fail
          with_reducible refine (HWK0.out).mono ?_
          rintro e w7 ⟨a7, c7, rfl, hz⟩
          clear HWK0
          -- hz : DO p 12 q E l _ ; the last Wake
          have HWK := Lib.hid (own_wake hz nx 1 (by omega) _ rfl)
          clear hz
          go_wp2_with fail
          with_reducible refine (HWK.out).mono ?_
          rintro e w8 ⟨v8, rfl, h8⟩
          obtain ⟨a8, c8, rfl⟩ := h8.rest.rowR.slice
          have hlen : ((uptoL E nx).take (1 : Int).toNat).length = 1 := by rw [HNE.out]; exact upto_head HE0.out
          rw [hlen] at h8 ⊢
          have HO := Lib.hid (show Own [Old w] w8 from h8.rest.drop.drop.drop)
          clear h8 HWK
          go_wp2_with fail
          refine (awake_any HO.out).mono ?_
          rintro e w10 ⟨rfl, h10⟩
          have H10 := Lib.hid h10
          clear h10
          go_wp2_with fail
          go_ret
          exact ⟨rfl, H10.out.ext (by simp)⟩
        · have hz := h
          clear h hleft HH H6 HBK2 HCN HF1 HF2 hnx0 hne he
          -- hz : DO p 12 q E l _ ; the last Wake
          have HWK := Lib.hid (own_wake hz nx 1 (by omega) _ rfl)
          clear hz
          go_wp2_with fail
          with_reducible refine (HWK.out).mono ?_
          rintro e w8 ⟨v8, rfl, h8⟩
          obtain ⟨a8, c8, rfl⟩ := h8.rest.rowR.slice
          have hlen : ((uptoL E nx).take (1 : Int).toNat).length = 1 := by rw [HNE.out]; exact upto_head HE0.out
          rw [hlen] at h8 ⊢
          have HO := Lib.hid (show Own [Old w] w8 from h8.rest.drop.drop)
          clear h8 HWK
          go_wp2_with fail
          refine (awake_any HO.out).mono ?_
          rintro e w10 ⟨rfl, h10⟩
          have H10 := Lib.hid h10
          clear h10
          go_wp2_with fail
          go_ret
          exact ⟨rfl, H10.out.ext (by simp)⟩
    · intro f c w5 cnt' hl hat h7 hlt hen
      as_aux_lemma =>
      obtain ⟨k, hmem, hkc⟩ := wt_hit HWT.out HEI.out.df hat
      obtain ⟨e0, he0, hle⟩ := head_le HRI.out hmem
      have hne : nx = e0.1.1 := by rw [HNX.out, he0]; rfl
      have hcn : ¬ c < nx := by omega
      have HM : Hid (w5.rangeLeft b r < wr.rangeLeft b r) := Lib.hid (by rw [h7.rg.left_eq, HCN.out]; exact hlt)
      have hE : E ≠ [] := by rintro rfl; cases hmem
      have h8 := HBK2.out _ _ h7
      by_cases hF : F = true ∨ c = nx
      · have HX : Hid (NxI w p q b r m E D nx (.bool true) w5) := Lib.hid ⟨true, _, cnt', rfl, fun _ => hE, fun h => (by cases h), h8⟩
        cases F with
        | true =>
          clear hl hat h7 hlt hmem he0 hle hE h8 hkc hF HH H6 HBK2 HF1 HF2 HCN hne
          go_wp2_with fail
          exact ⟨HX.out, HM.out⟩
        | false =>
          obtain rfl : c = nx := by rcases hF with h | h; cases h; exact h
          have cc : (c == c) = true := by simp
          clear hl hat h7 hlt hmem he0 hle hE h8 hkc hF HH H6 HBK2 HF1 HF2 HCN hne
          go_wp2_with fail
          exact ⟨HX.out, HM.out⟩
      · obtain rfl : F = false := by cases F; rfl; exact absurd (.inl rfl) hF
        have hcx : c ≠ nx := fun e => hF (.inr e)
        have HX : Hid (NxI w p q b r m E D nx (.bool false) w5) := Lib.hid ⟨false, _, cnt', rfl, fun h => (by cases h), fun _ k' f' hm' hk' => by
          have hff : f' ≠ f := by
            rintro rfl
            have := df_one HEI.out.df hm' hmem
            subst this
            exact hcx (by rw [← hkc, hk'])
          rw [HF2.out rfl k' f' hm' hk', sameKey_fl hff]
          rfl, h8⟩
        have cc : (c == nx) = false := by simp [hcx]
        clear hl hat h7 hlt hmem he0 hle hE h8 hkc hF hcx HH H6 HBK2 HF1 HF2 HCN hne
        go_wp2_with fail
        exact ⟨HX.out, HM.out⟩
end Go.Proofs.Ytlficiohenpghab.Dy
