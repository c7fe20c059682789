/- DERIVED. Layer 19 (delay): contract of waiting: a map from flows to instants. -/
import Derived.Test.YtlficiohenpghabDyH
import Derived.Test.YtlficiohenpghabTBa
set_option linter.unusedVariables false
set_option linter.unusedSimpArgs false
set_option maxRecDepth 100000
namespace Go.Proofs.Ytlficiohenpghab.Dy
open Go.RowKit Go.Maps Go.Proofs.Ytlficiohenpghab Go.Proofs.Ytlficiohenpghab.TreeP Go.Proofs.Ytlficiohenpghab.Tr Go.Proofs.Ytlficiohenpghab.Wk

/-- something of one's own beside a delay -/
theorem DO.open {p n q : Nat} {E : List En} {P : HP} {l : List HP} {w : World} (h : DO p n q E (P :: l) w) : ∃ Z, Own (P :: Z) w ∧ ∀ (P' : HP) (w' : World), Own (P' :: Z) w' → DO p n q E (P' :: l) w' := by
  obtain ⟨t, b, m, D, h1, h2⟩ := h
  exact ⟨_, h1.fourth, fun P' w' h' => ⟨t, b, m, D, h'.back4, h2⟩⟩
noncomputable abbrev MW (b m : Nat) (D : DataW Unit) : HP := MapD Try.prog 3 (plainElem Try.prog 33) b m D
abbrev ul (a : Int) : DataW Unit := .lit (.int .u64 a)
/-- a map that tells who waits, of the flows below k -/
structure WtK (D : DataW Unit) (E : List En) (k : Int) : Prop where
  tidy : Tidy D
  has : ∀ g : Int, Maps.has D (fl g) = (decide (0 ≤ g ∧ g < k) && (who E g).isSome)
  val : ∀ g : Int, D.atKey (fl g) (ul 0) = ul (if 0 ≤ g ∧ g < k then ((who E g).getD (0, 0)).1 else 0)
  size : Maps.size D = (E.filter fun e => decide (e.2 < k)).length
theorem flt_succ (k : Int) : ∀ {E : List En}, DF E → (E.filter fun e => decide (e.2 < k + 1)).length = (E.filter fun e => decide (e.2 < k)).length + (if (who E k).isSome then 1 else 0)
  | [], _ => rfl
  | e :: E, h => by
    unfold DF at h
    rw [List.pairwise_cons] at h
    have ih := flt_succ k (E := E) h.2
    by_cases h1 : e.2 = k
    · have hn : who E k = none := who_none.2 fun x hx => by
        have := h.1 x hx
        rw [h1] at this
        exact this.symm
      have hw : who (e :: E) k = some e.1 := by unfold who; rw [List.find?_cons_of_pos (by simpa using h1)]; rfl
      rw [hn] at ih
      rw [hw, List.filter_cons_of_pos (by simp; omega), List.filter_cons_of_neg (by simp; omega), List.length_cons]
      simp at ih ⊢
      exact ih
    · have hw : who (e :: E) k = who E k := by unfold who; rw [List.find?_cons_of_neg (by simpa using h1)]
      rw [hw]
      by_cases h2 : e.2 < k
      · rw [List.filter_cons_of_pos (by simp; omega), List.filter_cons_of_pos (by simpa using h2), List.length_cons, List.length_cons, ih]
        omega
      · rw [List.filter_cons_of_neg (by simp; omega), List.filter_cons_of_neg (by simpa using h2), ih]
theorem wtk_nil (E : List En) (h : ∀ e ∈ E, 0 ≤ e.2) : WtK (.map []) E 0 := by
  refine ⟨tidy_empty, fun g => ?_, fun g => ?_, ?_⟩
  · have : decide (0 ≤ g ∧ g < 0) = false := decide_eq_false (by omega)
    rw [this]
    rfl
  · rw [if_neg (by omega)]
    rfl
  · rw [List.filter_eq_nil_iff.2 (fun e he => by have := h e he; simp; omega)]
    rfl
theorem wtk_no {D : DataW Unit} {E : List En} {k : Int} (h : WtK D E k) (hd : DF E) (hw : who E k = none) : WtK D E (k + 1) := by
  refine ⟨h.tidy, fun g => ?_, fun g => ?_, ?_⟩
  · rw [h.has]
    by_cases e : g = k
    · subst e; rw [hw]; simp
    · have : (0 ≤ g ∧ g < k) ↔ (0 ≤ g ∧ g < k + 1) := by omega
      simp [this]
  · rw [h.val]
    by_cases e : g = k
    · subst e
      rw [hw, if_neg (by omega)]
      split <;> rfl
    · by_cases h1 : 0 ≤ g ∧ g < k
      · rw [if_pos h1, if_pos (by omega)]
      · rw [if_neg h1, if_neg (by omega)]
  · rw [h.size, flt_succ k hd, hw]
    simp
theorem wtk_yes {D : DataW Unit} {E : List En} {k : Int} {q : Key} (h : WtK D E k) (hd : DF E) (h0 : 0 ≤ k) (hw : who E k = some q) : WtK (D.put (fl k) (ul q.1)) E (k + 1) := by
  refine ⟨h.tidy.put (fl_key k) _, fun g => ?_, fun g => ?_, ?_⟩
  · by_cases e : g = k
    · subst e
      rw [has_put_same h.tidy.isMap (fl_key _), hw]
      simp
      omega
    · rw [has_put_other (fun e' => e (fl_inj e')), h.has]
      have : (0 ≤ g ∧ g < k) ↔ (0 ≤ g ∧ g < k + 1) := by omega
      simp [this]
  · by_cases e : g = k
    · subst e
      rw [atKey_put_same h.tidy.isMap (fl_key _), if_pos (by omega), hw]
      rfl
    · rw [atKey_put_other (fun e' => e (fl_inj e')), h.val]
      by_cases h1 : 0 ≤ g ∧ g < k
      · rw [if_pos h1, if_pos (by omega)]
      · rw [if_neg h1, if_neg (by omega)]
  · have hh : Maps.has D (fl k) = false := by
      rw [h.has]
      have : decide (0 ≤ k ∧ k < k) = false := decide_eq_false (by omega)
      rw [this]
      rfl
    rw [size_put h.tidy, hh, h.size, flt_succ k hd, hw]
    simp
/-- a map that tells who waits -/
structure Wt (D : DataW Unit) (E : List En) : Prop where
  tidy : Tidy D
  has : ∀ g : Int, Maps.has D (fl g) = (who E g).isSome
  val : ∀ g : Int, D.atKey (fl g) (ul 0) = ul ((who E g).getD (0, 0)).1
  size : Maps.size D = E.length
theorem WtK.all {D : DataW Unit} {E : List En} {n q : Nat} (h : WtK D E (n : Int)) (he : EI n q E) : Wt D E := by
  refine ⟨h.tidy, fun g => ?_, fun g => ?_, ?_⟩
  · rw [h.has]
    by_cases h1 : 0 ≤ g ∧ g < (n : Int)
    · simp [h1]
    · have : who E g = none := who_none.2 fun e hm => by
        have := he.flow e hm
        intro h2
        omega
      rw [this]
      simp
  · rw [h.val]
    by_cases h1 : 0 ≤ g ∧ g < (n : Int)
    · rw [if_pos h1]
    · have : who E g = none := who_none.2 fun e hm => by
        have := he.flow e hm
        intro h2
        omega
      rw [if_neg h1, this]
      rfl
  · rw [h.size, List.filter_eq_self.2 (fun e hm => by simpa using (he.flow e hm).2)]
/-- without one flow -/
theorem Wt.del {D : DataW Unit} {E : List En} {f : Int} {k : Key} (h : Wt D E) (hd : DF E) (hr : RisingE E) (hw : who E f = some k) : Wt (D.del (fl f)) (del E k) := by
  have hmem := (who_iff hd).1 hw
  have ho := who_out hd (E' := Tr.del E k) List.filter_sublist (mem_del hd hr hmem)
  refine ⟨h.tidy.del _, fun g => ?_, fun g => ?_, ?_⟩
  · rw [ho]
    by_cases e : g = f
    · subst e
      rw [if_pos rfl, has_del_same]
      rfl
    · rw [if_neg e, has_del_other (fun e' => e (fl_inj e')), h.has]
  · rw [ho]
    by_cases e : g = f
    · subst e
      rw [if_pos rfl, atKey_del_same]
      rfl
    · rw [if_neg e, atKey_del_other (fun e' => e (fl_inj e')), h.val]
  · have h1 := size_del (k := fl f) h.tidy
    rw [h.has, hw, h.size] at h1
    obtain ⟨i, hi⟩ := List.getElem?_of_mem hmem
    have h2 := (drop_there hr (List.Perm.refl E) hi).2.2.2
    simp only at h2
    simp at h1
    omega
theorem u64_at {D : DataW Unit} {f x : Int} (h : D.atKey (fl f) (ul 0) = ul x) : ∀ u ps, plainElem Try.prog 33 u = some (D.atKey (fl f) (ul 0), ps) → u = .int .u64 x := fun u ps hu => by
  rw [h] at hu
  obtain ⟨c, rfl, hc, _⟩ := plainElem_int_inv Try.underlying33 hu
  have := congrArg Prod.fst hc
  simp only at this
  injection this with this
  injection this with _ this
  rw [this]
theorem zeroU (w : World) : (zeroValue 33).run Try.prog w = .ok (.int .u64 0) w := by kernel_rfl
theorem u64_mk {x : Int} (h : (Lit.int .u64 x).wf = true) : plainElem (H := Unit) Try.prog 33 (.int .u64 x) = some (ul x, []) := plainElem_int Try.underlying33 h
theorem i64_wf12 {k : Nat} (h : k ≤ 5000) : (Lit.int .i64 (k : Int)).wf = true := by
  simp [Lit.wf, IntKind.min, IntKind.max, IntKind.signed, IntKind.bits]
  omega
theorem u64_wfe {n q : Nat} {E : List En} (h : EI n q E) {f : Int} {k : Key} (hw : who E f = some k) : (Lit.int .u64 k.1).wf = true := by
  have hm := (who_iff h.df).1 hw
  have h1 := (h.key _ hm).1
  have h2 := h.top _ hm
  simp only at h1 h2
  simp [Lit.wf, IntKind.min, IntKind.max, IntKind.signed, IntKind.bits]
  omega
section
variable {p q : Nat} {E : List En} {l : List HP} {w : World}
/-- the loop of waiting -/
def WtI (p q b : Nat) (E : List En) (l : List HP) (vi : Value) (wr : World) : Prop :=
  ∃ (k m : Nat) (D : DataW Unit), vi = .int .i64 (k : Int) ∧ k ≤ 12 ∧ m ≤ k ∧ WtK D E (k : Int) ∧ DO p 12 q E (MW b m D :: l) wr
set_option maxHeartbeats 4000000 in
theorem own_waiting (h : DO p 12 q E l w) :
    Calls Try.prog 25 #[.pointer (some ⟨p, 0, none⟩)] w fun e w' => ∃ (b m : Nat) (D : DataW Unit), e = .returned (.map (some b)) ∧ m ≤ 12 ∧ Wt D E ∧ DO p 12 q E (MW b m D :: l) w' := by
  have hmm := @run_makeMap Try.prog
  have hei := h.ei
  have h0 : DO p 12 q E (MW w.heap.size 0 (.map []) :: l) (w.alloc (.map #[] 0)) := by
    obtain ⟨t, b, m, D, h1, h2⟩ := h
    exact ⟨t, b, m, D, (Own.mapDNew (P := Try.prog) 3 (plainElem Try.prog 33) h1).back4, h2⟩
  obtain ⟨b, hb⟩ : ∃ b, b = w.heap.size := ⟨_, rfl⟩
  rw [← hb] at h0
  have H0 : Hid (WtI p q b E l (.int .i64 0) (w.alloc (.map #[] 0))) := Lib.hid ⟨0, 0, _, rfl, by omega, Nat.le_refl _, wtk_nil E (fun e he => (hei.flow e he).1), h0⟩
  have HEI := Lib.hid hei
  have HB := Lib.hid hb
  clear h h0 hei hb
  go_enter Try.func25, Try.ntmps25
  go_wp2_with fail
  rw [← HB.out]
  go_loopw [8] (fun vi wr => WtI p q b E l vi wr) (fun vi _ => 12 - (intOf vi).toNat)
  case atStart => exact H0.out
  case round =>
    clear H0 HB
    obtain ⟨k, m, D, rfl, hk, hm, hwt, h⟩ := hrel
    by_cases hlt : k < 12
    · have hltI : (k : Int) < 12 := by omega
      have hat := own_at h (k : Int) (i64_wf12 (by omega))
      have HK := Lib.hid (i64_wf12 (k := k) (by omega))
      have HW := Lib.hid hwt
      cases hw : who E (k : Int) with
      | none =>
        rw [hw] at hat
        have HAT := Lib.hid hat
        have HWN := Lib.hid (wtk_no hwt HEI.out.df hw)
        clear h hat hwt hw
        go_wp2_with fail
        refine (HAT.out).mono ?_
        rintro e w3 ⟨rfl, h3⟩
        have HX : Hid (WtI p q b E l (.int .i64 ((k : Int) + 1)) w3) := Lib.hid ⟨k + 1, m, D, by go_num, by omega, by omega, by have := HWN.out; rw [Int.natCast_add]; exact this, h3⟩
        clear h3 HAT
        go_wp2_with fail
        exact ⟨HX.out, by simp [intOf]; omega⟩
      | some kq =>
        rw [hw] at hat
        have HAT := Lib.hid hat
        have HWN := Lib.hid (wtk_yes hwt HEI.out.df (by omega) hw)
        have HU := Lib.hid (u64_mk (u64_wfe HEI.out hw))
        clear h hat hwt hw
        go_wp2_with fail
        refine (HAT.out).mono ?_
        rintro e w3 ⟨rfl, h3⟩
        obtain ⟨Z, h4, hback⟩ := h3.open
        have H4 := Lib.hid h4
        have HBK := Lib.hid hback
        clear h3 HAT h4 hback
        go_wp2_with (at_mapUpdate; refine mapD_put _ rfl _ _ _ 52 rfl 3 33 int_keyed' Try.underlying52 (plainElem Try.prog 33) b m D rfl H4.out (by unfold maxLen; omega) (.int .i64 (k : Int)) (fl (k : Int)) rfl (keyOf_int HK.out) (.int .u64 kq.1) rfl (ul kq.1) [] HU.out ?_)
        intro w4 h5
        have HX : Hid (WtI p q b E l (.int .i64 ((k : Int) + 1)) w4) := Lib.hid ⟨k + 1, m + 1, _, by go_num, by omega, by omega, by have := HWN.out; rw [Int.natCast_add]; exact this, HBK.out _ _ h5⟩
        clear h5 H4 HBK
        go_wp2_with fail
        exact ⟨HX.out, by simp [intOf]; omega⟩
    · obtain rfl : k = 12 := by omega
      have H := Lib.hid h
      have HW := Lib.hid (WtK.all hwt HEI.out)
      clear h hlt hk hwt
      go_wp2_with fail
      go_ret
      exact ⟨_, _, _, rfl, by omega, HW.out, H.out⟩
end
end Go.Proofs.Ytlficiohenpghab.Dy
