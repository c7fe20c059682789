/- DERIVED. Layer 19 (delay): contracts of its calls. -/
import Derived.Test.YtlficiohenpghabDyA
set_option linter.unusedVariables false
set_option linter.unusedSimpArgs false
set_option maxRecDepth 100000
namespace Go.Proofs.Ytlficiohenpghab.Dy
open Go.RowKit Go.Maps Go.Proofs.Ytlficiohenpghab Go.Proofs.Ytlficiohenpghab.TreeP Go.Proofs.Ytlficiohenpghab.Tr Go.Proofs.Ytlficiohenpghab.Wk

/-- the head of a delay -/
abbrev BD (p t b n q : Nat) : HP := Go.Proofs.Ytlficiohenpghab.Blk p #[.pointer (some ⟨t, 0, none⟩), .map (some b), .int .i64 (n : Int), .int .u64 (q : Int)] 62
noncomputable abbrev MK (b m : Nat) (D : DataW Unit) : HP := MapD Try.prog 3 keyR b m D
/-- a delay for n flows, behind q puts -/
def DO (p n q : Nat) (E : List En) (l : List HP) (w : World) : Prop :=
  ∃ t b m D, Own (BD p t b n q :: Tree t n E :: MK b m D :: l) w ∧ Rel D E ∧ m ≤ q ∧ EI n q E ∧ 1 ≤ n ∧ n ≤ 4096
theorem DO.step {p n q : Nat} {E : List En} {l : List HP} {w w' : World} (h : DO p n q E l w) (hx : Ext w w') : DO p n q E l w' := by
  obtain ⟨t, b, m, D, h1, h2⟩ := h
  exact ⟨t, b, m, D, h1.step hx, h2⟩
theorem DO.rest {p n q : Nat} {E : List En} {l : List HP} {w : World} (h : DO p n q E l w) : Own l w := by
  obtain ⟨t, b, m, D, h1, h2⟩ := h
  exact h1.drop.drop.drop
theorem DO.ei {p n q : Nat} {E : List En} {l : List HP} {w : World} (h : DO p n q E l w) : EI n q E := by
  obtain ⟨t, b, m, D, h1, h2, h3, h4, h5⟩ := h
  exact h4
theorem own_rising {p room : Nat} {E : List En} {l : List HP} {w : World} (h : Own (Tree p room E :: l) w) : RisingE E ∧ E.length ≤ room := by
  obtain ⟨g, cap, fr, free, many, S, t, hl, hi, he, K, K2⟩ := tree_open h
  refine ⟨he ▸ hi.riseE, ?_⟩
  have := hi.cnt
  have := hi.mr
  rw [← he, List.length_map]
  omega
theorem DO.rise {p n q : Nat} {E : List En} {l : List HP} {w : World} (h : DO p n q E l w) : RisingE E ∧ E.length ≤ n := by
  obtain ⟨t, b, m, D, h1, h2⟩ := h
  exact own_rising h1.swap
theorem int_keyed' : Keyed Try.prog 3 := int_keyed Try.underlying3
theorem keyOf_int {f : Int} (h : (Lit.int .i64 f).wf = true) : keyOf Try.prog 3 (.int .i64 f) = some (fl f) := keyOf_int_mk Try.underlying3 h
theorem zeroK (w : World) : (zeroValue 68).run Try.prog w = .ok (Tr.key 0 0) w := by kernel_rfl
theorem keyR_at {D : DataW Unit} {E : List En} (h : Rel D E) (f : Int) : ∀ u ps, keyR u = some (D.atKey (fl f) (kd (0, 0)), ps) → u = Tr.key ((who E f).getD (0, 0)).1 ((who E f).getD (0, 0)).2 := fun u ps hu => by
  rw [h.at'] at hu
  exact keyR_inv hu
theorem Own.blk4g {l : List HP} {w : World} {b : Nat} {x y z u : Value} {t : TypeId} (h : Own (Go.Proofs.Ytlficiohenpghab.Blk b #[x, y, z, u] t :: l) w) :
    w.cell? ⟨b, 0, none⟩ = some x ∧ w.cell? ⟨b, 1, none⟩ = some y ∧ w.cell? ⟨b, 2, none⟩ = some z ∧ w.cell? ⟨b, 3, none⟩ = some u ∧ w.frozen? ⟨b, 3, none⟩ = false := by
  simp [World.cell?, World.frozen?, Go.Proofs.Ytlficiohenpghab.Own.blk h (.head _)]
theorem none_no {p t b n q : Nat} {l : List HP} {w : World} (h : Own (BD p t b n q :: l) w) :
    Calls Try.prog 28 #[.pointer (some ⟨p, 0, none⟩)] w fun e w' => e = .returned (.bool false) ∧ w = w' := by
  obtain ⟨c0, c1, c2, c3, -⟩ := Own.blk4g h
  clear h
  go_enter Try.func28, Try.ntmps28
  go_wp2
  go_ret
  exact ⟨rfl, rfl⟩
section
variable {p n q : Nat} {E : List En} {l : List HP} {w : World}
theorem own_at (h : DO p n q E l w) (f : Int) (hf : (Lit.int .i64 f).wf = true) :
    Calls Try.prog 19 #[.pointer (some ⟨p, 0, none⟩), .int .i64 f] w fun e w' => e = .returned (.tuple #[.int .u64 ((who E f).getD (0, 0)).1, .bool (who E f).isSome]) ∧ DO p n q E l w' := by
  obtain ⟨t, b, m, D, h1, h2, h3, h4, h5, h6⟩ := h
  obtain ⟨c0, c1, c2, c3, -⟩ := Own.blk4g h1
  have HNO := Lib.hid (none_no h1)
  have HM := Lib.hid (show Own (MK b m D :: BD p t b n q :: Tree t n E :: l) w from h1.third)
  have HA := Lib.hid (keyR_at h2 f)
  obtain ⟨B, hB⟩ : ∃ B, B = (who E f).isSome := ⟨_, rfl⟩
  obtain ⟨kx, hkx⟩ : ∃ k, k = (who E f).getD (0, 0) := ⟨_, rfl⟩
  have HB := Lib.hid ((h2.has f).trans hB.symm)
  rw [← hkx] at HA
  rw [← hB, ← hkx]
  have HD : Hid (∀ w', Ext w w' → DO p n q E l w') := Lib.hid fun w' hx => ⟨t, b, m, D, h1.step hx, h2, h3, h4, h5, h6⟩
  have HF := Lib.hid (keyOf_int hf)
  clear h1 h2 h3 h4 h5 h6 hB hkx hf
  go_enter Try.func19, Try.ntmps19
  go_wp2_with fail
  refine (HNO.out).mono ?_
  rintro e w' ⟨rfl, rfl⟩
  clear HNO
  go_wp2_with (at_lookup; refine mapD_look2 _ rfl _ _ 60 rfl 3 68 int_keyed' Try.underlying60 keyR (zeroK _) (kd (0, 0)) (keyR_mk (0, 0)) b m D rfl HM.out (.int .i64 f) (fl f) rfl HF.out (Tr.key kx.1 kx.2) HA.out B HB.out ?_)
  exact bodyPost_ret (v := .tuple #[.int .u64 kx.1, .bool B]) (by simp [results, Try.results19, go_sem]) rfl ⟨rfl, HD.out _ ((Ext.refl w).alloc _)⟩
theorem own_len (h : DO p n q E l w) :
    Calls Try.prog 23 #[.pointer (some ⟨p, 0, none⟩)] w fun e w' => e = .returned (.int .i64 (E.length : Nat)) ∧ w = w' := by
  obtain ⟨t, b, m, D, h1, -⟩ := h
  obtain ⟨c0, c1, c2, c3, -⟩ := Own.blk4g h1
  have HNO := Lib.hid (none_no h1)
  have HL := Lib.hid (Tr.own_len h1.swap)
  clear h1
  go_enter Try.func23, Try.ntmps23
  go_wp2_with fail
  refine (HNO.out).mono ?_
  rintro e w' ⟨rfl, rfl⟩
  go_wp2_with fail
  refine (HL.out).mono ?_
  rintro e w' ⟨rfl, rfl⟩
  go_wp2_with fail
  go_ret
  exact ⟨rfl, rfl⟩
theorem own_next (h : DO p n q E l w) :
    Calls Try.prog 21 #[.pointer (some ⟨p, 0, none⟩)] w fun e w' => e = .returned (.tuple #[.int .u64 ((E.head?.map (·.1.1)).getD 0), .bool E.head?.isSome]) ∧ DO p n q E l w' := by
  obtain ⟨t, b, m, D, h1, h2, h3, h4, h5, h6⟩ := h
  obtain ⟨c0, c1, c2, c3, -⟩ := Own.blk4g h1
  have HNO := Lib.hid (none_no h1)
  have HD : Hid (∀ w', Own (Tree t n E :: BD p t b n q :: MK b m D :: l) w' → DO p n q E l w') := Lib.hid fun w' h => ⟨t, b, m, D, h.swap, h2, h3, h4, h5, h6⟩
  cases hE : E.head? with
  | none =>
    have HF := Lib.hid (own_first_none h1.swap hE)
    clear h1 h2 h3 h4 h5 h6 hE
    go_enter Try.func21, Try.ntmps21
    go_wp2_with fail
    refine (HNO.out).mono ?_
    rintro e w' ⟨rfl, rfl⟩
    go_wp2_with fail
    refine (HF.out).mono ?_
    rintro e w1 ⟨rfl, h7⟩
    have HX := Lib.hid (HD.out _ (h7.step ((Ext.refl w1).alloc (.cells #[.int .u64 0, .int .u64 0, .int .i64 0] 78))))
    clear h7 HF
    go_wp2_with fail
    exact bodyPost_ret (v := .tuple #[.int .u64 0, .bool false]) (by simp [results, Try.results21, go_sem]) rfl ⟨rfl, HX.out⟩
  | some e0 =>
    obtain ⟨⟨ea, es⟩, ev⟩ := e0
    have HF := Lib.hid (own_first_some h1.swap hE)
    clear h1 h2 h3 h4 h5 h6 hE
    go_enter Try.func21, Try.ntmps21
    go_wp2_with fail
    refine (HNO.out).mono ?_
    rintro e w' ⟨rfl, rfl⟩
    go_wp2_with fail
    refine (HF.out).mono ?_
    rintro e w1 ⟨rfl, h7⟩
    have HX := Lib.hid (HD.out _ (h7.step ((Ext.refl w1).alloc (.cells #[.int .u64 ea, .int .u64 es, .int .i64 ev] 78))))
    clear h7 HF
    go_wp2_with fail
    exact bodyPost_ret (v := .tuple #[.int .u64 ea, .bool true]) (by simp [results, Try.results21, go_sem]) rfl ⟨rfl, HX.out⟩
theorem own_drop_no (h : DO p n q E l w) (f : Int) (hf : (Lit.int .i64 f).wf = true) (hw : who E f = none) :
    Calls Try.prog 14 #[.pointer (some ⟨p, 0, none⟩), .int .i64 f] w fun e w' => e = .returned (.bool false) ∧ DO p n q E l w' := by
  obtain ⟨t, b, m, D, h1, h2, h3, h4, h5, h6⟩ := h
  obtain ⟨c0, c1, c2, c3, -⟩ := Own.blk4g h1
  have HNO := Lib.hid (none_no h1)
  have HM := Lib.hid (show Own (MK b m D :: BD p t b n q :: Tree t n E :: l) w from h1.third)
  have ha := keyR_at h2 f
  have hb := h2.has f
  rw [hw] at ha hb
  have HA := Lib.hid ha
  have HB := Lib.hid hb
  have HD : Hid (∀ w', Ext w w' → DO p n q E l w') := Lib.hid fun w' hx => ⟨t, b, m, D, h1.step hx, h2, h3, h4, h5, h6⟩
  have HF := Lib.hid (keyOf_int hf)
  clear h1 h2 h3 h4 h5 h6 ha hb hf hw
  go_enter Try.func14, Try.ntmps14
  go_wp2_with fail
  refine (HNO.out).mono ?_
  rintro e w' ⟨rfl, rfl⟩
  clear HNO
  go_wp2_with (at_lookup; refine mapD_look2 _ rfl _ _ 60 rfl 3 68 int_keyed' Try.underlying60 keyR (zeroK _) (kd (0, 0)) (keyR_mk (0, 0)) b m D rfl HM.out (.int .i64 f) (fl f) rfl HF.out (Tr.key 0 0) HA.out false HB.out ?_)
  go_ret
  exact ⟨rfl, HD.out _ ((Ext.refl w).alloc _)⟩
theorem own_drop_yes (h : DO p n q E l w) (f : Int) (hf : (Lit.int .i64 f).wf = true) (k : Key) (hw : who E f = some k) :
    Calls Try.prog 14 #[.pointer (some ⟨p, 0, none⟩), .int .i64 f] w fun e w' => e = .returned (.bool true) ∧ DO p n q (del E k) l w' := by
  obtain ⟨t, b, m, D, h1, h2, h3, h4, h5, h6⟩ := h
  obtain ⟨c0, c1, c2, c3, -⟩ := Own.blk4g h1
  have HNO := Lib.hid (none_no h1)
  have HM := Lib.hid (show Own (MK b m D :: BD p t b n q :: Tree t n E :: l) w from h1.third)
  have hr := (own_rising h1.swap).1
  have ha := keyR_at h2 f
  have hb := h2.has f
  rw [hw] at ha hb
  have HA := Lib.hid ha
  have HB := Lib.hid hb
  have hmem := (who_iff h4.df).1 hw
  have hlook : Tr.look E k = some f := look_mem hr hmem
  have hsub : (del E k).Sublist E := List.filter_sublist
  have HD : Hid (∀ w', Own (MK b m (D.del (fl f)) :: BD p t b n q :: Tree t n (del E k) :: l) w' → DO p n q (del E k) l w') := Lib.hid fun w' h => ⟨t, b, m, _, h.swap.tail OwnIn.swap, rel_del h2 f (who_out h4.df hsub (mem_del h4.df hr hmem)), h3, h4.sub hsub, h5, h6⟩
  have hA : Own (Tree t n E :: Go.Proofs.Ytlficiohenpghab.Blk w.heap.size #[.int .u64 k.1, .int .u64 k.2] 68 :: BD p t b n q :: MK b m D :: l) (w.alloc (.cells #[.int .u64 k.1, .int .u64 k.2] 68)) := (Go.Proofs.Ytlficiohenpghab.Own.blkNew h1 #[.int .u64 k.1, .int .u64 k.2] 68).third
  obtain ⟨kb, hkb⟩ : ∃ b, b = w.heap.size := ⟨_, rfl⟩
  rw [← hkb] at hA
  have HS : Hid (∀ E' w', Own (Tree t n E' :: Go.Proofs.Ytlficiohenpghab.Blk kb #[.int .u64 k.1, .int .u64 k.2] 68 :: BD p t b n q :: MK b m D :: l) w' → w'.cell? ⟨p, 0, none⟩ = some (.pointer (some ⟨t, 0, none⟩)) ∧ w'.cell? ⟨kb, 0, none⟩ = some (.int .u64 k.1) ∧ w'.cell? ⟨kb, 1, none⟩ = some (.int .u64 k.2)) := Lib.hid fun E' w' h' => by
    have hk := Go.Proofs.Ytlficiohenpghab.Own.blk h' (.tail _ (.head _))
    have hp := Go.Proofs.Ytlficiohenpghab.Own.blk h' (.tail _ (.tail _ (.head _)))
    simp [World.cell?, hk, hp]
  have HKB := Lib.hid hkb
  have HS0 := Lib.hid (HS.out _ _ (hA.step (Ext.refl _).drew))
  have HDR := Lib.hid (own_drop' (x := f) (b := true) (hA.step (Ext.refl _).drew) (by rw [hlook]; rfl) (by rw [hlook]; rfl) rfl)
  have HF := Lib.hid (keyOf_int hf)
  have hm : m ≤ q := h3
  clear h1 h2 h3 h4 h5 h6 ha hb hf hw hr hmem hlook hsub hA hkb
  go_enter Try.func14, Try.ntmps14
  go_wp2_with fail
  refine (HNO.out).mono ?_
  rintro e w' ⟨rfl, rfl⟩
  clear HNO
  go_wp2_with (at_lookup; refine mapD_look2 _ rfl _ _ 60 rfl 3 68 int_keyed' Try.underlying60 keyR (zeroK _) (kd (0, 0)) (keyR_mk (0, 0)) b m D rfl HM.out (.int .i64 f) (fl f) rfl HF.out (Tr.key k.1 k.2) HA.out true HB.out ?_)
  rw [← HKB.out]
  go_region_held3 (fun w' => w'.cell? ⟨p, 0, none⟩ = some (.pointer (some ⟨t, 0, none⟩)) ∧ w'.cell? ⟨kb, 0, none⟩ = some (.int .u64 k.1) ∧ w'.cell? ⟨kb, 1, none⟩ = some (.int .u64 k.2))
    (first | exact HS0.out | exact HS.out _ _ (by assumption))
    (first
      | (go_at_call 30; (with_reducible refine (HDR.out).mono ?_); rintro e w6 ⟨rfl, hz⟩))
  all_goals go_split_ands
  have h7 : Own (MK b m D :: Tree t n (del E k) :: Go.Proofs.Ytlficiohenpghab.Blk kb #[.int .u64 k.1, .int .u64 k.2] 68 :: BD p t b n q :: l) w6 := hz.fourth
  have HM2 := Lib.hid h7
  obtain ⟨d0, d1⟩ : w6.cell? ⟨p, 1, none⟩ = some (.map (some b)) ∧ True := by
    have hp := Go.Proofs.Ytlficiohenpghab.Own.blk h7 (.tail _ (.tail _ (.tail _ (.head _))))
    simp [World.cell?, hp]
  clear hz h7 HDR HS HM HA HB HS0
  go_wp2_with (at_delete; refine mapD_del _ rfl _ _ 60 3 rfl 68 int_keyed' Try.underlying60 keyR b m D rfl HM2.out (.int .i64 f) (fl f) rfl HF.out ?_)
  intro w7 h8
  have HX := Lib.hid (HD.out _ (h8.third.drop.tail OwnIn.swap))
  clear h8
  go_wp2_with fail
  go_ret
  exact ⟨rfl, HX.out⟩
end
end Go.Proofs.Ytlficiohenpghab.Dy
