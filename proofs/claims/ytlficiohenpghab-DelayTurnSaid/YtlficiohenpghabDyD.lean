/- DERIVED. Layer 19 (delay): contracts of Wake, New. Written by wip/mkdyd.py. -/
import Derived.Test.YtlficiohenpghabDyC
set_option linter.unusedVariables false
set_option linter.unusedSimpArgs false
set_option maxRecDepth 100000
namespace Go.Proofs.Ytlficiohenpghab.Dy
open Go.RowKit Go.Maps Go.Proofs.Ytlficiohenpghab Go.Proofs.Ytlficiohenpghab.TreeP Go.Proofs.Ytlficiohenpghab.Tr Go.Proofs.Ytlficiohenpghab.Wk

theorem infoInt : (Try.prog.info? 3).map (fun i => (i.zero, i.size, i.bytes)) = some (some (.int .i64 0), 1, 8) := by kernel_rfl
/-- the flows of entries, as they lie in a slice -/
def is (M : List En) : List Value := M.map fun e => .int .i64 e.2
theorem is_len (M : List En) : (is M).length = M.length := List.length_map _
/-- a slice of flows -/
abbrev RI (v : Value) (M : List En) : HP := RowR 3 1 v M.length (is M)
theorem entry_at {w : World} {E : List En} {a : Option Addr} {c n : Nat} {l : List HP} (h : Own (Row 78 3 (.slice a n c) n (Tr.ents E) :: l) w) {k : Nat} {e : En} (hk : k < n) (he : E[k]? = some e) :
    ∃ g, a = some ⟨g, 0, none⟩ ∧ w.cell? ⟨g, k * 3, none⟩ = some (.int .u64 e.1.1) ∧ w.cell? ⟨g, k * 3 + 1, none⟩ = some (.int .u64 e.1.2) ∧ w.cell? ⟨g, k * 3 + 2, none⟩ = some (.int .i64 e.2) := by
  obtain ⟨g, cap, ev, -, -⟩ := own_cap h.row (by omega)
  injection ev with e1 _ e3
  subst e1 e3
  exact ⟨g, rfl, rowEnt (ownsR_of h.row) he⟩
/-- behind one more that has come -/
theorem rel_next {D : DataW Unit} {E : List En} (h : Rel D E) (hd : DF E) {e : En} {E' : List En} (hE : E = e :: E') : Rel (D.del (fl e.2)) E' := by
  subst hE
  refine rel_del h e.2 (who_out hd (List.sublist_cons_self _ _) (fun x => ?_))
  unfold DF at hd
  rw [List.pairwise_cons] at hd
  constructor
  · intro hx
    exact ⟨.tail _ hx, (hd.1 x hx).symm⟩
  · rintro ⟨hx, hne⟩
    rcases List.mem_cons.1 hx with rfl | hx
    · exact absurd rfl hne
    · exact hx
theorem take_pre {E : List En} {now : Int} (hr : RisingE E) (k : Nat) : (uptoL E now).take k <+: E := upto_prefix hr now k
section
variable {p n q : Nat} {E : List En} {l : List HP} {w : World}
/-- the loop of Wake -/
def WI (p t b n q m L : Nat) (E M : List En) (vx : Value) (l : List HP) (s7 vi : Value) (wr : World) : Prop :=
  ∃ (k : Nat) (D : DataW Unit), vi = .int .i64 (k : Int) ∧ k ≤ L ∧ Rel D (E.drop k) ∧ Own (RI s7 (M.take k) :: Row 78 3 vx L (Tr.ents M) :: BD p t b n q :: Tree t n (E.drop L) :: MK b m D :: l) wr
set_option maxHeartbeats 4000000 in
theorem own_wake (h : DO p n q E l w) (now most : Int) (hm1 : most < 9223372036854775808) (M : List En) (hM : (uptoL E now).take most.toNat = M) :
    Calls Try.prog 16 #[.pointer (some ⟨p, 0, none⟩), .int .u64 now, .int .i64 most] w fun e w' => ∃ v, e = .returned v ∧ DO p n q (E.drop M.length) (RI v M :: l) w' := by
  obtain ⟨hr, hlen⟩ := h.rise
  obtain ⟨t, b, m, D, h1, h2, h3, h4, h5, h6⟩ := h
  obtain ⟨c0, c1, c2, c3, -⟩ := Own.blk4g h1
  have HNO := Lib.hid (none_no h1)
  have hpre : M <+: E := hM ▸ take_pre hr _
  have hml := hpre.length_le
  have ht := own_take hr (fun e he => ⟨(h4.key e he).1, (h4.key e he).2.1⟩) (by omega) now most hm1 h1.swap
  rw [hM] at ht
  have HT := Lib.hid ht
  have HD : Hid (∀ v D' w', Rel D' (E.drop M.length) → Own (BD p t b n q :: Tree t n (E.drop M.length) :: MK b m D' :: RI v M :: l) w' → DO p n q (E.drop M.length) (RI v M :: l) w') := Lib.hid fun v D' w' hr h => ⟨t, b, m, D', h, hr, h3, h4.sub (List.drop_sublist _ _), h5, h6⟩
  have HR2 := Lib.hid h2
  have HDF := Lib.hid h4.df
  have HEI : Hid (∀ e ∈ M, 0 ≤ e.2 ∧ e.2 < (n : Int)) := Lib.hid fun e he => h4.flow e (hpre.subset he)
  have n40 : (n : Int) ≤ 4096 := by omega
  obtain ⟨L, hL⟩ : ∃ L, L = M.length := ⟨_, rfl⟩
  have HL := Lib.hid hL
  have hME : ∀ k, k < L → E[k]? = M[k]? := fun k hk => by
    obtain ⟨X, rfl⟩ := hpre
    exact List.getElem?_append_left (by omega)
  have HME := Lib.hid hME
  have L1 : L ≤ 4096 := by omega
  clear h1 h2 h3 h4 h5 h6 hr hlen ht hM hL hml hpre hME
  go_enter Try.func16, Try.ntmps16
  go_wp2_with fail
  refine (HNO.out).mono ?_
  rintro e w' ⟨rfl, rfl⟩
  clear HNO
  go_wp2_with fail
  refine (HT.out).mono ?_
  rintro e w1 ⟨vx, rfl, h7⟩
  obtain ⟨vxa, vxc, rfl⟩ := own_slice h7.row
  rw [← HL.out] at h7 ⊢
  have h8 : Own (Row 78 3 (.slice vxa L vxc) L (Tr.ents M) :: BD p t b n q :: Tree t n (E.drop L) :: MK b m D :: l) w1 := by
    have h8 := h7.tail OwnIn.swap
    unfold RE at h8
    rw [← HL.out] at h8
    exact h8
  have H8 : Hid (WI p t b n q m L E M (.slice vxa L vxc) l (.slice none 0 0) (.int .i64 0) w1) := Lib.hid ⟨0, D, rfl, Nat.zero_le _, HR2.out, h8.nilRowR 3 1⟩
  clear h7 h8 HT
  go_wp2_with fail
  go_loopw [7, 20] (fun s7 vi wr => WI p t b n q m L E M (.slice vxa L vxc) l s7 vi wr) (fun _ vi _ => L - (intOf vi).toNat)
  case atStart => exact H8.out
  case round =>
    clear H8
    obtain ⟨k, D', rfl, hk, hrel', h⟩ := hrel
    by_cases hkL : k < L
    · have hkI : (k : Int) < (L : Int) := by omega
      obtain ⟨e, he⟩ : ∃ e, M[k]? = some e := ⟨_, List.getElem?_eq_getElem (by rw [← HL.out]; exact hkL)⟩
      obtain ⟨g, rfl, r0, r1, r2⟩ := entry_at h.swap hkL he
      have hEk : E.drop k = e :: E.drop (k + 1) := by
        have h1 : E[k]? = some e := (HME.out k hkL).trans he
        obtain ⟨h2, h3⟩ := List.getElem?_eq_some_iff.1 h1
        rw [← h3]
        exact List.drop_eq_getElem_cons h2
      have hd' : DF (E.drop k) := HDF.out.sublist (List.drop_sublist _ _)
      have hrel2 := rel_next hrel' hd' hEk
      have htk : is (M.take k) ++ [.int .i64 e.2] = is (M.take (k + 1)) := by
        unfold is
        rw [List.take_add_one, he, Option.toList_some, List.map_append]
        rfl
      have hlk : (M.take k).length = k := by rw [List.length_take, ← HL.out]; omega
      have hlk1 : (M.take (k + 1)).length = k + 1 := by rw [List.length_take, ← HL.out]; omega
      obtain ⟨⟨ea, es⟩, ev⟩ := e
      simp only at r0 r1 r2 hrel2 htk
      have hwf : (Lit.int .i64 ev).wf = true := by
        have h1 := List.mem_of_getElem? he
        obtain ⟨h2, h3⟩ := HEI.out _ h1
        simp only at h2 h3
        simp [Lit.wf, IntKind.min, IntKind.max, IntKind.signed, IntKind.bits]
        omega
      have HF := Lib.hid (keyOf_int hwf)
      obtain ⟨va7, vc7, rfl⟩ := h.rowR.slice
      have h' : Own (RowR 3 1 (.slice va7 k vc7) k (is (M.take k)) :: Row 78 3 (.slice (some ⟨g, 0, none⟩) L vxc) L (Tr.ents M) :: BD p t b n q :: Tree t n (E.drop L) :: MK b m D' :: l) wr := by
        have h1 := h
        unfold RI at h1
        rw [hlk] at h1
        exact h1
      rw [hlk]
      have hB := Go.Proofs.Ytlficiohenpghab.Own.blkNew h' #[.int .u64 ea, .int .u64 es, .int .i64 ev] 78
      obtain ⟨be, hbe⟩ : ∃ b, b = wr.heap.size := ⟨_, rfl⟩
      rw [← hbe] at hB
      have hC : Own (MK b m D' :: Go.Proofs.Ytlficiohenpghab.Blk be #[.int .u64 ea, .int .u64 es, .int .i64 ev] 78 :: RowR 3 1 (.slice va7 k vc7) k (is (M.take k)) :: Row 78 3 (.slice (some ⟨g, 0, none⟩) L vxc) L (Tr.ents M) :: BD p t b n q :: Tree t n (E.drop L) :: l) (wr.alloc (.cells #[.int .u64 ea, .int .u64 es, .int .i64 ev] 78)) := hB.perm (List.perm_middle (l₁ := [_, _, _, _, _]))
      have HC : Hid (∀ D2 w', Own (MK b m D2 :: Go.Proofs.Ytlficiohenpghab.Blk be #[.int .u64 ea, .int .u64 es, .int .i64 ev] 78 :: RowR 3 1 (.slice va7 k vc7) k (is (M.take k)) :: Row 78 3 (.slice (some ⟨g, 0, none⟩) L vxc) L (Tr.ents M) :: BD p t b n q :: Tree t n (E.drop L) :: l) w' → w'.cell? ⟨p, 1, none⟩ = some (.map (some b)) ∧ w'.cell? ⟨be, 2, none⟩ = some (.int .i64 ev)) := Lib.hid fun D2 w' h' => by
        have hk := Go.Proofs.Ytlficiohenpghab.Own.blk h' (.tail _ (.head _))
        have hp := Go.Proofs.Ytlficiohenpghab.Own.blk h' (.tail _ (.tail _ (.tail _ (.tail _ (.head _)))))
        simp [World.cell?, hk, hp]
      have HBE := Lib.hid hbe
      have HCC := Lib.hid hC
      have HRL := Lib.hid hrel2
      have HTK := Lib.hid htk
      have HLK1 := Lib.hid hlk1
      have p1 : (wr.alloc (.cells #[.int .u64 ea, .int .u64 es, .int .i64 ev] 78)).cell? ⟨p, 1, none⟩ = some (.map (some b)) := (HC.out _ _ hC).1
      clear h h' he hEk hd' hrel' hrel2 hB hC hbe hlk hlk1 htk hwf
      go_upto_region 7 with fail
      rw [← HBE.out]
      have hz := HCC.out.step (Ext.refl _).drew
      refine wp_region_held_drew (S := fun w' => w'.cell? ⟨p, 1, none⟩ = some (.map (some b)) ∧ w'.cell? ⟨be, 2, none⟩ = some (.int .i64 ev)) (by kernel_rfl) (HC.out _ _ hz) (fun hHeld => ?_)
      refine wpAnyH_take (i := 0) (v := ?_) rfl (by kernel_rfl) (by kernel_rfl) (by kernel_rfl) (fun _ _ _ h => h) (Or.inl ⟨by rfl, ?_⟩) (by assumption) ?_
      rotate_left
      · intro w' hSw
        try dsimp only at hSw
        go_split_ands
        go_simp
        try with_reducible rfl
      try simp only [Act.put, List.setIfInBounds_toArray, List.set_cons_zero, List.set_cons_succ, List.getElem_toArray, List.getElem_cons_succ, List.getElem_cons_zero]
      refine wpAnyH_take (i := 1) (v := ?_) rfl (by kernel_rfl) (by kernel_rfl) (by kernel_rfl) (fun _ _ _ h => h) (Or.inl ⟨by rfl, ?_⟩) (by assumption) ?_
      rotate_left
      · intro w' hSw
        try dsimp only at hSw
        go_split_ands
        go_simp
        try with_reducible rfl
      try simp only [Act.put, List.setIfInBounds_toArray, List.set_cons_zero, List.set_cons_succ, List.getElem_toArray, List.getElem_cons_succ, List.getElem_cons_zero]
      refine wpAnyH_take (i := 2) (v := ?_) rfl (by kernel_rfl) (by kernel_rfl) (by kernel_rfl) (fun _ _ _ h => h) (Or.inl ⟨by rfl, ?_⟩) (by assumption) ?_
      rotate_left
      · intro w' hSw
        try dsimp only at hSw
        go_split_ands
        go_simp
        try with_reducible rfl
      try simp only [Act.put, List.setIfInBounds_toArray, List.set_cons_zero, List.set_cons_succ, List.getElem_toArray, List.getElem_cons_succ, List.getElem_cons_zero]
      refine wpAnyH_take (i := 3) (v := ?_) rfl (by kernel_rfl) (by kernel_rfl) (by kernel_rfl) (fun _ _ _ h => h) (Or.inl ⟨by rfl, ?_⟩) (by assumption) ?_
      rotate_left
      · intro w' hSw
        try dsimp only at hSw
        go_split_ands
        go_simp
        try with_reducible rfl
      try simp only [Act.put, List.setIfInBounds_toArray, List.set_cons_zero, List.set_cons_succ, List.getElem_toArray, List.getElem_cons_succ, List.getElem_cons_zero]
      refine wpAnyH_take (i := 4) (v := ?_) rfl (by kernel_rfl) (by kernel_rfl) (by kernel_rfl) (fun _ _ _ h => h) (Or.inl ⟨by rfl, ?_⟩) (by assumption) ?_
      rotate_left
      · intro w' hSw
        try dsimp only at hSw
        go_split_ands
        go_simp
        try with_reducible rfl
      try simp only [Act.put, List.setIfInBounds_toArray, List.set_cons_zero, List.set_cons_succ, List.getElem_toArray, List.getElem_cons_succ, List.getElem_cons_zero]
      refine wpAnyH_take (i := 5) (v := ?_) rfl (by kernel_rfl) (by kernel_rfl) (by kernel_rfl) (fun _ _ _ h => h) (Or.inl ⟨by rfl, ?_⟩) (by assumption) ?_
      rotate_left
      · intro w' hSw
        try dsimp only at hSw
        go_split_ands
        go_simp
        try with_reducible rfl
      try simp only [Act.put, List.setIfInBounds_toArray, List.set_cons_zero, List.set_cons_succ, List.getElem_toArray, List.getElem_cons_succ, List.getElem_cons_zero]
      refine wpAnyH_ready (rs := [6]) (by kernel_rfl) (by simp) ?_
      refine AllReadyH.cons rfl (fun K hK => ?_) AllReadyH.nil
      refine held_del _ (by rfl) _ _ 60 3 rfl 68 int_keyed' Try.underlying60 keyR b m D' rfl hz (.int .i64 ev) (fl ev) rfl HF.out ?_
      intro w3 h8
      clear hHeld hz
      refine hK.out _ _ (HC.out _ _ h8) (fun hHeld => ?_)
      clear hK K hHeld
      try simp only [Act.put, List.setIfInBounds_toArray, List.set_cons_zero, List.set_cons_succ]
      refine wpAnyH_done (by kernel_rfl) ?_ _
      obtain ⟨-, e2⟩ := HC.out _ _ h8
      have H9 := Lib.hid (show Own (RowR 3 1 (.slice va7 k vc7) k (is (M.take k)) :: _) w3 from h8.third)
      clear h8 HC HCC p1
      go_wp2_with (at_builtin; refine app_R1 (W := w3) rfl _ _ _ _ _ 1 8 rfl Try.underlying40 infoInt rfl (by omega) (by omega) (.slice va7 k vc7) k (is (M.take k)) [.int .i64 ev] rfl _ (by simp) rfl rfl (by simp [Value.oneCell']) H9.out.rowR (by omega) ?_)
      intro v2 w4 hown hgrow hmv
      have h10 := H9.out.rowRGrown hown rfl hgrow hmv
      rw [HTK.out] at h10
      have HX : Hid (WI p t b n q m L E M (.slice (some ⟨g, 0, none⟩) L vxc) l v2 (.int .i64 ((k : Int) + 1)) w4) := Lib.hid ⟨k + 1, _, by go_num, by omega, HRL.out, by
        have h11 := h10.third.drop.tail OwnIn.back4
        unfold RI
        rw [HLK1.out]
        exact h11⟩
      clear hown hgrow hmv h10 H9
      go_wp2_with fail
      exact ⟨HX.out, by simp [intOf]; omega⟩
    · obtain rfl : k = L := by omega
      have htk : M.take k = M := List.take_of_length_le (by rw [← HL.out]; exact Nat.le_refl _)
      rw [htk] at h
      have hl := HL.out
      have HX := Lib.hid (HD.out _ _ _ (by rw [← hl]; exact hrel') (by rw [← hl]; exact h.swap.drop.back4))
      clear h htk hl hkL hk hrel'
      go_wp2_with fail
      go_ret
      exact ⟨_, rfl, HX.out⟩
end
end Go.Proofs.Ytlficiohenpghab.Dy
