/- DERIVED. Layer 13 (bucket): the document's buckets: contracts of Of, In, New. -/
import Derived.Test.YtlficiohenpghaaBkS
import Derived.Test.YtlficiohenpghaaBkT
import Derived.Deep.RegionHeld3
set_option linter.unusedVariables false
set_option linter.unusedSimpArgs false
set_option maxRecDepth 100000
namespace Go.Proofs.Ytlficiohenpghaa.Bk
open Go.RowKit Go.Proofs.Ytlficiohenpghaa Go.Proofs.Ytlficiohenpghaa.TreeP Go.Proofs.Ytlficiohenpghaa.Tr

theorem rof_any {bits room : Nat} {v : Value} {l : List HP} {w : World} (h : Own l w) (hb : bits ≤ 10) (s : Int) (h0 : 0 ≤ s) (h1 : s < 18446744073709551616) :
    Calls Try.prog 25 #[rs bits room v, .int .u64 s] w fun e w' => e = .returned (.int .i64 ((β bits s : Nat) : Int)) ∧ Own l w' := by
  obtain ⟨S, rfl⟩ := Int.eq_ofNat_of_zero_le h0
  have hr := fun W => Mx.rbucket_any S bits (show S < MixP.M by unfold MixP.M; omega) (by omega) W
  have hx : Own l (w.alloc (.cells #[.int .i64 (bits : Int), .int .i64 (room : Int), v] 51)) := h.step ((Ext.refl w).alloc _)
  have hbe : β bits (S : Int) = Mx.bk S bits := rfl
  rw [hbe]
  have HR := Lib.hid hr
  have HX := Lib.hid hx
  clear h hr hx hbe
  go_enter Try.func25, Try.ntmps25
  go_wp2_with fail
  refine (HR.out _).mono ?_
  rintro e w2 ⟨rfl, rfl⟩
  go_wp2_with fail
  go_ret
  exact ⟨rfl, HX.out⟩
/-- who is in bucket i, of any number -/
def rI (bits : Nat) (R : List En) (i : Int) : List En := R.filter fun e => decide ((β bits e.1.1 : Int) = i)
theorem rI_in (bits : Nat) (R : List En) (i : Nat) : rI bits R (i : Int) = inB (β bits) R i := by
  unfold rI inB
  congr 1
  funext e
  exact decide_eq_decide.2 (by omega)
theorem rI_out (bits : Nat) (R : List En) (i : Int) (hb : bits ≤ 10) (h : i < 0 ∨ (2 ^ bits : Nat) ≤ i) : rI bits R i = [] := by
  unfold rI
  rw [List.filter_eq_nil_iff]
  intro e _
  have := β_lt bits e.1.1 hb
  simp
  omega
def rk (bits : Nat) (R : List En) (i : Int) (k : Nat) : List En := rI bits (R.take k) i
theorem rk_succ {bits : Nat} {R : List En} {i : Int} {k : Nat} {e : En} (he : R[k]? = some e) : rk bits R i (k + 1) = if (β bits e.1.1 : Int) = i then rk bits R i k ++ [e] else rk bits R i k := by
  unfold rk rI
  rw [List.take_add_one, he, List.filter_append]
  by_cases hs : (β bits e.1.1 : Int) = i <;> simp [hs]
theorem rk_len (bits : Nat) (R : List En) (i : Int) (k : Nat) : (rk bits R i k).length ≤ k := by
  unfold rk rI
  exact Nat.le_trans (List.length_filter_le _ _) (by rw [List.length_take]; omega)
def RiI (l : List HP) (b n bits room : Nat) (v : Value) (R : List En) (i : Int) (s5 vi : Value) (wr : World) : Prop :=
  ∃ k : Nat, vi = .int .i64 (k : Int) ∧ k ≤ n ∧ Own (RO s5 (rk bits R i k) :: RR v n R :: BS b bits room v :: l) wr
set_option maxHeartbeats 1000000 in
theorem rin_any {v : Value} {n bits room r : Nat} {R : List En} {l : List HP} {w : World} (h : Own (RR v n R :: l) w) (hR : R.length = n) (bn : n ≤ 60000) (hb10 : bits ≤ 10) (hk : RK r R) (i : Int) :
    Calls Try.prog 26 #[rs bits room v, .int .i64 i] w fun e w' => ∃ v', e = .returned v' ∧ Own (RO v' (rI bits R i) :: RR v n R :: l) w' := by
  obtain ⟨va, vc, rfl⟩ := h.rowR.slice
  have h1 : Own (BS w.heap.size bits room (.slice va n vc) :: RR (.slice va n vc) n R :: l) (w.alloc (.cells #[.int .i64 (bits : Int), .int .i64 (room : Int), .slice va n vc] 51)) := Go.Proofs.Ytlficiohenpghaa.Own.blkNew h _ _
  obtain ⟨b, hb⟩ : ∃ b, b = w.heap.size := ⟨_, rfl⟩
  obtain ⟨W, hW⟩ : ∃ W, w.alloc (.cells #[.int .i64 (bits : Int), .int .i64 (room : Int), .slice va n vc] 51) = W := ⟨_, rfl⟩
  rw [hW, ← hb] at h1
  have h3 : Own (RO (.slice none 0 0) (rk bits R i 0) :: RR (.slice va n vc) n R :: BS b bits room (.slice va n vc) :: l) W := h1.swap.nilRow 32 3
  have H3 := Lib.hid h3
  have HW := Lib.hid hW
  have HB := Lib.hid hb
  have HK := Lib.hid hk
  have HR := Lib.hid hR
  clear h h1 h3 hW hb hk hR
  go_enter Try.func26, Try.ntmps26
  go_wp2_with fail
  rw [HW.out, ← HB.out]
  clear HW HB
  go_loopw [5, 6] (fun s5 vi wr => RiI l b n bits room (.slice va n vc) R i s5 vi wr) (fun _ vi _ => n - (intOf vi).toNat)
  case atStart => exact ⟨0, rfl, Nat.zero_le _, H3.out⟩
  case round =>
    clear H3
    obtain ⟨k, rfl, hk, h⟩ := hrel
    obtain ⟨c0, c1, c2, -, -, -⟩ := bs_cells h (b := b) (bits := bits) (room := room) (v := .slice va n vc) (.tail _ (.tail _ (.head _)))
    by_cases hlt : k < n
    · have hltI : (k : Int) < (n : Int) := by omega
      obtain ⟨e, he⟩ : ∃ e, R[k]? = some e := ⟨_, List.getElem?_eq_getElem (by rw [HR.out]; exact hlt)⟩
      obtain ⟨g, rfl, gc, r0, r1, r2⟩ := rentry h.swap hlt he
      have hs2 := rk_succ (bits := bits) (i := i) he
      have hkey := (HK.out.key e (List.mem_of_getElem? he)).2
      obtain ⟨LL, hLL⟩ : ∃ LL, LL = RO u5 (rk bits R i k) :: RR (.slice (some ⟨g, 0, none⟩) n vc) n R :: BS b bits room (.slice (some ⟨g, 0, none⟩) n vc) :: l := ⟨_, rfl⟩
      rw [← hLL] at h
      obtain ⟨ea, hea⟩ : ∃ ea, ea = e.1.1 := ⟨_, rfl⟩
      obtain ⟨es, hes⟩ : ∃ es, es = e.1.2 := ⟨_, rfl⟩
      obtain ⟨ev, hev⟩ : ∃ ev, ev = e.2 := ⟨_, rfl⟩
      obtain ⟨Y, hY⟩ : ∃ Y, Y = β bits e.1.1 := ⟨_, rfl⟩
      rw [← hea] at r0 hkey
      rw [← hes] at r1
      rw [← hev] at r2
      rw [← hY] at hs2
      have HC : ∀ w', Own LL w' → w'.cell? ⟨b, 0, none⟩ = some (.int .i64 (bits : Int)) ∧ w'.cell? ⟨b, 1, none⟩ = some (.int .i64 (room : Int)) ∧ w'.cell? ⟨b, 2, none⟩ = some (.slice (some ⟨g, 0, none⟩) n vc) ∧ w'.cell? ⟨g, k * 3, none⟩ = some (.int .u64 ea) ∧ w'.cell? ⟨g, k * 3 + 1, none⟩ = some (.int .u64 es) ∧ w'.cell? ⟨g, k * 3 + 2, none⟩ = some (.int .i64 ev) := fun w' h' => by
        rw [hLL] at h'
        obtain ⟨c0, c1, c2, -, -, -⟩ := bs_cells h' (b := b) (bits := bits) (room := room) (v := .slice (some ⟨g, 0, none⟩) n vc) (.tail _ (.tail _ (.head _)))
        obtain ⟨g', eg, -, d0, d1, d2⟩ := rentry h'.swap hlt he
        injection eg with eg
        injection eg with eg
        subst eg
        exact ⟨c0, c1, c2, by rw [hea]; exact d0, by rw [hes]; exact d1, by rw [hev]; exact d2⟩
      have HO : Hid (∀ w', Own LL w' → Calls Try.prog 25 #[rs bits room (.slice (some ⟨g, 0, none⟩) n vc), .int .u64 ea] w' fun e w2 => e = .returned (.int .i64 (Y : Int)) ∧ Own LL w2 ∧ w2.cell? ⟨b, 0, none⟩ = some (.int .i64 (bits : Int)) ∧ w2.cell? ⟨b, 1, none⟩ = some (.int .i64 (room : Int)) ∧ w2.cell? ⟨b, 2, none⟩ = some (.slice (some ⟨g, 0, none⟩) n vc) ∧ w2.cell? ⟨g, k * 3, none⟩ = some (.int .u64 ea) ∧ w2.cell? ⟨g, k * 3 + 1, none⟩ = some (.int .u64 es) ∧ w2.cell? ⟨g, k * 3 + 2, none⟩ = some (.int .i64 ev)) := Lib.hid fun w' h' => by
        have ho := rof_any (room := room) (v := .slice (some ⟨g, 0, none⟩) n vc) h' hb10 ea hkey.1 hkey.2
        rw [hea, ← hY] at ho
        rw [hea]
        exact ho.mono fun e w2 ⟨he, hx⟩ => ⟨he, hx, by have := HC w2 hx; rw [hea] at this; exact this⟩
      have HOWN := Lib.hid h
      have HLL := Lib.hid hLL
      have HS2 := Lib.hid hs2
      have HE := Lib.hid (show e = ((ea, es), ev) by rw [hea, hes, hev])
      by_cases hs : (Y : Int) = i
      · rw [if_pos hs] at hs2
        have hq : ((Y : Int) == i) = true := by simp [hs]
        have HS2 := Lib.hid hs2
        clear h he hs2 hs hea hes hev hY hLL HC hkey
        obtain ⟨M, hM⟩ : ∃ M, M = (rk bits R i k).length := ⟨_, rfl⟩
        have hMk : M ≤ k := by rw [hM]; exact rk_len bits R i k
        have HM := Lib.hid hM
        clear hM
        go_wp2_with fail
        go_region_held3 (fun w' => Own LL w' ∧ w'.cell? ⟨b, 0, none⟩ = some (.int .i64 (bits : Int)) ∧ w'.cell? ⟨b, 1, none⟩ = some (.int .i64 (room : Int)) ∧ w'.cell? ⟨b, 2, none⟩ = some (.slice (some ⟨g, 0, none⟩) n vc) ∧ w'.cell? ⟨g, k * 3, none⟩ = some (.int .u64 ea) ∧ w'.cell? ⟨g, k * 3 + 1, none⟩ = some (.int .u64 es) ∧ w'.cell? ⟨g, k * 3 + 2, none⟩ = some (.int .i64 ev))
          (first | exact ⟨(HOWN.out).step (Ext.refl _).drew, (Ext.refl _).drew.cell c0, (Ext.refl _).drew.cell c1, (Ext.refl _).drew.cell c2, (Ext.refl _).drew.cell r0, (Ext.refl _).drew.cell r1, (Ext.refl _).drew.cell r2⟩ | (refine ⟨?_, ?_, ?_, ?_, ?_, ?_, ?_⟩ <;> assumption))
          (first | (go_at_call 25; go_split_ands; refine (HO.out _ (by assumption)).mono ?_; rintro e w4 ⟨rfl, hz, z0, z1, z2, z3, z4, z5⟩))
        all_goals go_split_ands
        all_goals have HZ := Lib.hid (show Own LL _ by assumption)
        all_goals obtain ⟨va9, vc9, rfl⟩ := own_slice (show Own (RO u5 (rk bits R i k) :: _) _ by have h := HZ.out; rw [HLL.out] at h; exact h).row
        all_goals rw [← HM.out]
        all_goals go_wp2_with (at_builtin; refine app_own (W := _) rfl _ _ _ _ _ 3 24 rfl Try.underlying26 infoEntry rfl (by omega) (by omega) (.slice va9 M vc9) M (Tr.ents (rk bits R i k)) [.int .u64 ea, .int .u64 es, .int .i64 ev] rfl _ (by simp) rfl rfl (by simp [Value.oneCell']) (by have h := HZ.out; rw [HLL.out] at h; have h2 := h.row; rw [← HM.out] at h2; exact h2) (by omega) ?_)
        all_goals intro v1 w3 hown hgrow hmv
        all_goals rw [HM.out] at hown hgrow hmv
        all_goals have h3 := Own.roApp (e := ((ea, es), ev)) (by have h := HZ.out; rw [HLL.out] at h; exact h) hown hgrow hmv
        all_goals rw [← HE.out, ← HS2.out] at h3
        all_goals have HX : Hid (RiI l b n bits room (.slice (some ⟨g, 0, none⟩) n vc) R i v1 (.int .i64 ((k : Int) + 1)) w3) := Lib.hid ⟨k + 1, by go_num, by omega, h3⟩
        all_goals clear h3 hown hgrow hmv HO
        all_goals go_wp2_with fail
        all_goals exact ⟨HX.out, by simp [intOf]; omega⟩
      · rw [if_neg hs] at hs2
        have hq : ((Y : Int) == i) = false := by simp [hs]
        have HS2 := Lib.hid hs2
        clear h he hs2 hs hea hes hev hY hLL HC hkey
        go_wp2_with fail
        go_region_held3 (fun w' => Own LL w' ∧ w'.cell? ⟨b, 0, none⟩ = some (.int .i64 (bits : Int)) ∧ w'.cell? ⟨b, 1, none⟩ = some (.int .i64 (room : Int)) ∧ w'.cell? ⟨b, 2, none⟩ = some (.slice (some ⟨g, 0, none⟩) n vc) ∧ w'.cell? ⟨g, k * 3, none⟩ = some (.int .u64 ea) ∧ w'.cell? ⟨g, k * 3 + 1, none⟩ = some (.int .u64 es) ∧ w'.cell? ⟨g, k * 3 + 2, none⟩ = some (.int .i64 ev))
          (first | exact ⟨(HOWN.out).step (Ext.refl _).drew, (Ext.refl _).drew.cell c0, (Ext.refl _).drew.cell c1, (Ext.refl _).drew.cell c2, (Ext.refl _).drew.cell r0, (Ext.refl _).drew.cell r1, (Ext.refl _).drew.cell r2⟩ | (refine ⟨?_, ?_, ?_, ?_, ?_, ?_, ?_⟩ <;> assumption))
          (first | (go_at_call 25; go_split_ands; refine (HO.out _ (by assumption)).mono ?_; rintro e w4 ⟨rfl, hz, z0, z1, z2, z3, z4, z5⟩))
        all_goals go_split_ands
        all_goals have HZ := Lib.hid (show Own LL _ by assumption)
        all_goals have HX : Hid (RiI l b n bits room (.slice (some ⟨g, 0, none⟩) n vc) R i u5 (.int .i64 ((k : Int) + 1)) _) := Lib.hid ⟨k + 1, by go_num, by omega, by have h := HZ.out; rw [HLL.out] at h; rw [HS2.out]; exact h⟩
        all_goals clear HO
        all_goals go_wp2_with fail
        all_goals exact ⟨HX.out, by simp [intOf]; omega⟩
    · obtain rfl : k = n := by omega
      have hd : rk bits R i k = rI bits R i := by unfold rk; rw [List.take_of_length_le (by rw [HR.out]; exact Nat.le_refl _)]
      rw [hd] at h
      have HX := Lib.hid (show ∃ v', u5 = v' ∧ Own (RO v' (rI bits R i) :: RR (.slice va k vc) k R :: l) wr from ⟨_, rfl, (h.third).drop⟩)
      clear h hd hlt hk
      go_wp2_with fail
      go_ret
      exact ⟨_, rfl, by obtain ⟨_, rfl, h⟩ := HX.out; exact h⟩
end Go.Proofs.Ytlficiohenpghaa.Bk
