/- DERIVED. Layer 14 (table): the law TableOnce. -/
import Derived.Test.YtkdmlpigkmlkmaaTbN
import Derived.Test.YtkdmlpigkmlkmaaTbM
import Derived.Test.YtkdmlpigkmlkmaaTbS
import Derived.Test.YtkdmlpigkmlkmaaTbW
import Derived.Test.YtkdmlpigkmlkmaaMapI
import Derived.BigQuiet
set_option linter.unusedVariables false
set_option linter.unusedSimpArgs false
set_option maxRecDepth 100000
namespace Go.Proofs.Ytkdmlpigkmlkmaa.Tb
open Go.RowKit Go.Proofs.Ytkdmlpigkmlkmaa Go.Proofs.Ytkdmlpigkmlkmaa.TreeP Go.Proofs.Ytkdmlpigkmlkmaa.Tr Go.Proofs.Ytkdmlpigkmlkmaa.Bk Go.Maps

theorem zeroI (w : World) : (zeroValue 3).run Try.prog w = .ok (.int .i64 0) w := by kernel_rfl
theorem wfU {n : Int} (h0 : 0 ≤ n) (h : n < 18446744073709551616) : (Lit.int .u64 n).wf = true := by
  simp [Lit.wf, IntKind.min, IntKind.max, IntKind.signed, IntKind.bits]
  omega
theorem wfI {n : Int} (h : -9223372036854775808 ≤ n) (h2 : n ≤ 9223372036854775807) : (Lit.int .i64 n).wf = true := by
  simp [Lit.wf, IntKind.min, IntKind.max, IntKind.signed, IntKind.bits]
  omega
theorem all_lt (S : T) : (allL S).Pairwise (· < ·) := List.Pairwise.sublist List.filter_sublist List.pairwise_lt_range
abbrev M1 (b i : Nat) (F : Int → Int) : HP := MapI Try.prog 22 3 .u64 b i F
abbrev M2 (b i : Nat) (F : Int → Int) : HP := MapI Try.prog 3 3 .i64 b i F
def OnI (w : World) (p b b1 b2 L : Nat) (S : T) (v : Value) (vi : Value) (wr : World) : Prop :=
  ∃ (i : Nat) (F1 F2 : Int → Int), vi = .int .i64 (i : Int) ∧ i ≤ L ∧ Own (RN v (allL S) :: Tbl p 12 b (450 + 9 * i) Never S :: M2 b2 i F2 :: M1 b1 i F1 :: [Old w]) wr ∧
    (∀ x, F1 x ≠ 0 → ∃ j k r, j < i ∧ (allL S)[j]? = some k ∧ rowAt S.rows k = some r ∧ r.f.s = x) ∧
    (∀ (x : Int) (j k : Nat), j < i → (allL S)[j]? = some k → x = (k : Int) → F2 x = 1) ∧
    (∀ x, F2 x ≠ 0 → ∃ (j k : Nat), j < i ∧ (allL S)[j]? = some k ∧ x = (k : Int))
def OnJ (p b N b2 i : Nat) (F2 : Int → Int) (S : T) (l : List HP) (vi : Value) (wr : World) : Prop :=
  ∃ j : Nat, vi = .int .i64 ((j : Int) - 1) ∧ j ≤ 15 ∧ Own (Tbl p 12 b N Never S :: M2 b2 i F2 :: l) wr
theorem look2_run {w : World} {b i : Nat} {F : Int → Int} {l : List HP} (h : Own (M2 b i F :: l) w) {y : Int} (hy : (Lit.int .i64 y).wf = true) : (Instr.lookup 55 (.map (some b)) (.int .i64 y) false).run Try.prog w = .ok (.int .i64 (F y)) w := by
  obtain ⟨D, hD, hF⟩ := h.mapAt
  obtain ⟨c, hrun, hat, hwc⟩ := hD.lookup_int (int_keyed Try.underlying3) Try.underlying55 Try.underlying3 (zeroI w) (keyOf_int_mk Try.underlying3 hy)
  rw [hF y] at hat
  injection hat with hat
  injection hat with _ hat
  rw [hat]
  exact hrun
theorem look1_run {w : World} {b i : Nat} {F : Int → Int} {l : List HP} (h : Own (M1 b i F :: l) w) {y : Int} (hy : (Lit.int .u64 y).wf = true) : (Instr.lookup 54 (.map (some b)) (.int .u64 y) false).run Try.prog w = .ok (.int .i64 (F y)) w := by
  obtain ⟨D, hD, hF⟩ := h.mapAt
  obtain ⟨c, hrun, hat, hwc⟩ := hD.lookup_int (int_keyed Try.underlying22) Try.underlying54 Try.underlying3 (zeroI w) (keyOf_int_mk Try.underlying22 hy)
  rw [hF y] at hat
  injection hat with hat
  injection hat with _ hat
  rw [hat]
  exact hrun
set_option maxHeartbeats 8000000 in
theorem once_main (v : Value) (nn : Nat) (f : Nat → TOp) (bits : Int) (b0 : 0 ≤ bits) (b1' : bits ≤ 255) (w : World) (ho : Ops w v nn f) :
    Calls Try.prog 6 #[.int .u8 bits, v] w fun e w' => e = .returned (.bool true) ∧ Ext w w' := by
  obtain ⟨b, hb⟩ : ∃ b : Nat, bits % 11 = (b : Int) := ⟨(bits % 11).toNat, by omega⟩
  have hb10 : b ≤ 10 := by omega
  have HPL : Hid (Calls Try.prog 19 #[.int .i64 (b : Int), .int .u64 18446744073709551615, v] w fun e w2 => ∃ p : Nat, e = .returned (.tuple #[.pointer (some ⟨p, 0, none⟩), .bool true]) ∧ Own (Tbl p 12 b 450 Never (playS 12 b Never f (min nn 50)) :: [Old w]) w2) := Lib.hid (played_any (keep := Never) v nn f hb10 (by unfold Never; omega) (by unfold Never; omega) ho (Own.start w) (.head _))
  obtain ⟨S, hS⟩ : ∃ S, S = playS 12 b Never f (min nn 50) := ⟨_, rfl⟩
  rw [← hS] at HPL
  clear ho hS
  have hmm := @run_makeMap Try.prog
  go_enter Try.func6, Try.ntmps6
  go_wp2_with fail
  try rw [hb]
  (with_reducible refine (HPL.out).mono ?_)
  rintro e w1 ⟨p, rfl, h1⟩
  obtain ⟨ht, -⟩ := own_ti h1
  obtain ⟨b1, hb1⟩ : ∃ b1, b1 = w1.heap.size := ⟨_, rfl⟩
  have h2 := (Own.mapNew (P := Try.prog) 22 3 .u64 h1)
  have h3 := (Own.mapNew (P := Try.prog) 3 3 .i64 h2)
  rw [show (w1.alloc (.map #[] 0)).heap.size = w1.heap.size + 1 by simp] at h3
  have HAL := Lib.hid (own_all h3.third)
  have HT := Lib.hid ht
  obtain ⟨L, hL⟩ : ∃ L, L = (allL S).length := ⟨_, rfl⟩
  have hL12 : L ≤ 12 := by
    rw [hL, all_len ht]
    have := ht.rk.len
    omega
  have HL := Lib.hid hL
  clear h1 h2 h3 HPL hb b0 b1' ht hL hb1
  go_wp2_with fail
  (with_reducible refine (HAL.out).mono ?_)
  rintro e w4 ⟨va, rfl, h4⟩
  obtain ⟨b1, hb1⟩ : ∃ b1, b1 = w1.heap.size := ⟨_, rfl⟩
  obtain ⟨b2, hb2⟩ : ∃ b2, b2 = w1.heap.size + 1 := ⟨_, rfl⟩
  rw [← hb2, ← hb1] at h4
  rw [← hb2, ← hb1]
  obtain ⟨a1, cap1, rfl, -⟩ := rn_cells h4 HL.out.symm
  have H4 := Lib.hid h4
  clear h4 HAL hb1 hb2
  go_wp2_with fail
  go_loopw [38] (fun vi wr => OnI w p b b1 b2 L S (.slice a1 L cap1) vi wr) (fun vi _ => L - (intOf vi).toNat)
  case atStart => exact ⟨0, _, _, rfl, Nat.zero_le _, H4.out, fun x h => absurd rfl h, fun x j k h => absurd h (Nat.not_lt_zero j), fun x h => absurd rfl h⟩
  case round =>
    clear H4
    obtain ⟨i, F1, F2, rfl, hi, h, i1, i2, i3⟩ := hrel
    by_cases hlt : i < L
    · have hltI : (i : Int) < (L : Int) := by omega
      obtain ⟨k, hk⟩ : ∃ k, (allL S)[i]? = some k := ⟨_, List.getElem?_eq_getElem (by rw [← HL.out]; exact hlt)⟩
      obtain ⟨r, hr⟩ : ∃ r, rowAt S.rows k = some r := Option.isSome_iff_exists.1 (mem_all.1 (List.mem_of_getElem? hk))
      obtain ⟨g4, rfl, p0⟩ := rn_at h HL.out.symm hk
      have hk12 : k < 12 := by have := rowAt_lt hr; rw [HT.out.len] at this; exact this
      obtain ⟨⟨s0, s1⟩, -, -⟩ := (HT.out.hd k r hr).2.2
      have hz1 : F1 r.f.s = 0 := by
        refine Classical.byContradiction fun hne => ?_
        obtain ⟨j, k2, r2, hj, hk2, hr2, hs2⟩ := i1 _ hne
        obtain rfl : k2 = k := HT.out.uniq hr2 hr hs2
        obtain ⟨q1, q2⟩ := List.getElem?_eq_some_iff.1 hk
        obtain ⟨q3, q4⟩ := List.getElem?_eq_some_iff.1 hk2
        have := (List.getElem_inj (all_nodup S)).1 (q4.trans q2.symm)
        omega
      have hz2 : F2 (k : Int) = 0 := by
        refine Classical.byContradiction fun hne => ?_
        obtain ⟨j, k2, hj, hk2, e⟩ := i3 _ hne
        obtain rfl : k2 = k := by omega
        obtain ⟨q1, q2⟩ := List.getElem?_eq_some_iff.1 hk
        obtain ⟨q3, q4⟩ := List.getElem?_eq_some_iff.1 hk2
        have := (List.getElem_inj (all_nodup S)).1 (q4.trans q2.symm)
        omega
      have I1 : Hid (∀ x, (if x = r.f.s then (1 : Int) else F1 x) ≠ 0 → ∃ j k r, j < i + 1 ∧ (allL S)[j]? = some k ∧ rowAt S.rows k = some r ∧ r.f.s = x) := Lib.hid fun x hx => by
        by_cases e : x = r.f.s
        · exact ⟨i, k, r, by omega, hk, hr, e.symm⟩
        · rw [if_neg e] at hx
          obtain ⟨j, k2, r2, c1, c2, c3, c4⟩ := i1 x hx
          exact ⟨j, k2, r2, by omega, c2, c3, c4⟩
      have I2 : Hid (∀ (x : Int) (j k2 : Nat), j < i + 1 → (allL S)[j]? = some k2 → x = (k2 : Int) → (if x = (k : Int) then (1 : Int) else F2 x) = 1) := Lib.hid fun x j k2 hj hk2 hx => by
        by_cases e : x = (k : Int)
        · rw [if_pos e]
        · rw [if_neg e]
          refine i2 x j k2 ?_ hk2 hx
          have : j ≠ i := fun e2 => by
            subst e2
            rw [hk] at hk2
            injection hk2 with hk2
            exact e (by rw [hx, hk2])
          omega
      have I3 : Hid (∀ x, (if x = (k : Int) then (1 : Int) else F2 x) ≠ 0 → ∃ (j k2 : Nat), j < i + 1 ∧ (allL S)[j]? = some k2 ∧ x = (k2 : Int)) := Lib.hid fun x hx => by
        by_cases e : x = (k : Int)
        · exact ⟨i, k, by omega, hk, e⟩
        · rw [if_neg e] at hx
          obtain ⟨j, k2, c1, c2, c3⟩ := i3 x hx
          exact ⟨j, k2, by omega, c2, c3⟩
      have HINC : Hid (∀ k0, 0 < i → (allL S)[i - 1]? = some k0 → k0 < k) := Lib.hid fun k0 hi0 hk0 => by
        obtain ⟨q1, q2⟩ := List.getElem?_eq_some_iff.1 hk
        obtain ⟨q3, q4⟩ := List.getElem?_eq_some_iff.1 hk0
        have := List.pairwise_iff_getElem.1 (all_lt S) (i - 1) i q3 q1 (by omega)
        rw [q2, q4] at this
        exact this
      obtain ⟨F, hFF⟩ : ∃ F, F = r.f := ⟨_, rfl⟩
      have HFD : Hid (∀ (l : List HP) (w' : World), Own (Tbl p 12 b (450 + 9 * i) Never S :: l) w' → Calls Try.prog 13 #[.pointer (some ⟨p, 0, none⟩), .int .u64 F.s, .int .u64 F.c, .int .u64 0, pace] w' fun e w2 => e = .returned (.tuple #[.int .i64 (k : Int), .int .u8 0, .int .i64 0]) ∧ Own (Tbl p 12 b (450 + 9 * (i + 1)) Never S :: l) w2) := Lib.hid fun l w' h' => by
        rw [hFF]
        refine own_find' h' (by omega) s0 s1 ?_ (by omega)
        rw [find_never (own_ti h').1 (by omega), found_there (own_ti h').1 hr rfl, if_pos rfl]
      rw [← hFF] at hz1 I1 s0 s1
      have HG := Lib.hid (get_row h.swap hr)
      rw [← hFF] at HG
      have HWS := Lib.hid (wfU s0 s1)
      have HWK : Hid ((Lit.int .i64 (k : Int)).wf = true) := Lib.hid (wfI (by omega) (by omega))
      have HZ1 := Lib.hid hz1
      have HZ2 := Lib.hid hz2
      have HIM := Lib.hid (show i < maxLen by simp only [maxLen]; omega)
      clear h i1 i2 i3 hk hr hz1 hz2 s0 s1 hFF
      go_wp2_with fail
      (with_reducible refine (HG.out).mono ?_)
      rintro e w5 ⟨rfl, h5⟩
      have h6 := Go.Proofs.Ytkdmlpigkmlkmaa.Own.blkNew h5 (f7 F) 41
      obtain ⟨b12, hb12⟩ : ∃ b, b = w5.heap.size := ⟨_, rfl⟩
      rw [← hb12] at h6
      obtain ⟨W6, hW6⟩ : ∃ W6, W6 = w5.alloc (.cells (f7 F) 41) := ⟨_, rfl⟩
      rw [← hW6] at h6
      replace h6 : Own (BF b12 F :: Tbl p 12 b (450 + 9 * i) Never S :: RN (.slice (some ⟨g4, 0, none⟩) L cap1) (allL S) :: M2 b2 i F2 :: M1 b1 i F1 :: [Old w]) W6 := h6
      obtain ⟨c0, -, -, -, -, -, -⟩ := bf_cells (b := b12) (F := F) h6 (.head _)
      have HA1 := Lib.hid h6.fifth
      have HB12 := Lib.hid hb12
      have HW6 := Lib.hid hW6
      clear h5 h6 hb12 hW6 HG p0
      go_upto_region 11 with fail
      rw [← HB12.out, ← HW6.out]
      clear HB12 HW6
      go_upto_region 12 with (first
        | (at_lookup; refine map_look _ rfl _ _ 54 rfl 22 3 .u64 Try.underlying22 Try.underlying54 Try.underlying3 (zeroI _) b1 i _ rfl HA1.out F.s rfl HWS.out ?_; rw [HZ1.out])
        | (at_mapUpdate; refine map_put _ rfl _ _ _ 54 rfl 22 3 .u64 Try.underlying22 Try.underlying54 Try.underlying3 b1 i F1 rfl HA1.out HIM.out F.s rfl HWS.out 1 rfl (by decide) ?_; intro w7 h7; have H7 := Lib.hid h7; clear h7)
        | fail)
      clear c0 HA1
      go_upto_region 13 with (first
        | (at_lookup; refine map_look _ rfl _ _ 55 rfl 3 3 .i64 Try.underlying3 Try.underlying55 Try.underlying3 (zeroI _) b2 i _ rfl H7.out.fifth (k : Int) rfl HWK.out ?_; rw [HZ2.out])
        | (at_mapUpdate; refine map_put _ rfl _ _ _ 55 rfl 3 3 .i64 Try.underlying3 Try.underlying55 Try.underlying3 b2 i F2 rfl H7.out.fifth HIM.out (k : Int) rfl HWK.out 1 rfl (by decide) ?_; intro w8 h8; have H8 := Lib.hid h8; clear h8)
        | fail)
      have hkI : (k : Int) < 12 := by omega
      have ha := fun {x : Nat} (hx : (allL S)[i - 1]? = some x) => rn_at H8.out.fifth HL.out.symm hx
      simp only [Act.put]
      go_cut [87] (fun s87 wx => s87 = .bool false ∧ wx = w8)
      case first =>
        obtain ⟨c0, -, -, -, -, -, -⟩ := bf_cells (b := b12) (F := F) H8.out (.tail _ (.tail _ (.head _)))
        have hlk := look1_run H8.out.swap HWS.out
        rw [if_pos rfl] at hlk
        rcases Nat.eq_zero_or_pos i with hi0 | hi0
        · have g0 : ¬ ((0 : Int) < (i : Int)) := by omega
          have g1 : decide ((0 : Int) < (i : Int)) = false := by simp; omega
          clear ha hi0
          go_wp2_with fail
          go_meet
          exact ⟨by simp; omega, rfl⟩
        · have g0 : (0 : Int) < (i : Int) := by omega
          obtain ⟨k0, hk0⟩ : ∃ k, (allL S)[i - 1]? = some k := ⟨_, List.getElem?_eq_getElem (by rw [← HL.out]; omega)⟩
          have hkk := HINC.out k0 hi0 hk0
          obtain ⟨g5, e5, p1⟩ := ha hk0
          injection e5 with e5
          injection e5 with e5
          subst e5
          obtain ⟨z, hz⟩ : ∃ z : Nat, z = i - 1 := ⟨_, rfl⟩
          rw [← hz] at p1
          have hzI : (i : Int) - 1 = (z : Int) := by omega
          have hzL : (z : Int) < (L : Int) := by omega
          have g2 : ¬ ((k : Int) ≤ (k0 : Int)) := by omega
          have g3 : decide ((k : Int) ≤ (k0 : Int)) = false := by simp; omega
          clear ha hk0 hkk hz hi0
          go_wp2_with fail
          go_meet
          exact ⟨by simp; omega, rfl⟩
      case rest =>
        obtain ⟨rfl, hwx⟩ := hcut
        have hwx' := hwx.symm
        subst hwx'
        clear ha hwx
        obtain ⟨LA, hLA⟩ : ∃ LA, LA = Tbl p 12 b (450 + 9 * i) Never S :: (M2 b2 (i + 1) fun z => if z = (k : Int) then 1 else F2 z) :: (M1 b1 (i + 1) fun z => if z = F.s then 1 else F1 z) :: BF b12 F :: RN (.slice (some ⟨g4, 0, none⟩) L cap1) (allL S) :: [Old w] := ⟨_, rfl⟩
        obtain ⟨LB, hLB⟩ : ∃ LB, LB = Tbl p 12 b (450 + 9 * (i + 1)) Never S :: (M2 b2 (i + 1) fun z => if z = (k : Int) then 1 else F2 z) :: (M1 b1 (i + 1) fun z => if z = F.s then 1 else F1 z) :: BF b12 F :: RN (.slice (some ⟨g4, 0, none⟩) L cap1) (allL S) :: [Old w] := ⟨_, rfl⟩
        have h9 : Own LA w8 := by rw [hLA]; exact H8.out.fourth
        have HCA : Hid (∀ w', Own LA w' → w'.cell? ⟨b12, 0, none⟩ = some (.int .u64 F.s) ∧ w'.cell? ⟨b12, 1, none⟩ = some (.int .u64 F.c)) := Lib.hid fun w' h' => by
          obtain ⟨c0, c1, -, -, -, -, -⟩ := bf_cells (b := b12) (F := F) h' (by rw [hLA]; exact .tail _ (.tail _ (.tail _ (.head _))))
          exact ⟨c0, c1⟩
        have HCB : Hid (∀ w', Own LB w' → w'.cell? ⟨b12, 0, none⟩ = some (.int .u64 F.s) ∧ w'.cell? ⟨b12, 1, none⟩ = some (.int .u64 F.c)) := Lib.hid fun w' h' => by
          obtain ⟨c0, c1, -, -, -, -, -⟩ := bf_cells (b := b12) (F := F) h' (by rw [hLB]; exact .tail _ (.tail _ (.tail _ (.head _))))
          exact ⟨c0, c1⟩
        have HPA : Hid (∀ w', Own LA w' → Calls Try.prog 14 #[] w' fun e w2 => e = .returned pace ∧ Own LA w2) := Lib.hid fun w' h' => pace_own h'
        have HF1 : Hid (∀ w', Own LA w' → Calls Try.prog 13 #[.pointer (some ⟨p, 0, none⟩), .int .u64 F.s, .int .u64 F.c, .int .u64 0, pace] w' fun e w2 => e = .returned (.tuple #[.int .i64 (k : Int), .int .u8 0, .int .i64 0]) ∧ Own LB w2) := Lib.hid fun w' h' => by rw [hLA] at h'; rw [hLB]; exact HFD.out _ _ h'
        have HFIN : Hid (∀ w', Own LB w' → OnI w p b b1 b2 L S (.slice (some ⟨g4, 0, none⟩) L cap1) (.int .i64 ((i : Int) + 1)) w') := Lib.hid fun w' h' => by
          rw [hLB] at h'
          exact ⟨i + 1, _, _, by go_num, by omega, h'.fourth.drop.fourth, I1.out, I2.out, I3.out⟩
        obtain ⟨d1, d2⟩ := HCA.out _ h9
        have hg := h9.step (Ext.refl _).drew
        have kk : ((k : Int) != (k : Int)) = false := by simp
        clear h9 hLA hLB
        go_upto_region 15 with fail
        go_region_held3 (fun w' => w'.cell? ⟨b12, 0, none⟩ = some (.int .u64 F.s) ∧ w'.cell? ⟨b12, 1, none⟩ = some (.int .u64 F.c))
          (first | exact ⟨(Ext.refl _).drew.cell d1, (Ext.refl _).drew.cell d2⟩ | exact HCA.out _ (by assumption) | exact HCB.out _ (by assumption))
          (first
            | (go_at_call 14; (with_reducible refine (HPA.out _ (by assumption)).mono ?_); rintro e w10 ⟨rfl, hz⟩)
            | (go_at_call 13; (with_reducible refine (HF1.out _ (by assumption)).mono ?_); rintro e w11 ⟨rfl, h11⟩))
        have HFF := Lib.hid (HFIN.out _ h11)
        clear hg hz d1 d2 h11
        go_wp2_with fail
        exact ⟨HFF.out, by simp [intOf]; omega⟩
    · obtain rfl : i = L := by omega
      have hI2 : ∀ x : Int, F2 x = if (atF S x).isSome = true then 1 else 0 := fun x => by
        split
        · rename_i h0
          obtain ⟨r, hr⟩ := Option.isSome_iff_exists.1 h0
          obtain ⟨k, rfl, hr2⟩ := atF_some hr
          have hm : k ∈ allL S := mem_all.2 (by rw [hr2]; rfl)
          obtain ⟨j, hj⟩ := List.getElem?_of_mem hm
          have := (List.getElem?_eq_some_iff.1 hj).1
          exact i2 _ j k (by rw [HL.out]; exact this) hj rfl
        · rename_i h0
          refine Classical.byContradiction fun hne => ?_
          obtain ⟨j, k, hj, hk, rfl⟩ := i3 x hne
          exact h0 (by rw [atF_nat]; exact mem_all.1 (List.mem_of_getElem? hk))
      obtain ⟨l2, hl2⟩ : ∃ l2, l2 = RN (.slice a1 i cap1) (allL S) :: M1 b1 i F1 :: [Old w] := ⟨_, rfl⟩
      have h2 : Own (Tbl p 12 b (450 + 9 * i) Never S :: M2 b2 i F2 :: l2) wr := by rw [hl2]; exact h.third.third
      have HI2 := Lib.hid hI2
      have HL2 := Lib.hid hl2
      have H2 := Lib.hid h2
      obtain ⟨NN, hNN⟩ : ∃ NN, NN = 450 + 9 * i := ⟨_, rfl⟩
      rw [← hNN] at H2
      clear h i1 i2 i3 hI2 h2 hl2 hlt hi hNN
      go_wp2_with fail
      go_loopw [17] (fun vi wr => OnJ p b NN b2 i F2 S l2 vi wr) (fun vi _ => (14 - intOf vi).toNat)
      case atStart => exact ⟨0, rfl, Nat.zero_le _, H2.out⟩
      case round =>
        clear H2
        obtain ⟨j, rfl, hj, h⟩ := hrel
        obtain ⟨q, hq⟩ : ∃ q : Int, q = (j : Int) - 1 := ⟨_, rfl⟩
        rw [← hq]
        by_cases hjt : j < 15
        · have hqI : q < 14 := by omega
          have hqL : -1 ≤ q := by omega
          obtain ⟨G, hG⟩ : ∃ G, G = getF S q := ⟨_, rfl⟩
          obtain ⟨B, hB⟩ : ∃ B, B = (atF S q).isSome := ⟨_, rfl⟩
          have HGT : Hid (∀ (l : List HP) (w' : World), Own (Tbl p 12 b NN Never S :: l) w' → Calls Try.prog 20 #[.pointer (some ⟨p, 0, none⟩), .int .i64 q] w' fun e w2 => e = .returned (.tuple #[fagg G, .bool B]) ∧ Own (Tbl p 12 b NN Never S :: l) w2) := Lib.hid fun l w' h' => by rw [hG, hB]; exact own_get h' q
          have HF2 := HI2.out q
          rw [← hB] at HF2
          have HWQ : Hid ((Lit.int .i64 q).wf = true) := Lib.hid (wfI (by omega) (by omega))
          have HNO : Hid (B = false → ∀ (l : List HP) (w' : World), Own (Tbl p 12 b NN Never S :: l) w' →
              (Calls Try.prog 21 #[.pointer (some ⟨p, 0, none⟩), .int .i64 q] w' fun e w2 => e = .returned (.bool false) ∧ w' = w2) ∧
              (Calls Try.prog 15 #[.pointer (some ⟨p, 0, none⟩), .int .i64 q, .int .u64 1] w' fun e w2 => e = .returned (.int .i64 2) ∧ Own (Tbl p 12 b NN Never S :: l) w2) ∧
              (Calls Try.prog 26 #[.pointer (some ⟨p, 0, none⟩), .int .i64 q] w' fun e w2 => e = .returned (.int .i64 2) ∧ Own (Tbl p 12 b NN Never S :: l) w2) ∧
              (Calls Try.prog 27 #[.pointer (some ⟨p, 0, none⟩), .int .i64 q, fagg G] w' fun e w2 => e = .returned (.int .i64 2) ∧ Own (Tbl p 12 b NN Never S :: l) w2)) := Lib.hid fun hb0 l w' h' => by
            have hn : atF S q = none := by
              rw [hb0] at hB
              cases hc : atF S q with
              | none => rfl
              | some r => rw [hc] at hB; cases hB
            have hG0 : G = F0 := by rw [hG]; unfold getF; rw [hn]; rfl
            have o1 : ∀ g, onT S q g = S := fun g => by unfold onT; rw [hn]
            have o2 : doneE S q = 2 := by unfold doneE; rw [hn]; rfl
            have o3 : putE S q G = 2 := by unfold putE; rw [hn]
            have k1 := own_rests h' q
            rw [hn] at k1
            have k2 := own_rest h' q 1 (by omega) (by omega)
            rw [o1, o2] at k2
            have k3 := own_busy h' q
            rw [o1, o2] at k3
            have k4 := own_set h' q G (by rw [hG0]; exact ⟨by decide, by decide⟩)
            rw [o1, o3] at k4
            exact ⟨k1, k2, k3, k4⟩
          have HG1 := Lib.hid (HGT.out _ _ h)
          have HNX : Hid (∀ w', Own (Tbl p 12 b NN Never S :: M2 b2 i F2 :: l2) w' → OnJ p b NN b2 i F2 S l2 (.int .i64 (q + 1)) w') := Lib.hid fun w' h' => ⟨j + 1, congrArg (Value.int .i64) (by omega), by omega, h'⟩
          clear h hG hB hq hjt hj
          go_wp2_with fail
          (with_reducible refine (HG1.out).mono ?_)
          rintro e w5 ⟨rfl, h5⟩
          have h6 := Go.Proofs.Ytkdmlpigkmlkmaa.Own.blkNew h5 (f7 G) 41
          obtain ⟨b18, hb18⟩ : ∃ b, b = w5.heap.size := ⟨_, rfl⟩
          rw [← hb18] at h6
          obtain ⟨W6, hW6⟩ : ∃ W6, W6 = w5.alloc (.cells (f7 G) 41) := ⟨_, rfl⟩
          rw [← hW6] at h6
          have HG2 := Lib.hid (HGT.out _ _ h6.swap)
          have HB18 := Lib.hid hb18
          have HW6 := Lib.hid hW6
          clear h5 h6 hb18 hW6 HG1 HGT
          go_upto_region 23 with fail
          rw [← HB18.out, ← HW6.out]
          clear HB18 HW6
          go_wp2_with fail
          (with_reducible refine (HG2.out).mono ?_)
          rintro e w7 ⟨rfl, h7⟩
          have h8 := Go.Proofs.Ytkdmlpigkmlkmaa.Own.blkNew h7 (f7 G) 41
          obtain ⟨b20, hb20⟩ : ∃ b, b = w7.heap.size := ⟨_, rfl⟩
          rw [← hb20] at h8
          obtain ⟨W8, hW8⟩ : ∃ W8, W8 = w7.alloc (.cells (f7 G) 41) := ⟨_, rfl⟩
          rw [← hW8] at h8
          replace h8 : Own (BF b20 G :: Tbl p 12 b NN Never S :: BF b18 G :: M2 b2 i F2 :: l2) W8 := h8
          have hlk := look2_run h8.fourth HWQ.out
          rw [HF2] at hlk
          have H8 := Lib.hid h8
          have HB20 := Lib.hid hb20
          have HW8 := Lib.hid hW8
          clear h7 h8 hb20 hW8 HG2 HF2
          go_upto_region 24 with fail
          rw [← HB20.out, ← HW8.out]
          clear HB20 HW8
          cases B with
          | true =>
            rw [if_pos rfl] at hlk
            have HFI := Lib.hid (HNX.out _ (H8.out.drop.swap.drop))
            clear H8 HNO
            go_wp2_with fail
            exact ⟨HFI.out, by simp [intOf]; omega⟩
          | false =>
            rw [if_neg (by simp)] at hlk
            obtain ⟨k1, -⟩ := HNO.out (by first | rfl | trivial) _ _ H8.out.swap
            obtain ⟨-, k2, -⟩ := HNO.out (by first | rfl | trivial) _ _ H8.out.swap
            have K1 := Lib.hid k1
            have K2 := Lib.hid k2
            clear k1 k2
            go_wp2_with fail
            (with_reducible refine (K1.out).mono ?_)
            rintro e w9 ⟨rfl, rfl⟩
            go_wp2_with fail
            (with_reducible refine (K2.out).mono ?_)
            rintro e w10 ⟨rfl, h10⟩
            obtain ⟨-, -, k3, -⟩ := HNO.out (by first | rfl | trivial) _ _ h10
            have K3 := Lib.hid k3
            clear k3 h10 K1 K2 hlk
            go_wp2_with fail
            (with_reducible refine (K3.out).mono ?_)
            rintro e w11 ⟨rfl, h11⟩
            obtain ⟨c0, c1, c2, c3, c4, c5, c6⟩ := bf_cells (b := b20) (F := G) h11 (.tail _ (.head _))
            obtain ⟨-, -, -, k4⟩ := HNO.out (by first | rfl | trivial) _ _ h11
            have K4 := Lib.hid k4
            clear k4 h11 K3
            go_wp2_with fail
            (with_reducible refine (K4.out).mono ?_)
            rintro e w12 ⟨rfl, h12⟩
            have HFI := Lib.hid (HNX.out _ (h12.swap.drop.swap.drop))
            clear h12 K4 c0 c1 c2 c3 c4 c5 c6
            go_wp2_with fail
            exact ⟨HFI.out, by simp [intOf]; omega⟩
        · obtain rfl : q = 14 := by omega
          have hln := own_len h
          rw [show S.R.length = i by rw [← all_len HT.out, ← HL.out]] at hln
          have HLN := Lib.hid hln
          have hA := awake_any h
          have HA := Lib.hid hA
          have yy : ((i : Int) == (i : Int)) = true := by simp
          clear h hln hA hjt hj hq
          go_wp2_with fail
          (with_reducible refine (HLN.out).mono ?_)
          rintro e w5 ⟨rfl, rfl⟩
          go_wp2_with fail
          (with_reducible refine (HA.out).mono ?_)
          rintro e w6 ⟨rfl, h6⟩
          have HX := Lib.hid (show Ext w w6 from h6.ext (by rw [HL2.out]; simp))
          clear h6 HA HLN
          go_wp2_with fail
          go_ret
          exact ⟨rfl, HX.out⟩
theorem once_row (bits : Int) (v : Value) (x : Nat × (Nat → TOp)) (wb : (Lit.int .u8 bits).wf = true) (w : World) (ho : Ops2 w v x) :
    Calls Try.prog 6 #[.int .u8 bits, v] w fun e w' => e = .returned (.bool true) ∧ Ext w w' :=
  once_main v x.1 x.2 bits (u8_bd wb).1 (u8_bd wb).2 w ho
end Go.Proofs.Ytkdmlpigkmlkmaa.Tb
