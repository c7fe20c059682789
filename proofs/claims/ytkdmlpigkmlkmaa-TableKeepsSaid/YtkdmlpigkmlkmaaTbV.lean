/- DERIVED. Layer 15 (rehash) over tables: Spread, Fullest. -/
import Derived.Test.YtkdmlpigkmlkmaaTbU
import Derived.Test.YtkdmlpigkmlkmaaApp
set_option linter.unusedVariables false
set_option linter.unusedSimpArgs false
set_option maxRecDepth 100000
namespace Go.Proofs.Ytkdmlpigkmlkmaa.Tb
open Go.RowKit Go.Proofs.Ytkdmlpigkmlkmaa Go.Proofs.Ytkdmlpigkmlkmaa.TreeP Go.Proofs.Ytkdmlpigkmlkmaa.Tr Go.Proofs.Ytkdmlpigkmlkmaa.Bk

theorem rnone_any {p n b N : Nat} {keep : Int} {S : T} {l : List HP} {w : World} (h : Own (Tbl p n b N keep S :: l) w) :
    Calls Try.prog 70 #[.pointer (some ⟨p, 0, none⟩)] w fun e w' => e = .returned (.bool false) ∧ Own (Tbl p n b N keep S :: l) w' := by
  obtain ⟨-, hb⟩ := own_ti h
  have HB := Lib.hid (own_bits h)
  have HR := Lib.hid (rebuild_ok h b hb)
  clear h hb
  go_enter Try.func70, Try.ntmps70
  go_wp2_with fail
  (with_reducible refine (HB.out).mono ?_)
  rintro e w1 ⟨rfl, rfl⟩
  go_wp2_with fail
  (with_reducible refine (HR.out).mono ?_)
  rintro e w2 ⟨rfl, h2⟩
  have H2 := Lib.hid h2
  clear h2 HB HR
  go_wp2_with fail
  go_ret
  exact ⟨rfl, H2.out⟩
theorem take_max {ys : List Nat} {k x : Nat} (h : ys[k]? = some x) : maxL (ys.take (k + 1)) = max (maxL (ys.take k)) x := by
  rw [List.take_add_one, h]
  exact max_snoc _ _
set_option maxHeartbeats 1000000 in
theorem max_any {v : Value} {ys : List Nat} {l : List HP} {w : World} (h : Own (RN v ys :: l) w) (h1 : 1 ≤ ys.length) (h2 : ys.length ≤ 65536) :
    Calls Try.prog 71 #[v] w fun e w' => e = .returned (.int .i64 (maxL ys : Nat)) ∧ w = w' := by
  obtain ⟨m, hm⟩ : ∃ m, m = ys.length := ⟨_, rfl⟩
  obtain ⟨a, cap, rfl, f0⟩ := rn_cells h hm.symm
  rw [← hm] at h1 h2
  obtain ⟨g, rfl, f⟩ := f0 (by omega)
  obtain ⟨x0, hx0⟩ : ∃ e, ys[0]? = some e := ⟨_, List.getElem?_eq_getElem (by rw [← hm]; exact h1)⟩
  have c0 := f 0 x0 hx0
  have h0 : maxL (ys.take 1) = x0 := by
    have := take_max hx0
    rw [this]
    simp [maxL]
  have F := Lib.hid f
  have HM := Lib.hid hm
  have H0 := Lib.hid h0
  clear h f f0 hm hx0 h0
  go_enter Try.func71, Try.ntmps71
  go_wp2
  go_loopw [3, 4] (fun v3 v4 wr => ∃ k : Nat, v4 = .int .i64 (k : Int) ∧ k ≤ m ∧ v3 = .int .i64 (maxL (ys.take k) : Nat) ∧ w = wr) (fun _ v4 _ => m - (intOf v4).toNat)
  case atStart => exact ⟨1, rfl, by omega, by rw [H0.out], rfl⟩
  case round =>
    obtain ⟨k, rfl, hk, rfl, rfl⟩ := hrel
    by_cases hlt : k < m
    · obtain ⟨x, hx⟩ : ∃ e, ys[k]? = some e := ⟨_, List.getElem?_eq_getElem (by rw [← HM.out]; exact hlt)⟩
      have ck := F.out k x hx
      obtain ⟨c, hc⟩ : ∃ c, c = maxL (ys.take k) := ⟨_, rfl⟩
      have ht := take_max hx
      rw [← hc] at ht ⊢
      have hltI : (k : Int) < (m : Int) := by omega
      have HF : Hid ((if c < x then (x : Int) else (c : Int)) = (maxL (ys.take (k + 1)) : Nat)) := Lib.hid (by rw [ht]; split <;> omega)
      clear ht hc hx
      go_wp2_with fail
      exact ⟨⟨k + 1, by go_num, by omega, by rw [HF.out], trivial⟩, by simp [intOf]; omega⟩
    · obtain rfl : k = m := by omega
      have hall : ys.take k = ys := List.take_of_length_le (by rw [← HM.out]; exact Nat.le_refl _)
      rw [hall]
      clear hlt hk
      go_wp2
      go_ret
      exact ⟨rfl, rfl⟩
theorem made_zeros (n : Nat) : (madeCells (Value.int .i64 0).cells (n * 1)).toList = Tr.ints (List.replicate n 0) := by
  apply List.ext_getElem?
  intro j
  by_cases hj : j < n
  · have h1 : (madeCells (Value.int .i64 0).cells (n * 1)).toList[j]? = some (.int .i64 0) := by
      simp [madeCells, Value.cells, hj, Nat.mod_one]
    rw [h1]
    simp [Tr.ints, hj]
  · rw [List.getElem?_eq_none (by simp [size_madeCells]; omega), List.getElem?_eq_none (by simp [Tr.ints]; omega)]
abbrev RNP (v : Value) (P : Nat) (l : List Nat) : HP := Row 3 1 v P (Tr.ints l)
def SpI (p n b N P m g : Nat) (keep : Int) (S : T) (va : Value) (l : List HP) (s17 : Value) (wr : World) : Prop :=
  ∃ j : Nat, s17 = .int .i64 (j : Int) ∧ j ≤ m ∧ Own (RNP (.slice (some ⟨g, 0, none⟩) P P) P (cnt b ((socks S).take j)) :: Tbl p n b N keep S :: RN va (allL S) :: l) wr
theorem rnp_cell {g P k x : Nat} {xs : List Nat} {l : List HP} {w : World} (h : Own (RNP (.slice (some ⟨g, 0, none⟩) P P) P xs :: l) w) (hx : xs[k]? = some x) : w.cell? ⟨g, k, none⟩ = some (.int .i64 (x : Int)) := by
  have := h.row.cells (g := g) rfl k (.int .i64 (x : Int)) (by simp [Tr.ints, hx])
  rw [add_plain] at this
  exact this
theorem rnp_wr {g P k x : Nat} {xs : List Nat} {l : List HP} {w : World} (h : Own (RNP (.slice (some ⟨g, 0, none⟩) P P) P xs :: l) w) (hk : k < P) (hx : xs[k]? = some x) (y : Nat) :
    ∃ v, Wr w ⟨g, k, none⟩ (.int .i64 (y : Int)) v ∧ Own (RNP (.slice (some ⟨g, 0, none⟩) P P) P (xs.set k y) :: l) v := by
  have h1 := h.rowSet (o := k) (by omega) (.int .i64 (y : Int))
  refine ⟨_, ⟨rfl, ⟨_, rnp_cell h hx⟩, h.row.frozen' rfl _⟩, ?_⟩
  have e : (Tr.ints xs).set k (.int .i64 (y : Int)) = Tr.ints (xs.set k y) := by simp [Tr.ints, List.map_set]
  rw [e] at h1
  exact h1
theorem socks_take {n N b j k : Nat} {S : T} {r : RW} {c : Nat} (hb : b ≤ 10) (hk : (allL S)[j]? = some k) (hr : rowAt S.rows k = some r) (hc : (cnt b ((socks S).take j))[β b r.f.s]? = some c) : cnt b ((socks S).take (j + 1)) = (cnt b ((socks S).take j)).set (β b r.f.s) (c + 1) := by
  have e : (socks S)[j]? = some r.f.s := by
    unfold socks
    rw [List.getElem?_map, hk]
    unfold sockAt
    simp [hr]
  rw [List.take_add_one, e]
  exact cnt_snoc hb hc
theorem cnt_bd {b i c : Nat} {xs : List Int} (hc : (cnt b xs)[i]? = some c) : c ≤ xs.length := by
  have hi : i < 2 ^ b := by
    have := (List.getElem?_eq_some_iff.1 hc).1
    rw [cnt_len] at this
    exact this
  rw [cnt_at hi] at hc
  injection hc with hc
  rw [← hc]
  exact List.countP_le_length
set_option maxHeartbeats 4000000 in
theorem spread_any {p n b N : Nat} {keep : Int} {S : T} {l : List HP} {w : World} (h : Own (Tbl p n b N keep S :: l) w) :
    Calls Try.prog 41 #[.pointer (some ⟨p, 0, none⟩)] w fun e w' => ∃ v, e = .returned v ∧ Own (RN v (cnt b (socks S)) :: Tbl p n b N keep S :: l) w' := by
  obtain ⟨ht, hb⟩ := own_ti h
  have hn2 := ht.n2
  have hal : (allL S).length ≤ 4096 := by rw [all_len ht]; have := ht.rk.len; omega
  have HNO := Lib.hid (rnone_any h)
  have HBD : Hid (∀ k r, rowAt S.rows k = some r → 0 ≤ r.f.s ∧ r.f.s < 18446744073709551616) := Lib.hid fun k r hr => (ht.hd k r hr).2.2.1
  obtain ⟨pk1, pk2⟩ := Re.pw_le hb
  obtain ⟨P, hP⟩ : ∃ P, P = 2 ^ b := ⟨_, rfl⟩
  rw [← hP] at pk1 pk2
  have hsh : wrap64 ((2 : Int) ^ b) = (P : Int) := by
    have e : ((2 : Int) ^ b) = (P : Int) := by rw [hP]; simp
    rw [e]
    unfold wrap64
    omega
  have HSH := Lib.hid hsh
  have HB := Lib.hid hb
  have HP := Lib.hid hP
  obtain ⟨i0, hii, hzz⟩ := Option.map_eq_some_iff.1 infoI
  simp only [Prod.mk.injEq] at hzz
  obtain ⟨hz0, hz1, hz2⟩ := hzz
  have HI := Lib.hid hii
  have HZ0 := Lib.hid hz0
  have HZ1 := Lib.hid hz1
  have B2 := Lib.hid (show i0.bytes * P ≤ 281474976710656 by rw [hz2]; omega)
  have B3 := Lib.hid (show P ≤ maxLen by simp only [maxLen]; omega)
  have b64 : b < 64 := by omega
  obtain ⟨m, hm⟩ : ∃ m, m = (allL S).length := ⟨_, rfl⟩
  rw [← hm] at hal
  have HM := Lib.hid hm
  clear h ht hb hsh hP hii hz0 hz1 hz2 hm
  go_enter Try.func41, Try.ntmps41
  go_wp2_with fail
  (with_reducible refine (HNO.out).mono ?_)
  rintro e w1 ⟨rfl, h1⟩
  have HBT := Lib.hid (own_bits h1)
  have H1 := Lib.hid h1
  clear h1 HNO
  go_wp2_with fail
  (with_reducible refine (HBT.out).mono ?_)
  rintro e w2 ⟨rfl, rfl⟩
  clear HBT
  go_wp2_with (refine wpList_make_full w1 rfl _ _ 47 rfl 0 3 i0 _ 1 Try.underlying47 HI.out HZ0.out HZ1.out .i64 .i64 (wrap64 ((2 : Int) ^ b)) (wrap64 ((2 : Int) ^ b)) P rfl rfl HSH.out HSH.out B2.out B3.out (Nat.zero_le _) ?_; intro w3 hrow hgrow; rw [made_zeros] at hrow; have H3 := Lib.hid (H1.out.new (P := RNP (.slice (some ⟨w1.heap.size, 0, none⟩) P P) P (List.replicate P 0)) (s := fun b => b = w1.heap.size) (Step.to_ext ((Step.refl _ w1).grown hgrow (fun k hk => by cases hk))) ⟨hrow, fun b => by simp [Value.ownBlock, eq_comm]⟩ (fun b hb => by rw [hb]; exact Nat.le_refl _)); clear hrow hgrow)
  obtain ⟨g, hg⟩ : ∃ g, g = w1.heap.size := ⟨_, rfl⟩
  rw [← hg] at H3 ⊢
  have HAL := Lib.hid (own_all H3.out.swap)
  clear H3 H1 hg
  go_wp2_with fail
  (with_reducible refine (HAL.out).mono ?_)
  rintro e w4 ⟨va, rfl, h4⟩
  obtain ⟨a3, cap3, rfl, -⟩ := rn_cells h4 HM.out.symm
  have H4 := Lib.hid h4
  clear h4 HAL
  go_wp2_with fail
  go_loopw [17] (fun vj wr => SpI p n b N P m g keep S (.slice a3 m cap3) l vj wr) (fun vj _ => m - (intOf vj).toNat)
  case atStart => exact ⟨0, rfl, Nat.zero_le _, by rw [List.take_zero, cnt_nil, ← HP.out]; exact H4.out.third.tail fun h => h.swap⟩
  case round =>
    clear H4
    obtain ⟨j, rfl, hj, h⟩ := hrel
    by_cases hjt : j < m
    · have hjI : (j : Int) < (m : Int) := by omega
      obtain ⟨k, hk⟩ : ∃ k, (allL S)[j]? = some k := ⟨_, List.getElem?_eq_getElem (by rw [← HM.out]; exact hjt)⟩
      obtain ⟨r, hr⟩ : ∃ r, rowAt S.rows k = some r := Option.isSome_iff_exists.1 (mem_all.1 (List.mem_of_getElem? hk))
      obtain ⟨a4, c4, e4, f4⟩ := rn_cells h.third HM.out.symm
      obtain ⟨g4, rfl, ff4⟩ := f4 (by omega)
      injection e4 with e5 _ e6
      subst e5 e6
      have p0 := ff4 j k hk
      obtain ⟨s0, s1⟩ := HBD.out k r hr
      have hβ := β_lt b r.f.s HB.out
      obtain ⟨c, hc⟩ : ∃ c, (cnt b ((socks S).take j))[β b r.f.s]? = some c := ⟨_, List.getElem?_eq_getElem (by rw [cnt_len]; exact hβ)⟩
      have hc4 : c ≤ 4096 := by
        have := cnt_bd hc
        rw [List.length_take, socks_len, ← HM.out] at this
        omega
      have hst := socks_take HB.out hk hr hc (n := n) (N := N)
      obtain ⟨q, hq⟩ : ∃ q, q = β b r.f.s := ⟨_, rfl⟩
      rw [← hq] at hc hst hβ
      rw [← HP.out] at hβ
      obtain ⟨F, hFF⟩ : ∃ F, F = r.f := ⟨_, rfl⟩
      rw [← hFF] at hq s0 s1
      obtain ⟨C, hC⟩ : ∃ C, C = cnt b ((socks S).take j) := ⟨_, rfl⟩
      obtain ⟨C2, hC2⟩ : ∃ C2, C2 = cnt b ((socks S).take (j + 1)) := ⟨_, rfl⟩
      rw [← hC2] at hst
      rw [← hC] at hst hc h
      have hgr := get_row h.swap hr
      rw [← hFF] at hgr
      have HG := Lib.hid hgr
      have HQ := Lib.hid hq
      have HC := Lib.hid hc
      have HST := Lib.hid hst
      have HC2 := Lib.hid hC2
      have hqI : (q : Int) < (P : Int) := by omega
      clear h f4 ff4 hk hr hFF hq hC hC2 hc hst hgr
      go_wp2_with fail
      (with_reducible refine (HG.out).mono ?_)
      rintro e w5 ⟨rfl, h5⟩
      have h6 := Go.Proofs.Ytkdmlpigkmlkmaa.Own.blkNew h5 (f7 F) 41
      obtain ⟨b6, hb6⟩ : ∃ b, b = w5.heap.size := ⟨_, rfl⟩
      rw [← hb6] at h6
      obtain ⟨W6, hW6⟩ : ∃ W6, W6 = w5.alloc (.cells (f7 F) 41) := ⟨_, rfl⟩
      rw [← hW6] at h6
      replace h6 : Own (BF b6 F :: Tbl p n b N keep S :: RNP (.slice (some ⟨g, 0, none⟩) P P) P C :: RN (.slice (some ⟨g4, 0, none⟩) m cap3) (allL S) :: l) W6 := h6
      obtain ⟨c0, -, -, -, -, -, -⟩ := bf_cells (b := b6) (F := F) h6 (.head _)
      obtain ⟨LL, hLL⟩ : ∃ LL, LL = BF b6 F :: Tbl p n b N keep S :: RNP (.slice (some ⟨g, 0, none⟩) P P) P C :: RN (.slice (some ⟨g4, 0, none⟩) m cap3) (allL S) :: l := ⟨_, rfl⟩
      have HBI : Hid (∀ w', Own LL w' → Calls Try.prog 29 #[.pointer (some ⟨p, 0, none⟩)] w' fun e w2 => e = .returned (.int .i64 (b : Nat)) ∧ w' = w2) := Lib.hid fun w' h' => by rw [hLL] at h'; exact own_bits h'.swap
      have HMB : Hid (∀ w', Own LL w' → Calls Try.prog 25 #[.int .u64 F.s, .int .i64 (b : Int)] w' fun e w2 => e = .returned (.int .i64 (q : Int)) ∧ Own LL w2) := Lib.hid fun w' h' => by
        obtain ⟨fs, hfs⟩ := Int.eq_ofNat_of_zero_le s0
        have hm := Mx.bucket_any fs b (by unfold MixP.M; omega) (by have := HB.out; omega) w'
        rw [show Mx.bk fs b = q by rw [HQ.out, hfs]; rfl] at hm
        rw [hfs]
        exact hm.mono fun e w2 ⟨he, hx⟩ => ⟨he, h'.step hx⟩
      have HW : Hid (∀ w', Own LL w' → ∃ v1, (w'.setCell ⟨g, q, none⟩ (.int .i64 (IntKind.i64.wrap ((c : Int) + 1))) = v1 ∧ w'.cell? ⟨g, q, none⟩ = some (.int .i64 (c : Int)) ∧ w'.frozen? ⟨g, q, none⟩ = false) ∧ SpI p n b N P m g keep S (.slice (some ⟨g4, 0, none⟩) m cap3) l (.int .i64 ((j : Int) + 1)) v1) := Lib.hid fun w' h' => by
        rw [hLL] at h'
        have h2 := h'.drop.swap
        obtain ⟨v1, ⟨e1, -, f1⟩, h3⟩ := rnp_wr h2 hβ HC.out (c + 1)
        refine ⟨v1, ⟨by rw [show IntKind.i64.wrap ((c : Int) + 1) = ((c + 1 : Nat) : Int) by rw [IntKind.wrap_i64]; omega]; exact e1, rnp_cell h2 HC.out, f1⟩, j + 1, by go_num, by omega, ?_⟩
        rw [← HC2.out, HST.out]
        exact h3
      have hg : Own LL W6.drew := by rw [hLL]; exact h6.step (Ext.refl _).drew
      have HB6 := Lib.hid hb6
      have HW6 := Lib.hid hW6
      have hcI : (c : Int) ≤ 4096 := by omega
      clear h5 h6 hb6 hW6 HG hLL p0 s0 s1 hβ
      go_upto_region 9 with fail
      rw [← HB6.out, ← HW6.out]
      clear HB6 HW6
      go_region_with (first
        | (go_at_call 29; (with_reducible refine (HBI.out _ (by assumption)).mono ?_); rintro e w7 ⟨rfl, rfl⟩)
        | (go_at_call 25; (with_reducible refine (HMB.out _ (by assumption)).mono ?_); rintro e w8 ⟨rfl, hz⟩; obtain ⟨v1, ⟨e1, z1, f1⟩, h8⟩ := HW.out _ hz; have H8 := Lib.hid h8; clear h8))
      all_goals (go_wp2_with fail; exact ⟨H8.out, by simp [intOf]; omega⟩)
    · obtain rfl : j = m := by omega
      have HF : Hid (Own (RN (.slice (some ⟨g, 0, none⟩) P P) (cnt b (socks S)) :: Tbl p n b N keep S :: l) wr) := Lib.hid (by
        have h2 := h.third.drop
        rw [List.take_of_length_le (by rw [socks_len, ← HM.out]; exact Nat.le_refl _)] at h2
        show Own (Row _ 1 _ (cnt b (socks S)).length _ :: _) _
        rw [cnt_len, ← HP.out]
        exact h2)
      clear h hj hjt
      go_wp2_with fail
      go_ret
      exact ⟨_, rfl, HF.out⟩
set_option maxHeartbeats 2000000 in
theorem fullest_any {p n b N : Nat} {keep : Int} {S : T} {l : List HP} {w : World} (h : Own (Tbl p n b N keep S :: l) w) :
    Calls Try.prog 42 #[.pointer (some ⟨p, 0, none⟩)] w fun e w' => e = .returned (.int .i64 (maxL (cnt b (socks S)) : Nat)) ∧ Own (Tbl p n b N keep S :: l) w' := by
  obtain ⟨-, hb⟩ := own_ti h
  have H1 := Lib.hid (spread_any h)
  obtain ⟨C, hC⟩ : ∃ C, C = cnt b (socks S) := ⟨_, rfl⟩
  obtain ⟨P, hP⟩ : ∃ P, P = C.length := ⟨_, rfl⟩
  have pk2 : P ≤ 1024 := by rw [hP, hC, cnt_len]; exact (Re.pw_le hb).2
  rw [← hC] at H1 ⊢
  have HPL := Lib.hid hP
  clear h hb hC hP
  go_enter Try.func42, Try.ntmps42
  go_wp2_with fail
  (with_reducible refine (H1.out).mono ?_)
  rintro e w1 ⟨v, rfl, h1⟩
  have HO := Lib.hid h1
  clear h1 H1
  go_wp2_with (at_builtin; refine app_own (W := w1) rfl _ _ _ _ _ 1 8 rfl Try.underlying47 infoI rfl (by omega) (by omega) v P (Tr.ints C) [.int .i64 0] rfl _ (by rfl) rfl rfl (by simp [Value.oneCell']) (by rw [HPL.out]; exact HO.out.row) (by omega) ?_)
  intro v1 w2 hown hgrow hmv
  have h2 := HO.out.rowApp hown hgrow hmv
  have e1 : Tr.ints C ++ [.int .i64 0] = Tr.ints (C ++ [0]) := by simp [Tr.ints]
  rw [e1] at h2
  have h3 : Own (RN v1 (C ++ [0]) :: Tbl p n b N keep S :: l) w2 := by
    have : (C ++ [0]).length = P + 1 := by rw [List.length_append, ← HPL.out]; rfl
    show Own (Row _ 1 _ (C ++ [0]).length _ :: _) _
    rw [this]
    exact h2
  have hm := max_any h3 (by rw [List.length_append]; simp) (by rw [List.length_append, ← HPL.out]; simp; omega)
  rw [max_snoc, Nat.max_zero] at hm
  have HM := Lib.hid hm
  have H3 := Lib.hid h3.drop
  clear hown hgrow hmv h2 h3 hm e1
  go_wp2_with fail
  (with_reducible refine (HM.out).mono ?_)
  rintro e w4 ⟨rfl, rfl⟩
  go_wp2_with fail
  go_ret
  exact ⟨rfl, H3.out⟩
end Go.Proofs.Ytkdmlpigkmlkmaa.Tb
