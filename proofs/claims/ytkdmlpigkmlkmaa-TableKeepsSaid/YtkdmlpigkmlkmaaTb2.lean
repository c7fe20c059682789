/- DERIVED. Layer 14 (table): the law TableKeeps. -/
import Derived.Test.YtkdmlpigkmlkmaaTb1
import Derived.Test.YtkdmlpigkmlkmaaTbW
import Derived.BigQuiet
set_option linter.unusedVariables false
set_option linter.unusedSimpArgs false
set_option maxRecDepth 100000
namespace Go.Proofs.Ytkdmlpigkmlkmaa.Tb
open Go.RowKit Go.Proofs.Ytkdmlpigkmlkmaa Go.Proofs.Ytkdmlpigkmlkmaa.TreeP Go.Proofs.Ytkdmlpigkmlkmaa.Tr Go.Proofs.Ytkdmlpigkmlkmaa.Bk Go.Maps

def KpI (w : World) (p b b1 L : Nat) (keep : Int) (S : T) (v : Value) (vi : Value) (wr : World) : Prop :=
  ∃ (i : Nat) (D : DataW Unit), vi = .int .i64 (i : Int) ∧ i ≤ L ∧ WD S i D ∧ Own (RN v (allL S) :: Tbl p 12 b 450 keep S :: MW S b1 i D :: [Old w]) wr
theorem countP_strike {k0 : Nat} {P Q : Nat → Bool} : ∀ {l : List Nat}, l.Nodup → k0 ∈ l → (∀ k ∈ l, k ≠ k0 → P k = Q k) → Q k0 = false → l.countP P = l.countP Q + if P k0 = true then 1 else 0
  | [], _, hm, _, _ => by cases hm
  | x :: l, nd, hm, hPQ, hQ => by
    obtain ⟨n1, n2⟩ := List.nodup_cons.1 nd
    by_cases hx : x = k0
    · subst hx
      have : l.countP P = l.countP Q := List.countP_congr fun k hk => by rw [hPQ k (.tail _ hk) (fun e => n1 (e ▸ hk))]
      rw [List.countP_cons, List.countP_cons, this, hQ]
      simp
    · have hm2 : k0 ∈ l := by
        cases hm with
        | head => exact absurd rfl hx
        | tail _ h => exact h
      have ih := countP_strike n2 hm2 (fun k hk => hPQ k (.tail _ hk)) hQ
      rw [List.countP_cons, List.countP_cons, ih, hPQ x (.head _) hx]
      omega
theorem flow_ne {G F : FD} (h : G ≠ F) (w' : World) : (binOp .neq 41 (fagg G) (fagg F)).run Try.prog w' = .ok (.bool true) w' := by
  go_simp
  intro a1 a2 a3 a4 a5 a6 a7
  refine h ?_
  cases G
  cases F
  simp_all
def KpL (w : World) (p b b1 r L : Nat) (keep : Int) (S S' C : T) (D : DataW Unit) (s24 : Value) (wr : World) : Prop :=
  ∃ (gone : Nat) (left : Lit → Bool) (cnt : Nat), s24 = .int .i64 (gone : Int) ∧ gone + (allL S).countP (fun k : Nat => left (flk (k : Int)) && (rowAt C.rows k).isNone) = goneN S C ∧ (∀ x : Int, left (flk x) = true → ∃ k : Nat, x = (k : Int) ∧ k ∈ allL S) ∧ Own (MG S b1 r L D left cnt :: Tbl p 12 b 459 keep S' :: [Old w]) wr
set_option maxHeartbeats 8000000 in
theorem keeps_main (v : Value) (nn : Nat) (f : Nat → TOp) (bits keep sock cookie now : Int) (b0 : 0 ≤ bits) (b1' : bits ≤ 255) (k0 : 0 ≤ keep) (k1 : keep ≤ 18446744073709551615) (s0 : 0 ≤ sock) (s1 : sock < 18446744073709551616) (n0 : 0 ≤ now) (n1 : now < 18446744073709551616) (w : World) (ho : Ops w v nn f) :
    Calls Try.prog 5 #[.int .u8 bits, .int .u64 keep, v, .int .u64 sock, .int .u64 cookie, .int .u64 now] w fun e w' => e = .returned (.bool true) ∧ Ext w w' := by
  obtain ⟨b, hb⟩ : ∃ b : Nat, bits % 11 = (b : Int) := ⟨(bits % 11).toNat, by omega⟩
  have hb10 : b ≤ 10 := by omega
  have HPL := Lib.hid (played_any (b := b) (keep := keep) v nn f hb10 k0 k1 ho (Own.start w) (.head _))
  obtain ⟨S, hS⟩ : ∃ S, S = playS 12 b keep f (min nn 50) := ⟨_, rfl⟩
  rw [← hS] at HPL
  have S0 := Lib.hid s0
  have S1 := Lib.hid s1
  have HB10 := Lib.hid hb10
  have HKP := Lib.hid (And.intro k0 k1)
  have HNW := Lib.hid (And.intro n0 n1)
  clear ho hS s0 s1 k0 k1 n0 n1
  have hmm := @run_makeMap Try.prog
  go_enter Try.func5, Try.ntmps5
  go_wp2_with fail
  try rw [hb]
  (with_reducible refine (HPL.out).mono ?_)
  rintro e w1 ⟨p, rfl, h1⟩
  obtain ⟨ht, -⟩ := own_ti h1
  have h3 := (Own.mapDNew (P := Try.prog) 3 (wasR S) h1)
  have HAL := Lib.hid (own_all h3.swap)
  have HT := Lib.hid ht
  obtain ⟨L, hL⟩ : ∃ L, L = (allL S).length := ⟨_, rfl⟩
  have hL12 : L ≤ 12 := by
    rw [hL, all_len ht]
    have := ht.rk.len
    omega
  have HL := Lib.hid hL
  clear h1 h3 HPL hb b0 b1' ht hL hb10
  go_wp2_with fail
  (with_reducible refine (HAL.out).mono ?_)
  rintro e w4 ⟨va, rfl, h4⟩
  obtain ⟨b1, hb1⟩ : ∃ b1, b1 = w1.heap.size := ⟨_, rfl⟩
  rw [← hb1] at h4
  rw [← hb1]
  obtain ⟨a1, cap1, rfl, -⟩ := rn_cells h4 HL.out.symm
  have H4 := Lib.hid h4
  clear h4 HAL hb1
  go_wp2_with fail
  go_loopw [48] (fun vi wr => KpI w p b b1 L keep S (.slice a1 L cap1) vi wr) (fun vi _ => L - (intOf vi).toNat)
  case atStart => exact ⟨0, _, rfl, Nat.zero_le _, wd_zero S, H4.out⟩
  case round =>
    clear H4
    obtain ⟨i, D, rfl, hi, hwd, h⟩ := hrel
    by_cases hlt : i < L
    · have hltI : (i : Int) < (L : Int) := by omega
      obtain ⟨k, hk⟩ : ∃ k, (allL S)[i]? = some k := ⟨_, List.getElem?_eq_getElem (by rw [← HL.out]; exact hlt)⟩
      obtain ⟨r, hr⟩ : ∃ r, rowAt S.rows k = some r := Option.isSome_iff_exists.1 (mem_all.1 (List.mem_of_getElem? hk))
      obtain ⟨g4, rfl, p0⟩ := rn_at h HL.out.symm hk
      have hk12 : k < 12 := by have := rowAt_lt hr; rw [HT.out.len] at this; exact this
      obtain ⟨F, hFF⟩ : ∃ F, F = r.f := ⟨_, rfl⟩
      obtain ⟨q, hq⟩ : ∃ q, q = r.q := ⟨_, rfl⟩
      have HG := Lib.hid (get_row h.swap hr)
      rw [← hFF] at HG
      have HWD := Lib.hid hwd
      have HK := Lib.hid hk
      have HR := Lib.hid hr
      have HV : Hid (wasV r = .agg #[.int .u64 F.s, .int .u64 F.c, .int .u64 F.ra, .int .i64 F.cr, .int .u64 F.nx, .int .u64 F.db, .int .u64 F.ag, .bool q]) := Lib.hid (by rw [hFF, hq])
      have HQ := Lib.hid hq
      clear h hwd hk hr hFF hq
      go_wp2_with fail
      (with_reducible refine (HG.out).mono ?_)
      rintro e w5 ⟨rfl, h5⟩
      have h6 := Go.Proofs.Ytkdmlpigkmlkmaa.Own.blkNew h5 (f7 F) 41
      obtain ⟨b19, hb19⟩ : ∃ b, b = w5.heap.size := ⟨_, rfl⟩
      rw [← hb19] at h6
      obtain ⟨W6, hW6⟩ : ∃ W6, W6 = w5.alloc (.cells (f7 F) 41) := ⟨_, rfl⟩
      rw [← hW6] at h6
      replace h6 : Own (BF b19 F :: Tbl p 12 b 450 keep S :: RN (.slice (some ⟨g4, 0, none⟩) L cap1) (allL S) :: MW S b1 i D :: [Old w]) W6 := h6
      obtain ⟨c0, c1, c2, c3, c4, c5, c6⟩ := bf_cells (b := b19) (F := F) h6 (.head _)
      obtain ⟨LL, hLL⟩ : ∃ LL, LL = BF b19 F :: Tbl p 12 b 450 keep S :: RN (.slice (some ⟨g4, 0, none⟩) L cap1) (allL S) :: MW S b1 i D :: [Old w] := ⟨_, rfl⟩
      have hg : Own LL W6.drew := by rw [hLL]; exact h6.step (Ext.refl _).drew
      have HRS : Hid (∀ w', Own LL w' → Calls Try.prog 21 #[.pointer (some ⟨p, 0, none⟩), .int .i64 (k : Int)] w' fun e w2 => e = .returned (.bool q) ∧ w' = w2) := Lib.hid fun w' h' => by rw [hLL] at h'; rw [HQ.out]; exact rests_row h'.swap HR.out
      have hput : ∃ w3, (Instr.mapUpdate 46 (.map (some b1)) (.int .i64 (k : Int)) (.agg #[.int .u64 F.s, .int .u64 F.c, .int .u64 F.ra, .int .i64 F.cr, .int .u64 F.nx, .int .u64 F.db, .int .u64 F.ag, .bool q])).run Try.prog W6.drew = .ok () w3 ∧ KpI w p b b1 L keep S (.slice (some ⟨g4, 0, none⟩) L cap1) (.int .i64 ((i : Int) + 1)) w3 := by
        have h' := hg
        rw [hLL] at h'
        obtain ⟨w3, e1, e2⟩ := was_put (k := k) h'.fourth HT.out (by simp only [maxLen]; omega) HR.out (by omega)
        rw [HV.out] at e1
        exact ⟨w3, e1, i + 1, _, by go_num, by omega, wd_step HWD.out HK.out, e2.swap.drop.third.tail fun h => h |> OwnIn.swap⟩
      obtain ⟨w3, hrun, hfin⟩ := hput
      have HFIN := Lib.hid hfin
      have HB19 := Lib.hid hb19
      have HW6 := Lib.hid hW6
      clear h5 h6 hb19 hW6 HG p0 hLL hfin
      go_upto_region 10 with fail
      rw [← HB19.out, ← HW6.out]
      clear HB19 HW6
      go_region_with (go_at_call 21; (with_reducible refine (HRS.out _ (by assumption)).mono ?_); rintro e w7 ⟨rfl, rfl⟩)
      all_goals (go_wp2_with fail; exact ⟨HFIN.out, by simp [intOf]; omega⟩)
    · obtain rfl : i = L := by omega
      obtain ⟨C, hC⟩ : ∃ C, C = collT b keep now sock S := ⟨_, rfl⟩
      obtain ⟨S', hS'⟩ : ∃ S', S' = (findT 12 b keep sock cookie now 300 S).S := ⟨_, rfl⟩
      obtain ⟨got, hgot⟩ : ∃ got, got = (findT 12 b keep sock cookie now 300 S).f := ⟨_, rfl⟩
      obtain ⟨kd, hkd⟩ : ∃ kd, kd = (findT 12 b keep sock cookie now 300 S).kind := ⟨_, rfl⟩
      obtain ⟨er, her⟩ : ∃ er, er = (findT 12 b keep sock cookie now 300 S).err := ⟨_, rfl⟩
      have hF : findT 12 b keep sock cookie now 300 S = ⟨S', got, kd, er⟩ := by rw [hS', hgot, hkd, her]
      have HEACH : Hid (∀ (k : Nat) (c : RW), rowAt S.rows k = some c → ((rowAt C.rows k).isSome = true ∧ Stays S' got kd k c) ∨ (rowAt C.rows k = none ∧ Goes b keep now sock S' k c)) := Lib.hid fun k c hr => by
        have := keeps_each (cookie := cookie) (fi := 300) HT.out hC.symm hr
        rw [hF] at this
        exact this
      have HSUM := Lib.hid (gone_sum HT.out hC.symm)
      have HFULL : Hid (er ≠ 0 → (er = 140 ∧ got = 0 ∧ kd = 0) ∧ goneN S C = 0 ∧ i = 12) := Lib.hid fun he => by
        obtain ⟨q1, q2, q3⟩ := keeps_full (cookie := cookie) (fi := 300) HT.out hC.symm (by rw [hF]; exact he)
        rw [hF] at q1
        injection q1 with _ q4 q5 q6
        exact ⟨⟨q6, q4, q5⟩, q2, by rw [HL.out]; exact q3⟩
      have HFND : Hid (er = 0 → ∃ (k : Nat) (x : RW), got = (k : Int) ∧ rowAt S'.rows k = some x ∧ x.f.s = sock ∧ x.f.c = cookie) := Lib.hid fun he => by
        rcases find_cases (b := b) (keep := keep) (sock := sock) (cookie := cookie) (now := now) (fi := 300) HT.out with ⟨q1, -, -⟩ | ⟨S1, k, x, kd1, q1, q2, q3, q4, -⟩
        · rw [hF] at q1
          injection q1 with _ _ _ q6
          rw [q6] at he
          cases he
        · rw [hF] at q1
          injection q1 with q5 q6 _ _
          subst q5
          exact ⟨k, x, q6, q2, q3, q4⟩
      have HWD := Lib.hid hwd
      have HF := Lib.hid hF
      have HP := Lib.hid (pace_own h.swap)
      clear h hwd hC hS' hgot hkd her hF hlt hi
      go_wp2_with fail
      (with_reducible refine (HP.out).mono ?_)
      rintro e w5 ⟨rfl, h5⟩
      have HFD := Lib.hid (own_find' (M := 459) h5 (by omega) S0.out S1.out HF.out rfl)
      clear h5 HP
      go_wp2_with fail
      (with_reducible refine (HFD.out).mono ?_)
      rintro e w6 ⟨rfl, h6⟩
      have H6 : Hid (Own (MW S b1 i D :: Tbl p 12 b 459 keep S' :: [Old w]) w6) := Lib.hid (h6.swap.drop.swap)
      clear h6 HFD
      go_wp2_with (refine was_range S _ rfl _ rfl b1 i D rfl H6.out ?_)
      intro r w7 h7
      have H7 : Hid (KpL w p b b1 r i keep S S' C D (.int .i64 0) w7) := Lib.hid ⟨0, _, _, rfl, by
        rw [Nat.zero_add]
        unfold goneN
        refine List.countP_congr fun k hk => ?_
        obtain ⟨j, hj⟩ := List.getElem?_of_mem hk
        have : Maps.has D (flk (k : Int)) = true := (HWD.out.has _).2 ⟨j, k, by rw [HL.out]; exact (List.getElem?_eq_some_iff.1 hj).1, hj, rfl⟩
        rw [this]
        simp, fun x hx => by
        obtain ⟨j, k, -, h2, h3⟩ := (HWD.out.has x).1 hx
        exact ⟨k, h3, List.mem_of_getElem? h2⟩, h7⟩
      clear h7 H6
      go_wp2_with fail
      go_loopw [24] (fun s24 wr => KpL w p b b1 r i keep S S' C D s24 wr) (fun _ w' => w'.rangeLeft b1 r)
      case atStart => exact H7.out
      case round =>
        clear H7
        obtain ⟨gone, left, cnt, rfl, hsum, hleft, h⟩ := hrel
        have HH := Lib.hid h
        have HSM := Lib.hid hsum
        have HLF := Lib.hid hleft
        have HCN := Lib.hid h.rg.left_eq
        clear h hsum hleft
        go_wp2_with (refine was_next S _ rfl _ rfl b1 r i D left cnt rfl HH.out ?_ ?_)
        · intro hdone
          as_aux_lemma =>
          have hz : (allL S).countP (fun k : Nat => left (flk (k : Int)) && (rowAt C.rows k).isNone) = 0 := List.countP_eq_zero.2 fun k _ => by rw [hdone]; simp
          have hge : gone = goneN S C := by have := HSM.out; omega
          obtain ⟨g1, g2⟩ := HSUM.out
          have g8 : ¬ ((8 : Int) < (gone : Int)) := by omega
          have g8d : decide ((8 : Int) < (gone : Int)) = false := by simp; omega
          by_cases he : er = 0
          · obtain ⟨k, x, hk, hr, hs, hc⟩ := HFND.out he
            have y0 : (er != 0) = false := by simp [he]
            obtain ⟨G, hG⟩ : ∃ G, G = x.f := ⟨_, rfl⟩
            have hgr := get_row HH.out.swap hr
            rw [← hk, ← hG] at hgr
            have HGR := Lib.hid hgr
            have hs1 : (G.s == sock) = true := by rw [hG, hs]; simp
            have hc1 : (G.c == cookie) = true := by rw [hG, hc]; simp
            clear hz hge g1 g2 he hr hs hc hG hgr hk hdone
            go_wp2_with fail
            (with_reducible refine (HGR.out).mono ?_)
            rintro e w9 ⟨rfl, h9⟩
            have h10 := Go.Proofs.Ytkdmlpigkmlkmaa.Own.blkNew h9 (f7 G) 41
            obtain ⟨b30, hb30⟩ : ∃ b, b = w9.heap.size := ⟨_, rfl⟩
            rw [← hb30] at h10
            obtain ⟨W10, hW10⟩ : ∃ W10, W10 = w9.alloc (.cells (f7 G) 41) := ⟨_, rfl⟩
            rw [← hW10] at h10
            obtain ⟨c0, c1, -, -, -, -, -⟩ := bf_cells (b := b30) (F := G) h10 (.head _)
            have HA := Lib.hid (awake_any h10)
            have HB30 := Lib.hid hb30
            have HW10 := Lib.hid hW10
            clear h9 h10 hb30 hW10 HGR
            go_upto_region 30 with fail
            rw [← HB30.out, ← HW10.out]
            clear HB30 HW10
            go_wp2_with fail
            (with_reducible refine (HA.out).mono ?_)
            rintro e w11 ⟨rfl, h11⟩
            have HX := Lib.hid (show Ext w w11 from h11.ext (by simp))
            clear h11 HA c0 c1
            go_wp2_with fail
            go_ret
            exact ⟨rfl, HX.out⟩
          · obtain ⟨⟨rfl, rfl, rfl⟩, q2, q3⟩ := HFULL.out he
            have hg0 : gone = 0 := by omega
            have hgI : ((gone : Int) == 0) = true := by simp; omega
            have HMD := Lib.hid (HH.out.mapRgDone)
            have hsz : (Maps.size D : Int) = 12 := by rw [HWD.out.size, q3]; rfl
            have HSZ := Lib.hid hsz
            have HA := Lib.hid (awake_any HH.out)
            clear hz hge g1 g2 he q2 q3 hg0 hsz hdone
            go_wp2_with (first
              | (at_len; refine wpList_guarded (by rfl) ?_; refine mapD_len _ rfl _ 46 rfl 3 50 Try.underlying46 (wasR S) b1 i D rfl HMD.out ?_; rw [HSZ.out])
              | fail)
            (with_reducible refine (HA.out).mono ?_)
            rintro e w11 ⟨rfl, h11⟩
            have HX := Lib.hid (show Ext w w11 from h11.ext (by simp))
            clear h11 HA
            go_wp2_with fail
            go_ret
            exact ⟨rfl, HX.out⟩
        · intro x k c w8 cnt' hl hr hat h8 hlt hen
          as_aux_lemma =>
          obtain ⟨k0, rfl, hk0⟩ := HLF.out x hl
          obtain ⟨j, hj⟩ := List.getElem?_of_mem hk0
          have hkk : k0 = k := wd_inj ((HWD.out.val j k0 (wd 0) (by rw [HL.out]; exact (List.getElem?_eq_some_iff.1 hj).1) hj).symm.trans (hat (wd 0)))
          subst hkk
          have hstr := countP_strike (P := fun k : Nat => left (flk (k : Int)) && (rowAt C.rows k).isNone) (Q := fun k : Nat => (left (flk (k : Int)) && !(flk (k : Int)).sameKey (flk (k0 : Int))) && (rowAt C.rows k).isNone) (all_nodup S) hk0 (fun k' _ hne => by
            have : (flk (k' : Int)).sameKey (flk (k0 : Int)) = false := sameKey_ne (flk_ne (by omega))
            simp only [this]
            simp) (by simp only [WideAt.sameKey_self (flk_lit (k0 : Int))]; simp)
          have hsm := HSM.out
          rw [hstr] at hsm
          simp only [hl, Bool.true_and] at hsm
          have HNX : Hid (∀ (g2 : Nat) (w' : World), g2 = gone + (if (rowAt C.rows k0).isNone = true then 1 else 0) → Own (MG S b1 r i D (fun z => left z && !z.sameKey (flk (k0 : Int))) cnt' :: Tbl p 12 b 459 keep S' :: [Old w]) w' → KpL w p b b1 r i keep S S' C D (.int .i64 (g2 : Int)) w' ∧ w'.rangeLeft b1 r < wr.rangeLeft b1 r) := Lib.hid fun g2 w' hg2 h' => by
            refine ⟨⟨g2, _, _, rfl, by rw [hg2]; omega, fun x hx => HLF.out x (by simp only [Bool.and_eq_true] at hx; exact hx.1), h'⟩, ?_⟩
            rw [h'.rg.left_eq, HCN.out]
            exact hlt
          have hgb : gone ≤ 4096 := by have := HSUM.out.1; have := HT.out.rk.len; omega
          have hcase := HEACH.out k0 c hr
          obtain ⟨⟨hs0, hs1⟩, ha0, ha1⟩ := (HT.out.hd k0 c hr).2.2
          obtain ⟨F, hF⟩ : ∃ F, F = c.f := ⟨_, rfl⟩
          obtain ⟨q, hq⟩ : ∃ q, q = c.q := ⟨_, rfl⟩
          rw [show wasV c = .agg #[.int .u64 F.s, .int .u64 F.c, .int .u64 F.ra, .int .i64 F.cr, .int .u64 F.nx, .int .u64 F.db, .int .u64 F.ag, .bool q] by rw [hF, hq]] at hen ⊢
          have hgt := fun {l : List HP} {w' : World} (h' : Own (Tbl p 12 b 459 keep S' :: l) w') => own_get h' (k0 : Int)
          obtain ⟨G, hG⟩ : ∃ G, G = getF S' (k0 : Int) := ⟨_, rfl⟩
          obtain ⟨B, hB⟩ : ∃ B, B = (atF S' (k0 : Int)).isSome := ⟨_, rfl⟩
          have h9 := Go.Proofs.Ytkdmlpigkmlkmaa.Own.blkNew h8 #[.int .u64 F.s, .int .u64 F.c, .int .u64 F.ra, .int .i64 F.cr, .int .u64 F.nx, .int .u64 F.db, .int .u64 F.ag, .bool q] 50
          obtain ⟨b26, hb26⟩ : ∃ b, b = w8.heap.size := ⟨_, rfl⟩
          rw [← hb26] at h9
          obtain ⟨W9, hW9⟩ : ∃ W9, W9 = w8.alloc (.cells #[.int .u64 F.s, .int .u64 F.c, .int .u64 F.ra, .int .i64 F.cr, .int .u64 F.nx, .int .u64 F.db, .int .u64 F.ag, .bool q] 50) := ⟨_, rfl⟩
          rw [← hW9] at h9
          have hgt1 := hgt h9.third
          rw [← hG, ← hB] at hgt1
          have HGT := Lib.hid hgt1
          have HB26 := Lib.hid hb26
          have HW9 := Lib.hid hW9
          have HHAT := Lib.hid hat
          have HCASE := Lib.hid hcase
          have HFQ := Lib.hid (And.intro hF hq)
          have HGB := Lib.hid (And.intro hG hB)
          have HBD := Lib.hid (And.intro (And.intro hs0 hs1) (And.intro ha0 ha1))
          clear h8 h9 hb26 hW9 hgt hgt1 hat hcase hl hr hk0 hj hstr hsm hlt hF hq hG hB hs0 hs1 ha0 ha1
          go_upto_region 17 with fail
          rw [← HB26.out, ← HW9.out]
          clear HB26 HW9 hen
          go_wp2_with fail
          (with_reducible refine (HGT.out).mono ?_)
          rintro e w10 ⟨rfl, h10⟩
          have h11 := Go.Proofs.Ytkdmlpigkmlkmaa.Own.blkNew h10 (f7 G) 41
          obtain ⟨b27, hb27⟩ : ∃ b, b = w10.heap.size := ⟨_, rfl⟩
          rw [← hb27] at h11
          obtain ⟨W11, hW11⟩ : ∃ W11, W11 = w10.alloc (.cells (f7 G) 41) := ⟨_, rfl⟩
          rw [← hW11] at h11
          have HB27 := Lib.hid hb27
          have HW11 := Lib.hid hW11
          have H11 := Lib.hid h11
          clear h10 h11 hb27 hW11 HGT
          go_upto_region 18 with fail
          rw [← HB27.out, ← HW11.out]
          clear HB27 HW11
          obtain ⟨LL, hLL⟩ : ∃ LL, LL = BF b27 G :: Tbl p 12 b 459 keep S' :: Go.Proofs.Ytkdmlpigkmlkmaa.Blk b26 #[.int .u64 F.s, .int .u64 F.c, .int .u64 F.ra, .int .i64 F.cr, .int .u64 F.nx, .int .u64 F.db, .int .u64 F.ag, .bool q] 50 :: MG S b1 r i D (fun z => left z && !z.sameKey (flk (k0 : Int))) cnt' :: [Old w] := ⟨_, rfl⟩
          have hg : Own LL W11 := by rw [hLL]; exact H11.out
          have HCW : Hid (∀ w', Own LL w' → w'.cell? ⟨b26, 0, none⟩ = some (.int .u64 F.s) ∧ w'.cell? ⟨b26, 1, none⟩ = some (.int .u64 F.c) ∧ w'.cell? ⟨b26, 2, none⟩ = some (.int .u64 F.ra) ∧ w'.cell? ⟨b26, 3, none⟩ = some (.int .i64 F.cr) ∧ w'.cell? ⟨b26, 4, none⟩ = some (.int .u64 F.nx) ∧ w'.cell? ⟨b26, 5, none⟩ = some (.int .u64 F.db) ∧ w'.cell? ⟨b26, 6, none⟩ = some (.int .u64 F.ag) ∧ w'.cell? ⟨b26, 7, none⟩ = some (.bool q)) := Lib.hid fun w' h' => by
            have := Go.Proofs.Ytkdmlpigkmlkmaa.Own.blk h' (show Go.Proofs.Ytkdmlpigkmlkmaa.Blk b26 #[.int .u64 F.s, .int .u64 F.c, .int .u64 F.ra, .int .i64 F.cr, .int .u64 F.nx, .int .u64 F.db, .int .u64 F.ag, .bool q] 50 ∈ LL by rw [hLL]; exact .tail _ (.tail _ (.head _)))
            refine ⟨?_, ?_, ?_, ?_, ?_, ?_, ?_, ?_⟩ <;> simp [World.cell?, this]
          have HCG : Hid (∀ w', Own LL w' → w'.cell? ⟨b27, 0, none⟩ = some (.int .u64 G.s) ∧ w'.cell? ⟨b27, 1, none⟩ = some (.int .u64 G.c) ∧ w'.cell? ⟨b27, 2, none⟩ = some (.int .u64 G.ra) ∧ w'.cell? ⟨b27, 3, none⟩ = some (.int .i64 G.cr) ∧ w'.cell? ⟨b27, 4, none⟩ = some (.int .u64 G.nx) ∧ w'.cell? ⟨b27, 5, none⟩ = some (.int .u64 G.db) ∧ w'.cell? ⟨b27, 6, none⟩ = some (.int .u64 G.ag)) := Lib.hid fun w' h' => bf_cells (b := b27) (F := G) h' (by rw [hLL]; exact .head _)
          obtain ⟨sv, hsv⟩ : ∃ sv, sv = Hz.sat F.ag keep := ⟨_, rfl⟩
          obtain ⟨fs, hfs⟩ : ∃ fs : Nat, F.s = (fs : Int) := Int.eq_ofNat_of_zero_le (by rw [HFQ.out.1]; exact HBD.out.1.1)
          obtain ⟨ss, hss⟩ : ∃ ss : Nat, sock = (ss : Int) := Int.eq_ofNat_of_zero_le S0.out
          obtain ⟨β1, hβ1⟩ : ∃ x, x = β b F.s := ⟨_, rfl⟩
          obtain ⟨β2, hβ2⟩ : ∃ x, x = β b sock := ⟨_, rfl⟩
          have HSAT : Hid (∀ w', Calls Try.prog 24 #[.int .u64 F.ag, .int .u64 keep] w' fun e w2 => e = .returned (.int .u64 sv) ∧ w' = w2) := Lib.hid fun w' => by rw [hsv, HFQ.out.1]; exact Hz.sat_add c.f.ag keep w' HBD.out.2.1 (by have := HBD.out.2.2; omega) HKP.out.1 HKP.out.2
          have HB1 : Hid (∀ w', Own LL w' → Calls Try.prog 25 #[.int .u64 F.s, .int .i64 (b : Int)] w' fun e w2 => e = .returned (.int .i64 (β1 : Int)) ∧ Own LL w2) := Lib.hid fun w' h' => by
            have hm := Mx.bucket_any fs b (by have := HBD.out.1.2; rw [← HFQ.out.1, hfs] at this; unfold MixP.M; omega) (by have := HB10.out; omega) w'
            rw [show Mx.bk fs b = β1 by rw [hβ1, hfs]; rfl] at hm
            rw [hfs]
            exact hm.mono fun e w2 ⟨he, hx⟩ => ⟨he, h'.step hx⟩
          have HB2 : Hid (∀ w', Own LL w' → Calls Try.prog 25 #[.int .u64 sock, .int .i64 (b : Int)] w' fun e w2 => e = .returned (.int .i64 (β2 : Int)) ∧ Own LL w2) := Lib.hid fun w' h' => by
            have hm := Mx.bucket_any ss b (by have := S1.out; rw [hss] at this; unfold MixP.M; omega) (by have := HB10.out; omega) w'
            rw [show Mx.bk ss b = β2 by rw [hβ2, hss]; rfl] at hm
            rw [hss]
            exact hm.mono fun e w2 ⟨he, hx⟩ => ⟨he, h'.step hx⟩
          have HLL := Lib.hid hLL
          have HDEF := Lib.hid (And.intro hsv (And.intro hβ1 hβ2))
          have HG0 := Lib.hid hg
          obtain ⟨c0, c1, c2, c3, c4, c5, c6, c7⟩ := HCW.out _ hg
          clear hLL H11 hsv hfs hss hβ1 hβ2
          go_cut [29] (fun s29 wx => ∃ o : Bool, s29 = .bool o ∧ ((q = true ∧ sv < now ∧ F.s ≠ sock ∧ β1 = β2) → o = true) ∧ Own LL wx)
          case first =>
            cases q with
            | false =>
              go_wp2_with fail
              go_meet
              exact ⟨false, rfl, fun h => absurd h.1 (by simp), HG0.out⟩
            | true =>
              by_cases a1 : sv < now
              · by_cases a2 : F.s = sock
                · have e2 : (F.s != sock) = false := by simp [a2]
                  have a2' : F.s = sock ∧ True := ⟨a2, trivial⟩
                  have HA2 := Lib.hid a2
                  clear a2 a2'
                  go_wp2_with (go_at_call 24; (with_reducible refine (HSAT.out _).mono ?_); rintro e w12 ⟨rfl, rfl⟩)
                  go_meet
                  exact ⟨false, rfl, fun h => absurd HA2.out h.2.2.1, HG0.out⟩
                · have e2 : (F.s != sock) = true := by simp [a2]
                  go_wp2_with (first
                    | (go_at_call 24; (with_reducible refine (HSAT.out _).mono ?_); rintro e w12 ⟨rfl, rfl⟩)
                    | (go_at_call 25; (with_reducible refine (HB1.out _ (by assumption)).mono ?_); rintro e w13 ⟨rfl, h13⟩)
                    | (go_at_call 25; (with_reducible refine (HB2.out _ (by assumption)).mono ?_); rintro e w14 ⟨rfl, h14⟩))
                  go_meet
                  exact ⟨_, rfl, fun h => by simp [h.2.2.2], h14⟩
              · have e1 : decide (sv < now) = false := by simp [a1]
                have HA1 := Lib.hid a1
                go_wp2_with (go_at_call 24; (with_reducible refine (HSAT.out _).mono ?_); rintro e w12 ⟨rfl, rfl⟩)
                go_meet
                exact ⟨false, rfl, fun h => absurd h.2.1 (by have := HA1.out; omega), HG0.out⟩
          case rest =>
            obtain ⟨o, rfl, ho, hx⟩ := hcut
            clear HSAT HB1 HB2 HG0 c0 c1 c2 c3 c4 c5 c6 c7 hg
            have HFI : Hid (∀ (g2 : Nat) (w' : World), g2 = gone + (if (rowAt C.rows k0).isNone = true then 1 else 0) → Own LL w' → KpL w p b b1 r i keep S S' C D (.int .i64 (g2 : Int)) w' ∧ w'.rangeLeft b1 r < wr.rangeLeft b1 r) := Lib.hid fun g2 w' hg2 h' => by
              rw [HLL.out] at h'
              exact HNX.out g2 w' hg2 h'.drop.swap.drop.swap
            obtain ⟨c0, c1, c2, c3, c4, c5, c6, c7⟩ := HCW.out _ hx
            obtain ⟨d0, d1, d2, d3, d4, d5, d6⟩ := HCG.out _ hx
            rcases HCASE.out with ⟨hC1, x, hx1, hx2, hx3, hx4⟩ | ⟨hC0, hno, hold, hns, hβ⟩
            · obtain rfl : B = true := by rw [HGB.out.2, atF_nat, hx1]; rfl
              have hGx : G = x.f := by rw [HGB.out.1]; unfold getF; rw [atF_nat, hx1]; rfl
              have hsE : (G.s == F.s) = true := by rw [hGx, HFQ.out.1, hx2]; simp
              have hn0 : (rowAt C.rows k0).isNone = false := by cases hcc : rowAt C.rows k0 with
                | none => rw [hcc] at hC1; cases hC1
                | some y => rfl
              have HFI2 : Hid (∀ w', Own LL w' → KpL w p b b1 r i keep S S' C D (.int .i64 (gone : Int)) w' ∧ w'.rangeLeft b1 r < wr.rangeLeft b1 r) := Lib.hid fun w' h' => HFI.out gone w' (by rw [hn0]; simp) h'
              have HRS : Hid (∀ w', Own LL w' → Calls Try.prog 21 #[.pointer (some ⟨p, 0, none⟩), .int .i64 (k0 : Int)] w' fun e w2 => e = .returned (.bool q) ∧ w' = w2) := Lib.hid fun w' h' => by
                rw [HLL.out] at h'
                have := rests_row h'.swap hx1
                rw [hx3, ← HFQ.out.2] at this
                exact this
              have HX4 := Lib.hid hx4
              have HGX := Lib.hid hGx
              have yq : (q != q) = false := by simp
              clear hC1 hx1 hx2 hx3 hx4 hGx hn0 ho
              go_upto_region 20 with fail
              have HRQ := Lib.hid (fun m => HRS.out _ (hx.step ((Ext.refl _).drewN m)))
              have HXN := Lib.hid (fun m => HFI2.out _ (hx.step ((Ext.refl _).drewN m)))
              by_cases hGF : G = F
              · subst hGF
                clear hx HRS HFI2
                go_quiet ((go_at_call 21; exact Calls.quiet_of_same ((HRQ.out _).mono (fun _ _ h => ⟨h.1, h.2.symm⟩))))
                go_wp2_with fail
                exact HXN.out _
              · have h45 : (k0 : Int) = got ∧ kd = 2 := by
                  rcases HX4.out with h4 | h4
                  · exact absurd (by rw [HGX.out, h4, HFQ.out.1]) hGF
                  · exact h4
                obtain ⟨h4, h5⟩ := h45
                subst h4 h5
                have y4 : ((k0 : Int) != (k0 : Int)) = false := by simp
                clear hx HRS HFI2
                have hne := fun w' : World => flow_ne hGF w'
                go_quiet ((go_at_call 21; exact Calls.quiet_of_same ((HRQ.out _).mono (fun _ _ h => ⟨h.1, h.2.symm⟩))))
                go_wp2_with fail
                exact HXN.out _
            · have hnone : (rowAt C.rows k0).isNone = true := by rw [hC0]; rfl
              obtain rfl : o = true := ho (by
                unfold oldR at hold
                simp only [Bool.and_eq_true, decide_eq_true_eq] at hold
                refine ⟨by rw [HFQ.out.2]; exact hold.1, by rw [HDEF.out.1, HFQ.out.1]; exact hold.2, by rw [HFQ.out.1]; exact hns, by rw [HDEF.out.2.1, HDEF.out.2.2, HFQ.out.1]; exact hβ⟩)
              have HFI2 : Hid (KpL w p b b1 r i keep S S' C D (.int .i64 ((gone : Int) + 1)) _ ∧ _) := Lib.hid (HFI.out (gone + 1) _ (by rw [hnone]; simp) hx)
              cases hB : B with
              | false =>
                subst hB
                clear hx hC0 hno hold hns hβ hnone HFI ho
                go_wp2_with fail
                exact HFI2.out
              | true =>
                subst hB
                have hex : ∃ x, rowAt S'.rows k0 = some x := by
                  have := HGB.out.2
                  rw [atF_nat] at this
                  exact Option.isSome_iff_exists.1 this.symm
                obtain ⟨x, hx1⟩ := hex
                have hGx : G = x.f := by rw [HGB.out.1]; unfold getF; rw [atF_nat, hx1]; rfl
                have hsE : (G.s == F.s) = false := by
                  have := hno x hx1
                  rw [hGx, HFQ.out.1]
                  simpa using this
                clear hx hC0 hno hold hns hβ hnone HFI ho hx1 hGx
                go_wp2_with fail
                exact HFI2.out
theorem keeps_row (bits keep : Int) (v : Value) (sock cookie now : Int) (x : Nat × (Nat → TOp)) (wb : (Lit.int .u8 bits).wf = true) (wk : (Lit.int .u64 keep).wf = true) (ws : (Lit.int .u64 sock).wf = true) (wc : (Lit.int .u64 cookie).wf = true) (wn : (Lit.int .u64 now).wf = true) (w : World) (ho : Ops2 w v x) :
    Calls Try.prog 5 #[.int .u8 bits, .int .u64 keep, v, .int .u64 sock, .int .u64 cookie, .int .u64 now] w fun e w' => e = .returned (.bool true) ∧ Ext w w' :=
  keeps_main v x.1 x.2 bits keep sock cookie now (u8_bd wb).1 (u8_bd wb).2 (u64_bd wk).1 (u64_bd wk).2 (u64_bd ws).1 (by have := u64_bd ws; omega) (u64_bd wn).1 (by have := u64_bd wn; omega) w ho
end Go.Proofs.Ytkdmlpigkmlkmaa.Tb
