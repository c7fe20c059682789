/- DERIVED. Layer 6 (tree): the law TreeShape. -/
import Derived.Test.YtekdahppacghbaaShC
import Derived.Test.YtekdahppacghbaaTrV
import Derived.Test.YtekdahppacghbaaR6A
import Derived.BigQuiet
set_option linter.unusedVariables false
set_option linter.unusedSimpArgs false
set_option maxRecDepth 100000
namespace Go.Proofs.Ytekdahppacghbaa.Tr
open Go.RowKit Go.Proofs.Ytekdahppacghbaa Go.Proofs.Ytekdahppacghbaa.TreeP

theorem shp_deep {E : List En} {Z : List Tw} (h : Shp E Z) {b : Nat} (hb : Z.length + 1 < 2 ^ b) {i : Nat} (hi : i < Z.length) : ∃ d, Ups Z i d (-1) ∧ d ≤ 2 * b := by
  obtain ⟨n, hw⟩ := h.wk
  obtain ⟨d, d1, d2, d3⟩ := wk_ups hw i (Nat.zero_le _) hi
  have hs := wk_size hw
  have hnb : n < b := by
    apply Decidable.byContradiction
    intro hnb
    have : 2 ^ b ≤ 2 ^ n := Nat.pow_le_pow_right (by omega) (by omega)
    omega
  simp at d2
  exact ⟨d, d3, by omega⟩
theorem cellOf {w : World} {b o : Nat} {cs : Array Value} {t : TypeId} {u : Value} (h : w.heap[b]? = some (.cells cs t (0, 0))) (hu : cs[o]? = some u) : w.cell? ⟨b, o, none⟩ = some u := by simp [World.cell?, h, hu]
/-- bits -/
def BI (n : Nat) (v6 v7 : Value) : Prop := ∃ b m : Nat, v6 = .int .i64 (b : Int) ∧ v7 = .int .i64 (m : Int) ∧ b ≤ 8 ∧ 2 ^ b * m ≤ n + 1 ∧ n + 1 < 2 ^ b * (m + 1)
theorem bits_step {n b m : Nat} (h1 : 2 ^ b * m ≤ n + 1) (h2 : n + 1 < 2 ^ b * (m + 1)) (hm : 0 < m) (hn : n ≤ 60) : b + 1 ≤ 8 ∧ 2 ^ (b + 1) * (m / 2) ≤ n + 1 ∧ n + 1 < 2 ^ (b + 1) * (m / 2 + 1) := by
  have hb : 2 ^ b ≤ n + 1 := Nat.le_trans (Nat.le_mul_of_pos_right _ hm) h1
  have hb2 : b < 2 ^ b := Nat.lt_two_pow_self
  have hb6 : b ≤ 6 := by
    apply Decidable.byContradiction
    intro hc
    have : 2 ^ 7 ≤ 2 ^ b := Nat.pow_le_pow_right (by omega) (by omega)
    omega
  refine ⟨by omega, ?_, ?_⟩
  · rw [Nat.pow_succ, Nat.mul_assoc]
    exact Nat.le_trans (Nat.mul_le_mul_left _ (by omega)) h1
  · rw [Nat.pow_succ, Nat.mul_assoc]
    exact Nat.lt_of_lt_of_le h2 (Nat.mul_le_mul_left _ (by omega))
def SI2 (w0 : World) (p n : Nat) (va vs : Value) (E : List En) (Z : List Tw) (vi : Value) (wr : World) : Prop :=
  ∃ k : Nat, vi = .int .i64 (k : Int) ∧ k ≤ n ∧ Own [Tree p 60 E, Row 31 3 va n (ents E), RowR 62 4 vs n (tws Z), Old w0] wr
set_option maxHeartbeats 2000000 in
theorem shape_of (v : Value) (n0 : Nat) (f : Nat → Op) (w : World) (ho : Ops w v n0 f) :
    Calls Try.prog 6 #[v] w fun e w' => e = .returned (.bool true) ∧ Ext w w' := by
  have HPL := Lib.hid (played_any v n0 f ho (Own.start w) (.head _))
  obtain ⟨a, cap0, rfl, -, -, -⟩ := ho
  go_enter Try.func6, Try.ntmps6
  go_wp2_with fail
  refine (HPL.out).mono ?_
  rintro e w1 ⟨p, E, rfl, h1⟩
  have HR := Lib.hid (rising_of h1)
  have H1 := Lib.hid h1
  clear h1 HPL
  go_wp2_with fail
  refine (own_shape H1.out).mono ?_
  rintro e w2 ⟨vs, Z, rfl, hsh, h2⟩
  obtain ⟨n, hn⟩ : ∃ n, n = E.length := ⟨_, rfl⟩
  have hzn : Z.length = n := by rw [hsh.len, hn]
  rw [hzn] at h2
  have hn60 : n ≤ 60 := by rw [hn]; exact HR.out.2
  obtain ⟨sa, sc, rfl⟩ := h2.rowR.slice
  have HSH := Lib.hid hsh
  have HN := Lib.hid hn
  have HZ := Lib.hid hzn
  have H2 := Lib.hid h2.swap
  clear h2 hsh hn hzn H1
  go_wp2_with fail
  refine (own_all H2.out).mono ?_
  rintro e w3 ⟨va, rfl, h3⟩
  rw [← HN.out] at h3
  obtain ⟨ea, ec, rfl⟩ := own_slice h3.row
  have H3 := Lib.hid h3.swap
  have HLE : Hid (Calls Try.prog 24 #[.pointer (some ⟨p, 0, none⟩)] w3 fun e w' => e = .returned (.int .i64 (n : Nat)) ∧ w3 = w') := Lib.hid (by
    have := own_len h3.swap
    rw [← HN.out] at this
    exact this)
  clear h3 H2
  go_wp2_with fail
  refine (HLE.out).mono ?_
  rintro e w' ⟨rfl, rfl⟩
  go_wp2_with fail
  go_loopw [6, 7] (fun v6 v7 wr => BI n v6 v7 ∧ w3 = wr) (fun _ v7 _ => (intOf v7).toNat)
  case atStart => exact ⟨⟨0, n + 1, rfl, by go_num, by omega, by omega, by omega⟩, rfl⟩
  case round =>
    obtain ⟨⟨b, m, rfl, rfl, hb8, hb1, hb2⟩, rfl⟩ := hrel
    by_cases hm : 0 < m
    · have hmI : (0 : Int) < (m : Int) := by omega
      obtain ⟨s1, s2, s3⟩ := bits_step hb1 hb2 hm hn60
      have HB := Lib.hid (And.intro s1 (And.intro s2 s3))
      have hm61 : m ≤ 61 := by
        have : m ≤ 2 ^ b * m := Nat.le_mul_of_pos_left _ (Nat.two_pow_pos b)
        omega
      clear s1 s2 s3 hb1 hb2
      go_wp2_with fail
      go_roundw
      case rel => exact ⟨⟨b + 1, m / 2, by go_num, by first | rfl | go_num, HB.out.1, HB.out.2.1, HB.out.2.2⟩, by first | rfl | trivial⟩
      case measure => simp only [intOf]; omega
    · obtain rfl : m = 0 := by omega
      rw [show ((0 : Nat) : Int) = 0 from rfl]
      have hbz : n + 1 < 2 ^ b := by simpa using hb2
      have HBZ : Hid (∀ i, i < n → ∃ d, Ups Z i d (-1) ∧ d ≤ 2 * b) := Lib.hid (fun i hi => shp_deep HSH.out (by rw [HZ.out]; exact hbz) (by rw [HZ.out]; exact hi))
      clear hb1 hb2 hbz hm
      go_wp2_with fail
      go_loopw [39] (fun vi wr => SI2 w p n (.slice ea n ec) (.slice sa n sc) E Z vi wr) (fun vi _ => n - (intOf vi).toNat)
      case atStart => exact ⟨0, rfl, Nat.zero_le _, H3.out⟩
      case round =>
        clear H3 HLE
        obtain ⟨k, rfl, hk, h⟩ := hrel
        by_cases hlt : k < n
        · have hltI : (k : Int) < (n : Int) := by omega
          obtain ⟨ge, ce, ev, -, -⟩ := own_cap h.swap.row (by omega)
          injection ev with e1 _ e3
          subst e1 e3
          obtain ⟨gs, cs, ev, -, -⟩ := h.third.rowR.form (by omega)
          injection ev with e1 _ e3
          subst e1 e3
          obtain ⟨e, he⟩ : ∃ e, E[k]? = some e := ⟨_, List.getElem?_eq_getElem (by rw [← HN.out]; exact hlt)⟩
          obtain ⟨z, hz, za, zs, zu1, zu2, zu3⟩ := HSH.out.key k e he
          rw [HZ.out] at zu2
          obtain ⟨d, hd, hd2⟩ := HBZ.out k hlt
          obtain ⟨K, hK⟩ : ∃ K, K = min d (n + 1) := ⟨_, rfl⟩
          have hK2 : (K : Int) ≤ 2 * (b : Int) := by omega
          have hA := Own.blkNew h (tc z).toArray 62
          have hdp := fun W (hW : ownsR W 62 4 (.slice (some ⟨gs, 0, none⟩) n sc) n (tws Z)) => deep_any hW HZ.out (by omega) k d hd
          rw [← hK] at hdp
          obtain ⟨c0, c1, c2, c3⟩ := rowTw h.third.rowR hz
          obtain ⟨r0, r1, -⟩ := rowEnt (ownsR_of h.swap.row) he
          obtain ⟨⟨a1, s1⟩, u1⟩ := e
          obtain ⟨a2, s2, rd, up⟩ := z
          simp only at za zs zu1 zu2 zu3 c0 c1 c2 c3 r0 r1
          subst za zs
          have hxA := (Ext.refl wr).alloc (.cells #[.int .u64 a2, .int .u64 s2, .bool rd, .int .i64 up] 62)
          replace r0 := hxA.cell r0
          replace r1 := hxA.cell r1
          have f1 : decide (up < -1) = false := by simp; omega
          have f2 : decide ((n : Int) ≤ up) = false := by simp; omega
          have f3 : (up == (k : Int)) = false := by rw [beq_eq_false_iff_ne]; exact zu3
          have f4 : decide (2 * (b : Int) < (K : Int)) = false := by simp; omega
          have HDP := Lib.hid hdp
          have HA := Lib.hid hA
          have H := Lib.hid h
          obtain ⟨b9, hb9⟩ : ∃ b9, b9 = wr.heap.size := ⟨_, rfl⟩
          have HE := Lib.hid he
          have HZZ := Lib.hid hz
          have k60 : k < 60 := by omega
          clear hdp hA h hd hd2 hK he hz zu1 zu2 zu3
          by_cases hk0 : k = 0
          · subst hk0
            simp only [Nat.zero_mul, Nat.zero_add] at c0 c1 c2 c3 r0 r1
            have f3 : (up == 0) = false := f3
            have hn0 : (0 : Int) < (n : Int) := by omega
            have hn1 : decide ((n : Int) ≤ 0) = false := by simp; omega
            go_upto_region 13 with fail
            go_quiet (first
              | (go_at_call 27; refine Calls.quiet_of_same ((HDP.out _ (HA.out.step ((Ext.refl _).drewN _)).fourth.rowR).mono (fun _ _ h => ⟨h.1, h.2.symm⟩))))
            have HP : Hid (∀ N, SI2 w p n (.slice (some ⟨ge, 0, none⟩) n ec) (.slice (some ⟨gs, 0, none⟩) n sc) E Z (.int .i64 1) ((wr.alloc (.cells #[.int .u64 a2, .int .u64 s2, .bool rd, .int .i64 up] 62)).drewN N)) := Lib.hid (fun N => ⟨1, rfl, by omega, HA.out.drop.step ((Ext.refl _).drewN N)⟩)
            clear HA H c0 c1 c2 c3 r0 r1
            go_wp2_with fail
            exact ⟨HP.out _, by simp [intOf]; omega⟩
          · obtain ⟨j, hj⟩ : ∃ j, k = j + 1 := ⟨k - 1, by omega⟩
            have hjI : (k : Int) - 1 = (j : Int) := by omega
            obtain ⟨e, he⟩ : ∃ e, E[j]? = some e := ⟨_, List.getElem?_eq_getElem (by rw [← HN.out]; omega)⟩
            obtain ⟨z, hz, za, zs, -, -, -⟩ := HSH.out.key j e he
            obtain ⟨p0, p1, -, -⟩ := rowTw H.out.third.rowR hz
            obtain ⟨⟨a1, s1⟩, u2⟩ := e
            obtain ⟨a3, s3, rd3, up3⟩ := z
            simp only at za zs p0 p1
            subst za zs
            have hlt2 : lt (a3, s3) (a2, s2) = true := by
              obtain ⟨i1, i2⟩ := List.getElem?_eq_some_iff.1 he
              obtain ⟨i3, i4⟩ := List.getElem?_eq_some_iff.1 HE.out
              have := List.pairwise_iff_getElem.1 HR.out.1 j k i1 i3 (by omega)
              rw [i2, i4] at this
              exact this
            have HAH : Hid (∀ W, Calls Try.prog 13 #[.agg #[.int .u64 a3, .int .u64 s3], .agg #[.int .u64 a2, .int .u64 s2]] W fun e' w' => e' = .returned (.bool true) ∧ Ext W w') := Lib.hid (fun W => by rw [← hlt2]; exact ahead_any _ _ _ _ _)
            replace p0 := hxA.cell p0
            replace p1 := hxA.cell p1
            have kI0 : (0 : Int) < (k : Int) := by omega
            have kN0 : 0 < k := by omega
            have hwr1 : wrap64 (j : Int) = (j : Int) := by unfold wrap64; omega
            have hwr2 : IntKind.i64.wrap (j : Int) = (j : Int) := by rw [IntKind.wrap_i64]; omega
            have j0 : (0 : Int) ≤ (j : Int) := by omega
            have hwr3 : IntKind.i64.wrap (2 * (b : Int)) = 2 * (b : Int) := by rw [IntKind.wrap_i64]; omega
            have jI1 : (j : Int) < (n : Int) := by omega
            obtain ⟨t0, t1, t2, t3⟩ : (wr.alloc (.cells #[.int .u64 a2, .int .u64 s2, .bool rd, .int .i64 up] 62)).cell? ⟨wr.heap.size, 0, none⟩ = some (.int .u64 a2) ∧ (wr.alloc (.cells #[.int .u64 a2, .int .u64 s2, .bool rd, .int .i64 up] 62)).cell? ⟨wr.heap.size, 1, none⟩ = some (.int .u64 s2) ∧ (wr.alloc (.cells #[.int .u64 a2, .int .u64 s2, .bool rd, .int .i64 up] 62)).cell? ⟨wr.heap.size, 3, none⟩ = some (.int .i64 up) ∧ True := by
              have hh := heap_alloc_new wr (.cells #[.int .u64 a2, .int .u64 s2, .bool rd, .int .i64 up] 62)
              exact ⟨cellOf (o := 0) hh rfl, cellOf (o := 1) hh rfl, cellOf (o := 3) hh rfl, trivial⟩
            clear he hz hlt2 t3 hj hk0
            obtain ⟨A, hAA⟩ : ∃ A, A = wr.alloc (.cells #[.int .u64 a2, .int .u64 s2, .bool rd, .int .i64 up] 62) := ⟨_, rfl⟩
            have HAA := Lib.hid hAA
            have HA2 : Hid (Own (Go.Proofs.Ytekdahppacghbaa.Blk wr.heap.size (tc ⟨a2, s2, rd, up⟩).toArray 62 :: [Tree p 60 E, Row 31 3 (.slice (some ⟨ge, 0, none⟩) n ec) n (ents E), RowR 62 4 (.slice (some ⟨gs, 0, none⟩) n sc) n (tws Z), Old w]) A) := Lib.hid (by rw [hAA]; exact HA.out)
            rw [← hAA] at r0 r1 p0 p1 t0 t1 t2
            clear hxA HA H hAA
            go_upto_region 13 with fail
            rw [← HAA.out]
            clear HAA c0 c1 c2 c3
            go_region_held3 (fun w' => w'.cell? ⟨wr.heap.size, 0, none⟩ = some (.int .u64 a2) ∧ w'.cell? ⟨wr.heap.size, 1, none⟩ = some (.int .u64 s2) ∧ w'.cell? ⟨wr.heap.size, 3, none⟩ = some (.int .i64 up) ∧ w'.cell? ⟨ge, k * 3, none⟩ = some (.int .u64 a2) ∧ w'.cell? ⟨ge, k * 3 + 1, none⟩ = some (.int .u64 s2) ∧ w'.cell? ⟨gs, j * 4, none⟩ = some (.int .u64 a3) ∧ w'.cell? ⟨gs, j * 4 + 1, none⟩ = some (.int .u64 s3))
              (first | go_keep | (go_split_ands; exact ⟨y0, y1, y2, y3, y4, y5, y6⟩))
              (first
                | ((go_at_call 13; refine (HAH.out _).mono ?_; rintro e' w5 ⟨rfl, hx5⟩; have hx6 := (Ext.refl A).drew.trans hx5; have y0 := hx6.cell t0; have y1 := hx6.cell t1; have y2 := hx6.cell t2; have y3 := hx6.cell r0; have y4 := hx6.cell r1; have y5 := hx6.cell p0; have y6 := hx6.cell p1; have H5 := Lib.hid (HA2.out.step hx6); clear hx5 hx6))
                | ((go_at_call 27; refine (HDP.out _ H5.out.fourth.rowR).mono ?_; rintro e' w' ⟨rfl, rfl⟩)))
            have HP : Hid (SI2 w p n (.slice (some ⟨ge, 0, none⟩) n ec) (.slice (some ⟨gs, 0, none⟩) n sc) E Z (.int .i64 ((k : Int) + 1)) w5) := Lib.hid ⟨k + 1, by go_num, by omega, H5.out.drop⟩
            clear H5 HA2 r0 r1 p0 p1 t0 t1 t2
            go_wp2_with fail
            go_roundw
            case rel => exact HP.out
            case measure => simp only [intOf]; omega
        · obtain rfl : k = n := by omega
          obtain ⟨m, hw⟩ := HSH.out.wk
          rw [HZ.out] at hw
          have HW := Lib.hid (walk_any h.third.rowR HZ.out (by omega) hw (Nat.le_refl _))
          have H := Lib.hid h
          have m0 : (0 : Int) ≤ (m : Int) := by omega
          clear h hw hlt hk
          go_wp2_with fail
          refine (HW.out).mono ?_
          rintro e' w' ⟨rfl, rfl⟩
          go_wp2_with fail
          refine (awake_any H.out).mono ?_
          rintro e' w8 ⟨rfl, h8⟩
          have H8 := Lib.hid h8
          clear h8 H HW
          go_wp2_with fail
          go_ret
          exact ⟨rfl, H8.out.ext (by simp)⟩
theorem shape_row (v : Value) (x : Nat × (Nat → Op)) (w : World) (ho : Ops w v x.1 x.2) :
    Calls Try.prog 6 #[v] w fun e w' => e = .returned (.bool true) ∧ Ext w w' := shape_of v x.1 x.2 w ho
end Go.Proofs.Ytekdahppacghbaa.Tr
