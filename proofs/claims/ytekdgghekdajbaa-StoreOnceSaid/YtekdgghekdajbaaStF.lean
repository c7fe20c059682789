/- DERIVED. Layer 10 (store): a store of which nothing was freed; the law StoreFull. -/
import Derived.Test.YtekdgghekdajbaaStE
import Derived.Test.YtekdgghekdajbaaArgs
import Derived.Deep.RegionHeld3
set_option linter.unusedVariables false
set_option linter.unusedSimpArgs false
set_option maxRecDepth 100000
namespace Go.Proofs.Ytekdgghekdajbaa.St
open Go.RowKit Go.Proofs.Ytekdgghekdajbaa Go.Proofs.Ytekdgghekdajbaa.Ar Go.WideShapes Go.ChangeShapes

/-- an arena of which m places were taken -/
def Xm (r m : Nat) : A := ⟨List.replicate m 1, [], r, m⟩
theorem xm_tk (r m : Nat) : tk (Xm r m) = Xm r (m + 1) ∧ tq (Xm r m) = m := by
  have eq : tq (Xm r m) = m := by unfold tq Xm; simp
  refine ⟨?_, eq⟩
  have e0 : st0 (Xm r m) = List.replicate m 1 ++ [0] := by unfold st0 Xm; simp
  unfold tk
  rw [e0, eq]
  unfold Xm
  have : (List.replicate m 1 ++ [0]).set m ((List.replicate m 1 ++ [0]).getD m 0 + 1) = List.replicate (m + 1) 1 := by
    rw [List.set_append_right (h := by simp), List.replicate_succ']
    simp [List.getD]
  rw [this]
  rfl
theorem xm_hdl (r m q : Nat) (h : q < m) : hdl (Xm r m) q = q + 1 := by
  have e : (Xm r m).st.getD q 0 = 1 := by unfold Xm; simp [List.getD, h]
  unfold hdl
  rw [e]
  simp
theorem xm_ok {r : Nat} (h1 : 1 ≤ r) (h2 : r ≤ 65536) : ∀ m, m ≤ r → Ok m (Xm r m)
  | 0, _ => ok_fresh r h1 h2
  | m + 1, h => by
    have := (take_spec (xm_ok h1 h2 m (by omega)) (by show m < r; omega)).2
    rw [(xm_tk r m).1] at this
    exact this
section
variable {p r m : Nat} {H : List Hd} {bys : Int} {l : List HP} {w : World}
theorem put_m (h1 : 1 ≤ r) (h2 : r ≤ 65536) (h : Sto p (Xm r m) H bys ((m : Int) + 1) l w) (hH : H.length = m) (hm : m < r) (k c len pr at_ now : Int) (hb : bad len pr = false) (b0 : 0 ≤ bys) (b1 : bys ≤ 100000000000) :
    Calls Try.prog 30 #[.pointer (some ⟨p, 0, none⟩), .agg #[.int .u64 k, .int .u64 c, .int .i64 len, .int .u8 pr, .int .u64 at_], .int .u64 now] w fun e w' => e = .returned (.tuple #[.int .u64 (((m + 1 : Nat) : Int)), .int .i64 0]) ∧ Sto p (Xm r (m + 1)) (H ++ [⟨k, c, len, pr, at_, (m : Int) + 1, now⟩]) (bys + len) (((m + 1 : Nat) : Int) + 1) l w' := by
  refine put_ok' h (xm_ok h1 h2 m (by omega)) (by omega) (by rw [hH]; simp [Xm]) hm hb b0 b1 (by omega) (by omega) (xm_tk r m).1 ?_ ?_ rfl (by omega)
  · rw [(xm_tk r m).1, (xm_tk r m).2]
    exact xm_hdl r (m + 1) m (by omega)
  · rw [(xm_tk r m).2]
    unfold putH
    rw [if_neg (by omega)]
end
/-- words that came in -/
def Words (W : World) (v : Value) (l : List Nat) : Prop :=
  ∃ a cap, v = .slice a l.length cap ∧ l.length ≤ cap ∧ cap ≤ maxLen ∧ (0 < l.length → ∃ b off, a = some ⟨b, off, none⟩ ∧ b < W.heap.size ∧ ∀ (i x : Nat), l[i]? = some x → x ≤ 65535 ∧ W.cell? ⟨b, off + i, none⟩ = some (.int .u16 x))
theorem words_of {H : Type} {enc : TypeId × Value → H} {w : World} {v : Value} {d : DataW H} {ps : List MemPlace} (hv : ∃ a len cap, v = .slice a len cap)
    (h : DataW.Trod enc Try.prog w 0 (fun _ => true) true 92 v d ps) : ∃ l, Words w v l := by
  obtain ⟨n, C, ⟨a, cap, hv', h1, h2, h3⟩, h4⟩ := came_of (P := Try.prog) (sz := 1) Try.underlying92 (by kernel_rfl) (by omega) hv h
  have hz : ∀ i, i < n → ∃ x : Nat, x ≤ 65535 ∧ C i 0 = .int .u16 x := by
    intro i hi
    obtain ⟨m, x, hx⟩ := h4 i hi
    obtain ⟨z, hz, _, hw⟩ := DataW.trod_int Try.underlying93 hx
    simp only [List.range_succ, List.range_zero, List.nil_append, List.map_cons, List.map_nil, List.cons.injEq, and_true] at hz
    obtain ⟨l, u⟩ := u16_bd hw
    exact ⟨z.toNat, by omega, by rw [hz, Int.toNat_of_nonneg l]⟩
  refine ⟨(List.range n).map fun i => (match C i 0 with | .int _ z => z.toNat | _ => 0), a, cap, by simpa using hv', by simpa using h1, h2, fun hp => ?_⟩
  obtain ⟨b, off, rfl, hb, hcell⟩ := h3 (by simpa using hp)
  refine ⟨b, off, rfl, hb, fun i x hx => ?_⟩
  have hi : i < n := by have := (List.getElem?_eq_some_iff.1 hx).1; simpa using this
  obtain ⟨y, hy, hC⟩ := hz i hi
  rw [List.getElem?_map, List.getElem?_range hi, Option.map_some, hC] at hx
  simp only [Int.toNat_natCast, Option.some.injEq] at hx
  subst hx
  have := hcell i 0 hi (by omega)
  rw [hC, Nat.mul_one, Nat.add_zero] at this
  exact ⟨hy, this⟩
theorem xm_first (m : Nat) (h : 1 ≤ m) : pb (Xm m m) (1 : Nat) = true ∧ pv (Xm m m) (1 : Nat) = (0 : Nat) := by
  obtain ⟨k, rfl⟩ : ∃ k, m = k + 1 := ⟨m - 1, by omega⟩
  have h1 : pb (Xm (k + 1) (k + 1)) (1 : Nat) = true := by
    simp [pb, hv, hb, hdl, Xm, List.replicate_succ, List.getD]
  refine ⟨h1, ?_⟩
  unfold pv
  rw [if_pos h1]
  rfl
/-- behind m puts -/
def FI (w0 : World) (p n : Nat) (s8 s9 s32 : Value) (wr : World) : Prop :=
  ∃ (m : Nat) (H : List Hd) (B : Int), s8 = .int .i64 B ∧ s9 = .int .u64 (if m = 0 then 0 else 1) ∧ s32 = .int .i64 (m : Int) ∧ m ≤ n ∧ Sto p (Xm n m) H B ((m : Int) + 1) [Old w0] wr ∧ H.length = m ∧ (m : Int) ≤ B ∧ B ≤ (m : Int) * 65536 ∧ (0 < m → ∃ s : Int, H[0]? = some ⟨0, 0, s, 0, 0, 1, 0⟩ ∧ 1 ≤ s ∧ s ≤ 65536 ∧ s ≤ B)
set_option maxHeartbeats 4000000 in
theorem full_of (room : Int) (v : Value) (L : List Nat) (wr0 : (Lit.int .u8 room).wf = true) (w : World) (hl : Words w v L) :
    Calls Try.prog 11 #[.int .u8 room, v] w fun e w' => e = .returned (.bool true) ∧ Ext w w' := by
  obtain ⟨r0, r1⟩ := u8_bd wr0
  obtain ⟨n, hn⟩ : ∃ n : Nat, (n : Int) = 1 + room % 200 := ⟨(1 + room % 200).toNat, by omega⟩
  obtain ⟨a, cap, rfl, q1, q2, q3⟩ := hl
  have n1 : 1 ≤ n := by omega
  have n2 : n ≤ 200 := by omega
  have hn' := hn.symm
  have H0 := Lib.hid (Own.start w)
  obtain ⟨N, hN⟩ : ∃ N, N = L.length := ⟨_, rfl⟩
  rw [← hN] at q1 q3
  rw [← hN]
  have HN := Lib.hid hN
  have Q3 := Lib.hid q3
  unfold maxLen at q2
  clear wr0 hn q3 hN
  go_enter Try.func11, Try.ntmps11
  go_wp2_with fail
  refine (snew_any n n1 (by omega) H0.out).mono ?_
  rintro e w1 ⟨p, rfl, h1⟩
  have H1 := Lib.hid h1
  clear h1 H0
  go_wp2_with fail
  go_loopw [8, 9, 32] (fun s8 s9 s32 wr => FI w p n s8 s9 s32 wr) (fun _ _ s32 _ => n - (intOf s32).toNat)
  case atStart => exact ⟨0, [], 0, rfl, rfl, rfl, by omega, H1.out, rfl, by omega, by omega, fun h => absurd h (Nat.lt_irrefl 0)⟩
  case round =>
    clear H1
    obtain ⟨m, H, B, rfl, hf', rfl, hmn, h, hH, hB1, hB2, hfirst⟩ := hrel
    obtain ⟨f, hf⟩ : ∃ f : Int, f = (if m = 0 then 0 else 1) := ⟨_, rfl⟩
    rw [← hf] at hf'
    subst hf'
    by_cases hlt : m < n
    · by_cases hN0 : N = 0
      · have nI0 : decide (0 < N) = false := by simp; omega
        clear hN0
        by_cases hm0 : m = 0
        · have i0 : ((m : Int) == 0) = true := by simp [hm0]
          have hP : ∀ w3, Sto p (Xm n (m + 1)) (H ++ [⟨0, 0, 1, 0, 0, (m : Int) + 1, (m : Int)⟩]) (B + 1) (((m + 1 : Nat) : Int) + 1) [Old w] w3 → FI w p n (.int .i64 (B + 1)) (.int .u64 (((m + 1 : Nat) : Int))) (.int .i64 ((m : Int) + 1)) w3 := fun w3 h3 =>
            ⟨m + 1, _, _, rfl, by rw [if_neg (by omega), hm0]; rfl, by go_num, by omega, h3, by rw [List.length_append, hH]; rfl, by omega, by omega, fun _ => by
              refine ⟨1, ?_, by omega, by omega, by omega⟩
              have : H = [] := List.length_eq_zero_iff.1 (by omega)
              rw [this, hm0]; rfl⟩
          have HP := Lib.hid hP
          have HT := Lib.hid (put_m n1 (by omega) h hH hlt 0 0 1 0 0 (m : Int) (by decide) (by omega) (by omega))
          have bB : 0 ≤ B ∧ B ≤ 20000000 := by omega
          clear h hH hfirst hf hP hm0 hB1 hB2
          go_wp2_with fail
          refine (HT.out).mono ?_
          rintro e w3 ⟨rfl, h3⟩
          have HQ := Lib.hid (HP.out w3 h3)
          clear h3 HT HP
          go_wp2_with fail
          exact ⟨HQ.out, by simp [intOf]; omega⟩
        · have i0 : ((m : Int) == 0) = false := by simp; omega
          have hP : ∀ w3, Sto p (Xm n (m + 1)) (H ++ [⟨0, 0, 1, 0, 0, (m : Int) + 1, (m : Int)⟩]) (B + 1) (((m + 1 : Nat) : Int) + 1) [Old w] w3 → FI w p n (.int .i64 (B + 1)) (.int .u64 (f)) (.int .i64 ((m : Int) + 1)) w3 := fun w3 h3 =>
            ⟨m + 1, _, _, rfl, by rw [hf, if_neg hm0, if_neg (by omega)], by go_num, by omega, h3, by rw [List.length_append, hH]; rfl, by omega, by omega, fun _ => by
              obtain ⟨s, hs, hs1, hs2, hs3⟩ := hfirst (by omega)
              exact ⟨s, by rw [List.getElem?_append_left (by omega)]; exact hs, hs1, hs2, by omega⟩⟩
          have HP := Lib.hid hP
          have HT := Lib.hid (put_m n1 (by omega) h hH hlt 0 0 1 0 0 (m : Int) (by decide) (by omega) (by omega))
          have bB : 0 ≤ B ∧ B ≤ 20000000 := by omega
          clear h hH hfirst hf hP hm0 hB1 hB2
          go_wp2_with fail
          refine (HT.out).mono ?_
          rintro e w3 ⟨rfl, h3⟩
          have HQ := Lib.hid (HP.out w3 h3)
          clear h3 HT HP
          go_wp2_with fail
          exact ⟨HQ.out, by simp [intOf]; omega⟩
      · obtain ⟨b, off, rfl, hb, hcell⟩ := Q3.out (by omega)
        obtain ⟨j, hj⟩ : ∃ j, j = m % N := ⟨_, rfl⟩
        have hjN : j < N := by rw [hj]; exact Nat.mod_lt _ (by omega)
        have hjI : (j : Int) < N := by omega
        have hmod : (m : Int) % (N : Int) = (j : Int) := by rw [hj]; rfl
        obtain ⟨x, hx⟩ : ∃ x, L[j]? = some x := ⟨_, List.getElem?_eq_getElem (by rw [← HN.out]; exact hjN)⟩
        obtain ⟨hx1, hxc⟩ := hcell j x hx
        have hxc' := (h.own.ext (by simp)).cell hxc
        have nI : (0 : Int) < N := by omega
        clear hcell hx hxc hj hb
        by_cases hm0 : m = 0
        · have i0 : ((m : Int) == 0) = true := by simp [hm0]
          have hP : ∀ w3, Sto p (Xm n (m + 1)) (H ++ [⟨0, 0, (1 + (x : Int)), 0, 0, (m : Int) + 1, (m : Int)⟩]) (B + (1 + (x : Int))) (((m + 1 : Nat) : Int) + 1) [Old w] w3 → FI w p n (.int .i64 (B + (1 + (x : Int)))) (.int .u64 (((m + 1 : Nat) : Int))) (.int .i64 ((m : Int) + 1)) w3 := fun w3 h3 =>
            ⟨m + 1, _, _, rfl, by rw [if_neg (by omega), hm0]; rfl, by go_num, by omega, h3, by rw [List.length_append, hH]; rfl, by omega, by omega, fun _ => by
              refine ⟨(1 + (x : Int)), ?_, by omega, by omega, by omega⟩
              have : H = [] := List.length_eq_zero_iff.1 (by omega)
              rw [this, hm0]; rfl⟩
          have HP := Lib.hid hP
          have HT := Lib.hid (put_m n1 (by omega) h hH hlt 0 0 (1 + (x : Int)) 0 0 (m : Int) (by simp [bad]; omega) (by omega) (by omega))
          have bB : 0 ≤ B ∧ B ≤ 20000000 := by omega
          clear h hH hfirst hf hP hm0 hB1 hB2
          go_wp2_with fail
          refine (HT.out).mono ?_
          rintro e w3 ⟨rfl, h3⟩
          have HQ := Lib.hid (HP.out w3 h3)
          clear h3 HT HP
          go_wp2_with fail
          exact ⟨HQ.out, by simp [intOf]; omega⟩
        · have i0 : ((m : Int) == 0) = false := by simp; omega
          have hP : ∀ w3, Sto p (Xm n (m + 1)) (H ++ [⟨0, 0, (1 + (x : Int)), 0, 0, (m : Int) + 1, (m : Int)⟩]) (B + (1 + (x : Int))) (((m + 1 : Nat) : Int) + 1) [Old w] w3 → FI w p n (.int .i64 (B + (1 + (x : Int)))) (.int .u64 (f)) (.int .i64 ((m : Int) + 1)) w3 := fun w3 h3 =>
            ⟨m + 1, _, _, rfl, by rw [hf, if_neg hm0, if_neg (by omega)], by go_num, by omega, h3, by rw [List.length_append, hH]; rfl, by omega, by omega, fun _ => by
              obtain ⟨s, hs, hs1, hs2, hs3⟩ := hfirst (by omega)
              exact ⟨s, by rw [List.getElem?_append_left (by omega)]; exact hs, hs1, hs2, by omega⟩⟩
          have HP := Lib.hid hP
          have HT := Lib.hid (put_m n1 (by omega) h hH hlt 0 0 (1 + (x : Int)) 0 0 (m : Int) (by simp [bad]; omega) (by omega) (by omega))
          have bB : 0 ≤ B ∧ B ≤ 20000000 := by omega
          clear h hH hfirst hf hP hm0 hB1 hB2
          go_wp2_with fail
          refine (HT.out).mono ?_
          rintro e w3 ⟨rfl, h3⟩
          have HQ := Lib.hid (HP.out w3 h3)
          clear h3 HT HP
          go_wp2_with fail
          exact ⟨HQ.out, by simp [intOf]; omega⟩
    · obtain rfl : m = n := by omega
      obtain ⟨s, hs, hs1, hs2, hs3⟩ := hfirst (by omega)
      have hf1 : f = 1 := by rw [hf, if_neg (by omega)]
      subst hf1
      clear hf hlt hfirst
      have n1m : 1 ≤ m := n1
      have hk := xm_ok n1m (by omega) m (Nat.le_refl m)
      have hpf := put_full h hk (by omega) rfl 0 0 1 0 0 0 (by decide)
      have HP := Lib.hid hpf
      have OK := Lib.hid hk
      have hpb : pb (Xm m m) (1 : Nat) = true ∧ pv (Xm m m) (1 : Nat) = (0 : Nat) := xm_first m n1m
      have HPB := Lib.hid hpb
      have HS := Lib.hid hs
      have HLE := Lib.hid hH
      have mI : (m : Int) + 1 ≤ 201 := by omega
      have mI0 : (0 : Int) ≤ m := by omega
      have bB : 0 ≤ B ∧ B ≤ 20000000 := by omega
      clear h hk hpf hpb hs hH hB1 hB2 hmn
      go_wp2_with fail
      refine (HP.out).mono ?_
      rintro e w2 ⟨rfl, h2⟩
      have H2 := Lib.hid h2
      clear h2 HP
      go_wp2_with fail
      refine (count_any H2.out OK.out).mono ?_
      rintro e w' ⟨rfl, rfl⟩
      go_wp2_with fail
      refine (bytes_any H2.out).mono ?_
      rintro e w' ⟨rfl, rfl⟩
      go_wp2_with fail
      refine (nextn_any H2.out).mono ?_
      rintro e w' ⟨rfl, rfl⟩
      go_wp2_with fail
      refine (free_yes H2.out OK.out (by omega) 1 (by omega) HPB.out.1 0 HPB.out.2 ⟨0, 0, s, 0, 0, 1, 0⟩ HS.out (by omega) (by omega) (by show (0 : Int) ≤ s; omega) (by show s ≤ 100000000000; omega)).mono ?_
      rintro e w3 ⟨rfl, h3⟩
      have h4 := h3.new #[.int .u64 0, .int .u64 0, .int .i64 s, .int .u8 0, .int .u64 0, .int .u64 1, .int .u64 0] 72
      have hg := give_spec OK.out 0 (by show 0 < (List.replicate m 1).length; simp; omega) (by show (List.replicate m 1).getD 0 0 % 2 = 1; obtain ⟨k, rfl⟩ : ∃ k, m = k + 1 := ⟨m - 1, by omega⟩; simp [List.replicate_succ, List.getD])
      have hu : (gv (Xm m m) 0).used < (gv (Xm m m) 0).room := by show m - 1 < m; omega
      have hl : H.length = (gv (Xm m m) 0).st.length := by rw [hg.2.2.2, HLE.out]; simp [Xm]
      have hput := put_ok h4 hg.1 (by omega) hl hu 0 0 1 0 0 0 (by decide) (by show 0 ≤ B - s; omega) (by show B - s ≤ 100000000000; omega) (by omega) (by omega)
      obtain ⟨hh, ehh⟩ : ∃ hh : Nat, hh = hdl (tk (gv (Xm m m) 0)) (tq (gv (Xm m m) 0)) := ⟨_, rfl⟩
      rw [← ehh] at hput
      have HP := Lib.hid hput
      clear h3 h4 hg hu hl hput ehh H2
      go_wp2_with fail
      refine (HP.out).mono ?_
      rintro e w4 ⟨rfl, h5⟩
      have hD : Sto p (tk (gv (Xm m m) 0)) (putH H (tq (gv (Xm m m) 0)) ⟨0, 0, 1, 0, 0, (m : Int) + 1, 0⟩) (B - s + 1) ((m : Int) + 1 + 1) [Blk w3.heap.size #[.int .u64 0, .int .u64 0, .int .i64 s, .int .u8 0, .int .u64 0, .int .u64 1, .int .u64 0] 72, Old w] w4.drew := h5.step ((Ext.refl _).drew)
      have hB := bytes_any hD
      have hN := nextn_any hD
      have hA := awake_any hD.own
      have HB := Lib.hid hB
      have HNX := Lib.hid hN
      have HA := Lib.hid hA
      obtain ⟨x0, x1, x2, x3, x4, x5, x6, xf⟩ := Own.blk7 (b := w3.heap.size) (x0 := .int .u64 0) (x1 := .int .u64 0) (x2 := .int .i64 s) (x3 := .int .u8 0) (x4 := .int .u64 0) (x5 := .int .u64 1) (x6 := .int .u64 0) (t := 72) h5.own (.head _)
      have s1 : IntKind.u64.wrap ((m : Int) + 1 + 1) = (m : Int) + 2 := by rw [IntKind.wrap_u64]; omega
      have s2 : IntKind.i64.wrap ((m : Int) + 2) = (m : Int) + 2 := by rw [IntKind.wrap_i64]; omega
      have s3 : IntKind.i64.wrap (B - s) = B - s := by rw [IntKind.wrap_i64]; omega
      have s4 : IntKind.i64.wrap (B - s + 1) = B - s + 1 := by rw [IntKind.wrap_i64]; omega
      have s5 : IntKind.u64.wrap ((m : Int) + 2) = (m : Int) + 2 := by rw [IntKind.wrap_u64]; omega
      have s6 : (m : Int) + 1 + 1 = (m : Int) + 2 := by omega
      clear h5 hD hB hN hA x0 x1 x3 x4 x6 xf HP
      go_wp2_with fail
      go_region_held3 (fun w' => w'.cell? ⟨w3.heap.size, 2, none⟩ = some (.int .i64 s) ∧ w'.cell? ⟨w3.heap.size, 5, none⟩ = some (.int .u64 1))
        (first | go_keep | (go_split_ands; exact ⟨y2, y5⟩))
        (first
          | ((go_at_call 39; refine (HB.out).mono ?_; rintro e w' ⟨rfl, rfl⟩))
          | ((go_at_call 41; refine (HNX.out).mono ?_; rintro e w' ⟨rfl, rfl⟩))
          | ((go_at_call 33; refine (HA.out).mono ?_; rintro e w5 ⟨rfl, h6⟩; have y := Own.blk7 (b := w3.heap.size) (x0 := .int .u64 0) (x1 := .int .u64 0) (x2 := .int .i64 s) (x3 := .int .u8 0) (x4 := .int .u64 0) (x5 := .int .u64 1) (x6 := .int .u64 0) (t := 72) h6 (.head _); have y2 := y.2.2.1; have y5 := y.2.2.2.2.2.1; have HX := Lib.hid h6; clear y h6)))
      go_wp2_with fail
      go_ret
      exact ⟨rfl, HX.out.ext (by simp)⟩
end Go.Proofs.Ytekdgghekdajbaa.St
