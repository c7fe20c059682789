/- DERIVED. Layer 4 (arena): the law ArenaTells. -/
import Derived.Test.YtekdgghekdajbaaA4E
import Derived.Test.YtekdgghekdajbaaArJ
import Derived.Test.YtekdgghekdajbaaArNone
import Derived.Deep.DeepCutAuto
import Derived.Deep.CutBlock
set_option linter.unusedVariables false
set_option linter.unusedSimpArgs false
set_option maxRecDepth 100000
namespace Go.Proofs.Ytekdgghekdajbaa.Ar
open Go.RowKit Go.Proofs.Ytekdgghekdajbaa

section
variable {P : Program} {ops : Array Oper} {rest : List Oper} {o : Oper} {a : Act} {Q : Exit → Act → World → Prop}
/-- append of a whole slice of the call's own -/
theorem app_RR (w : World) (hgd : o.guard = none) (s x : Operand) (t e : TypeId) (z : Value) (size bytes : Nat)
    (ho : o.op = .call { callee := .builtin .append, args := #[s, x], argTypes := #[t, t] })
    (ht : P.underlying t = some (.slice e)) (hinfo : (P.info? e).map (fun i => (i.zero, i.size, i.bytes)) = some (some z, size, bytes)) (hz : z.cells.size = size) (hs0 : 0 < size)
    (v1 : Value) (n : Nat) (xs : List Value) (hs : a.eval s = v1) (HO : ownsR w e size v1 n xs) (v2 : Value) (m : Nat) (ys : List Value) (hx : a.eval x = v2) (hv : ownsR w e size v2 m ys) (h1 : ∀ u ∈ ys, u.oneCell' = true)
    (hl : n + m ≤ maxLen) (hl2 : (n + m) * bytes ≤ 140737488355328)
    (h : ∀ v3 w1, ownsR w1 e size v3 (n + m) (xs ++ ys) → w.grownBy w1 v1.ownBlock → Moved w v1 v3 → wpList P ops Q rest (a.put o.dst v3) w1) :
    wpList P ops Q (o :: rest) a w := by
  have hv' := hv
  rcases hv.2 with ⟨rfl, rfl⟩ | ⟨g, cap, cur, rfl, hg, hnc, hcm, hcs, htake⟩
  · have hys : ys = [] := List.eq_nil_of_length_eq_zero (by simpa using hv.1)
    subst hys
    refine app_nil w hgd s x t e z size bytes ho ht hinfo _ n xs hs hx HO (h _ _ ?_ ⟨rfl, rfl, rfl, Nat.le_refl _, fun _ _ _ => rfl⟩ (.inl rfl))
    rw [List.append_nil, Nat.add_zero]
    exact HO
  · exact app_R w hgd s x t e z size bytes ho ht hinfo hz hs0 _ n xs hs ⟨g, 0, none⟩ m cap ys hx hv.1 (fun j u hj => by rw [add_plain]; exact (hv'.cells rfl j u hj).1) h1 HO hl hl2 h
end
theorem _root_.Go.Proofs.Ytekdgghekdajbaa.Own.builtNew (e : TypeId) (xs : List Value) {l : List HP} {w : World} (hn : xs.length ≤ maxLen) (h : Own l w) : Own (RowR e 1 (.slice (some ⟨w.heap.size, 0, none⟩) xs.length xs.length) xs.length xs :: l) (w.alloc (.cells xs.toArray e)) :=
  h.new ((Ext.refl w).alloc _) (P := RowR e 1 (.slice (some ⟨w.heap.size, 0, none⟩) xs.length xs.length) xs.length xs) (s := fun b => b = w.heap.size)
    ⟨⟨by simp, .inr ⟨w.heap.size, xs.length, xs.toArray, rfl, heap_alloc_new w _, Nat.le_refl _, hn, by simp, by simp⟩⟩, fun b => by simp [Value.ownBlock, eq_comm]⟩ (fun b hb => by rw [hb]; exact Nat.le_refl _)
theorem us_one (l : List Nat) : ∀ u ∈ us l, u.oneCell' = true := by
  intro u hu
  obtain ⟨s, _, rfl⟩ := List.mem_map.1 hu
  rfl
theorem ofv_lt' {T : List Nat} (h : ∀ x ∈ T, x < 18446744073709551616) (n : Int) : ofv T n < 18446744073709551616 := by
  unfold ofv
  split
  · omega
  · by_cases hn : n.toNat < T.length
    · exact h _ (by simp [List.getD, hn])
    · have : T.getD n.toNat 0 = 0 := by simp [List.getD, List.getElem?_eq_none (by omega : T.length ≤ n.toNat)]
      omega
theorem tkH_lt {N : Nat} {X : A} (ho : Ok N X) (hN : N ≤ 1000) : tkH X < 18446744073709551616 := by
  unfold tkH
  split
  · omega
  · rename_i hu
    obtain ⟨t, ho2⟩ := take_spec ho (by have := ho.used_le; omega)
    have hodd : (tk X).st.getD (tq X) 0 % 2 = 1 := by rw [t.now]; have := t.was; omega
    rw [hdl_at hodd]
    have := ho2.bd (tq X)
    have := ho2.len
    have := ho2.r2
    have := t.q
    omega
theorem room_tk (X : A) : (tkA X).room = X.room := by unfold tkA; split <;> rfl
theorem room_gv (X : A) (h : Nat) : (gvA X h).room = X.room := by unfold gvA; split <;> rfl
abbrev AL (w0 : World) (p r b7 : Nat) (X : A) (T : List Nat) (tv v1 v2 v3 : Value) : List HP := [Row 30 1 tv T.length (us T), RT X v1, RB X v2, RK X v3, Arena p X, BX b7 v1 v2 v3 (.int .i64 (r : Int)), Old w0]
def AI (w0 : World) (p r b7 M : Nat) (tv : Value) (wx : World) : Prop :=
  ∃ (N : Nat) (X : A) (T : List Nat) (v1 v2 v3 : Value), Own (AL w0 p r b7 X T tv v1 v2 v3) wx ∧ Ok N X ∧ N ≤ M ∧ X.room = r ∧ T.length ≤ M ∧ ∀ x ∈ T, x < 18446744073709551616
theorem at_store {w0 w3 : World} {p r b7 : Nat} {Y : A} {T : List Nat} {tv u1 u2 u3 v1 v2 v3 : Value} (h : Own [RT Y u1, RB Y u2, RK Y u3, Arena p Y, Row 30 1 tv T.length (us T), BX b7 v1 v2 v3 (.int .i64 (r : Int)), Old w0] w3) :
    ∃ wA w4, w3.alloc (.cells #[u1, u2, u3, .int .i64 (r : Int)] 48) = wA ∧ ((((wA.setCell ⟨b7, 0, none⟩ u1).setCell ⟨b7, 1, none⟩ u2).setCell ⟨b7, 2, none⟩ u3).setCell ⟨b7, 3, none⟩ (.int .i64 (r : Int))) = w4 ∧
      (wA.cell? ⟨w3.heap.size, 0, none⟩ = some u1 ∧ wA.cell? ⟨w3.heap.size, 1, none⟩ = some u2 ∧ wA.cell? ⟨w3.heap.size, 2, none⟩ = some u3 ∧ wA.cell? ⟨w3.heap.size, 3, none⟩ = some (.int .i64 (r : Int))) ∧
      (wA.cell? ⟨b7, 0, none⟩ = some v1 ∧ wA.cell? ⟨b7, 1, none⟩ = some v2 ∧ wA.cell? ⟨b7, 2, none⟩ = some v3 ∧ wA.cell? ⟨b7, 3, none⟩ = some (.int .i64 (r : Int)) ∧ wA.frozen? ⟨b7, 0, none⟩ = false ∧ wA.frozen? ⟨b7, 1, none⟩ = false ∧ wA.frozen? ⟨b7, 2, none⟩ = false ∧ wA.frozen? ⟨b7, 3, none⟩ = false) ∧
      Own (AL w0 p r b7 Y T tv u1 u2 u3) w4 := by
  have h1 := Own.blkNew h #[u1, u2, u3, .int .i64 (r : Int)] 48
  obtain ⟨c0, c1, c2, c3, -, -, -, -⟩ := bx_cells (b := w3.heap.size) h1 (.head _)
  have h2 := Own.sixth6 h1.drop
  obtain ⟨b0, b1, b2, b3, f0, f1, f2, f3⟩ := bx_cells (b := b7) h2 (.head _)
  obtain ⟨w4, hw4, h3⟩ := bx_all h2 u1 u2 u3 (.int .i64 (r : Int))
  refine ⟨_, w4, rfl, hw4, ⟨c0, c1, c2, c3⟩, ⟨b0, b1, b2, b3, f0, f1, f2, f3⟩, ?_⟩
  exact (Own.sixth6 h3).perm (((List.perm_append_comm (l₁ := [BX b7 u1 u2 u3 (.int .i64 (r : Int))]) (l₂ := [RT Y u1, RB Y u2, RK Y u3, Arena p Y])).append_right [Old w0]).cons _)
/-- the law's round -/
def ALI (w0 : World) (p r b7 n : Nat) (tv vi : Value) (wr : World) : Prop := ∃ k : Nat, vi = .int .i64 (k : Int) ∧ k ≤ n ∧ AI w0 p r b7 k tv wr
set_option maxHeartbeats 2000000 in
theorem atells_main (r : Nat) (v : Value) (L : List Op) (w : World) (ho : Ops w v L) (r1 : 1 ≤ r) (r2 : r ≤ 40) (hn : L.length ≤ 60) :
    Calls Try.prog 5 #[.int .i64 (r : Int), v] w fun e w' => e = .returned (.bool true) ∧ Ext w w' := by
  obtain ⟨a, cap, rfl, q1, q2, q3⟩ := ho
  obtain ⟨n, hN⟩ : ∃ n, n = L.length := ⟨_, rfl⟩
  rw [← hN] at q1 q3 hn ⊢
  have HN := Lib.hid hN
  have Q3 := Lib.hid q3
  unfold maxLen at q2
  have H0 := Lib.hid (Own.start w)
  have g1 : (1 : Int) ≤ (r : Int) := by omega
  have g2 : (r : Int) ≤ 65536 := by omega
  have g3 : (r : Int) ≤ 40 := by omega
  have g4 : (n : Int) ≤ 60 := by omega
  have g5 : (n : Int) ≤ (cap : Int) := by omega
  clear q3 hN
  go_enter Try.func5, Try.ntmps5
  go_wp2_with fail
  refine (own_new r r1 (by omega) H0.out).mono ?_
  rintro e w1 ⟨p, rfl, h1, -⟩
  have HR0 := Lib.hid (rnew_any (r : Int) h1)
  rw [show (decide (1 ≤ (r : Int) ∧ (r : Int) ≤ 65536)) = true from decide_eq_true ⟨g1, g2⟩] at HR0
  clear h1 H0
  go_wp2_with fail
  refine (HR0.out).mono ?_
  rintro e w2 ⟨rfl, h2⟩
  have h3 := Own.nilRow 30 1 (rfresh r (Own.blkNew h2 #[.slice none 0 0, .slice none 0 0, .slice none 0 0, .int .i64 (r : Int)] 48))
  obtain ⟨b7, hb7⟩ : ∃ b, b = w2.heap.size := ⟨_, rfl⟩
  rw [← hb7] at h3
  have HT : Hid (AI w p r b7 0 (.slice none 0 0) (w2.alloc (.cells #[.slice none 0 0, .slice none 0 0, .slice none 0 0, .int .i64 (r : Int)] 48))) := Lib.hid ⟨0, fresh r, [], _, _, _, h3.perm (((List.perm_append_comm (l₁ := [BX b7 (.slice none 0 0) (.slice none 0 0) (.slice none 0 0) (.int .i64 (r : Int))]) (l₂ := [Arena p (fresh r)])).append_right [Old w]).cons _ |>.cons _ |>.cons _ |>.cons _), ok_fresh r r1 (by omega), Nat.le_refl _, rfl, Nat.le_refl _, by simp⟩
  have HB7 := Lib.hid hb7
  clear h2 h3 HR0 hb7
  go_wp2_with fail
  rw [← HB7.out]
  clear HB7
  go_loopw [9, 72] (fun tv vi wr => ALI w p r b7 n tv vi wr) (fun _ vi _ => n - (intOf vi).toNat)
  case atStart => exact ⟨0, rfl, Nat.zero_le _, HT.out⟩
  case round =>
    clear HT
    obtain ⟨k, rfl, hk, N, X, T, v1, v2, v3, h, hok, hNk, hrm, hTk, hT64⟩ := hrel
    obtain ⟨tg, tc, rfl⟩ := own_slice h.row
    by_cases hlt : k < n
    · have hltI : (k : Int) < (n : Int) := by omega
      obtain ⟨b, off, rfl, hb, hcs⟩ := Q3.out (by omega)
      obtain ⟨o, hO⟩ : ∃ o, L[k]? = some o := ⟨_, List.getElem?_eq_getElem (by have := HN.out; omega)⟩
      obtain ⟨hoo, c0, c1, c2⟩ := hcs k o hO
      have hx := h.ext (w0 := w) (by simp)
      have d0 := hx.cell c0
      have d1 := hx.cell c1
      have d2 := hx.cell c2
      obtain ⟨kd, ekd⟩ : ∃ x, x = o.kind := ⟨_, rfl⟩
      obtain ⟨kn, ekn⟩ : ∃ x, x = o.n := ⟨_, rfl⟩
      obtain ⟨kh, ekh⟩ : ∃ x, x = o.h := ⟨_, rfl⟩
      rw [← ekd] at d0
      rw [← ekn] at d1
      rw [← ekh] at d2
      have hkh : kh < 18446744073709551616 := by rw [ekh]; exact hoo.2.2.2
      have hA := Own.sixth6 (h.step ((Ext.refl wr).alloc (.cells #[.int .u8 kd, .int .i64 kn, .int .u64 kh] 52)))
      have hBO := (Own.blkNew h #[.int .u8 kd, .int .i64 kn, .int .u64 kh] 52)
      have hbo := Own.blk hBO (.head _)
      obtain ⟨b11, hb11⟩ : ∃ b, b = wr.heap.size := ⟨_, rfl⟩
      obtain ⟨wA, hwA⟩ : ∃ wA, wA = wr.alloc (.cells #[.int .u8 kd, .int .i64 kn, .int .u64 kh] 52) := ⟨_, rfl⟩
      rw [← hb11, ← hwA] at hbo
      rw [← hwA] at hA hBO
      have o0 := cellOf (o := 0) hbo rfl
      have o1 := cellOf (o := 1) hbo rfl
      have o2 := cellOf (o := 2) hbo rfl
      have HWA := Lib.hid hwA
      have HB11 := Lib.hid hb11
      have hBO2 : Own (AL w p r b7 X T (.slice tg T.length tc) v1 v2 v3) wA := hBO.drop
      obtain ⟨a1, l1, m1, rfl⟩ : ∃ a1 l1 m1, v1 = .slice a1 l1 m1 := by
        obtain ⟨a1, m1, h⟩ := hBO2.second.rowR.slice
        exact ⟨a1, _, m1, h⟩
      obtain ⟨a2, l2, m2, rfl⟩ : ∃ a1 l1 m1, v2 = .slice a1 l1 m1 := by
        obtain ⟨a1, m1, h⟩ := hBO2.third.rowR.slice
        exact ⟨a1, _, m1, h⟩
      obtain ⟨a3, l3, m3, rfl⟩ : ∃ a1 l1 m1, v3 = .slice a1 l1 m1 := by
        obtain ⟨a1, m1, h⟩ := hBO2.fourth.rowR.slice
        exact ⟨a1, _, m1, h⟩
      have HOK := Lib.hid hok
      have HRM := Lib.hid hrm
      have HT64 := Lib.hid hT64
      obtain ⟨t, ht⟩ : ∃ t, t = T.length := ⟨_, rfl⟩
      have HT := Lib.hid ht
      have ht60 : t ≤ 60 := by omega
      have htk : t ≤ k := by omega
      rw [← ht]
      rw [← ht] at hBO2
      have HA := Lib.hid hBO2
      clear h hA hBO hBO2 hbo hx c0 c1 c2 hcs hb ekd ekn ekh hwA hb11 hoo hok hrm hT64 ht hO hTk
      go_upto_if 80 with fail
      rw [← HB11.out, ← HWA.out]
      clear HB11 HWA d0 d1 d2
      go_cut [12] (fun s12 wx => ∃ Hh : Nat, s12 = .int .u64 (Hh : Int) ∧ Hh < 18446744073709551616 ∧ wA = wx)
      case first =>
        by_cases k2 : kd = 2
        · have e2 : (kd == 2) = true := by simp [k2]
          have HOF : Hid (Calls Try.prog 22 #[.slice tg t tc, .int .i64 kn] wA fun e w' => e = .returned (.int .u64 ((ofv T kn : Nat) : Int)) ∧ wA = w') := Lib.hid (by
            have hr := HA.out.row
            rw [HT.out] at hr ⊢
            exact of_any _ T kn wA hr (by rw [← HT.out]; omega))
          clear k2
          as_aux_lemma =>
          go_wp2_with fail
          refine (HOF.out).mono ?_
          rintro e w2 ⟨rfl, rfl⟩
          go_wp2_with fail
          go_meet
          case rel => exact ⟨_, rfl, ofv_lt' HT64.out kn, rfl⟩
        · have e2 : (kd == 2) = false := by simp [k2]
          clear k2
          as_aux_lemma =>
          go_wp2_with fail
          go_meet
          case rel => exact ⟨_, rfl, hkh, rfl⟩
      case rest =>
        obtain ⟨Hh, rfl, hH64, rfl⟩ := hcut
        go_upto_block 2 with fail
        go_cut [9] (fun s9 wx => AI w p r b7 (k + 1) s9 wx)
        case first =>
          by_cases k1 : kd = 1
          · have e1 : (kd == 1) = true := by simp [k1]
            obtain ⟨K, hK⟩ : ∃ K, K = tkH X := ⟨_, rfl⟩
            obtain ⟨E, hE⟩ : ∃ E, E = tkE X := ⟨_, rfl⟩
            obtain ⟨Y, hY⟩ : ∃ Y, Y = tkA X := ⟨_, rfl⟩
            have HTK := Lib.hid (own_take' HA.out.fifth HOK.out (by omega) hK.symm hE.symm hY.symm)
            have HRT0 : Hid (∀ W, Own (RT X (.slice a1 l1 m1) :: RB X (.slice a2 l2 m2) :: RK X (.slice a3 l3 m3) :: Arena p Y :: Row 30 1 (.slice tg t tc) T.length (us T) :: BX b7 (.slice a1 l1 m1) (.slice a2 l2 m2) (.slice a3 l3 m3) (.int .i64 (r : Int)) :: [Old w]) W → Calls Try.prog 23 #[.agg #[.slice a1 l1 m1, .slice a2 l2 m2, .slice a3 l3 m3, .int .i64 (r : Int)]] W fun e w' => ∃ u1 u2 u3, e = .returned (.tuple #[.agg #[u1, u2, u3, .int .i64 (r : Int)], .int .u64 (K : Int), .int .i64 E]) ∧ Own (RT Y u1 :: RB Y u2 :: RK Y u3 :: Arena p Y :: Row 30 1 (.slice tg t tc) T.length (us T) :: BX b7 (.slice a1 l1 m1) (.slice a2 l2 m2) (.slice a3 l3 m3) (.int .i64 (r : Int)) :: [Old w]) w') := Lib.hid (fun W hW => by
              have hc := rtake_any hW HOK.out (by omega)
              rw [room_tk, ← hK, ← hE, ← hY, HRM.out] at hc
              exact hc)
            have HY : Hid (Ok (N + 1) Y ∧ Y.room = r ∧ K < 18446744073709551616) := Lib.hid ⟨by rw [hY]; exact tkA_ok HOK.out, by rw [hY, room_tk]; exact HRM.out, by rw [hK]; exact tkH_lt HOK.out (by omega)⟩
            have kk : (K != K) = false := by simp
            have ee : (E != E) = false := by simp
            clear k1 hK hE hY
            by_cases hE0 : E = 0
            · subst hE0
              have HUS := Lib.hid (show us T ++ [Value.int .u64 (K : Int)] = us (T ++ [K]) by simp [us])
              as_aux_lemma =>
              go_wp2_with fail
              refine (HTK.out).mono ?_
              rintro e w2 ⟨rfl, h2⟩
              have HRT := Lib.hid (HRT0.out _ h2.rot23)
              obtain ⟨i0, i1, i2, i3, -, -, -, -⟩ := bx_cells (b := b7) h2 (.tail _ (.tail _ (.tail _ (.tail _ (.tail _ (.head _))))))
              clear h2 HTK o0 o1 o2
              go_wp2_with fail
              refine (HRT.out).mono ?_
              rintro e w3 ⟨u1, u2, u3, rfl, h3⟩
              clear HRT i0 i1 i2 i3
              obtain ⟨x1, y1, z1, rfl⟩ : ∃ a1 l1 m1, u1 = .slice a1 l1 m1 := by
                obtain ⟨a1, m1, h⟩ := h3.rowR.slice
                exact ⟨a1, _, m1, h⟩
              obtain ⟨x2, y2, z2, rfl⟩ : ∃ a1 l1 m1, u2 = .slice a1 l1 m1 := by
                obtain ⟨a1, m1, h⟩ := h3.second.rowR.slice
                exact ⟨a1, _, m1, h⟩
              obtain ⟨x3, y3, z3, rfl⟩ : ∃ a1 l1 m1, u3 = .slice a1 l1 m1 := by
                obtain ⟨a1, m1, h⟩ := h3.third.rowR.slice
                exact ⟨a1, _, m1, h⟩
              obtain ⟨wB, w4, hwB, hw4, ⟨c0, c1, c2, c3⟩, ⟨s0, s1, s2, s3, f0, f1, f2, f3⟩, h4⟩ := at_store h3
              have H4 := Lib.hid h4
              clear h3 h4
              go_wp2_with (at_builtin; refine app_own (W := w4) rfl _ _ _ _ _ 1 8 rfl Try.underlying24 info30 rfl (by omega) (by omega) _ T.length (us T) [.int .u64 (K : Int)] rfl _ rfl rfl rfl (by simp [Value.oneCell']) (by exact H4.out.row) (by have := HT.out; omega) ?_; intro v4 w5 hown hgrow hmv; have H5 := Lib.hid (H4.out.rowApp hown hgrow hmv); clear hown hgrow hmv)
              go_meet
              case rel => exact ⟨N + 1, Y, T ++ [K], _, _, _, by have h := H5.out; rw [HUS.out, show T.length + 1 = (T ++ [K]).length by simp] at h; exact h, HY.out.1, by omega, HY.out.2.1, by rw [List.length_append, ← HT.out]; simp; omega, fun x hx => (List.mem_append.1 hx).elim (HT64.out x) (fun h => by rw [List.mem_singleton.1 h]; exact HY.out.2.2)⟩
            · have ee0 : (E == 0) = false := by simp [hE0]
              clear hE0
              as_aux_lemma =>
              go_wp2_with fail
              refine (HTK.out).mono ?_
              rintro e w2 ⟨rfl, h2⟩
              have HRT := Lib.hid (HRT0.out _ h2.rot23)
              obtain ⟨i0, i1, i2, i3, -, -, -, -⟩ := bx_cells (b := b7) h2 (.tail _ (.tail _ (.tail _ (.tail _ (.tail _ (.head _))))))
              clear h2 HTK o0 o1 o2
              go_wp2_with fail
              refine (HRT.out).mono ?_
              rintro e w3 ⟨u1, u2, u3, rfl, h3⟩
              clear HRT i0 i1 i2 i3
              obtain ⟨x1, y1, z1, rfl⟩ : ∃ a1 l1 m1, u1 = .slice a1 l1 m1 := by
                obtain ⟨a1, m1, h⟩ := h3.rowR.slice
                exact ⟨a1, _, m1, h⟩
              obtain ⟨x2, y2, z2, rfl⟩ : ∃ a1 l1 m1, u2 = .slice a1 l1 m1 := by
                obtain ⟨a1, m1, h⟩ := h3.second.rowR.slice
                exact ⟨a1, _, m1, h⟩
              obtain ⟨x3, y3, z3, rfl⟩ : ∃ a1 l1 m1, u3 = .slice a1 l1 m1 := by
                obtain ⟨a1, m1, h⟩ := h3.third.rowR.slice
                exact ⟨a1, _, m1, h⟩
              obtain ⟨wB, w4, hwB, hw4, ⟨c0, c1, c2, c3⟩, ⟨s0, s1, s2, s3, f0, f1, f2, f3⟩, h4⟩ := at_store h3
              have H4 := Lib.hid h4
              clear h3 h4
              go_wp2_with fail
              go_meet
              case rel => exact ⟨N + 1, Y, T, _, _, _, H4.out, HY.out.1, by omega, HY.out.2.1, by rw [← HT.out]; omega, HT64.out⟩
          · have e1 : (kd == 1) = false := by simp [k1]
            obtain ⟨E, hE⟩ : ∃ E, E = gvE X Hh := ⟨_, rfl⟩
            obtain ⟨Y, hY⟩ : ∃ Y, Y = gvA X Hh := ⟨_, rfl⟩
            have HGV := Lib.hid (own_give' Hh HA.out.fifth HOK.out (by omega) hH64 hE.symm hY.symm)
            have HRT0 : Hid (∀ W, Own (RT X (.slice a1 l1 m1) :: RB X (.slice a2 l2 m2) :: RK X (.slice a3 l3 m3) :: Arena p Y :: Row 30 1 (.slice tg t tc) T.length (us T) :: BX b7 (.slice a1 l1 m1) (.slice a2 l2 m2) (.slice a3 l3 m3) (.int .i64 (r : Int)) :: [Old w]) W → Calls Try.prog 24 #[.agg #[.slice a1 l1 m1, .slice a2 l2 m2, .slice a3 l3 m3, .int .i64 (r : Int)], .int .u64 (Hh : Int)] W fun e w' => ∃ u1 u2 u3, e = .returned (.tuple #[.agg #[u1, u2, u3, .int .i64 (r : Int)], .int .i64 E]) ∧ Own (RT Y u1 :: RB Y u2 :: RK Y u3 :: Arena p Y :: Row 30 1 (.slice tg t tc) T.length (us T) :: BX b7 (.slice a1 l1 m1) (.slice a2 l2 m2) (.slice a3 l3 m3) (.int .i64 (r : Int)) :: [Old w]) w') := Lib.hid (fun W hW => by
              have hc := rgive_any hW HOK.out (by omega) Hh
              rw [room_gv, ← hE, ← hY, HRM.out] at hc
              exact hc)
            have HY : Hid (Ok (N + 1) Y ∧ Y.room = r) := Lib.hid ⟨by rw [hY]; exact gvA_ok HOK.out Hh, by rw [hY, room_gv]; exact HRM.out⟩
            have ee : (E != E) = false := by simp
            clear k1 hE hY
            by_cases k2 : kd = 2
            · have e2 : (kd == 2) = true := by simp [k2]
              clear k2
              as_aux_lemma =>
              go_wp2_with fail
              refine (HGV.out).mono ?_
              rintro e w2 ⟨rfl, h2⟩
              have HRT := Lib.hid (HRT0.out _ h2.rot23)
              obtain ⟨i0, i1, i2, i3, -, -, -, -⟩ := bx_cells (b := b7) h2 (.tail _ (.tail _ (.tail _ (.tail _ (.tail _ (.head _))))))
              clear h2 HGV o0 o1 o2
              go_wp2_with fail
              refine (HRT.out).mono ?_
              rintro e w3 ⟨u1, u2, u3, rfl, h3⟩
              clear HRT i0 i1 i2 i3
              obtain ⟨x1, y1, z1, rfl⟩ : ∃ a1 l1 m1, u1 = .slice a1 l1 m1 := by
                obtain ⟨a1, m1, h⟩ := h3.rowR.slice
                exact ⟨a1, _, m1, h⟩
              obtain ⟨x2, y2, z2, rfl⟩ : ∃ a1 l1 m1, u2 = .slice a1 l1 m1 := by
                obtain ⟨a1, m1, h⟩ := h3.second.rowR.slice
                exact ⟨a1, _, m1, h⟩
              obtain ⟨x3, y3, z3, rfl⟩ : ∃ a1 l1 m1, u3 = .slice a1 l1 m1 := by
                obtain ⟨a1, m1, h⟩ := h3.third.rowR.slice
                exact ⟨a1, _, m1, h⟩
              obtain ⟨wB, w4, hwB, hw4, ⟨c0, c1, c2, c3⟩, ⟨s0, s1, s2, s3, f0, f1, f2, f3⟩, h4⟩ := at_store h3
              have H4 := Lib.hid h4
              clear h3 h4
              go_wp2_with fail
              go_meet
              case rel => exact ⟨N + 1, Y, T, _, _, _, H4.out, HY.out.1, by omega, HY.out.2, by rw [← HT.out]; omega, HT64.out⟩
            · have e2 : (kd == 2) = false := by simp [k2]
              by_cases k3 : kd = 3
              · have e3 : (kd == 3) = true := by simp [k3]
                clear k2 k3
                as_aux_lemma =>
                go_wp2_with fail
                refine (HGV.out).mono ?_
                rintro e w2 ⟨rfl, h2⟩
                have HRT := Lib.hid (HRT0.out _ h2.rot23)
                obtain ⟨i0, i1, i2, i3, -, -, -, -⟩ := bx_cells (b := b7) h2 (.tail _ (.tail _ (.tail _ (.tail _ (.tail _ (.head _))))))
                clear h2 HGV o0 o1 o2
                go_wp2_with fail
                refine (HRT.out).mono ?_
                rintro e w3 ⟨u1, u2, u3, rfl, h3⟩
                clear HRT i0 i1 i2 i3
                obtain ⟨x1, y1, z1, rfl⟩ : ∃ a1 l1 m1, u1 = .slice a1 l1 m1 := by
                  obtain ⟨a1, m1, h⟩ := h3.rowR.slice
                  exact ⟨a1, _, m1, h⟩
                obtain ⟨x2, y2, z2, rfl⟩ : ∃ a1 l1 m1, u2 = .slice a1 l1 m1 := by
                  obtain ⟨a1, m1, h⟩ := h3.second.rowR.slice
                  exact ⟨a1, _, m1, h⟩
                obtain ⟨x3, y3, z3, rfl⟩ : ∃ a1 l1 m1, u3 = .slice a1 l1 m1 := by
                  obtain ⟨a1, m1, h⟩ := h3.third.rowR.slice
                  exact ⟨a1, _, m1, h⟩
                obtain ⟨wB, w4, hwB, hw4, ⟨c0, c1, c2, c3⟩, ⟨s0, s1, s2, s3, f0, f1, f2, f3⟩, h4⟩ := at_store h3
                have H4 := Lib.hid h4
                clear h3 h4
                go_wp2_with fail
                go_meet
                case rel => exact ⟨N + 1, Y, T, _, _, _, H4.out, HY.out.1, by omega, HY.out.2, by rw [← HT.out]; omega, HT64.out⟩
              · have e3 : (kd == 3) = false := by simp [k3]
                clear k2 k3 HGV HRT0
                as_aux_lemma =>
                go_wp2_with fail
                go_meet
                case rel => exact ⟨N, X, T, _, _, _, HA.out, HOK.out, by omega, HRM.out, by rw [← HT.out]; omega, HT64.out⟩
        case rest =>
          clear HA HOK HRM HT64 HT o0 o1 o2
          obtain ⟨N', X', T', v1, v2, v3, h, hok, hNk', hrm, hTk, hT64⟩ := hcut
          obtain ⟨tg', tc', rfl⟩ := own_slice h.row
          obtain ⟨x1, l1', y1, rfl⟩ : ∃ a1 l1 m1, v1 = .slice a1 l1 m1 := by
            obtain ⟨a1, m1, h⟩ := h.second.rowR.slice
            exact ⟨a1, _, m1, h⟩
          obtain ⟨x2, l2', y2, rfl⟩ : ∃ a1 l1 m1, v2 = .slice a1 l1 m1 := by
            obtain ⟨a1, m1, h⟩ := h.third.rowR.slice
            exact ⟨a1, _, m1, h⟩
          obtain ⟨x3, l3', y3, rfl⟩ : ∃ a1 l1 m1, v3 = .slice a1 l1 m1 := by
            obtain ⟨a1, m1, h⟩ := h.fourth.rowR.slice
            exact ⟨a1, _, m1, h⟩
          obtain ⟨t', ht'⟩ : ∃ t, t = T'.length := ⟨_, rfl⟩
          have HT := Lib.hid ht'
          rw [← ht'] at hTk
          rw [← ht'] at h
          rw [← ht']
          have H := Lib.hid h
          have HOK := Lib.hid hok
          have HRM := Lib.hid hrm
          have HT64 := Lib.hid hT64
          have HHN : Hid (∀ W (q : Int), Own (AL w p r b7 X' T' (.slice tg' t' tc') (.slice x1 l1' y1) (.slice x2 l2' y2) (.slice x3 l3' y3)) W → Calls Try.prog 25 #[.agg #[.slice x1 l1' y1, .slice x2 l2' y2, .slice x3 l3' y3, .int .i64 (r : Int)], .int .i64 q] W fun e w' => e = .returned (.tuple #[.int .u64 (hv X' q), .bool (hb X' q)]) ∧ Ext W w') := Lib.hid (fun W q hW => by
            have hc := rhandle_any (ref_of hW.drop) HOK.out (by omega) q
            rw [HRM.out] at hc
            exact hc)
          have HPL : Hid (∀ W (x : Nat), Own (AL w p r b7 X' T' (.slice tg' t' tc') (.slice x1 l1' y1) (.slice x2 l2' y2) (.slice x3 l3' y3)) W → Calls Try.prog 26 #[.agg #[.slice x1 l1' y1, .slice x2 l2' y2, .slice x3 l3' y3, .int .i64 (r : Int)], .int .u64 (x : Int)] W fun e w' => e = .returned (.tuple #[.int .i64 (pv X' x), .bool (pb X' x)]) ∧ Ext W w') := Lib.hid (fun W x hW => by
            have hc := rplace_any (ref_of hW.drop) HOK.out (by omega) x
            rw [HRM.out] at hc
            exact hc)
          have HUS : Hid (∀ W, Own (AL w p r b7 X' T' (.slice tg' t' tc') (.slice x1 l1' y1) (.slice x2 l2' y2) (.slice x3 l3' y3)) W → Calls Try.prog 27 #[.agg #[.slice x1 l1' y1, .slice x2 l2' y2, .slice x3 l3' y3, .int .i64 (r : Int)]] W fun e w' => e = .returned (.int .i64 X'.used) ∧ Ext W w') := Lib.hid (fun W hW => by
            have hc := rused_any (ref_of hW.drop) HOK.out
            rw [HRM.out] at hc
            exact hc)
          clear h hok hrm hT64 ht'
          go_wp2_with fail
          go_loopw [21] (fun v21 wr => ∃ j : Nat, v21 = .int .i64 ((j : Int) - 1) ∧ j ≤ r + 2 ∧ Own (AL w p r b7 X' T' (.slice tg' t' tc') (.slice x1 l1' y1) (.slice x2 l2' y2) (.slice x3 l3' y3)) wr) (fun v21 _ => (r + 1 - intOf v21).toNat)
          case atStart => exact ⟨0, rfl, Nat.zero_le _, H.out⟩
          case round =>
            clear H
            obtain ⟨j, rfl, hj, hO⟩ := hrel
            have HOO := Lib.hid hO
            by_cases hjr : j ≤ r + 1
            · have hjI : (j : Int) - 1 ≤ (r : Int) := by omega
              obtain ⟨z, hz⟩ : ∃ z : Int, z = hv X' ((j : Int) - 1) := ⟨_, rfl⟩
              obtain ⟨y, hy⟩ : ∃ y, y = hb X' ((j : Int) - 1) := ⟨_, rfl⟩
              have HC1 := Lib.hid (own_handle' ((j : Int) - 1) hO.fifth HOK.out (by omega) hz.symm hy.symm)
              have HC2 := Lib.hid (HHN.out wr ((j : Int) - 1) hO)
              rw [← hz, ← hy] at HC2
              have zz : (z != z) = false := by simp
              have yy : (y != y) = false := by simp
              obtain ⟨c0, c1, c2, c3, -, -, -, -⟩ := bx_cells (b := b7) hO (.tail _ (.tail _ (.tail _ (.tail _ (.tail _ (.head _))))))
              obtain ⟨q, hq⟩ : ∃ q : Int, q = (j : Int) - 1 := ⟨_, rfl⟩
              rw [← hq] at HC1 HC2 hjI ⊢
              have hq1 : q + 1 = ((j + 1 : Nat) : Int) - 1 := by omega
              have hq0 : -1 ≤ q := by omega
              have HQ1 := Lib.hid hq1
              have HQ := Lib.hid hq
              clear hO hz hy hq hq1
              go_wp2_with fail
              refine (HC1.out).mono ?_
              rintro e w2 ⟨rfl, rfl⟩
              go_wp2_with fail
              refine (HC2.out).mono ?_
              rintro e w2 ⟨rfl, hx2⟩
              have H2 := Lib.hid (HOO.out.step hx2)
              clear hx2 c0 c1 c2 c3
              go_wp2_with fail
              exact ⟨⟨j + 1, by rw [← HQ1.out], by omega, H2.out⟩, by simp only [intOf]; have := HQ.out; omega⟩
            · obtain rfl : j = r + 2 := by omega
              obtain ⟨H2, hH2⟩ : ∃ H2 : Nat, H2 = (Hh + 4294967296) % 18446744073709551616 := ⟨_, rfl⟩
              have hH2b : H2 < 18446744073709551616 := by rw [hH2]; exact Nat.mod_lt _ (by omega)
              have hw1 : IntKind.u64.wrap ((Hh : Int) + 4294967296) = (H2 : Int) := by rw [IntKind.wrap_u64, hH2]; omega
              have hw2 : ((Hh : Int) + 4294967296) % 18446744073709551616 = (H2 : Int) := by rw [hH2]; omega
              have hgr : (r : Int) < ((r + 2 : Nat) : Int) - 1 := by omega
              obtain ⟨q, hq⟩ : ∃ q : Int, q = ((r + 2 : Nat) : Int) - 1 := ⟨_, rfl⟩
              rw [← hq] at hgr ⊢
              have HB := Lib.hid (Own.builtNew 30 [.int .u64 (Hh : Int), .int .u64 (H2 : Int), .int .u64 0] (by simp [maxLen]) hO)
              have HU1 := Lib.hid (us_one T')
              have HUL := Lib.hid (show [Value.int .u64 (Hh : Int), .int .u64 (H2 : Int), .int .u64 0] ++ us T' = us (Hh :: H2 :: 0 :: T') from rfl)
              clear hO hq hH2 hjr hj
              obtain ⟨n8, hn8⟩ : ∃ n8, n8 = 3 + t' := ⟨_, rfl⟩
              have HN8 := Lib.hid hn8
              have M1 : Hid (3 + t' ≤ maxLen) := Lib.hid (by simp only [maxLen]; omega)
              have M2 : Hid ((3 + t') * 8 ≤ 140737488355328) := Lib.hid (by omega)
              have hn63 : n8 ≤ 100 := by omega
              have hn80 : 0 < n8 := by omega
              clear hn8
              go_wp2_with (at_builtin; refine app_RR _ rfl _ _ _ _ _ 1 8 rfl Try.underlying24 info30 rfl (by omega) (.slice (some ⟨wr.heap.size, 0, none⟩) 3 3) 3 [.int .u64 (Hh : Int), .int .u64 (H2 : Int), .int .u64 0] rfl (HB.out.rowR) (.slice tg' t' tc') t' (us T') rfl (by have h := ownsR_of HB.out.second.row; rw [← HT.out] at h; exact h) HU1.out M1.out M2.out ?_; intro v9 w9 hown hgrow hmv; have h9 := HB.out.rowRGrown hown rfl hgrow hmv; rw [HUL.out, ← HN8.out] at h9; obtain ⟨gg, gc, rfl, hgc, -⟩ := h9.rowR.form hn80; have H9 := Lib.hid h9; clear hown hgrow hmv h9)
              go_loopw [163] (fun v163 wr => ∃ j : Nat, v163 = .int .i64 (j : Int) ∧ j ≤ n8 ∧ Own (RowR 30 1 (.slice (some ⟨gg, 0, none⟩) n8 gc) n8 (us (Hh :: H2 :: 0 :: T')) :: AL w p r b7 X' T' (.slice tg' t' tc') (.slice x1 l1' y1) (.slice x2 l2' y2) (.slice x3 l3' y3)) wr) (fun v163 _ => n8 - (intOf v163).toNat)
              case atStart => exact ⟨0, rfl, Nat.zero_le _, H9.out⟩
              case round =>
                clear H9 HB
                obtain ⟨j, rfl, hj, hO⟩ := hrel
                have HOO := Lib.hid hO
                by_cases hjn : j < n8
                · have hjI : (j : Int) < (n8 : Int) := by omega
                  have hlen : (Hh :: H2 :: 0 :: T').length = n8 := by rw [HN8.out, HT.out]; simp; omega
                  obtain ⟨x, hx⟩ : ∃ x, x = (Hh :: H2 :: 0 :: T').getD j 0 := ⟨_, rfl⟩
                  have hx64 : x < 18446744073709551616 := by
                    have hj' : j < (Hh :: H2 :: 0 :: T').length := by omega
                    have hm : x ∈ (Hh :: H2 :: 0 :: T') := by rw [hx, List.getD_eq_getElem?_getD, List.getElem?_eq_getElem hj', Option.getD_some]; exact List.getElem_mem hj'
                    rcases List.mem_cons.1 hm with h | hm
                    · omega
                    rcases List.mem_cons.1 hm with h | hm
                    · omega
                    rcases List.mem_cons.1 hm with h | hm
                    · omega
                    exact HT64.out x hm
                  have hcx := (hO.rowR.cells rfl j _ (us_at (Hh :: H2 :: 0 :: T') j (by omega))).1
                  rw [← hx] at hcx
                  obtain ⟨z, hz⟩ : ∃ z : Int, z = pv X' (x : Int) := ⟨_, rfl⟩
                  obtain ⟨y, hy⟩ : ∃ y, y = pb X' (x : Int) := ⟨_, rfl⟩
                  have HC1 := Lib.hid (own_place' x (Own.sixth6 hO) HOK.out (by omega) hx64 hz.symm hy.symm)
                  have HC2 := Lib.hid (HPL.out wr x hO.drop)
                  rw [← hz, ← hy] at HC2
                  have zz : (z != z) = false := by simp
                  have yy : (y != y) = false := by simp
                  obtain ⟨c0, c1, c2, c3, -, -, -, -⟩ := bx_cells (b := b7) hO (.tail _ (.tail _ (.tail _ (.tail _ (.tail _ (.tail _ (.head _)))))))
                  clear hO hz hy hx hlen
                  go_wp2_with fail
                  refine (HC1.out).mono ?_
                  rintro e w2 ⟨rfl, rfl⟩
                  go_wp2_with fail
                  refine (HC2.out).mono ?_
                  rintro e w2 ⟨rfl, hx2⟩
                  have H2' := Lib.hid (HOO.out.step hx2)
                  clear hx2 c0 c1 c2 c3 hcx
                  go_wp2_with fail
                  exact ⟨⟨j + 1, by go_num, by omega, H2'.out⟩, by simp only [intOf]; omega⟩
                · obtain rfl : j = n8 := by omega
                  have hw := hO.drop
                  obtain ⟨c0, c1, c2, c3, -, -, -, -⟩ := bx_cells (b := b7) hw (.tail _ (.tail _ (.tail _ (.tail _ (.tail _ (.head _))))))
                  obtain ⟨U, hU⟩ : ∃ U, U = X'.used := ⟨_, rfl⟩
                  have HU := Lib.hid hU
                  have uu : ((U : Int) != (U : Int)) = false := by simp
                  have rr : ((r : Int) != (r : Int)) = false := by simp
                  rw [← hU] at HUS
                  clear hO hU HOO
                  go_wp2_with fail
                  go_region_held3 (fun w' => Own (AL w p r b7 X' T' (.slice tg' t' tc') (.slice x1 l1' y1) (.slice x2 l2' y2) (.slice x3 l3' y3)) w' ∧ w'.cell? ⟨b7, 0, none⟩ = some (.slice x1 l1' y1) ∧ w'.cell? ⟨b7, 1, none⟩ = some (.slice x2 l2' y2) ∧ w'.cell? ⟨b7, 2, none⟩ = some (.slice x3 l3' y3) ∧ w'.cell? ⟨b7, 3, none⟩ = some (.int .i64 (r : Int)))
                    (first | exact ⟨hw.step (Ext.refl _).drew, (Ext.refl _).drew.cell c0, (Ext.refl _).drew.cell c1, (Ext.refl _).drew.cell c2, (Ext.refl _).drew.cell c3⟩ | (refine ⟨?_, ?_, ?_, ?_, ?_⟩ <;> assumption))
                    (first
                      | (go_at_call 17; go_split_ands; refine (own_used' (Own.fifth (show Own (AL w p r b7 X' T' (.slice tg' t' tc') (.slice x1 l1' y1) (.slice x2 l2' y2) (.slice x3 l3' y3)) _ by assumption)) HOK.out HU.out.symm).mono ?_; rintro e w2 ⟨rfl, rfl⟩)
                      | (go_at_call 28; go_split_ands; refine (own_room (Own.fifth (show Own (AL w p r b7 X' T' (.slice tg' t' tc') (.slice x1 l1' y1) (.slice x2 l2' y2) (.slice x3 l3' y3)) _ by assumption)) HOK.out).mono ?_; rw [HRM.out]; rintro e w2 ⟨rfl, rfl⟩)
                      | (go_at_call 27; go_split_ands; refine (HUS.out _ (show Own (AL w p r b7 X' T' (.slice tg' t' tc') (.slice x1 l1' y1) (.slice x2 l2' y2) (.slice x3 l3' y3)) _ by assumption)).mono ?_; rintro e w2 ⟨rfl, hx2⟩; have hz := Own.step (show Own (AL w p r b7 X' T' (.slice tg' t' tc') (.slice x1 l1' y1) (.slice x2 l2' y2) (.slice x3 l3' y3)) _ by assumption) hx2; obtain ⟨c0, c1, c2, c3, -, -, -, -⟩ := bx_cells (b := b7) hz (.tail _ (.tail _ (.tail _ (.tail _ (.tail _ (.head _))))))))
                  all_goals go_split_ands
                  all_goals have HZ := Lib.hid (show Own (AL w p r b7 X' T' (.slice tg' t' tc') (.slice x1 l1' y1) (.slice x2 l2' y2) (.slice x3 l3' y3)) _ by assumption)
                  all_goals go_wp2_with fail
                  all_goals exact ⟨⟨k + 1, by go_num, by omega, N', X', T', _, _, _, HZ.out, HOK.out, hNk', HRM.out, by rw [← HT.out]; exact hTk, HT64.out⟩, by simp only [intOf]; omega⟩
    · obtain rfl : k = n := by omega
      have H := Lib.hid h
      clear h hok hrm hT64 hTk hlt hk
      go_wp2_with fail
      refine (awake_any H.out).mono ?_
      rintro e w8 ⟨rfl, h8⟩
      have H8 := Lib.hid h8
      clear h8 H
      go_wp2_with fail
      go_ret
      exact ⟨rfl, H8.out.ext (by simp)⟩
set_option maxHeartbeats 1000000 in
theorem atells_of (room : Int) (v : Value) (L : List Op) (wf : (Lit.int .i64 room).wf = true) (w : World) (ho : Ops w v L) :
    Calls Try.prog 5 #[.int .i64 room, v] w fun e w' => e = .returned (.bool true) ∧ Ext w w' := by
  obtain ⟨i0, i1⟩ := i64_bd wf
  by_cases hb : room < 1 ∨ 65536 < room
  · have HNW := Lib.hid (new_not room hb w)
    have HR0 := Lib.hid (rnew_any room (Own.start w))
    rw [show (decide (1 ≤ room ∧ room ≤ 65536)) = false from decide_eq_false (by omega)] at HR0
    obtain ⟨a, cap, rfl, q1, q2, q3⟩ := ho
    clear q3 q1 q2 wf hb
    go_enter Try.func5, Try.ntmps5
    go_wp2_with fail
    refine (HNW.out).mono ?_
    rintro e w1 ⟨rfl, rfl⟩
    go_wp2_with fail
    refine (HR0.out).mono ?_
    rintro e w2 ⟨rfl, h2⟩
    have H2 := Lib.hid (h2.step ((Ext.refl w2).alloc (.cells #[.slice none 0 0, .slice none 0 0, .slice none 0 0, .int .i64 room] 48)))
    clear h2 HNW HR0
    go_wp2_with fail
    refine (awake_any H2.out).mono ?_
    rintro e w8 ⟨rfl, h8⟩
    have H8 := Lib.hid h8
    clear h8 H2
    go_wp2_with fail
    go_ret
    exact ⟨rfl, H8.out.ext (by simp)⟩
  · obtain ⟨r, rfl⟩ := Int.eq_ofNat_of_zero_le (show 0 ≤ room by omega)
    by_cases hbig : 40 < r ∨ 60 < L.length
    · have H0 := Lib.hid (Own.start w)
      obtain ⟨a, cap, rfl, q1, q2, q3⟩ := ho
      obtain ⟨n, hN⟩ : ∃ n, n = L.length := ⟨_, rfl⟩
      rw [← hN] at hbig ⊢
      have g1 : (1 : Int) ≤ (r : Int) := by omega
      have g2 : (r : Int) ≤ 65536 := by omega
      clear q3 q1 q2 wf hN
      by_cases h1 : 40 < r
      · have g3 : (40 : Int) < (r : Int) := by omega
        clear hbig
        go_enter Try.func5, Try.ntmps5
        go_wp2_with fail
        refine (own_new r (by omega) (by omega) H0.out).mono ?_
        rintro e w1 ⟨p, rfl, h1, -⟩
        have HR0 := Lib.hid (rnew_any (r : Int) h1)
        rw [show (decide (1 ≤ (r : Int) ∧ (r : Int) ≤ 65536)) = true from decide_eq_true ⟨g1, g2⟩] at HR0
        clear h1 H0
        go_wp2_with fail
        refine (HR0.out).mono ?_
        rintro e w2 ⟨rfl, h2⟩
        have H2 := Lib.hid (h2.step ((Ext.refl w2).alloc (.cells #[.slice none 0 0, .slice none 0 0, .slice none 0 0, .int .i64 (r : Int)] 48)))
        clear h2 HR0
        go_wp2_with fail
        refine (awake_any H2.out).mono ?_
        rintro e w8 ⟨rfl, h8⟩
        have H8 := Lib.hid h8
        clear h8 H2
        go_wp2_with fail
        go_ret
        exact ⟨rfl, H8.out.ext (by simp)⟩
      · have g3 : (r : Int) ≤ 40 := by omega
        have g4 : (60 : Int) < (n : Int) := by omega
        clear hbig
        go_enter Try.func5, Try.ntmps5
        go_wp2_with fail
        refine (own_new r (by omega) (by omega) H0.out).mono ?_
        rintro e w1 ⟨p, rfl, h1, -⟩
        have HR0 := Lib.hid (rnew_any (r : Int) h1)
        rw [show (decide (1 ≤ (r : Int) ∧ (r : Int) ≤ 65536)) = true from decide_eq_true ⟨g1, g2⟩] at HR0
        clear h1 H0
        go_wp2_with fail
        refine (HR0.out).mono ?_
        rintro e w2 ⟨rfl, h2⟩
        have H2 := Lib.hid (h2.step ((Ext.refl w2).alloc (.cells #[.slice none 0 0, .slice none 0 0, .slice none 0 0, .int .i64 (r : Int)] 48)))
        clear h2 HR0
        go_wp2_with fail
        refine (awake_any H2.out).mono ?_
        rintro e w8 ⟨rfl, h8⟩
        have H8 := Lib.hid h8
        clear h8 H2
        go_wp2_with fail
        go_ret
        exact ⟨rfl, H8.out.ext (by simp)⟩
    · exact atells_main r v L w ho (by omega) (by omega) (by omega)
end Go.Proofs.Ytekdgghekdajbaa.Ar
