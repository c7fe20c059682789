/- DERIVED. Layer 10 (store): the law StoreTells. Written by wip/mkstv.py. -/
import Derived.Test.YtekdgghekdajbaaStU
import Derived.Deep.DeepCutAuto
import Derived.Deep.CutBlock
set_option linter.unusedVariables false
set_option linter.unusedSimpArgs false
set_option maxRecDepth 100000
namespace Go.Proofs.Ytekdgghekdajbaa.St
open Go.RowKit Go.Proofs.Ytekdgghekdajbaa Go.Proofs.Ytekdgghekdajbaa.Ar

section
variable {P : Program} {ops : Array Oper} {rest : List Oper} {o : Oper} {a : Act} {Q : Exit → Act → World → Prop}
/-- append of a whole slice of the call's own -/
theorem app_RR (w : World) (hgd : o.guard = none) (s x : Operand) (t e : TypeId) (z : Value) (size bytes : Nat)
    (ho : o.op = .call { callee := .builtin .append, args := #[s, x], argTypes := #[t, t] })
    (ht : P.underlying t = some (.slice e)) (hinfo : (P.info? e).map (fun i => (i.zero, i.size, i.bytes)) = some (some z, size, bytes)) (hz : z.cells.size = size) (hs0 : 0 < size)
    (v1 : Value) (n : Nat) (xs : List Value) (hs : a.eval s = v1) (HO : ownsR w e size v1 n xs) (v2 : Value) (m : Nat) (ys : List Value) (hx : a.eval x = v2) (hv : ownsR w e size v2 m ys) (h1 : ∀ u ∈ ys, u.oneCell' = true)
    (hl : n + m ≤ maxLen) (hl2 : (n + m) * bytes ≤ 140737488355328)
    (h : ∀ v3 w1, ownsR w1 e size v3 (n + m) (xs ++ ys) → w.grownBy w1 v1.ownBlock → Moved w v1 v3 → wpList P ops Q rest (a.put o.dst v3) w1) :
    wpList P ops Q (o :: rest) a w := by
  have hv' := hv
  rcases hv.2 with ⟨rfl, rfl⟩ | ⟨g, cap, cur, rfl, hg, hnc, hcm, hcs, htake⟩
  · have hys : ys = [] := List.eq_nil_of_length_eq_zero (by simpa using hv.1)
    subst hys
    refine app_nil w hgd s x t e z size bytes ho ht hinfo _ n xs hs hx HO (h _ _ ?_ ⟨rfl, rfl, rfl, Nat.le_refl _, fun _ _ _ => rfl⟩ (.inl rfl))
    rw [List.append_nil, Nat.add_zero]
    exact HO
  · exact app_R w hgd s x t e z size bytes ho ht hinfo hz hs0 _ n xs hs ⟨g, 0, none⟩ m cap ys hx hv.1 (fun j u hj => by rw [add_plain]; exact (hv'.cells rfl j u hj).1) h1 HO hl hl2 h
end
theorem builtNew (e : TypeId) (xs : List Value) {l : List HP} {w : World} (hn : xs.length ≤ maxLen) (h : Own l w) : Own (RowR e 1 (.slice (some ⟨w.heap.size, 0, none⟩) xs.length xs.length) xs.length xs :: l) (w.alloc (.cells xs.toArray e)) :=
  h.new ((Ext.refl w).alloc _) (P := RowR e 1 (.slice (some ⟨w.heap.size, 0, none⟩) xs.length xs.length) xs.length xs) (s := fun b => b = w.heap.size)
    ⟨⟨by simp, .inr ⟨w.heap.size, xs.length, xs.toArray, rfl, heap_alloc_new w _, Nat.le_refl _, hn, by simp, by simp⟩⟩, fun b => by simp [Value.ownBlock, eq_comm]⟩ (fun b hb => by rw [hb]; exact Nat.le_refl _)
theorem us_one (l : List Nat) : ∀ u ∈ us l, u.oneCell' = true := by
  intro u hu
  obtain ⟨s, _, rfl⟩ := List.mem_map.1 hu
  rfl
/-- what is owned, in another order, by places: all by the kernel -/
theorem re2 {L L' : List HP} {w : World} (n : Nat) (is : List Nat) (hp : is.isPerm (List.range (L.take n).length) = true) (e : is.filterMap (fun i => (L.take n)[i]?) ++ L.drop n = L') (h : Own L w) : Own L' w := e ▸ Own.re n is hp h
abbrev TR (tv : Value) (t : Nat) (T : List Nat) : HP := Row 30 1 tv t (us T)
abbrev AL (w0 : World) (p r b7 N : Nat) (X : A) (E : List HE) (nx : Int) (T : List Nat) (tv v1 v2 v3 vL : Value) : List HP := [TR tv T.length T, StoP p N X E nx, RT X v1, RB X v2, RK X v3, DH vL E.length E, BS b7 v1 v2 v3 (r : Int) vL nx, Old w0]
def AI (w0 : World) (p r b7 M : Nat) (tv : Value) (wx : World) : Prop :=
  ∃ (N : Nat) (X : A) (E : List HE) (nx : Int) (T : List Nat) (v1 v2 v3 vL : Value), Own (AL w0 p r b7 N X E nx T tv v1 v2 v3 vL) wx ∧ N ≤ M ∧ X.room = r ∧ T.length ≤ M ∧ (∀ x ∈ T, x < 18446744073709551616) ∧ 0 ≤ nx ∧ nx ≤ (M : Int) + 1
abbrev BO (b : Nat) (kd ck cc cl cp ca : Int) (hw : Nat) (on : Int) : HP := Go.Proofs.Ytekdgghekdajbaa.Blk b #[.int .u8 kd, .int .u64 ck, .int .u64 cc, .int .i64 cl, .int .u8 cp, .int .u64 ca, .int .u64 (hw : Int), .int .i64 on] 83
theorem bo_cells {b : Nat} {kd ck cc cl cp ca on : Int} {hw : Nat} {l : List HP} {w : World} (h : Own l w) (hm : BO b kd ck cc cl cp ca hw on ∈ l) :
    w.cell? ⟨b, 0, none⟩ = some (.int .u8 kd) ∧ w.cell? ⟨b, 1, none⟩ = some (.int .u64 ck) ∧ w.cell? ⟨b, 2, none⟩ = some (.int .u64 cc) ∧ w.cell? ⟨b, 3, none⟩ = some (.int .i64 cl) ∧ w.cell? ⟨b, 4, none⟩ = some (.int .u8 cp) ∧ w.cell? ⟨b, 5, none⟩ = some (.int .u64 ca) ∧ w.cell? ⟨b, 6, none⟩ = some (.int .u64 (hw : Int)) ∧ w.cell? ⟨b, 7, none⟩ = some (.int .i64 on) := by
  have := Go.Proofs.Ytekdgghekdajbaa.Own.blk h hm
  simp [World.cell?, this]
theorem sl {v : Value} {n : Nat} (h : ∃ a c, v = Value.slice a n c) : ∃ a l m, v = Value.slice a l m := by
  obtain ⟨a, c, h⟩ := h
  exact ⟨a, _, c, h⟩
/-- the law's round -/
def ALI (w0 : World) (p r b7 n : Nat) (tv vi : Value) (wr : World) : Prop := ∃ k : Nat, vi = .int .i64 (k : Int) ∧ k ≤ n ∧ AI w0 p r b7 k tv wr

set_option maxHeartbeats 16000000 in
theorem stells_main (r : Nat) (v : Value) (m : Nat) (f : Nat → SOp) (w : World) (ho : Ops w v m f) (r1 : 1 ≤ r) (r2 : r ≤ 40) (hm : m ≤ 60) :
    Calls Try.prog 9 #[.int .i64 (r : Int), v] w fun e w' => e = .returned (.bool true) ∧ Ext w w' := by
  obtain ⟨hs, a, cap, rfl, q1, q2, q3⟩ := ho
  have Q3 := Lib.hid q3
  have HS := Lib.hid hs
  unfold maxLen at q2
  have HNW := Lib.hid (ste_new r r1 (by omega) (Own.start w))
  have HRN : Hid (∀ l W, Own l W → Calls Try.prog 35 #[.int .i64 (r : Int)] W fun e w' => e = .returned (.tuple #[.agg #[nilv, nilv, nilv, .int .i64 (r : Int), nilv, .int .u64 1], .bool true]) ∧ Own l w') := Lib.hid fun l W h => by
    have := rsnew_any (r : Int) h
    rw [show (decide (1 ≤ (r : Int) ∧ (r : Int) ≤ 65536)) = true from decide_eq_true (by omega)] at this
    exact this
  have g3 : (r : Int) ≤ 40 := by omega
  have g4 : (m : Int) ≤ 60 := by omega
  have g5 : (m : Int) ≤ (cap : Int) := by omega
  clear q3 hs
  go_enter Try.func9, Try.ntmps9
  go_wp2_with fail
  (with_reducible refine (HNW.out).mono ?_)
  rintro e w1 ⟨p, rfl, h1⟩
  have H1 := Lib.hid (sto_shut h1)
  clear h1 HNW
  go_wp2_with fail
  (with_reducible refine (HRN.out _ _ H1.out).mono ?_)
  rintro e w2 ⟨rfl, h2⟩
  obtain ⟨b7, hb7⟩ : ∃ b, w2.heap.size = b := ⟨_, rfl⟩
  obtain ⟨W3, hW3, -, h3⟩ := boxN h2 hb7 #[nilv, nilv, nilv, .int .i64 (r : Int), nilv, .int .u64 1] 79
  have h4 := Own.nilRow 30 1 (rfresh r (Own.nilRowR 106 8 h3))
  have HT : Hid (AI w p r b7 0 nilv W3) := Lib.hid ⟨0, fresh r, [], 1, [], nilv, nilv, nilv, nilv, Own.re 7 [0, 6, 1, 2, 3, 4, 5] rfl h4, Nat.le_refl _, rfl, Nat.le_refl _, by simp, by omega, by omega⟩
  have HB7 := Lib.hid hb7
  have HW3 := Lib.hid hW3
  clear h2 h3 h4 hb7 hW3 HRN H1
  go_upto_region 3 with fail
  rw [HB7.out, HW3.out]
  clear HB7 HW3
  go_wp2_with fail
  go_loopw [9, 69] (fun tv vi wr => ALI w p r b7 m tv vi wr) (fun _ vi _ => m - (intOf vi).toNat)
  case atStart => exact ⟨0, rfl, Nat.zero_le _, HT.out⟩
  case round =>
    clear HT
    obtain ⟨k, rfl, hk, N, X, E, nx, T, v1, v2, v3, vL, h, hNk, hrm, hTk, hT64, hn0, hn1⟩ := hrel
    obtain ⟨tg, tc, rfl⟩ := own_slice h.row
    by_cases hlt : k < m
    · have hltI : (k : Int) < (m : Int) := by omega
      obtain ⟨b2, off, rfl, hb2, hcell⟩ := Q3.out (by omega)
      have hx := h.ext (w0 := w) (by simp)
      have h64 := HS.out k hlt
      obtain ⟨o, ho⟩ : ∃ o, o = f k := ⟨_, rfl⟩
      rw [← ho] at h64
      have hcc : ∀ c, c < 8 → wr.cell? ⟨b2, off + k * 8 + c, none⟩ = some (oc o c) := fun c hc => by rw [ho]; exact hx.cell (hcell k c hlt hc)
      obtain ⟨kd, ck, cc, cl, cp, ca, hw, on⟩ := o
      simp only at h64
      have x0 : wr.cell? ⟨b2, off + k * 8, none⟩ = some (.int .u8 kd) := hcc 0 (by omega)
      have x1 : wr.cell? ⟨b2, off + k * 8 + 1, none⟩ = some (.int .u64 ck) := hcc 1 (by omega)
      have x2 : wr.cell? ⟨b2, off + k * 8 + 2, none⟩ = some (.int .u64 cc) := hcc 2 (by omega)
      have x3 : wr.cell? ⟨b2, off + k * 8 + 3, none⟩ = some (.int .i64 cl) := hcc 3 (by omega)
      have x4 : wr.cell? ⟨b2, off + k * 8 + 4, none⟩ = some (.int .u8 cp) := hcc 4 (by omega)
      have x5 : wr.cell? ⟨b2, off + k * 8 + 5, none⟩ = some (.int .u64 ca) := hcc 5 (by omega)
      have x6 : wr.cell? ⟨b2, off + k * 8 + 6, none⟩ = some (.int .u64 (hw : Int)) := hcc 6 (by omega)
      have x7 : wr.cell? ⟨b2, off + k * 8 + 7, none⟩ = some (.int .i64 on) := hcc 7 (by omega)
      obtain ⟨b11, hb11⟩ : ∃ b, wr.heap.size = b := ⟨_, rfl⟩
      obtain ⟨W, hW, -, hA⟩ := boxN h hb11 #[.int .u8 kd, .int .u64 ck, .int .u64 cc, .int .i64 cl, .int .u8 cp, .int .u64 ca, .int .u64 (hw : Int), .int .i64 on] 83
      have hsf := sto_facts hA.third
      obtain ⟨a1, l1, m1, rfl⟩ := sl hA.fourth.rowR.slice
      obtain ⟨a2, l2, m2, rfl⟩ := sl hA.fifth.rowR.slice
      obtain ⟨a3, l3, m3, rfl⟩ := sl (Own.sixth6 hA).rowR.slice
      obtain ⟨a4, l4, m4, rfl⟩ := sl (show Own (DH vL E.length E :: _) W from Own.re 7 [6, 0, 1, 2, 3, 4, 5] rfl hA).rowR.slice
      obtain ⟨t, ht⟩ : ∃ t, t = T.length := ⟨_, rfl⟩
      obtain ⟨e, he⟩ : ∃ e, e = E.length := ⟨_, rfl⟩
      have HA : Hid (Own (BO b11 kd ck cc cl cp ca hw on :: TR (.slice tg t tc) t T :: StoP p N X E nx :: RT X (.slice a1 l1 m1) :: RB X (.slice a2 l2 m2) :: RK X (.slice a3 l3 m3) :: DH (.slice a4 l4 m4) e E :: BS b7 (.slice a1 l1 m1) (.slice a2 l2 m2) (.slice a3 l3 m3) (r : Int) (.slice a4 l4 m4) nx :: [Old w]) W) := Lib.hid (by rw [ht, he]; exact hA)
      have hes : e ≤ 40 := by have := hsf.small; rw [he]; omega
      rw [← ht] at hTk
      rw [← ht]
      have HSF := Lib.hid hsf
      have HRM := Lib.hid hrm
      have HT := Lib.hid ht
      have HE := Lib.hid he
      have HT64 := Lib.hid hT64
      have HB11 := Lib.hid hb11
      have HW := Lib.hid hW
      have ht60 : t ≤ 60 := by omega
      clear h hA hx hcell hcc hb2 ho hsf hrm ht he hT64 hb11 hW
      go_upto_region 11 with fail
      rw [HB11.out, HW.out]
      clear HB11 HW x0 x1 x2 x3 x4 x5 x6 x7
      obtain ⟨o0, o1, o2, o3, o4, o5, o6, o7⟩ := bo_cells HA.out (.head _)
      go_upto_region 12 with fail
      go_cut [89] (fun s89 wx => ∃ B : Bool, s89 = .bool B ∧ (B = true → 0 ≤ on ∧ on < (t : Int)) ∧ W = wx)
      case first =>
        by_cases k2 : kd = 2
        · have e2 : (kd == 2) = true := by simp [k2]
          clear k2
          by_cases g0 : 0 ≤ on
          · have d0 : decide ((0 : Int) ≤ on) = true := decide_eq_true g0
            by_cases g1 : on < (t : Int)
            · have d1 : decide (on < (t : Int)) = true := decide_eq_true g1
              as_aux_lemma =>
              go_wp2_with fail
              go_meet
              case rel => exact ⟨true, rfl, fun _ => ⟨g0, g1⟩, rfl⟩
            · have d1 : decide (on < (t : Int)) = false := decide_eq_false g1
              as_aux_lemma =>
              go_wp2_with fail
              go_meet
              case rel => exact ⟨false, rfl, fun h => (Bool.false_ne_true h).elim, rfl⟩
          · have d0 : decide ((0 : Int) ≤ on) = false := decide_eq_false g0
            as_aux_lemma =>
            go_wp2_with fail
            go_meet
            case rel => exact ⟨false, rfl, fun h => (Bool.false_ne_true h).elim, rfl⟩
        · have e2 : (kd == 2) = false := by simp [k2]
          clear k2
          as_aux_lemma =>
          go_wp2_with fail
          go_meet
          case rel => exact ⟨false, rfl, fun h => (Bool.false_ne_true h).elim, rfl⟩
      case rest =>
      obtain ⟨B89, rfl, hB89, rfl⟩ := hcut
      have HB89 := Lib.hid hB89
      clear hB89
      go_upto_if 89 with fail
      go_cut [12] (fun s12 wx => ∃ Hh : Nat, s12 = .int .u64 (Hh : Int) ∧ Hh < 18446744073709551616 ∧ W = wx)
      case first =>
        cases B89 with
        | true =>
          obtain ⟨g0, g1⟩ := HB89.out rfl
          obtain ⟨q, rfl⟩ := Int.eq_ofNat_of_zero_le g0
          have g1N : q < t := by omega
          have hr := HA.out.swap.row
          obtain ⟨gg, cap', ev, hcap, hcs⟩ := own_form hr (by omega)
          injection ev with e1' e2' e3'
          clear e2'
          subst e1' e3'
          have hcq := (hcs q _ (us_at T q (by rw [← HT.out]; exact g1N))).1
          have HX : Hid (T.getD q 0 < 18446744073709551616) := Lib.hid (HT64.out _ (by
            rw [List.getD_eq_getElem?_getD, List.getElem?_eq_getElem (by rw [← HT.out]; exact g1N), Option.getD_some]; exact List.getElem_mem _))
          clear hr hcs g0
          as_aux_lemma =>
          go_wp2_with fail
          go_meet
          case rel => exact ⟨_, rfl, HX.out, rfl⟩
        | false =>
          as_aux_lemma =>
          go_wp2_with fail
          go_meet
          case rel => exact ⟨_, rfl, h64, rfl⟩
      case rest =>
        obtain ⟨Hh, rfl, hH64, rfl⟩ := hcut
        go_upto_block 2 with fail
        go_cut [9] (fun s9 wx => AI w p r b7 (k + 1) s9 wx)
        case first =>
          have hN : N < 100000 := by omega
          have hnx : nx ≤ 1000000 := by omega
          by_cases k1 : kd = 1
          · have e1 : (kd == 1) = true := by simp [k1]
            clear k1
            as_aux_lemma =>
            obtain ⟨K, hK⟩ : ∃ K, K = putK X (bad cl cp) := ⟨_, rfl⟩
            obtain ⟨ER, hER⟩ : ∃ ER, ER = putX X (bad cl cp) := ⟨_, rfl⟩
            obtain ⟨Y, hY⟩ : ∃ Y, Y = putA X (bad cl cp) := ⟨_, rfl⟩
            obtain ⟨E2, hE2⟩ : ∃ E2, E2 = putE X E (bad cl cp) ⟨ck, cc, cl, cp, ca, nx, (hw : Int)⟩ := ⟨_, rfl⟩
            obtain ⟨n2, hn2⟩ : ∃ n2, n2 = putN X (bad cl cp) nx := ⟨_, rfl⟩
            have HP : Hid (∀ l W', Own (StoP p N X E nx :: l) W' → Calls Try.prog 30 #[.pointer (some ⟨p, 0, none⟩), pk ck cc cl cp ca, .int .u64 (hw : Int)] W' fun e w' => e = .returned (.tuple #[.int .u64 (K : Int), .int .i64 ER]) ∧ Own (StoP p (N + 1) Y E2 n2 :: l) w') := Lib.hid fun l W' h' => by
              rw [hK, hER, hY, hE2, hn2]
              exact sput_any h' hN hn0 hnx (by rw [HRM.out]; omega) ck cc cl cp ca (hw : Int)
            have HRP : Hid (∀ l W', Own (RT X (.slice a1 l1 m1) :: RB X (.slice a2 l2 m2) :: RK X (.slice a3 l3 m3) :: DH (.slice a4 l4 m4) e E :: l) W' → Calls Try.prog 36 #[.agg #[(.slice a1 l1 m1), (.slice a2 l2 m2), (.slice a3 l3 m3), .int .i64 (r : Int), (.slice a4 l4 m4), .int .u64 nx], pk ck cc cl cp ca, .int .u64 (hw : Int)] W' fun e w' => ∃ x1 y1 z1 x2 y2 z2 x3 y3 z3 x4 y4 z4, e = .returned (.tuple #[.agg #[.slice x1 y1 z1, .slice x2 y2 z2, .slice x3 y3 z3, .int .i64 (r : Int), .slice x4 y4 z4, .int .u64 n2], .int .u64 (K : Int), .int .i64 ER]) ∧ Own (RT Y (.slice x1 y1 z1) :: RB Y (.slice x2 y2 z2) :: RK Y (.slice x3 y3 z3) :: DH (.slice x4 y4 z4) E2.length E2 :: l) w') := Lib.hid fun l W' h' => by
              rw [HE.out] at h'
              refine (rsput_any (r := r) (nx := nx) h' (by rw [← HE.out]; omega) HSF.out.ok hN HRM.out.symm ck cc cl cp ca (hw : Int) hn0 hnx).mono ?_
              rintro e w' ⟨u1, u2, u3, uL, rfl, h5⟩
              rw [← hn2, ← hK, ← hER]
              rw [← hY, ← hE2] at h5
              obtain ⟨x1, y1, z1, rfl⟩ := sl h5.rowR.slice
              obtain ⟨x2, y2, z2, rfl⟩ := sl h5.swap.rowR.slice
              obtain ⟨x3, y3, z3, rfl⟩ := sl h5.third.rowR.slice
              obtain ⟨x4, y4, z4, rfl⟩ := sl h5.fourth.rowR.slice
              exact ⟨_, _, _, _, _, _, _, _, _, _, _, _, rfl, h5⟩
            have HYF : Hid (Y.room = r ∧ K < 18446744073709551616 ∧ 0 ≤ n2 ∧ n2 ≤ (k : Int) + 2) := Lib.hid ⟨by rw [hY, putA_room]; exact HRM.out, by rw [hK]; exact putK_lt HSF.out (by omega) _, by rw [hn2]; unfold putN; split; omega; split <;> omega, by rw [hn2]; unfold putN; split; omega; split <;> omega⟩
            have HA2 : Hid (Own (StoP p N X E nx :: BO b11 kd ck cc cl cp ca hw on :: TR (.slice tg t tc) t T :: RT X (.slice a1 l1 m1) :: RB X (.slice a2 l2 m2) :: RK X (.slice a3 l3 m3) :: DH (.slice a4 l4 m4) e E :: BS b7 (.slice a1 l1 m1) (.slice a2 l2 m2) (.slice a3 l3 m3) (r : Int) (.slice a4 l4 m4) nx :: [Old w]) W) := Lib.hid (re2 3 [2, 0, 1] (by kernel_rfl) (by kernel_rfl) HA.out)
            have kk : ((K : Int) != (K : Int)) = false := by simp
            have ee : (ER != ER) = false := by simp
            have HUS := Lib.hid (show us T ++ [Value.int .u64 (K : Int)] = us (T ++ [K]) by simp [us])
            clear hK hER hY hE2 hn2
            go_wp2_with fail
            (with_reducible refine (HP.out _ _ HA2.out).mono ?_)
            rintro e w2 ⟨rfl, h2⟩
            clear o0 o1 o2 o3 o4 o5 o6 o7
            obtain ⟨o0, o1, o2, o3, o4, o5, o6, o7⟩ := bo_cells (b := b11) (kd := kd) (ck := ck) (cc := cc) (cl := cl) (cp := cp) (ca := ca) (hw := hw) (on := on) h2 (.tail _ (.head _))
            obtain ⟨i0, i1, i2, i3, i4, i5, -⟩ := bs_cells (b := b7) (v1 := (.slice a1 l1 m1)) (v2 := (.slice a2 l2 m2)) (v3 := (.slice a3 l3 m3)) (r := (r : Int)) (vL := (.slice a4 l4 m4)) (nx := nx) h2 (by simp)
            have H2 : Hid (Own (RT X (.slice a1 l1 m1) :: RB X (.slice a2 l2 m2) :: RK X (.slice a3 l3 m3) :: DH (.slice a4 l4 m4) e E :: StoP p (N + 1) Y E2 n2 :: BO b11 kd ck cc cl cp ca hw on :: TR (.slice tg t tc) t T :: BS b7 (.slice a1 l1 m1) (.slice a2 l2 m2) (.slice a3 l3 m3) (r : Int) (.slice a4 l4 m4) nx :: [Old w]) w2) := Lib.hid (re2 8 [3, 4, 5, 6, 0, 1, 2, 7] (by kernel_rfl) (by kernel_rfl) h2)
            clear h2 HP
            go_wp2_with fail
            (with_reducible refine (HRP.out _ _ H2.out).mono ?_)
            rintro e w3 ⟨x1, y1, z1, x2, y2, z2, x3, y3, z3, x4, y4, z4, rfl, h3⟩
            clear i0 i1 i2 i3 i4 i5 H2 HRP
            obtain ⟨b15, hb15⟩ : ∃ b, w3.heap.size = b := ⟨_, rfl⟩
            obtain ⟨W4, hW4, -, h4⟩ := boxN h3 hb15 #[.slice x1 y1 z1, .slice x2 y2 z2, .slice x3 y3 z3, .int .i64 (r : Int), .slice x4 y4 z4, .int .u64 n2] 79
            obtain ⟨j0, j1, j2, j3, j4, j5, -⟩ := bs_cells (b := b15) (v1 := .slice x1 y1 z1) (v2 := .slice x2 y2 z2) (v3 := .slice x3 y3 z3) (r := (r : Int)) (vL := .slice x4 y4 z4) (nx := n2) h4 (.head _)
            obtain ⟨i0, i1, i2, i3, i4, i5, f0, f1, f2, f3, f4, f5⟩ := bs_cells (b := b7) (v1 := (.slice a1 l1 m1)) (v2 := (.slice a2 l2 m2)) (v3 := (.slice a3 l3 m3)) (r := (r : Int)) (vL := (.slice a4 l4 m4)) (nx := nx) h4 (by simp)
            obtain ⟨w5, e5, h5⟩ := Own.bsSet (b := b7) (v1 := (.slice a1 l1 m1)) (v2 := (.slice a2 l2 m2)) (v3 := (.slice a3 l3 m3)) (r := (r : Int)) (vL := (.slice a4 l4 m4)) (nx := nx) (v1' := .slice x1 y1 z1) (v2' := .slice x2 y2 z2) (v3' := .slice x3 y3 z3) (r' := (r : Int)) (vL' := .slice x4 y4 z4) (nx' := n2) (Own.re 9 [8, 7, 5, 1, 2, 3, 4, 0, 6] rfl h4)
            have H5 : Hid (Own (TR (.slice tg t tc) t T :: StoP p (N + 1) Y E2 n2 :: RT Y (.slice x1 y1 z1) :: RB Y (.slice x2 y2 z2) :: RK Y (.slice x3 y3 z3) :: DH (.slice x4 y4 z4) E2.length E2 :: BS b7 (.slice x1 y1 z1) (.slice x2 y2 z2) (.slice x3 y3 z3) (r : Int) (.slice x4 y4 z4) n2 :: [Old w]) w5) := Lib.hid (Own.re 9 [7, 8, 1, 2, 3, 4, 5, 6, 0] rfl h5).drop.drop
            have HB15 := Lib.hid hb15
            have HW4 := Lib.hid hW4
            clear h3 h4 h5 hb15 hW4
            go_upto_region 18 with fail
            rw [HB15.out, HW4.out]
            clear HB15 HW4
            go_wp2_with (at_builtin; refine app_own (W := w5) rfl _ _ _ _ _ 1 8 rfl Try.underlying24 info30 rfl (by omega) (by omega) _ t (us T) [.int .u64 (K : Int)] rfl _ rfl rfl rfl (by simp [Value.oneCell']) (by exact H5.out.row) (by omega) ?_; intro v4 w6 hown hgrow hmv; have H6 := Lib.hid (H5.out.rowApp hown hgrow hmv); clear hown hgrow hmv)
            go_meet
            case rel =>
              exact ⟨N + 1, Y, E2, n2, T ++ [K], _, _, _, _, by have h := H6.out; rw [HUS.out, show t + 1 = (T ++ [K]).length by rw [List.length_append, ← HT.out]; rfl] at h; exact h, by omega, HYF.out.1, by rw [List.length_append, ← HT.out]; simp; omega, fun x hx => (List.mem_append.1 hx).elim (HT64.out x) (fun h => by rw [List.mem_singleton.1 h]; exact HYF.out.2.1), HYF.out.2.2.1, by have := HYF.out.2.2.2; omega⟩
          · have e1 : (kd == 1) = false := by simp [k1]
            by_cases k23 : kd = 2 ∨ kd = 3
            · as_aux_lemma =>
              have hsw : (kd == 2) = true ∨ ((kd == 2) = false ∧ (kd == 3) = true) := by
                rcases k23 with h | h
                · exact .inl (by simp [h])
                · exact .inr ⟨by simp [h], by simp [h]⟩
              clear k1 k23
              obtain ⟨Y, hY⟩ : ∃ Y, Y = gvA X Hh := ⟨_, rfl⟩
              obtain ⟨E2, hE2⟩ : ∃ E2, E2 = delH E Hh := ⟨_, rfl⟩
              obtain ⟨G, hG⟩ : ∃ G, G = getH E Hh := ⟨_, rfl⟩
              obtain ⟨B, hB⟩ : ∃ B, B = (lookH E Hh).isSome := ⟨_, rfl⟩
              have HP : Hid (∀ l W', Own (StoP p N X E nx :: l) W' → Calls Try.prog 34 #[.pointer (some ⟨p, 0, none⟩), .int .u64 (Hh : Int)] W' fun e w' => e = .returned (.tuple #[hagg G, .bool B]) ∧ Own (StoP p (N + 1) Y E2 nx :: l) w') := Lib.hid fun l W' h' => by
                rw [hY, hE2, hG, hB]
                exact sfree_any h' hN (by rw [HRM.out]; omega) Hh hH64
              have HRP : Hid (∀ l W', Own (RT X (.slice a1 l1 m1) :: RB X (.slice a2 l2 m2) :: RK X (.slice a3 l3 m3) :: DH (.slice a4 l4 m4) e E :: l) W' → Calls Try.prog 37 #[.agg #[(.slice a1 l1 m1), (.slice a2 l2 m2), (.slice a3 l3 m3), .int .i64 (r : Int), (.slice a4 l4 m4), .int .u64 nx], .int .u64 (Hh : Int)] W' fun e w' => ∃ x1 y1 z1 x2 y2 z2 x3 y3 z3 x4 y4 z4, e = .returned (.tuple #[.agg #[.slice x1 y1 z1, .slice x2 y2 z2, .slice x3 y3 z3, .int .i64 (r : Int), .slice x4 y4 z4, .int .u64 nx], hagg G, .bool B]) ∧ Own (RT Y (.slice x1 y1 z1) :: RB Y (.slice x2 y2 z2) :: RK Y (.slice x3 y3 z3) :: DH (.slice x4 y4 z4) E2.length E2 :: l) w') := Lib.hid fun l W' h' => by
                rw [HE.out] at h'
                refine (rsfree_any (r := r) (nx := nx) h' (by rw [← HE.out]; omega) HSF.out.nd HSF.out.pb HSF.out.ok hN HRM.out.symm Hh).mono ?_
                rintro e w' ⟨u1, u2, u3, uL, rfl, h5⟩
                rw [← hY, ← hE2] at h5
                rw [← hG, ← hB]
                obtain ⟨x1, y1, z1, rfl⟩ := sl h5.rowR.slice
                obtain ⟨x2, y2, z2, rfl⟩ := sl h5.swap.rowR.slice
                obtain ⟨x3, y3, z3, rfl⟩ := sl h5.third.rowR.slice
                obtain ⟨x4, y4, z4, rfl⟩ := sl h5.fourth.rowR.slice
                exact ⟨_, _, _, _, _, _, _, _, _, _, _, _, rfl, h5⟩
              have HYF : Hid (Y.room = r) := Lib.hid (by rw [hY, room_gvA]; exact HRM.out)
              have HA2 : Hid (Own (StoP p N X E nx :: BO b11 kd ck cc cl cp ca hw on :: TR (.slice tg t tc) t T :: RT X (.slice a1 l1 m1) :: RB X (.slice a2 l2 m2) :: RK X (.slice a3 l3 m3) :: DH (.slice a4 l4 m4) e E :: BS b7 (.slice a1 l1 m1) (.slice a2 l2 m2) (.slice a3 l3 m3) (r : Int) (.slice a4 l4 m4) nx :: [Old w]) W) := Lib.hid (re2 3 [2, 0, 1] (by kernel_rfl) (by kernel_rfl) HA.out)
              have bb : (B != B) = false := by simp
              clear hY hE2 hG hB
              go_upto_if 131 with fail
              go_cut [131] (fun s131 wx => s131 = .bool true ∧ W = wx)
              case first =>
                rcases hsw with e2 | ⟨e2, e3⟩
                · as_aux_lemma =>
                  go_wp2_with fail
                  go_meet
                  case rel => exact ⟨by rw [e2], rfl⟩
                · as_aux_lemma =>
                  go_wp2_with fail
                  go_meet
                  case rel => exact ⟨rfl, rfl⟩
              case rest =>
                obtain ⟨rfl, rfl⟩ := hcut
                as_aux_lemma =>
                go_wp2_with fail
                (with_reducible refine (HP.out _ _ HA2.out).mono ?_)
                rintro e w2 ⟨rfl, h2⟩
                obtain ⟨g0, g1, g2, g3, g4, g5, g6⟩ := G
                obtain ⟨b18, hb18⟩ : ∃ b, w2.heap.size = b := ⟨_, rfl⟩
                obtain ⟨W3, hW3, -, h3⟩ := boxN h2 hb18 #[.int .u64 g0, .int .u64 g1, .int .i64 g2, .int .u8 g3, .int .u64 g4, .int .u64 g5, .int .u64 g6] 72
                obtain ⟨i0, i1, i2, i3, i4, i5, -⟩ := bs_cells (b := b7) (v1 := (.slice a1 l1 m1)) (v2 := (.slice a2 l2 m2)) (v3 := (.slice a3 l3 m3)) (r := (r : Int)) (vL := (.slice a4 l4 m4)) (nx := nx) h3 (by simp)
                have H3 : Hid (Own (RT X (.slice a1 l1 m1) :: RB X (.slice a2 l2 m2) :: RK X (.slice a3 l3 m3) :: DH (.slice a4 l4 m4) e E :: StoP p (N + 1) Y E2 nx :: BH b18 ⟨g0, g1, g2, g3, g4, g5, g6⟩ :: BO b11 kd ck cc cl cp ca hw on :: TR (.slice tg t tc) t T :: BS b7 (.slice a1 l1 m1) (.slice a2 l2 m2) (.slice a3 l3 m3) (r : Int) (.slice a4 l4 m4) nx :: [Old w]) W3) := Lib.hid (re2 9 [4, 5, 6, 7, 1, 0, 2, 3, 8] (by kernel_rfl) (by kernel_rfl) h3)
                have HB18 := Lib.hid hb18
                have HW3 := Lib.hid hW3
                clear h2 h3 hb18 hW3 HP o0 o1 o2 o3 o4 o5 o6 o7
                go_upto_region 25 with fail
                rw [HB18.out, HW3.out]
                clear HB18 HW3
                go_wp2_with fail
                (with_reducible refine (HRP.out _ _ H3.out).mono ?_)
                rintro e w4 ⟨x1, y1, z1, x2, y2, z2, x3, y3, z3, x4, y4, z4, rfl, h4⟩
                clear i0 i1 i2 i3 i4 i5 H3 HRP
                obtain ⟨b20, hb20⟩ : ∃ b, w4.heap.size = b := ⟨_, rfl⟩
                obtain ⟨W5, hW5, hs5, h5⟩ := boxN h4 hb20 #[.slice x1 y1 z1, .slice x2 y2 z2, .slice x3 y3 z3, .int .i64 (r : Int), .slice x4 y4 z4, .int .u64 nx] 79
                obtain ⟨w8, hW6, -, h8⟩ := boxN h5 hs5 #[.int .u64 g0, .int .u64 g1, .int .i64 g2, .int .u8 g3, .int .u64 g4, .int .u64 g5, .int .u64 g6] 72
                have HB20 := Lib.hid hb20
                have HW5 := Lib.hid hW5
                have HW6 := Lib.hid hW6
                obtain ⟨c0, c1, c2, c3, c4, c5, -⟩ := bs_cells (b := b20) (v1 := .slice x1 y1 z1) (v2 := .slice x2 y2 z2) (v3 := .slice x3 y3 z3) (r := (r : Int)) (vL := .slice x4 y4 z4) (nx := nx) h8 (.tail _ (.head _))
                obtain ⟨i0, i1, i2, i3, i4, i5, d0, d1, d2, d3, d4, d5⟩ := bs_cells (b := b7) (v1 := (.slice a1 l1 m1)) (v2 := (.slice a2 l2 m2)) (v3 := (.slice a3 l3 m3)) (r := (r : Int)) (vL := (.slice a4 l4 m4)) (nx := nx) h8 (by simp)
                have h8' : Own (BS b7 (.slice a1 l1 m1) (.slice a2 l2 m2) (.slice a3 l3 m3) (r : Int) (.slice a4 l4 m4) nx :: BH (b20 + 1) ⟨g0, g1, g2, g3, g4, g5, g6⟩ :: BS b20 (.slice x1 y1 z1) (.slice x2 y2 z2) (.slice x3 y3 z3) (r : Int) (.slice x4 y4 z4) nx :: RT Y (.slice x1 y1 z1) :: RB Y (.slice x2 y2 z2) :: RK Y (.slice x3 y3 z3) :: DH (.slice x4 y4 z4) E2.length E2 :: StoP p (N + 1) Y E2 nx :: BH b18 ⟨g0, g1, g2, g3, g4, g5, g6⟩ :: BO b11 kd ck cc cl cp ca hw on :: TR (.slice tg t tc) t T :: [Old w]) w8 := re2 11 [10, 0, 1, 2, 3, 4, 5, 6, 7, 8, 9] (by kernel_rfl) (by kernel_rfl) h8
                obtain ⟨w9, e9, h9⟩ := Own.bsSet (b := b7) (v1 := (.slice a1 l1 m1)) (v2 := (.slice a2 l2 m2)) (v3 := (.slice a3 l3 m3)) (r := (r : Int)) (vL := (.slice a4 l4 m4)) (nx := nx) (v1' := .slice x1 y1 z1) (v2' := .slice x2 y2 z2) (v3' := .slice x3 y3 z3) (r' := (r : Int)) (vL' := .slice x4 y4 z4) (nx' := nx) h8'
                obtain ⟨s0, s1, s2, s3, s4, s5, s6, -⟩ := bh_cells (b := b18) (x := ⟨g0, g1, g2, g3, g4, g5, g6⟩) h9 (by simp)
                obtain ⟨t0, t1, t2, t3, t4, t5, t6, -⟩ := bh_cells (b := b20 + 1) (x := ⟨g0, g1, g2, g3, g4, g5, g6⟩) h9 (by simp)
                have HF : Hid (AI w p r b7 (k + 1) (.slice tg t tc) w9) := Lib.hid (by
                  have h10 : Own (TR (.slice tg t tc) t T :: StoP p (N + 1) Y E2 nx :: RT Y (.slice x1 y1 z1) :: RB Y (.slice x2 y2 z2) :: RK Y (.slice x3 y3 z3) :: DH (.slice x4 y4 z4) E2.length E2 :: BS b7 (.slice x1 y1 z1) (.slice x2 y2 z2) (.slice x3 y3 z3) (r : Int) (.slice x4 y4 z4) nx :: [Old w]) w9 := (re2 (L' := BH (b20 + 1) ⟨g0, g1, g2, g3, g4, g5, g6⟩ :: BS b20 (.slice x1 y1 z1) (.slice x2 y2 z2) (.slice x3 y3 z3) (r : Int) (.slice x4 y4 z4) nx :: BH b18 ⟨g0, g1, g2, g3, g4, g5, g6⟩ :: BO b11 kd ck cc cl cp ca hw on :: TR (.slice tg t tc) t T :: StoP p (N + 1) Y E2 nx :: RT Y (.slice x1 y1 z1) :: RB Y (.slice x2 y2 z2) :: RK Y (.slice x3 y3 z3) :: DH (.slice x4 y4 z4) E2.length E2 :: BS b7 (.slice x1 y1 z1) (.slice x2 y2 z2) (.slice x3 y3 z3) (r : Int) (.slice x4 y4 z4) nx :: [Old w]) 11 [1, 2, 8, 9, 10, 7, 3, 4, 5, 6, 0] (by kernel_rfl) (by kernel_rfl) h9).drop.drop.drop.drop
                  rw [HT.out] at h10
                  rw [HT.out]
                  exact ⟨N + 1, Y, E2, nx, T, _, _, _, _, h10, by omega, HYF.out, by rw [← HT.out]; omega, HT64.out, hn0, by omega⟩)
                clear h4 h5 h8 h8' h9 hb20 hW5 hW6 hs5
                go_upto_region 26 with fail
                rw [HB20.out, HW5.out, HW6.out]
                clear HB20 HW5 HW6
                go_wp2_with fail
                go_meet
                case rel => exact HF.out
            · have e2 : (kd == 2) = false := by simp; exact fun h => k23 (.inl h)
              have e3 : (kd == 3) = false := by simp; exact fun h => k23 (.inr h)
              clear k1 k23
              have HF : Hid (AI w p r b7 (k + 1) (.slice tg t tc) W) := Lib.hid (by
                have h := HA.out.drop
                rw [HT.out, HE.out] at h
                rw [HT.out]
                exact ⟨N, X, E, nx, T, _, _, _, _, h, by omega, HRM.out, by rw [← HT.out]; omega, HT64.out, hn0, by omega⟩)
              as_aux_lemma =>
              go_wp2_with fail
              go_meet
              case rel => exact HF.out
        case rest =>
          obtain ⟨N', X', E', nx', T', v1, v2, v3, vL, h, hNk', hrm', hTk', hT64', hn0', hn1'⟩ := hcut
          clear HA HSF HRM HT HE HT64 o0 o1 o2 o3 o4 o5 o6 o7 HB89
          obtain ⟨tg', tc', rfl⟩ := own_slice h.row
          have hsf := sto_facts h.swap
          obtain ⟨b1, j1, k1, rfl⟩ := sl h.third.rowR.slice
          obtain ⟨b2', j2, k2, rfl⟩ := sl h.fourth.rowR.slice
          obtain ⟨b3, j3, k3, rfl⟩ := sl h.fifth.rowR.slice
          obtain ⟨b4, k4, rfl⟩ := (Own.sixth6 h).rowR.slice
          obtain ⟨t', ht⟩ : ∃ t, t = T'.length := ⟨_, rfl⟩
          obtain ⟨e', he⟩ : ∃ e, e = E'.length := ⟨_, rfl⟩
          obtain ⟨U, hU⟩ : ∃ U, U = sumH E' := ⟨_, rfl⟩
          have hes : e' ≤ 40 := by have := hsf.small; rw [he]; omega
          rw [← ht] at hTk' ⊢
          obtain ⟨LL, hLL⟩ : ∃ LL, LL = [TR (.slice tg' t' tc') t' T', StoP p N' X' E' nx', RT X' (.slice b1 j1 k1), RB X' (.slice b2' j2 k2), RK X' (.slice b3 j3 k3), DH (.slice b4 e' k4) e' E', BS b7 (.slice b1 j1 k1) (.slice b2' j2 k2) (.slice b3 j3 k3) (r : Int) (.slice b4 e' k4) nx', Old w] := ⟨_, rfl⟩
          replace h : Own LL wc := by rw [hLL, ht, he]; exact h
          have HB : Hid (∀ l W, Own (LL ++ l) W → W.cell? ⟨b7, 0, none⟩ = some (.slice b1 j1 k1) ∧ W.cell? ⟨b7, 1, none⟩ = some (.slice b2' j2 k2) ∧ W.cell? ⟨b7, 2, none⟩ = some (.slice b3 j3 k3) ∧ W.cell? ⟨b7, 3, none⟩ = some (.int .i64 (r : Int)) ∧ W.cell? ⟨b7, 4, none⟩ = some (.slice b4 e' k4) ∧ W.cell? ⟨b7, 5, none⟩ = some (.int .u64 nx')) := Lib.hid fun l W h => by
            rw [hLL] at h
            obtain ⟨c0, c1, c2, c3, c4, c5, -⟩ := bs_cells (b := b7) (v1 := (.slice b1 j1 k1)) (v2 := (.slice b2' j2 k2)) (v3 := (.slice b3 j3 k3)) (r := (r : Int)) (vL := (.slice b4 e' k4)) (nx := nx') h (by simp)
            exact ⟨c0, c1, c2, c3, c4, c5⟩
          have HG1 : Hid (∀ l W (x : Nat), x < 18446744073709551616 → Own (LL ++ l) W → Calls Try.prog 31 #[.pointer (some ⟨p, 0, none⟩), .int .u64 (x : Int)] W fun e w2 => e = .returned (.tuple #[hagg (getH E' x), .bool (lookH E' x).isSome]) ∧ Own (LL ++ l) w2) := Lib.hid fun l W x hx h => by
            rw [hLL] at h ⊢
            exact (sget_any h.swap (by omega) x hx).mono fun e w2 ⟨he, h2⟩ => ⟨he, h2.swap⟩
          have HG2 : Hid (∀ l W (x : Nat), Own (LL ++ l) W → Calls Try.prog 38 #[.agg #[(.slice b1 j1 k1), (.slice b2' j2 k2), (.slice b3 j3 k3), .int .i64 (r : Int), (.slice b4 e' k4), .int .u64 nx'], .int .u64 (x : Int)] W fun e w2 => e = .returned (.tuple #[hagg (getH E' x), .bool (lookH E' x).isSome]) ∧ Own (LL ++ l) w2) := Lib.hid fun l W x h => by
            rw [hLL] at h ⊢
            have h' : Own (RT X' (.slice b1 j1 k1) :: RB X' (.slice b2' j2 k2) :: RK X' (.slice b3 j3 k3) :: DH (.slice b4 e' k4) e' E' :: TR (.slice tg' t' tc') t' T' :: StoP p N' X' E' nx' :: BS b7 (.slice b1 j1 k1) (.slice b2' j2 k2) (.slice b3 j3 k3) (r : Int) (.slice b4 e' k4) nx' :: Old w :: l) W := re2 6 [2, 3, 4, 5, 0, 1] (by kernel_rfl) (by kernel_rfl) h
            exact (rsget_any (r := r) (nx := nx') h' he.symm (by omega) hsf.nd x).mono fun e w2 ⟨he, h2⟩ => ⟨he, re2 6 [4, 5, 0, 1, 2, 3] (by kernel_rfl) (by kernel_rfl) h2⟩
          have HCN : Hid (∀ W, Own LL W → Calls Try.prog 32 #[.pointer (some ⟨p, 0, none⟩)] W fun e w2 => e = .returned (.int .i64 (e' : Int)) ∧ W = w2) := Lib.hid fun W h => by
            rw [hLL] at h
            rw [he]
            exact ste_count (sto_open h.swap)
          have HBY : Hid (∀ W, Own LL W → Calls Try.prog 39 #[.pointer (some ⟨p, 0, none⟩)] W fun e w2 => e = .returned (.int .i64 U) ∧ W = w2) := Lib.hid fun W h => by
            rw [hLL] at h
            rw [hU]
            exact ste_bytes (sto_open h.swap)
          have HNT : Hid (∀ W, Own LL W → Calls Try.prog 41 #[.pointer (some ⟨p, 0, none⟩)] W fun e w2 => e = .returned (.int .u64 nx') ∧ W = w2) := Lib.hid fun W h => by
            rw [hLL] at h
            exact ste_next (sto_open h.swap)
          have HRB : Hid (∀ W, Own LL W → Calls Try.prog 40 #[.agg #[(.slice b1 j1 k1), (.slice b2' j2 k2), (.slice b3 j3 k3), .int .i64 (r : Int), (.slice b4 e' k4), .int .u64 nx']] W fun e w2 => e = .returned (.int .i64 U) ∧ Own LL w2 ∧ w2.cell? ⟨b7, 0, none⟩ = some (.slice b1 j1 k1) ∧ w2.cell? ⟨b7, 1, none⟩ = some (.slice b2' j2 k2) ∧ w2.cell? ⟨b7, 2, none⟩ = some (.slice b3 j3 k3) ∧ w2.cell? ⟨b7, 3, none⟩ = some (.int .i64 (r : Int)) ∧ w2.cell? ⟨b7, 4, none⟩ = some (.slice b4 e' k4) ∧ w2.cell? ⟨b7, 5, none⟩ = some (.int .u64 nx')) := Lib.hid fun W h => by
            have hB := HB.out []
            rw [hLL] at h hB ⊢
            rw [hU]
            have h' : Own (RT X' (.slice b1 j1 k1) :: RB X' (.slice b2' j2 k2) :: RK X' (.slice b3 j3 k3) :: DH (.slice b4 e' k4) e' E' :: TR (.slice tg' t' tc') t' T' :: StoP p N' X' E' nx' :: BS b7 (.slice b1 j1 k1) (.slice b2' j2 k2) (.slice b3 j3 k3) (r : Int) (.slice b4 e' k4) nx' :: [Old w]) W := re2 6 [2, 3, 4, 5, 0, 1] (by kernel_rfl) (by kernel_rfl) h
            refine (rsbytes_any (r := r) (nx := nx') h' he.symm (by omega) hsf.lens).mono fun e w2 ⟨he, h2⟩ => ⟨he, ?_⟩
            have h3 : Own [TR (.slice tg' t' tc') t' T', StoP p N' X' E' nx', RT X' (.slice b1 j1 k1), RB X' (.slice b2' j2 k2), RK X' (.slice b3 j3 k3), DH (.slice b4 e' k4) e' E', BS b7 (.slice b1 j1 k1) (.slice b2' j2 k2) (.slice b3 j3 k3) (r : Int) (.slice b4 e' k4) nx', Old w] w2 := re2 6 [4, 5, 0, 1, 2, 3] (by kernel_rfl) (by kernel_rfl) h2
            exact ⟨h3, hB w2 (by rw [List.append_nil]; exact h3)⟩
          have HNX : Hid (∀ W, Own LL W → ALI w p r b7 m (.slice tg' t' tc') (.int .i64 ((k : Int) + 1)) W) := Lib.hid fun W h => by
            rw [hLL, ht, he] at h
            rw [ht]
            exact ⟨k + 1, by go_num, by omega, N', X', E', nx', T', _, _, _, _, h, hNk', hrm', by rw [← ht]; exact hTk', hT64', hn0', by omega⟩
          have HBN := Lib.hid (builtNew 30 [.int .u64 (Hh : Int)] (by simp [maxLen]) h)
          have HRT : Hid (ownsR (wc.alloc (.cells #[.int .u64 (Hh : Int)] 30)) 30 1 (.slice tg' t' tc') t' (us T')) := Lib.hid (by
            have h' := h
            rw [hLL] at h'
            exact ownsR_ext (ownsR_of h'.row) ((Ext.refl wc).alloc _))
          have HU1 := Lib.hid (us_one T')
          have HUL := Lib.hid (show [Value.int .u64 (Hh : Int)] ++ us T' = us (Hh :: T') from rfl)
          obtain ⟨n8, hn8⟩ : ∃ n8, n8 = 1 + t' := ⟨_, rfl⟩
          have HN8 := Lib.hid hn8
          have HTT := Lib.hid ht
          have HT64 := Lib.hid hT64'
          have M1 : Hid (1 + t' ≤ maxLen) := Lib.hid (by simp only [maxLen]; omega)
          have M2 : Hid ((1 + t') * 8 ≤ 140737488355328) := Lib.hid (by omega)
          have hn63 : n8 ≤ 100 := by omega
          have hn80 : 0 < n8 := by omega
          have ek : ((e' : Int) != (e' : Int)) = false := by simp
          have uk : ((U : Int) != (U : Int)) = false := by simp
          have nk : ((nx' : Int) != (nx' : Int)) = false := by simp
          clear h hsf ht he hU hLL hn8 hT64' hrm' hNk' hTk' hn0' hn1' hn0 hn1 hNk hTk
          go_wp2_with (at_builtin; refine app_RR _ rfl _ _ _ _ _ 1 8 rfl Try.underlying24 info30 rfl (by omega) (.slice (some ⟨wc.heap.size, 0, none⟩) 1 1) 1 [.int .u64 (Hh : Int)] rfl (HBN.out.rowR) (.slice tg' t' tc') t' (us T') rfl HRT.out HU1.out M1.out M2.out ?_; intro v9 w9 hown hgrow hmv; have h9 := HBN.out.rowRGrown hown rfl hgrow hmv; rw [HUL.out, ← HN8.out] at h9; obtain ⟨gg, gc, rfl, hgc, -⟩ := h9.rowR.form hn80; have H9 := Lib.hid h9; clear hown hgrow hmv h9)
          go_loopw [161] (fun s wr => ∃ j : Nat, s = .int .i64 (j : Int) ∧ j ≤ n8 ∧ Own (RowR 30 1 (.slice (some ⟨gg, 0, none⟩) n8 gc) n8 (us (Hh :: T')) :: LL) wr) (fun s _ => n8 - (intOf s).toNat)
          case atStart => exact ⟨0, rfl, Nat.zero_le _, H9.out⟩
          case round =>
            clear H9 HBN HRT
            obtain ⟨j, rfl, hj, hO⟩ := hrel
            by_cases hjn : j < n8
            · have hjI : (j : Int) < (n8 : Int) := by omega
              have hlen : (Hh :: T').length = n8 := by rw [HN8.out, HTT.out]; simp; omega
              obtain ⟨x, hx⟩ : ∃ x, x = (Hh :: T').getD j 0 := ⟨_, rfl⟩
              have hx64 : x < 18446744073709551616 := by
                have hj' : j < (Hh :: T').length := by omega
                have hm : x ∈ (Hh :: T') := by rw [hx, List.getD_eq_getElem?_getD, List.getElem?_eq_getElem hj', Option.getD_some]; exact List.getElem_mem hj'
                rcases List.mem_cons.1 hm with h | hm
                · omega
                exact HT64.out x hm
              have hcx := (hO.rowR.cells rfl j _ (us_at (Hh :: T') j (by omega))).1
              rw [← hx] at hcx
              obtain ⟨RR, hRR⟩ : ∃ RR, RR = RowR 30 1 (.slice (some ⟨gg, 0, none⟩) n8 gc) n8 (us (Hh :: T')) := ⟨_, rfl⟩
              rw [← hRR] at hO ⊢
              obtain ⟨B, hBB⟩ : ∃ B, B = (lookH E' x).isSome := ⟨_, rfl⟩
              obtain ⟨G, hG⟩ : ∃ G, G = getH E' x := ⟨_, rfl⟩
              have HC1 := Lib.hid (HG1.out [RR] wr x hx64 (hO.perm (List.perm_append_singleton _ _).symm))
              have HC2 := Lib.hid (fun l W h => HG2.out l W x h)
              rw [← hBB, ← hG] at HC1 HC2
              obtain ⟨g0, g1, g2, g3, g4, g5, g6⟩ := G
              have bb : (B != B) = false := by simp
              clear hO hx hlen hBB hG hRR hx64
              go_wp2_with fail
              (with_reducible refine (HC1.out).mono ?_)
              rintro e w2 ⟨rfl, h2⟩
              obtain ⟨b25, hb25⟩ : ∃ b, w2.heap.size = b := ⟨_, rfl⟩
              obtain ⟨W3, hW3, -, h3⟩ := boxN h2 hb25 #[.int .u64 g0, .int .u64 g1, .int .i64 g2, .int .u8 g3, .int .u64 g4, .int .u64 g5, .int .u64 g6] 72
              have h3' : Own (LL ++ [RR, BH b25 ⟨g0, g1, g2, g3, g4, g5, g6⟩]) W3 := by
                rw [show LL ++ [RR, BH b25 ⟨g0, g1, g2, g3, g4, g5, g6⟩] = (LL ++ [RR]) ++ [BH b25 ⟨g0, g1, g2, g3, g4, g5, g6⟩] by simp]
                exact h3.perm (List.perm_append_singleton _ _).symm
              obtain ⟨i0, i1, i2, i3, i4, i5⟩ := HB.out _ _ h3'
              have H3 := Lib.hid h3'
              have HB25 := Lib.hid hb25
              have HW3 := Lib.hid hW3
              clear h2 h3 h3' hb25 hW3 HC1 hcx
              go_upto_region 33 with fail
              rw [HB25.out, HW3.out]
              clear HB25 HW3
              go_wp2_with fail
              (with_reducible refine (HC2.out _ _ H3.out).mono ?_)
              rintro e w4 ⟨rfl, h4⟩
              obtain ⟨b27, hb27⟩ : ∃ b, w4.heap.size = b := ⟨_, rfl⟩
              obtain ⟨W5, hW5, -, h5⟩ := boxN h4 hb27 #[.int .u64 g0, .int .u64 g1, .int .i64 g2, .int .u8 g3, .int .u64 g4, .int .u64 g5, .int .u64 g6] 72
              obtain ⟨s0, s1, s2, s3, s4, s5, s6, -⟩ := bh_cells (b := b25) (x := ⟨g0, g1, g2, g3, g4, g5, g6⟩) h5 (by simp)
              obtain ⟨t0, t1, t2, t3, t4, t5, t6, -⟩ := bh_cells (b := b27) (x := ⟨g0, g1, g2, g3, g4, g5, g6⟩) h5 (.head _)
              have H5 : Hid (Own (RR :: LL) W5) := Lib.hid ((h5.drop.perm List.perm_append_comm : Own (RR :: BH b25 ⟨g0, g1, g2, g3, g4, g5, g6⟩ :: LL) W5).swap.drop)
              have HB27 := Lib.hid hb27
              have HW5 := Lib.hid hW5
              clear h4 h5 hb27 hW5 H3 i0 i1 i2 i3 i4 i5 HC2
              go_upto_region 34 with fail
              rw [HB27.out, HW5.out]
              clear HB27 HW5
              go_wp2_with fail
              exact ⟨⟨j + 1, by go_num, by omega, H5.out⟩, by simp only [intOf]; omega⟩
            · obtain rfl : j = n8 := by omega
              have hw := hO.drop
              obtain ⟨c0, c1, c2, c3, c4, c5⟩ := HB.out [] wr (by rw [List.append_nil]; exact hw)
              clear hO
              go_upto_region 37 with fail
              go_region_held3 (fun w' => Own LL w' ∧ w'.cell? ⟨b7, 0, none⟩ = some (.slice b1 j1 k1) ∧ w'.cell? ⟨b7, 1, none⟩ = some (.slice b2' j2 k2) ∧ w'.cell? ⟨b7, 2, none⟩ = some (.slice b3 j3 k3) ∧ w'.cell? ⟨b7, 3, none⟩ = some (.int .i64 (r : Int)) ∧ w'.cell? ⟨b7, 4, none⟩ = some (.slice b4 e' k4) ∧ w'.cell? ⟨b7, 5, none⟩ = some (.int .u64 nx'))
                (first | exact ⟨hw.step (Ext.refl _).drew, (Ext.refl _).drew.cell c0, (Ext.refl _).drew.cell c1, (Ext.refl _).drew.cell c2, (Ext.refl _).drew.cell c3, (Ext.refl _).drew.cell c4, (Ext.refl _).drew.cell c5⟩ | (refine ⟨?_, ?_, ?_, ?_, ?_, ?_, ?_⟩ <;> assumption))
                (first
                  | (go_at_call 32; go_split_ands; (with_reducible refine (HCN.out _ (by assumption)).mono ?_); rintro e w2 ⟨rfl, rfl⟩)
                  | (go_at_call 39; go_split_ands; (with_reducible refine (HBY.out _ (by assumption)).mono ?_); rintro e w2 ⟨rfl, rfl⟩)
                  | (go_at_call 41; go_split_ands; (with_reducible refine (HNT.out _ (by assumption)).mono ?_); rintro e w2 ⟨rfl, rfl⟩)
                  | (go_at_call 40; go_split_ands; (with_reducible refine (HRB.out _ (by assumption)).mono ?_); rintro e w2 ⟨rfl, hz, y0, y1, y2, y3, y4, y5⟩))
              all_goals go_split_ands
              all_goals have HZ := Lib.hid (show Own LL _ by assumption)
              all_goals go_wp2_with fail
              all_goals exact ⟨HNX.out _ HZ.out, by simp only [intOf]; omega⟩
    · obtain rfl : k = m := by omega
      have H := Lib.hid h
      clear h hrm hT64 hTk hlt hk hn0 hn1 hNk
      go_wp2_with fail
      (with_reducible refine (awake_any H.out).mono ?_)
      rintro e w8 ⟨rfl, h8⟩
      have H8 := Lib.hid h8
      clear h8 H
      go_wp2_with fail
      go_ret
      exact ⟨rfl, H8.out.ext (by simp)⟩
end Go.Proofs.Ytekdgghekdajbaa.St
