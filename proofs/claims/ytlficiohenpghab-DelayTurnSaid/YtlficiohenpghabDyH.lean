/- DERIVED. Layer 19 (delay): calls that came in; contract of played. Written by wip/mkdyh.py. -/
import Derived.Test.YtlficiohenpghabDyF
import Derived.Test.YtlficiohenpghabArgs
import Derived.Deep.Strs
import Derived.Lib.SmallJoins
set_option linter.unusedVariables false
set_option linter.unusedSimpArgs false
set_option maxRecDepth 100000
namespace Go.Proofs.Ytlficiohenpghab.Dy
open Go.RowKit Go.Maps Go.Proofs.Ytlficiohenpghab Go.Proofs.Ytlficiohenpghab.TreeP Go.Proofs.Ytlficiohenpghab.Tr Go.Proofs.Ytlficiohenpghab.Wk Go.WideShapes Go.ChangeShapes Go.ChangeAt

/-- a call that came in -/
structure DOp where
  kind : Int
  f : Int
  most : Int
  at' : Int
instance : Inhabited DOp := ⟨⟨0, 0, 0, 0⟩⟩
def oc (o : DOp) : Nat → Value
  | 0 => .int .u8 o.kind
  | 1 => .int .i64 o.f
  | 2 => .int .i64 o.most
  | _ => .int .u64 o.at'
def OK (o : DOp) : Prop := (Lit.int .i64 o.f).wf = true ∧ (Lit.int .i64 o.most).wf = true ∧ (Lit.int .u64 o.at').wf = true
/-- n calls -/
def Ops (W : World) (v : Value) (n : Nat) (f : Nat → DOp) : Prop :=
  (∀ i, i < n → OK (f i)) ∧ ∃ a cap, v = .slice a n cap ∧ n ≤ cap ∧ cap ≤ maxLen ∧ (0 < n → ∃ b off, a = some ⟨b, off, none⟩ ∧ b < W.heap.size ∧ ∀ i c, i < n → c < 4 → W.cell? ⟨b, off + i * 4 + c, none⟩ = some (oc (f i) c))
def Ops2 (W : World) (v : Value) (x : Nat × (Nat → DOp)) : Prop := Ops W v x.1 x.2
section
variable {H : Type} {enc : TypeId × Value → H} {w : World}
theorem ops_of {v : Value} {d : DataW H} {ps : List MemPlace} (hv : ∃ a len cap, v = .slice a len cap)
    (h : DataW.Trod enc Try.prog w 0 (fun _ => true) true 22 v d ps) : ∃ x, Ops2 w v x := by
  obtain ⟨n, C, ⟨a, cap, hv', h1, h2, h3⟩, h4⟩ := came_of (P := Try.prog) (sz := 4) Try.underlying22 (by kernel_rfl) (by omega) hv h
  have hz : ∀ i, i < n → ∃ o : DOp, (C i 0 = .int .u8 o.kind ∧ C i 1 = .int .i64 o.f ∧ C i 2 = .int .i64 o.most ∧ C i 3 = .int .u64 o.at') ∧ OK o := by
    intro i hi
    obtain ⟨m, x, hx⟩ := h4 i hi
    obtain ⟨y0, y1, y2, y3, k, _, _, t0, t1, t2, t3⟩ := Go.Joins.trod_struct4 Try.underlying35 hx
    have e5 : Try.prog.cellsOf 5 = 1 := by kernel_rfl
    have e3 : Try.prog.cellsOf 3 = 1 := by kernel_rfl
    have e30 : Try.prog.cellsOf 33 = 1 := by kernel_rfl
    simp only [e5, e3, e30, List.range_succ, List.range_zero, List.nil_append, List.cons_append, List.map_cons, List.map_nil, List.drop_zero, List.drop_succ_cons, List.take_succ_cons, List.take_zero] at t0 t1 t2 t3
    obtain ⟨z0, g0, _, w0⟩ := DataW.trod_int Try.underlying5 t0
    obtain ⟨z1, g1, _, w1⟩ := DataW.trod_int Try.underlying3 t1
    obtain ⟨z2, g2, _, w2⟩ := DataW.trod_int Try.underlying3 t2
    obtain ⟨z3, g3, _, w3⟩ := DataW.trod_int Try.underlying33 t3
    simp only [List.cons.injEq, and_true] at g0 g1 g2 g3
    exact ⟨⟨z0, z1, z2, z3⟩, ⟨g0, g1, g2, g3⟩, w1, w2, w3⟩
  obtain ⟨f, hf⟩ := Deep.choose_lt (α := DOp) (p := fun i o => (C i 0 = .int .u8 o.kind ∧ C i 1 = .int .i64 o.f ∧ C i 2 = .int .i64 o.most ∧ C i 3 = .int .u64 o.at') ∧ OK o) hz
  refine ⟨(n, f), fun i hi => (hf i hi).2, a, cap, hv', h1, h2, fun hp => ?_⟩
  obtain ⟨b, off, rfl, hb, hcell⟩ := h3 hp
  refine ⟨b, off, rfl, hb, fun i c hi hc => ?_⟩
  obtain ⟨k0, k1, k2, k3⟩ := (hf i hi).1
  have := hcell i c hi hc
  rcases c with _ | _ | _ | _ | c
  · rw [k0] at this; exact this
  · rw [k1] at this; exact this
  · rw [k2] at this; exact this
  · rw [k3] at this; exact this
  · omega
end
/-- numbers that differ, of n -/
theorem one_less (a : Int) : ∀ {L : List Int}, L.Pairwise (· ≠ ·) → L.length ≤ (L.filter fun x => decide (x ≠ a)).length + 1
  | [], _ => Nat.zero_le _
  | x :: L, h => by
    rw [List.pairwise_cons] at h
    by_cases hx : x = a
    · subst hx
      have hf : (L.filter fun y => decide (y ≠ x)) = L := List.filter_eq_self.2 fun y hy => by simpa using (h.1 y hy).symm
      rw [List.filter_cons_of_neg (by simp), hf]
      exact Nat.le_refl _
    · rw [List.filter_cons_of_pos (by simpa using hx)]
      have := one_less a h.2
      simp only [List.length_cons]
      omega
theorem pig : ∀ (n : Nat) (L : List Int), L.Pairwise (· ≠ ·) → (∀ x ∈ L, 0 ≤ x ∧ x < (n : Int)) → L.length ≤ n
  | 0, L, _, hb => by
    cases L with
    | nil => exact Nat.le_refl _
    | cons x L =>
      have := hb x (.head _)
      omega
  | n + 1, L, h, hb => by
    have h1 := one_less (n : Int) h
    have h2 := pig n (L.filter fun x => decide (x ≠ (n : Int))) (h.filter _) (fun x hx => by
      obtain ⟨hx1, hx2⟩ := List.mem_filter.1 hx
      simp only [decide_eq_true_eq] at hx2
      have := hb x hx1
      omega)
    omega
theorem room_left {n q : Nat} {E : List En} (h : EI n q E) {f : Int} (f0 : 0 ≤ f) (fn : f < (n : Int)) (hf : who E f = none) : E.length ≠ n := by
  have := pig n (f :: E.map (·.2)) (List.pairwise_cons.2 ⟨fun x hx => by
    obtain ⟨e, he, rfl⟩ := List.mem_map.1 hx
    exact (who_none.1 hf e he).symm, by
    rw [List.pairwise_map]
    exact h.df⟩) (fun x hx => by
    rcases List.mem_cons.1 hx with rfl | hx
    · exact ⟨f0, fn⟩
    · obtain ⟨e, he, rfl⟩ := List.mem_map.1 hx
      exact h.flow e he)
  simp only [List.length_cons, List.length_map] at this
  omega
/-- what Put answers, and what is behind it -/
def putX (n : Nat) (E : List En) (f : Int) : Int := if f < 0 ∨ (n : Int) ≤ f then 2 else if (who E f).isSome then 50 else 0
def putS (n : Nat) (x : Nat × List En) (f at' : Int) : Nat × List En := if f < 0 ∨ (n : Int) ≤ f then x else if (who x.2 f).isSome then x else (x.1 + 1, ins x.2 (at', (x.1 : Int)) f)
def dropS (E : List En) (f : Int) : List En := match who E f with | none => E | some k => del E k
section
variable {p n : Nat} {x : Nat × List En} {l : List HP} {w : World}
/-- a delay, behind what was done -/
abbrev DX (p n : Nat) (x : Nat × List En) (l : List HP) (w : World) : Prop := DO p n x.1 x.2 l w
theorem put_any (h : DX p n x l w) (f at' : Int) (hf : (Lit.int .i64 f).wf = true) (a0 : 0 ≤ at') (a1 : at' < 18446744073709551616) (hq : x.1 < 5000) :
    Calls Try.prog 12 #[.pointer (some ⟨p, 0, none⟩), .int .i64 f, .int .u64 at'] w fun e w' => e = .returned (.int .i64 (putX n x.2 f)) ∧ DX p n (putS n x f at') l w' := by
  unfold putX putS
  by_cases h1 : f < 0 ∨ (n : Int) ≤ f
  · rw [if_pos h1, if_pos h1]
    exact own_put_arg h f at' hf h1
  · rw [if_neg h1, if_neg h1]
    cases hw : who x.2 f with
    | some k => exact own_put_in h f at' hf (by omega) (by omega) k hw
    | none => exact own_put_ok h f at' hf (by omega) (by omega) a0 a1 hw hq (room_left h.ei (by omega) (by omega) hw)
theorem drop_any (h : DX p n x l w) (f : Int) (hf : (Lit.int .i64 f).wf = true) :
    Calls Try.prog 14 #[.pointer (some ⟨p, 0, none⟩), .int .i64 f] w fun e w' => e = .returned (.bool (who x.2 f).isSome) ∧ DX p n (x.1, dropS x.2 f) l w' := by
  unfold dropS
  cases hw : who x.2 f with
  | none => exact own_drop_no h f hf hw
  | some k => exact own_drop_yes h f hf k hw
end
/-- what a call does -/
def stepD (n : Nat) (x : Nat × List En) (o : DOp) : Nat × List En :=
  if o.kind = 1 then putS n x o.f o.at' else if o.kind = 2 then (x.1, dropS x.2 o.f) else if o.kind = 3 then (x.1, x.2.drop ((uptoL x.2 o.at').take o.most.toNat).length) else x
def playD (n : Nat) (f : Nat → DOp) : Nat → Nat × List En
  | 0 => (0, [])
  | k + 1 => stepD n (playD n f k) (f k)
theorem play_le (n : Nat) (f : Nat → DOp) : ∀ k, (playD n f k).1 ≤ k
  | 0 => Nat.le_refl _
  | k + 1 => by
    have ih := play_le n f k
    unfold playD stepD putS
    split
    · split
      · omega
      · split
        · omega
        · simp only; omega
    · split
      · simp only; omega
      · split
        · simp only; omega
        · omega
theorem DO.out {p n q : Nat} {E : List En} {P : HP} {l : List HP} {w : World} (h : DO p n q E (P :: l) w) : DO p n q E l w := by
  obtain ⟨t, b, m, D, h1, h2⟩ := h
  exact ⟨t, b, m, D, h1.fourth.drop, h2⟩
def PI (l0 : List HP) (p m : Nat) (f : Nat → DOp) (vi : Value) (wr : World) : Prop := ∃ k : Nat, vi = .int .i64 (k : Int) ∧ k ≤ m ∧ DX p 12 (playD 12 f k) l0 wr
set_option maxHeartbeats 4000000 in
theorem played_any {W0 : World} {l : List HP} {w : World} (v : Value) (n : Nat) (f : Nat → DOp) (ho : Ops W0 v n f) (h : Own l w) (hold : Old W0 ∈ l) :
    Calls Try.prog 24 #[v] w fun e w' => ∃ p : Nat, e = .returned (.tuple #[.pointer (some ⟨p, 0, none⟩), .bool true]) ∧ DX p 12 (playD 12 f (min n 50)) l w' := by
  obtain ⟨hs, a, cap, rfl, q1, q2, q3⟩ := ho
  have HN := Lib.hid (own_new 12 (by omega) (by omega) h)
  have Q3 := Lib.hid q3
  have HS := Lib.hid hs
  have HOLD := Lib.hid hold
  unfold maxLen at q2
  obtain ⟨M, hM⟩ : ∃ M : Nat, M = min n 50 := ⟨_, rfl⟩
  rw [← hM]
  have hMI : (if (50 : Int) < (n : Int) then (50 : Int) else (n : Int)) = (M : Int) := by split <;> omega
  have mI : (M : Int) ≤ (cap : Int) := by omega
  have M50 : M ≤ 50 := by omega
  have Mn : M ≤ n := by omega
  have HMN := Lib.hid (And.intro M50 Mn)
  clear h q3 hold hs hM M50 Mn
  go_enter Try.func24, Try.ntmps24
  go_wp2_with fail
  refine (HN.out).mono ?_
  rintro e w1 ⟨p, rfl, h1⟩
  have H1 := Lib.hid h1
  clear h1 HN
  go_wp2_with fail
  go_loopw [18] (fun vi wr => PI l p M f vi wr) (fun vi _ => M - (intOf vi).toNat)
  case atStart => exact ⟨0, rfl, Nat.zero_le _, H1.out⟩
  case round =>
    clear H1
    obtain ⟨k, rfl, hk, h⟩ := hrel
    by_cases hlt : k < M
    · have hltI : (k : Int) < (M : Int) := by omega
      have hkn : k < n := by have := HMN.out; omega
      obtain ⟨b, off, rfl, hb, hcell⟩ := Q3.out (by omega)
      have hx := h.rest.ext HOLD.out
      obtain ⟨s0, s1, s2⟩ := HS.out k hkn
      have d0 : wr.cell? ⟨b, off + k * 4, none⟩ = some (.int .u8 (f k).kind) := hx.cell (hcell k 0 hkn (by omega))
      have d1 : wr.cell? ⟨b, off + k * 4 + 1, none⟩ = some (.int .i64 (f k).f) := hx.cell (hcell k 1 hkn (by omega))
      have d2 : wr.cell? ⟨b, off + k * 4 + 2, none⟩ = some (.int .i64 (f k).most) := hx.cell (hcell k 2 hkn (by omega))
      have d3 : wr.cell? ⟨b, off + k * 4 + 3, none⟩ = some (.int .u64 (f k).at') := hx.cell (hcell k 3 hkn (by omega))
      have hstep : playD 12 f (k + 1) = stepD 12 (playD 12 f k) (f k) := rfl
      unfold stepD at hstep
      have hq := play_le 12 f k
      obtain ⟨x, ex⟩ : ∃ x, x = playD 12 f k := ⟨_, rfl⟩
      obtain ⟨kd, ekd⟩ : ∃ x, x = (f k).kind := ⟨_, rfl⟩
      obtain ⟨kf, ekf⟩ : ∃ x, x = (f k).f := ⟨_, rfl⟩
      obtain ⟨km, ekm⟩ : ∃ x, x = (f k).most := ⟨_, rfl⟩
      obtain ⟨ka, eka⟩ : ∃ x, x = (f k).at' := ⟨_, rfl⟩
      rw [← ex] at h hstep hq
      rw [← ekd] at d0 hstep
      rw [← ekf] at d1 s0 hstep
      rw [← ekm] at d2 s1 hstep
      rw [← eka] at d3 s2 hstep
      have hA := h.step ((Ext.refl wr).alloc (.cells #[.int .u8 kd, .int .i64 kf, .int .i64 km, .int .u64 ka] 35))
      have a0 := (u64_bd s2).1
      have m1 := (i64_bd s1).2
      have HA := Lib.hid hA
      have HST := Lib.hid hstep
      have HPUT := Lib.hid (put_any hA kf ka s0 a0 (by have := (u64_bd s2).2; omega) (by have := HMN.out; omega))
      have HDROP := Lib.hid (drop_any hA kf s0)
      have HWAKE := Lib.hid (own_wake hA ka km (by omega) _ rfl)
      clear h hx hcell hb hA hstep s0 s1 s2 ex ekd ekf ekm eka hq a0 m1
      by_cases k1 : kd = 1
      · have hs := HST.out
        rw [if_pos k1] at hs
        have HS1 := Lib.hid hs
        clear hs HST
        subst k1
        go_wp2_with fail
        refine (HPUT.out).mono ?_
        rintro e w3 ⟨rfl, h3⟩
        have HX : Hid (PI l p M f (.int .i64 ((k : Int) + 1)) w3) := Lib.hid ⟨k + 1, by go_num, by omega, by rw [HS1.out]; exact h3⟩
        clear h3
        go_wp2_with fail
        exact ⟨HX.out, by simp [intOf]; omega⟩
      · by_cases k2 : kd = 2
        · have hs := HST.out
          rw [if_neg k1, if_pos k2] at hs
          have HS1 := Lib.hid hs
          clear hs HST
          subst k2
          go_wp2_with fail
          refine (HDROP.out).mono ?_
          rintro e w3 ⟨rfl, h3⟩
          have HX : Hid (PI l p M f (.int .i64 ((k : Int) + 1)) w3) := Lib.hid ⟨k + 1, by go_num, by omega, by rw [HS1.out]; exact h3⟩
          clear h3
          go_wp2_with fail
          exact ⟨HX.out, by simp [intOf]; omega⟩
        · have e1 : (kd == 1) = false := by simp [k1]
          have e2 : (kd == 2) = false := by simp [k2]
          by_cases k3 : kd = 3
          · have hs := HST.out
            rw [if_neg k1, if_neg k2, if_pos k3] at hs
            have HS1 := Lib.hid hs
            clear hs HST
            subst k3
            clear e1 e2 k1 k2
            go_wp2_with fail
            refine (HWAKE.out).mono ?_
            rintro e w3 ⟨v3, rfl, h3⟩
            have HX : Hid (PI l p M f (.int .i64 ((k : Int) + 1)) w3) := Lib.hid ⟨k + 1, by go_num, by omega, by rw [HS1.out]; exact h3.out⟩
            clear h3
            go_wp2_with fail
            exact ⟨HX.out, by simp [intOf]; omega⟩
          · have e3 : (kd == 3) = false := by simp [k3]
            have HX : Hid (PI l p M f (.int .i64 ((k : Int) + 1)) (wr.alloc (.cells #[.int .u8 kd, .int .i64 kf, .int .i64 km, .int .u64 ka] 35))) := Lib.hid ⟨k + 1, by go_num, by omega, by rw [HST.out, if_neg k1, if_neg k2, if_neg k3]; exact HA.out⟩
            clear k1 k2 k3
            go_wp2_with fail
            exact ⟨HX.out, by simp [intOf]; omega⟩
    · obtain rfl : k = M := by omega
      have H := Lib.hid h
      clear h hlt hk
      go_wp2_with fail
      exact bodyPost_ret (v := .tuple #[.pointer (some ⟨p, 0, none⟩), .bool true]) (by simp [results, Try.results24, go_sem]) rfl ⟨_, rfl, H.out⟩
end Go.Proofs.Ytlficiohenpghab.Dy
