/- DERIVED. Layer 13 (bucket): calls that came in; contract of played. -/
import Derived.Test.YtlficiohenpghaaBkG
import Derived.Test.YtlficiohenpghaaArgs
import Derived.Deep.Strs
import Derived.Lib.SmallJoins
set_option linter.unusedVariables false
set_option linter.unusedSimpArgs false
set_option maxRecDepth 100000
namespace Go.Proofs.Ytlficiohenpghaa.Bk
open Go.RowKit Go.Proofs.Ytlficiohenpghaa Go.Proofs.Ytlficiohenpghaa.TreeP Go.Proofs.Ytlficiohenpghaa.Tr Go.WideShapes Go.ChangeShapes Go.ChangeAt

/-- a call that came in -/
structure BOp where
  kind : Int
  s : Int
  v : Int
instance : Inhabited BOp := ⟨⟨0, 0, 0⟩⟩
def oc (o : BOp) : Nat → Value
  | 0 => .int .u8 o.kind
  | 1 => .int .u64 o.s
  | _ => .int .i64 o.v
/-- n calls -/
def Ops (W : World) (v : Value) (n : Nat) (f : Nat → BOp) : Prop :=
  (∀ i, i < n → 0 ≤ (f i).s ∧ (f i).s < 18446744073709551616) ∧ ∃ a cap, v = .slice a n cap ∧ n ≤ cap ∧ cap ≤ maxLen ∧ (0 < n → ∃ b off, a = some ⟨b, off, none⟩ ∧ b < W.heap.size ∧ ∀ i c, i < n → c < 3 → W.cell? ⟨b, off + i * 3 + c, none⟩ = some (oc (f i) c))
def Ops2 (W : World) (v : Value) (x : Nat × (Nat → BOp)) : Prop := Ops W v x.1 x.2
section
variable {H : Type} {enc : TypeId × Value → H} {w : World}
theorem ops_of {v : Value} {d : DataW H} {ps : List MemPlace} (hv : ∃ a len cap, v = .slice a len cap)
    (h : DataW.Trod enc Try.prog w 0 (fun _ => true) true 22 v d ps) : ∃ x, Ops2 w v x := by
  obtain ⟨n, C, ⟨a, cap, hv', h1, h2, h3⟩, h4⟩ := came_of (P := Try.prog) (sz := 3) Try.underlying22 (by kernel_rfl) (by omega) hv h
  have hz : ∀ i, i < n → ∃ o : BOp, (C i 0 = .int .u8 o.kind ∧ C i 1 = .int .u64 o.s ∧ C i 2 = .int .i64 o.v) ∧ 0 ≤ o.s ∧ o.s < 18446744073709551616 := by
    intro i hi
    obtain ⟨m, x, hx⟩ := h4 i hi
    obtain ⟨y0, y1, y2, k, _, _, t0, t1, t2⟩ := Deep.trod_struct3 Try.underlying38 hx
    have e5 : Try.prog.cellsOf 5 = 1 := by kernel_rfl
    have e3 : Try.prog.cellsOf 3 = 1 := by kernel_rfl
    have e30 : Try.prog.cellsOf 28 = 1 := by kernel_rfl
    simp only [e5, e3, e30, List.range_succ, List.range_zero, List.nil_append, List.cons_append, List.map_cons, List.map_nil, List.drop_zero, List.drop_succ_cons, List.take_succ_cons, List.take_zero] at t0 t1 t2
    obtain ⟨z0, g0, _, w0⟩ := DataW.trod_int Try.underlying5 t0
    obtain ⟨z1, g1, _, w1⟩ := DataW.trod_int Try.underlying28 t1
    obtain ⟨z3, g3, _, w3⟩ := DataW.trod_int Try.underlying3 t2
    simp only [List.cons.injEq, and_true] at g0 g1 g3
    have := u64_bd w1
    exact ⟨⟨z0, z1, z3⟩, ⟨g0, g1, g3⟩, this.1, by simp only; omega⟩
  obtain ⟨f, hf⟩ := Deep.choose_lt (α := BOp) (p := fun i o => (C i 0 = .int .u8 o.kind ∧ C i 1 = .int .u64 o.s ∧ C i 2 = .int .i64 o.v) ∧ 0 ≤ o.s ∧ o.s < 18446744073709551616) hz
  refine ⟨(n, f), fun i hi => (hf i hi).2, a, cap, hv', h1, h2, fun hp => ?_⟩
  obtain ⟨b, off, rfl, hb, hcell⟩ := h3 hp
  refine ⟨b, off, rfl, hb, fun i c hi hc => ?_⟩
  obtain ⟨k0, k1, k2⟩ := (hf i hi).1
  have := hcell i c hi hc
  rcases c with _ | _ | _ | c
  · rw [k0] at this; exact this
  · rw [k1] at this; exact this
  · rw [k2] at this; exact this
  · omega
end
/-- what a call does -/
def stepP (room : Nat) (R : List En) (o : BOp) : List En := if o.kind = 1 then Tr.putT room R (o.s, 0) o.v else if o.kind = 2 then del R (o.s, 0) else R
def playP (room : Nat) (f : Nat → BOp) : Nat → List En
  | 0 => []
  | k + 1 => stepP room (playP room f k) (f k)
def PI (l0 : List HP) (p bits m : Nat) (f : Nat → BOp) (vi : Value) (wr : World) : Prop := ∃ k : Nat, vi = .int .i64 (k : Int) ∧ k ≤ m ∧ Own (Bkt p bits 30 (playP 30 f k) :: l0) wr
set_option maxHeartbeats 4000000 in
theorem played_any {W0 : World} {l : List HP} {w : World} (bits : Nat) (v : Value) (n : Nat) (f : Nat → BOp) (hb : bits ≤ 10) (ho : Ops W0 v n f) (h : Own l w) (hold : Old W0 ∈ l) :
    Calls Try.prog 9 #[.int .i64 (bits : Int), v] w fun e w' => ∃ p : Nat, e = .returned (.tuple #[.pointer (some ⟨p, 0, none⟩), .bool true]) ∧ Own (Bkt p bits 30 (playP 30 f (min n 50)) :: l) w' := by
  obtain ⟨hs, a, cap, rfl, q1, q2, q3⟩ := ho
  have H := Lib.hid h
  have Q3 := Lib.hid q3
  have HS := Lib.hid hs
  have HOLD := Lib.hid hold
  have HB := Lib.hid hb
  unfold maxLen at q2
  clear h q3 hold hs hb
  by_cases n1 : n < 50
  · have nI : (n : Int) < 50 := by omega
    have mI : (n : Int) ≤ (cap : Int) := by omega
    have HMIN := Lib.hid (show min n 50 = n by omega)
    go_enter Try.func9, Try.ntmps9
    go_wp2_with fail
    refine (own_new bits 30 HB.out (by omega) (by omega) H.out).mono ?_
    rintro e w1 ⟨p, rfl, h1⟩
    have H1 := Lib.hid h1
    clear h1 H
    go_wp2_with fail
    go_loopw [21] (fun vi wr => PI l p bits n f vi wr) (fun vi _ => n - (intOf vi).toNat)
    case atStart => exact ⟨0, rfl, Nat.zero_le _, H1.out⟩
    case round =>
      clear H1
      obtain ⟨k, rfl, hk, h⟩ := hrel
      by_cases hlt : k < n
      · have hltI : (k : Int) < (n : Int) := by omega
        obtain ⟨b, off, rfl, hb, hcell⟩ := Q3.out (by omega)
        have hx := h.ext (.tail _ HOLD.out)
        obtain ⟨s0, s1⟩ := HS.out k (by omega)
        have d0 : wr.cell? ⟨b, off + k * 3, none⟩ = some (.int .u8 (f k).kind) := hx.cell (hcell k 0 (by omega) (by omega))
        have d1 : wr.cell? ⟨b, off + k * 3 + 1, none⟩ = some (.int .u64 (f k).s) := hx.cell (hcell k 1 (by omega) (by omega))
        have d2 : wr.cell? ⟨b, off + k * 3 + 2, none⟩ = some (.int .i64 (f k).v) := hx.cell (hcell k 2 (by omega) (by omega))
        have hstep : playP 30 f (k + 1) = stepP 30 (playP 30 f k) (f k) := rfl
        unfold stepP at hstep
        obtain ⟨kd, ekd⟩ : ∃ x, x = (f k).kind := ⟨_, rfl⟩
        obtain ⟨ks, eks⟩ : ∃ x, x = (f k).s := ⟨_, rfl⟩
        obtain ⟨kv, ekv⟩ : ∃ x, x = (f k).v := ⟨_, rfl⟩
        rw [← ekd] at d0 hstep
        rw [← eks] at d1 s0 s1 hstep
        rw [← ekv] at d2 hstep
        have hA := h.step ((Ext.refl wr).alloc (.cells #[.int .u8 kd, .int .u64 ks, .int .i64 kv] 38))
        have HA := Lib.hid hA
        have S0 := Lib.hid s0
        have S1 := Lib.hid s1
        have HST := Lib.hid hstep
        clear h hA hx hcell hb ekd eks ekv s0 s1 hstep
        by_cases k1 : kd = 1
        · have e1 : (kd == 1) = true := by simp [k1]
          have K1 := Lib.hid k1
          clear k1
          go_wp2_with fail
          refine (own_put HA.out ks kv S0.out S1.out).mono ?_
          rintro e w2 ⟨rfl, h2⟩
          have HP := Lib.hid (show PI l p bits n f (.int .i64 ((k : Int) + 1)) w2 from ⟨k + 1, by go_num, by omega, by rw [HST.out, if_pos K1.out]; exact h2⟩)
          clear h2 HA
          go_wp2_with fail
          exact ⟨HP.out, by simp [intOf]; omega⟩
        · have e1 : (kd == 1) = false := by simp [k1]
          by_cases k2 : kd = 2
          · have e2 : (kd == 2) = true := by simp [k2]
            have K1 := Lib.hid k1
            have K2 := Lib.hid k2
            clear k1 k2
            go_wp2_with fail
            refine (own_drop HA.out ks S0.out S1.out).mono ?_
            rintro e w2 ⟨rfl, h2⟩
            have HP := Lib.hid (show PI l p bits n f (.int .i64 ((k : Int) + 1)) w2 from ⟨k + 1, by go_num, by omega, by rw [HST.out, if_neg K1.out, if_pos K2.out]; exact h2⟩)
            clear h2 HA
            go_wp2_with fail
            exact ⟨HP.out, by simp [intOf]; omega⟩
          · have e2 : (kd == 2) = false := by simp [k2]
            have HP := Lib.hid (show PI l p bits n f (.int .i64 ((k : Int) + 1)) (wr.alloc (.cells #[.int .u8 kd, .int .u64 ks, .int .i64 kv] 38)) from ⟨k + 1, by go_num, by omega, by rw [HST.out, if_neg k1, if_neg k2]; exact HA.out⟩)
            clear k1 k2 HA
            go_wp2_with fail
            exact ⟨HP.out, by simp [intOf]; omega⟩
      · have hge : k = n := by omega
        have HF := Lib.hid h
        clear h hlt hk
        subst hge
        go_wp2_with fail
        go_ret2
        exact ⟨p, rfl, by rw [HMIN.out]; exact HF.out⟩
  · by_cases n2 : 50 < n
    · have nI : (50 : Int) < (n : Int) := by omega
      have mI : (50 : Int) ≤ (cap : Int) := by omega
      have HMIN := Lib.hid (show min n 50 = 50 by omega)
      go_enter Try.func9, Try.ntmps9
      go_wp2_with fail
      refine (own_new bits 30 HB.out (by omega) (by omega) H.out).mono ?_
      rintro e w1 ⟨p, rfl, h1⟩
      have H1 := Lib.hid h1
      clear h1 H
      go_wp2_with fail
      go_loopw [21] (fun vi wr => PI l p bits 50 f vi wr) (fun vi _ => 50 - (intOf vi).toNat)
      case atStart => exact ⟨0, rfl, Nat.zero_le _, H1.out⟩
      case round =>
        clear H1
        obtain ⟨k, rfl, hk, h⟩ := hrel
        by_cases hlt : k < 50
        · have hltI : (k : Int) < (50 : Int) := by omega
          obtain ⟨b, off, rfl, hb, hcell⟩ := Q3.out (by omega)
          have hx := h.ext (.tail _ HOLD.out)
          obtain ⟨s0, s1⟩ := HS.out k (by omega)
          have d0 : wr.cell? ⟨b, off + k * 3, none⟩ = some (.int .u8 (f k).kind) := hx.cell (hcell k 0 (by omega) (by omega))
          have d1 : wr.cell? ⟨b, off + k * 3 + 1, none⟩ = some (.int .u64 (f k).s) := hx.cell (hcell k 1 (by omega) (by omega))
          have d2 : wr.cell? ⟨b, off + k * 3 + 2, none⟩ = some (.int .i64 (f k).v) := hx.cell (hcell k 2 (by omega) (by omega))
          have hstep : playP 30 f (k + 1) = stepP 30 (playP 30 f k) (f k) := rfl
          unfold stepP at hstep
          obtain ⟨kd, ekd⟩ : ∃ x, x = (f k).kind := ⟨_, rfl⟩
          obtain ⟨ks, eks⟩ : ∃ x, x = (f k).s := ⟨_, rfl⟩
          obtain ⟨kv, ekv⟩ : ∃ x, x = (f k).v := ⟨_, rfl⟩
          rw [← ekd] at d0 hstep
          rw [← eks] at d1 s0 s1 hstep
          rw [← ekv] at d2 hstep
          have hA := h.step ((Ext.refl wr).alloc (.cells #[.int .u8 kd, .int .u64 ks, .int .i64 kv] 38))
          have HA := Lib.hid hA
          have S0 := Lib.hid s0
          have S1 := Lib.hid s1
          have HST := Lib.hid hstep
          clear h hA hx hcell hb ekd eks ekv s0 s1 hstep
          by_cases k1 : kd = 1
          · have e1 : (kd == 1) = true := by simp [k1]
            have K1 := Lib.hid k1
            clear k1
            go_wp2_with fail
            refine (own_put HA.out ks kv S0.out S1.out).mono ?_
            rintro e w2 ⟨rfl, h2⟩
            have HP := Lib.hid (show PI l p bits 50 f (.int .i64 ((k : Int) + 1)) w2 from ⟨k + 1, by go_num, by omega, by rw [HST.out, if_pos K1.out]; exact h2⟩)
            clear h2 HA
            go_wp2_with fail
            exact ⟨HP.out, by simp [intOf]; omega⟩
          · have e1 : (kd == 1) = false := by simp [k1]
            by_cases k2 : kd = 2
            · have e2 : (kd == 2) = true := by simp [k2]
              have K1 := Lib.hid k1
              have K2 := Lib.hid k2
              clear k1 k2
              go_wp2_with fail
              refine (own_drop HA.out ks S0.out S1.out).mono ?_
              rintro e w2 ⟨rfl, h2⟩
              have HP := Lib.hid (show PI l p bits 50 f (.int .i64 ((k : Int) + 1)) w2 from ⟨k + 1, by go_num, by omega, by rw [HST.out, if_neg K1.out, if_pos K2.out]; exact h2⟩)
              clear h2 HA
              go_wp2_with fail
              exact ⟨HP.out, by simp [intOf]; omega⟩
            · have e2 : (kd == 2) = false := by simp [k2]
              have HP := Lib.hid (show PI l p bits 50 f (.int .i64 ((k : Int) + 1)) (wr.alloc (.cells #[.int .u8 kd, .int .u64 ks, .int .i64 kv] 38)) from ⟨k + 1, by go_num, by omega, by rw [HST.out, if_neg k1, if_neg k2]; exact HA.out⟩)
              clear k1 k2 HA
              go_wp2_with fail
              exact ⟨HP.out, by simp [intOf]; omega⟩
        · have hge : k = 50 := by omega
          have HF := Lib.hid h
          clear h hlt hk
          subst hge
          go_wp2_with fail
          go_ret2
          exact ⟨p, rfl, by rw [HMIN.out]; exact HF.out⟩
    · obtain rfl : n = 50 := by omega
      clear n1 n2
      have mI : (50 : Int) ≤ (cap : Int) := by omega
      have HMIN := Lib.hid (show min 50 50 = 50 by omega)
      go_enter Try.func9, Try.ntmps9
      go_wp2_with fail
      refine (own_new bits 30 HB.out (by omega) (by omega) H.out).mono ?_
      rintro e w1 ⟨p, rfl, h1⟩
      have H1 := Lib.hid h1
      clear h1 H
      go_wp2_with fail
      go_loopw [21] (fun vi wr => PI l p bits 50 f vi wr) (fun vi _ => 50 - (intOf vi).toNat)
      case atStart => exact ⟨0, rfl, Nat.zero_le _, H1.out⟩
      case round =>
        clear H1
        obtain ⟨k, rfl, hk, h⟩ := hrel
        by_cases hlt : k < 50
        · have hltI : (k : Int) < (50 : Int) := by omega
          obtain ⟨b, off, rfl, hb, hcell⟩ := Q3.out (by omega)
          have hx := h.ext (.tail _ HOLD.out)
          obtain ⟨s0, s1⟩ := HS.out k (by omega)
          have d0 : wr.cell? ⟨b, off + k * 3, none⟩ = some (.int .u8 (f k).kind) := hx.cell (hcell k 0 (by omega) (by omega))
          have d1 : wr.cell? ⟨b, off + k * 3 + 1, none⟩ = some (.int .u64 (f k).s) := hx.cell (hcell k 1 (by omega) (by omega))
          have d2 : wr.cell? ⟨b, off + k * 3 + 2, none⟩ = some (.int .i64 (f k).v) := hx.cell (hcell k 2 (by omega) (by omega))
          have hstep : playP 30 f (k + 1) = stepP 30 (playP 30 f k) (f k) := rfl
          unfold stepP at hstep
          obtain ⟨kd, ekd⟩ : ∃ x, x = (f k).kind := ⟨_, rfl⟩
          obtain ⟨ks, eks⟩ : ∃ x, x = (f k).s := ⟨_, rfl⟩
          obtain ⟨kv, ekv⟩ : ∃ x, x = (f k).v := ⟨_, rfl⟩
          rw [← ekd] at d0 hstep
          rw [← eks] at d1 s0 s1 hstep
          rw [← ekv] at d2 hstep
          have hA := h.step ((Ext.refl wr).alloc (.cells #[.int .u8 kd, .int .u64 ks, .int .i64 kv] 38))
          have HA := Lib.hid hA
          have S0 := Lib.hid s0
          have S1 := Lib.hid s1
          have HST := Lib.hid hstep
          clear h hA hx hcell hb ekd eks ekv s0 s1 hstep
          by_cases k1 : kd = 1
          · have e1 : (kd == 1) = true := by simp [k1]
            have K1 := Lib.hid k1
            clear k1
            go_wp2_with fail
            refine (own_put HA.out ks kv S0.out S1.out).mono ?_
            rintro e w2 ⟨rfl, h2⟩
            have HP := Lib.hid (show PI l p bits 50 f (.int .i64 ((k : Int) + 1)) w2 from ⟨k + 1, by go_num, by omega, by rw [HST.out, if_pos K1.out]; exact h2⟩)
            clear h2 HA
            go_wp2_with fail
            exact ⟨HP.out, by simp [intOf]; omega⟩
          · have e1 : (kd == 1) = false := by simp [k1]
            by_cases k2 : kd = 2
            · have e2 : (kd == 2) = true := by simp [k2]
              have K1 := Lib.hid k1
              have K2 := Lib.hid k2
              clear k1 k2
              go_wp2_with fail
              refine (own_drop HA.out ks S0.out S1.out).mono ?_
              rintro e w2 ⟨rfl, h2⟩
              have HP := Lib.hid (show PI l p bits 50 f (.int .i64 ((k : Int) + 1)) w2 from ⟨k + 1, by go_num, by omega, by rw [HST.out, if_neg K1.out, if_pos K2.out]; exact h2⟩)
              clear h2 HA
              go_wp2_with fail
              exact ⟨HP.out, by simp [intOf]; omega⟩
            · have e2 : (kd == 2) = false := by simp [k2]
              have HP := Lib.hid (show PI l p bits 50 f (.int .i64 ((k : Int) + 1)) (wr.alloc (.cells #[.int .u8 kd, .int .u64 ks, .int .i64 kv] 38)) from ⟨k + 1, by go_num, by omega, by rw [HST.out, if_neg k1, if_neg k2]; exact HA.out⟩)
              clear k1 k2 HA
              go_wp2_with fail
              exact ⟨HP.out, by simp [intOf]; omega⟩
        · have hge : k = 50 := by omega
          have HF := Lib.hid h
          clear h hlt hk
          subst hge
          go_wp2_with fail
          go_ret2
          exact ⟨p, rfl, by rw [HMIN.out]; exact HF.out⟩
end Go.Proofs.Ytlficiohenpghaa.Bk
