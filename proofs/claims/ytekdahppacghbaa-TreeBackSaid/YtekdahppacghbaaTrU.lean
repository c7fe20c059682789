/- DERIVED. Layer 6 (tree): calls that came in; contract of played. -/
import Derived.Test.YtekdahppacghbaaTrT
import Derived.Test.YtekdahppacghbaaTrP
import Derived.Test.YtekdahppacghbaaArgs
import Derived.Lib.SmallJoins
set_option linter.unusedVariables false
set_option linter.unusedSimpArgs false
set_option maxRecDepth 100000
namespace Go.Proofs.Ytekdahppacghbaa.Tr
open Go.RowKit Go.Proofs.Ytekdahppacghbaa Go.Proofs.Ytekdahppacghbaa.TreeP

/-- a call that came in -/
structure Op where
  kind : Int
  a : Int
  s : Int
  v : Int
def oc (o : Op) : Nat → Value
  | 0 => .int .u8 o.kind
  | 1 => .int .u64 o.a
  | 2 => .int .u64 o.s
  | _ => .int .i64 o.v
/-- n calls -/
def Ops (W : World) (v : Value) (n : Nat) (f : Nat → Op) : Prop :=
  ∃ a cap, v = .slice a n cap ∧ n ≤ cap ∧ cap ≤ maxLen ∧ (0 < n → ∃ b off, a = some ⟨b, off, none⟩ ∧ b < W.heap.size ∧ ∀ i c, i < n → c < 4 → W.cell? ⟨b, off + i * 4 + c, none⟩ = some (oc (f i) c))
theorem rising_of {p room : Nat} {E : List En} {l : List HP} {w : World} (h : Own (Tree p room E :: l) w) : RisingE E ∧ E.length ≤ room := by
  obtain ⟨g, cap, fr, free, many, S, t, hl, hi, he, K, K2⟩ := tree_open h
  refine ⟨he ▸ hi.riseE, ?_⟩
  have := hi.cnt
  have := hi.mr
  rw [← he, List.length_map]
  omega
def PI (l0 : List HP) (p n : Nat) (vi : Value) (wr : World) : Prop := ∃ (k : Nat) (E : List En), vi = .int .i64 (k : Int) ∧ k ≤ n ∧ Own (Tree p 60 E :: l0) wr
set_option maxHeartbeats 2000000 in
theorem played_any {W0 : World} {l : List HP} {w : World} (v : Value) (n : Nat) (f : Nat → Op) (ho : Ops W0 v n f) (h : Own l w) (hold : Old W0 ∈ l) :
    Calls Try.prog 9 #[v] w fun e w' => ∃ (p : Nat) (E : List En), e = .returned (.pointer (some ⟨p, 0, none⟩)) ∧ Own (Tree p 60 E :: l) w' := by
  obtain ⟨a, cap, rfl, q1, q2, q3⟩ := ho
  have H := Lib.hid h
  have Q3 := Lib.hid q3
  have HOLD := Lib.hid hold
  unfold maxLen at q2
  clear h q3 hold
  by_cases n1 : n < 120
  · skip
    have nI : (n : Int) < 120 := by omega
    have mI : (n : Int) ≤ (cap : Int) := by omega
    go_enter Try.func9, Try.ntmps9
    go_wp2_with fail
    refine (own_new 60 (by omega) (by omega) H.out).mono ?_
    rintro e w1 ⟨p, rfl, h1⟩
    have H1 := Lib.hid h1
    clear h1 H
    go_wp2_with fail
    go_loopw [17] (fun vi wr => PI l p n vi wr) (fun vi _ => n - (intOf vi).toNat)
    case atStart => exact ⟨0, [], rfl, Nat.zero_le _, H1.out⟩
    case round =>
      clear H1
      obtain ⟨k, E, rfl, hk, h⟩ := hrel
      by_cases hlt : k < n
      · have hltI : (k : Int) < (n : Int) := by omega
        obtain ⟨b, off, rfl, hb, hcell⟩ := Q3.out (by omega)
        have hx := h.ext (.tail _ HOLD.out)
        have d0 : wr.cell? ⟨b, off + k * 4, none⟩ = some (.int .u8 (f k).kind) := hx.cell (hcell k 0 (by omega) (by omega))
        have d1 : wr.cell? ⟨b, off + k * 4 + 1, none⟩ = some (.int .u64 (f k).a) := hx.cell (hcell k 1 (by omega) (by omega))
        have d2 : wr.cell? ⟨b, off + k * 4 + 2, none⟩ = some (.int .u64 (f k).s) := hx.cell (hcell k 2 (by omega) (by omega))
        have d3 : wr.cell? ⟨b, off + k * 4 + 3, none⟩ = some (.int .i64 (f k).v) := hx.cell (hcell k 3 (by omega) (by omega))
        obtain ⟨kd, ekd⟩ : ∃ x, x = (f k).kind := ⟨_, rfl⟩
        obtain ⟨ka, eka⟩ : ∃ x, x = (f k).a := ⟨_, rfl⟩
        obtain ⟨ks, eks⟩ : ∃ x, x = (f k).s := ⟨_, rfl⟩
        obtain ⟨kv, ekv⟩ : ∃ x, x = (f k).v := ⟨_, rfl⟩
        rw [← ekd] at d0
        rw [← eka] at d1
        rw [← eks] at d2
        rw [← ekv] at d3
        have hA := h.step ((Ext.refl wr).alloc (.cells #[.int .u8 kd, .int .u64 ka, .int .u64 ks, .int .i64 kv] 52))
        have HA := Lib.hid hA
        clear h hA hx hcell hb ekd eka eks ekv
        by_cases k1 : kd = 1
        · have e1 : (kd == 1) = true := by simp [k1]
          clear k1
          go_wp2_with fail
          refine (own_put HA.out ka ks kv).mono ?_
          rintro e w2 ⟨rfl, h2⟩
          have HP := Lib.hid (show PI l p n (.int .i64 ((k : Int) + 1)) w2 from ⟨k + 1, _, by go_num, by omega, h2⟩)
          clear h2 HA
          go_wp2_with fail
          exact ⟨HP.out, by simp [intOf]; omega⟩
        · have e1 : (kd == 1) = false := by simp [k1]
          by_cases k2 : kd = 2
          · have e2 : (kd == 2) = true := by simp [k2]
            clear k1 k2
            go_wp2_with fail
            refine (own_drop HA.out ka ks).mono ?_
            rintro e w2 ⟨rfl, h2⟩
            have HP := Lib.hid (show PI l p n (.int .i64 ((k : Int) + 1)) w2 from ⟨k + 1, _, by go_num, by omega, h2⟩)
            clear h2 HA
            go_wp2_with fail
            exact ⟨HP.out, by simp [intOf]; omega⟩
          · have e2 : (kd == 2) = false := by simp [k2]
            have HP := Lib.hid (show PI l p n (.int .i64 ((k : Int) + 1)) (wr.alloc (.cells #[.int .u8 kd, .int .u64 ka, .int .u64 ks, .int .i64 kv] 52)) from ⟨k + 1, _, by go_num, by omega, HA.out⟩)
            clear k1 k2 HA
            go_wp2_with fail
            exact ⟨HP.out, by simp [intOf]; omega⟩
      · have hge : k = n := by omega
        have HF := Lib.hid h
        clear h hlt hk
        subst hge
        go_wp2_with fail
        go_ret
        exact ⟨p, E, rfl, HF.out⟩
  · by_cases n2 : 120 < n
    · skip
      have nI : (120 : Int) < (n : Int) := by omega
      have mI : (120 : Int) ≤ (cap : Int) := by omega
      go_enter Try.func9, Try.ntmps9
      go_wp2_with fail
      refine (own_new 60 (by omega) (by omega) H.out).mono ?_
      rintro e w1 ⟨p, rfl, h1⟩
      have H1 := Lib.hid h1
      clear h1 H
      go_wp2_with fail
      go_loopw [17] (fun vi wr => PI l p 120 vi wr) (fun vi _ => 120 - (intOf vi).toNat)
      case atStart => exact ⟨0, [], rfl, Nat.zero_le _, H1.out⟩
      case round =>
        clear H1
        obtain ⟨k, E, rfl, hk, h⟩ := hrel
        by_cases hlt : k < 120
        · have hltI : (k : Int) < (120 : Int) := by omega
          obtain ⟨b, off, rfl, hb, hcell⟩ := Q3.out (by omega)
          have hx := h.ext (.tail _ HOLD.out)
          have d0 : wr.cell? ⟨b, off + k * 4, none⟩ = some (.int .u8 (f k).kind) := hx.cell (hcell k 0 (by omega) (by omega))
          have d1 : wr.cell? ⟨b, off + k * 4 + 1, none⟩ = some (.int .u64 (f k).a) := hx.cell (hcell k 1 (by omega) (by omega))
          have d2 : wr.cell? ⟨b, off + k * 4 + 2, none⟩ = some (.int .u64 (f k).s) := hx.cell (hcell k 2 (by omega) (by omega))
          have d3 : wr.cell? ⟨b, off + k * 4 + 3, none⟩ = some (.int .i64 (f k).v) := hx.cell (hcell k 3 (by omega) (by omega))
          obtain ⟨kd, ekd⟩ : ∃ x, x = (f k).kind := ⟨_, rfl⟩
          obtain ⟨ka, eka⟩ : ∃ x, x = (f k).a := ⟨_, rfl⟩
          obtain ⟨ks, eks⟩ : ∃ x, x = (f k).s := ⟨_, rfl⟩
          obtain ⟨kv, ekv⟩ : ∃ x, x = (f k).v := ⟨_, rfl⟩
          rw [← ekd] at d0
          rw [← eka] at d1
          rw [← eks] at d2
          rw [← ekv] at d3
          have hA := h.step ((Ext.refl wr).alloc (.cells #[.int .u8 kd, .int .u64 ka, .int .u64 ks, .int .i64 kv] 52))
          have HA := Lib.hid hA
          clear h hA hx hcell hb ekd eka eks ekv
          by_cases k1 : kd = 1
          · have e1 : (kd == 1) = true := by simp [k1]
            clear k1
            go_wp2_with fail
            refine (own_put HA.out ka ks kv).mono ?_
            rintro e w2 ⟨rfl, h2⟩
            have HP := Lib.hid (show PI l p 120 (.int .i64 ((k : Int) + 1)) w2 from ⟨k + 1, _, by go_num, by omega, h2⟩)
            clear h2 HA
            go_wp2_with fail
            exact ⟨HP.out, by simp [intOf]; omega⟩
          · have e1 : (kd == 1) = false := by simp [k1]
            by_cases k2 : kd = 2
            · have e2 : (kd == 2) = true := by simp [k2]
              clear k1 k2
              go_wp2_with fail
              refine (own_drop HA.out ka ks).mono ?_
              rintro e w2 ⟨rfl, h2⟩
              have HP := Lib.hid (show PI l p 120 (.int .i64 ((k : Int) + 1)) w2 from ⟨k + 1, _, by go_num, by omega, h2⟩)
              clear h2 HA
              go_wp2_with fail
              exact ⟨HP.out, by simp [intOf]; omega⟩
            · have e2 : (kd == 2) = false := by simp [k2]
              have HP := Lib.hid (show PI l p 120 (.int .i64 ((k : Int) + 1)) (wr.alloc (.cells #[.int .u8 kd, .int .u64 ka, .int .u64 ks, .int .i64 kv] 52)) from ⟨k + 1, _, by go_num, by omega, HA.out⟩)
              clear k1 k2 HA
              go_wp2_with fail
              exact ⟨HP.out, by simp [intOf]; omega⟩
        · have hge : k = 120 := by omega
          have HF := Lib.hid h
          clear h hlt hk
          subst hge
          go_wp2_with fail
          go_ret
          exact ⟨p, E, rfl, HF.out⟩
    · obtain rfl : n = 120 := by omega
      clear n1 n2
      have mI : (120 : Int) ≤ (cap : Int) := by omega
      go_enter Try.func9, Try.ntmps9
      go_wp2_with fail
      refine (own_new 60 (by omega) (by omega) H.out).mono ?_
      rintro e w1 ⟨p, rfl, h1⟩
      have H1 := Lib.hid h1
      clear h1 H
      go_wp2_with fail
      go_loopw [17] (fun vi wr => PI l p 120 vi wr) (fun vi _ => 120 - (intOf vi).toNat)
      case atStart => exact ⟨0, [], rfl, Nat.zero_le _, H1.out⟩
      case round =>
        clear H1
        obtain ⟨k, E, rfl, hk, h⟩ := hrel
        by_cases hlt : k < 120
        · have hltI : (k : Int) < (120 : Int) := by omega
          obtain ⟨b, off, rfl, hb, hcell⟩ := Q3.out (by omega)
          have hx := h.ext (.tail _ HOLD.out)
          have d0 : wr.cell? ⟨b, off + k * 4, none⟩ = some (.int .u8 (f k).kind) := hx.cell (hcell k 0 (by omega) (by omega))
          have d1 : wr.cell? ⟨b, off + k * 4 + 1, none⟩ = some (.int .u64 (f k).a) := hx.cell (hcell k 1 (by omega) (by omega))
          have d2 : wr.cell? ⟨b, off + k * 4 + 2, none⟩ = some (.int .u64 (f k).s) := hx.cell (hcell k 2 (by omega) (by omega))
          have d3 : wr.cell? ⟨b, off + k * 4 + 3, none⟩ = some (.int .i64 (f k).v) := hx.cell (hcell k 3 (by omega) (by omega))
          obtain ⟨kd, ekd⟩ : ∃ x, x = (f k).kind := ⟨_, rfl⟩
          obtain ⟨ka, eka⟩ : ∃ x, x = (f k).a := ⟨_, rfl⟩
          obtain ⟨ks, eks⟩ : ∃ x, x = (f k).s := ⟨_, rfl⟩
          obtain ⟨kv, ekv⟩ : ∃ x, x = (f k).v := ⟨_, rfl⟩
          rw [← ekd] at d0
          rw [← eka] at d1
          rw [← eks] at d2
          rw [← ekv] at d3
          have hA := h.step ((Ext.refl wr).alloc (.cells #[.int .u8 kd, .int .u64 ka, .int .u64 ks, .int .i64 kv] 52))
          have HA := Lib.hid hA
          clear h hA hx hcell hb ekd eka eks ekv
          by_cases k1 : kd = 1
          · have e1 : (kd == 1) = true := by simp [k1]
            clear k1
            go_wp2_with fail
            refine (own_put HA.out ka ks kv).mono ?_
            rintro e w2 ⟨rfl, h2⟩
            have HP := Lib.hid (show PI l p 120 (.int .i64 ((k : Int) + 1)) w2 from ⟨k + 1, _, by go_num, by omega, h2⟩)
            clear h2 HA
            go_wp2_with fail
            exact ⟨HP.out, by simp [intOf]; omega⟩
          · have e1 : (kd == 1) = false := by simp [k1]
            by_cases k2 : kd = 2
            · have e2 : (kd == 2) = true := by simp [k2]
              clear k1 k2
              go_wp2_with fail
              refine (own_drop HA.out ka ks).mono ?_
              rintro e w2 ⟨rfl, h2⟩
              have HP := Lib.hid (show PI l p 120 (.int .i64 ((k : Int) + 1)) w2 from ⟨k + 1, _, by go_num, by omega, h2⟩)
              clear h2 HA
              go_wp2_with fail
              exact ⟨HP.out, by simp [intOf]; omega⟩
            · have e2 : (kd == 2) = false := by simp [k2]
              have HP := Lib.hid (show PI l p 120 (.int .i64 ((k : Int) + 1)) (wr.alloc (.cells #[.int .u8 kd, .int .u64 ka, .int .u64 ks, .int .i64 kv] 52)) from ⟨k + 1, _, by go_num, by omega, HA.out⟩)
              clear k1 k2 HA
              go_wp2_with fail
              exact ⟨HP.out, by simp [intOf]; omega⟩
        · have hge : k = 120 := by omega
          have HF := Lib.hid h
          clear h hlt hk
          subst hge
          go_wp2_with fail
          go_ret
          exact ⟨p, E, rfl, HF.out⟩
end Go.Proofs.Ytekdahppacghbaa.Tr
