/- DERIVED. Layer 13 (bucket): the law BucketTells. -/
import Derived.Test.YtlficiohenpghaaBkV
import Derived.BigQuiet
import Derived.Deep.DeepCutAuto
import Derived.Deep.CutBlock
set_option linter.unusedVariables false
set_option linter.unusedSimpArgs false
set_option maxRecDepth 100000
namespace Go.Proofs.Ytlficiohenpghaa.Bk
open Go.RowKit Go.Proofs.Ytlficiohenpghaa Go.Proofs.Ytlficiohenpghaa.TreeP Go.Proofs.Ytlficiohenpghaa.Tr

abbrev BO (b : Nat) (kd s x : Int) : HP := Go.Proofs.Ytlficiohenpghaa.Blk b #[.int .u8 kd, .int .u64 s, .int .i64 x] 38
theorem bo_cells {l : List HP} {w : World} {b : Nat} {kd s x : Int} (h : Own l w) (hm : BO b kd s x ∈ l) : w.cell? ⟨b, 0, none⟩ = some (.int .u8 kd) ∧ w.cell? ⟨b, 1, none⟩ = some (.int .u64 s) ∧ w.cell? ⟨b, 2, none⟩ = some (.int .i64 x) := by
  have := Go.Proofs.Ytlficiohenpghaa.Own.blk h hm
  simp [World.cell?, this]
theorem ents_setV : ∀ (F : List En) (k : Nat) (x : Int) (e : En), F[k]? = some e → Tr.ents (F.set k (e.1, x)) = (Tr.ents F).set (k * 3 + 2) (.int .i64 x)
  | [], k, x, e, h => by simp at h
  | y :: F, 0, x, e, h => by
    obtain rfl : y = e := by simpa using h
    simp [Tr.ents, ec]
  | y :: F, k + 1, x, e, h => by
    rw [List.set_cons_succ, Tr.ents, Tr.ents, ents_setV F k x e (by simpa using h), List.set_append_right _ _ (by simp [ec]; omega)]
    congr 2
    simp [ec]
    omega
/-- the buckets, and the document's, in block b9 -/
def TB (w0 : World) (p bits room b9 : Nat) (R : List En) (wx : World) : Prop :=
  ∃ v, Own [Bkt p bits room R, RR v R.length R, BS b9 bits room v, Old w0] wx
/-- and the call at hand -/
def TB2 (w0 : World) (p bits room b9 b12 : Nat) (kd s x : Int) (R : List En) (wx : World) : Prop :=
  ∃ v, Own [Bkt p bits room R, BO b12 kd s x, RR v R.length R, BS b9 bits room v, Old w0] wx
def TBL (w0 : World) (p bits room b9 N : Nat) (vi : Value) (wr : World) : Prop := ∃ (k : Nat) (R : List En), vi = .int .i64 (k : Int) ∧ k ≤ N ∧ TB w0 p bits room b9 R wr
set_option maxHeartbeats 4000000 in
theorem tells_main (bits room : Nat) (v : Value) (n : Nat) (f : Nat → BOp) (w : World) (ho : Ops w v n f) (b5 : bits ≤ 5) (r1 : 1 ≤ room) (r2 : room ≤ 4096) (hn : n ≤ 50) :
    Calls Try.prog 7 #[.int .i64 (bits : Int), .int .i64 (room : Int), v] w fun e w' => e = .returned (.bool true) ∧ Ext w w' := by
  obtain ⟨hs, a, cap, rfl, q1, q2, q3⟩ := ho
  have Q3 := Lib.hid q3
  have HS := Lib.hid hs
  unfold maxLen at q2
  have H0 := Lib.hid (Own.start w)
  have g3 : (bits : Int) ≤ 5 := by omega
  have g4 : (n : Int) ≤ 50 := by omega
  have g5 : (n : Int) ≤ (cap : Int) := by omega
  obtain ⟨P, hP⟩ : ∃ P, P = 2 ^ bits := ⟨_, rfl⟩
  have SP := Lib.hid (sh1 (show bits ≤ 10 by omega) hP)
  have P1 : P ≤ 1024 := by rw [hP]; exact (Nat.pow_le_pow_right (by omega) (show bits ≤ 10 by omega) : 2 ^ bits ≤ 2 ^ 10)
  clear q3 hs hP
  go_enter Try.func7, Try.ntmps7
  go_wp2_with fail
  refine (own_new bits room (by omega) r1 r2 H0.out).mono ?_
  rintro e w1 ⟨p, rfl, h1⟩
  have HN := Lib.hid (rnew_ok bits room (by omega) r1 r2 h1)
  clear h1 H0
  go_wp2_with fail
  refine (HN.out).mono ?_
  rintro e w2 ⟨rfl, h2⟩
  have h3 : Own [BS w2.heap.size bits room (.slice none 0 0), Bkt p bits room [], Old w] (w2.alloc (.cells #[.int .i64 (bits : Int), .int .i64 (room : Int), .slice none 0 0] 51)) := Go.Proofs.Ytlficiohenpghaa.Own.blkNew h2 _ _
  obtain ⟨b9, hb9⟩ : ∃ b, b = w2.heap.size := ⟨_, rfl⟩
  rw [← hb9] at h3
  have HT : Hid (TB w p bits room b9 [] (w2.alloc (.cells #[.int .i64 (bits : Int), .int .i64 (room : Int), .slice none 0 0] 51))) := Lib.hid ⟨_, (h3.nilRowR 32 3).third⟩
  have HB9 := Lib.hid hb9
  clear h2 h3 HN hb9
  go_wp2_with fail
  rw [← HB9.out]
  clear HB9
  go_loopw [70] (fun vi wr => TBL w p bits room b9 n vi wr) (fun vi _ => n - (intOf vi).toNat)
  case atStart => exact ⟨0, [], rfl, Nat.zero_le _, HT.out⟩
  case round =>
    clear HT
    obtain ⟨k, R, rfl, hk, v7, h⟩ := hrel
    by_cases hlt : k < n
    · have hltI : (k : Int) < (n : Int) := by omega
      obtain ⟨b, off, rfl, hb, hcell⟩ := Q3.out (by omega)
      have hx := h.ext (w0 := w) (by simp)
      obtain ⟨s0, s1⟩ := HS.out k (by omega)
      have d0 : wr.cell? ⟨b, off + k * 3, none⟩ = some (.int .u8 (f k).kind) := hx.cell (hcell k 0 (by omega) (by omega))
      have d1 : wr.cell? ⟨b, off + k * 3 + 1, none⟩ = some (.int .u64 (f k).s) := hx.cell (hcell k 1 (by omega) (by omega))
      have d2 : wr.cell? ⟨b, off + k * 3 + 2, none⟩ = some (.int .i64 (f k).v) := hx.cell (hcell k 2 (by omega) (by omega))
      obtain ⟨kd, ekd⟩ : ∃ x, x = (f k).kind := ⟨_, rfl⟩
      obtain ⟨ks, eks⟩ : ∃ x, x = (f k).s := ⟨_, rfl⟩
      obtain ⟨kv, ekv⟩ : ∃ x, x = (f k).v := ⟨_, rfl⟩
      rw [← ekd] at d0
      rw [← eks] at d1 s0 s1
      rw [← ekv] at d2
      have hA := (Go.Proofs.Ytlficiohenpghaa.Own.blkNew h #[.int .u8 kd, .int .u64 ks, .int .i64 kv] 38).swap
      obtain ⟨b12, hb12⟩ : ∃ b, b = wr.heap.size := ⟨_, rfl⟩
      rw [← hb12] at hA
      have HR := Lib.hid (own_rk hA).1
      obtain ⟨va, vc, rfl⟩ := h.second.rowR.slice
      obtain ⟨wA, hwA⟩ : ∃ wA, wA = wr.alloc (.cells #[.int .u8 kd, .int .u64 ks, .int .i64 kv] 38) := ⟨_, rfl⟩
      rw [← hwA] at hA
      have HWA := Lib.hid hwA
      have HB12 := Lib.hid hb12
      obtain ⟨m, hm⟩ : ∃ m, m = R.length := ⟨_, rfl⟩
      have HM := Lib.hid hm
      rw [← hm] at hA
      have mr : m ≤ room := by rw [hm]; exact HR.out.len
      have HA : Hid (Own [Bkt p bits room R, BO b12 kd ks kv, RR (.slice va m vc) m R, BS b9 bits room (.slice va m vc), Old w] wA) := Lib.hid hA
      obtain ⟨o0, o1, o2⟩ := bo_cells HA.out (.tail _ (.head _))
      obtain ⟨z0, z1, z2, f0, f1, f2⟩ := bs_cells HA.out (.tail _ (.tail _ (.tail _ (.head _))))
      have S0 := Lib.hid s0
      have S1 := Lib.hid s1
      clear h hA hx hcell hb ekd eks ekv hwA hb12 hm s0 s1
      go_upto_block 2 with fail
      rw [← HB12.out, ← HWA.out]
      clear HB12 HWA d0 d1 d2
      go_cut [12] (fun s12 wx => s12 = .pointer (some ⟨b12, 0, none⟩) ∧ ∃ R', TB2 w p bits room b9 b12 kd ks kv R' wx)
      case first =>
        by_cases k1 : kd = 1
        · have e1 : (kd == 1) = true := by simp [k1]
          clear k1
          as_aux_lemma =>
          go_wp2_with fail
          refine (own_put HA.out ks kv S0.out S1.out).mono ?_
          rintro e w2 ⟨rfl, h2⟩
          have hp := rput_any (bits := bits) (room := room) h2.third HM.out.symm (by omega) HR.out mr ks kv
          obtain ⟨x, hx⟩ : ∃ x, x = putE room R (ks, 0) := ⟨_, rfl⟩
          obtain ⟨R2, hR2⟩ : ∃ R2, R2 = putT room R (ks, 0) kv := ⟨_, rfl⟩
          rw [← hR2] at h2
          obtain ⟨o0, o1, o2⟩ := bo_cells (b := b12) (kd := kd) (s := ks) (x := kv) h2 (.tail _ (.head _))
          obtain ⟨z0, z1, z2, f0, f1, f2⟩ := bs_cells (b := b9) (bits := bits) (room := room) (v := .slice va m vc) h2 (.tail _ (.tail _ (.tail _ (.head _))))
          rw [← hx, ← hR2] at hp
          rw [← hx]
          have xx : (x != x) = false := by simp
          have HP := Lib.hid hp
          clear hp h2 hx hR2
          go_wp2_with fail
          refine (HP.out).mono ?_
          rintro e w3 ⟨v', rfl, h3⟩
          obtain ⟨va', vc', rfl⟩ := h3.rowR.slice
          have h4 := h3.step ((Ext.refl w3).alloc (.cells #[.int .i64 (bits : Int), .int .i64 (room : Int), .slice va' R2.length vc'] 51))
          obtain ⟨z0, z1, z2, f0, f1, f2⟩ := bs_cells (b := b9) (bits := bits) (room := room) (v := .slice va m vc) h4 (.tail _ (.tail _ (.tail _ (.head _))))
          obtain ⟨w5, e5, h5⟩ := Own.bsSet (bits' := bits) (room' := room) (v' := .slice va' R2.length vc') h4.fourth
          have HF : Hid (TB2 w p bits room b9 b12 kd ks kv R2 w5) := Lib.hid ⟨_, by exact (h5.second).third.fourth.swap.tail (fun h => h)⟩
          clear h3 h4 h5 o0 o1 o2 HP
          go_wp2_with fail
          go_meet
          case rel => exact ⟨rfl, _, HF.out⟩
        · have e1 : (kd == 1) = false := by simp [k1]
          by_cases k2 : kd = 2
          · have e2 : (kd == 2) = true := by simp [k2]
            clear k1 k2
            as_aux_lemma =>
            go_wp2_with fail
            refine (own_drop HA.out ks S0.out S1.out).mono ?_
            rintro e w2 ⟨rfl, h2⟩
            have hp := rdrop_any (bits := bits) (room := room) h2.third HM.out.symm (by omega) HR.out ks
            obtain ⟨x, hx⟩ : ∃ x, x = (Tr.look R (ks, 0)).getD 0 := ⟨_, rfl⟩
            obtain ⟨y, hy⟩ : ∃ y, y = (Tr.look R (ks, 0)).isSome := ⟨_, rfl⟩
            obtain ⟨R2, hR2⟩ : ∃ R2, R2 = del R (ks, 0) := ⟨_, rfl⟩
            rw [← hR2] at h2
            obtain ⟨o0, o1, o2⟩ := bo_cells (b := b12) (kd := kd) (s := ks) (x := kv) h2 (.tail _ (.head _))
            obtain ⟨z0, z1, z2, f0, f1, f2⟩ := bs_cells (b := b9) (bits := bits) (room := room) (v := .slice va m vc) h2 (.tail _ (.tail _ (.tail _ (.head _))))
            rw [← hx, ← hy, ← hR2] at hp
            rw [← hx, ← hy]
            have xx : (x != x) = false := by simp
            have yy : (y != y) = false := by simp
            have HP := Lib.hid hp
            clear hp h2 hx hy hR2
            go_wp2_with fail
            refine (HP.out).mono ?_
            rintro e w3 ⟨v', rfl, h3⟩
            obtain ⟨va', vc', rfl⟩ := h3.rowR.slice
            have h4 := h3.step ((Ext.refl w3).alloc (.cells #[.int .i64 (bits : Int), .int .i64 (room : Int), .slice va' R2.length vc'] 51))
            obtain ⟨z0, z1, z2, f0, f1, f2⟩ := bs_cells (b := b9) (bits := bits) (room := room) (v := .slice va m vc) h4 (.tail _ (.tail _ (.tail _ (.head _))))
            obtain ⟨w5, e5, h5⟩ := Own.bsSet (bits' := bits) (room' := room) (v' := .slice va' R2.length vc') h4.fourth
            have HF : Hid (TB2 w p bits room b9 b12 kd ks kv R2 w5) := Lib.hid ⟨_, (h5.second).third.fourth.swap⟩
            clear h3 h4 h5 o0 o1 o2 HP
            go_wp2_with fail
            go_meet
            case rel => exact ⟨rfl, _, HF.out⟩
          · have e2 : (kd == 2) = false := by simp [k2]
            by_cases k3 : kd = 3
            · have e3 : (kd == 3) = true := by simp [k3]
              clear k1 k2 k3
              as_aux_lemma =>
              go_wp2_with fail
              refine (own_get HA.out ks S0.out S1.out).mono ?_
              rintro e w2 ⟨rfl, h2⟩
              have hp := rget_any (bits := bits) (room := room) h2.third HM.out.symm (by omega) HR.out ks
              obtain ⟨x, hx⟩ : ∃ x, x = (Tr.look R (ks, 0)).getD 0 := ⟨_, rfl⟩
              obtain ⟨y, hy⟩ : ∃ y, y = (Tr.look R (ks, 0)).isSome := ⟨_, rfl⟩
              obtain ⟨o0, o1, o2⟩ := bo_cells (b := b12) (kd := kd) (s := ks) (x := kv) h2 (.tail _ (.head _))
              obtain ⟨z0, z1, z2, f0, f1, f2⟩ := bs_cells (b := b9) (bits := bits) (room := room) (v := .slice va m vc) h2 (.tail _ (.tail _ (.tail _ (.head _))))
              rw [← hx, ← hy] at hp
              rw [← hx, ← hy]
              have xx : (x != x) = false := by simp
              have yy : (y != y) = false := by simp
              have HP := Lib.hid hp
              clear hp h2 hx hy
              go_wp2_with fail
              refine (HP.out).mono ?_
              rintro e w3 ⟨rfl, h3⟩
              have HF : Hid (TB2 w p bits room b9 b12 kd ks kv R w3) := Lib.hid ⟨_, by rw [← HM.out]; exact h3.back3⟩
              clear h3 o0 o1 o2 HP
              go_wp2_with fail
              go_meet
              case rel => exact ⟨rfl, _, HF.out⟩
            · have e3 : (kd == 3) = false := by simp [k3]
              have HF : Hid (TB2 w p bits room b9 b12 kd ks kv R wA) := Lib.hid ⟨_, by rw [← HM.out]; exact HA.out⟩
              clear k1 k2 k3
              as_aux_lemma =>
              go_wp2_with fail
              go_meet
              case rel => exact ⟨rfl, _, HF.out⟩
      case rest =>
        obtain ⟨rfl, R', v8, h⟩ := hcut
        clear o0 o1 o2 z0 z1 z2 f0 f1 f2 HA HR HM mr
        have hrk := (own_rk h).1
        obtain ⟨va8, vc8, rfl⟩ := h.third.rowR.slice
        obtain ⟨m8, hm8⟩ : ∃ m, m = R'.length := ⟨_, rfl⟩
        rw [← hm8] at h
        have mr : m8 ≤ room := by rw [hm8]; exact hrk.len
        obtain ⟨LL, hLL⟩ : ∃ LL, LL = [Bkt p bits room R', BO b12 kd ks kv, RR (.slice va8 m8 vc8) m8 R', BS b9 bits room (.slice va8 m8 vc8), Old w] := ⟨_, rfl⟩
        have h : Own LL wc := by rw [hLL]; exact h
        obtain ⟨Y, hY⟩ : ∃ Y, Y = β bits ks := ⟨_, rfl⟩
        obtain ⟨E, hE⟩ : ∃ E, E = rI bits R' (Y : Int) := ⟨_, rfl⟩
        obtain ⟨M, hM⟩ : ∃ M, M = E.length := ⟨_, rfl⟩
        have hMm : M ≤ m8 := by rw [hM, hE, hm8]; exact rI_len bits R' _
        have HC : ∀ w', Own LL w' → w'.cell? ⟨b9, 0, none⟩ = some (.int .i64 (bits : Int)) ∧ w'.cell? ⟨b9, 1, none⟩ = some (.int .i64 (room : Int)) ∧ w'.cell? ⟨b9, 2, none⟩ = some (.slice va8 m8 vc8) ∧ w'.cell? ⟨b12, 1, none⟩ = some (.int .u64 ks) := fun w' h' => by
          rw [hLL] at h'
          obtain ⟨o0, o1, o2⟩ := bo_cells (b := b12) (kd := kd) (s := ks) (x := kv) h' (.tail _ (.head _))
          obtain ⟨z0, z1, z2, -, -, -⟩ := bs_cells (b := b9) (bits := bits) (room := room) (v := .slice va8 m8 vc8) h' (.tail _ (.tail _ (.tail _ (.head _))))
          exact ⟨z0, z1, z2, o1⟩
        have HLEN : Hid (∀ w', Own LL w' → Calls Try.prog 14 #[.pointer (some ⟨p, 0, none⟩)] w' fun e w2 => e = .returned (.int .i64 (m8 : Int)) ∧ Own LL w2 ∧ w2.cell? ⟨b9, 0, none⟩ = some (.int .i64 (bits : Int)) ∧ w2.cell? ⟨b9, 1, none⟩ = some (.int .i64 (room : Int)) ∧ w2.cell? ⟨b9, 2, none⟩ = some (.slice va8 m8 vc8) ∧ w2.cell? ⟨b12, 1, none⟩ = some (.int .u64 ks)) := Lib.hid fun w' h' => by
          have h2 := h'
          rw [hLL] at h2
          have ho := own_len h2
          rw [← hm8] at ho
          exact ho.mono fun e w2 ⟨he, hw⟩ => ⟨he, hw ▸ h', HC w2 (hw ▸ h')⟩
        have HBIT : Hid (∀ w', Own LL w' → Calls Try.prog 24 #[.pointer (some ⟨p, 0, none⟩)] w' fun e w2 => e = .returned (.int .i64 (bits : Int)) ∧ Own LL w2 ∧ w2.cell? ⟨b9, 0, none⟩ = some (.int .i64 (bits : Int)) ∧ w2.cell? ⟨b9, 1, none⟩ = some (.int .i64 (room : Int)) ∧ w2.cell? ⟨b9, 2, none⟩ = some (.slice va8 m8 vc8) ∧ w2.cell? ⟨b12, 1, none⟩ = some (.int .u64 ks)) := Lib.hid fun w' h' => by
          have h2 := h'
          rw [hLL] at h2
          exact (own_bits h2).mono fun e w2 ⟨he, hw⟩ => ⟨he, hw ▸ h', HC w2 (hw ▸ h')⟩
        have HOF : Hid (∀ w', Own LL w' → Calls Try.prog 12 #[.pointer (some ⟨p, 0, none⟩), .int .u64 ks] w' fun e w2 => e = .returned (.int .i64 (Y : Int)) ∧ Own LL w2 ∧ w2.cell? ⟨b9, 0, none⟩ = some (.int .i64 (bits : Int)) ∧ w2.cell? ⟨b9, 1, none⟩ = some (.int .i64 (room : Int)) ∧ w2.cell? ⟨b9, 2, none⟩ = some (.slice va8 m8 vc8) ∧ w2.cell? ⟨b12, 1, none⟩ = some (.int .u64 ks)) := Lib.hid fun w' h' => by
          have h2 := h'
          rw [hLL] at h2
          have ho := own_of h2 ks S0.out S1.out
          rw [← hY] at ho
          exact ho.mono fun e w2 ⟨he, hx⟩ => ⟨he, h'.step hx, HC w2 (h'.step hx)⟩
        have HROF : Hid (∀ w', Own LL w' → Calls Try.prog 25 #[rs bits room (.slice va8 m8 vc8), .int .u64 ks] w' fun e w2 => e = .returned (.int .i64 (Y : Int)) ∧ Own LL w2 ∧ w2.cell? ⟨b9, 0, none⟩ = some (.int .i64 (bits : Int)) ∧ w2.cell? ⟨b9, 1, none⟩ = some (.int .i64 (room : Int)) ∧ w2.cell? ⟨b9, 2, none⟩ = some (.slice va8 m8 vc8) ∧ w2.cell? ⟨b12, 1, none⟩ = some (.int .u64 ks)) := Lib.hid fun w' h' => by
          have ho := rof_any (room := room) (v := .slice va8 m8 vc8) h' (show bits ≤ 10 by omega) ks S0.out S1.out
          rw [← hY] at ho
          exact ho.mono fun e w2 ⟨he, hx⟩ => ⟨he, hx, HC w2 hx⟩
        have HIN : Hid (∀ w', Own LL w' → Calls Try.prog 10 #[.pointer (some ⟨p, 0, none⟩), .int .i64 (Y : Int)] w' fun e w2 => ∃ v, e = .returned v ∧ Own (RO v E :: LL) w2) := Lib.hid fun w' h' => by
          rw [hLL] at h' ⊢
          rw [hE]
          exact lin_any h' _
        have mm : ((m8 : Int) != (m8 : Int)) = false := by simp
        have bb : ((bits : Int) != (bits : Int)) = false := by simp
        have yy : ((Y : Int) != (Y : Int)) = false := by simp
        obtain ⟨z0, z1, z2, o1⟩ := HC wc h
        have HOWN := Lib.hid h
        have HLL := Lib.hid hLL
        have HE := Lib.hid hE
        have HM := Lib.hid hM
        have HM8 := Lib.hid hm8
        have HRK := Lib.hid hrk
        have HCC := Lib.hid HC
        have HY := Lib.hid hY
        clear h hLL hE hM hm8 hY HC hrk
        go_wp2_with fail
        go_region_held3 (fun w' => Own LL w' ∧ w'.cell? ⟨b9, 0, none⟩ = some (.int .i64 (bits : Int)) ∧ w'.cell? ⟨b9, 1, none⟩ = some (.int .i64 (room : Int)) ∧ w'.cell? ⟨b9, 2, none⟩ = some (.slice va8 m8 vc8) ∧ w'.cell? ⟨b12, 1, none⟩ = some (.int .u64 ks))
          (first | exact ⟨(HOWN.out).step (Ext.refl _).drew, (Ext.refl _).drew.cell z0, (Ext.refl _).drew.cell z1, (Ext.refl _).drew.cell z2, (Ext.refl _).drew.cell o1⟩ | (refine ⟨?_, ?_, ?_, ?_, ?_⟩ <;> assumption))
          (first
            | (go_at_call 14; go_split_ands; refine (HLEN.out _ (by assumption)).mono ?_; rintro e w4 ⟨rfl, hz, z0, z1, z2, z3⟩)
            | (go_at_call 24; go_split_ands; refine (HBIT.out _ (by assumption)).mono ?_; rintro e w4 ⟨rfl, hz, z0, z1, z2, z3⟩)
            | (go_at_call 12; go_split_ands; refine (HOF.out _ (by assumption)).mono ?_; rintro e w4 ⟨rfl, hz, z0, z1, z2, z3⟩)
            | (go_at_call 25; go_split_ands; refine (HROF.out _ (by assumption)).mono ?_; rintro e w4 ⟨rfl, hz, z0, z1, z2, z3⟩))
        all_goals go_split_ands
        all_goals go_wp2_with (first
          | (go_at_call 12; refine (HOF.out _ (by assumption)).mono ?_; rintro e w4 ⟨rfl, hz, z0, z1, z2, z3⟩)
          | (go_at_call 10; refine (HIN.out _ (by assumption)).mono ?_; rintro e w6 ⟨v25, rfl, h6⟩))
        obtain ⟨al, cl, rfl⟩ := own_slice h6.row
        rw [← HM.out]
        obtain ⟨L2, hL2⟩ : ∃ L2, L2 = RO (.slice al E.length cl) E :: LL := ⟨_, rfl⟩
        rw [← hL2] at h6
        have HC2 : ∀ w', Own L2 w' → w'.cell? ⟨b9, 0, none⟩ = some (.int .i64 (bits : Int)) ∧ w'.cell? ⟨b9, 1, none⟩ = some (.int .i64 (room : Int)) ∧ w'.cell? ⟨b9, 2, none⟩ = some (.slice va8 m8 vc8) ∧ w'.cell? ⟨b12, 1, none⟩ = some (.int .u64 ks) := fun w' h' => by
          rw [hL2] at h'
          exact HCC.out w' h'.drop
        have HROF2 : Hid (∀ w', Own L2 w' → Calls Try.prog 25 #[rs bits room (.slice va8 m8 vc8), .int .u64 ks] w' fun e w2 => e = .returned (.int .i64 (Y : Int)) ∧ Own L2 w2 ∧ w2.cell? ⟨b9, 0, none⟩ = some (.int .i64 (bits : Int)) ∧ w2.cell? ⟨b9, 1, none⟩ = some (.int .i64 (room : Int)) ∧ w2.cell? ⟨b9, 2, none⟩ = some (.slice va8 m8 vc8) ∧ w2.cell? ⟨b12, 1, none⟩ = some (.int .u64 ks)) := Lib.hid fun w' h' => by
          have ho := rof_any (room := room) (v := .slice va8 m8 vc8) h' (show bits ≤ 10 by omega) ks S0.out S1.out
          rw [← HY.out] at ho
          exact ho.mono fun e w2 ⟨he, hx⟩ => ⟨he, hx, HC2 w2 hx⟩
        have HRIN2 : Hid (∀ w', Own L2 w' → Calls Try.prog 26 #[rs bits room (.slice va8 m8 vc8), .int .i64 (Y : Int)] w' fun e w2 => ∃ v', e = .returned v' ∧ Own (RO v' E :: L2) w2 ∧ Own L2 w2 ∧ w2.cell? ⟨b9, 0, none⟩ = some (.int .i64 (bits : Int)) ∧ w2.cell? ⟨b9, 1, none⟩ = some (.int .i64 (room : Int)) ∧ w2.cell? ⟨b9, 2, none⟩ = some (.slice va8 m8 vc8) ∧ w2.cell? ⟨b12, 1, none⟩ = some (.int .u64 ks)) := Lib.hid fun w' h' => by
          have h2 := h'
          rw [hL2, HLL.out] at h2
          have ho := rin_any (bits := bits) (room := room) h2.fourth HM8.out.symm (by omega) (by omega) HRK.out (Y : Int)
          rw [← HE.out] at ho
          refine ho.mono fun e w2 ⟨v', he, hx⟩ => ?_
          have h3 : Own (RO v' E :: L2) w2 := by
            rw [hL2, HLL.out]
            exact hx.perm (.cons _ (List.perm_middle (l₁ := [_, _, _])).symm)
          exact ⟨v', he, h3, h3.drop, HC2 w2 h3.drop⟩
        have HSAME2 : Hid (∀ v' w', Own (RO v' E :: L2) w' → Calls Try.prog 18 #[.slice al M cl, v'] w' fun e w2 => e = .returned (.bool true) ∧ Own L2 w2 ∧ w2.cell? ⟨b9, 0, none⟩ = some (.int .i64 (bits : Int)) ∧ w2.cell? ⟨b9, 1, none⟩ = some (.int .i64 (room : Int)) ∧ w2.cell? ⟨b9, 2, none⟩ = some (.slice va8 m8 vc8) ∧ w2.cell? ⟨b12, 1, none⟩ = some (.int .u64 ks)) := Lib.hid fun v' w' h' => by
          rw [HM.out]
          have h2 := h'
          rw [hL2] at h2
          refine (same2 h2 (by rw [← HM.out]; omega)).mono fun e w2 ⟨he, hx⟩ => ?_
          have h3 : Own L2 w2 := by rw [hL2]; exact hx.drop
          exact ⟨he, h3, HC2 w2 h3⟩
        obtain ⟨z0, z1, z2, o1⟩ := HC2 _ h6
        have H6 := Lib.hid h6
        have HL2 := Lib.hid hL2
        clear h6 hL2 HC2 HLEN HBIT HOF HROF HIN HOWN
        go_region_held3 (fun w' => Own L2 w' ∧ w'.cell? ⟨b9, 0, none⟩ = some (.int .i64 (bits : Int)) ∧ w'.cell? ⟨b9, 1, none⟩ = some (.int .i64 (room : Int)) ∧ w'.cell? ⟨b9, 2, none⟩ = some (.slice va8 m8 vc8) ∧ w'.cell? ⟨b12, 1, none⟩ = some (.int .u64 ks))
          (first | exact ⟨(H6.out).step (Ext.refl _).drew, (Ext.refl _).drew.cell z0, (Ext.refl _).drew.cell z1, (Ext.refl _).drew.cell z2, (Ext.refl _).drew.cell o1⟩ | (refine ⟨?_, ?_, ?_, ?_, ?_⟩ <;> assumption))
          (first
            | (go_at_call 25; go_split_ands; refine (HROF2.out _ (by assumption)).mono ?_; rintro e w4 ⟨rfl, hz, z0, z1, z2, z3⟩)
            | (go_at_call 26; go_split_ands; refine (HRIN2.out _ (by assumption)).mono ?_; rintro e w4 ⟨v9, rfl, hy, hz, z0, z1, z2, z3⟩)
            | (go_at_call 18; go_split_ands; refine (HSAME2.out _ _ (by assumption)).mono ?_; rintro e w4 ⟨rfl, hz, z0, z1, z2, z3⟩))
        all_goals go_split_ands
        have HZ2 := Lib.hid (show Own L2 _ by assumption)
        clear HROF2 HRIN2 HSAME2 H6
        go_wp2_with fail
        go_loopw [187] (fun vj wr2 => ∃ (j : Nat) (F : List En), vj = .int .i64 (j : Int) ∧ j ≤ M ∧ F.length = M ∧ Own (Row 32 3 (.slice al M cl) M (Tr.ents F) :: LL) wr2) (fun vj _ => M - (intOf vj).toNat)
        case atStart => exact ⟨0, E, rfl, Nat.zero_le _, HM.out.symm, by have h := HZ2.out; rw [HL2.out] at h; unfold RO at h; rw [← HM.out] at h; exact h⟩
        case round =>
          clear HZ2
          obtain ⟨j, F, rfl, hj, hF, hO⟩ := hrel
          by_cases hjt : j < M
          · obtain ⟨ga, ca, ev, -, -⟩ := own_cap hO.row (by omega)
            injection ev with e1 _ e3
            subst e1 e3
            obtain ⟨e, he⟩ : ∃ e, F[j]? = some e := ⟨_, List.getElem?_eq_getElem (by rw [hF]; exact hjt)⟩
            have rv := (rowEnt (ownsR_of hO.row) he).2.2
            have rf := hO.row.frozen' rfl (j * 3 + 2)
            have hset := hO.rowSet (o := j * 3 + 2) (by omega) (.int .i64 (wrap64 (e.2 + 1)))
            rw [← ents_setV F j _ e he] at hset
            have HS' := Lib.hid hset
            have HFL := Lib.hid (show (F.set j (e.1, wrap64 (e.2 + 1))).length = M by rw [List.length_set]; exact hF)
            have hjI : (j : Int) < (M : Int) := by omega
            obtain ⟨u, hu⟩ : ∃ u, u = e.2 := ⟨_, rfl⟩
            rw [← hu] at rv HS' HFL
            clear hO hset he hF hu
            go_wp2_with fail
            go_roundw
            case rel => exact ⟨j + 1, _, by go_num, by omega, HFL.out, HS'.out⟩
            case measure => simp only [intOf]; omega
          · have HX : Hid (TBL w p bits room b9 n (.int .i64 ((k : Int) + 1)) _) := Lib.hid ⟨k + 1, R', by go_num, by omega, _, by have h := hO.drop; rw [HLL.out] at h; rw [← HM8.out]; exact h.swap.drop⟩
            obtain rfl : j = M := by omega
            clear hO hF
            go_wp2_with fail
            exact ⟨HX.out, by simp [intOf]; omega⟩
    · obtain rfl : k = n := by omega
      have hrk := (own_rk h).1
      obtain ⟨va8, vc8, rfl⟩ := h.second.rowR.slice
      obtain ⟨m8, hm8⟩ : ∃ m, m = R.length := ⟨_, rfl⟩
      rw [← hm8] at h
      have mr : m8 ≤ room := by rw [hm8]; exact hrk.len
      obtain ⟨LL, hLL⟩ : ∃ LL, LL = [Bkt p bits room R, RR (.slice va8 m8 vc8) m8 R, BS b9 bits room (.slice va8 m8 vc8), Old w] := ⟨_, rfl⟩
      rw [← hLL] at h
      have HCC : Hid (∀ w', Own LL w' → w'.cell? ⟨b9, 0, none⟩ = some (.int .i64 (bits : Int)) ∧ w'.cell? ⟨b9, 1, none⟩ = some (.int .i64 (room : Int)) ∧ w'.cell? ⟨b9, 2, none⟩ = some (.slice va8 m8 vc8)) := Lib.hid fun w' h' => by
        rw [hLL] at h'
        obtain ⟨z0, z1, z2, -, -, -⟩ := bs_cells (b := b9) (bits := bits) (room := room) (v := .slice va8 m8 vc8) h' (.tail _ (.tail _ (.head _)))
        exact ⟨z0, z1, z2⟩
      have HOWN := Lib.hid h
      have HLL := Lib.hid hLL
      have HM8 := Lib.hid hm8
      have HRK := Lib.hid hrk
      clear h hLL hm8 hrk hlt hk
      go_wp2_with fail
      go_loopw [27] (fun vi wr2 => ∃ j : Nat, vi = .int .i64 ((j : Int) - 1) ∧ j ≤ P + 2 ∧ Own LL wr2) (fun vi _ => P + 2 - (intOf vi + 1).toNat)
      case atStart => exact ⟨0, rfl, Nat.zero_le _, HOWN.out⟩
      case round =>
        clear HOWN
        obtain ⟨j, rfl, hj, h⟩ := hrel
        have sP := SP.out
        obtain ⟨I, hI⟩ : ∃ I : Int, I = (j : Int) - 1 := ⟨_, rfl⟩
        rw [← hI]
        have i0 : -1 ≤ I := by omega
        by_cases hlt : j < P + 2
        · have hle : I ≤ (P : Int) := by omega
          obtain ⟨E, hE⟩ : ∃ E, E = rI bits R I := ⟨_, rfl⟩
          have hEl : E.length ≤ m8 := by rw [hE, HM8.out]; exact rI_len bits R _
          have HIN : Hid (∀ w', Own LL w' → Calls Try.prog 10 #[.pointer (some ⟨p, 0, none⟩), .int .i64 I] w' fun e w2 => ∃ v, e = .returned v ∧ Own (RO v E :: LL) w2 ∧ Own LL w2 ∧ w2.cell? ⟨b9, 0, none⟩ = some (.int .i64 (bits : Int)) ∧ w2.cell? ⟨b9, 1, none⟩ = some (.int .i64 (room : Int)) ∧ w2.cell? ⟨b9, 2, none⟩ = some (.slice va8 m8 vc8)) := Lib.hid fun w' h' => by
            have h2 := h'
            rw [HLL.out] at h2
            have ho := lin_any h2 I
            rw [← hE] at ho
            refine ho.mono fun e w2 ⟨v, he, hx⟩ => ?_
            have h3 : Own (RO v E :: LL) w2 := by rw [HLL.out]; exact hx
            exact ⟨v, he, h3, h3.drop, HCC.out w2 h3.drop⟩
          have HRIN : Hid (∀ v w', Own (RO v E :: LL) w' → Calls Try.prog 26 #[rs bits room (.slice va8 m8 vc8), .int .i64 I] w' fun e w2 => ∃ v', e = .returned v' ∧ Own (RO v' E :: RO v E :: LL) w2 ∧ Own LL w2 ∧ w2.cell? ⟨b9, 0, none⟩ = some (.int .i64 (bits : Int)) ∧ w2.cell? ⟨b9, 1, none⟩ = some (.int .i64 (room : Int)) ∧ w2.cell? ⟨b9, 2, none⟩ = some (.slice va8 m8 vc8)) := Lib.hid fun v w' h' => by
            have h2 := h'
            rw [HLL.out] at h2
            have ho := rin_any (bits := bits) (room := room) h2.third HM8.out.symm (by omega) (by omega) HRK.out I
            rw [← hE] at ho
            refine ho.mono fun e w2 ⟨v', he, hx⟩ => ?_
            have h3 : Own (RO v' E :: RO v E :: LL) w2 := by
              rw [HLL.out]
              exact hx.perm (.cons _ (List.perm_middle (l₁ := [_, _])).symm)
            exact ⟨v', he, h3, h3.drop.drop, HCC.out w2 h3.drop.drop⟩
          have HSAME : Hid (∀ v v' w', Own (RO v' E :: RO v E :: LL) w' → Calls Try.prog 18 #[v, v'] w' fun e w2 => e = .returned (.bool true) ∧ Own LL w2 ∧ w2.cell? ⟨b9, 0, none⟩ = some (.int .i64 (bits : Int)) ∧ w2.cell? ⟨b9, 1, none⟩ = some (.int .i64 (room : Int)) ∧ w2.cell? ⟨b9, 2, none⟩ = some (.slice va8 m8 vc8)) := Lib.hid fun v v' w' h' => by
            refine (same2 h' (by omega)).mono fun e w2 ⟨he, hx⟩ => ?_
            exact ⟨he, hx.drop.drop, HCC.out w2 hx.drop.drop⟩
          obtain ⟨z0, z1, z2⟩ := HCC.out _ h
          have H := Lib.hid h
          have HI := Lib.hid hI
          clear h hE hI
          go_wp2_with fail
          go_region_held3 (fun w' => Own LL w' ∧ w'.cell? ⟨b9, 0, none⟩ = some (.int .i64 (bits : Int)) ∧ w'.cell? ⟨b9, 1, none⟩ = some (.int .i64 (room : Int)) ∧ w'.cell? ⟨b9, 2, none⟩ = some (.slice va8 m8 vc8))
            (first | exact ⟨(H.out).step (Ext.refl _).drew, (Ext.refl _).drew.cell z0, (Ext.refl _).drew.cell z1, (Ext.refl _).drew.cell z2⟩ | (refine ⟨?_, ?_, ?_, ?_⟩ <;> assumption))
            (first
              | (go_at_call 10; go_split_ands; refine (HIN.out _ (by assumption)).mono ?_; rintro e w4 ⟨v8, rfl, hy, hz, z0, z1, z2⟩)
              | (go_at_call 26; go_split_ands; refine (HRIN.out _ _ (by assumption)).mono ?_; rintro e w4 ⟨v9, rfl, hy, hz, z0, z1, z2⟩)
              | (go_at_call 18; go_split_ands; refine (HSAME.out _ _ _ (by assumption)).mono ?_; rintro e w4 ⟨rfl, hz, z0, z1, z2⟩))
          all_goals go_split_ands
          have HZ := Lib.hid (show Own LL _ by assumption)
          clear HIN HRIN HSAME H
          go_wp2_with fail
          exact ⟨⟨j + 1, by rw [HI.out]; go_num, by omega, HZ.out⟩, by have := HI.out; simp [intOf]; omega⟩
        · have hle : ¬ I ≤ (P : Int) := by omega
          have hle2 : (P : Int) < I := by omega
          have H := Lib.hid h
          clear h hI
          go_wp2_with fail
          refine (awake_any H.out).mono ?_
          rintro e w8 ⟨rfl, h8⟩
          have H8 := Lib.hid h8
          clear h8 H
          go_wp2_with fail
          go_ret
          exact ⟨rfl, by have h := H8.out; rw [HLL.out] at h; exact h.ext (by simp)⟩
end Go.Proofs.Ytlficiohenpghaa.Bk
