/- DERIVED. Layer 15 (rehash): the law RehashWrong. -/
import Derived.Test.YtbkmdijiceajkaaReC
import Derived.Deep.DeepCutAuto
set_option linter.unusedVariables false
set_option linter.unusedSimpArgs false
set_option maxRecDepth 100000
namespace Go.Proofs.Ytbkmdijiceajkaa.Re
open Go.RowKit Go.Proofs.Ytbkmdijiceajkaa Go.Proofs.Ytbkmdijiceajkaa.ReP

theorem Own.blkP {l : List HP} {w : World} {b : Nat} {x y : Value} {t : TypeId} (h : Own l w) (hm : Blk b #[x, y] t ∈ l) :
    w.cell? ⟨b, 0, none⟩ = some x ∧ w.cell? ⟨b, 1, none⟩ = some y := by
  simp [World.cell?, Own.blk h hm]
set_option maxHeartbeats 4000000 in
theorem wrong_of (f b : Int) (wf1 : (Lit.int .i64 f).wf = true) (wf2 : (Lit.int .i64 b).wf = true) (w1 : World) :
    Calls Try.prog 4 #[.int .i64 f, .int .i64 b] w1 fun e w' => e = .returned (.bool true) ∧ Ext w1 w' := by
  clear wf1 wf2
  obtain ⟨F, hF⟩ : ∃ F : Bool, F = decide (0 ≤ f ∧ f ≤ 4096 ∧ 0 ≤ b ∧ b ≤ 10) := ⟨_, rfl⟩
  have hW : ∃ V E : Int, Calls Try.prog 5 #[.int .i64 f, .int .i64 b] w1 (fun e w' => e = .returned (.tuple #[.int .i64 V, .int .i64 E]) ∧ w1 = w') ∧ (F = true → E = 0) ∧ (F = false → E = 2 ∧ V = 0) := by
    by_cases hf : 0 ≤ f ∧ f ≤ 4096 ∧ 0 ≤ b ∧ b ≤ 10
    · obtain ⟨n, rfl⟩ := Int.eq_ofNat_of_zero_le hf.1
      obtain ⟨k, rfl⟩ := Int.eq_ofNat_of_zero_le hf.2.2.1
      exact ⟨_, _, want_fine n k (by omega) (by omega) w1, fun _ => rfl, fun h => by rw [hF] at h; simp at h; omega⟩
    · exact ⟨_, _, want_bad f b (by omega) w1, fun h => by rw [hF] at h; simp at h; omega, fun _ => ⟨rfl, rfl⟩⟩
  obtain ⟨V, E, hc, h1, h2⟩ := hW
  have HC := Lib.hid hc
  have H1 := Lib.hid h1
  have H2 := Lib.hid h2
  have HF := Lib.hid hF
  clear hc h1 h2 hF
  go_enter Try.func4, Try.ntmps4
  go_upto_region 2 with (go_at_call 5; refine (HC.out).mono ?_; rintro e w' ⟨rfl, rfl⟩)
  go_cut [7] (fun s7 wx => s7 = .bool F ∧ w1 = wx)
  case first =>
    clear H1 H2 HC
    by_cases f1 : 0 ≤ f
    · by_cases f2 : f ≤ 4096
      · by_cases b1 : 0 ≤ b
        · by_cases b2 : b ≤ 10
          · have e : F = true := by rw [HF.out]; simp; omega
            have HE := Lib.hid e
            clear e HF
            go_wp2_with fail
            go_meet
            case rel => exact ⟨by rw [HE.out], rfl⟩
          · have e : F = false := by rw [HF.out]; simp; omega
            have d : decide (b ≤ 10) = false := by simpa using b2
            have HE := Lib.hid e
            clear e HF b2
            go_wp2_with fail
            go_meet
            case rel => exact ⟨by rw [HE.out], rfl⟩
        · have e : F = false := by rw [HF.out]; simp; omega
          have d : decide (0 ≤ b) = false := by simpa using b1
          have HE := Lib.hid e
          clear e HF b1
          go_wp2_with fail
          go_meet
          case rel => exact ⟨by rw [HE.out], rfl⟩
      · have e : F = false := by rw [HF.out]; simp; omega
        have d : decide (f ≤ 4096) = false := by simpa using f2
        have HE := Lib.hid e
        clear e HF f2
        go_wp2_with fail
        go_meet
        case rel => exact ⟨by rw [HE.out], rfl⟩
    · have e : F = false := by rw [HF.out]; simp; omega
      have d : decide (0 ≤ f) = false := by simpa using f1
      have HE := Lib.hid e
      clear e HF f1
      go_wp2_with fail
      go_meet
      case rel => exact ⟨by rw [HE.out], rfl⟩
  case rest =>
  obtain ⟨rfl, rfl⟩ := hcut
  clear HC HF
  go_upto_region 3 with fail
  go_cut [47] (fun s47 wx => s47 = .bool false ∧ w1 = wx)
  case first =>
    cases F with
    | true =>
      have e := H1.out rfl
      subst e
      clear H1 H2
      go_wp2_with fail
      go_meet
      case rel => exact ⟨rfl, rfl⟩
    | false =>
      obtain ⟨e1, e2⟩ := H2.out rfl
      subst e1 e2
      clear H1 H2
      go_wp2_with fail
      go_meet
      case rel => exact ⟨rfl, rfl⟩
  case rest =>
  obtain ⟨rfl, rfl⟩ := hcut
  clear H1 H2
  have h1 := Own.blkNew (Own.start w1) zeroT 35
  obtain ⟨w2, ew2⟩ : ∃ w2, w1.alloc (.cells zeroT 35) = w2 := ⟨_, rfl⟩
  rw [ew2] at h1
  have h2 := Own.blkNew h1 #[.pointer none, .pointer (some ⟨w1.heap.size, 0, none⟩)] 29
  obtain ⟨w3, ew3⟩ : ∃ w3, w2.alloc (.cells #[.pointer none, .pointer (some ⟨w1.heap.size, 0, none⟩)] 29) = w3 := ⟨_, rfl⟩
  rw [ew3] at h2
  have H := Lib.hid h2
  clear h1 h2
  go_wp2
  refine wp_loop_rounds 3 ?_
  rw [rounds_succ]
  have HN := Lib.hid (nilIn_none [Blk w2.heap.size #[.pointer none, .pointer (some ⟨w1.heap.size, 0, none⟩)] 29, Blk w1.heap.size zeroT 35, Old w1])
  obtain ⟨p0, p1⟩ := Own.blkP (b := w2.heap.size) (x := .pointer none) (y := .pointer (some ⟨w1.heap.size, 0, none⟩)) (t := 29) H.out (by simp)
  clear ew2 ew3
  go_wp2_with fail
  refine (nil_fit HN.out H.out).mono ?_
  rintro e w' ⟨rfl, rfl⟩
  go_wp2_with fail
  refine (nil_spread HN.out H.out).mono ?_
  rintro e w' ⟨rfl, rfl⟩
  go_wp2_with fail
  refine (nil_fullest HN.out H.out).mono ?_
  rintro e w4 ⟨rfl, h4⟩
  replace H := Lib.hid h4
  clear h4
  clear p0 p1
  obtain ⟨p0, p1⟩ := Own.blkP (b := w2.heap.size) (x := .pointer none) (y := .pointer (some ⟨w1.heap.size, 0, none⟩)) (t := 29) H.out (by simp)
  go_wp2_with fail
  rw [rounds_succ]
  clear HN
  have HN := Lib.hid (nilIn_zero [Blk w2.heap.size #[.pointer none, .pointer (some ⟨w1.heap.size, 0, none⟩)] 29, Blk w1.heap.size zeroT 35, Old w1] w1.heap.size (by simp))
  go_wp2_with fail
  refine (nil_fit HN.out H.out).mono ?_
  rintro e w' ⟨rfl, rfl⟩
  go_wp2_with fail
  refine (nil_spread HN.out H.out).mono ?_
  rintro e w' ⟨rfl, rfl⟩
  go_wp2_with fail
  refine (nil_fullest HN.out H.out).mono ?_
  rintro e w5 ⟨rfl, h5⟩
  replace H := Lib.hid h5
  clear h5
  clear p0 p1
  obtain ⟨p0, p1⟩ := Own.blkP (b := w2.heap.size) (x := .pointer none) (y := .pointer (some ⟨w1.heap.size, 0, none⟩)) (t := 29) H.out (by simp)
  go_wp2_with fail
  rw [rounds_succ]
  go_wp2_with fail
  refine (awake_any H.out).mono ?_
  rintro e w' ⟨rfl, rfl⟩
  go_wp2_with fail
  go_ret
  exact ⟨rfl, H.out.ext (by simp)⟩
end Go.Proofs.Ytbkmdijiceajkaa.Re
