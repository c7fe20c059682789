/- DERIVED. Layer 19 (delay): the law DelayNone. -/
import Derived.Test.YtlficiohenpghabDyF
set_option linter.unusedVariables false
set_option linter.unusedSimpArgs false
set_option maxRecDepth 100000
namespace Go.Proofs.Ytlficiohenpghab.Dy
open Go.RowKit Go.Maps Go.Proofs.Ytlficiohenpghab Go.Proofs.Ytlficiohenpghab.TreeP Go.Proofs.Ytlficiohenpghab.Tr Go.Proofs.Ytlficiohenpghab.Wk

abbrev zeroD : Array Value := #[.pointer none, .map none, .int .i64 0, .int .u64 0]
set_option maxHeartbeats 4000000 in
theorem none_row (f at' : Int) (hf : (Lit.int .i64 f).wf = true) (hat : (Lit.int .u64 at').wf = true) (w : World) :
    Calls Try.prog 8 #[.int .i64 f, .int .u64 at'] w fun e w' => e = .returned (.bool true) ∧ Ext w w' := by
  have h1 := Go.Proofs.Ytlficiohenpghab.Own.blkNew (Go.Proofs.Ytlficiohenpghab.Own.blkNew (Own.start w) zeroD 62) #[.pointer none, .pointer (some ⟨w.heap.size, 0, none⟩)] 23
  rw [World.size_alloc] at h1
  obtain ⟨W, hW⟩ : ∃ W, (w.alloc (.cells zeroD 62)).alloc (.cells #[.pointer none, .pointer (some ⟨w.heap.size, 0, none⟩)] 23) = W := ⟨_, rfl⟩
  rw [hW] at h1
  obtain ⟨bz, hbz⟩ : ∃ b, b = w.heap.size := ⟨_, rfl⟩
  rw [← hbz] at h1
  obtain ⟨LL, hLL⟩ : ∃ LL, LL = [Go.Proofs.Ytlficiohenpghab.Blk (bz + 1) #[.pointer none, .pointer (some ⟨bz, 0, none⟩)] 23, Go.Proofs.Ytlficiohenpghab.Blk bz zeroD 62, Old w] := ⟨_, rfl⟩
  rw [← hLL] at h1
  have HP : Hid (∀ w', Own LL w' → ∀ i, i < 2 → ∃ a, w'.cell? ⟨bz + 1, i, none⟩ = some (.pointer a) ∧ NilD w' a) := Lib.hid fun w' h' i hi => by
    rw [hLL] at h'
    have hb := Go.Proofs.Ytlficiohenpghab.Own.blk h' (.head _)
    have hz := Go.Proofs.Ytlficiohenpghab.Own.blk h' (.tail _ (.head _))
    rcases i with _ | _ | i
    · exact ⟨none, by simp [World.cell?, hb], .inl rfl⟩
    · exact ⟨some ⟨bz, 0, none⟩, by simp [World.cell?, hb], .inr ⟨bz, rfl, by simp [World.cell?, hz]⟩⟩
    · omega
  have HOLD : Hid (∀ w', Own LL w' → Ext w w') := Lib.hid fun w' h' => by
    rw [hLL] at h'
    exact h'.ext (by simp)
  have H1 := Lib.hid h1
  have HW := Lib.hid hW
  have HBZ := Lib.hid hbz
  clear h1 hW hbz hLL hf hat
  go_enter Try.func8, Try.ntmps8
  go_wp2_with fail
  rw [HW.out, ← HBZ.out]
  go_loopw [15] (fun vi wr => ∃ i : Nat, vi = .int .i64 (i : Int) ∧ i ≤ 2 ∧ Own LL wr) (fun vi _ => 2 - (intOf vi).toNat)
  case atStart => exact ⟨0, rfl, by omega, H1.out⟩
  case round =>
    clear H1 HW HBZ
    obtain ⟨i, rfl, hi, h⟩ := hrel
    by_cases hlt : i < 2
    · have hltI : (i : Int) < 2 := by omega
      obtain ⟨a, ca, hn⟩ := HP.out wr h i hlt
      have HN := Lib.hid hn
      have HX : Hid (∃ i2 : Nat, (.int .i64 ((i : Int) + 1) : Value) = .int .i64 (i2 : Int) ∧ i2 ≤ 2 ∧ Own LL wr) := Lib.hid ⟨i + 1, by go_num, by omega, h⟩
      clear h hn
      go_wp2_with fail
      refine (nil_at HN.out f).mono ?_
      rintro e w' ⟨rfl, rfl⟩
      go_wp2_with fail
      refine (nil_next HN.out).mono ?_
      rintro e w' ⟨rfl, rfl⟩
      go_wp2_with fail
      refine (nil_put HN.out f at').mono ?_
      rintro e w' ⟨rfl, rfl⟩
      go_wp2_with fail
      refine (nil_drop HN.out f).mono ?_
      rintro e w' ⟨rfl, rfl⟩
      go_wp2_with fail
      refine (nil_len HN.out).mono ?_
      rintro e w' ⟨rfl, rfl⟩
      go_wp2_with fail
      refine (nil_wake HN.out at' 9).mono ?_
      rintro e w' ⟨rfl, rfl⟩
      go_wp2_with fail
      exact ⟨HX.out, by simp [intOf]; omega⟩
    · obtain rfl : i = 2 := by omega
      have H := Lib.hid h
      clear h hlt hi
      go_wp2_with fail
      refine (awake_any H.out).mono ?_
      rintro e w8 ⟨rfl, h8⟩
      have H8 := Lib.hid h8
      clear h8 H
      go_wp2_with fail
      go_ret
      exact ⟨rfl, HOLD.out _ H8.out⟩
end Go.Proofs.Ytlficiohenpghab.Dy
