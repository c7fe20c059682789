/- DERIVED. Contracts of layer 3 (mix): the turns, forth and back. -/
import Derived.Test.YtlficiohenpghaaMixA
set_option linter.unusedVariables false
set_option linter.unusedSimpArgs false
namespace Go.Proofs.Ytlficiohenpghaa.Mx
open Go.RowKit Go.Proofs.Ytlficiohenpghaa

abbrev fn1 (b : Nat) : Value := .func (.func 53) #[] #[.pointer (some ⟨b, 0, none⟩)]
abbrev fn2 (b : Nat) : Value := .func (.func 54) #[] #[.pointer (some ⟨b, 0, none⟩)]
abbrev tm1 : Value := .func (.func 56) #[] #[]
abbrev tm2 (b : Nat) : Value := .func (.func 57) #[] #[.pointer (some ⟨b, 0, none⟩)]
theorem fold_any (k : Int) (w : World) : Calls Try.prog 48 #[.int .i64 k] w fun e w' => ∃ b, e = .returned (.agg #[fn1 b, fn2 b]) ∧ Ext w w' ∧ w'.cell? ⟨b, 0, none⟩ = some (.int .i64 k) := by
  go_enter Try.func48, Try.ntmps48
  go_wp2
  exact bodyPost_ret (v := .agg #[fn1 w.heap.size, fn2 w.heap.size]) (by simp [results, Try.results48, go_sem]) rfl ⟨_, rfl, ((Ext.refl _).alloc _).alloc _, by simp⟩
theorem times_any (w : World) : Calls Try.prog 49 #[] w fun e w' => ∃ b, e = .returned (.agg #[tm1, tm2 b]) ∧ Ext w w' ∧ w'.cell? ⟨b, 0, none⟩ = some (.int .u64 (MixP.G : Nat)) := by
  go_enter Try.func49, Try.ntmps49
  go_wp2_with fail
  refine (inverse_any _).mono ?_
  rintro e w' ⟨rfl, rfl⟩
  go_wp2
  exact bodyPost_ret (v := .agg #[tm1, tm2 (w.heap.size + 1)]) (by simp [results, Try.results49, go_sem]) rfl ⟨_, rfl, ((Ext.refl _).alloc _).alloc _, by simp⟩
/-- the five turns, as they lie in memory -/
structure Turns (w : World) (b : Nat) : Prop where
  ex : ∃ p1 p2 p3 p4 p5 : Nat,
    (w.cell? ⟨b, 0, none⟩ = some (fn1 p1) ∧ w.cell? ⟨b, 1, none⟩ = some (fn2 p1) ∧ w.cell? ⟨p1, 0, none⟩ = some (.int .i64 32)) ∧
    (w.cell? ⟨b, 2, none⟩ = some tm1 ∧ w.cell? ⟨b, 3, none⟩ = some (tm2 p2) ∧ w.cell? ⟨p2, 0, none⟩ = some (.int .u64 (MixP.G : Nat))) ∧
    (w.cell? ⟨b, 4, none⟩ = some (fn1 p3) ∧ w.cell? ⟨b, 5, none⟩ = some (fn2 p3) ∧ w.cell? ⟨p3, 0, none⟩ = some (.int .i64 29)) ∧
    (w.cell? ⟨b, 6, none⟩ = some tm1 ∧ w.cell? ⟨b, 7, none⟩ = some (tm2 p4) ∧ w.cell? ⟨p4, 0, none⟩ = some (.int .u64 (MixP.G : Nat))) ∧
    (w.cell? ⟨b, 8, none⟩ = some (fn1 p5) ∧ w.cell? ⟨b, 9, none⟩ = some (fn2 p5) ∧ w.cell? ⟨p5, 0, none⟩ = some (.int .i64 32))
theorem Turns.ext {w w' : World} {b : Nat} (h : Turns w b) (k : Ext w w') : Turns w' b := by
  obtain ⟨p1, p2, p3, p4, p5, ⟨a1, a2, a3⟩, ⟨b1, b2, b3⟩, ⟨c1, c2, c3⟩, ⟨d1, d2, d3⟩, ⟨e1, e2, e3⟩⟩ := h.ex
  exact ⟨⟨p1, p2, p3, p4, p5, ⟨k.cell a1, k.cell a2, k.cell a3⟩, ⟨k.cell b1, k.cell b2, k.cell b3⟩, ⟨k.cell c1, k.cell c2, k.cell c3⟩, ⟨k.cell d1, k.cell d2, k.cell d3⟩, ⟨k.cell e1, k.cell e2, k.cell e3⟩⟩⟩
theorem turns_any (w : World) : Calls Try.prog 41 #[] w fun e w' => ∃ b, e = .returned (.slice (some ⟨b, 0, none⟩) 5 5) ∧ Ext w w' ∧ Turns w' b := by
  go_enter Try.func41, Try.ntmps41
  go_wp2_with fail
  refine (fold_any _ _).mono ?_
  rintro e w1 ⟨p1, rfl, g1, c1⟩
  go_wp2_with fail
  refine (times_any _).mono ?_
  rintro e w2 ⟨p2, rfl, g2, c2⟩
  go_wp2_with fail
  refine (fold_any _ _).mono ?_
  rintro e w3 ⟨p3, rfl, g3, c3⟩
  go_wp2_with fail
  refine (times_any _).mono ?_
  rintro e w4 ⟨p4, rfl, g4, c4⟩
  go_wp2_with fail
  refine (fold_any _ _).mono ?_
  rintro e w5 ⟨p5, rfl, g5, c5⟩
  go_wp2
  go_ret
  have g : ∀ (o : Obj), Ext w5 (w5.alloc o) := fun o => (Ext.refl _).alloc o
  refine ⟨w5.heap.size, rfl, (((((g1.trans g2).trans g3).trans g4).trans g5).trans (g _)), ⟨⟨p1, p2, p3, p4, p5, ⟨by simp, by simp, ?_⟩, ⟨by simp, by simp, ?_⟩, ⟨by simp, by simp, ?_⟩, ⟨by simp, by simp, ?_⟩, ⟨by simp, by simp, ?_⟩⟩⟩⟩
  · exact ((((g2.trans g3).trans g4).trans g5).trans (g _)).cell c1
  · exact (((g3.trans g4).trans g5).trans (g _)).cell c2
  · exact ((g4.trans g5).trans (g _)).cell c3
  · exact (g5.trans (g _)).cell c4
  · exact (g _).cell c5
def st (X : Nat) : Nat → Nat
  | 0 => X
  | 1 => MixP.fold 32 X
  | 2 => MixP.tf (MixP.fold 32 X)
  | 3 => MixP.fold 29 (MixP.tf (MixP.fold 32 X))
  | 4 => MixP.tf (MixP.fold 29 (MixP.tf (MixP.fold 32 X)))
  | _ => MixP.mix X
theorem st_lt (X : Nat) (h : X < MixP.M) (k : Nat) : st X k < MixP.M := by
  unfold st
  split
  · exact h
  · exact MixP.fold_lt _ _ h
  · exact MixP.tf_lt _
  · exact MixP.fold_lt _ _ (MixP.tf_lt _)
  · exact MixP.tf_lt _
  · exact MixP.mix_lt X
theorem st_1 (X : Nat) : st X 1 = MixP.fold 32 (st X 0) := by unfold st; simp only []
theorem st_2 (X : Nat) : st X 2 = MixP.tf (st X 1) := by unfold st; simp only []
theorem st_3 (X : Nat) : st X 3 = MixP.fold 29 (st X 2) := by unfold st; simp only []
theorem st_4 (X : Nat) : st X 4 = MixP.tf (st X 3) := by unfold st; simp only []
theorem st_5 (X : Nat) : st X 5 = MixP.fold 32 (st X 4) := by unfold st; simp only []; rfl
theorem st_end (X : Nat) : st X 5 = MixP.mix X := by unfold st; simp only []
theorem mix_any (X : Nat) (h : X < MixP.M) (w : World) : Calls Try.prog 31 #[.int .u64 X] w fun e w' => e = .returned (.int .u64 (MixP.mix X : Nat)) ∧ Ext w w' := by
  go_enter Try.func31, Try.ntmps31
  go_wp2_with fail
  refine (turns_any _).mono ?_
  rintro e w1 ⟨b, rfl, g1, T⟩
  go_wp2
  go_loopw [0, 7] (fun x i wr => Ext w wr ∧ Turns wr b ∧ ∃ k : Nat, k ≤ 5 ∧ i = .int .i64 k ∧ x = .int .u64 (st X k : Nat)) (fun _ i _ => 5 - (intOf i).toNat)
  case atStart => exact ⟨g1, T, 0, by omega, rfl, rfl⟩
  case round =>
    obtain ⟨g, Tr, k, hk, rfl, rfl⟩ := hrel
    obtain ⟨p1, p2, p3, p4, p5, ⟨a1, a2, a3⟩, ⟨b1, b2, b3⟩, ⟨c1, c2, c3⟩, ⟨d1, d2, d3⟩, ⟨e1, e2, e3⟩⟩ := Tr.ex
    have hk' : k = 0 ∨ k = 1 ∨ k = 2 ∨ k = 3 ∨ k = 4 ∨ k = 5 := by omega
    have hl := st_lt X h
    have L : ∀ k, st X k < 18446744073709551616 := fun k => hl k
    have HL := Lib.hid L
    clear L hl
    rcases hk' with rfl | rfl | rfl | rfl | rfl | rfl
    · go_wp2_with fail
      refine (fold1 _ 32 (HL.out 0) (.inl rfl) _ _ (((Ext.refl _).alloc _).cell a3)).mono ?_
      rintro e w' ⟨rfl, rfl⟩
      go_wp2
      go_roundw
      case rel => exact ⟨g.alloc _, Tr.ext ((Ext.refl _).alloc _), 1, by omega, rfl, by rw [st_1]⟩
      case measure => decide
    · go_wp2_with fail
      refine (times1 _ (HL.out 1) _).mono ?_
      rintro e w' ⟨rfl, rfl⟩
      go_wp2
      go_roundw
      case rel => exact ⟨g.alloc _, Tr.ext ((Ext.refl _).alloc _), 2, by omega, rfl, by rw [st_2]⟩
      case measure => decide
    · go_wp2_with fail
      refine (fold1 _ 29 (HL.out 2) (.inr rfl) _ _ (((Ext.refl _).alloc _).cell c3)).mono ?_
      rintro e w' ⟨rfl, rfl⟩
      go_wp2
      go_roundw
      case rel => exact ⟨g.alloc _, Tr.ext ((Ext.refl _).alloc _), 3, by omega, rfl, by rw [st_3]⟩
      case measure => decide
    · go_wp2_with fail
      refine (times1 _ (HL.out 3) _).mono ?_
      rintro e w' ⟨rfl, rfl⟩
      go_wp2
      go_roundw
      case rel => exact ⟨g.alloc _, Tr.ext ((Ext.refl _).alloc _), 4, by omega, rfl, by rw [st_4]⟩
      case measure => decide
    · go_wp2_with fail
      refine (fold1 _ 32 (HL.out 4) (.inl rfl) _ _ (((Ext.refl _).alloc _).cell e3)).mono ?_
      rintro e w' ⟨rfl, rfl⟩
      go_wp2
      go_roundw
      case rel => exact ⟨g.alloc _, Tr.ext ((Ext.refl _).alloc _), 5, by omega, rfl, by rw [st_5]⟩
      case measure => decide
    · go_wp2
      go_ret
      refine ⟨?_, g⟩
      show Ending.returned (.int .u64 ((st X 5 : Nat) : Int)) = _
      rw [st_end]
def su (X : Nat) : Nat → Nat
  | 0 => X
  | 1 => MixP.fold 32 X
  | 2 => MixP.tg (MixP.fold 32 X)
  | 3 => MixP.unfold29 (MixP.tg (MixP.fold 32 X))
  | 4 => MixP.tg (MixP.unfold29 (MixP.tg (MixP.fold 32 X)))
  | _ => MixP.back X
theorem su_lt (X : Nat) (h : X < MixP.M) (k : Nat) : su X k < MixP.M := by
  unfold su
  split
  · exact h
  · exact MixP.fold_lt _ _ h
  · exact MixP.tg_lt _
  · exact MixP.unfold29_lt _ (MixP.tg_lt _)
  · exact MixP.tg_lt _
  · exact MixP.back_lt X
theorem su_1 (X : Nat) : su X 1 = MixP.fold 32 (su X 0) := by unfold su; simp only []
theorem su_2 (X : Nat) : su X 2 = MixP.tg (su X 1) := by unfold su; simp only []
theorem su_3 (X : Nat) : su X 3 = MixP.unfold29 (su X 2) := by unfold su; simp only []
theorem su_4 (X : Nat) : su X 4 = MixP.tg (su X 3) := by unfold su; simp only []
theorem su_5 (X : Nat) : su X 5 = MixP.fold 32 (su X 4) := by unfold su; simp only []; rfl
theorem su_end (X : Nat) : su X 5 = MixP.back X := by unfold su; simp only []
end Go.Proofs.Ytlficiohenpghaa.Mx
