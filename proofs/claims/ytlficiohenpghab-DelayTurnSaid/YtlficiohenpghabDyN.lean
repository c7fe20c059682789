/- DERIVED. Layer 19 (delay): the closure of DelayTurn. Written by wip/mkdyn.py. -/
import Derived.Test.YtlficiohenpghabDyM
set_option linter.unusedVariables false
set_option linter.unusedSimpArgs false
set_option maxRecDepth 100000
namespace Go.Proofs.Ytlficiohenpghab.Dy
open Go.RowKit Go.Maps Go.Proofs.Ytlficiohenpghab Go.Proofs.Ytlficiohenpghab.TreeP Go.Proofs.Ytlficiohenpghab.Tr Go.Proofs.Ytlficiohenpghab.Wk

/-- one more for the same instant comes last -/
theorem ins_end {n q : Nat} {E : List En} (h : EI n q E) {A : Int} (hA : ∀ e ∈ E, e.1.1 = A) (f : Int) : ins E (A, (q : Int)) f = E ++ [((A, (q : Int)), f)] := by
  have := ins_parts (A := E) (B := []) (q := (A, (q : Int))) (v := f) (fun e he => by
    rw [lt_iff]
    right
    exact ⟨hA e he, (h.key e he).2.2⟩) (fun e he => absurd he (by simp))
  simpa using this
/-- without one flow -/
theorem del_flow {n q : Nat} {E : List En} (h : EI n q E) (hr : RisingE E) {k : Key} {f : Int} (hw : who E f = some k) : del E k = E.filter fun e => decide (e.2 ≠ f) := by
  have hm := (who_iff h.df).1 hw
  unfold del
  refine List.filter_congr fun e he => ?_
  have h1 := mem_del h.df hr hm e
  unfold del at h1
  rw [List.mem_filter] at h1
  by_cases h2 : e.2 = f
  · have : ¬ (e ∈ E ∧ decide (e.1 ≠ k) = true) := fun h3 => (h1.1 h3).2 h2
    have h4 : decide (e.1 ≠ k) = false := by
      cases hd : decide (e.1 ≠ k) with
      | false => rfl
      | true => exact absurd ⟨he, hd⟩ this
    rw [h4]
    simp [h2]
  · rw [(h1.2 ⟨he, h2⟩).2]
    simp [h2]
/-- flows but one, of the first j -/
def restI (f : Int) (E : List En) (j : Nat) : List En := (E.take j).filter fun e => decide (e.2 ≠ f)
theorem rest_succ {f : Int} {E : List En} {j : Nat} {e : En} (he : E[j]? = some e) : restI f E (j + 1) = restI f E j ++ (if e.2 ≠ f then [e] else []) := by
  unfold restI
  rw [List.take_add_one, he, Option.toList_some, List.filter_append]
  congr 1
  by_cases h : e.2 = f
  · simp [h]
  · simp [h]
theorem rest_all (f : Int) (E : List En) : restI f E E.length = E.filter fun e => decide (e.2 ≠ f) := by
  unfold restI
  rw [List.take_of_length_le (Nat.le_refl _)]
abbrev B9 (b : Nat) (v : Value) : HP := Go.Proofs.Ytlficiohenpghab.Blk b #[v] 40
/-- where the closure stands -/
def TuS (p q b9 : Nat) (E : List En) (v : Value) (LL : List HP) (w : World) : Prop := DO p 12 q E (RI v E :: B9 b9 v :: LL) w
end Go.Proofs.Ytlficiohenpghab.Dy
