/- DERIVED. Layer 7 (walk), plainly: where a tree's entries part at a key; what sweeps tell. -/
import Derived.Test.YtekdahppacghbabWkN
set_option linter.unusedVariables false
set_option linter.unusedSimpArgs false
set_option maxRecDepth 100000
namespace Go.Proofs.Ytekdahppacghbab.Wk
open Go.RowKit Go.Proofs.Ytekdahppacghbab Go.Proofs.Ytekdahppacghbab.TreeP Go.Proofs.Ytekdahppacghbab.Tr

theorem mono_split {α : Type} {p : α → Bool} : ∀ {E : List α}, (E.Pairwise fun a b => p a = true → p b = true) → E = (E.filter fun e => !p e) ++ E.filter p
  | [], _ => rfl
  | e :: E, h => by
    rw [List.pairwise_cons] at h
    have ih := mono_split h.2
    cases hp : p e with
    | false =>
      rw [List.filter_cons_of_pos (by simp [hp]), List.filter_cons_of_neg (by simp [hp]), List.cons_append, ← ih]
    | true =>
      have h1 : ∀ x ∈ E, p x = true := fun x hx => h.1 x hx hp
      rw [List.filter_cons_of_neg (by simp [hp]), List.filter_cons_of_pos hp, List.filter_eq_nil_iff.2 (fun x hx => by simp [h1 x hx]), List.filter_eq_self.2 h1, List.nil_append]
theorem low_split {E : List En} (h : RisingE E) (q : Key) : E = lowL E q ++ above E q := by
  unfold lowL above
  refine mono_split ?_
  unfold RisingE at h
  exact h.imp fun {a b} hab ha => lt_trans ha hab
/-- what is from a key on is an end of all -/
theorem from_split {E : List En} (h : RisingE E) (q : Key) : E = (E.filter fun e => lt e.1 q) ++ fromL E q := by
  rw [from_ge h]
  have := mono_split (p := fun e : En => !lt e.1 q) (E := E) (by
    unfold RisingE at h
    refine h.imp fun {a b} hab ha => ?_
    simp only [Bool.not_eq_true', Bool.eq_false_iff] at ha ⊢
    exact fun hb => ha (lt_trans hab hb))
  simpa using this
theorem from_len {E : List En} (h : RisingE E) (q : Key) : (fromL E q).length ≤ E.length := by
  have h1 := congrArg List.length (from_split h q)
  rw [List.length_append] at h1
  omega
theorem from_drop {E : List En} (h : RisingE E) (q : Key) : fromL E q = E.drop (E.length - (fromL E q).length) := by
  have gen : ∀ V F : List En, E = V ++ F → F = E.drop (E.length - F.length) := fun V F e => by
    rw [e, List.length_append, Nat.add_sub_cancel, List.drop_left]
  exact gen _ _ (from_split h q)
/-- the one ahead of the end is below -/
theorem from_last {E : List En} (h : RisingE E) (q : Key) {e : En} (hlt : (fromL E q).length < E.length) (he : E[E.length - (fromL E q).length - 1]? = some e) : lt e.1 q = true := by
  have h1 := from_split h q
  have gen : ∀ V F : List En, E = V ++ F → F.length < E.length → E[E.length - F.length - 1]? = V[E.length - F.length - 1]? := fun V F e hl => by
    rw [e, List.length_append] at hl ⊢
    rw [List.getElem?_append_left (by omega)]
  rw [gen _ _ h1 hlt] at he
  simpa using (List.mem_filter.1 (List.mem_of_getElem? he)).2
theorem from_first {E : List En} (h : RisingE E) (q : Key) {e : En} (he : (fromL E q)[0]? = some e) : lt e.1 q = false := by
  rw [from_ge h] at he
  simpa using (List.mem_filter.1 (List.mem_of_getElem? he)).2
/-- fewer steps: a beginning of the same -/
theorem take_few (F : List En) (a b : Nat) : F.take a = (F.take (a + b)).take (F.take a).length ∧ (F.take a).length = min a (F.take (a + b)).length := by
  constructor
  · rw [List.take_take, List.length_take]
    by_cases ha : a ≤ F.length
    · rw [Nat.min_eq_left ha, Nat.min_eq_left (by omega)]
    · rw [List.take_of_length_le (by omega), List.take_of_length_le (by omega)]
  · rw [List.length_take, List.length_take]; omega
end Go.Proofs.Ytekdahppacghbab.Wk
