/- DERIVED. Layer 13 (bucket), plainly: sockets in buckets, with their numbers. No Go text. -/
import Derived.Test.YtlficiohenpghaaR6A
set_option linter.unusedVariables false
set_option linter.unusedSimpArgs false
namespace Go.Proofs.Ytlficiohenpghaa.Bk
open Go.RowKit Go.Proofs.Ytlficiohenpghaa Go.Proofs.Ytlficiohenpghaa.TreeP Go.Proofs.Ytlficiohenpghaa.Tr

theorem rise_ins {E : List En} (h : RisingE E) (q : Key) (v : Int) (hn : Tr.look E q = none) : RisingE (ins E q v) ∧ (ins E q v).length = E.length + 1 ∧ (∀ e, e ∈ ins E q v ↔ e = (q, v) ∨ e ∈ E) ∧ Tr.look (ins E q v) q = some v ∧ del (ins E q v) q = E := by
  have key : ∀ {A B : List En}, E = A ++ B → (∀ e ∈ A, lt e.1 q = true) → (∀ e ∈ B, lt q e.1 = true) → ins E q v = A ++ (q, v) :: B := by
    intro A B e h1 h2
    rw [e]
    exact ins_parts h1 h2
  rcases parts h q with ⟨A, u, B, e1, _, _, _⟩ | ⟨A, B, e1, _, e3, e4⟩
  · exfalso
    have h' := h
    rw [e1] at h'
    obtain ⟨_, d2⟩ := del_parts h'
    rw [← e1, hn] at d2
    cases d2
  · have hi := key e1 e3 e4
    have hr : RisingE (A ++ (q, v) :: B) := by
      unfold RisingE at h ⊢
      rw [e1, List.pairwise_append] at h
      obtain ⟨p1, p2, p3⟩ := h
      rw [List.pairwise_append, List.pairwise_cons]
      refine ⟨p1, ⟨e4, p2⟩, fun x hx y hy => ?_⟩
      rcases List.mem_cons.1 hy with rfl | hy
      · exact e3 x hx
      · exact p3 x hx y hy
    obtain ⟨d1, d2⟩ := del_parts hr
    rw [hi]
    refine ⟨hr, by rw [e1]; simp; omega, fun e => ?_, d2, by rw [d1, e1]⟩
    rw [e1]
    simp only [List.mem_append, List.mem_cons]
    constructor
    · rintro (h | h | h)
      · exact .inr (.inl h)
      · exact .inl h
      · exact .inr (.inr h)
    · rintro (h | h | h)
      · exact .inr (.inl h)
      · exact .inl h
      · exact .inr (.inr h)
theorem look_some {E : List En} {q : Key} {v : Int} (h : Tr.look E q = some v) : (q, v) ∈ E := by
  unfold Tr.look at h
  rw [Option.map_eq_some_iff] at h
  obtain ⟨e, h1, h2⟩ := h
  have hm := List.mem_of_find?_eq_some h1
  have hp := List.find?_some h1
  have : e = (q, v) := Prod.ext (of_decide_eq_true hp) h2
  exact this ▸ hm
theorem look_mem {E : List En} (h : RisingE E) {q : Key} {v : Int} (hm : (q, v) ∈ E) : Tr.look E q = some v := by
  obtain ⟨A, B, e⟩ := List.append_of_mem hm
  rw [e] at h ⊢
  exact (del_parts h).2
theorem look_iff {E : List En} (h : RisingE E) (q : Key) (v : Int) : Tr.look E q = some v ↔ (q, v) ∈ E := ⟨look_some, look_mem h⟩
theorem look_ins {E : List En} (h : RisingE E) {q : Key} {v : Int} (hn : Tr.look E q = none) (q' : Key) : Tr.look (ins E q v) q' = if q' = q then some v else Tr.look E q' := by
  obtain ⟨h1, _, h3, h4, _⟩ := rise_ins h q v hn
  split
  · subst_vars; exact h4
  · rename_i hne
    apply Option.ext
    intro u
    rw [look_iff h1, look_iff h, h3]
    constructor
    · rintro (e | e)
      · exact (hne (congrArg Prod.fst e)).elim
      · exact e
    · exact .inr
theorem rise_del {E : List En} (h : RisingE E) (q : Key) : RisingE (del E q) := by
  unfold del
  exact h.filter _
theorem look_del {E : List En} (h : RisingE E) (q q' : Key) : Tr.look (del E q) q' = if q' = q then none else Tr.look E q' := by
  split
  · subst_vars
    refine look_none fun e he => ?_
    unfold del at he
    exact of_decide_eq_true (List.mem_filter.1 he).2
  · rename_i hne
    apply Option.ext
    intro u
    rw [look_iff (rise_del h q), look_iff h]
    unfold del
    rw [List.mem_filter]
    simp [hne]
theorem del_length {E : List En} (h : RisingE E) (q : Key) : (del E q).length + (if (Tr.look E q).isSome then 1 else 0) = E.length := by
  rcases parts h q with ⟨A, v, B, e1, _, _, _⟩ | ⟨A, B, e1, _, e3, e4⟩
  · rw [e1] at h ⊢
    obtain ⟨d1, d2⟩ := del_parts h
    rw [d1, d2]
    simp
    omega
  · have hn : Tr.look E q = none := look_none fun e he hq => by
      rw [e1, List.mem_append] at he
      rcases he with he | he
      · have := e3 e he; rw [hq] at this; exact lt_irrefl _ this
      · have := e4 e he; rw [hq] at this; exact lt_irrefl _ this
    rw [hn, Tr.del_none hn]
    rfl
/-! ### Buckets -/
abbrev TT := List (List En)
def slot (T : TT) (i : Nat) : List En := T.getD i []
def total (T : TT) : Nat := (T.map List.length).sum
theorem slot_set {T : TT} {i : Nat} (h : i < T.length) (E : List En) (j : Nat) : slot (T.set i E) j = if j = i then E else slot T j := by
  unfold slot
  by_cases hj : j = i
  · subst hj; simp [List.getD, h]
  · rw [if_neg hj]; simp [List.getD, List.getElem?_set_ne (Ne.symm hj)]
theorem total_set : ∀ (T : TT) (i : Nat) (E : List En), i < T.length → total (T.set i E) + (slot T i).length = total T + E.length
  | [], i, E, h => by simp at h
  | F :: T, 0, E, _ => by simp [total, slot]; omega
  | F :: T, i + 1, E, h => by
    have ih := total_set T i E (by simpa using h)
    simp only [total, slot, List.set_cons_succ, List.map_cons, List.sum_cons, List.getD_cons_succ] at ih ⊢
    omega
theorem slot_le : ∀ (T : TT) (i : Nat), (slot T i).length ≤ total T
  | [], i => by simp [slot]
  | F :: T, 0 => by simp [total, slot]
  | F :: T, i + 1 => by
    have ih := slot_le T i
    simp only [total, slot, List.map_cons, List.sum_cons, List.getD_cons_succ] at ih ⊢
    omega
theorem slot_fresh (n i : Nat) : slot (List.replicate n []) i = [] := by
  unfold slot
  simp only [List.getD, List.getElem?_replicate]
  split <;> rfl
theorem total_fresh (n : Nat) : total (List.replicate n []) = 0 := by
  unfold total
  induction n with
  | zero => rfl
  | succ n ih => rw [List.replicate_succ, List.map_cons, List.sum_cons, ih]; rfl
variable (β : Int → Nat)
def lookB (T : TT) (s : Int) : Option Int := Tr.look (slot T (β s)) (s, 0)
def putB (T : TT) (s v : Int) : TT := T.set (β s) (ins (slot T (β s)) (s, 0) v)
def dropB (T : TT) (s : Int) : TT := T.set (β s) (del (slot T (β s)) (s, 0))
/-- what holds of buckets behind any calls -/
structure BK (n room : Nat) (T : TT) : Prop where
  len : T.length = n
  rise : ∀ i, RisingE (slot T i)
  key : ∀ i, ∀ e ∈ slot T i, e.1.2 = 0 ∧ 0 ≤ e.1.1 ∧ e.1.1 < 18446744073709551616 ∧ β e.1.1 = i
  tot : total T ≤ room
variable {β}
theorem bk_fresh (n room : Nat) : BK β n room (List.replicate n []) :=
  ⟨by simp, fun i => by rw [slot_fresh]; exact List.Pairwise.nil, fun i e he => by rw [slot_fresh] at he; simp at he, by rw [total_fresh]; exact Nat.zero_le _⟩
theorem putB_look {n room : Nat} {T : TT} (h : BK β n room T) {s v : Int} (hs : β s < n) (hn : lookB β T s = none) (s' : Int) : lookB β (putB β T s v) s' = if s' = s then some v else lookB β T s' := by
  unfold lookB putB
  rw [slot_set (by rw [h.len]; exact hs)]
  by_cases hb : β s' = β s
  · rw [if_pos hb, hb, look_ins (h.rise _) hn]
    by_cases e : s' = s
    · subst e; simp
    · rw [if_neg e, if_neg (fun h => e (congrArg Prod.fst h))]
  · rw [if_neg hb, if_neg (fun e => hb (by rw [e]))]
theorem dropB_look {n room : Nat} {T : TT} (h : BK β n room T) {s : Int} (hs : β s < n) (s' : Int) : lookB β (dropB β T s) s' = if s' = s then none else lookB β T s' := by
  unfold lookB dropB
  rw [slot_set (by rw [h.len]; exact hs)]
  by_cases hb : β s' = β s
  · rw [if_pos hb, hb, look_del (h.rise _)]
    by_cases e : s' = s
    · subst e; simp
    · rw [if_neg e, if_neg (fun h => e (congrArg Prod.fst h))]
  · rw [if_neg hb, if_neg (fun e => hb (by rw [e]))]
theorem putB_ok {n room : Nat} {T : TT} (h : BK β n room T) {s v : Int} (h0 : 0 ≤ s) (h1 : s < 18446744073709551616) (hs : β s < n) (hn : lookB β T s = none) (hr : total T < room) : BK β n room (putB β T s v) ∧ total (putB β T s v) = total T + 1 := by
  have hl : β s < T.length := by rw [h.len]; exact hs
  obtain ⟨r1, r2, r3, _, _⟩ := rise_ins (h.rise (β s)) (s, 0) v hn
  have ht := total_set T (β s) (ins (slot T (β s)) (s, 0) v) hl
  rw [r2] at ht
  have ht' : total (putB β T s v) = total T + 1 := by unfold putB; omega
  refine ⟨⟨by unfold putB; rw [List.length_set]; exact h.len, fun i => ?_, fun i e he => ?_, by omega⟩, ht'⟩
  · unfold putB
    rw [slot_set hl]
    split
    · exact r1
    · exact h.rise i
  · unfold putB at he
    rw [slot_set hl] at he
    split at he
    · subst_vars
      rcases (r3 e).1 he with rfl | he
      · exact ⟨rfl, h0, h1, rfl⟩
      · exact h.key _ e he
    · exact h.key i e he
theorem dropB_ok {n room : Nat} {T : TT} (h : BK β n room T) {s : Int} (hs : β s < n) : BK β n room (dropB β T s) ∧ total (dropB β T s) + (if (lookB β T s).isSome then 1 else 0) = total T := by
  have hl : β s < T.length := by rw [h.len]; exact hs
  have ht := total_set T (β s) (del (slot T (β s)) (s, 0)) hl
  have hd := del_length (h.rise (β s)) (s, 0)
  have ht' : total (dropB β T s) + (if (lookB β T s).isSome then 1 else 0) = total T := by unfold dropB lookB; omega
  refine ⟨⟨by unfold dropB; rw [List.length_set]; exact h.len, fun i => ?_, fun i e he => ?_, by have := h.tot; omega⟩, ht'⟩
  · unfold dropB
    rw [slot_set hl]
    split
    · exact rise_del (h.rise _) _
    · exact h.rise i
  · unfold dropB at he
    rw [slot_set hl] at he
    split at he
    · subst_vars
      unfold del at he
      exact h.key _ e (List.mem_filter.1 he).1
    · exact h.key i e he
theorem dropB_none {n room : Nat} {T : TT} (h : BK β n room T) {s : Int} (hs : β s < n) (hn : lookB β T s = none) : dropB β T s = T := by
  unfold dropB
  unfold lookB at hn
  rw [Tr.del_none hn]
  unfold slot
  have hl : β s < T.length := by rw [h.len]; exact hs
  apply List.ext_getElem?
  intro i
  by_cases hi : i = β s
  · subst hi; simp [hl, List.getD]
  · simp [List.getElem?_set_ne (Ne.symm hi)]
end Go.Proofs.Ytlficiohenpghaa.Bk
