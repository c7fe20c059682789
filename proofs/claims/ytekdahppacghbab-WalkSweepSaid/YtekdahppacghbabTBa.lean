/- DERIVED. Layer 6 (tree): the law TreeBack, plainly: entries that go, in any order; sixty keys that come. No Go text. -/
import Derived.Test.YtekdahppacghbabR6A
set_option linter.unusedVariables false
set_option linter.unusedSimpArgs false
namespace Go.Proofs.Ytekdahppacghbab.Tr
open Go.RowKit Go.Proofs.Ytekdahppacghbab Go.Proofs.Ytekdahppacghbab.TreeP

theorem keys_apart {E : List En} (h : RisingE E) : ∀ x ∈ E, ∀ y ∈ E, x.1 = y.1 → x = y := by
  intro x hx y hy e
  obtain ⟨i, hi⟩ := List.mem_iff_getElem?.1 hx
  obtain ⟨j, hj⟩ := List.mem_iff_getElem?.1 hy
  obtain ⟨i1, i2⟩ := List.getElem?_eq_some_iff.1 hi
  obtain ⟨j1, j2⟩ := List.getElem?_eq_some_iff.1 hj
  have hp := List.pairwise_iff_getElem.1 h
  rcases Nat.lt_trichotomy i j with hlt | rfl | hlt
  · have := hp i j i1 j1 hlt
    rw [i2, j2, e] at this
    exact absurd this (lt_irrefl _)
  · exact i2.symm.trans j2
  · have := hp j i j1 i1 hlt
    rw [i2, j2, e] at this
    exact absurd this (lt_irrefl _)
/-- an entry that is there: what Drop answers, what is left -/
theorem drop_there {E L : List En} (h : RisingE E) (hp : L.Perm E) {i : Nat} {e : En} (hi : L[i]? = some e) :
    look E e.1 = some e.2 ∧ (L.eraseIdx i).Perm (del E e.1) ∧ RisingE (del E e.1) ∧ (del E e.1).length + 1 = E.length := by
  have he : e ∈ E := hp.subset (List.mem_of_getElem? hi)
  rcases parts h e.1 with ⟨A, v, B, e1, _, _, _⟩ | ⟨A, B, e1, _, e3, e4⟩
  · have hv : e = (e.1, v) := keys_apart h e he (e.1, v) (by rw [e1]; simp) rfl
    have hv2 : v = e.2 := by rw [hv]
    have h' := h
    rw [e1] at h'
    obtain ⟨d1, d2⟩ := del_parts h'
    rw [← e1] at d1 d2
    have hlen : (del E e.1).length + 1 = E.length := by rw [d1, e1]; simp; omega
    obtain ⟨i1, i2⟩ := List.getElem?_eq_some_iff.1 hi
    have hL : L.Perm (e :: L.eraseIdx i) := by
      rw [List.eraseIdx_eq_take_drop_succ]
      have e0 : L.take i ++ e :: L.drop (i + 1) = L := by rw [← i2, ← List.drop_eq_getElem_cons i1, List.take_append_drop]
      have hm := List.perm_middle (a := e) (l₁ := L.take i) (l₂ := L.drop (i + 1))
      rw [e0] at hm
      exact hm
    have hE : E.Perm (e :: del E e.1) := by
      rw [d1]
      have : E = A ++ e :: B := by rw [hv]; exact e1
      rw [this]
      exact List.perm_middle
    refine ⟨by rw [d2, hv2], ((hL.symm.trans hp).trans hE).cons_inv, ?_, hlen⟩
    unfold del
    exact h.filter _
  · exfalso
    rw [e1, List.mem_append] at he
    rcases he with he | he
    · exact lt_irrefl _ (e3 e he)
    · exact lt_irrefl _ (e4 e he)
theorem rising_ins {E : List En} (h : RisingE E) (q : Key) (v : Int) (hn : look E q = none) : RisingE (ins E q v) ∧ (ins E q v).length = E.length + 1 ∧ (∀ e ∈ ins E q v, e = (q, v) ∨ e ∈ E) ∧ look (ins E q v) q = some v ∧ del (ins E q v) q = E := by
  have key : ∀ {A B : List En}, E = A ++ B → (∀ e ∈ A, lt e.1 q = true) → (∀ e ∈ B, lt q e.1 = true) → ins E q v = A ++ (q, v) :: B := by
    intro A B e h1 h2
    rw [e]
    exact ins_parts h1 h2
  rcases parts h q with ⟨A, u, B, e1, _, _, _⟩ | ⟨A, B, e1, _, e3, e4⟩
  · exfalso
    have h' := h
    rw [e1] at h'
    obtain ⟨_, d2⟩ := del_parts h'
    rw [← e1, hn] at d2
    cases d2
  · have hi := key e1 e3 e4
    have hr : RisingE (A ++ (q, v) :: B) := by
      unfold RisingE at h ⊢
      rw [e1, List.pairwise_append] at h
      obtain ⟨p1, p2, p3⟩ := h
      rw [List.pairwise_append, List.pairwise_cons]
      refine ⟨p1, ⟨e4, p2⟩, fun x hx y hy => ?_⟩
      rcases List.mem_cons.1 hy with rfl | hy
      · exact e3 x hx
      · exact p3 x hx y hy
    obtain ⟨d1, d2⟩ := del_parts hr
    rw [hi]
    refine ⟨hr, by rw [e1]; simp; omega, fun e he => ?_, d2, by rw [d1, e1]⟩
    rw [List.mem_append, List.mem_cons] at he
    rw [e1, List.mem_append]
    rcases he with he | he | he
    · exact .inr (.inl he)
    · exact .inl he
    · exact .inr (.inr he)
/-- behind i of the sixty -/
structure Sixty (E : List En) (i : Nat) : Prop where
  rise : RisingE E
  len : E.length = i
  mem : ∀ e ∈ E, ∃ j : Nat, j < i ∧ e.1 = (((j * 7 % 60 : Nat) : Int), 0)
theorem sixty_zero : Sixty [] 0 := ⟨List.Pairwise.nil, rfl, by simp⟩
theorem sixty_step {E : List En} {i : Nat} (h : Sixty E i) (hi : i < 60) : putE 60 E (((i * 7 % 60 : Nat) : Int), 0) = 0 ∧ Sixty (putT 60 E (((i * 7 % 60 : Nat) : Int), 0) 0) (i + 1) := by
  have hn : look E (((i * 7 % 60 : Nat) : Int), 0) = none := look_none (fun e he heq => by
    obtain ⟨j, hj, hje⟩ := h.mem e he
    rw [hje] at heq
    injection heq with h1 _
    omega)
  have hl := h.len
  obtain ⟨r1, r2, r3, _, _⟩ := rising_ins h.rise _ 0 hn
  unfold putE putT
  rw [hn, if_neg (by simp), if_neg (by omega), if_neg (by simp), if_neg (by omega)]
  refine ⟨rfl, r1, by rw [r2, hl], fun e he => ?_⟩
  rcases r3 e he with rfl | he
  · exact ⟨i, by omega, rfl⟩
  · obtain ⟨j, hj, hje⟩ := h.mem e he
    exact ⟨j, by omega, hje⟩
theorem sixty_full {E : List En} (h : Sixty E 60) : putE 60 E (99, 0) = 4 ∧ putT 60 E (99, 0) 0 = E := by
  have hn : look E (99, 0) = none := look_none (fun e he heq => by
    obtain ⟨j, hj, hje⟩ := h.mem e he
    rw [hje] at heq
    injection heq with h1 _
    omega)
  have hl := h.len
  unfold putE putT
  rw [hn, if_neg (by simp), if_pos hl, if_neg (by simp), if_pos hl]
  exact ⟨rfl, rfl⟩
theorem ents_erase (L : List En) (i : Nat) : (ents L).take (i * 3) ++ (ents L).drop ((i + 1) * 3) = ents (L.eraseIdx i) := by
  rw [List.eraseIdx_eq_take_drop_succ, ents_append, ents_take, ents_drop]
end Go.Proofs.Ytekdahppacghbab.Tr
