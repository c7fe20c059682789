/- DERIVED. Layer 13 (bucket), plainly: all sockets as one rising list; the buckets are its parts. No Go text. -/
import Derived.Test.YtlficiohenpghaaBkP
set_option linter.unusedVariables false
set_option linter.unusedSimpArgs false
namespace Go.Proofs.Ytlficiohenpghaa.Bk
open Go.RowKit Go.Proofs.Ytlficiohenpghaa Go.Proofs.Ytlficiohenpghaa.TreeP Go.Proofs.Ytlficiohenpghaa.Tr

/-- who is in bucket i -/
def inB (β : Int → Nat) (R : List En) (i : Nat) : List En := R.filter fun e => decide (β e.1.1 = i)
def tab (β : Int → Nat) (n : Nat) (R : List En) : TT := (List.range n).map (inB β R)
/-- what holds of the sockets behind any calls -/
structure RK (room : Nat) (R : List En) : Prop where
  rise : RisingE R
  key : ∀ e ∈ R, e.1.2 = 0 ∧ 0 ≤ e.1.1 ∧ e.1.1 < 18446744073709551616
  len : R.length ≤ room
theorem rk_nil (room : Nat) : RK room [] := ⟨List.Pairwise.nil, fun e he => by simp at he, Nat.zero_le _⟩
section
variable {β : Int → Nat} {n room : Nat} {R : List En}
theorem tab_len : (tab β n R).length = n := by simp [tab]
theorem tab_slot {i : Nat} (hi : i < n) : slot (tab β n R) i = inB β R i := by simp [slot, tab, List.getD, hi]
theorem tab_nil : tab β n [] = List.replicate n [] := by
  apply List.ext_getElem?
  intro i
  by_cases hi : i < n <;> simp [tab, inB, List.getElem?_replicate, hi]
theorem tab_ext {T : TT} (h : T.length = n) (k : ∀ i, i < n → slot T i = inB β R i) : T = tab β n R := by
  apply List.ext_getElem?
  intro i
  by_cases hi : i < n
  · have h1 := k i hi
    have h2 : i < T.length := by omega
    unfold slot at h1
    simp [List.getD, h2] at h1
    simp [tab, hi, h2, h1]
  · rw [List.getElem?_eq_none (by omega), List.getElem?_eq_none (by rw [tab_len]; omega)]
theorem total_tab : ∀ (R : List En), (∀ e ∈ R, β e.1.1 < n) → total (tab β n R) = R.length
  | [], _ => by rw [tab_nil, total_fresh]; rfl
  | e :: R, h => by
    have ih := total_tab R (fun x hx => h x (.tail _ hx))
    have hb := h e (.head _)
    have e1 : (tab β n R).set (β e.1.1) (e :: inB β R (β e.1.1)) = tab β n (e :: R) := by
      refine tab_ext (by rw [List.length_set, tab_len]) fun i hi => ?_
      rw [slot_set (by rw [tab_len]; exact hb)]
      split
      · subst_vars; simp [inB, List.filter_cons]
      · rename_i hne
        rw [tab_slot hi]
        simp [inB, List.filter_cons, Ne.symm hne]
    have ht := total_set (tab β n R) (β e.1.1) (e :: inB β R (β e.1.1)) (by rw [tab_len]; exact hb)
    rw [e1, tab_slot hb, List.length_cons] at ht
    rw [List.length_cons]
    omega
theorem look_in (s : Int) (i : Nat) (hi : β s = i) : Tr.look (inB β R i) (s, 0) = Tr.look R (s, 0) := by
  unfold Tr.look inB
  rw [List.find?_filter]
  congr 2
  funext e
  by_cases h : e.1 = (s, 0)
  · simp [h, hi]
  · simp [h]
theorem del_in (q : Key) (i : Nat) : inB β (del R q) i = del (inB β R i) q := by
  unfold inB del
  rw [List.filter_filter, List.filter_filter]
  congr 1
  funext e
  rw [Bool.and_comm]
theorem del_other (s : Int) (i : Nat) (hi : β s ≠ i) : inB β (del R (s, 0)) i = inB β R i := by
  unfold inB del
  rw [List.filter_filter]
  congr 1
  funext e
  by_cases h : β e.1.1 = i
  · have : e.1 ≠ (s, 0) := fun he => hi (by rw [← h, he])
    simp [h, this]
  · simp [h]
theorem ins_in (s v : Int) (i : Nat) (hi : β s = i) : inB β (ins R (s, 0) v) i = ins (inB β R i) (s, 0) v := by
  unfold inB ins
  rw [List.filter_append, List.filter_cons, List.filter_filter, List.filter_filter, List.filter_filter, List.filter_filter, if_pos (by simpa using hi)]
  congr 1
  · congr 1
    funext e
    rw [Bool.and_comm]
  · congr 1
    congr 1
    funext e
    rw [Bool.and_comm]
theorem ins_other (h : RisingE R) (s v : Int) (i : Nat) (hn : Tr.look R (s, 0) = none) (hi : β s ≠ i) : inB β (ins R (s, 0) v) i = inB β R i := by
  rcases parts h (s, 0) with ⟨A, u, B, e1, _, _, _⟩ | ⟨A, B, e1, _, e3, e4⟩
  · exfalso
    rw [e1] at h hn
    rw [(del_parts h).2] at hn
    cases hn
  · rw [e1, ins_parts e3 e4]
    unfold inB
    rw [List.filter_append, List.filter_append, List.filter_cons, if_neg (by simpa using hi)]
theorem RK.put (h : RK room R) {s v : Int} (h0 : 0 ≤ s) (h1 : s < 18446744073709551616) (hn : Tr.look R (s, 0) = none) (hr : R.length < room) : RK room (ins R (s, 0) v) := by
  obtain ⟨r1, r2, r3, _, _⟩ := rise_ins h.rise (s, 0) v hn
  refine ⟨r1, fun e he => ?_, by omega⟩
  rcases (r3 e).1 he with rfl | he
  · exact ⟨rfl, h0, h1⟩
  · exact h.key e he
theorem RK.drop (h : RK room R) (s : Int) : RK room (del R (s, 0)) :=
  ⟨rise_del h.rise _, fun e he => h.key e (by unfold del at he; exact (List.mem_filter.1 he).1), by have := List.length_filter_le (fun e : En => decide (e.1 ≠ (s, 0))) R; have := h.len; unfold del; omega⟩
theorem tab_put (h : RisingE R) {s v : Int} (hs : β s < n) (hn : Tr.look R (s, 0) = none) : (tab β n R).set (β s) (ins (inB β R (β s)) (s, 0) v) = tab β n (ins R (s, 0) v) :=
  tab_ext (by rw [List.length_set, tab_len]) fun i hi => by
    rw [slot_set (by rw [tab_len]; exact hs)]
    split
    · rename_i e; rw [e, ins_in s v _ rfl]
    · rename_i e; rw [tab_slot hi, ins_other h s v i hn (Ne.symm e)]
theorem tab_drop {s : Int} (hs : β s < n) : (tab β n R).set (β s) (del (inB β R (β s)) (s, 0)) = tab β n (del R (s, 0)) :=
  tab_ext (by rw [List.length_set, tab_len]) fun i hi => by
    rw [slot_set (by rw [tab_len]; exact hs)]
    split
    · rename_i e; rw [e, del_in]
    · rename_i e; rw [tab_slot hi, del_other s i (Ne.symm e)]
theorem in_len (i : Nat) : (inB β R i).length ≤ R.length := List.length_filter_le _ _
end
end Go.Proofs.Ytlficiohenpghaa.Bk
