/- DERIVED. Merged by wip/mergeset.py from XBkP XBkQ XBkA XBkB XBkC XBkD XBkE XBkF. -/
import Derived.Test.YtkdmlpigkmlkmaaTrZ
import Derived.Test.YtkdmlpigkmlkmaaPack
import Derived.Test.YtkdmlpigkmlkmaaBlk
import Derived.Test.YtkdmlpigkmlkmaaMixZ
import Derived.Deep.RegionHeld3
--  DERIVED. Layer 13 (bucket), plainly: sockets in buckets, with their numbers. No Go text. 
set_option linter.unusedVariables false
set_option linter.unusedSimpArgs false
namespace Go.Proofs.Ytkdmlpigkmlkmaa.Bk
open Go.RowKit Go.Proofs.Ytkdmlpigkmlkmaa Go.Proofs.Ytkdmlpigkmlkmaa.TreeP Go.Proofs.Ytkdmlpigkmlkmaa.Tr

theorem rise_ins {E : List En} (h : RisingE E) (q : Key) (v : Int) (hn : Tr.look E q = none) : RisingE (ins E q v) ∧ (ins E q v).length = E.length + 1 ∧ (∀ e, e ∈ ins E q v ↔ e = (q, v) ∨ e ∈ E) ∧ Tr.look (ins E q v) q = some v ∧ del (ins E q v) q = E := by
  have key : ∀ {A B : List En}, E = A ++ B → (∀ e ∈ A, lt e.1 q = true) → (∀ e ∈ B, lt q e.1 = true) → ins E q v = A ++ (q, v) :: B := by
    intro A B e h1 h2
    rw [e]
    exact ins_parts h1 h2
  rcases parts h q with ⟨A, u, B, e1, _, _, _⟩ | ⟨A, B, e1, _, e3, e4⟩
  · exfalso
    have h' := h
    rw [e1] at h'
    obtain ⟨_, d2⟩ := del_parts h'
    rw [← e1, hn] at d2
    cases d2
  · have hi := key e1 e3 e4
    have hr : RisingE (A ++ (q, v) :: B) := by
      unfold RisingE at h ⊢
      rw [e1, List.pairwise_append] at h
      obtain ⟨p1, p2, p3⟩ := h
      rw [List.pairwise_append, List.pairwise_cons]
      refine ⟨p1, ⟨e4, p2⟩, fun x hx y hy => ?_⟩
      rcases List.mem_cons.1 hy with rfl | hy
      · exact e3 x hx
      · exact p3 x hx y hy
    obtain ⟨d1, d2⟩ := del_parts hr
    rw [hi]
    refine ⟨hr, by rw [e1]; simp; omega, fun e => ?_, d2, by rw [d1, e1]⟩
    rw [e1]
    simp only [List.mem_append, List.mem_cons]
    constructor
    · rintro (h | h | h)
      · exact .inr (.inl h)
      · exact .inl h
      · exact .inr (.inr h)
    · rintro (h | h | h)
      · exact .inr (.inl h)
      · exact .inl h
      · exact .inr (.inr h)
theorem look_some {E : List En} {q : Key} {v : Int} (h : Tr.look E q = some v) : (q, v) ∈ E := by
  unfold Tr.look at h
  rw [Option.map_eq_some_iff] at h
  obtain ⟨e, h1, h2⟩ := h
  have hm := List.mem_of_find?_eq_some h1
  have hp := List.find?_some h1
  have : e = (q, v) := Prod.ext (of_decide_eq_true hp) h2
  exact this ▸ hm
theorem look_mem {E : List En} (h : RisingE E) {q : Key} {v : Int} (hm : (q, v) ∈ E) : Tr.look E q = some v := by
  obtain ⟨A, B, e⟩ := List.append_of_mem hm
  rw [e] at h ⊢
  exact (del_parts h).2
theorem look_iff {E : List En} (h : RisingE E) (q : Key) (v : Int) : Tr.look E q = some v ↔ (q, v) ∈ E := ⟨look_some, look_mem h⟩
theorem look_ins {E : List En} (h : RisingE E) {q : Key} {v : Int} (hn : Tr.look E q = none) (q' : Key) : Tr.look (ins E q v) q' = if q' = q then some v else Tr.look E q' := by
  obtain ⟨h1, _, h3, h4, _⟩ := rise_ins h q v hn
  split
  · subst_vars; exact h4
  · rename_i hne
    apply Option.ext
    intro u
    rw [look_iff h1, look_iff h, h3]
    constructor
    · rintro (e | e)
      · exact (hne (congrArg Prod.fst e)).elim
      · exact e
    · exact .inr
theorem rise_del {E : List En} (h : RisingE E) (q : Key) : RisingE (del E q) := by
  unfold del
  exact h.filter _
theorem look_del {E : List En} (h : RisingE E) (q q' : Key) : Tr.look (del E q) q' = if q' = q then none else Tr.look E q' := by
  split
  · subst_vars
    refine look_none fun e he => ?_
    unfold del at he
    exact of_decide_eq_true (List.mem_filter.1 he).2
  · rename_i hne
    apply Option.ext
    intro u
    rw [look_iff (rise_del h q), look_iff h]
    unfold del
    rw [List.mem_filter]
    simp [hne]
theorem del_length {E : List En} (h : RisingE E) (q : Key) : (del E q).length + (if (Tr.look E q).isSome then 1 else 0) = E.length := by
  rcases parts h q with ⟨A, v, B, e1, _, _, _⟩ | ⟨A, B, e1, _, e3, e4⟩
  · rw [e1] at h ⊢
    obtain ⟨d1, d2⟩ := del_parts h
    rw [d1, d2]
    simp
    omega
  · have hn : Tr.look E q = none := look_none fun e he hq => by
      rw [e1, List.mem_append] at he
      rcases he with he | he
      · have := e3 e he; rw [hq] at this; exact lt_irrefl _ this
      · have := e4 e he; rw [hq] at this; exact lt_irrefl _ this
    rw [hn, Tr.del_none hn]
    rfl
/-! ### Buckets -/
abbrev TT := List (List En)
def slot (T : TT) (i : Nat) : List En := T.getD i []
def total (T : TT) : Nat := (T.map List.length).sum
theorem slot_set {T : TT} {i : Nat} (h : i < T.length) (E : List En) (j : Nat) : slot (T.set i E) j = if j = i then E else slot T j := by
  unfold slot
  by_cases hj : j = i
  · subst hj; simp [List.getD, h]
  · rw [if_neg hj]; simp [List.getD, List.getElem?_set_ne (Ne.symm hj)]
theorem total_set : ∀ (T : TT) (i : Nat) (E : List En), i < T.length → total (T.set i E) + (slot T i).length = total T + E.length
  | [], i, E, h => by simp at h
  | F :: T, 0, E, _ => by simp [total, slot]; omega
  | F :: T, i + 1, E, h => by
    have ih := total_set T i E (by simpa using h)
    simp only [total, slot, List.set_cons_succ, List.map_cons, List.sum_cons, List.getD_cons_succ] at ih ⊢
    omega
theorem slot_le : ∀ (T : TT) (i : Nat), (slot T i).length ≤ total T
  | [], i => by simp [slot]
  | F :: T, 0 => by simp [total, slot]
  | F :: T, i + 1 => by
    have ih := slot_le T i
    simp only [total, slot, List.map_cons, List.sum_cons, List.getD_cons_succ] at ih ⊢
    omega
theorem slot_fresh (n i : Nat) : slot (List.replicate n []) i = [] := by
  unfold slot
  simp only [List.getD, List.getElem?_replicate]
  split <;> rfl
theorem total_fresh (n : Nat) : total (List.replicate n []) = 0 := by
  unfold total
  induction n with
  | zero => rfl
  | succ n ih => rw [List.replicate_succ, List.map_cons, List.sum_cons, ih]; rfl
variable (β : Int → Nat)
def lookB (T : TT) (s : Int) : Option Int := Tr.look (slot T (β s)) (s, 0)
def putB (T : TT) (s v : Int) : TT := T.set (β s) (ins (slot T (β s)) (s, 0) v)
def dropB (T : TT) (s : Int) : TT := T.set (β s) (del (slot T (β s)) (s, 0))
/-- what holds of buckets behind any calls -/
structure BK (n room : Nat) (T : TT) : Prop where
  len : T.length = n
  rise : ∀ i, RisingE (slot T i)
  key : ∀ i, ∀ e ∈ slot T i, e.1.2 = 0 ∧ 0 ≤ e.1.1 ∧ e.1.1 < 18446744073709551616 ∧ β e.1.1 = i
  tot : total T ≤ room
variable {β}
theorem bk_fresh (n room : Nat) : BK β n room (List.replicate n []) :=
  ⟨by simp, fun i => by rw [slot_fresh]; exact List.Pairwise.nil, fun i e he => by rw [slot_fresh] at he; simp at he, by rw [total_fresh]; exact Nat.zero_le _⟩
theorem putB_look {n room : Nat} {T : TT} (h : BK β n room T) {s v : Int} (hs : β s < n) (hn : lookB β T s = none) (s' : Int) : lookB β (putB β T s v) s' = if s' = s then some v else lookB β T s' := by
  unfold lookB putB
  rw [slot_set (by rw [h.len]; exact hs)]
  by_cases hb : β s' = β s
  · rw [if_pos hb, hb, look_ins (h.rise _) hn]
    by_cases e : s' = s
    · subst e; simp
    · rw [if_neg e, if_neg (fun h => e (congrArg Prod.fst h))]
  · rw [if_neg hb, if_neg (fun e => hb (by rw [e]))]
theorem dropB_look {n room : Nat} {T : TT} (h : BK β n room T) {s : Int} (hs : β s < n) (s' : Int) : lookB β (dropB β T s) s' = if s' = s then none else lookB β T s' := by
  unfold lookB dropB
  rw [slot_set (by rw [h.len]; exact hs)]
  by_cases hb : β s' = β s
  · rw [if_pos hb, hb, look_del (h.rise _)]
    by_cases e : s' = s
    · subst e; simp
    · rw [if_neg e, if_neg (fun h => e (congrArg Prod.fst h))]
  · rw [if_neg hb, if_neg (fun e => hb (by rw [e]))]
theorem putB_ok {n room : Nat} {T : TT} (h : BK β n room T) {s v : Int} (h0 : 0 ≤ s) (h1 : s < 18446744073709551616) (hs : β s < n) (hn : lookB β T s = none) (hr : total T < room) : BK β n room (putB β T s v) ∧ total (putB β T s v) = total T + 1 := by
  have hl : β s < T.length := by rw [h.len]; exact hs
  obtain ⟨r1, r2, r3, _, _⟩ := rise_ins (h.rise (β s)) (s, 0) v hn
  have ht := total_set T (β s) (ins (slot T (β s)) (s, 0) v) hl
  rw [r2] at ht
  have ht' : total (putB β T s v) = total T + 1 := by unfold putB; omega
  refine ⟨⟨by unfold putB; rw [List.length_set]; exact h.len, fun i => ?_, fun i e he => ?_, by omega⟩, ht'⟩
  · unfold putB
    rw [slot_set hl]
    split
    · exact r1
    · exact h.rise i
  · unfold putB at he
    rw [slot_set hl] at he
    split at he
    · subst_vars
      rcases (r3 e).1 he with rfl | he
      · exact ⟨rfl, h0, h1, rfl⟩
      · exact h.key _ e he
    · exact h.key i e he
theorem dropB_ok {n room : Nat} {T : TT} (h : BK β n room T) {s : Int} (hs : β s < n) : BK β n room (dropB β T s) ∧ total (dropB β T s) + (if (lookB β T s).isSome then 1 else 0) = total T := by
  have hl : β s < T.length := by rw [h.len]; exact hs
  have ht := total_set T (β s) (del (slot T (β s)) (s, 0)) hl
  have hd := del_length (h.rise (β s)) (s, 0)
  have ht' : total (dropB β T s) + (if (lookB β T s).isSome then 1 else 0) = total T := by unfold dropB lookB; omega
  refine ⟨⟨by unfold dropB; rw [List.length_set]; exact h.len, fun i => ?_, fun i e he => ?_, by have := h.tot; omega⟩, ht'⟩
  · unfold dropB
    rw [slot_set hl]
    split
    · exact rise_del (h.rise _) _
    · exact h.rise i
  · unfold dropB at he
    rw [slot_set hl] at he
    split at he
    · subst_vars
      unfold del at he
      exact h.key _ e (List.mem_filter.1 he).1
    · exact h.key i e he
theorem dropB_none {n room : Nat} {T : TT} (h : BK β n room T) {s : Int} (hs : β s < n) (hn : lookB β T s = none) : dropB β T s = T := by
  unfold dropB
  unfold lookB at hn
  rw [Tr.del_none hn]
  unfold slot
  have hl : β s < T.length := by rw [h.len]; exact hs
  apply List.ext_getElem?
  intro i
  by_cases hi : i = β s
  · subst hi; simp [hl, List.getD]
  · simp [List.getElem?_set_ne (Ne.symm hi)]
end Go.Proofs.Ytkdmlpigkmlkmaa.Bk
--  DERIVED. Layer 13 (bucket), plainly: all sockets as one rising list; the buckets are its parts. No Go text. 
set_option linter.unusedVariables false
set_option linter.unusedSimpArgs false
namespace Go.Proofs.Ytkdmlpigkmlkmaa.Bk
open Go.RowKit Go.Proofs.Ytkdmlpigkmlkmaa Go.Proofs.Ytkdmlpigkmlkmaa.TreeP Go.Proofs.Ytkdmlpigkmlkmaa.Tr

/-- who is in bucket i -/
def inB (β : Int → Nat) (R : List En) (i : Nat) : List En := R.filter fun e => decide (β e.1.1 = i)
def tab (β : Int → Nat) (n : Nat) (R : List En) : TT := (List.range n).map (inB β R)
/-- what holds of the sockets behind any calls -/
structure RK (room : Nat) (R : List En) : Prop where
  rise : RisingE R
  key : ∀ e ∈ R, e.1.2 = 0 ∧ 0 ≤ e.1.1 ∧ e.1.1 < 18446744073709551616
  len : R.length ≤ room
theorem rk_nil (room : Nat) : RK room [] := ⟨List.Pairwise.nil, fun e he => by simp at he, Nat.zero_le _⟩
section
variable {β : Int → Nat} {n room : Nat} {R : List En}
theorem tab_len : (tab β n R).length = n := by simp [tab]
theorem tab_slot {i : Nat} (hi : i < n) : slot (tab β n R) i = inB β R i := by simp [slot, tab, List.getD, hi]
theorem tab_nil : tab β n [] = List.replicate n [] := by
  apply List.ext_getElem?
  intro i
  by_cases hi : i < n <;> simp [tab, inB, List.getElem?_replicate, hi]
theorem tab_ext {T : TT} (h : T.length = n) (k : ∀ i, i < n → slot T i = inB β R i) : T = tab β n R := by
  apply List.ext_getElem?
  intro i
  by_cases hi : i < n
  · have h1 := k i hi
    have h2 : i < T.length := by omega
    unfold slot at h1
    simp [List.getD, h2] at h1
    simp [tab, hi, h2, h1]
  · rw [List.getElem?_eq_none (by omega), List.getElem?_eq_none (by rw [tab_len]; omega)]
theorem total_tab : ∀ (R : List En), (∀ e ∈ R, β e.1.1 < n) → total (tab β n R) = R.length
  | [], _ => by rw [tab_nil, total_fresh]; rfl
  | e :: R, h => by
    have ih := total_tab R (fun x hx => h x (.tail _ hx))
    have hb := h e (.head _)
    have e1 : (tab β n R).set (β e.1.1) (e :: inB β R (β e.1.1)) = tab β n (e :: R) := by
      refine tab_ext (by rw [List.length_set, tab_len]) fun i hi => ?_
      rw [slot_set (by rw [tab_len]; exact hb)]
      split
      · subst_vars; simp [inB, List.filter_cons]
      · rename_i hne
        rw [tab_slot hi]
        simp [inB, List.filter_cons, Ne.symm hne]
    have ht := total_set (tab β n R) (β e.1.1) (e :: inB β R (β e.1.1)) (by rw [tab_len]; exact hb)
    rw [e1, tab_slot hb, List.length_cons] at ht
    rw [List.length_cons]
    omega
theorem look_in (s : Int) (i : Nat) (hi : β s = i) : Tr.look (inB β R i) (s, 0) = Tr.look R (s, 0) := by
  unfold Tr.look inB
  rw [List.find?_filter]
  congr 2
  funext e
  by_cases h : e.1 = (s, 0)
  · simp [h, hi]
  · simp [h]
theorem del_in (q : Key) (i : Nat) : inB β (del R q) i = del (inB β R i) q := by
  unfold inB del
  rw [List.filter_filter, List.filter_filter]
  congr 1
  funext e
  rw [Bool.and_comm]
theorem del_other (s : Int) (i : Nat) (hi : β s ≠ i) : inB β (del R (s, 0)) i = inB β R i := by
  unfold inB del
  rw [List.filter_filter]
  congr 1
  funext e
  by_cases h : β e.1.1 = i
  · have : e.1 ≠ (s, 0) := fun he => hi (by rw [← h, he])
    simp [h, this]
  · simp [h]
theorem ins_in (s v : Int) (i : Nat) (hi : β s = i) : inB β (ins R (s, 0) v) i = ins (inB β R i) (s, 0) v := by
  unfold inB ins
  rw [List.filter_append, List.filter_cons, List.filter_filter, List.filter_filter, List.filter_filter, List.filter_filter, if_pos (by simpa using hi)]
  congr 1
  · congr 1
    funext e
    rw [Bool.and_comm]
  · congr 1
    congr 1
    funext e
    rw [Bool.and_comm]
theorem ins_other (h : RisingE R) (s v : Int) (i : Nat) (hn : Tr.look R (s, 0) = none) (hi : β s ≠ i) : inB β (ins R (s, 0) v) i = inB β R i := by
  rcases parts h (s, 0) with ⟨A, u, B, e1, _, _, _⟩ | ⟨A, B, e1, _, e3, e4⟩
  · exfalso
    rw [e1] at h hn
    rw [(del_parts h).2] at hn
    cases hn
  · rw [e1, ins_parts e3 e4]
    unfold inB
    rw [List.filter_append, List.filter_append, List.filter_cons, if_neg (by simpa using hi)]
theorem RK.put (h : RK room R) {s v : Int} (h0 : 0 ≤ s) (h1 : s < 18446744073709551616) (hn : Tr.look R (s, 0) = none) (hr : R.length < room) : RK room (ins R (s, 0) v) := by
  obtain ⟨r1, r2, r3, _, _⟩ := rise_ins h.rise (s, 0) v hn
  refine ⟨r1, fun e he => ?_, by omega⟩
  rcases (r3 e).1 he with rfl | he
  · exact ⟨rfl, h0, h1⟩
  · exact h.key e he
theorem RK.drop (h : RK room R) (s : Int) : RK room (del R (s, 0)) :=
  ⟨rise_del h.rise _, fun e he => h.key e (by unfold del at he; exact (List.mem_filter.1 he).1), by have := List.length_filter_le (fun e : En => decide (e.1 ≠ (s, 0))) R; have := h.len; unfold del; omega⟩
theorem tab_put (h : RisingE R) {s v : Int} (hs : β s < n) (hn : Tr.look R (s, 0) = none) : (tab β n R).set (β s) (ins (inB β R (β s)) (s, 0) v) = tab β n (ins R (s, 0) v) :=
  tab_ext (by rw [List.length_set, tab_len]) fun i hi => by
    rw [slot_set (by rw [tab_len]; exact hs)]
    split
    · rename_i e; rw [e, ins_in s v _ rfl]
    · rename_i e; rw [tab_slot hi, ins_other h s v i hn (Ne.symm e)]
theorem tab_drop {s : Int} (hs : β s < n) : (tab β n R).set (β s) (del (inB β R (β s)) (s, 0)) = tab β n (del R (s, 0)) :=
  tab_ext (by rw [List.length_set, tab_len]) fun i hi => by
    rw [slot_set (by rw [tab_len]; exact hs)]
    split
    · rename_i e; rw [e, del_in]
    · rename_i e; rw [tab_slot hi, del_other s i (Ne.symm e)]
theorem in_len (i : Nat) : (inB β R i).length ≤ R.length := List.length_filter_le _ _
end
end Go.Proofs.Ytkdmlpigkmlkmaa.Bk
--  DERIVED. Layer 13 (bucket) in memory: an object, a row of pointers, a tree for each that is not nil. 
set_option linter.unusedVariables false
set_option linter.unusedSimpArgs false
set_option maxRecDepth 100000
namespace Go.Proofs.Ytkdmlpigkmlkmaa.Bk
open Go.RowKit Go.Proofs.Ytkdmlpigkmlkmaa Go.Proofs.Ytkdmlpigkmlkmaa.TreeP Go.Proofs.Ytkdmlpigkmlkmaa.Tr

/-- a place: its tree, if there is one, and what it holds -/
abbrev Slot := Option Nat × List En
def tr1 (room : Nat) : Slot → List HP
  | (none, _) => []
  | (some q, E) => [Tr.Tree q room E]
def trs (room : Nat) (L : List Slot) : List HP := L.flatMap (tr1 room)
theorem trs_out (room : Nat) : ∀ (L : List Slot) (i : Nat) (x : Slot), L[i]? = some x → (trs room L).Perm (tr1 room x ++ trs room (L.set i (none, [])))
  | [], i, x, h => by simp at h
  | y :: L, 0, x, h => by
    obtain rfl : y = x := by simpa using h
    exact List.Perm.refl _
  | y :: L, i + 1, x, h => by
    have ih := trs_out room L i x (by simpa using h)
    exact (ih.append_left (tr1 room y)).trans (List.perm_append_comm_assoc _ _ _)
theorem trs_in (room : Nat) (L : List Slot) (i : Nat) (y : Slot) (hi : i < L.length) : (tr1 room y ++ trs room (L.set i (none, []))).Perm (trs room (L.set i y)) := by
  have := trs_out room (L.set i y) i y (by simp [hi])
  rw [List.set_set] at this
  exact this.symm
def ptr : Slot → Value
  | (none, _) => .pointer none
  | (some q, _) => .pointer (some ⟨q, 0, none⟩)
abbrev BB (p g n bits room many : Nat) : HP := Go.Proofs.Ytkdmlpigkmlkmaa.Blk p #[.slice (some ⟨g, 0, none⟩) n n, .int .i64 (bits : Int), .int .i64 (room : Int), .int .i64 (many : Int)] 122
abbrev RP (g : Nat) (L : List Slot) : HP := Row 133 1 (.slice (some ⟨g, 0, none⟩) L.length L.length) L.length (L.map ptr)
/-- T: who is in each bucket -/
structure Mem (bits : Nat) (T : TT) (x : Nat × List Slot) : Prop where
  cont : x.2.map (·.2) = T
  len : x.2.length = 2 ^ bits
  none : ∀ y ∈ x.2, y.1 = none → y.2 = []
  bits : bits ≤ 10
theorem Mem.lenT {bits : Nat} {T : TT} {x : Nat × List Slot} (h : Mem bits T x) : x.2.length = T.length := by rw [← h.cont, List.length_map]
theorem Mem.at {bits : Nat} {T : TT} {x : Nat × List Slot} (h : Mem bits T x) {i : Nat} (hi : i < x.2.length) : ∃ q, x.2[i]? = some (q, slot T i) ∧ (q = Option.none → slot T i = []) := by
  have e : x.2[i]? = some x.2[i] := List.getElem?_eq_getElem hi
  have e2 : slot T i = (x.2[i]).2 := by
    unfold slot
    rw [← h.cont, List.getD_eq_getElem?_getD, List.getElem?_map, e]
    rfl
  refine ⟨(x.2[i]).1, by rw [e, e2], fun hq => ?_⟩
  rw [e2]
  exact h.none _ (List.getElem_mem hi) hq
theorem Mem.set {bits : Nat} {T : TT} {g : Nat} {L : List Slot} (h : Mem bits T (g, L)) (i q : Nat) (E : List En) : Mem bits (T.set i E) (g, L.set i (some q, E)) :=
  ⟨by have := h.cont; simp only at this ⊢; rw [List.map_set, this], by rw [List.length_set]; exact h.len, fun y hy hn => by
    rcases List.mem_or_eq_of_mem_set hy with hy | rfl
    · exact h.none y hy hn
    · simp at hn, h.bits⟩
section
variable {p g bits room many : Nat} {L : List Slot} {l : List HP} {w : World}
theorem b_cells (h : Own (BB p g L.length bits room many :: l) w) :
    w.cell? ⟨p, 0, none⟩ = some (.slice (some ⟨g, 0, none⟩) L.length L.length) ∧ w.cell? ⟨p, 1, none⟩ = some (.int .i64 (bits : Int)) ∧ w.cell? ⟨p, 2, none⟩ = some (.int .i64 (room : Int)) ∧ w.cell? ⟨p, 3, none⟩ = some (.int .i64 (many : Int)) ∧ ∀ o, w.frozen? ⟨p, o, none⟩ = false :=
  Go.Proofs.Ytkdmlpigkmlkmaa.Own.blk4 h (.head _)
theorem r_cell (h : Own (RP g L :: l) w) {i : Nat} {x : Slot} (hi : L[i]? = some x) : w.cell? ⟨g, i, none⟩ = some (ptr x) ∧ w.frozen? ⟨g, i, none⟩ = false := by
  have := h.row.cells (g := g) rfl i (ptr x) (by rw [List.getElem?_map, hi]; rfl)
  rw [add_plain] at this
  exact ⟨this, h.row.frozen' rfl i⟩
/-- a tree taken out -/
theorem tree_out (h : Own (BB p g L.length bits room many :: RP g L :: (trs room L ++ l)) w) {i q : Nat} {E : List En} (hi : L[i]? = some (some q, E)) :
    Own (Tr.Tree q room E :: BB p g L.length bits room many :: RP g L :: (trs room (L.set i (none, [])) ++ l)) w :=
  h.perm (((((trs_out room L i _ hi).append_right l).cons (RP g L)).cons (BB p g L.length bits room many)).trans ((List.perm_append_comm (l₁ := [BB p g L.length bits room many, RP g L]) (l₂ := [Tr.Tree q room E])).append_right (trs room (L.set i (none, [])) ++ l)))
theorem tree_in {i : Nat} (hi : i < L.length) {q : Nat} {E : List En} {many' : Nat} (h : Own (Tr.Tree q room E :: BB p g L.length bits room many' :: RP g (L.set i (some q, E)) :: (trs room (L.set i (none, [])) ++ l)) w) :
    Own (BB p g L.length bits room many' :: RP g (L.set i (some q, E)) :: (trs room (L.set i (some q, E)) ++ l)) w :=
  h.perm (((List.perm_append_comm (l₁ := [Tr.Tree q room E]) (l₂ := [BB p g L.length bits room many', RP g (L.set i (some q, E))])).append_right (trs room (L.set i (none, [])) ++ l)).trans ((((trs_in room L i (some q, E) hi).append_right l).cons (RP g (L.set i (some q, E)))).cons (BB p g L.length bits room many')))
set_option maxHeartbeats 400000 in
theorem none_any (h : Own (BB p g L.length bits room many :: l) w) :
    Calls Try.prog 76 #[.pointer (some ⟨p, 0, none⟩)] w fun e w' => e = .returned (.bool false) ∧ w = w' := by
  obtain ⟨c0, c1, c2, c3, hf⟩ := b_cells h
  obtain ⟨N, hN⟩ : ∃ N, N = L.length := ⟨_, rfl⟩
  rw [← hN] at c0
  have he : ∀ w : World, (binOp .eql 120 (.slice (some ⟨g, 0, none⟩) N N) (.slice none 0 0)).run Try.prog w = .ok (.bool false) w := fun _ => rfl
  clear h hN
  go_enter Try.func76, Try.ntmps76
  go_wp2
  go_ret
  exact ⟨rfl, rfl⟩
/-- a socket's bucket -/
def β (bits : Nat) (s : Int) : Nat := Mx.bk s.toNat bits
theorem β_lt (bits : Nat) (s : Int) (h : bits ≤ 10) : β bits s < 2 ^ bits := Mx.bucket_lt _ _ (by omega)
theorem of_any (h : Own (BB p g L.length bits room many :: l) w) (hb : bits ≤ 10) (s : Int) (h0 : 0 ≤ s) (h1 : s < 18446744073709551616) :
    Calls Try.prog 75 #[.pointer (some ⟨p, 0, none⟩), .int .u64 s] w fun e w' => e = .returned (.int .i64 ((β bits s : Nat) : Int)) ∧ Ext w w' := by
  obtain ⟨c0, c1, c2, c3, hf⟩ := b_cells h
  obtain ⟨n, rfl⟩ := Int.eq_ofNat_of_zero_le h0
  have H := Lib.hid h
  have HM := Lib.hid (Mx.bucket_any n bits (by unfold MixP.M; omega) (by omega) w)
  rw [show Mx.bk n bits = β bits (n : Int) from rfl] at HM
  clear h hf
  go_enter Try.func75, Try.ntmps75
  go_wp2_with (first
    | (go_at_call 76; refine (none_any H.out).mono ?_; rintro e w' ⟨rfl, rfl⟩)
    | (go_at_call 25; refine (HM.out).mono ?_; rintro e w' ⟨rfl, hx⟩; have HX := Lib.hid hx; clear hx))
  go_ret
  exact ⟨rfl, HX.out⟩
theorem key_any (s : Int) (w : World) :
    Calls Try.prog 78 #[.int .u64 s] w fun e w' => e = .returned (Tr.key s 0) ∧ Ext w w' := by
  obtain ⟨W1, hW1⟩ : ∃ W1, W1 = w.alloc (.cells #[.int .u64 0, .int .u64 0] 130) := ⟨_, rfl⟩
  have hb : W1.heap[w.heap.size]? = some (.cells #[.int .u64 0, .int .u64 0] 130 (0, 0)) := by rw [hW1]; exact heap_alloc_new w _
  have b0 : W1.cell? ⟨w.heap.size, 0, none⟩ = some (.int .u64 0) := by simp [World.cell?, hb]
  have b1 : W1.cell? ⟨w.heap.size, 1, none⟩ = some (.int .u64 0) := by simp [World.cell?, hb]
  have f0 : W1.frozen? ⟨w.heap.size, 0, none⟩ = false := by simp [World.frozen?, hb]
  have f1 : W1.frozen? ⟨w.heap.size, 1, none⟩ = false := by simp [World.frozen?, hb]
  obtain ⟨W2, hW2⟩ : ∃ W2, (W1.setCell ⟨w.heap.size, 0, none⟩ (.int .u64 s)).setCell ⟨w.heap.size, 1, none⟩ (.int .u64 0) = W2 := ⟨_, rfl⟩
  have hb2 : W2.heap[w.heap.size]? = some (.cells #[.int .u64 s, .int .u64 0] 130 (0, 0)) := by
    rw [← hW2]
    exact heap_set (o := 1) _ (heap_set (o := 0) _ hb)
  have r0 : W2.cell? ⟨w.heap.size, 0, none⟩ = some (.int .u64 s) := by simp [World.cell?, hb2]
  have r1 : W2.cell? ⟨w.heap.size, 1, none⟩ = some (.int .u64 0) := by simp [World.cell?, hb2]
  have HX : Hid (Ext w W2) := Lib.hid (by
    have h := (Step.refl (fun _ => False) w).alloc (.cells #[.int .u64 0, .int .u64 0] 130)
    rw [← hW1] at h
    have h2 := (h.setCell ⟨w.heap.size, 0, none⟩ (.inr (Nat.le_refl _)) (.int .u64 s)).setCell ⟨w.heap.size, 1, none⟩ (.inr (Nat.le_refl _)) (.int .u64 0)
    rw [hW2] at h2
    exact h2.to_ext)
  have HW := Lib.hid hW1
  have HR := Lib.hid (And.intro r0 r1)
  clear hb hb2 hW1 r0 r1
  go_enter Try.func78, Try.ntmps78
  go_upto_region 1 with fail
  rw [← HW.out]
  go_wp2_with fail
  obtain ⟨r0, r1⟩ := HR.out
  exact bodyPost_ret (v := Tr.key s 0) (by simp [results, Try.results78, go_sem, r0, r1]) rfl ⟨rfl, HX.out⟩
end
end Go.Proofs.Ytkdmlpigkmlkmaa.Bk
--  DERIVED. Layer 13 (bucket): contracts of Get, Drop, In. 
set_option linter.unusedVariables false
set_option linter.unusedSimpArgs false
set_option maxRecDepth 100000
namespace Go.Proofs.Ytkdmlpigkmlkmaa.Bk
open Go.RowKit Go.Proofs.Ytkdmlpigkmlkmaa Go.Proofs.Ytkdmlpigkmlkmaa.TreeP

section
variable {p g bits room many : Nat} {L : List Slot} {l : List HP} {w : World}
/-- the walk of Get, over whatever is owned -/
theorem get_walk {LL : List HP} {a : Option Addr} {g i N : Nat} (s x : Int) (b : Bool) (hi : i < N)
    (HN : ∀ w', Own LL w' → Calls Try.prog 76 #[.pointer (some ⟨p, 0, none⟩)] w' fun e w2 => e = .returned (.bool false) ∧ w' = w2)
    (HC : ∀ w', Own LL w' → w'.cell? ⟨p, 0, none⟩ = some (.slice (some ⟨g, 0, none⟩) N N) ∧ w'.cell? ⟨g, i, none⟩ = some (.pointer a))
    (HO : ∀ w', Own LL w' → Calls Try.prog 75 #[.pointer (some ⟨p, 0, none⟩), .int .u64 s] w' fun e w2 => e = .returned (.int .i64 (i : Int)) ∧ Own LL w2)
    (HG : ∀ w', Own LL w' → Calls Try.prog 77 #[.pointer a, Tr.key s 0] w' fun e w2 => e = .returned (.tuple #[.int .i64 x, .bool b]) ∧ Own LL w2)
    (h : Own LL w) : Calls Try.prog 50 #[.pointer (some ⟨p, 0, none⟩), .int .u64 s] w fun e w' => e = .returned (.tuple #[.int .i64 x, .bool b]) ∧ Own LL w' := by
  have HNN := Lib.hid HN
  have HCC := Lib.hid HC
  have HOO : Hid (∀ w', Own LL w' → Calls Try.prog 75 #[.pointer (some ⟨p, 0, none⟩), .int .u64 s] w' fun e w2 => e = .returned (.int .i64 (i : Int)) ∧ Own LL w2 ∧ w2.cell? ⟨p, 0, none⟩ = some (.slice (some ⟨g, 0, none⟩) N N) ∧ w2.cell? ⟨g, i, none⟩ = some (.pointer a)) := Lib.hid fun w' h' => (HO w' h').mono fun e w2 ⟨he, hw⟩ => ⟨he, hw, HC w2 hw⟩
  have HGG : Hid (∀ w', Own LL w' → Calls Try.prog 77 #[.pointer a, Tr.key s 0] w' fun e w2 => e = .returned (.tuple #[.int .i64 x, .bool b]) ∧ Own LL w2 ∧ w2.cell? ⟨p, 0, none⟩ = some (.slice (some ⟨g, 0, none⟩) N N) ∧ w2.cell? ⟨g, i, none⟩ = some (.pointer a)) := Lib.hid fun w' h' => (HG w' h').mono fun e w2 ⟨he, hw⟩ => ⟨he, hw, HC w2 hw⟩
  have HKK : Hid (∀ w', Own LL w' → Calls Try.prog 78 #[.int .u64 s] w' fun e w2 => e = .returned (Tr.key s 0) ∧ Own LL w2 ∧ w2.cell? ⟨p, 0, none⟩ = some (.slice (some ⟨g, 0, none⟩) N N) ∧ w2.cell? ⟨g, i, none⟩ = some (.pointer a)) := Lib.hid fun w' h' => (key_any s w').mono fun e w2 ⟨he, hw⟩ => ⟨he, h'.step hw, HC w2 (h'.step hw)⟩
  obtain ⟨c0, c1⟩ := HC w h
  have H := Lib.hid h
  have hi' : (i : Int) < (N : Int) := by omega
  clear HN HC HO HG h
  go_enter Try.func50, Try.ntmps50
  go_wp2_with (go_at_call 76; refine (HNN.out _ H.out).mono ?_; rintro e w' ⟨rfl, rfl⟩)
  have hown := H.out
  go_region_held3 (fun w' => Own LL w' ∧ w'.cell? ⟨p, 0, none⟩ = some (.slice (some ⟨g, 0, none⟩) N N) ∧ w'.cell? ⟨g, i, none⟩ = some (.pointer a))
    (first | exact ⟨(H.out).step (Ext.refl _).drew, (Ext.refl _).drew.cell c0, (Ext.refl _).drew.cell c1⟩ | (refine ⟨?_, ?_, ?_⟩ <;> assumption))
    (first
      | (go_at_call 75; go_split_ands; refine (HOO.out _ (by assumption)).mono ?_; rintro e w2 ⟨rfl, hz, z0, z1⟩)
      | (go_at_call 78; go_split_ands; refine (HKK.out _ (by assumption)).mono ?_; rintro e w2 ⟨rfl, hz, z0, z1⟩)
      | (go_at_call 77; go_split_ands; refine (HGG.out _ (by assumption)).mono ?_; rintro e w2 ⟨rfl, hz, z0, z1⟩))
  all_goals go_split_ands
  all_goals have HZ := Lib.hid (show Own LL _ by assumption)
  all_goals go_wp2_with fail
  all_goals go_ret2
  all_goals exact ⟨rfl, HZ.out⟩
/-- the walk of Drop, over whatever is owned -/
theorem drop_walk {LL L2 L3 : List HP} {a : Option Addr} {g i N many : Nat} (s x : Int) (b : Bool) (hi : i < N) (hm : b = true → 1 ≤ many) (hm2 : many ≤ 4096)
    (HN : ∀ w', Own LL w' → Calls Try.prog 76 #[.pointer (some ⟨p, 0, none⟩)] w' fun e w2 => e = .returned (.bool false) ∧ w' = w2)
    (HC : ∀ w', Own LL w' → w'.cell? ⟨p, 0, none⟩ = some (.slice (some ⟨g, 0, none⟩) N N) ∧ w'.cell? ⟨g, i, none⟩ = some (.pointer a))
    (HC2 : ∀ w', Own L2 w' → w'.cell? ⟨p, 0, none⟩ = some (.slice (some ⟨g, 0, none⟩) N N) ∧ w'.cell? ⟨g, i, none⟩ = some (.pointer a) ∧ w'.cell? ⟨p, 3, none⟩ = some (.int .i64 (many : Int)) ∧ w'.frozen? ⟨p, 3, none⟩ = false)
    (HO : ∀ w', Own LL w' → Calls Try.prog 75 #[.pointer (some ⟨p, 0, none⟩), .int .u64 s] w' fun e w2 => e = .returned (.int .i64 (i : Int)) ∧ Own LL w2)
    (HG : ∀ w', Own LL w' → Calls Try.prog 85 #[.pointer a, Tr.key s 0] w' fun e w2 => e = .returned (.tuple #[.int .i64 x, .bool b]) ∧ Own L2 w2)
    (HS : ∀ w', Own L2 w' → if b then Own L3 (w'.setCell ⟨p, 3, none⟩ (.int .i64 ((many : Int) - 1))) else Own L3 w')
    (h : Own LL w) : Calls Try.prog 59 #[.pointer (some ⟨p, 0, none⟩), .int .u64 s] w fun e w' => e = .returned (.tuple #[.int .i64 x, .bool b]) ∧ Own L3 w' := by
  have HNN := Lib.hid HN
  have HOO : Hid (∀ w', Own LL w' → Calls Try.prog 75 #[.pointer (some ⟨p, 0, none⟩), .int .u64 s] w' fun e w2 => e = .returned (.int .i64 (i : Int)) ∧ Own LL w2 ∧ w2.cell? ⟨p, 0, none⟩ = some (.slice (some ⟨g, 0, none⟩) N N) ∧ w2.cell? ⟨g, i, none⟩ = some (.pointer a)) := Lib.hid fun w' h' => (HO w' h').mono fun e w2 ⟨he, hw⟩ => ⟨he, hw, HC w2 hw⟩
  have HGG : Hid (∀ w', Own LL w' → Calls Try.prog 85 #[.pointer a, Tr.key s 0] w' fun e w2 => e = .returned (.tuple #[.int .i64 x, .bool b]) ∧ Own L2 w2 ∧ w2.cell? ⟨p, 0, none⟩ = some (.slice (some ⟨g, 0, none⟩) N N) ∧ w2.cell? ⟨g, i, none⟩ = some (.pointer a)) := Lib.hid fun w' h' => (HG w' h').mono fun e w2 ⟨he, hw⟩ => ⟨he, hw, (HC2 w2 hw).1, (HC2 w2 hw).2.1⟩
  have HKK : Hid (∀ w', Own LL w' → Calls Try.prog 78 #[.int .u64 s] w' fun e w2 => e = .returned (Tr.key s 0) ∧ Own LL w2 ∧ w2.cell? ⟨p, 0, none⟩ = some (.slice (some ⟨g, 0, none⟩) N N) ∧ w2.cell? ⟨g, i, none⟩ = some (.pointer a)) := Lib.hid fun w' h' => (key_any s w').mono fun e w2 ⟨he, hw⟩ => ⟨he, h'.step hw, HC w2 (h'.step hw)⟩
  have HC3 := Lib.hid HC2
  have HSS := Lib.hid HS
  have HM := Lib.hid hm
  obtain ⟨c0, c1⟩ := HC w h
  have H := Lib.hid h
  have hi' : (i : Int) < (N : Int) := by omega
  clear HN HC HO HG h HC2 HS hm
  go_enter Try.func59, Try.ntmps59
  go_wp2_with (go_at_call 76; refine (HNN.out _ H.out).mono ?_; rintro e w' ⟨rfl, rfl⟩)
  have hown := H.out
  go_region_held3 (fun w' => w'.cell? ⟨p, 0, none⟩ = some (.slice (some ⟨g, 0, none⟩) N N) ∧ w'.cell? ⟨g, i, none⟩ = some (.pointer a))
    (first | exact ⟨(Ext.refl _).drew.cell c0, (Ext.refl _).drew.cell c1⟩ | (refine ⟨?_, ?_⟩ <;> assumption))
    (first
      | (go_at_call 75; go_split_ands; refine (HOO.out _ (by first | assumption | exact (H.out).step (Ext.refl _).drew)).mono ?_; rintro e w2 ⟨rfl, hz, z0, z1⟩)
      | (go_at_call 78; go_split_ands; refine (HKK.out _ (by first | assumption | exact (H.out).step (Ext.refl _).drew)).mono ?_; rintro e w2 ⟨rfl, hz, z0, z1⟩)
      | (go_at_call 85; go_split_ands; refine (HGG.out _ (by assumption)).mono ?_; rintro e w2 ⟨rfl, hz, z0, z1⟩))
  all_goals go_split_ands
  all_goals have HZ := Lib.hid (show Own L2 _ by assumption)
  all_goals obtain ⟨y0, y1, y2, y3⟩ := HC3.out _ HZ.out
  all_goals have HW := Lib.hid (HSS.out _ HZ.out)
  all_goals clear HNN HOO HGG HKK HC3 HSS
  all_goals cases b
  all_goals (try have hm1 := HM.out rfl)
  all_goals clear HM
  all_goals go_wp2_with fail
  all_goals go_ret2
  all_goals exact ⟨rfl, HW.out⟩
end
end Go.Proofs.Ytkdmlpigkmlkmaa.Bk
--  DERIVED. Layer 13 (bucket): contracts of In, Put and its inner function, over whatever is owned. 
set_option linter.unusedVariables false
set_option linter.unusedSimpArgs false
set_option maxRecDepth 100000
namespace Go.Proofs.Ytkdmlpigkmlkmaa.Bk
open Go.RowKit Go.Proofs.Ytkdmlpigkmlkmaa Go.Proofs.Ytkdmlpigkmlkmaa.TreeP Go.Proofs.Ytkdmlpigkmlkmaa.Tr

section
variable {p : Nat} {w : World}
theorem in_walk {LL : List HP} {a : Option Addr} {g N : Nat} (i : Int) (E : List En) (k : Nat) (hk : i = (k : Int)) (hi : k < N)
    (HN : ∀ w', Own LL w' → Calls Try.prog 76 #[.pointer (some ⟨p, 0, none⟩)] w' fun e w2 => e = .returned (.bool false) ∧ w' = w2)
    (HC : ∀ w', Own LL w' → w'.cell? ⟨p, 0, none⟩ = some (.slice (some ⟨g, 0, none⟩) N N) ∧ w'.cell? ⟨g, k, none⟩ = some (.pointer a))
    (HG : ∀ w', Own LL w' → Calls Try.prog 90 #[.pointer a] w' fun e w2 => ∃ v, e = .returned v ∧ Own (Row 132 3 v E.length (Tr.ents E) :: LL) w2)
    (h : Own LL w) : Calls Try.prog 74 #[.pointer (some ⟨p, 0, none⟩), .int .i64 i] w fun e w' => ∃ v, e = .returned v ∧ Own (Row 132 3 v E.length (Tr.ents E) :: LL) w' := by
  subst hk
  obtain ⟨c0, c1⟩ := HC w h
  have HNN := Lib.hid HN
  have HGG := Lib.hid HG
  have H := Lib.hid h
  have hi' : (k : Int) < (N : Int) := by omega
  clear HN HC HG h
  go_enter Try.func74, Try.ntmps74
  go_wp2_with (go_at_call 76; refine (HNN.out _ H.out).mono ?_; rintro e w' ⟨rfl, rfl⟩)
  refine (HGG.out _ H.out).mono ?_
  rintro e w2 ⟨v, rfl, h2⟩
  have H2 := Lib.hid h2
  clear h2 HNN HGG H
  go_wp2_with fail
  go_ret
  exact ⟨_, rfl, H2.out⟩
theorem in_out {LL : List HP} {g N : Nat} (i : Int) (hi : i < 0 ∨ (N : Int) ≤ i)
    (HN : ∀ w', Own LL w' → Calls Try.prog 76 #[.pointer (some ⟨p, 0, none⟩)] w' fun e w2 => e = .returned (.bool false) ∧ w' = w2)
    (HC : ∀ w', Own LL w' → w'.cell? ⟨p, 0, none⟩ = some (.slice (some ⟨g, 0, none⟩) N N))
    (h : Own LL w) : Calls Try.prog 74 #[.pointer (some ⟨p, 0, none⟩), .int .i64 i] w fun e w' => e = .returned (.slice none 0 0) ∧ w = w' := by
  have c0 := HC w h
  have HNN := Lib.hid HN
  have H := Lib.hid h
  clear HN HC h
  by_cases h1 : i < 0
  · have d1 : decide (i < 0) = true := by simpa using h1
    clear hi
    go_enter Try.func74, Try.ntmps74
    go_wp2_with (go_at_call 76; refine (HNN.out _ H.out).mono ?_; rintro e w' ⟨rfl, rfl⟩)
    go_ret
    exact ⟨rfl, rfl⟩
  · have d1 : decide (i < 0) = false := by simpa using h1
    have d2 : (N : Int) ≤ i := by omega
    have d3 : decide ((N : Int) ≤ i) = true := by simpa using d2
    clear hi h1
    go_enter Try.func74, Try.ntmps74
    go_wp2_with (go_at_call 76; refine (HNN.out _ H.out).mono ?_; rintro e w' ⟨rfl, rfl⟩)
    go_ret
    exact ⟨rfl, rfl⟩
/-- Put's inner function, where there is a tree -/
theorem own1_some {g i bx q : Nat} (c : w.cell? ⟨g, i, none⟩ = some (.pointer (some ⟨q, 0, none⟩))) :
    Calls Try.prog 82 #[.pointer (some ⟨g, i, none⟩), .pointer (some ⟨bx, 0, none⟩)] w fun e w' => e = .returned (.pointer (some ⟨q, 0, none⟩)) ∧ w = w' := by
  go_enter Try.func82, Try.ntmps82
  go_wp2
  go_ret
  exact ⟨rfl, rfl⟩
/-- Put's inner function, where there is none -/
theorem own1_none {LL : List HP} {L2 : Nat → List HP} {g i bx room : Nat} (r1 : 1 ≤ room) (r2 : room ≤ 65536)
    (HC : ∀ w' q, Own (Tr.Tree q room [] :: LL) w' → w'.cell? ⟨g, i, none⟩ = some (.pointer none) ∧ w'.frozen? ⟨g, i, none⟩ = false ∧ Own (L2 q) (w'.setCell ⟨g, i, none⟩ (.pointer (some ⟨q, 0, none⟩))))
    (c : w.cell? ⟨g, i, none⟩ = some (.pointer none)) (cb : w.cell? ⟨bx, 0, none⟩ = some (.pointer (some ⟨p, 0, none⟩))) (cr : w.cell? ⟨p, 2, none⟩ = some (.int .i64 (room : Int)))
    (h : Own LL w) : Calls Try.prog 82 #[.pointer (some ⟨g, i, none⟩), .pointer (some ⟨bx, 0, none⟩)] w fun e w' => ∃ q, e = .returned (.pointer (some ⟨q, 0, none⟩)) ∧ Own (L2 q) w' := by
  have HCC := Lib.hid HC
  have HNW := Lib.hid (Tr.own_new room r1 r2 h)
  clear HC h
  go_enter Try.func82, Try.ntmps82
  go_wp2_with fail
  refine (HNW.out).mono ?_
  rintro e w2 ⟨q, rfl, h2⟩
  obtain ⟨d, f, h3⟩ := HCC.out _ _ h2
  obtain ⟨w3, e3⟩ : ∃ w3, w2.setCell ⟨g, i, none⟩ (.pointer (some ⟨q, 0, none⟩)) = w3 := ⟨_, rfl⟩
  have d3 : w3.cell? ⟨g, i, none⟩ = some (.pointer (some ⟨q, 0, none⟩)) := by rw [← e3]; exact World.cell?_setCell_same' _ _ _ (by rw [d]; rfl)
  rw [e3] at h3
  have H3 := Lib.hid h3
  clear h3 h2 HCC HNW c cb cr
  go_wp2_with fail
  go_ret
  exact ⟨q, rfl, H3.out⟩
end
section
variable {p : Nat} {w : World}
theorem put_have {LA : List HP} {s v x : Int}
    (HN : ∀ w', Own LA w' → Calls Try.prog 76 #[.pointer (some ⟨p, 0, none⟩)] w' fun e w2 => e = .returned (.bool false) ∧ w' = w2)
    (HG : ∀ w', Own LA w' → Calls Try.prog 50 #[.pointer (some ⟨p, 0, none⟩), .int .u64 s] w' fun e w2 => e = .returned (.tuple #[.int .i64 x, .bool true]) ∧ Own LA w2)
    (h1 : Own LA (w.alloc (.cells #[.pointer (some ⟨p, 0, none⟩)] 79))) : Calls Try.prog 54 #[.pointer (some ⟨p, 0, none⟩), .int .u64 s, .int .i64 v] w fun e w' => e = .returned (.int .i64 60) ∧ Own LA w' := by
  have H1 := Lib.hid h1
  have HNN := Lib.hid HN
  have HGG := Lib.hid HG
  clear HN HG h1
  go_enter Try.func54, Try.ntmps54
  go_wp2_with (go_at_call 76; refine (HNN.out _ H1.out).mono ?_; rintro e w' ⟨rfl, rfl⟩)
  refine (HGG.out _ H1.out).mono ?_
  rintro e w2 ⟨rfl, h2⟩
  have H2 := Lib.hid h2
  clear h2 HNN HGG H1
  go_wp2_with fail
  go_ret
  exact ⟨rfl, H2.out⟩
theorem put_full {LA : List HP} {s v x : Int} {room : Nat}
    (HC : ∀ w', Own LA w' → w'.cell? ⟨w.heap.size, 0, none⟩ = some (.pointer (some ⟨p, 0, none⟩)) ∧ w'.cell? ⟨p, 2, none⟩ = some (.int .i64 (room : Int)) ∧ w'.cell? ⟨p, 3, none⟩ = some (.int .i64 (room : Int)))
    (HN : ∀ w', Own LA w' → Calls Try.prog 76 #[.pointer (some ⟨p, 0, none⟩)] w' fun e w2 => e = .returned (.bool false) ∧ w' = w2)
    (HG : ∀ w', Own LA w' → Calls Try.prog 50 #[.pointer (some ⟨p, 0, none⟩), .int .u64 s] w' fun e w2 => e = .returned (.tuple #[.int .i64 x, .bool false]) ∧ Own LA w2)
    (h1 : Own LA (w.alloc (.cells #[.pointer (some ⟨p, 0, none⟩)] 79))) : Calls Try.prog 54 #[.pointer (some ⟨p, 0, none⟩), .int .u64 s, .int .i64 v] w fun e w' => e = .returned (.int .i64 4) ∧ Own LA w' := by
  have H1 := Lib.hid h1
  have HNN := Lib.hid HN
  have HGG := Lib.hid HG
  have HCC := Lib.hid HC
  clear HN HG h1 HC
  go_enter Try.func54, Try.ntmps54
  go_wp2_with (go_at_call 76; refine (HNN.out _ H1.out).mono ?_; rintro e w' ⟨rfl, rfl⟩)
  refine (HGG.out _ H1.out).mono ?_
  rintro e w2 ⟨rfl, h2⟩
  obtain ⟨c0, c2, c3⟩ := HCC.out _ h2
  have H2 := Lib.hid h2
  have hr : ((room : Int) == (room : Int)) = true := by simp
  clear h2 HNN HGG H1 HCC
  go_wp2_with fail
  go_quiet (fail)
  go_wp2_with fail
  go_ret
  exact ⟨rfl, (H2.out).step ((Ext.refl _).drewN _)⟩
theorem put_ok {LA LB : List HP} {LC LD : Nat → List HP} {s v x : Int} {room many g N i : Nat} (hm : many < room) (hr : room ≤ 4096) (hi : i < N)
    (HC : ∀ w', Own LA w' → w'.cell? ⟨w.heap.size, 0, none⟩ = some (.pointer (some ⟨p, 0, none⟩)) ∧ w'.cell? ⟨p, 2, none⟩ = some (.int .i64 (room : Int)) ∧ w'.cell? ⟨p, 3, none⟩ = some (.int .i64 (many : Int)) ∧ w'.frozen? ⟨p, 3, none⟩ = false)
    (HN : ∀ w', Own LA w' → Calls Try.prog 76 #[.pointer (some ⟨p, 0, none⟩)] w' fun e w2 => e = .returned (.bool false) ∧ w' = w2)
    (HG : ∀ w', Own LA w' → Calls Try.prog 50 #[.pointer (some ⟨p, 0, none⟩), .int .u64 s] w' fun e w2 => e = .returned (.tuple #[.int .i64 x, .bool false]) ∧ Own LA w2)
    (HS : ∀ w', Own LA w' → Own LB (w'.setCell ⟨p, 3, none⟩ (.int .i64 ((many : Int) + 1))))
    (HCB : ∀ w', Own LB w' → w'.cell? ⟨w.heap.size, 0, none⟩ = some (.pointer (some ⟨p, 0, none⟩)) ∧ w'.cell? ⟨p, 0, none⟩ = some (.slice (some ⟨g, 0, none⟩) N N))
    (HO : ∀ w', Own LB w' → Calls Try.prog 75 #[.pointer (some ⟨p, 0, none⟩), .int .u64 s] w' fun e w2 => e = .returned (.int .i64 (i : Int)) ∧ Own LB w2)
    (HF : ∀ w', Own LB w' → Calls Try.prog 82 #[.pointer (some ⟨g, i, none⟩), .pointer (some ⟨w.heap.size, 0, none⟩)] w' fun e w2 => ∃ q, e = .returned (.pointer (some ⟨q, 0, none⟩)) ∧ Own (LC q) w2)
    (HCC : ∀ w' q, Own (LC q) w' → w'.cell? ⟨w.heap.size, 0, none⟩ = some (.pointer (some ⟨p, 0, none⟩)) ∧ w'.cell? ⟨p, 0, none⟩ = some (.slice (some ⟨g, 0, none⟩) N N))
    (HP : ∀ w' q, Own (LC q) w' → Calls Try.prog 84 #[.pointer (some ⟨q, 0, none⟩), Tr.key s 0, .int .i64 v] w' fun e w2 => e = .returned (.int .i64 0) ∧ Own (LD q) w2)
    (HCD : ∀ w' q, Own (LD q) w' → w'.cell? ⟨w.heap.size, 0, none⟩ = some (.pointer (some ⟨p, 0, none⟩)) ∧ w'.cell? ⟨p, 0, none⟩ = some (.slice (some ⟨g, 0, none⟩) N N))
    (h1 : Own LA (w.alloc (.cells #[.pointer (some ⟨p, 0, none⟩)] 79))) : Calls Try.prog 54 #[.pointer (some ⟨p, 0, none⟩), .int .u64 s, .int .i64 v] w fun e w' => e = .returned (.int .i64 0) ∧ ∃ q, Own (LD q) w' := by
  have H1 := Lib.hid h1
  have HNN := Lib.hid HN
  have HGG := Lib.hid HG
  have HCA := Lib.hid HC
  have HSS := Lib.hid HS
  have HCB' := Lib.hid HCB
  obtain ⟨bx, hbx⟩ : ∃ bx, bx = w.heap.size := ⟨_, rfl⟩
  rw [← hbx] at HCB HF HCC HCD
  have HOO : Hid (∀ w', Own LB w' → Calls Try.prog 75 #[.pointer (some ⟨p, 0, none⟩), .int .u64 s] w' fun e w2 => e = .returned (.int .i64 (i : Int)) ∧ Own LB w2 ∧ w2.cell? ⟨bx, 0, none⟩ = some (.pointer (some ⟨p, 0, none⟩)) ∧ w2.cell? ⟨p, 0, none⟩ = some (.slice (some ⟨g, 0, none⟩) N N)) := Lib.hid fun w' h' => (HO w' h').mono fun e w2 ⟨he, hw⟩ => ⟨he, hw, HCB w2 hw⟩
  have HFF : Hid (∀ w', Own LB w' → Calls Try.prog 82 #[.pointer (some ⟨g, i, none⟩), .pointer (some ⟨bx, 0, none⟩)] w' fun e w2 => ∃ q, e = .returned (.pointer (some ⟨q, 0, none⟩)) ∧ Own (LC q) w2 ∧ w2.cell? ⟨bx, 0, none⟩ = some (.pointer (some ⟨p, 0, none⟩)) ∧ w2.cell? ⟨p, 0, none⟩ = some (.slice (some ⟨g, 0, none⟩) N N)) := Lib.hid fun w' h' => (HF w' h').mono fun e w2 ⟨q, he, hw⟩ => ⟨q, he, hw, HCC w2 q hw⟩
  have HPP : Hid (∀ w' q, Own (LC q) w' → Calls Try.prog 84 #[.pointer (some ⟨q, 0, none⟩), Tr.key s 0, .int .i64 v] w' fun e w2 => e = .returned (.int .i64 0) ∧ Own (LD q) w2 ∧ w2.cell? ⟨bx, 0, none⟩ = some (.pointer (some ⟨p, 0, none⟩)) ∧ w2.cell? ⟨p, 0, none⟩ = some (.slice (some ⟨g, 0, none⟩) N N)) := Lib.hid fun w' q h' => (HP w' q h').mono fun e w2 ⟨he, hw⟩ => ⟨he, hw, HCD w2 q hw⟩
  have HKB : Hid (∀ w', Own LB w' → Calls Try.prog 78 #[.int .u64 s] w' fun e w2 => e = .returned (Tr.key s 0) ∧ Own LB w2 ∧ w2.cell? ⟨bx, 0, none⟩ = some (.pointer (some ⟨p, 0, none⟩)) ∧ w2.cell? ⟨p, 0, none⟩ = some (.slice (some ⟨g, 0, none⟩) N N)) := Lib.hid fun w' h' => (key_any s w').mono fun e w2 ⟨he, hw⟩ => ⟨he, h'.step hw, HCB w2 (h'.step hw)⟩
  have HKC : Hid (∀ w' q, Own (LC q) w' → Calls Try.prog 78 #[.int .u64 s] w' fun e w2 => e = .returned (Tr.key s 0) ∧ Own (LC q) w2 ∧ w2.cell? ⟨bx, 0, none⟩ = some (.pointer (some ⟨p, 0, none⟩)) ∧ w2.cell? ⟨p, 0, none⟩ = some (.slice (some ⟨g, 0, none⟩) N N)) := Lib.hid fun w' q h' => (key_any s w').mono fun e w2 ⟨he, hw⟩ => ⟨he, h'.step hw, HCC w2 q (h'.step hw)⟩
  have HBX := Lib.hid hbx
  have hi' : (i : Int) < (N : Int) := by omega
  have m1 : ((many : Int) == (room : Int)) = false := by simp; omega
  have m2 : (many : Int) ≤ 4096 := by omega
  clear HN HG h1 HC HS HCB HO HF HCC HP HCD hbx hm
  go_enter Try.func54, Try.ntmps54
  go_wp2_with (go_at_call 76; refine (HNN.out _ H1.out).mono ?_; rintro e w' ⟨rfl, rfl⟩)
  refine (HGG.out _ H1.out).mono ?_
  rintro e w2 ⟨rfl, h2⟩
  obtain ⟨c0, c2, c3, f3⟩ := HCA.out _ h2
  have H2 := Lib.hid h2
  rw [← HBX.out] at c0
  clear h2 HNN HGG H1 HCA
  rw [← HBX.out]
  go_wp2_with fail
  go_quiet (fail)
  have h3 := HSS.out _ ((H2.out).step ((Ext.refl w2).drewN nq))
  obtain ⟨w3, e3⟩ : ∃ w3, (w2.drewN nq).setCell ⟨p, 3, none⟩ (.int .i64 ((many : Int) + 1)) = w3 := ⟨_, rfl⟩
  rw [e3] at h3
  obtain ⟨d0, d1⟩ := HCB'.out _ h3
  rw [← HBX.out] at d0
  have H3 := Lib.hid h3
  clear h3 HSS HCB' H2
  go_wp2_with fail
  have hown := H3.out
  go_region_held3 (fun w' => w'.cell? ⟨bx, 0, none⟩ = some (.pointer (some ⟨p, 0, none⟩)) ∧ w'.cell? ⟨p, 0, none⟩ = some (.slice (some ⟨g, 0, none⟩) N N))
    (first | (refine ⟨?_, ?_⟩ <;> assumption) | exact ⟨(Ext.refl w3).drew.cell d0, (Ext.refl w3).drew.cell d1⟩ | go_keep)
    (first
      | (go_at_call 75; go_split_ands; refine (HOO.out _ (by first | assumption | exact (H3.out).step (Ext.refl _).drew)).mono ?_; rintro e w2 ⟨rfl, hz, z0, z1⟩)
      | (go_at_call 82; go_split_ands; refine (HFF.out _ (by first | assumption | exact (H3.out).step (Ext.refl _).drew)).mono ?_; rintro e w2 ⟨q, rfl, hz, z0, z1⟩)
      | (go_at_call 78; go_split_ands; refine (HKB.out _ (by first | assumption | exact (H3.out).step (Ext.refl _).drew)).mono ?_; rintro e w2 ⟨rfl, hz, z0, z1⟩)
      | (go_at_call 78; go_split_ands; refine (HKC.out _ _ (by assumption)).mono ?_; rintro e w2 ⟨rfl, hz, z0, z1⟩)
      | (go_at_call 84; go_split_ands; refine (HPP.out _ _ (by assumption)).mono ?_; rintro e w2 ⟨rfl, hz, z0, z1⟩))
  all_goals go_split_ands
  all_goals go_wp2_with fail
  all_goals go_ret
  all_goals exact ⟨rfl, _, by assumption⟩
end
end Go.Proofs.Ytkdmlpigkmlkmaa.Bk
--  DERIVED. Layer 13 (bucket): contracts over all sockets as one rising list. 
set_option linter.unusedVariables false
set_option linter.unusedSimpArgs false
set_option maxRecDepth 100000
namespace Go.Proofs.Ytkdmlpigkmlkmaa.Bk
open Go.RowKit Go.Proofs.Ytkdmlpigkmlkmaa Go.Proofs.Ytkdmlpigkmlkmaa.TreeP Go.Proofs.Ytkdmlpigkmlkmaa.Tr

def Bkt (p bits room : Nat) (R : List En) : HP :=
  PackE (fun x : Nat × List Slot => Mem bits (tab (β bits) (2 ^ bits) R) x ∧ RK room R ∧ 1 ≤ room ∧ room ≤ 4096)
    (fun x => BB p x.1 x.2.length bits room R.length :: RP x.1 x.2 :: trs room x.2)
section
variable {p g bits room : Nat} {R : List En} {L : List Slot} {l : List HP} {w : World}
theorem own_rk (h : Own (Bkt p bits room R :: l) w) : RK room R ∧ bits ≤ 10 := by
  obtain ⟨x, ⟨hm, hk, _⟩, _⟩ := h.unpack
  exact ⟨hk, hm.bits⟩
theorem set_self {i : Nat} {x : Slot} (h : L[i]? = some x) : L.set i x = L := by
  obtain ⟨hi, rfl⟩ := List.getElem?_eq_some_iff.1 h
  exact List.set_getElem_self hi
/-- the form in which a tree stands apart -/
theorem apart {many : Nat} {i q : Nat} {E : List En} (hi : L[i]? = some (some q, E)) :
    Own (BB p g L.length bits room many :: RP g L :: (trs room L ++ l)) w ↔ Own (BB p g L.length bits room many :: RP g L :: Tr.Tree q room E :: (trs room (L.set i (none, [])) ++ l)) w :=
  ⟨fun h => (tree_out h hi).back3, fun h => by
    have hL := (List.getElem?_eq_some_iff.1 hi).1
    have := tree_in (bits := bits) (g := g) hL (q := q) (E := E) (many' := many) (l := l) (w := w) (p := p) (room := room) (by rw [set_self hi]; exact h.third)
    rwa [set_self hi] at this⟩
theorem apartIn {many : Nat} {i q : Nat} {E : List En} {U : Nat → Prop} (hi : L[i]? = some (some q, E)) (h : OwnIn (BB p g L.length bits room many :: RP g L :: Tr.Tree q room E :: (trs room (L.set i (none, [])) ++ l)) w U) :
    OwnIn (BB p g L.length bits room many :: RP g L :: (trs room L ++ l)) w U := by
  have h1 := (trs_out room L i _ hi).symm.append_right l
  exact OwnIn.perm ((h1.cons (RP g L)).cons (BB p g L.length bits room many)) h
theorem get_open (hm : Mem bits (tab (β bits) (2 ^ bits) R) (g, L)) {many : Nat} (h : Own (BB p g L.length bits room many :: RP g L :: (trs room L ++ l)) w) (s : Int) (h0 : 0 ≤ s) (h1 : s < 18446744073709551616) :
    Calls Try.prog 50 #[.pointer (some ⟨p, 0, none⟩), .int .u64 s] w fun e w' => e = .returned (.tuple #[.int .i64 ((Tr.look R (s, 0)).getD 0), .bool (Tr.look R (s, 0)).isSome]) ∧ Own (BB p g L.length bits room many :: RP g L :: (trs room L ++ l)) w' := by
  have hb := β_lt bits s hm.bits
  have hi : β bits s < L.length := by have := hm.len; simp only at this; omega
  obtain ⟨q, hq, hn⟩ := hm.at hi
  rw [tab_slot hb] at hq hn
  simp only at hq
  have hlk := look_in (β := β bits) (R := R) s (β bits s) rfl
  cases q with
  | none =>
    rw [hn rfl] at hq hlk
    rw [← hlk]
    exact get_walk s 0 false hi (fun w' h' => none_any h') (fun w' h' => ⟨(b_cells h').1, (r_cell h'.drop hq).1⟩)
      (fun w' h' => (of_any h' hm.bits s h0 h1).mono fun e w2 ⟨he, hx⟩ => ⟨he, h'.step hx⟩)
      (fun w' h' => Tr.nil_get (Tr.nilIn_none _) h' s 0) h
  | some q =>
    rw [← hlk]
    refine (get_walk (LL := BB p g L.length bits room many :: RP g L :: Tr.Tree q room (inB (β bits) R (β bits s)) :: (trs room (L.set (β bits s) (none, [])) ++ l)) s _ _ hi (fun w' h' => none_any h') (fun w' h' => ⟨(b_cells h').1, (r_cell h'.drop hq).1⟩)
      (fun w' h' => (of_any h' hm.bits s h0 h1).mono fun e w2 ⟨he, hx⟩ => ⟨he, h'.step hx⟩)
      (fun w' h' => (Tr.own_get h'.third s 0).mono fun e w2 ⟨he, hx⟩ => ⟨he, hx.back3⟩) ((apart hq).1 h)).mono fun e w2 ⟨he, hx⟩ => ⟨he, (apart hq).2 hx⟩
theorem own_get (h : Own (Bkt p bits room R :: l) w) (s : Int) (h0 : 0 ≤ s) (h1 : s < 18446744073709551616) :
    Calls Try.prog 50 #[.pointer (some ⟨p, 0, none⟩), .int .u64 s] w fun e w' => e = .returned (.tuple #[.int .i64 ((Tr.look R (s, 0)).getD 0), .bool (Tr.look R (s, 0)).isSome]) ∧ Own (Bkt p bits room R :: l) w' := by
  obtain ⟨⟨g, L⟩, hm, h⟩ := h.unpack
  exact (get_open hm.1 h s h0 h1).mono fun e w2 ⟨he, hx⟩ => ⟨he, Own.pack (g, L) hm hx⟩
theorem bb_set {n many many' : Nat} (h : Own (BB p g n bits room many :: l) w) : Own (BB p g n bits room many' :: l) (w.setCell ⟨p, 3, none⟩ (.int .i64 (many' : Int))) :=
  Go.Proofs.Ytkdmlpigkmlkmaa.Own.blkSet (o := 3) h (.int .i64 (many' : Int))
/-- a tree that has turned, put back -/
theorem turned {R' : List En} {i q : Nat} {E : List En} (hm : Mem bits (tab (β bits) (2 ^ bits) R) (g, L)) (hi : i < L.length) {E0 : List En} (hq : L[i]? = some (some q, E0)) (hk : RK room R') (r1 : 1 ≤ room) (r2 : room ≤ 4096) (ht : (tab (β bits) (2 ^ bits) R).set i E = tab (β bits) (2 ^ bits) R')
    (h : Own (BB p g L.length bits room R'.length :: RP g L :: Tr.Tree q room E :: (trs room (L.set i (none, [])) ++ l)) w) : Own (Bkt p bits room R' :: l) w := by
  refine Own.pack (g, L.set i (some q, E)) ⟨?_, hk, r1, r2⟩ ?_
  · have := hm.set i q E
    rwa [ht] at this
  · have e1 : (L.set i (some q, E)).map ptr = L.map ptr := by
      rw [List.map_set]
      have : (L.map ptr)[i]? = some (ptr (some q, E)) := by rw [List.getElem?_map, hq]; rfl
      obtain ⟨hh, e⟩ := List.getElem?_eq_some_iff.1 this
      rw [← e]
      exact List.set_getElem_self hh
    have e2 : RP g (L.set i (some q, E)) = RP g L := by unfold RP; rw [e1, List.length_set]
    have := tree_in (bits := bits) (L := L) (g := g) (p := p) (room := room) (l := l) (w := w) (many' := R'.length) hi (by rw [e2]; exact h.third)
    show Own ((BB p g (L.set i (some q, E)).length bits room R'.length :: RP g (L.set i (some q, E)) :: trs room (L.set i (some q, E))) ++ l) w
    rw [List.length_set]
    exact this
theorem own_drop (h : Own (Bkt p bits room R :: l) w) (s : Int) (h0 : 0 ≤ s) (h1 : s < 18446744073709551616) :
    Calls Try.prog 59 #[.pointer (some ⟨p, 0, none⟩), .int .u64 s] w fun e w' => e = .returned (.tuple #[.int .i64 ((Tr.look R (s, 0)).getD 0), .bool (Tr.look R (s, 0)).isSome]) ∧ Own (Bkt p bits room (del R (s, 0)) :: l) w' := by
  obtain ⟨⟨g, L⟩, ⟨hm, hk, r1, r2⟩, h⟩ := h.unpack
  replace h : Own (BB p g L.length bits room R.length :: RP g L :: (trs room L ++ l)) w := h
  have hb := β_lt bits s hm.bits
  have hi : β bits s < L.length := by have := hm.len; simp only at this; omega
  obtain ⟨q, hq, hn⟩ := hm.at hi
  rw [tab_slot hb] at hq hn
  simp only at hq
  have hlk := look_in (β := β bits) (R := R) s (β bits s) rfl
  have hdl := del_length hk.rise (s, 0)
  have hlen : R.length ≤ 4096 := by have := hk.len; omega
  cases q with
  | none =>
    rw [hn rfl] at hq hlk
    have hnone : Tr.look R (s, 0) = none := by rw [← hlk]; rfl
    rw [hnone, Tr.del_none hnone]
    refine (drop_walk (LL := BB p g L.length bits room R.length :: RP g L :: (trs room L ++ l)) (L2 := BB p g L.length bits room R.length :: RP g L :: (trs room L ++ l)) (L3 := BB p g L.length bits room R.length :: RP g L :: (trs room L ++ l)) (many := R.length) s 0 false hi (fun hf => by cases hf) hlen (fun w' h' => none_any h') (fun w' h' => ⟨(b_cells h').1, (r_cell h'.drop hq).1⟩)
      (fun w' h' => ⟨(b_cells h').1, (r_cell h'.drop hq).1, (b_cells h').2.2.2.1, (b_cells h').2.2.2.2 3⟩)
      (fun w' h' => (of_any h' hm.bits s h0 h1).mono fun e w2 ⟨he, hx⟩ => ⟨he, h'.step hx⟩)
      (fun w' h' => Tr.nil_drop (Tr.nilIn_none _) h' s 0) (fun w' h' => h') h).mono fun e w2 ⟨he, hx⟩ => ⟨he, Own.pack (g, L) ⟨hm, hk, r1, r2⟩ hx⟩
  | some q =>
    rw [← hlk] at hdl ⊢
    have hrl : (inB (β bits) R (β bits s)).length ≤ R.length := in_len _
    have hb1 : (Tr.look (inB (β bits) R (β bits s)) (s, 0)).isSome = true → 1 ≤ R.length := fun e => by rw [e] at hdl; simp at hdl; omega
    refine (drop_walk (LL := BB p g L.length bits room R.length :: RP g L :: Tr.Tree q room (inB (β bits) R (β bits s)) :: (trs room (L.set (β bits s) (none, [])) ++ l))
      (L2 := BB p g L.length bits room R.length :: RP g L :: Tr.Tree q room (del (inB (β bits) R (β bits s)) (s, 0)) :: (trs room (L.set (β bits s) (none, [])) ++ l))
      (L3 := BB p g L.length bits room (del R (s, 0)).length :: RP g L :: Tr.Tree q room (del (inB (β bits) R (β bits s)) (s, 0)) :: (trs room (L.set (β bits s) (none, [])) ++ l))
      (many := R.length) s _ _ hi hb1 hlen (fun w' h' => none_any h') (fun w' h' => ⟨(b_cells h').1, (r_cell h'.drop hq).1⟩)
      (fun w' h' => ⟨(b_cells h').1, (r_cell h'.drop hq).1, (b_cells h').2.2.2.1, (b_cells h').2.2.2.2 3⟩)
      (fun w' h' => (of_any h' hm.bits s h0 h1).mono fun e w2 ⟨he, hx⟩ => ⟨he, h'.step hx⟩)
      (fun w' h' => (Tr.own_drop h'.third s 0).mono fun e w2 ⟨he, hx⟩ => ⟨he, hx.back3⟩) (fun w' h' => ?_) ((apart hq).1 h)).mono fun e w2 ⟨he, hx⟩ => ⟨he, ?_⟩
    · by_cases hs : (Tr.look (inB (β bits) R (β bits s)) (s, 0)).isSome = true
      · rw [if_pos hs]
        have e1 : ((R.length : Int) - 1) = (((del R (s, 0)).length : Nat) : Int) := by rw [hs] at hdl; simp at hdl; omega
        rw [e1]
        exact bb_set h'
      · rw [if_neg hs]
        have e1 : R.length = (del R (s, 0)).length := by rw [if_neg hs] at hdl; omega
        rw [← e1]
        exact h'
    · exact turned hm hi hq (hk.drop s) r1 r2 (tab_drop hb) hx
theorem own_len (h : Own (Bkt p bits room R :: l) w) :
    Calls Try.prog 58 #[.pointer (some ⟨p, 0, none⟩)] w fun e w' => e = .returned (.int .i64 (R.length : Nat)) ∧ w = w' := by
  obtain ⟨⟨g, L⟩, hm, h⟩ := h.unpack
  obtain ⟨c0, c1, c2, c3, hf⟩ := b_cells (g := g) (L := L) h
  have HNN := Lib.hid (none_any (g := g) (L := L) h)
  obtain ⟨n, hn⟩ : ∃ n, n = R.length := ⟨_, rfl⟩
  rw [← hn] at c3 ⊢
  clear h hf hm hn c0 c1 c2
  go_enter Try.func58, Try.ntmps58
  go_wp2_with (go_at_call 76; refine (HNN.out).mono ?_; rintro e w' ⟨rfl, rfl⟩)
  go_ret
  exact ⟨rfl, rfl⟩
theorem own_bits (h : Own (Bkt p bits room R :: l) w) :
    Calls Try.prog 65 #[.pointer (some ⟨p, 0, none⟩)] w fun e w' => e = .returned (.int .i64 (bits : Nat)) ∧ w = w' := by
  obtain ⟨⟨g, L⟩, hm, h⟩ := h.unpack
  obtain ⟨c0, c1, c2, c3, hf⟩ := b_cells (g := g) (L := L) h
  have HNN := Lib.hid (none_any (g := g) (L := L) h)
  clear h hf hm c0 c2 c3
  go_enter Try.func65, Try.ntmps65
  go_wp2_with (go_at_call 76; refine (HNN.out).mono ?_; rintro e w' ⟨rfl, rfl⟩)
  go_ret
  exact ⟨rfl, rfl⟩
theorem own_of (h : Own (Bkt p bits room R :: l) w) (s : Int) (h0 : 0 ≤ s) (h1 : s < 18446744073709551616) :
    Calls Try.prog 75 #[.pointer (some ⟨p, 0, none⟩), .int .u64 s] w fun e w' => e = .returned (.int .i64 ((β bits s : Nat) : Int)) ∧ Ext w w' := by
  obtain ⟨⟨g, L⟩, hm, h⟩ := h.unpack
  exact of_any (g := g) (L := L) h hm.1.bits s h0 h1
theorem own_in (h : Own (Bkt p bits room R :: l) w) (i : Nat) (hi : i < 2 ^ bits) :
    Calls Try.prog 74 #[.pointer (some ⟨p, 0, none⟩), .int .i64 (i : Int)] w fun e w' => ∃ v, e = .returned v ∧ Own (Row 132 3 v (inB (β bits) R i).length (Tr.ents (inB (β bits) R i)) :: Bkt p bits room R :: l) w' := by
  obtain ⟨⟨g, L⟩, hmm, h⟩ := h.unpack
  have hm := hmm.1
  replace h : Own (BB p g L.length bits room R.length :: RP g L :: (trs room L ++ l)) w := h
  have hi' : i < L.length := by have := hm.len; simp only at this; omega
  obtain ⟨q, hq, hn⟩ := hm.at hi'
  rw [tab_slot hi] at hq hn
  simp only at hq
  cases q with
  | none =>
    rw [hn rfl] at hq ⊢
    refine (in_walk (LL := BB p g L.length bits room R.length :: RP g L :: (trs room L ++ l)) (i : Int) [] i rfl hi' (fun w' h' => none_any h') (fun w' h' => ⟨(b_cells h').1, (r_cell h'.drop hq).1⟩)
      (fun w' h' => (Tr.nil_all (Tr.nilIn_none _) h').mono fun e w2 ⟨he, hx⟩ => ⟨_, he, hx.nilRow _ 3⟩) h).mono fun e w2 ⟨v, he, hx⟩ => ⟨v, he, ?_⟩
    exact hx.tail (fun hU => OwnIn.packIn (g, L) hmm hU)
  | some q =>
    refine (in_walk (LL := BB p g L.length bits room R.length :: RP g L :: Tr.Tree q room (inB (β bits) R i) :: (trs room (L.set i (none, [])) ++ l)) (i : Int) (inB (β bits) R i) i rfl hi' (fun w' h' => none_any h') (fun w' h' => ⟨(b_cells h').1, (r_cell h'.drop hq).1⟩)
      (fun w' h' => (Tr.own_all h'.third).mono fun e w2 ⟨v, he, hx⟩ => ⟨v, he, hx.tail OwnIn.back3⟩) ((apart hq).1 h)).mono fun e w2 ⟨v, he, hx⟩ => ⟨v, he, ?_⟩
    exact hx.tail (fun hU => OwnIn.packIn (g, L) hmm (apartIn hq hU))
end
end Go.Proofs.Ytkdmlpigkmlkmaa.Bk
--  DERIVED. Layer 13 (bucket): contracts of Put, New. 
set_option linter.unusedVariables false
set_option linter.unusedSimpArgs false
set_option maxRecDepth 100000
namespace Go.Proofs.Ytkdmlpigkmlkmaa.Bk
open Go.RowKit Go.Proofs.Ytkdmlpigkmlkmaa Go.Proofs.Ytkdmlpigkmlkmaa.TreeP Go.Proofs.Ytkdmlpigkmlkmaa.Tr

section
variable {p g bits room : Nat} {R : List En} {L : List Slot} {l : List HP} {w : World}
theorem in_none (h : Own (Bkt p bits room R :: l) w) (i : Int) (hi : i < 0 ∨ ((2 ^ bits : Nat) : Int) ≤ i) :
    Calls Try.prog 74 #[.pointer (some ⟨p, 0, none⟩), .int .i64 i] w fun e w' => e = .returned (.slice none 0 0) ∧ w = w' := by
  obtain ⟨⟨g, L⟩, hmm, h⟩ := h.unpack
  have hl : L.length = 2 ^ bits := hmm.1.len
  rw [← hl] at hi
  exact in_out (LL := BB p g L.length bits room R.length :: RP g L :: (trs room L ++ l)) i hi (fun w' h' => none_any h') (fun w' h' => (b_cells h').1) h
theorem box1 {l : List HP} {w : World} {b : Nat} {x : Value} {t : TypeId} (h : Own (Go.Proofs.Ytkdmlpigkmlkmaa.Blk b #[x] t :: l) w) : w.cell? ⟨b, 0, none⟩ = some x := by
  have := Go.Proofs.Ytkdmlpigkmlkmaa.Own.blk h (.head _)
  simp [World.cell?, this]
abbrev Bx (b p : Nat) : HP := Go.Proofs.Ytkdmlpigkmlkmaa.Blk b #[.pointer (some ⟨p, 0, none⟩)] 79
theorem rp_set {i q : Nat} {x : Slot} (hi : i < L.length) (h : Own (RP g L :: l) w) : Own (RP g (L.set i (some q, x.2)) :: l) (w.setCell ⟨g, i, none⟩ (.pointer (some ⟨q, 0, none⟩))) := by
  have := Own.rowSet (o := i) h (by omega) (.pointer (some ⟨q, 0, none⟩))
  unfold RP
  rw [List.length_set, List.map_set]
  exact this
theorem own_put (h : Own (Bkt p bits room R :: l) w) (s v : Int) (h0 : 0 ≤ s) (h1 : s < 18446744073709551616) :
    Calls Try.prog 54 #[.pointer (some ⟨p, 0, none⟩), .int .u64 s, .int .i64 v] w fun e w' => e = .returned (.int .i64 (Tr.putE room R (s, 0))) ∧ Own (Bkt p bits room (Tr.putT room R (s, 0) v) :: l) w' := by
  obtain ⟨⟨g, L⟩, hmm, h⟩ := h.unpack
  obtain ⟨hm, hk, r1, r2⟩ := id hmm
  replace h : Own (BB p g L.length bits room R.length :: RP g L :: (trs room L ++ l)) w := h
  have hA : Own (BB p g L.length bits room R.length :: RP g L :: (trs room L ++ Bx w.heap.size p :: l)) (w.alloc (.cells #[.pointer (some ⟨p, 0, none⟩)] 79)) := by
    have := Go.Proofs.Ytkdmlpigkmlkmaa.Own.blkNew h #[.pointer (some ⟨p, 0, none⟩)] 79
    refine this.perm ?_
    exact (List.perm_append_comm (l₁ := [Bx w.heap.size p]) (l₂ := [BB p g L.length bits room R.length, RP g L] ++ trs room L)).append_right l |>.trans (by simp)
  have box : ∀ {many' : Nat} {L' : List Slot} {X : List HP} {w' : World}, Own (BB p g L.length bits room many' :: RP g L' :: (X ++ Bx w.heap.size p :: l)) w' → w'.cell? ⟨w.heap.size, 0, none⟩ = some (.pointer (some ⟨p, 0, none⟩)) := fun {many' L' X w'} h' => by
    have := Go.Proofs.Ytkdmlpigkmlkmaa.Own.blk h' (b := w.heap.size) (cs := #[.pointer (some ⟨p, 0, none⟩)]) (t := 79) (by simp)
    simp [World.cell?, this]
  have fin : ∀ {X : List HP} {w' : World}, Own (X ++ Bx w.heap.size p :: l) w' → Own (X ++ l) w' := fun {X w'} h' => by
    have : (X ++ Bx w.heap.size p :: l).Perm (Bx w.heap.size p :: (X ++ l)) := List.perm_middle
    exact (h'.perm this).drop
  by_cases hs : (Tr.look R (s, 0)).isSome = true
  · unfold Tr.putE Tr.putT
    rw [if_pos hs, if_pos hs]
    refine (put_have (LA := BB p g L.length bits room R.length :: RP g L :: (trs room L ++ Bx w.heap.size p :: l)) (w := w) (s := s) (x := (Tr.look R (s, 0)).getD 0) (v := v) (fun w' h' => none_any h') (fun w' h' => ?_) hA).mono fun e w2 ⟨he, hx⟩ => ⟨he, ?_⟩
    · have := get_open hm h' s h0 h1
      rw [hs] at this
      exact this
    · exact Own.pack (g, L) hmm (fin (X := BB p g L.length bits room R.length :: RP g L :: trs room L) hx)
  · have hn : Tr.look R (s, 0) = none := by simpa using hs
    by_cases hr : R.length = room
    · unfold Tr.putE Tr.putT
      rw [if_neg hs, if_neg hs, if_pos hr, if_pos hr]
      refine (put_full (LA := BB p g L.length bits room R.length :: RP g L :: (trs room L ++ Bx w.heap.size p :: l)) (w := w) (s := s) (x := 0) (v := v) (room := room) (fun w' h' => ⟨box h', (b_cells h').2.2.1, by rw [← hr]; exact (b_cells h').2.2.2.1⟩) (fun w' h' => none_any h') (fun w' h' => ?_) hA).mono fun e w2 ⟨he, hx⟩ => ⟨he, ?_⟩
      · have := get_open hm h' s h0 h1
        rw [hn] at this
        exact this
      · exact Own.pack (g, L) hmm (fin (X := BB p g L.length bits room R.length :: RP g L :: trs room L) hx)
    · have hlt : R.length < room := by have := hk.len; omega
      unfold Tr.putE Tr.putT
      rw [if_neg hs, if_neg hs, if_neg hr, if_neg hr]
      have hb := β_lt bits s hm.bits
      have hi : β bits s < L.length := by have := hm.len; simp only at this; omega
      obtain ⟨q0, hq, hne⟩ := hm.at hi
      rw [tab_slot hb] at hq hne
      simp only at hq
      have hlk := look_in (β := β bits) (R := R) s (β bits s) rfl
      obtain ⟨E, hE⟩ : ∃ E, E = inB (β bits) R (β bits s) := ⟨_, rfl⟩
      have hEl : E.length ≤ R.length := by rw [hE]; exact in_len _
      rw [← hE] at hq hne hlk
      have hin : (ins R (s, 0) v).length = R.length + 1 := (rise_ins hk.rise (s, 0) v hn).2.1
      refine (put_ok (LA := BB p g L.length bits room R.length :: RP g L :: (trs room L ++ Bx w.heap.size p :: l))
        (LB := BB p g L.length bits room (R.length + 1) :: RP g L :: (trs room L ++ Bx w.heap.size p :: l))
        (LC := fun q => BB p g L.length bits room (R.length + 1) :: RP g (L.set (β bits s) (some q, E)) :: Tr.Tree q room E :: (trs room (L.set (β bits s) (none, [])) ++ Bx w.heap.size p :: l))
        (LD := fun q => BB p g L.length bits room (R.length + 1) :: RP g (L.set (β bits s) (some q, E)) :: Tr.Tree q room (ins E (s, 0) v) :: (trs room (L.set (β bits s) (none, [])) ++ Bx w.heap.size p :: l))
        (w := w) (s := s) (x := 0) (v := v) (room := room) (many := R.length) (g := g) (N := L.length) (i := β bits s) hlt r2 hi
        (fun w' h' => ⟨box h', (b_cells h').2.2.1, (b_cells h').2.2.2.1, (b_cells h').2.2.2.2 3⟩) (fun w' h' => none_any h') (fun w' h' => ?_)
        (fun w' h' => ?_) (fun w' h' => ⟨box h', (b_cells h').1⟩) (fun w' h' => (of_any h' hm.bits s h0 h1).mono fun e w2 ⟨he, hx⟩ => ⟨he, h'.step hx⟩) (fun w' h' => ?_)
        (fun w' q h' => ⟨box (X := Tr.Tree q room E :: trs room (L.set (β bits s) (none, []))) h', (b_cells h').1⟩)
        (fun w' q h' => ?_) (fun w' q h' => ⟨box (X := Tr.Tree q room (ins E (s, 0) v) :: trs room (L.set (β bits s) (none, []))) h', (b_cells h').1⟩) hA).mono fun e w2 ⟨he, q, hx⟩ => ⟨he, ?_⟩
      · have := get_open hm h' s h0 h1
        rw [hn] at this
        exact this
      · exact bb_set h'
      · cases q0 with
        | none =>
          have hE0 : E = [] := hne rfl
          rw [hE0] at hq ⊢
          have hs0 : L.set (β bits s) (none, []) = L := set_self hq
          refine own1_none (LL := BB p g L.length bits room (R.length + 1) :: RP g L :: (trs room L ++ Bx w.heap.size p :: l))
            (L2 := fun q => BB p g L.length bits room (R.length + 1) :: RP g (L.set (β bits s) (some q, [])) :: Tr.Tree q room [] :: (trs room (L.set (β bits s) (none, [])) ++ Bx w.heap.size p :: l)) r1 (by omega) (fun w2 q h2 => ?_) (r_cell h'.drop hq).1 (box h') (b_cells h').2.2.1 h'
          refine ⟨(r_cell h2.drop.drop hq).1, (r_cell h2.drop.drop hq).2, ?_⟩
          rw [hs0]
          exact (rp_set (x := (none, [])) hi h2.third).third
        | some q0 =>
          refine (own1_some (r_cell h'.drop hq).1).mono fun e w2 ⟨he, hw⟩ => ⟨q0, he, ?_⟩
          rw [set_self hq, ← hw]
          exact (apart hq).1 h'
      · have h3 := Tr.own_put h'.third s 0 v
        have e1 : Tr.putE room E (s, 0) = 0 := by
          unfold Tr.putE
          rw [hlk, hn, if_neg (by simp), if_neg (by omega)]
        have e2 : Tr.putT room E (s, 0) v = ins E (s, 0) v := by
          unfold Tr.putT
          rw [hlk, hn, if_neg (by simp), if_neg (by omega)]
        rw [e1, e2] at h3
        exact h3.mono fun e w2 ⟨he, hx⟩ => ⟨he, hx.back3⟩
      · have hxf := fin (X := BB p g L.length bits room (R.length + 1) :: RP g (L.set (β bits s) (some q, E)) :: Tr.Tree q room (ins E (s, 0) v) :: trs room (L.set (β bits s) (none, []))) hx
        have hT : (tab (β bits) (2 ^ bits) R).set (β bits s) E = tab (β bits) (2 ^ bits) R := by
          refine tab_ext (by rw [List.length_set, tab_len]) fun i hi2 => ?_
          rw [slot_set (by rw [tab_len]; exact hb)]
          split
          · rename_i e; rw [e, hE]
          · exact tab_slot hi2
        have hm' := hm.set (β bits s) q E
        rw [hT] at hm'
        refine turned (E := ins E (s, 0) v) (q := q) (i := β bits s) (E0 := E) hm' (by rw [List.length_set]; exact hi) (by rw [List.getElem?_set_self hi]) (hk.put h0 h1 hn hlt) r1 r2 (by rw [hE]; exact tab_put hk.rise hb hn) ?_
        rw [List.set_set, List.length_set, hin]
        exact hxf
end
end Go.Proofs.Ytkdmlpigkmlkmaa.Bk
--  DERIVED. Layer 13 (bucket): contract of New; the chapter's examples. 
set_option linter.unusedVariables false
set_option linter.unusedSimpArgs false
set_option maxRecDepth 100000
namespace Go.Proofs.Ytkdmlpigkmlkmaa.Bk
open Go.RowKit Go.Proofs.Ytkdmlpigkmlkmaa Go.Proofs.Ytkdmlpigkmlkmaa.TreeP Go.Proofs.Ytkdmlpigkmlkmaa.Tr

theorem new_not (b r : Int) (h : b < 0 ∨ 10 < b ∨ r < 1 ∨ 4096 < r) (w : World) :
    Calls Try.prog 46 #[.int .i64 b, .int .i64 r] w fun e w' => e = .returned (.tuple #[.pointer none, .int .i64 2]) ∧ w = w' := by
  by_cases h0 : b < 0
  · have d0 : decide (b < 0) = true := by simpa using h0
    clear h
    go_enter Try.func46, Try.ntmps46
    go_wp2
    go_ret2
    exact ⟨rfl, rfl⟩
  · have d0 : decide (b < 0) = false := by simpa using h0
    by_cases h1 : 10 < b
    · have d1 : decide (10 < b) = true := by simpa using h1
      clear h
      go_enter Try.func46, Try.ntmps46
      go_wp2
      go_ret2
      exact ⟨rfl, rfl⟩
    · have d1 : decide (10 < b) = false := by simpa using h1
      by_cases h2 : r < 1
      · have d2 : decide (r < 1) = true := by simpa using h2
        clear h h0 h1
        go_enter Try.func46, Try.ntmps46
        go_wp2
        go_ret2
        exact ⟨rfl, rfl⟩
      · have d2 : decide (r < 1) = false := by simpa using h2
        have d3 : decide (4096 < r) = true := by simp; omega
        clear h h0 h1 h2
        go_enter Try.func46, Try.ntmps46
        go_wp2
        go_ret2
        exact ⟨rfl, rfl⟩
theorem infoPtr : (Try.prog.info? 133).map (fun i => (i.zero, i.size, i.bytes)) = some (some (.pointer none), 1, 8) := by kernel_rfl
theorem made_none (n : Nat) : (madeCells (Value.pointer none).cells (n * 1)).toList = (List.replicate n (none, [])).map ptr := by
  apply List.ext_getElem?
  intro j
  by_cases hj : j < n
  · have h1 : (madeCells (Value.pointer none).cells (n * 1)).toList[j]? = some (.pointer none) := by
      simp [madeCells, Value.cells, hj, Nat.mod_one]
    have h2 : ((List.replicate n ((none, []) : Slot)).map ptr)[j]? = some (.pointer none) := by simp [hj, ptr]
    rw [h1, h2]
  · rw [List.getElem?_eq_none (by simp [size_madeCells]; omega), List.getElem?_eq_none (by simp; omega)]
theorem trs_fresh (room n : Nat) : trs room (List.replicate n (none, [])) = [] := by
  induction n with
  | zero => rfl
  | succ n ih =>
    unfold trs at ih ⊢
    rw [List.replicate_succ, List.flatMap_cons, ih]
    rfl
theorem mem_fresh (bits g : Nat) (hb : bits ≤ 10) : Mem bits (tab (β bits) (2 ^ bits) []) (g, List.replicate (2 ^ bits) (none, [])) :=
  ⟨by rw [tab_nil]; simp, by simp, fun y hy hn => by rw [(List.mem_replicate.1 hy).2], hb⟩
theorem sh1 {k P : Nat} (hk : k ≤ 10) (hP : P = 2 ^ k) : wrap64 ((2 : Int) ^ k) = (P : Int) := by
  have hle : P ≤ 2 ^ 10 := by rw [hP]; exact Nat.pow_le_pow_right (by omega) hk
  have e : ((2 : Int) ^ k) = (P : Int) := by rw [hP]; simp
  rw [e]
  unfold wrap64
  omega
theorem own_new {l : List HP} {w : World} (b r : Nat) (hb : b ≤ 10) (h1 : 1 ≤ r) (h2 : r ≤ 4096) (h : Own l w) :
    Calls Try.prog 46 #[.int .i64 b, .int .i64 r] w fun e w' => ∃ p, e = .returned (.tuple #[.pointer (some ⟨p, 0, none⟩), .int .i64 0]) ∧ Own (Bkt p b r [] :: l) w' := by
  obtain ⟨i0, hi, hzz⟩ := Option.map_eq_some_iff.1 infoPtr
  simp only [Prod.mk.injEq] at hzz
  obtain ⟨hz0, hz1, hz2⟩ := hzz
  obtain ⟨P, hP⟩ : ∃ P, P = 2 ^ b := ⟨_, rfl⟩
  have hP1 : P ≤ 1024 := by rw [hP]; exact (Nat.pow_le_pow_right (by omega) hb : 2 ^ b ≤ 2 ^ 10)
  have SP := Lib.hid (sh1 hb hP)
  have H := Lib.hid h
  have HI := Lib.hid hi
  have HZ0 := Lib.hid hz0
  have HZ1 := Lib.hid hz1
  have B2 := Lib.hid (show i0.bytes * P ≤ 281474976710656 by rw [hz2]; omega)
  have B3 := Lib.hid (show P ≤ maxLen by simp only [maxLen]; omega)
  have HP := Lib.hid hP
  have bI : (b : Int) ≤ 10 := by omega
  have rI : (1 : Int) ≤ (r : Int) := by omega
  have rJ : (r : Int) ≤ 4096 := by omega
  have HB := Lib.hid hb
  have HR := Lib.hid h1
  have HR2 := Lib.hid h2
  clear h hi hz0 hz1 hz2 hP hb h1 h2
  go_enter Try.func46, Try.ntmps46
  go_wp2_with (refine wpList_make_full w rfl _ _ 120 rfl 0 133 i0 _ 1 Try.underlying120 HI.out HZ0.out HZ1.out .i64 .i64 (wrap64 ((2 : Int) ^ b)) (wrap64 ((2 : Int) ^ b)) P rfl rfl SP.out SP.out B2.out B3.out (Nat.zero_le _) ?_; intro w1 hrow hgrow; rw [made_none] at hrow; have H1 := Lib.hid (H.out.new (P := Row 133 1 (.slice (some ⟨w.heap.size, 0, none⟩) P P) P ((List.replicate P (none, [])).map ptr)) (s := fun b => b = w.heap.size) (Step.to_ext ((Step.refl _ w).grown hgrow (fun k hk => by cases hk))) ⟨hrow, fun b => by simp [Value.ownBlock, eq_comm]⟩ (fun b hb => by rw [hb]; exact Nat.le_refl _)); clear hrow hgrow)
  have H2 := Go.Proofs.Ytkdmlpigkmlkmaa.Own.blkNew H1.out #[.slice (some ⟨w.heap.size, 0, none⟩) P P, .int .i64 b, .int .i64 r, .int .i64 0] 122
  have H3 : Hid (Own (Bkt w1.heap.size b r [] :: l) (w1.alloc (.cells #[.slice (some ⟨w.heap.size, 0, none⟩) P P, .int .i64 b, .int .i64 r, .int .i64 0] 122))) := Lib.hid (by
    refine Own.pack (w.heap.size, List.replicate (2 ^ b) (none, [])) ⟨mem_fresh b _ HB.out, rk_nil r, HR.out, HR2.out⟩ ?_
    show Own ((BB w1.heap.size w.heap.size (List.replicate (2 ^ b) ((none, []) : Slot)).length b r 0 :: RP w.heap.size (List.replicate (2 ^ b) (none, [])) :: trs r (List.replicate (2 ^ b) (none, []))) ++ l) _
    unfold RP
    rw [trs_fresh, List.length_replicate, ← HP.out]
    exact H2)
  clear H2 H1
  go_wp2_with fail
  go_ret2
  exact ⟨_, rfl, H3.out⟩
end Go.Proofs.Ytkdmlpigkmlkmaa.Bk
