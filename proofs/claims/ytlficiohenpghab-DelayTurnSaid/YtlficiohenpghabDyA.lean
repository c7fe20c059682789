/- DERIVED. Layer 19 (delay): what a delay is, owned: a tree of who waits, and a map from flows to keys. -/
import Derived.Test.YtlficiohenpghabWkE
import Derived.Test.YtlficiohenpghabMapD
import Derived.Test.YtlficiohenpghabTrQ
set_option linter.unusedVariables false
set_option linter.unusedSimpArgs false
set_option maxRecDepth 100000
namespace Go.Proofs.Ytlficiohenpghab.Dy
open Go.RowKit Go.Maps Go.Proofs.Ytlficiohenpghab Go.Proofs.Ytlficiohenpghab.TreeP Go.Proofs.Ytlficiohenpghab.Tr Go.Proofs.Ytlficiohenpghab.Wk

/-- how an element reads: a key -/
def kd (k : Key) : DataW Unit := .agg [.lit (.int .u64 k.1), .lit (.int .u64 k.2)]
noncomputable def keyR (v : Value) : Option (DataW Unit × List MemPlace) :=
  @dite _ (∃ k : Key, v = Tr.key k.1 k.2) (Classical.propDecidable _) (fun h => some (kd (Classical.choose h), [])) (fun _ => none)
theorem key_inj {k q : Key} (h : Tr.key k.1 k.2 = Tr.key q.1 q.2) : k = q := by
  unfold Tr.key at h
  injection h with h
  injection h with h
  injection h with h1 h2
  injection h2 with h2 _
  injection h1 with _ h1
  injection h2 with _ h2
  exact Prod.ext h1 h2
theorem keyR_mk (k : Key) : keyR (Tr.key k.1 k.2) = some (kd k, []) := by
  unfold keyR
  have h : ∃ q : Key, Tr.key k.1 k.2 = Tr.key q.1 q.2 := ⟨k, rfl⟩
  rw [dif_pos h, key_inj (Classical.choose_spec h).symm]
theorem kd_inj {k q : Key} (h : kd k = kd q) : k = q := by
  unfold kd at h
  injection h with h
  injection h with h1 h2
  injection h2 with h2 _
  injection h1 with h1
  injection h2 with h2
  injection h1 with _ h1
  injection h2 with _ h2
  exact Prod.ext h1 h2
theorem keyR_inv {v : Value} {k : Key} {ps : List MemPlace} (h : keyR v = some (kd k, ps)) : v = Tr.key k.1 k.2 := by
  unfold keyR at h
  by_cases hk : ∃ q : Key, v = Tr.key q.1 q.2
  · rw [dif_pos hk] at h
    injection h with h
    injection h with h _
    have := kd_inj h
    have h2 := Classical.choose_spec hk
    rw [this] at h2
    exact h2
  · rw [dif_neg hk] at h
    cases h
abbrev fl (f : Int) : Lit := .int .i64 f
/-- for which key a flow waits -/
def who (E : List En) (f : Int) : Option Key := (E.find? fun e => decide (e.2 = f)).map (·.1)
/-- no flow twice -/
def DF (E : List En) : Prop := E.Pairwise fun a b => a.2 ≠ b.2
theorem df_one {E : List En} (h : DF E) {q r : Key} {f : Int} (h1 : (q, f) ∈ E) (h2 : (r, f) ∈ E) : q = r := by
  obtain ⟨i, hi⟩ := List.getElem?_of_mem h1
  obtain ⟨j, hj⟩ := List.getElem?_of_mem h2
  obtain ⟨i1, i2⟩ := List.getElem?_eq_some_iff.1 hi
  obtain ⟨j1, j2⟩ := List.getElem?_eq_some_iff.1 hj
  have hp := List.pairwise_iff_getElem.1 h
  rcases Nat.lt_trichotomy i j with hlt | rfl | hlt
  · have := hp i j i1 j1 hlt
    rw [i2, j2] at this
    exact absurd rfl this
  · rw [i2] at j2
    exact congrArg Prod.fst j2
  · have := hp j i j1 i1 hlt
    rw [i2, j2] at this
    exact absurd rfl this
theorem who_iff {E : List En} (h : DF E) {q : Key} {f : Int} : who E f = some q ↔ (q, f) ∈ E := by
  unfold who
  constructor
  · intro h1
    obtain ⟨e, he, rfl⟩ := Option.map_eq_some_iff.1 h1
    have h2 := List.find?_some he
    have h3 := List.mem_of_find?_eq_some he
    simp only [decide_eq_true_eq] at h2
    rw [← h2]
    exact h3
  · intro h1
    cases hf : E.find? fun e => decide (e.2 = f) with
    | none =>
      have := (List.find?_eq_none.1 hf) _ h1
      simp at this
    | some e =>
      have h2 := List.find?_some hf
      have h3 := List.mem_of_find?_eq_some hf
      simp only [decide_eq_true_eq] at h2
      have h4 : (e.1, f) ∈ E := by rw [← h2]; exact h3
      rw [Option.map_some, df_one h h4 h1]
theorem who_none {E : List En} {f : Int} : who E f = none ↔ ∀ e ∈ E, e.2 ≠ f := by
  unfold who
  rw [Option.map_eq_none_iff, List.find?_eq_none]
  simp
/-- the map's datum and the tree's entries agree -/
structure Rel (D : DataW Unit) (E : List En) : Prop where
  isMap : IsMap D
  at' : ∀ f : Int, D.atKey (fl f) (kd (0, 0)) = kd ((who E f).getD (0, 0))
  has : ∀ f : Int, Maps.has D (fl f) = (who E f).isSome
theorem rel_nil : Rel (.map []) [] := ⟨⟨[], rfl⟩, fun _ => rfl, fun _ => rfl⟩
theorem fl_key (f : Int) : WideAt.IsKeyLit (fl f) := trivial
theorem fl_inj {f g : Int} (h : fl f = fl g) : f = g := by injection h
theorem rel_put {D : DataW Unit} {E E' : List En} (h : Rel D E) (q : Key) (f : Int) (hw : ∀ g, who E' g = if g = f then some q else who E g) : Rel (D.put (fl f) (kd q)) E' := by
  refine ⟨h.isMap.put _ _, fun g => ?_, fun g => ?_⟩
  · rw [hw]
    by_cases e : g = f
    · subst e
      rw [if_pos rfl, atKey_put_same h.isMap (fl_key _)]
      rfl
    · rw [if_neg e, atKey_put_other (fun e' => e (fl_inj e')), h.at']
  · rw [hw]
    by_cases e : g = f
    · subst e
      rw [if_pos rfl, has_put_same h.isMap (fl_key _)]
      rfl
    · rw [if_neg e, has_put_other (fun e' => e (fl_inj e')), h.has]
theorem rel_del {D : DataW Unit} {E E' : List En} (h : Rel D E) (f : Int) (hw : ∀ g, who E' g = if g = f then none else who E g) : Rel (D.del (fl f)) E' := by
  refine ⟨h.isMap.del _, fun g => ?_, fun g => ?_⟩
  · rw [hw]
    by_cases e : g = f
    · subst e
      rw [if_pos rfl, atKey_del_same]
      rfl
    · rw [if_neg e, atKey_del_other (fun e' => e (fl_inj e')), h.at']
  · rw [hw]
    by_cases e : g = f
    · subst e
      rw [if_pos rfl, has_del_same]
      rfl
    · rw [if_neg e, has_del_other (fun e' => e (fl_inj e')), h.has]
/-- what holds of the entries of a delay for n flows, behind q puts -/
structure EI (n q : Nat) (E : List En) : Prop where
  flow : ∀ e ∈ E, 0 ≤ e.2 ∧ e.2 < (n : Int)
  key : ∀ e ∈ E, 0 ≤ e.1.1 ∧ 0 ≤ e.1.2 ∧ e.1.2 < (q : Int)
  df : DF E
  top : ∀ e ∈ E, e.1.1 < 18446744073709551616
theorem EI.sub {n q : Nat} {E E' : List En} (h : EI n q E) (hs : E'.Sublist E) : EI n q E' :=
  ⟨fun e he => h.flow e (hs.subset he), fun e he => h.key e (hs.subset he), h.df.sublist hs, fun e he => h.top e (hs.subset he)⟩
theorem look_fresh {n q : Nat} {E : List En} (h : EI n q E) (a : Int) : Tr.look E (a, (q : Int)) = none := by
  unfold Tr.look
  rw [Option.map_eq_none_iff, List.find?_eq_none]
  intro e he
  have := (h.key e he).2.2
  simp only [decide_eq_true_eq]
  intro e'
  rw [e'] at this
  simp only at this
  omega
theorem mem_ins {E : List En} {k : Key} {v : Int} (hn : Tr.look E k = none) (e : En) : e ∈ ins E k v ↔ e = (k, v) ∨ e ∈ E := by
  unfold ins
  rw [List.mem_append, List.mem_cons, List.mem_filter, List.mem_filter]
  constructor
  · rintro (⟨h, _⟩ | h | ⟨h, _⟩)
    · exact .inr h
    · exact .inl h
    · exact .inr h
  · rintro (h | h)
    · exact .inr (.inl h)
    · rcases lt_tri e.1 k with h1 | h1 | h1
      · exact .inl ⟨h, h1⟩
      · exfalso
        unfold Tr.look at hn
        rw [Option.map_eq_none_iff, List.find?_eq_none] at hn
        have := hn e h
        simp [h1] at this
      · exact .inr (.inr ⟨h, h1⟩)
theorem df_ins {E : List En} {k : Key} {f : Int} (h : DF E) (hf : who E f = none) : DF (ins E k f) := by
  have hn := who_none.1 hf
  unfold ins DF
  rw [List.pairwise_append, List.pairwise_cons]
  refine ⟨h.sublist List.filter_sublist, ⟨fun e he => (hn e (List.mem_filter.1 he).1).symm, h.sublist List.filter_sublist⟩, fun x hx y hy => ?_⟩
  rcases List.mem_cons.1 hy with rfl | hy
  · exact hn x (List.mem_filter.1 hx).1
  · intro e
    have hx' := List.mem_filter.1 hx
    have hy' := List.mem_filter.1 hy
    have : x.1 = y.1 := df_one h (f := x.2) hx'.1 (by rw [e]; exact hy'.1)
    have h1 := hx'.2
    have h2 := hy'.2
    rw [this] at h1
    exact lt_asymm h1 h2
theorem who_ins {E : List En} {k : Key} {f : Int} (h : DF E) (hk : Tr.look E k = none) (hf : who E f = none) (g : Int) : who (ins E k f) g = if g = f then some k else who E g := by
  by_cases e : g = f
  · subst e
    rw [if_pos rfl, who_iff (df_ins h hf), mem_ins hk]
    exact .inl rfl
  · rw [if_neg e]
    cases hw : who E g with
    | none =>
      rw [who_none] at hw ⊢
      intro x hx
      rcases (mem_ins hk x).1 hx with rfl | hx
      · exact fun e' => e e'.symm
      · exact hw x hx
    | some q =>
      rw [who_iff (df_ins h hf), mem_ins hk]
      exact .inr ((who_iff h).1 hw)
/-- entries without one flow -/
theorem who_out {E E' : List En} {f : Int} (h : DF E) (hs : E'.Sublist E) (hm : ∀ e, e ∈ E' ↔ e ∈ E ∧ e.2 ≠ f) (g : Int) : who E' g = if g = f then none else who E g := by
  have h' : DF E' := h.sublist hs
  by_cases e : g = f
  · subst e
    rw [if_pos rfl, who_none]
    exact fun x hx => ((hm x).1 hx).2
  · rw [if_neg e]
    cases hw : who E g with
    | none =>
      rw [who_none] at hw ⊢
      exact fun x hx => hw x ((hm x).1 hx).1
    | some q =>
      rw [who_iff h', hm]
      exact ⟨(who_iff h).1 hw, e⟩
theorem mem_del {E : List En} {k : Key} {f : Int} (hd : DF E) (hr : RisingE E) (hk : (k, f) ∈ E) (e : En) : e ∈ del E k ↔ e ∈ E ∧ e.2 ≠ f := by
  unfold del
  rw [List.mem_filter]
  simp only [decide_eq_true_eq]
  constructor
  · rintro ⟨h1, h2⟩
    exact ⟨h1, fun e' => h2 (df_one hd (f := f) (by rw [← e']; exact h1) hk)⟩
  · rintro ⟨h1, h2⟩
    refine ⟨h1, fun e' => h2 ?_⟩
    have l1 := look_mem hr (q := e.1) (v := e.2) h1
    have l2 := look_mem hr hk
    rw [e', l2] at l1
    injection l1 with l1
    exact l1.symm
end Go.Proofs.Ytlficiohenpghab.Dy
