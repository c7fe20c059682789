/- DERIVED. Layer 10 (store): what is held, by handles (plain); contracts of a store by what it holds. -/
import Derived.Test.YtekdgghekdajbaaStE
import Derived.Test.YtekdgghekdajbaaArG
set_option linter.unusedVariables false
set_option linter.unusedSimpArgs false
set_option maxRecDepth 100000
namespace Go.Proofs.Ytekdgghekdajbaa.St
open Go.RowKit Go.Proofs.Ytekdgghekdajbaa Go.Proofs.Ytekdgghekdajbaa.Ar

/-- T: the handles that are held now, all of them; no others -/
structure HT (X : A) (T : List Nat) : Prop where
  nd : T.Nodup
  on : ∀ h ∈ T, pb X (h : Int) = true
  cnt : X.used = T.length
  all : ∀ q, q < X.st.length → X.st.getD q 0 % 2 = 1 → hdl X q ∈ T
theorem pb_hdl {N : Nat} {X : A} (ho : Ok N X) {q : Nat} (hq : q < X.st.length) (h : X.st.getD q 0 % 2 = 1) : pb X (hdl X q : Nat) = true := by
  rw [hdl_at h, pb_at X _ q hq (Nat.le_trans ho.len ho.r2)]
  exact decide_eq_true (by omega)
theorem hdl_inj {N : Nat} {X : A} (ho : Ok N X) {q q' : Nat} (hq : q < X.st.length) (hq' : q' < X.st.length) (h : X.st.getD q 0 % 2 = 1) (h' : X.st.getD q' 0 % 2 = 1) (e : hdl X q = hdl X q') : q = q' := by
  rw [hdl_at h, hdl_at h'] at e
  have := ho.len
  have := ho.r2
  exact (code_inj e (by omega) (by omega)).2
theorem ht_fresh (r : Nat) : HT (fresh r) [] := ⟨List.nodup_nil, by simp, rfl, fun q h => by simp [fresh] at h⟩
theorem ht_key {N : Nat} {X : A} {T : List Nat} (ho : Ok N X) (hi : HT X T) (hu : X.used < X.room) {h : Nat} (hh : h ∈ T) :
    ∃ q, h = hdl X q ∧ h = hdl (tk X) q ∧ q < X.st.length ∧ q < (tk X).st.length ∧ X.st.getD q 0 % 2 = 1 ∧ (tk X).st.getD q 0 % 2 = 1 ∧ q ≠ tq X := by
  obtain ⟨t, ho'⟩ := take_spec ho hu
  obtain ⟨q, _, h2, h3, h4⟩ := pb_spec (hi.on h hh)
  have hne : q ≠ tq X := fun e => by rw [e] at h3; have := t.was; omega
  have e := t.other q hne
  have h3' : (tk X).st.getD q 0 % 2 = 1 := by rw [e]; exact h3
  exact ⟨q, h4, by rw [h4, hdl_at h3, hdl_at h3', e], h2, Nat.lt_of_lt_of_le h2 t.old, h3, h3', hne⟩
theorem ht_take {N : Nat} {X : A} {T : List Nat} (ho : Ok N X) (hi : HT X T) (hu : X.used < X.room) : HT (tk X) (T ++ [hdl (tk X) (tq X)]) := by
  obtain ⟨t, ho'⟩ := take_spec ho hu
  have hodd : (tk X).st.getD (tq X) 0 % 2 = 1 := by rw [t.now]; have := t.was; omega
  refine ⟨?_, fun h hh => ?_, ?_, fun q hq hq2 => ?_⟩
  · rw [List.nodup_append]
    refine ⟨hi.nd, by simp, fun a ha b hb e => ?_⟩
    simp at hb
    subst hb
    obtain ⟨q, _, e1, _, e2, _, e3, e4⟩ := ht_key ho hi hu ha
    rw [e1] at e
    exact e4 (hdl_inj ho' e2 t.q e3 hodd e)
  · rcases List.mem_append.1 hh with hh | hh
    · obtain ⟨q, _, rfl, _, e2, _, e3, _⟩ := ht_key ho hi hu hh
      exact pb_hdl ho' e2 e3
    · simp at hh
      subst hh
      exact pb_hdl ho' t.q hodd
  · show X.used + 1 = _
    rw [hi.cnt, List.length_append]
    rfl
  · by_cases e : q = tq X
    · subst e; simp
    · have e1 := t.other q e
      have hq3 : X.st.getD q 0 % 2 = 1 := by rw [← e1]; exact hq2
      have hq4 : q < X.st.length := by
        by_cases h : q < X.st.length
        · exact h
        · rw [List.getD_eq_getElem?_getD, List.getElem?_eq_none (by omega), Option.getD_none] at hq3; omega
      have := hi.all q hq4 hq3
      rw [hdl_at hq3] at this
      rw [hdl_at hq2, e1]
      exact List.mem_append.2 (.inl this)
theorem ht_give {N : Nat} {X : A} {T : List Nat} (ho : Ok N X) (hi : HT X T) {h q : Nat} (hp : pb X (h : Int) = true) (hv : pv X (h : Int) = (q : Int)) : HT (gv X q) (T.filter fun x => decide (x ≠ h)) ∧ h ∈ T := by
  obtain ⟨q', h1, h2, h3, h4⟩ := pb_spec hp
  obtain rfl : q' = q := by omega
  obtain ⟨ho', hu, hg, hlen⟩ := give_spec ho q' h2 h3
  have hmem : h ∈ T := by rw [h4]; exact hi.all q' h2 h3
  refine ⟨⟨hi.nd.filter _, fun x hx => ?_, ?_, fun j hj hj2 => ?_⟩, hmem⟩
  · obtain ⟨hx1, hx2⟩ := List.mem_filter.1 hx
    simp only [ne_eq, decide_not, Bool.not_eq_true', decide_eq_false_iff_not] at hx2
    obtain ⟨j, _, k2, k3, k4⟩ := pb_spec (hi.on x hx1)
    have hq : j ≠ q' := fun e => hx2 (by rw [k4, h4, e])
    have e1 : (gv X q').st.getD j 0 = X.st.getD j 0 := by rw [hg, if_neg hq]
    have e2 : (gv X q').st.getD j 0 % 2 = 1 := by rw [e1]; exact k3
    have e3 : x = hdl (gv X q') j := by rw [k4, hdl_at k3, hdl_at e2, e1]
    rw [e3]
    exact pb_hdl ho' (by rw [hlen]; exact k2) e2
  · show X.used - 1 = _
    rw [hi.cnt]
    have hc : T.count h = 1 := by
      have h1 := List.nodup_iff_count.1 hi.nd h
      have h2 := List.count_pos_iff.2 hmem
      omega
    have e : (T.filter fun x => decide (x ≠ h)).length + T.count h = T.length := by
      rw [List.count_eq_length_filter]
      clear hi hmem hc
      induction T with
      | nil => rfl
      | cons a T ih => by_cases ha : a = h <;> simp [ha] <;> simp at ih <;> omega
    omega
  · rw [hg] at hj2
    by_cases e : j = q'
    · subst e; rw [if_pos rfl] at hj2; omega
    · rw [if_neg e] at hj2
      rw [hlen] at hj
      have hm := hi.all j hj hj2
      have e1 : (gv X q').st.getD j 0 = X.st.getD j 0 := by rw [hg, if_neg e]
      have e2 : (gv X q').st.getD j 0 % 2 = 1 := by rw [e1]; exact hj2
      rw [hdl_at e2, e1, ← hdl_at hj2]
      refine List.mem_filter.2 ⟨hm, ?_⟩
      simp only [ne_eq, decide_not, Bool.not_eq_true', decide_eq_false_iff_not]
      intro e3
      exact e (hdl_inj ho hj h2 hj2 h3 (e3.trans h4))
theorem ht_lt {N : Nat} {X : A} {T : List Nat} (ho : Ok N X) (hN : N ≤ 1000) (hi : HT X T) {h : Nat} (hh : h ∈ T) : h < 18446744073709551616 ∧ 1 ≤ h := by
  obtain ⟨q, _, h2, h3, h4⟩ := pb_spec (hi.on h hh)
  rw [h4, hdl_at h3]
  have := ho.len
  have := ho.r2
  have := ho.bd q
  omega
theorem ht_pb {X : A} {T : List Nat} (hi : HT X T) {h : Nat} : pb X (h : Int) = true ↔ h ∈ T := ⟨fun hp => by
  obtain ⟨q, _, h2, h3, h4⟩ := pb_spec hp
  rw [h4]; exact hi.all q h2 h3, hi.on h⟩

/-- what is held, in the order in which it was put -/
abbrev HE := Nat × Hd
def lookH (E : List HE) (h : Nat) : Option Hd := (E.find? fun p => decide (p.1 = h)).map (·.2)
def sumH : List HE → Int
  | [] => 0
  | p :: E => p.2.len + sumH E
theorem sumH_snoc (E : List HE) (p : HE) : sumH (E ++ [p]) = sumH E + p.2.len := by
  induction E with
  | nil => simp [sumH]
  | cons a E ih => simp only [List.cons_append, sumH, ih]; omega
/-- what the store's cells say of what it holds -/
structure SI (N : Nat) (X : A) (H : List Hd) (E : List HE) (bys : Int) : Prop where
  ok : Ok N X
  ht : HT X (E.map (·.1))
  len : H.length = X.st.length
  cell : ∀ p ∈ E, ∀ q : Nat, pv X (p.1 : Int) = (q : Int) → H[q]? = some p.2
  sum : bys = sumH E
  lens : ∀ p ∈ E, 1 ≤ p.2.len ∧ p.2.len ≤ 65536
theorem si_fresh (r : Nat) (h1 : 1 ≤ r) (h2 : r ≤ 65536) : SI 0 (fresh r) [] [] 0 := ⟨ok_fresh r h1 h2, ht_fresh r, rfl, by simp, rfl, by simp⟩
theorem sum_bd {E : List HE} {k : Nat} (hl : ∀ p ∈ E, 1 ≤ p.2.len ∧ p.2.len ≤ 65536) (hk : E.length ≤ k) : 0 ≤ sumH E ∧ sumH E ≤ 65536 * (k : Int) := by
  have : 0 ≤ sumH E ∧ sumH E ≤ 65536 * (E.length : Int) := by
    clear hk
    induction E with
    | nil => simp [sumH]
    | cons a E ih =>
      have h1 := hl a (.head _)
      have h2 := ih fun p hp => hl p (.tail _ hp)
      simp only [sumH, List.length_cons]
      omega
  omega
theorem look_some {E : List HE} {h : Nat} {x : Hd} (he : lookH E h = some x) : (h, x) ∈ E := by
  unfold lookH at he
  obtain ⟨p, hp, rfl⟩ := Option.map_eq_some_iff.1 he
  have h1 := List.mem_of_find?_eq_some hp
  have h2 := List.find?_some hp
  simp only [decide_eq_true_eq] at h2
  rw [← h2]; exact h1
theorem look_none {E : List HE} {h : Nat} (he : lookH E h = none) : h ∉ E.map (·.1) := by
  unfold lookH at he
  rw [Option.map_eq_none_iff, List.find?_eq_none] at he
  intro hm
  obtain ⟨p, hp, e⟩ := List.mem_map.1 hm
  exact he p hp (by simp [e])
theorem look_mem {E : List HE} {h : Nat} {x : Hd} (nd : (E.map (·.1)).Nodup) (hm : (h, x) ∈ E) : lookH E h = some x := by
  unfold lookH
  induction E with
  | nil => cases hm
  | cons a E ih =>
    rw [List.map_cons, List.nodup_cons] at nd
    rw [List.find?_cons]
    by_cases e : a.1 = h
    · rw [show decide (a.1 = h) = true from decide_eq_true e]
      rcases List.mem_cons.1 hm with rfl | hm
      · rfl
      · exact absurd (List.mem_map.2 ⟨_, hm, rfl⟩) (e ▸ nd.1)
    · rw [show decide (a.1 = h) = false from decide_eq_false e]
      rcases List.mem_cons.1 hm with rfl | hm
      · exact absurd rfl e
      · exact ih nd.2 hm
section
variable {N : Nat} {X : A} {H : List Hd} {E : List HE} {bys : Int}
theorem SI.look_pb (hi : SI N X H E bys) (h : Nat) : (lookH E h).isSome = pb X (h : Int) := by
  cases he : lookH E h with
  | none =>
    have := look_none he
    rw [← ht_pb hi.ht] at this
    simpa using this
  | some x =>
    have := (ht_pb hi.ht (h := h)).2 (List.mem_map.2 ⟨_, look_some he, rfl⟩)
    rw [this]; rfl
theorem SI.put (hi : SI N X H E bys) (hu : X.used < X.room) (x : Hd) (h1 : 1 ≤ x.len) (h2 : x.len ≤ 65536) : SI (N + 1) (tk X) (putH H (tq X) x) (E ++ [(hdl (tk X) (tq X), x)]) (bys + x.len) := by
  obtain ⟨t, ho'⟩ := take_spec hi.ok hu
  have hql : tq X ≤ H.length := by rw [hi.len]; have := t.q; have := t.len; omega
  obtain ⟨hpb, hpv, -⟩ := take_place hi.ok hu
  refine ⟨ho', by rw [List.map_append]; exact ht_take hi.ok hi.ht hu, ?_, fun p hp q hq => ?_, by rw [sumH_snoc, hi.sum], fun p hp => ?_⟩
  · unfold putH
    split
    · rename_i h
      rw [List.length_set, hi.len]
      have := t.old
      have := t.len
      have := t.q
      by_cases e : X.bk = []
      · exfalso
        have : tq X = X.st.length := by unfold tq; rw [if_pos e]
        rw [hi.len] at h; omega
      · unfold tk st0
        rw [if_neg e]
        simp
    · rename_i h
      rw [List.length_append, List.length_singleton]
      have := t.len
      have := t.q
      have := hi.len
      omega
  · rcases List.mem_append.1 hp with hp | hp
    · obtain ⟨j, e1, e2, e3, e4, e5, e6, e7⟩ := ht_key hi.ok hi.ht hu (List.mem_map.2 ⟨p, hp, rfl⟩)
      have hpbX := hi.ht.on _ (List.mem_map.2 ⟨p, hp, rfl⟩)
      have hpbT := pb_hdl ho' e4 e6
      rw [← e2] at hpbT
      have ev : pv X (p.1 : Int) = pv (tk X) (p.1 : Int) := by unfold pv; rw [if_pos hpbX, if_pos hpbT]
      have hq' : pv X (p.1 : Int) = (q : Int) := ev.trans hq
      have hc := hi.cell p hp q hq'
      obtain ⟨j', k1, k2, k3, k4⟩ := pb_spec hpbX
      have ejj : j' = j := hdl_inj hi.ok k2 e3 k3 e5 (k4.symm.trans e1)
      have eq : q = j := by omega
      have hne : tq X ≠ q := by rw [eq]; exact fun e => e7 e.symm
      unfold putH
      split
      · rw [List.getElem?_set_ne hne]; exact hc
      · rw [List.getElem?_append_left (List.getElem?_eq_some_iff.1 hc).1]; exact hc
    · simp only [List.mem_singleton] at hp
      subst hp
      simp only at hq ⊢
      rw [hpv] at hq
      have eq : q = tq X := by omega
      rw [eq]
      unfold putH
      split
      · rename_i h; rw [List.getElem?_set_self h]
      · rename_i h
        have : tq X = H.length := by omega
        rw [this]; simp
  · rcases List.mem_append.1 hp with hp | hp
    · exact hi.lens p hp
    · simp only [List.mem_singleton] at hp
      subst hp; exact ⟨h1, h2⟩
theorem sum_filter {E : List HE} {h : Nat} {x : Hd} (nd : (E.map (·.1)).Nodup) (hm : (h, x) ∈ E) : sumH (E.filter fun p => decide (p.1 ≠ h)) + x.len = sumH E := by
  induction E with
  | nil => cases hm
  | cons a E ih =>
    rw [List.map_cons, List.nodup_cons] at nd
    rw [List.filter_cons]
    rcases List.mem_cons.1 hm with rfl | hm
    · have : (E.filter fun p => decide (p.1 ≠ h)) = E := List.filter_eq_self.2 fun p hp => by
        simp only [ne_eq, decide_not, Bool.not_eq_true', decide_eq_false_iff_not]
        intro e
        exact nd.1 (List.mem_map.2 ⟨p, hp, e⟩)
      simp only [ne_eq, not_true_eq_false, decide_false, Bool.false_eq_true, if_false]
      simp only [ne_eq] at this
      rw [this]
      simp only [sumH]; omega
    · have hne : a.1 ≠ h := fun e => nd.1 (List.mem_map.2 ⟨_, hm, e.symm⟩)
      rw [if_pos (by simpa using hne)]
      simp only [sumH]
      have := ih nd.2 hm
      omega
theorem SI.free (hi : SI N X H E bys) {h q : Nat} {x : Hd} (he : lookH E h = some x) (hq : pv X (h : Int) = (q : Int)) : SI (N + 1) (gv X q) H (E.filter fun p => decide (p.1 ≠ h)) (bys - x.len) := by
  have hm := look_some he
  have hp := hi.ht.on h (List.mem_map.2 ⟨_, hm, rfl⟩)
  obtain ⟨q', h1, h2, h3, h4⟩ := pb_spec hp
  obtain rfl : q' = q := by omega
  obtain ⟨ho', hu, hg, hlen⟩ := give_spec hi.ok q' h2 h3
  obtain ⟨g1, -⟩ := ht_give hi.ok hi.ht hp hq
  have em : (E.filter fun p => decide (p.1 ≠ h)).map (·.1) = (E.map (·.1)).filter fun x => decide (x ≠ h) := by
    rw [List.filter_map]; rfl
  refine ⟨ho', by rw [em]; exact g1, by rw [hlen]; exact hi.len, fun p hp' j hj => ?_, ?_, fun p hp' => hi.lens p (List.mem_filter.1 hp').1⟩
  · obtain ⟨m1, m2⟩ := List.mem_filter.1 hp'
    have k1 := hi.ht.on p.1 (List.mem_map.2 ⟨_, m1, rfl⟩)
    have k2 := g1.on p.1 (by rw [← em]; exact List.mem_map.2 ⟨_, hp', rfl⟩)
    refine hi.cell p m1 j ?_
    rw [← hj]
    unfold pv
    rw [if_pos k1, if_pos k2]
  · have := sum_filter hi.ht.nd hm
    have := hi.sum
    omega
theorem SI.place (hi : SI N X H E bys) {h : Nat} {x : Hd} (he : lookH E h = some x) : ∃ q : Nat, pb X (h : Int) = true ∧ pv X (h : Int) = (q : Int) ∧ H[q]? = some x := by
  have hm := look_some he
  have hp := hi.ht.on h (List.mem_map.2 ⟨_, hm, rfl⟩)
  obtain ⟨q, h1, -⟩ := pb_spec hp
  exact ⟨q, hp, h1, hi.cell _ hm q h1⟩
end
/-! ### contracts -/
def getH (E : List HE) (h : Nat) : Hd := (lookH E h).getD zeroH
def delH (E : List HE) (h : Nat) : List HE := E.filter fun p => decide (p.1 ≠ h)
theorem del_none {E : List HE} {h : Nat} (he : lookH E h = none) : delH E h = E := List.filter_eq_self.2 fun p hp => by
  simp only [ne_eq, decide_not, Bool.not_eq_true', decide_eq_false_iff_not]
  intro e
  exact look_none he (List.mem_map.2 ⟨p, hp, e⟩)
/-- a store that holds E -/
def StE (p N : Nat) (X : A) (E : List HE) (nx : Int) (l : List HP) (w : World) : Prop := ∃ H bys, Sto p X H bys nx l w ∧ SI N X H E bys
section
variable {p N : Nat} {X : A} {E : List HE} {nx : Int} {l : List HP} {w : World}
theorem StE.own (h : StE p N X E nx l w) : Own l w := by
  obtain ⟨H, b, h, -⟩ := h
  exact h.own
theorem StE.step {w' : World} (h : StE p N X E nx l w) (k : Ext w w') : StE p N X E nx l w' := by
  obtain ⟨H, b, h, hi⟩ := h
  exact ⟨H, b, h.step k, hi⟩
theorem SI.mono {M : Nat} {H : List Hd} {bys : Int} (hi : SI N X H E bys) (hM : N ≤ M) : SI M X H E bys := ⟨hi.ok.mono hM, hi.ht, hi.len, hi.cell, hi.sum, hi.lens⟩
theorem StE.mono {M : Nat} (h : StE p N X E nx l w) (hM : N ≤ M) : StE p M X E nx l w := by
  obtain ⟨H, b, h, hi⟩ := h
  exact ⟨H, b, h, hi.mono hM⟩
/-- the store among all that is owned: what is owned beside it may be looked at, and changed -/
theorem StE.rest {l' : List HP} {w' : World} (h : StE p N X E nx l w) (f : ∀ P : HP, ∀ Q : HP, ∀ R : HP, Own (P :: Q :: R :: l) w → Own (P :: Q :: R :: l') w') : StE p N X E nx l' w' := by
  obtain ⟨H, b, ⟨pa, v, h⟩, hi⟩ := h
  exact ⟨H, b, ⟨pa, v, f _ _ _ h⟩, hi⟩
theorem StE.facts (h : StE p N X E nx l w) : Ok N X ∧ HT X (E.map (·.1)) ∧ X.used = E.length ∧ (∀ q ∈ E, 1 ≤ q.2.len ∧ q.2.len ≤ 65536) := by
  obtain ⟨H, b, h, hi⟩ := h
  exact ⟨hi.ok, hi.ht, by rw [hi.ht.cnt, List.length_map], hi.lens⟩
theorem ste_new (r : Nat) (h1 : 1 ≤ r) (h2 : r ≤ 65536) (h : Own l w) :
    Calls Try.prog 29 #[.int .i64 r] w fun e w' => ∃ p, e = .returned (.tuple #[.pointer (some ⟨p, 0, none⟩), .int .i64 0]) ∧ StE p 0 (fresh r) [] 1 l w' :=
  (snew_any r h1 h2 h).mono fun e w' ⟨p, he, h⟩ => ⟨p, he, [], 0, h, si_fresh r h1 h2⟩
theorem ste_arg (h : StE p N X E nx l w) (k c len pr at_ now : Int) (hb : bad len pr = true) :
    Calls Try.prog 30 #[.pointer (some ⟨p, 0, none⟩), pk k c len pr at_, .int .u64 now] w fun e w' => e = .returned (.tuple #[.int .u64 0, .int .i64 2]) ∧ StE p N X E nx l w' := by
  obtain ⟨H, b, h, hi⟩ := h
  exact (put_arg h k c len pr at_ now hb).mono fun e w' ⟨he, h⟩ => ⟨he, H, b, h, hi⟩
theorem ste_full (h : StE p N X E nx l w) (hN : N < 100000) (hu : X.used = X.room) (k c len pr at_ now : Int) (hb : bad len pr = false) :
    Calls Try.prog 30 #[.pointer (some ⟨p, 0, none⟩), pk k c len pr at_, .int .u64 now] w fun e w' => e = .returned (.tuple #[.int .u64 0, .int .i64 4]) ∧ StE p N X E nx l w' := by
  obtain ⟨H, b, h, hi⟩ := h
  exact (put_full h hi.ok (by omega) hu k c len pr at_ now hb).mono fun e w' ⟨he, h⟩ => ⟨he, H, b, h, hi⟩
theorem ste_put (h : StE p N X E nx l w) (hN : N < 100000) (hu : X.used < X.room) (k c len pr at_ now : Int) (hb : bad len pr = false) (n0 : 0 ≤ nx) (n1 : nx ≤ 1000000) (hr : X.room ≤ 1000) :
    Calls Try.prog 30 #[.pointer (some ⟨p, 0, none⟩), pk k c len pr at_, .int .u64 now] w fun e w' => e = .returned (.tuple #[.int .u64 ((hdl (tk X) (tq X) : Nat) : Int), .int .i64 0]) ∧ StE p (N + 1) (tk X) (E ++ [(hdl (tk X) (tq X), ⟨k, c, len, pr, at_, nx, now⟩)]) (nx + 1) l w' := by
  obtain ⟨H, b, h, hi⟩ := h
  have hl : 1 ≤ len ∧ len ≤ 65536 := by
    unfold bad at hb
    simp only [Bool.or_eq_false_iff, decide_eq_false_iff_not] at hb
    omega
  have hE : E.length ≤ 1000 := by have := hi.ht.cnt; rw [List.length_map] at this; omega
  have hs := sum_bd hi.lens hE
  have hsum := hi.sum
  exact (put_ok h hi.ok (by omega) hi.len hu k c len pr at_ now hb (by omega) (by omega) n0 (by omega)).mono fun e w' ⟨he, h⟩ => ⟨he, _, _, h, hi.put hu ⟨k, c, len, pr, at_, nx, now⟩ hl.1 hl.2⟩
theorem ste_get (h : StE p N X E nx l w) (hN : N < 100000) (hh : Nat) (hH : hh < 18446744073709551616) :
    Calls Try.prog 31 #[.pointer (some ⟨p, 0, none⟩), .int .u64 hh] w fun e w' => e = .returned (.tuple #[hagg (getH E hh), .bool (lookH E hh).isSome]) ∧ StE p N X E nx l w' := by
  obtain ⟨H, b, h, hi⟩ := h
  unfold getH
  cases he : lookH E hh with
  | none =>
    have hp : pb X (hh : Int) = false := by rw [← hi.look_pb hh, he]; rfl
    exact (get_no h hi.ok (by omega) hh hH hp).mono fun e w' ⟨he, h⟩ => ⟨he, H, b, h, hi⟩
  | some x =>
    obtain ⟨q, hp, hq, hx⟩ := hi.place he
    exact (get_yes h hi.ok (by omega) hh hH hp q hq x hx).mono fun e w' ⟨he, h⟩ => ⟨he, H, b, h, hi⟩
theorem ste_free (h : StE p N X E nx l w) (hN : N < 100000) (hr : X.room ≤ 1000) (hh : Nat) (hH : hh < 18446744073709551616) :
    Calls Try.prog 34 #[.pointer (some ⟨p, 0, none⟩), .int .u64 hh] w fun e w' => e = .returned (.tuple #[hagg (getH E hh), .bool (lookH E hh).isSome]) ∧ StE p (N + 1) (gvA X hh) (delH E hh) nx l w' := by
  obtain ⟨H, b, h, hi⟩ := h
  unfold getH
  cases he : lookH E hh with
  | none =>
    have hp : pb X (hh : Int) = false := by rw [← hi.look_pb hh, he]; rfl
    have e1 : gvA X hh = X := by unfold gvA; rw [if_neg (by simp [hp])]
    rw [e1, del_none he]
    exact (free_no h hi.ok (by omega) hh hH hp).mono fun e w' ⟨he, h⟩ => ⟨he, H, b, h, hi.mono (by omega)⟩
  | some x =>
    obtain ⟨q, hp, hq, hx⟩ := hi.place he
    have e1 : gvA X hh = gv X q := by unfold gvA; rw [if_pos hp, hq]; simp
    rw [e1]
    have hE : E.length ≤ 1000 := by have := hi.ht.cnt; have := hi.ok.used_le; rw [List.length_map] at *; omega
    have hs := sum_bd hi.lens hE
    have hsum := hi.sum
    have hl := hi.lens _ (look_some he)
    simp only at hl
    exact (free_yes h hi.ok (by omega) hh hH hp q hq x hx (by omega) (by omega) (by omega) (by omega)).mono fun e w' ⟨he', h⟩ => ⟨he', _, _, h, hi.free he hq⟩
theorem ste_count (h : StE p N X E nx l w) : Calls Try.prog 32 #[.pointer (some ⟨p, 0, none⟩)] w fun e w' => e = .returned (.int .i64 (E.length : Int)) ∧ w = w' := by
  obtain ⟨H, b, h, hi⟩ := h
  have := count_any h hi.ok
  rw [hi.ht.cnt, List.length_map] at this
  exact this
theorem ste_bytes (h : StE p N X E nx l w) : Calls Try.prog 39 #[.pointer (some ⟨p, 0, none⟩)] w fun e w' => e = .returned (.int .i64 (sumH E)) ∧ w = w' := by
  obtain ⟨H, b, h, hi⟩ := h
  rw [← hi.sum]
  exact bytes_any h
theorem ste_next (h : StE p N X E nx l w) : Calls Try.prog 41 #[.pointer (some ⟨p, 0, none⟩)] w fun e w' => e = .returned (.int .u64 nx) ∧ w = w' := by
  obtain ⟨H, b, h, hi⟩ := h
  exact nextn_any h
end
end Go.Proofs.Ytekdgghekdajbaa.St
