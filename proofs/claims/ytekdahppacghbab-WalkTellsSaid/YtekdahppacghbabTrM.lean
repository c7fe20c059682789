/- DERIVED. Layer 6 (tree): what a tree is to those who use it: its entries, rising. Plain facts: links stay in the array; what a put and a drop make of the entries. -/
import Derived.Test.YtekdahppacghbabTrI
set_option linter.unusedVariables false
set_option linter.unusedSimpArgs false
set_option maxRecDepth 100000
namespace Go.Proofs.Ytekdahppacghbab.Tr
open Go.RowKit Go.Proofs.Ytekdahppacghbab Go.Proofs.Ytekdahppacghbab.TreeP

theorem settle_rng : ∀ (k : Nat) (S : TS) (z : Nat) (Sf : TS), Rng S → z < S.n.length → TreeP.settle k S z = some Sf → Rng Sf
  | 0, _, _, _, _, _, h => by simp [TreeP.settle] at h
  | k + 1, S, z, Sf, hr, hz, h => by
    unfold TreeP.settle at h
    simp only at h
    have hp : (S.nd z).up < S.n.length := hr.up z
    have hg : (S.nd (S.nd z).up).up < S.n.length := hr.up _
    by_cases h1 : (S.nd (S.nd z).up).red = true
    · rw [if_pos h1] at h
      by_cases h2 : (S.nd ((S.nd (S.nd (S.nd z).up).up).kid (!side S (S.nd z).up))).red = true
      · rw [if_pos h2] at h
        refine settle_rng k _ _ _ (((hr.sred false hp).sred false ?_).sred true ?_) ?_ h
        · simp only [len_upd]; exact hr.kid _ _
        · simp only [len_upd]; exact hg
        · simp only [len_upd]; exact hg
      · rw [if_neg h2] at h
        by_cases h3 : side S z = side S (S.nd z).up
        · simp only [h3, if_true] at h
          refine settle_rng k _ _ _ (Rng.turn ((hr.sred false hp).sred true ?_) _ ?_).1 ?_ h
          · simp only [len_upd]; exact hg
          · simp only [len_upd]; exact hg
          · rw [turn_len]; simp only [len_upd]; exact hz
        · simp only [h3, if_false] at h
          obtain ⟨r1, l1⟩ := hr.turn (x := (S.nd z).up) (side S (S.nd z).up) hp
          refine settle_rng k _ _ _ (Rng.turn ((r1.sred false (r1.up _)).sred true ?_) _ ?_).1 ?_ h
          · simp only [len_upd]; rw [l1]; exact hg
          · simp only [len_upd]; rw [l1]; exact hg
          · rw [turn_len]; simp only [len_upd]; rw [l1]; exact hp
    · rw [if_neg h1] at h
      injection h with h
      rw [← h]
      exact hr.sred false hr.root
theorem lift_rng : ∀ (k : Nat) (S : TS) (x : Nat) (Sf : TS), Rng S → x < S.n.length → TreeP.lift k S x = some Sf → Rng Sf
  | 0, _, _, _, _, _, h => by simp [TreeP.lift] at h
  | k + 1, S, x, Sf, hr, hx, h => by
    by_cases hg : x ≠ S.root ∧ (S.nd x).red = false
    · rw [lift_succ k S x hg] at h
      generalize hd : (!((S.nd (S.nd x).up).k0 == x)) = d at h
      generalize hp : (S.nd x).up = p at h
      have hpl : p < S.n.length := by rw [← hp]; exact hr.up x
      obtain ⟨S1, e1⟩ : ∃ S1, S1 = (if (S.nd ((S.nd p).kid (!d))).red then turn ((S.upd ((S.nd p).kid (!d)) (Nd.setRed false)).upd p (Nd.setRed true)) p d else S) := ⟨_, rfl⟩
      rw [← e1] at h
      have hr1 : Rng S1 ∧ S1.n.length = S.n.length := by
        rw [e1]
        split
        · have := Rng.turn ((hr.sred false (hr.kid p (!d))).sred (i := p) true (by simp only [len_upd]; exact hpl)) d (x := p) (by simp only [len_upd]; exact hpl)
          exact ⟨this.1, by rw [this.2]; simp⟩
        · exact ⟨hr, rfl⟩
      obtain ⟨r1, l1⟩ := hr1
      clear e1
      unfold liftB at h
      simp only at h
      obtain ⟨v, ev⟩ : ∃ v, v = (S1.nd p).kid (!d) := ⟨_, rfl⟩
      rw [← ev] at h
      have hv : v < S1.n.length := by rw [ev]; exact r1.kid p _
      by_cases hb : (S1.nd ((S1.nd v).kid false)).red = false ∧ (S1.nd ((S1.nd v).kid true)).red = false
      · simp only [hb, and_self, ↓reduceIte] at h
        exact lift_rng k _ _ _ (r1.sred true hv) (by simp only [len_upd]; omega) h
      · rw [if_neg hb] at h
        obtain ⟨S2, e2⟩ : ∃ S2, S2 = (if (S1.nd ((S1.nd v).kid (!d))).red then S1 else turn ((S1.upd ((S1.nd v).kid d) (Nd.setRed false)).upd v (Nd.setRed true)) v (!d)) := ⟨_, rfl⟩
        rw [← e2] at h
        have hr2 : Rng S2 ∧ S2.n.length = S1.n.length := by
          rw [e2]
          split
          · exact ⟨r1, rfl⟩
          · have := Rng.turn ((r1.sred false (r1.kid v d)).sred (i := v) true (by simp only [len_upd]; exact hv)) (!d) (x := v) (by simp only [len_upd]; exact hv)
            exact ⟨this.1, by rw [this.2]; simp⟩
        obtain ⟨r2, l2⟩ := hr2
        clear e2
        have hw : (S2.nd p).kid (!d) < S2.n.length := r2.kid p _
        have r3 := (r2.sred (S2.nd p).red hw).sred (i := p) false (by simp only [len_upd]; omega)
        have r4 := r3.sred false (r3.kid ((S2.nd p).kid (!d)) (!d))
        have r5 := r4.turn (x := p) d (by simp only [len_upd]; omega)
        exact lift_rng k _ _ _ r5.1 r5.1.root h
    · unfold TreeP.lift at h
      rw [if_neg hg] at h
      injection h with h
      rw [← h]
      exact hr.sred false hx
theorem leftmost_rng : ∀ (k : Nat) (S : TS) (x y : Nat), Rng S → x < S.n.length → TreeP.leftmost k S x = some y → y < S.n.length
  | 0, _, _, _, _, _, h => by simp [TreeP.leftmost] at h
  | k + 1, S, x, y, hr, hx, h => by
    unfold TreeP.leftmost at h
    split at h
    · exact leftmost_rng k S _ y hr (hr.k0 x) h
    · injection h with h
      rw [← h]; exact hx
theorem Rng.zero {S : TS} (h : Rng S) : Rng (S.upd 0 (fun _ => Nd.zero)) := h.upd h.pos (fun d => by cases d <;> exact h.pos) h.pos
theorem after_rng {k : Nat} {red : Bool} {x : Nat} {S Sf : TS} (hr : Rng S) (hx : x < S.n.length) (h : (if red then some S else TreeP.lift k S x).map (fun S'' => S''.upd 0 (fun _ => Nd.zero)) = some Sf) : Rng Sf := by
  cases red with
  | true =>
    simp only [if_true, Option.map_some, Option.some.injEq] at h
    rw [← h]; exact hr.zero
  | false =>
    simp only [Bool.false_eq_true, if_false] at h
    cases hc : TreeP.lift k S x with
    | none => rw [hc] at h; simp at h
    | some T =>
      rw [hc] at h
      simp only [Option.map_some, Option.some.injEq] at h
      rw [← h]
      exact (lift_rng k S x T hr hx hc).zero
theorem swap_rng {S : TS} (hr : Rng S) {y z : Nat} (hy : y < S.n.length) (hz : z < S.n.length) : Rng (TreeP.swapS S y z) ∧ (TreeP.swapS S y z).n.length = S.n.length := by
  unfold TreeP.swapS
  simp only
  obtain ⟨r1, l1⟩ := hr.hang (x := y) (q := z) hy
  have r2 := r1.skid (i := y) (y := ((TreeP.hang S y z).nd z).k0) false (by omega) (r1.k0 z)
  have r3 := r2.sup (y := y) (r2.k0 y) (by simp only [len_upd]; omega)
  exact ⟨r3.sred _ (by simp only [len_upd]; omega), by simp only [len_upd]; exact l1⟩
theorem drop_rng {k : Nat} {S Sf : TS} {z : Nat} (hr : Rng S) (hz : z < S.n.length) (h : TreeP.dropS k S z = some Sf) : Rng Sf := by
  unfold TreeP.dropS at h
  by_cases h0 : (S.nd z).k0 = 0
  · simp only [h0, ↓reduceIte, Option.bind_some] at h
    have := hr.hang (x := (S.nd z).k1) (q := z) (hr.k1 z)
    exact after_rng this.1 (by rw [this.2]; exact hr.k1 z) h
  · by_cases h1 : (S.nd z).k1 = 0
    · simp only [h0, h1, ↓reduceIte, Option.bind_some] at h
      have := hr.hang (x := (S.nd z).k0) (q := z) (hr.k0 z)
      exact after_rng this.1 (by rw [this.2]; exact hr.k0 z) h
    · simp only [h0, h1, ↓reduceIte] at h
      cases hc : TreeP.leftmost k S (S.nd z).k1 with
      | none => rw [hc] at h; simp at h
      | some y =>
        rw [hc] at h
        simp only [Option.map_some, Option.bind_some] at h
        have hy := leftmost_rng k S _ y hr (hr.k1 z) hc
        obtain ⟨S2, e2⟩ : ∃ S2, S2 = (if (S.nd y).up = z then S.upd (S.nd y).k1 (Nd.setUp y) else (((TreeP.hang S (S.nd y).k1 y).upd y (Nd.setKid true ((TreeP.hang S (S.nd y).k1 y).nd z).k1)).upd (((TreeP.hang S (S.nd y).k1 y).upd y (Nd.setKid true ((TreeP.hang S (S.nd y).k1 y).nd z).k1)).nd y).k1 (Nd.setUp y))) := ⟨_, rfl⟩
        rw [← e2] at h
        have hr2 : Rng S2 ∧ S2.n.length = S.n.length := by
          rw [e2]
          split
          · exact ⟨hr.sup (hr.k1 y) hy, by simp⟩
          · obtain ⟨q1, q2⟩ := hr.hang (x := (S.nd y).k1) (q := y) (hr.k1 y)
            have q3 := q1.skid (i := y) (y := ((TreeP.hang S (S.nd y).k1 y).nd z).k1) true (by omega) (q1.k1 z)
            exact ⟨q3.sup (q3.k1 y) (by simp only [len_upd]; omega), by simp only [len_upd]; exact q2⟩
        obtain ⟨r3, l3⟩ := swap_rng hr2.1 (y := y) (z := z) (by omega) (by omega)
        exact after_rng r3 (by rw [l3, hr2.2]; exact hr.k1 y) h

/-! ### Entries -/
abbrev En := Key × Int
def entry (S : TS) (i : Nat) : En := (S.key i, (S.nd i).v)
theorem entry_load {S S' : TS} {i : Nat} (h : (S'.nd i).load = (S.nd i).load) : entry S' i = entry S i := by
  unfold entry TS.key
  unfold Nd.load at h
  simp only [Prod.mk.injEq] at h
  rw [h.1, h.2.1, h.2.2]
/-- a key put among entries -/
def ins (E : List En) (q : Key) (v : Int) : List En := E.filter (fun e => lt e.1 q) ++ (q, v) :: E.filter (fun e => lt q e.1)
def del (E : List En) (q : Key) : List En := E.filter (fun e => decide (e.1 ≠ q))
def look (E : List En) (q : Key) : Option Int := (E.find? (fun e => decide (e.1 = q))).map (·.2)
def RisingE (E : List En) : Prop := E.Pairwise fun a b => lt a.1 b.1 = true
theorem ins_parts {A B : List En} {q : Key} {v : Int} (hA : ∀ e ∈ A, lt e.1 q = true) (hB : ∀ e ∈ B, lt q e.1 = true) : ins (A ++ B) q v = A ++ (q, v) :: B := by
  unfold ins
  rw [List.filter_append, List.filter_append, List.filter_eq_self.2 hA, List.filter_eq_nil_iff.2 (fun e he => lt_asymm (hB e he)), List.filter_eq_nil_iff.2 (fun e he => lt_asymm (hA e he)), List.filter_eq_self.2 hB]
  simp
theorem lt_ne {p q : Key} (h : lt p q = true) : p ≠ q := fun e => lt_irrefl q (by rw [e] at h; exact h)
theorem del_parts {A B : List En} {q : Key} {v : Int} (h : RisingE (A ++ (q, v) :: B)) : del (A ++ (q, v) :: B) q = A ++ B ∧ look (A ++ (q, v) :: B) q = some v := by
  unfold RisingE at h
  rw [List.pairwise_append] at h
  obtain ⟨h1, h2, h3⟩ := h
  rw [List.pairwise_cons] at h2
  have hA : ∀ e ∈ A, e.1 ≠ q := fun e he => lt_ne (h3 e he _ (.head _))
  have hB : ∀ e ∈ B, e.1 ≠ q := fun e he => (lt_ne (h2.1 e he)).symm
  constructor
  · unfold del
    rw [List.filter_append, List.filter_eq_self.2 (fun e he => by simpa using hA e he), List.filter_cons_of_neg (by simp), List.filter_eq_self.2 (fun e he => by simpa using hB e he)]
  · unfold look
    rw [List.find?_append, List.find?_eq_none.2 (fun e he => by simpa using hA e he)]
    simp
theorem look_none {E : List En} {q : Key} (h : ∀ e ∈ E, e.1 ≠ q) : look E q = none := by
  unfold look
  rw [List.find?_eq_none.2 (fun e he => by simpa using h e he)]; rfl
structure Inv (S : TS) (free : List Nat) (many room : Nat) (t : T) : Prop where
  is : Is S t S.root 0
  nd : t.ids.Nodup
  rb : ∃ n, RB t false n
  zero : S.nd 0 = Nd.zero
  rng : Rng S
  fnd : free.Nodup
  fr : ∀ i ∈ free, i ≠ 0 ∧ i < S.n.length ∧ i ∉ t.ids
  len : S.n.length = 1 + t.ids.length + free.length
  cnt : many = t.ids.length
  mr : many ≤ room
  r1 : 1 ≤ room
  r2 : room ≤ 65536
  lr : S.n.length ≤ room + 1
  rise : Rising S t.ids
theorem Inv.here {S : TS} {free : List Nat} {many room : Nat} {t : T} (h : Inv S free many room t) : Here S [] t S.root 0 :=
  ⟨⟨rfl, rfl⟩, h.is, by simpa [pids] using h.nd, h.rng.pos⟩
theorem Inv.riseE {S : TS} {free : List Nat} {many room : Nat} {t : T} (h : Inv S free many room t) : RisingE (t.ids.map (entry S)) := by
  have := h.rise
  unfold Rising at this
  unfold RisingE
  rw [List.pairwise_map]
  exact this
theorem Inv.found {S : TS} {free : List Nat} {many room : Nat} {t : T} (h : Inv S free many room t) (q : Key) : ∃ k r, TreeP.find k S q S.root 0 = some r ∧ TreeP.Found S t q r :=
  find_spec t h.here h.rise (fun j hj => by simp [TreeP.lids] at hj) (fun j hj => by simp [TreeP.rids] at hj)
theorem found_cases {S : TS} {t : T} {q : Key} {r : Nat × Nat} (h : TreeP.Found S t q r) :
    (∃ i, r = (i, i) ∧ i ≠ 0 ∧ i ∈ t.ids ∧ S.key i = q) ∨ (∃ p, r = (0, p) ∧ ∀ j ∈ t.ids, S.key j ≠ q) := by
  cases h with
  | @there C l r' i p c h1 h2 h3 =>
    refine .inl ⟨i, rfl, (Here.root (d := false) h1).2.1, ?_, h3⟩
    rw [← h2, ids_plug]
    exact .inl (by simp [T.ids])
  | @not C p h1 h2 h3 h4 =>
    refine .inr ⟨p, rfl, fun j hj => ?_⟩
    rw [← h2, plug_ids] at hj
    simp only [T.ids, List.nil_append, List.mem_append] at hj
    rcases hj with hj | hj
    · exact lt_ne (h3 j hj)
    · exact (lt_ne (h4 j hj)).symm
theorem look_found {S : TS} {free : List Nat} {many room : Nat} {t : T} (h : Inv S free many room t) {q : Key} {i : Nat} (hi : i ∈ t.ids) (hk : S.key i = q) : look (t.ids.map (entry S)) q = some (S.nd i).v := by
  obtain ⟨A, B, e⟩ := List.append_of_mem hi
  have := h.riseE
  rw [e, List.map_append, List.map_cons] at this ⊢
  have ee : entry S i = (q, (S.nd i).v) := by unfold entry; rw [hk]
  rw [ee] at this ⊢
  exact (del_parts this).2
theorem look_not {S : TS} {t : T} {q : Key} (h : ∀ j ∈ t.ids, S.key j ≠ q) : look (t.ids.map (entry S)) q = none :=
  look_none fun e he => by
    obtain ⟨j, hj, rfl⟩ := List.mem_map.1 he
    exact h j hj
end Go.Proofs.Ytekdahppacghbab.Tr
