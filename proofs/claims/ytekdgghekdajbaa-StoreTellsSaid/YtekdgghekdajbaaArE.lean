/- DERIVED. Layer 4 (arena): an arena that keeps its law, and the contracts in the words of ownership. -/
import Derived.Test.YtekdgghekdajbaaArD
set_option linter.unusedVariables false
set_option linter.unusedSimpArgs false
set_option maxRecDepth 100000
namespace Go.Proofs.Ytekdgghekdajbaa.Ar
open Go.RowKit Go.Proofs.Ytekdgghekdajbaa

/-- what holds of an arena behind N calls -/
structure Ok (N : Nat) (X : A) : Prop where
  r1 : 1 ≤ X.room
  r2 : X.room ≤ 65536
  sum : X.used + X.bk.length = X.st.length
  len : X.st.length ≤ X.room
  nd : X.bk.Nodup
  mem : ∀ q, q ∈ X.bk ↔ q < X.st.length ∧ X.st.getD q 0 % 2 = 0
  bd : ∀ q, X.st.getD q 0 ≤ N
theorem Ok.fit {N : Nat} {X : A} (h : Ok N X) (hN : N < 4294967295) : Fit X := ⟨h.r1, h.r2, h.len, fun q => by have := h.bd q; omega⟩
theorem Ok.mono {N M : Nat} {X : A} (h : Ok N X) (hM : N ≤ M) : Ok M X := ⟨h.r1, h.r2, h.sum, h.len, h.nd, h.mem, fun q => Nat.le_trans (h.bd q) hM⟩
theorem ok_fresh (r : Nat) (h1 : 1 ≤ r) (h2 : r ≤ 65536) : Ok 0 (fresh r) := ⟨h1, h2, rfl, Nat.zero_le _, List.nodup_nil, fun q => by simp [fresh], fun q => by simp [fresh]⟩
theorem getD_set (l : List Nat) (q v j : Nat) (hq : q < l.length) : (l.set q v).getD j 0 = if j = q then v else l.getD j 0 := by
  by_cases h : j = q
  · subst h; simp [List.getD, hq]
  · rw [if_neg h]; simp [List.getD, List.getElem?_set_ne (Ne.symm h)]
theorem getD_snoc (l : List Nat) (v j : Nat) : (l ++ [v]).getD j 0 = if j = l.length then v else l.getD j 0 := by
  by_cases h : j = l.length
  · subst h; simp [List.getD]
  · rw [if_neg h]
    by_cases hj : j < l.length
    · simp [List.getD, List.getElem?_append_left hj]
    · have e1 : (l ++ [v])[j]? = none := List.getElem?_eq_none (by simp; omega)
      have e2 : l[j]? = none := List.getElem?_eq_none (by omega)
      simp only [List.getD, e1, e2]
/-- of 'take': what it makes of each place -/
structure Taken (X : A) : Prop where
  len : (tk X).st.length ≤ X.st.length + 1
  old : X.st.length ≤ (tk X).st.length
  q : tq X < (tk X).st.length
  was : X.st.getD (tq X) 0 % 2 = 0
  now : (tk X).st.getD (tq X) 0 = X.st.getD (tq X) 0 + 1
  other : ∀ j, j ≠ tq X → (tk X).st.getD j 0 = X.st.getD j 0
theorem nodup_last {l : List Nat} (h : l.Nodup) (hne : l ≠ []) : l.getLastD 0 ∉ l.dropLast ∧ l.dropLast.Nodup ∧ ∀ q, q ∈ l.dropLast ↔ q ∈ l ∧ q ≠ l.getLastD 0 := by
  have e : l = l.dropLast ++ [l.getLastD 0] := by
    rw [List.getLastD_eq_getLast?, List.getLast?_eq_some_getLast hne]
    exact (List.dropLast_concat_getLast hne).symm
  have h' := h
  rw [e, List.nodup_append] at h'
  obtain ⟨h1, _, h3⟩ := h'
  have hn : l.getLastD 0 ∉ l.dropLast := fun hm => h3 _ hm _ (by simp) rfl
  refine ⟨hn, h1, fun q => ⟨fun hq => ⟨List.dropLast_subset l hq, fun e => hn (e ▸ hq)⟩, fun ⟨hq, hne2⟩ => ?_⟩⟩
  rw [e, List.mem_append] at hq
  rcases hq with hq | hq
  · exact hq
  · exact (hne2 (List.mem_singleton.1 hq)).elim
theorem take_spec {N : Nat} {X : A} (h : Ok N X) (hu : X.used < X.room) : Taken X ∧ Ok (N + 1) (tk X) := by
  by_cases hbk : X.bk = []
  · have e0 : st0 X = X.st ++ [0] := by unfold st0; rw [if_pos hbk]
    have eq : tq X = X.st.length := by unfold tq; rw [if_pos hbk]
    have t1 : (tk X).st = X.st ++ [1] := by unfold tk; rw [e0, eq]; simp [List.getD]
    have t2 : (tk X).bk = [] := by unfold tk; rw [hbk]; rfl
    have hs := h.sum
    rw [hbk] at hs
    simp at hs
    have hlt : X.st.length < X.room := by omega
    have hz : X.st.getD X.st.length 0 = 0 := by simp [List.getD]
    have hg : ∀ j, (tk X).st.getD j 0 = if j = X.st.length then 1 else X.st.getD j 0 := fun j => by rw [t1, getD_snoc]
    have hl : (tk X).st.length = X.st.length + 1 := by rw [t1, List.length_append]; rfl
    refine ⟨⟨by omega, by omega, by omega, by rw [eq, hz], by rw [eq, hg, if_pos rfl, hz], fun j hj => by rw [hg, if_neg (eq ▸ hj)]⟩, ⟨h.r1, h.r2, ?_, ?_, ?_, fun q => ?_, fun q => ?_⟩⟩
    · rw [t2, hl]; show X.used + 1 + 0 = _; omega
    · rw [hl]; exact hlt
    · rw [t2]; exact List.nodup_nil
    · rw [t2, hl, hg]
      have hm := h.mem q
      rw [hbk] at hm
      simp only [List.not_mem_nil, false_iff] at hm ⊢
      rintro ⟨h1, h2⟩
      split at h2
      · omega
      · exact hm ⟨by omega, h2⟩
    · rw [hg]
      have := h.bd q
      split <;> omega
  · have e0 : st0 X = X.st := by unfold st0; rw [if_neg hbk]
    have eq : tq X = X.bk.getLastD 0 := by unfold tq; rw [if_neg hbk]
    obtain ⟨n1, n2, n3⟩ := nodup_last h.nd hbk
    have hmem : X.bk.getLastD 0 ∈ X.bk := by
      rw [List.getLastD_eq_getLast?, List.getLast?_eq_some_getLast hbk]; exact List.getLast_mem hbk
    obtain ⟨q1, q2⟩ := (h.mem _).1 hmem
    have t1 : (tk X).st = X.st.set (tq X) (X.st.getD (tq X) 0 + 1) := by unfold tk; rw [e0]
    have hg : ∀ j, (tk X).st.getD j 0 = if j = tq X then X.st.getD (tq X) 0 + 1 else X.st.getD j 0 := fun j => by rw [t1, getD_set _ _ _ _ (eq ▸ q1)]
    have hl : (tk X).st.length = X.st.length := by rw [t1, List.length_set]
    have hpos : 0 < X.bk.length := List.length_pos_iff.2 hbk
    have hs := h.sum
    refine ⟨⟨by omega, by omega, by rw [hl, eq]; exact q1, by rw [eq]; exact q2, by rw [hg, if_pos rfl], fun j hj => by rw [hg, if_neg hj]⟩, ⟨h.r1, h.r2, ?_, ?_, n2, fun q => ?_, fun q => ?_⟩⟩
    · rw [hl]; show X.used + 1 + X.bk.dropLast.length = _; rw [List.length_dropLast]; omega
    · rw [hl]; exact h.len
    · show q ∈ X.bk.dropLast ↔ _
      rw [n3, h.mem, hl, hg, eq]
      constructor
      · rintro ⟨⟨a1, a2⟩, a3⟩
        exact ⟨a1, by rw [if_neg a3]; exact a2⟩
      · rintro ⟨a1, a2⟩
        split at a2
        · omega
        · exact ⟨⟨a1, a2⟩, by assumption⟩
    · rw [hg]
      have := h.bd q
      have := h.bd (tq X)
      split <;> omega
theorem give_spec {N : Nat} {X : A} (h : Ok N X) (q : Nat) (hq : q < X.st.length) (ho : X.st.getD q 0 % 2 = 1) :
    Ok (N + 1) (gv X q) ∧ 1 ≤ X.used ∧ (∀ j, (gv X q).st.getD j 0 = if j = q then X.st.getD q 0 + 1 else X.st.getD j 0) ∧ (gv X q).st.length = X.st.length := by
  have hg : ∀ j, (gv X q).st.getD j 0 = if j = q then X.st.getD q 0 + 1 else X.st.getD j 0 := fun j => by unfold gv; rw [getD_set _ _ _ _ hq]
  have hl : (gv X q).st.length = X.st.length := by unfold gv; rw [List.length_set]
  have hnq : q ∉ X.bk := fun hm => by have := ((h.mem q).1 hm).2; omega
  have hs := h.sum
  have hle : X.bk.length + 1 ≤ X.st.length := by
    have : (q :: X.bk).length ≤ (List.range X.st.length).length := by
      refine List.Nodup.length_le_of_subset (List.nodup_cons.2 ⟨hnq, h.nd⟩) ?_
      intro j hj
      rw [List.mem_range]
      rcases List.mem_cons.1 hj with rfl | hj
      · exact hq
      · exact ((h.mem j).1 hj).1
    simpa using this
  refine ⟨⟨h.r1, h.r2, ?_, by rw [hl]; exact h.len, ?_, fun j => ?_, fun j => ?_⟩, by omega, hg, hl⟩
  · rw [hl]; show X.used - 1 + (X.bk ++ [q]).length = _; rw [List.length_append]; simp; omega
  · show (X.bk ++ [q]).Nodup
    rw [List.nodup_append]
    exact ⟨h.nd, by simp, fun a ha b hb e => by simp at hb; subst hb; exact hnq (e ▸ ha)⟩
  · show j ∈ X.bk ++ [q] ↔ _
    rw [List.mem_append, h.mem, hl, hg, List.mem_singleton]
    constructor
    · rintro (⟨a1, a2⟩ | rfl)
      · refine ⟨a1, ?_⟩
        split
        · omega
        · exact a2
      · exact ⟨hq, by rw [if_pos rfl]; omega⟩
    · rintro ⟨a1, a2⟩
      by_cases e : j = q
      · exact .inr e
      · rw [if_neg e] at a2; exact .inl ⟨a1, a2⟩
  · rw [hg]
    have := h.bd j
    have := h.bd q
    split <;> omega
/-! ### Contracts -/
def tkE (X : A) : Int := if X.used = X.room then 4 else 0
def tkH (X : A) : Nat := if X.used = X.room then 0 else hdl (tk X) (tq X)
def tkA (X : A) : A := if X.used = X.room then X else tk X
def gvE (X : A) (H : Nat) : Int := if pb X H = true then 0 else 40
def gvA (X : A) (H : Nat) : A := if pb X H = true then gv X (pv X H).toNat else X
theorem Ok.used_le {N : Nat} {X : A} (h : Ok N X) : X.used ≤ X.room := by have := h.sum; have := h.len; omega
theorem tkA_ok {N : Nat} {X : A} (h : Ok N X) : Ok (N + 1) (tkA X) := by
  unfold tkA
  split
  · exact h.mono (by omega)
  · exact (take_spec h (by have := h.used_le; omega)).2
theorem pb_spec {X : A} {H : Nat} (hb : pb X H = true) : ∃ q, pv X H = (q : Nat) ∧ q < X.st.length ∧ X.st.getD q 0 % 2 = 1 ∧ H = hdl X q := by
  have h1 := hb
  unfold pb at h1
  rw [Bool.and_eq_true, beq_iff_eq] at h1
  obtain ⟨h1, h2⟩ := h1
  have h3 := h1
  unfold Ar.hb at h1
  simp only [Bool.and_eq_true, decide_eq_true_eq] at h1
  obtain ⟨a1, a2, a3⟩ := h1
  refine ⟨((H : Int) % 4294967296 - 1).toNat, ?_, a2, a3, ?_⟩
  · unfold pv; rw [if_pos hb]; omega
  · unfold hv at h2; rw [if_pos h3] at h2; omega
theorem gvA_ok {N : Nat} {X : A} (h : Ok N X) (H : Nat) : Ok (N + 1) (gvA X H) := by
  unfold gvA
  split
  · rename_i hb
    obtain ⟨q, h1, h2, h3, _⟩ := pb_spec hb
    rw [h1]
    exact (give_spec h q h2 h3).1
  · exact h.mono (by omega)
theorem own_new (r : Nat) (h1 : 1 ≤ r) (h2 : r ≤ 65536) {l : List HP} {w : World} (h : Own l w) :
    Calls Try.prog 20 #[.int .i64 r] w fun e w' => ∃ p, e = .returned (.tuple #[.pointer (some ⟨p, 0, none⟩), .int .i64 0]) ∧ Own (Arena p (fresh r) :: l) w' ∧ Ext w w' := by
  refine (new_any r h1 h2 w).mono ?_
  rintro e w' ⟨rfl, hl, hx⟩
  refine ⟨_, rfl, h.new hx (s := foot w.heap.size (.slice none 0 0) (.slice none 0 0)) ⟨_, _, hl, fun _ => Iff.rfl⟩ (fun b hb => ?_), hx⟩
  rcases hb with rfl | hb | hb
  · exact Nat.le_refl _
  · simp [Value.ownBlock] at hb
  · simp [Value.ownBlock] at hb
theorem own_turned {p : Nat} {X X' : A} {l : List HP} {w w' : World} (h : Own (Arena p X :: l) w) (f : ∀ {sv bv}, lies w p X sv bv → Turned p sv bv w X' w') : Own (Arena p X' :: l) w' := by
  obtain ⟨s, ⟨sv, bv, hl, hs⟩, hb, K⟩ := h.open
  obtain ⟨sv', bv', hl', hst, hn⟩ := f hl
  exact K (hst.mono (fun b hb => (hs b).2 hb)) (s' := foot p sv' bv') ⟨sv', bv', hl', fun _ => Iff.rfl⟩ (fun b hb => (hn b hb).imp (fun h => (hs b).2 h) id)
theorem own_lies {p : Nat} {X : A} {l : List HP} {w : World} (h : Own (Arena p X :: l) w) : ∃ sv bv, lies w p X sv bv := by
  obtain ⟨s, ⟨sv, bv, hl, hs⟩, hb, K⟩ := h.open
  exact ⟨sv, bv, hl⟩
theorem own_drewN {l : List HP} {w : World} (h : Own l w) (n : Nat) : Own l (w.drewN n) := h.step ((Ext.refl w).drewN n)
theorem own_take {N p : Nat} {X : A} {l : List HP} {w : World} (h : Own (Arena p X :: l) w) (ho : Ok N X) (hN : N < 4294967294) :
    Calls Try.prog 19 #[.pointer (some ⟨p, 0, none⟩)] w fun e w' => e = .returned (.tuple #[.int .u64 ((tkH X : Nat) : Int), .int .i64 (tkE X)]) ∧ Own (Arena p (tkA X) :: l) w' := by
  obtain ⟨s, ⟨sv, bv, hl, hs⟩, hb, K⟩ := h.open
  have hf := ho.fit (by omega)
  unfold tkH tkE tkA
  by_cases hu : X.used = X.room
  · rw [if_pos hu, if_pos hu, if_pos hu]
    refine (take_full p X sv bv w hl ho.r1 hu).mono ?_
    rintro e w' ⟨rfl, q, rfl⟩
    exact ⟨rfl, own_drewN h q⟩
  · rw [if_neg hu, if_neg hu, if_neg hu]
    have hlt : X.used < X.room := by have := ho.used_le; omega
    have fin : ∀ {e : Ending} {w' : World}, e = .returned (.tuple #[.int .u64 ((hdl (tk X) (tq X) : Nat) : Int), .int .i64 0]) ∧ Turned p sv bv w (tk X) w' →
        e = .returned (.tuple #[.int .u64 ((hdl (tk X) (tq X) : Nat) : Int), .int .i64 0]) ∧ Own (Arena p (tk X) :: l) w' := by
      rintro e w' ⟨rfl, sv', bv', hl', hst, hn⟩
      exact ⟨rfl, K (hst.mono (fun b hb => (hs b).2 hb)) (s' := foot p sv' bv') ⟨sv', bv', hl', fun _ => Iff.rfl⟩ (fun b hb => (hn b hb).imp (fun h => (hs b).2 h) id)⟩
    by_cases hbk : X.bk = []
    · have := ho.sum
      rw [hbk] at this
      exact (take_new p X sv bv w hl hf hlt hbk (by simp at this; omega)).mono (fun {e w'} => fin)
    · obtain ⟨m, hm⟩ : ∃ m, X.bk.length = m + 1 := ⟨X.bk.length - 1, by have := List.length_pos_iff.2 hbk; omega⟩
      have hmem : X.bk.getD m 0 ∈ X.bk := by
        have hlt : m < X.bk.length := by omega
        simp [List.getD, hlt]
      obtain ⟨q1, q2⟩ := (ho.mem _).1 hmem
      exact (take_back p X sv bv w hl hf hlt m _ hm rfl q1 q2).mono (fun {e w'} => fin)
theorem own_give {N p : Nat} {X : A} {l : List HP} {w : World} (h : Own (Arena p X :: l) w) (ho : Ok N X) (hN : N < 4294967294) (H : Nat) (hH : H < 18446744073709551616) :
    Calls Try.prog 15 #[.pointer (some ⟨p, 0, none⟩), .int .u64 H] w fun e w' => e = .returned (.int .i64 (gvE X H)) ∧ Own (Arena p (gvA X H) :: l) w' := by
  obtain ⟨s, ⟨sv, bv, hl, hs⟩, hb, K⟩ := h.open
  have hf := ho.fit (by omega)
  unfold gvE gvA
  by_cases hpb : pb X H = true
  · rw [if_pos hpb, if_pos hpb]
    obtain ⟨q, h1, h2, h3, _⟩ := pb_spec hpb
    obtain ⟨_, h4, _, _⟩ := give_spec ho q h2 h3
    have := ho.sum
    have := ho.len
    have := ho.r2
    rw [h1]
    refine (give_yes p X sv bv H q hH w hl hf hpb h1 h2 h4 (by omega) (by omega) (hf.bd q)).mono ?_
    rintro e w' ⟨rfl, sv', bv', hl', hst, hn⟩
    exact ⟨rfl, K (hst.mono (fun b hb => (hs b).2 hb)) (s' := foot p sv' bv') ⟨sv', bv', hl', fun _ => Iff.rfl⟩ (fun b hb => (hn b hb).imp (fun h => (hs b).2 h) id)⟩
  · rw [if_neg hpb, if_neg hpb]
    refine (give_not p X sv bv H hH w hl hf (by simpa using hpb)).mono ?_
    rintro e w' ⟨rfl, rfl⟩
    exact ⟨rfl, h⟩
theorem own_place {N p : Nat} {X : A} {l : List HP} {w : World} (h : Own (Arena p X :: l) w) (ho : Ok N X) (hN : N < 4294967294) (H : Nat) (hH : H < 18446744073709551616) :
    Calls Try.prog 14 #[.pointer (some ⟨p, 0, none⟩), .int .u64 H] w fun e w' => e = .returned (.tuple #[.int .i64 (pv X H), .bool (pb X H)]) ∧ w = w' := by
  obtain ⟨sv, bv, hl⟩ := own_lies h
  exact place_any p X sv bv H hH w hl (ho.fit (by omega))
theorem own_handle {N p : Nat} {X : A} {l : List HP} {w : World} (h : Own (Arena p X :: l) w) (ho : Ok N X) (hN : N < 4294967294) (q : Int) :
    Calls Try.prog 16 #[.pointer (some ⟨p, 0, none⟩), .int .i64 q] w fun e w' => e = .returned (.tuple #[.int .u64 (hv X q), .bool (hb X q)]) ∧ w = w' := by
  obtain ⟨sv, bv, hl⟩ := own_lies h
  exact handle_any p X sv bv q w hl (ho.fit (by omega))
theorem own_used {N p : Nat} {X : A} {l : List HP} {w : World} (h : Own (Arena p X :: l) w) (ho : Ok N X) :
    Calls Try.prog 17 #[.pointer (some ⟨p, 0, none⟩)] w fun e w' => e = .returned (.int .i64 X.used) ∧ w = w' := by
  obtain ⟨sv, bv, hl⟩ := own_lies h
  exact used_any p X sv bv w hl ho.r1
theorem own_room {N p : Nat} {X : A} {l : List HP} {w : World} (h : Own (Arena p X :: l) w) (ho : Ok N X) :
    Calls Try.prog 28 #[.pointer (some ⟨p, 0, none⟩)] w fun e w' => e = .returned (.int .i64 X.room) ∧ w = w' := by
  obtain ⟨sv, bv, hl⟩ := own_lies h
  exact room_any p X sv bv w hl ho.r1
end Go.Proofs.Ytekdgghekdajbaa.Ar
