/- DERIVED. Layer 6 (tree): 'Same' of the laws; the document's tree: Less, place. -/
import Derived.Test.YtlficiohenpghabTrT
import Derived.Test.YtlficiohenpghabAppR
import Derived.Test.YtlficiohenpghabBlk
import Derived.RegionTactic
set_option linter.unusedVariables false
set_option linter.unusedSimpArgs false
set_option maxRecDepth 100000
namespace Go.Proofs.Ytlficiohenpghab.Tr
open Go.RowKit Go.Proofs.Ytlficiohenpghab Go.Proofs.Ytlficiohenpghab.TreeP

theorem entsAt : ∀ (E : List En) (i c : Nat) (e : En), E[i]? = some e → c < 3 → (ents E)[i * 3 + c]? = (ec e)[c]?
  | [], i, c, e, h, hc => by simp at h
  | y :: l, 0, c, e, h, hc => by
    obtain rfl : y = e := by simpa using h
    rw [ents, List.getElem?_append_left (by simp [ec]; omega)]
    congr 1; omega
  | y :: l, i + 1, c, e, h, hc => by
    rw [ents, List.getElem?_append_right (by simp [ec]; omega), show (ec y).length = 3 from rfl, show (i + 1) * 3 + c - 3 = i * 3 + c from by omega]
    exact entsAt l i c e (by simpa using h) hc
/-- one entry of a row -/
theorem rowEnt {w : World} {g cap n i : Nat} {E : List En} (h : ownsR w 78 3 (.slice (some ⟨g, 0, none⟩) n cap) n (ents E)) {e : En} (he : E[i]? = some e) :
    w.cell? ⟨g, i * 3, none⟩ = some (.int .u64 e.1.1) ∧ w.cell? ⟨g, i * 3 + 1, none⟩ = some (.int .u64 e.1.2) ∧ w.cell? ⟨g, i * 3 + 2, none⟩ = some (.int .i64 e.2) := by
  have hh : ∀ c u, c < 3 → (ec e)[c]? = some u → w.cell? ⟨g, i * 3 + c, none⟩ = some u := fun c u h1 h2 => (h.cells rfl _ _ ((entsAt E i c e he h1).trans h2)).1
  exact ⟨hh 0 _ (by omega) rfl, hh 1 _ (by omega) rfl, hh 2 _ (by omega) rfl⟩
theorem take_eq_succ {E F : List En} {k : Nat} {e f : En} (h : E.take k = F.take k) (he : E[k]? = some e) (hf : F[k]? = some f) (hef : e = f) : E.take (k + 1) = F.take (k + 1) := by
  rw [List.take_add_one, List.take_add_one, he, hf, h, hef]
/-- where a key stands, or would -/
def plc (E : List En) (q : Key) : Nat := (E.takeWhile fun e => lt e.1 q).length
def is_at (E : List En) (q : Key) : Bool := decide ((E[plc E q]?.map (·.1)) = some q)
theorem plc_le (E : List En) (q : Key) : plc E q ≤ E.length := by
  unfold plc
  exact (List.takeWhile_sublist _).length_le
theorem plc_step : ∀ {E : List En} {q : Key} {k : Nat}, k ≤ plc E q → ∀ e, E[k]? = some e → (k < plc E q ↔ lt e.1 q = true)
  | [], q, k, h, e, he => by simp at he
  | x :: l, q, 0, h, e, he => by
    obtain rfl : x = e := by simpa using he
    unfold plc
    rw [List.takeWhile_cons]
    cases lt x.1 q <;> simp
  | x :: l, q, k + 1, h, e, he => by
    have h1 : lt x.1 q = true := by
      cases hx : lt x.1 q
      · unfold plc at h
        rw [List.takeWhile_cons, hx] at h
        simp at h
      · rfl
    have h2 : plc (x :: l) q = plc l q + 1 := by
      unfold plc
      rw [List.takeWhile_cons, h1]
      simp
    rw [h2] at h ⊢
    rw [Nat.add_lt_add_iff_right]
    exact plc_step (E := l) (q := q) (k := k) (by omega) e (by simpa using he)
theorem plc_cons_lt {x : En} {l : List En} {q : Key} (h : lt x.1 q = true) : plc (x :: l) q = plc l q + 1 := by
  unfold plc
  rw [List.takeWhile_cons, h]
  simp
theorem plc_cons_not {x : En} {l : List En} {q : Key} (h : lt x.1 q = false) : plc (x :: l) q = 0 := by
  unfold plc
  rw [List.takeWhile_cons, h]
  simp
theorem parts : ∀ {E : List En} (h : RisingE E) (q : Key),
    (∃ A v B, E = A ++ (q, v) :: B ∧ plc E q = A.length ∧ (∀ e ∈ A, lt e.1 q = true) ∧ (∀ e ∈ B, lt q e.1 = true)) ∨
    (∃ A B, E = A ++ B ∧ plc E q = A.length ∧ (∀ e ∈ A, lt e.1 q = true) ∧ (∀ e ∈ B, lt q e.1 = true))
  | [], _, q => .inr ⟨[], [], rfl, rfl, by simp, by simp⟩
  | x :: l, h, q => by
    unfold RisingE at h
    rw [List.pairwise_cons] at h
    by_cases hx : lt x.1 q = true
    · rcases parts (E := l) h.2 q with ⟨A, v, B, e1, e2, e3, e4⟩ | ⟨A, B, e1, e2, e3, e4⟩
      · exact .inl ⟨x :: A, v, B, by rw [e1]; rfl, by rw [plc_cons_lt hx, e2]; rfl, fun e he => by
          rcases List.mem_cons.1 he with rfl | he
          · exact hx
          · exact e3 e he, e4⟩
      · exact .inr ⟨x :: A, B, by rw [e1]; rfl, by rw [plc_cons_lt hx, e2]; rfl, fun e he => by
          rcases List.mem_cons.1 he with rfl | he
          · exact hx
          · exact e3 e he, e4⟩
    · have hx' : lt x.1 q = false := by simpa using hx
      rcases lt_tri x.1 q with h1 | h1 | h1
      · exact absurd h1 hx
      · refine .inl ⟨[], x.2, l, ?_, plc_cons_not hx', by simp, fun e he => by rw [← h1]; exact h.1 e he⟩
        rw [List.nil_append, ← h1]
      · refine .inr ⟨[], x :: l, rfl, plc_cons_not hx', by simp, fun e he => ?_⟩
        rcases List.mem_cons.1 he with rfl | he
        · exact h1
        · exact lt_trans h1 (h.1 e he)
/-- what the document's place tells of rising entries -/
structure PF (E : List En) (q : Key) : Prop where
  at_ : is_at E q = (look E q).isSome
  put : look E q = none → ∀ v, ins E q v = E.take (plc E q) ++ (q, v) :: E.drop (plc E q)
  has : ∀ u, look E q = some u → E[plc E q]? = some (q, u) ∧ del E q = E.take (plc E q) ++ E.drop (plc E q + 1) ∧ plc E q < E.length
theorem place_facts {E : List En} (h : RisingE E) (q : Key) : PF E q := by
  rcases parts h q with ⟨A, v, B, e1, e2, e3, e4⟩ | ⟨A, B, e1, e2, e3, e4⟩
  · subst e1
    obtain ⟨d1, d2⟩ := del_parts h
    have hat : (A ++ (q, v) :: B)[A.length]? = some (q, v) := by simp
    refine ⟨?_, fun hn => ?_, fun u hu => ?_⟩
    · unfold is_at
      rw [e2, hat, d2]
      simp
    · rw [d2] at hn
      cases hn
    · rw [d2] at hu
      injection hu with hu
      subst hu
      rw [e2]
      refine ⟨hat, ?_, by simp⟩
      rw [d1]
      simp
  · subst e1
    have hl : look (A ++ B) q = none := look_none (fun e he => by
      rcases List.mem_append.1 he with he | he
      · exact lt_ne (e3 e he)
      · exact fun e' => lt_ne (e4 e he) e'.symm)
    refine ⟨?_, fun _ v => ?_, fun u hu => ?_⟩
    · unfold is_at
      rw [e2, hl]
      cases B with
      | nil => simp
      | cons y B =>
        have : y.1 ≠ q := fun e' => lt_ne (e4 y (.head _)) e'.symm
        simp [this]
    · rw [ins_parts e3 e4, e2]
      simp
    · rw [hl] at hu
      cases hu
theorem ents_take : ∀ (E : List En) (i : Nat), ents (E.take i) = (ents E).take (i * 3)
  | [], i => by simp [ents]
  | e :: E, 0 => by simp [ents]
  | e :: E, i + 1 => by
    rw [List.take_succ_cons, ents, ents, ents_take E i, show (i + 1) * 3 = i * 3 + 3 from by omega]
    simp [ec]
theorem ents_drop : ∀ (E : List En) (i : Nat), ents (E.drop i) = (ents E).drop (i * 3)
  | [], i => by simp [ents]
  | e :: E, 0 => by simp [ents]
  | e :: E, i + 1 => by
    rw [List.drop_succ_cons, ents, ents_drop E i, show (i + 1) * 3 = i * 3 + 3 from by omega]
    simp [ec]
end Go.Proofs.Ytlficiohenpghab.Tr
