/- DERIVED. Layer 4 (arena): what holds of the handles that were taken, plainly; no program in sight. -/
import Derived.Test.YtekdgghekdajbaaArE
set_option linter.unusedVariables false
set_option linter.unusedSimpArgs false
namespace Go.Proofs.Ytekdgghekdajbaa.Ar
open Go.RowKit Go.Proofs.Ytekdgghekdajbaa

theorem pb_at (X : A) (k q : Nat) (hq : q < X.st.length) (hl : X.st.length ≤ 65536) : pb X ((k * 4294967296 + q + 1 : Nat) : Int) = decide (X.st.getD q 0 = 2 * k + 1) := by
  have e : ((k * 4294967296 + q + 1 : Nat) : Int) % 4294967296 - 1 = (q : Int) := by omega
  unfold pb
  rw [e]
  have eh : hb X (q : Int) = decide (X.st.getD q 0 % 2 = 1) := by unfold hb; simp [hq]
  have ev : hv X (q : Int) = if X.st.getD q 0 % 2 = 1 then ((X.st.getD q 0 / 2 * 4294967296 + q + 1 : Nat) : Int) else 0 := by
    unfold hv hdl
    rw [eh, Int.toNat_natCast]
    by_cases h : X.st.getD q 0 % 2 = 1
    · rw [if_pos h, if_pos h, if_pos (decide_eq_true h)]
    · rw [if_neg h, if_neg h, if_neg (by rw [decide_eq_true_eq]; exact h)]
  rw [eh, ev]
  obtain ⟨n, hn⟩ : ∃ n, n = X.st.getD q 0 := ⟨_, rfl⟩
  rw [← hn]
  clear hn ev eh e
  by_cases h : n % 2 = 1
  · rw [if_pos h]
    by_cases h2 : n = 2 * k + 1
    · have : n / 2 = k := by omega
      rw [this, decide_eq_true h, decide_eq_true h2]
      simp
    · have h3 : ¬ ((n / 2 * 4294967296 + q + 1 : Nat) : Int) = ((k * 4294967296 + q + 1 : Nat) : Int) := by omega
      rw [decide_eq_true h, decide_eq_false h2, Bool.true_and, beq_eq_false_iff_ne]
      exact h3
  · have : ¬ n = 2 * k + 1 := by omega
    rw [decide_eq_false h, decide_eq_false this, Bool.false_and]
theorem count_set : ∀ (G : List Bool) (i : Nat), i < G.length → G.getD i true = false → (G.set i true).count false + 1 = G.count false
  | [], i, h, _ => by simp at h
  | g :: G, 0, h, e => by
    simp at e
    subst e
    simp
  | g :: G, i + 1, h, e => by
    have := count_set G i (by simpa using h) (by simpa using e)
    simp only [List.set_cons_succ, List.count_cons]
    omega
/-- T: all handles that were taken; G: which of them were given back -/
structure Inv (X : A) (T : List Nat) (G : List Bool) : Prop where
  len : T.length = G.length
  nd : T.Nodup
  each : ∀ (i h : Nat), T[i]? = some h → pb X (h : Int) = !(G.getD i true)
  code : ∀ (h : Nat), h ∈ T → ∃ k q, h = k * 4294967296 + q + 1 ∧ q < X.st.length ∧ 2 * k + 1 ≤ X.st.getD q 0
  cnt : X.used = G.count false
  all : ∀ q, q < X.st.length → X.st.getD q 0 % 2 = 1 → hdl X q ∈ T
  rm : X.room = 10
theorem inv_fresh (r : Nat) (hr : r = 10 := by rfl) : Inv (fresh r) [] [] := ⟨rfl, List.nodup_nil, by simp, by simp, rfl, fun q h => by simp [fresh] at h, hr⟩
theorem hdl_at {X : A} {q : Nat} (h : X.st.getD q 0 % 2 = 1) : hdl X q = X.st.getD q 0 / 2 * 4294967296 + q + 1 := by unfold hdl; rw [if_pos h]
theorem code_inj {k q k' q' : Nat} (h : k * 4294967296 + q + 1 = k' * 4294967296 + q' + 1) (hq : q < 65536) (hq' : q' < 65536) : k = k' ∧ q = q' := by omega
theorem inv_take {N : Nat} {X : A} {T : List Nat} {G : List Bool} (ho : Ok N X) (hi : Inv X T G) (hu : X.used < X.room) : Inv (tk X) (T ++ [hdl (tk X) (tq X)]) (G ++ [false]) := by
  obtain ⟨t, ho'⟩ := take_spec ho hu
  have hl : (tk X).st.length ≤ 65536 := Nat.le_trans ho'.len ho'.r2
  have hl0 : X.st.length ≤ 65536 := Nat.le_trans ho.len ho.r2
  have hodd : (tk X).st.getD (tq X) 0 % 2 = 1 := by rw [t.now]; have := t.was; omega
  have hq := t.q
  have eH := hdl_at hodd
  rw [t.now] at eH
  have was := t.was
  refine ⟨by simp [hi.len], ?_, fun i h hh => ?_, fun h hh => ?_, ?_, fun q hq ho => ?_, hi.rm⟩
  · rw [List.nodup_append]
    refine ⟨hi.nd, by simp, fun a ha b hb e => ?_⟩
    simp at hb
    subst hb
    obtain ⟨k, q, e1, e2, e3⟩ := hi.code a ha
    rw [e, eH] at e1
    obtain ⟨e4, e5⟩ := code_inj e1 (by omega) (by omega)
    subst e5
    omega
  · by_cases hlt : i < T.length
    · rw [List.getElem?_append_left hlt] at hh
      have h1 := hi.each i h hh
      have hg : (G ++ [false]).getD i true = G.getD i true := by simp [List.getD, List.getElem?_append_left (hi.len ▸ hlt)]
      rw [hg, ← h1]
      obtain ⟨k, q, rfl, e2, e3⟩ := hi.code h (List.mem_of_getElem? hh)
      rw [pb_at _ _ _ (Nat.lt_of_lt_of_le e2 t.old) hl, pb_at _ _ _ e2 hl0]
      by_cases e : q = tq X
      · subst e
        rw [t.now]
        have a1 : ¬ X.st.getD (tq X) 0 + 1 = 2 * k + 1 := by omega
        have a2 : ¬ X.st.getD (tq X) 0 = 2 * k + 1 := by omega
        simp only [a1, a2]
      · rw [t.other q e]
    · have : i < (T ++ [hdl (tk X) (tq X)]).length := (List.getElem?_eq_some_iff.1 hh).1
      simp at this
      obtain rfl : i = T.length := by omega
      simp at hh
      subst hh
      have hg : (G ++ [false]).getD T.length true = false := by rw [hi.len]; simp [List.getD]
      rw [hg, eH, pb_at _ _ _ hq hl, t.now, decide_eq_true (by omega)]
      rfl
  · rw [List.mem_append] at hh
    rcases hh with hh | hh
    · obtain ⟨k, q, e1, e2, e3⟩ := hi.code h hh
      refine ⟨k, q, e1, Nat.lt_of_lt_of_le e2 t.old, ?_⟩
      by_cases e : q = tq X
      · subst e; rw [t.now]; omega
      · rw [t.other q e]; exact e3
    · simp at hh
      subst hh
      exact ⟨_, _, eH, hq, by rw [t.now]; omega⟩
  · show X.used + 1 = _
    rw [List.count_append, hi.cnt]
    rfl
  · by_cases e : q = tq X
    · subst e
      simp
    · rw [t.other q e] at ho
      have hlt : q < X.st.length := by
        apply Decidable.byContradiction
        intro hn
        have : X.st.getD q 0 = 0 := by simp [List.getD, List.getElem?_eq_none (by omega : X.st.length ≤ q)]
        omega
      have := hi.all q hlt ho
      rw [List.mem_append]
      refine .inl ?_
      have e2 : hdl (tk X) q = hdl X q := by rw [hdl_at ho, hdl_at (by rw [t.other q e]; exact ho), t.other q e]
      rw [e2]
      exact this
/-- what the laws do to G when h was given back -/
def mark (T : List Nat) (h : Nat) (G : List Bool) : List Bool := (T.zip G).map fun x => x.2 || x.1 == h
theorem mark_len {T : List Nat} {G : List Bool} (h : Nat) (hl : T.length = G.length) : (mark T h G).length = G.length := by simp [mark, hl]
theorem mark_at {T : List Nat} {G : List Bool} (h : Nat) (hl : T.length = G.length) {i x : Nat} (hx : T[i]? = some x) : (mark T h G).getD i true = (G.getD i true || x == h) := by
  have hi : i < T.length := (List.getElem?_eq_some_iff.1 hx).1
  have hg : i < G.length := by omega
  have e : (T.zip G)[i]? = some (x, G[i]) := by
    rw [List.getElem?_zip_eq_some]
    exact ⟨hx, by simp [hg]⟩
  simp [mark, List.getD, e, hg]
theorem mark_set {T : List Nat} {G : List Bool} (h : Nat) (hl : T.length = G.length) (nd : T.Nodup) {i : Nat} (hi : T[i]? = some h) : mark T h G = G.set i true := by
  apply List.ext_getElem?
  intro j
  by_cases hj : j < T.length
  · have hx : T[j]? = some T[j] := by simp [hj]
    have h1 := mark_at h hl hx
    have hm : j < (mark T h G).length := by rw [mark_len h hl]; omega
    have hs : j < (G.set i true).length := by rw [List.length_set]; omega
    rw [List.getD_eq_getElem?_getD, List.getElem?_eq_getElem hm, List.getD_eq_getElem?_getD, List.getElem?_eq_getElem (by omega : j < G.length)] at h1
    simp only [Option.getD_some] at h1
    rw [List.getElem?_eq_getElem hm, List.getElem?_eq_getElem hs, h1]
    by_cases e : j = i
    · subst e
      rw [hx] at hi
      injection hi with hi
      simp [hi]
    · have : T[j] ≠ h := by
        intro he
        have hi' := (List.getElem?_eq_some_iff.1 hi)
        obtain ⟨hi1, hi2⟩ := hi'
        exact e ((List.getElem_inj nd).1 (he.trans hi2.symm))
      simp [List.getElem_set_ne (Ne.symm e), this]
  · rw [List.getElem?_eq_none (by rw [mark_len h hl]; omega), List.getElem?_eq_none (by rw [List.length_set]; omega)]
theorem inv_give {N : Nat} {X : A} {T : List Nat} {G : List Bool} (ho : Ok N X) (hi : Inv X T G) {h : Nat} (hp : pb X h = true) : Inv (gvA X h) T (mark T h G) ∧ h ∈ T := by
  obtain ⟨q, h1, h2, h3, h4⟩ := pb_spec hp
  have eA : gvA X h = gv X q := by unfold gvA; rw [if_pos hp, h1]; rfl
  obtain ⟨ho', hu, hg, hlen⟩ := give_spec ho q h2 h3
  have hmem : h ∈ T := by rw [h4]; exact hi.all q h2 h3
  obtain ⟨i0, hi0⟩ := List.mem_iff_getElem?.1 hmem
  have hl0 : X.st.length ≤ 65536 := Nat.le_trans ho.len ho.r2
  have e4 := h4
  rw [hdl_at h3] at e4
  rw [eA]
  refine ⟨⟨by rw [mark_len h hi.len]; exact hi.len, hi.nd, fun i x hx => ?_, fun x hx => ?_, ?_, fun j hj hjo => ?_, hi.rm⟩, hmem⟩
  · rw [mark_at h hi.len hx]
    have hb := hi.each i x hx
    obtain ⟨k, q', e1, e2, e3⟩ := hi.code x (List.mem_of_getElem? hx)
    rw [e1] at hb ⊢
    rw [pb_at _ _ _ e2 hl0] at hb
    rw [pb_at _ _ _ (by rw [hlen]; exact e2) (by rw [hlen]; exact hl0), hg]
    by_cases e : q' = q
    · subst e
      rw [if_pos rfl]
      have a1 : ¬ X.st.getD q' 0 + 1 = 2 * k + 1 := by omega
      by_cases ek : X.st.getD q' 0 = 2 * k + 1
      · have a2 : k * 4294967296 + q' + 1 = h := by rw [e4, ek]; omega
        rw [decide_eq_false a1, a2]
        simp
      · simp only [ek, decide_false] at hb
        have : G.getD i true = true := by
          cases hgi : G.getD i true
          · rw [hgi] at hb; simp at hb
          · rfl
        simp only [a1, decide_false, this, Bool.true_or, Bool.not_true]
    · rw [if_neg e]
      have a2 : ¬ k * 4294967296 + q' + 1 = h := by
        rw [e4]
        intro ee
        exact e (code_inj ee (by omega) (by omega)).2
      have a3 : (k * 4294967296 + q' + 1 == h) = false := by simp [a2]
      rw [a3, Bool.or_false]
      exact hb
  · obtain ⟨k, q', e1, e2, e3⟩ := hi.code x hx
    refine ⟨k, q', e1, by rw [hlen]; exact e2, ?_⟩
    rw [hg]
    split
    · rename_i e; subst e; omega
    · exact e3
  · have hb := hi.each i0 h hi0
    rw [hp] at hb
    have hgf : G.getD i0 true = false := by
      cases hgi : G.getD i0 true
      · rfl
      · rw [hgi] at hb
        exact absurd hb (by decide)
    rw [mark_set h hi.len hi.nd hi0]
    have := count_set G i0 (by have := (List.getElem?_eq_some_iff.1 hi0).1; have := hi.len; omega) hgf
    have hc := hi.cnt
    show X.used - 1 = _
    omega
  · rw [hlen] at hj
    rw [hg] at hjo
    by_cases e : j = q
    · subst e
      rw [if_pos rfl] at hjo
      omega
    · rw [if_neg e] at hjo
      have e2 : hdl (gv X q) j = hdl X j := by
        have : (gv X q).st.getD j 0 = X.st.getD j 0 := by rw [hg, if_neg e]
        rw [hdl_at hjo, hdl_at (by rw [this]; exact hjo), this]
      rw [e2]
      exact hi.all j hj hjo
end Go.Proofs.Ytekdgghekdajbaa.Ar
