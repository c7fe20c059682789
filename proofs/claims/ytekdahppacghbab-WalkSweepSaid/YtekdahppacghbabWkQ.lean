/- DERIVED. Layer 7 (walk), plainly: what sweeps tell, by places. -/
import Derived.Test.YtekdahppacghbabWkP
import Derived.Test.YtekdahppacghbabTBa
set_option linter.unusedVariables false
set_option linter.unusedSimpArgs false
set_option maxRecDepth 100000
namespace Go.Proofs.Ytekdahppacghbab.Wk
open Go.RowKit Go.Proofs.Ytekdahppacghbab Go.Proofs.Ytekdahppacghbab.TreeP Go.Proofs.Ytekdahppacghbab.Tr

theorem low_at {E : List En} (h : RisingE E) {i : Nat} {e : En} (he : E[i]? = some e) : (lowL E e.1).length = i + 1 := by
  obtain ⟨hi, hie⟩ := List.getElem?_eq_some_iff.1 he
  have hp := List.pairwise_iff_getElem.1 h
  have e1 : lowL E e.1 = E.take (i + 1) := by
    unfold lowL
    have : E = E.take (i + 1) ++ E.drop (i + 1) := (List.take_append_drop _ _).symm
    conv => lhs; rw [this]
    rw [List.filter_append, List.filter_eq_self.2 (fun x hx => ?_), List.filter_eq_nil_iff.2 (fun x hx => ?_), List.append_nil]
    · obtain ⟨j, hj⟩ := List.getElem?_of_mem hx
      rw [List.getElem?_drop] at hj
      obtain ⟨hj1, hj2⟩ := List.getElem?_eq_some_iff.1 hj
      have := hp i (i + 1 + j) hi hj1 (by omega)
      rw [hie, hj2] at this
      simp [this]
    · obtain ⟨j, hj⟩ := List.getElem?_of_mem hx
      rw [List.getElem?_take] at hj
      split at hj
      · obtain ⟨hj1, hj2⟩ := List.getElem?_eq_some_iff.1 hj
        rcases Nat.lt_or_ge j i with hlt | hge
        · have := hp j i hj1 hi hlt
          rw [hie, hj2] at this
          simp only [Bool.not_eq_true', Bool.eq_false_iff]
          exact lt_asymm this
        · have : j = i := by omega
          subst this
          rw [hie] at hj2
          subst hj2
          simp only [Bool.not_eq_true', Bool.eq_false_iff]
          exact lt_irrefl _
      · cases hj
  rw [e1, List.length_take]
  omega
theorem low_le (E : List En) (q : Key) : (lowL E q).length ≤ E.length := List.length_filter_le _ _
/-- the place of the t-th that is told, beginning behind place c -/
def plc7 (L c t : Nat) : Nat := if c + t < L then c + t else c + t - L
theorem sweep_eq {E : List En} (h : RisingE E) (q : Key) (n : Nat) : sweepL E q n = (E.drop (lowL E q).length ++ E.take (lowL E q).length).take n := by
  have h1 := low_split h q
  unfold sweepL
  generalize above E q = A at *
  generalize lowL E q = B at *
  subst h1
  rw [List.drop_left, List.take_left]
theorem sweep_len {E : List En} (h : RisingE E) (q : Key) (n : Nat) : (sweepL E q n).length = min n E.length := by
  have := low_le E q
  rw [sweep_eq h, List.length_take, List.length_append, List.length_drop, List.length_take]
  omega
theorem sweep_at {E : List En} (h : RisingE E) (q : Key) {n c t : Nat} (hc : (lowL E q).length = c) (ht : t < min n E.length) : (sweepL E q n)[t]? = E[plc7 E.length c t]? := by
  have hle := low_le E q
  rw [hc] at hle
  rw [sweep_eq h, hc, List.getElem?_take, if_pos (by omega)]
  unfold plc7
  by_cases h1 : c + t < E.length
  · rw [if_pos h1, List.getElem?_append_left (by rw [List.length_drop]; omega), List.getElem?_drop]
  · rw [if_neg h1, List.getElem?_append_right (by rw [List.length_drop]; omega), List.length_drop, List.getElem?_take, if_pos (by omega)]
    congr 1
    omega
/-- the last one that is told, and how many are not above it -/
theorem sweep_last {E : List En} (h : RisingE E) (q : Key) {n c m : Nat} (hc : (lowL E q).length = c) (hm : min n E.length = m) (hm0 : 0 < m) :
    ∃ e, E[plc7 E.length c (m - 1)]? = some e ∧ (sweepL E q n).getLast? = some e ∧ (sweepL E q n)[m - 1]? = some e ∧ (lowL E e.1).length = plc7 E.length c (m - 1) + 1 := by
  have hle := low_le E q
  rw [hc] at hle
  have h1 := sweep_at h q hc (n := n) (t := m - 1) (by omega)
  have h2 : plc7 E.length c (m - 1) < E.length := by unfold plc7; split <;> omega
  obtain ⟨e, he⟩ : ∃ e, E[plc7 E.length c (m - 1)]? = some e := ⟨_, List.getElem?_eq_getElem h2⟩
  refine ⟨e, he, ?_, by rw [h1, he], low_at h he⟩
  rw [List.getLast?_eq_getElem?, sweep_len h, hm, h1, he]
/-- how many are told ahead of place t -/
def far (L c t : Nat) : Nat := if c ≤ t then t - c else t + L - c
theorem far_lt {L c t : Nat} (ht : t < L) (hc : c ≤ L) : far L c t < L := by unfold far; split <;> omega
theorem far_at {L c t : Nat} (ht : t < L) (hc : c ≤ L) : plc7 L c (far L c t) = t := by unfold far plc7; split <;> split <;> omega
theorem far_next {L c t m : Nat} (ht : t < L) (hc : c ≤ L) (hm : 0 < m) (hf : m ≤ far L c t) : far L (plc7 L c (m - 1) + 1) t = far L c t - m := by
  unfold far plc7 at *
  split at hf <;> split <;> split <;> omega
/-- a key that was not told by a sweep is nearer behind it -/
theorem nearer {E : List En} (h : RisingE E) (q : Key) {n t : Nat} {e : En} (hn : 0 < n) (he : E[t]? = some e) (hno : ∀ x ∈ sweepL E q n, x.1 ≠ e.1) :
    ∃ l, (sweepL E q n).getLast? = some l ∧ far E.length (lowL E l.1).length t + 1 ≤ far E.length (lowL E q).length t := by
  obtain ⟨ht, -⟩ := List.getElem?_eq_some_iff.1 he
  obtain ⟨c, hc⟩ : ∃ c, (lowL E q).length = c := ⟨_, rfl⟩
  have hle := low_le E q
  rw [hc] at hle ⊢
  obtain ⟨m, hm⟩ : ∃ m, min n E.length = m := ⟨_, rfl⟩
  have hm0 : 0 < m := by omega
  obtain ⟨l, -, h2, -, h4⟩ := sweep_last h q hc hm hm0
  have hf : m ≤ far E.length c t := by
    refine Nat.le_of_not_lt fun hlt => ?_
    have h5 := sweep_at h q hc (n := n) (t := far E.length c t) (by omega)
    rw [far_at ht hle, he] at h5
    exact hno e (List.mem_of_getElem? h5) rfl
  refine ⟨l, h2, ?_⟩
  rw [h4, far_next ht hle hm0 hf]
  omega
end Go.Proofs.Ytekdahppacghbab.Wk
