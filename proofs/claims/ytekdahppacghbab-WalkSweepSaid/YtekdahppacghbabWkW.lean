/- DERIVED. Layer 7 (walk), plainly: how often each key was told by sweeps. -/
import Derived.Test.YtekdahppacghbabWkQ
import Derived.Test.YtekdahppacghbabMapS
set_option linter.unusedVariables false
set_option linter.unusedSimpArgs false
set_option maxRecDepth 100000
namespace Go.Proofs.Ytekdahppacghbab.Wk
open Go.RowKit Go.Maps Go.Proofs.Ytekdahppacghbab Go.Proofs.Ytekdahppacghbab.TreeP Go.Proofs.Ytekdahppacghbab.Tr

/-- how often what is told at every T with T mod L = r has been told -/
def metN (L r T : Nat) : Nat := (T + (L - 1 - r)) / L
theorem div_small {L a x : Nat} (h : x < L) : (L * a + x) / L = a := by
  rw [Nat.mul_add_div (by omega), Nat.div_eq_of_lt h, Nat.add_zero]
theorem div_big {L a x : Nat} (h1 : L ≤ x) (h2 : x < 2 * L) : (L * a + x) / L = a + 1 := by
  rw [Nat.mul_add_div (by omega), Nat.div_eq_of_lt_le (k := 1) (by omega) (by omega)]
theorem met_eq {L r T : Nat} (hr : r < L) : metN L r T = T / L + (if r < T % L then 1 else 0) := by
  have h1 := Nat.div_add_mod T L
  have h2 := Nat.mod_lt T (show 0 < L by omega)
  unfold metN
  have h3 : T + (L - 1 - r) = L * (T / L) + (T % L + (L - 1 - r)) := by omega
  rw [h3]
  by_cases h : r < T % L
  · rw [if_pos h, div_big (by omega) (by omega)]
  · rw [if_neg h, div_small (by omega)]
    omega
theorem mod_succ (L T : Nat) (hL : 0 < L) : ((T + 1) % L = if T % L + 1 < L then T % L + 1 else 0) ∧ ((T + 1) / L = if T % L + 1 < L then T / L else T / L + 1) := by
  have h1 := Nat.div_add_mod T L
  have h2 := Nat.mod_lt T hL
  have h3 : T + 1 = L * (T / L) + (T % L + 1) := by omega
  by_cases h : T % L + 1 < L
  · rw [if_pos h, if_pos h, h3, Nat.mul_add_mod, div_small h, Nat.mod_eq_of_lt h]
    exact ⟨rfl, rfl⟩
  · have h4 : T % L + 1 = L := by omega
    rw [if_neg h, if_neg h, h3, Nat.mul_add_mod, div_big (by omega) (by omega), h4, Nat.mod_self]
    exact ⟨rfl, rfl⟩
theorem met_hit {L r T : Nat} (hr : r < L) (h : T % L = r) : metN L r T = T / L ∧ metN L r (T + 1) = T / L + 1 := by
  obtain ⟨h1, h2⟩ := mod_succ L T (by omega)
  rw [met_eq hr, met_eq hr, h1, h2, h]
  constructor
  · rw [if_neg (Nat.lt_irrefl _)]; rfl
  · by_cases h3 : r + 1 < L
    · rw [if_pos h3, if_pos h3, if_pos (by omega)]
    · rw [if_neg h3, if_neg h3, if_neg (by omega)]
theorem met_miss {L r T : Nat} (hr : r < L) (h : T % L ≠ r) : metN L r (T + 1) = metN L r T := by
  obtain ⟨h1, h2⟩ := mod_succ L T (by omega)
  have h4 := Nat.mod_lt T (show 0 < L by omega)
  rw [met_eq hr, met_eq hr, h1, h2]
  by_cases h3 : T % L + 1 < L
  · rw [if_pos h3, if_pos h3]
    by_cases h5 : r < T % L
    · rw [if_pos h5, if_pos (by omega)]
    · rw [if_neg h5, if_neg (by omega)]
  · rw [if_neg h3, if_neg h3, if_neg (by omega), if_pos (by omega)]
/-- places, one after the other -/
theorem plc_all {L c c0 T : Nat} (hL : 0 < L) (hc : c ≤ L) (hc0 : c0 ≤ L) (h0 : plc7 L c 0 = plc7 L c0 (T % L)) : ∀ t, t < L → plc7 L c t = plc7 L c0 ((T + t) % L)
  | 0, _ => h0
  | t + 1, ht => by
    have ih := plc_all hL hc hc0 h0 t (by omega)
    have h1 := (mod_succ L (T + t) hL).1
    have h2 := Nat.mod_lt (T + t) hL
    rw [show T + (t + 1) = T + t + 1 by omega, h1]
    unfold plc7 at *
    split at ih <;> split at ih <;> split <;> split <;> (try split) <;> omega
theorem plc_spec (L c t : Nat) : (c + t < L ∧ plc7 L c t = c + t) ∨ (¬ c + t < L ∧ plc7 L c t = c + t - L) := by
  unfold plc7
  by_cases h : c + t < L
  · rw [if_pos h]; exact .inl ⟨h, rfl⟩
  · rw [if_neg h]; exact .inr ⟨h, rfl⟩
theorem plc_next {L c c0 T m : Nat} (hL : 0 < L) (hc : c ≤ L) (hc0 : c0 ≤ L) (h0 : plc7 L c 0 = plc7 L c0 (T % L)) (hm : 0 < m) (hmL : m ≤ L) : plc7 L (plc7 L c (m - 1) + 1) 0 = plc7 L c0 ((T + m) % L) := by
  have h1 := plc_all hL hc hc0 h0 (m - 1) (by omega)
  have h2 := (mod_succ L (T + (m - 1)) hL).1
  have h3 := Nat.mod_lt (T + (m - 1)) hL
  rw [show T + m = T + (m - 1) + 1 by omega, h2]
  obtain ⟨s, hs⟩ : ∃ s, s = (T + (m - 1)) % L := ⟨_, rfl⟩
  rw [← hs] at h1 h3 ⊢
  obtain ⟨a, ha⟩ : ∃ a, a = plc7 L c (m - 1) := ⟨_, rfl⟩
  rw [← ha] at h1 ⊢
  have q1 := plc_spec L c0 s
  have q2 := plc_spec L (a + 1) 0
  have q3 := plc_spec L c (m - 1)
  rw [← ha] at q3
  by_cases h5 : s + 1 < L
  · rw [if_pos h5]
    have q4 := plc_spec L c0 (s + 1)
    omega
  · rw [if_neg h5]
    have q4 := plc_spec L c0 0
    omega
theorem far_plc {L c0 s : Nat} (hs : s < L) (hc0 : c0 ≤ L) : far L c0 (plc7 L c0 s) = s := by
  unfold far plc7
  split <;> split <;> omega
theorem far_inj {L c0 i j : Nat} (hi : i < L) (hj : j < L) (hc0 : c0 ≤ L) (h : far L c0 i = far L c0 j) : i = j := by
  unfold far at h
  split at h <;> split at h <;> omega
abbrev kl (e : En) : Lit := KL e.1.1 e.1.2
abbrev il (x : Int) : DataW Unit := .lit (.int .i64 x)
def WfE (E : List En) : Prop := ∀ e ∈ E, (Lit.int .u64 e.1.1).wf = true ∧ (Lit.int .u64 e.1.2).wf = true
theorem kl_key (e : En) : WideAt.IsKeyLit (kl e) := trivial
theorem kl_ne {E : List En} (hr : RisingE E) (hw : WfE E) {i j : Nat} {e f : En} (hi : E[i]? = some e) (hj : E[j]? = some f) (h : i ≠ j) : kl e ≠ kl f := by
  intro he
  have h1 := hw e (List.mem_of_getElem? hi)
  have h2 := hw f (List.mem_of_getElem? hj)
  have h3 := KL_inj h1.1 h1.2 h2.1 h2.2 he
  have h4 : e.1 = f.1 := h3
  have hp := List.pairwise_iff_getElem.1 hr
  obtain ⟨i1, i2⟩ := List.getElem?_eq_some_iff.1 hi
  obtain ⟨j1, j2⟩ := List.getElem?_eq_some_iff.1 hj
  rcases Nat.lt_or_gt_of_ne h with hlt | hlt
  · have := hp i j i1 j1 hlt
    rw [i2, j2, h4] at this
    exact lt_irrefl _ this
  · have := hp j i j1 i1 hlt
    rw [i2, j2, h4] at this
    exact lt_irrefl _ this
/-- the map met behind T that were told -/
structure SwM (D : DataW Unit) (E : List En) (c0 T : Nat) : Prop where
  tidy : Tidy D
  val : ∀ (i : Nat) (e : En), E[i]? = some e → D.atKey (kl e) (il 0) = il (metN E.length (far E.length c0 i) T : Nat)
  has : ∀ (i : Nat) (e : En), E[i]? = some e → Maps.has D (kl e) = decide (far E.length c0 i < T)
  size : Maps.size D = min T E.length
theorem sw_nil {E : List En} {c0 : Nat} (hc0 : c0 ≤ E.length) : SwM (.map []) E c0 0 := by
  refine ⟨tidy_empty, fun i e hi => ?_, fun i e hi => ?_, ?_⟩
  · obtain ⟨i1, -⟩ := List.getElem?_eq_some_iff.1 hi
    rw [met_eq (far_lt i1 hc0)]
    simp
    rfl
  · rw [decide_eq_false (by omega)]
    rfl
  · rw [Nat.zero_min]
    rfl
theorem sw_put {D : DataW Unit} {E : List En} {c0 T i : Nat} {e : En} (h : SwM D E c0 T) (hr : RisingE E) (hw : WfE E) (hc0 : c0 ≤ E.length) (hi : E[i]? = some e) (hf : far E.length c0 i = T % E.length) :
    SwM (D.put (kl e) (il ((T / E.length : Nat) + 1 : Int))) E c0 (T + 1) := by
  obtain ⟨i1, -⟩ := List.getElem?_eq_some_iff.1 hi
  have hL : 0 < E.length := by omega
  have hm := Nat.mod_lt T hL
  refine ⟨h.tidy.put (kl_key e) _, fun j f hj => ?_, fun j f hj => ?_, ?_⟩
  · obtain ⟨j1, -⟩ := List.getElem?_eq_some_iff.1 hj
    by_cases e1 : j = i
    · subst e1
      rw [hi] at hj
      injection hj with hj
      subst hj
      rw [atKey_put_same h.tidy.isMap (kl_key _), (met_hit (far_lt j1 hc0) hf.symm).2]
      rfl
    · rw [atKey_put_other (kl_ne hr hw hj hi e1), h.val j f hj, met_miss (far_lt j1 hc0) (fun e2 => e1 (far_inj j1 i1 hc0 (by rw [hf, e2])))]
  · obtain ⟨j1, -⟩ := List.getElem?_eq_some_iff.1 hj
    by_cases e1 : j = i
    · subst e1
      rw [hi] at hj
      injection hj with hj
      subst hj
      rw [has_put_same h.tidy.isMap (kl_key _), decide_eq_true (by rw [hf]; have := Nat.mod_le T E.length; omega)]
    · rw [has_put_other (kl_ne hr hw hj hi e1), h.has j f hj]
      have hne : far E.length c0 j ≠ T % E.length := fun e2 => e1 (far_inj j1 i1 hc0 (by rw [hf, e2]))
      have hlt := far_lt j1 hc0
      have : far E.length c0 j ≠ T := fun e2 => hne (by rw [e2, Nat.mod_eq_of_lt (by omega)])
      by_cases h3 : far E.length c0 j < T
      · rw [decide_eq_true h3, decide_eq_true (by omega)]
      · rw [decide_eq_false h3, decide_eq_false (by omega)]
  · rw [size_put h.tidy, h.has i e hi, h.size, hf]
    by_cases h3 : T < E.length
    · rw [Nat.mod_eq_of_lt h3, decide_eq_false (by omega)]
      simp
      omega
    · rw [decide_eq_true (by omega)]
      simp
      omega
end Go.Proofs.Ytekdahppacghbab.Wk
