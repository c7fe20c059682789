/- DERIVED. Layer 7 (walk): 'Same' of parts of slices; 'less'. -/
import Derived.Test.YtekdahppacghbabWkQ
import Derived.Test.YtekdahppacghbabR6A
import Derived.BigQuiet
set_option linter.unusedVariables false
set_option linter.unusedSimpArgs false
set_option maxRecDepth 100000
namespace Go.Proofs.Ytekdahppacghbab.Wk
open Go.RowKit Go.Proofs.Ytekdahppacghbab Go.Proofs.Ytekdahppacghbab.TreeP Go.Proofs.Ytekdahppacghbab.Tr

/-- a slice reads as these entries -/
def Rd (w : World) (v : Value) (n : Nat) (E : List En) : Prop :=
  ∃ a c, v = .slice a n c ∧ (0 < n → ∃ g o, a = some ⟨g, o, none⟩ ∧ ∀ i e, E[i]? = some e → w.cell? ⟨g, o + i * 3, none⟩ = some (.int .u64 e.1.1) ∧ w.cell? ⟨g, o + i * 3 + 1, none⟩ = some (.int .u64 e.1.2) ∧ w.cell? ⟨g, o + i * 3 + 2, none⟩ = some (.int .i64 e.2))
theorem rd_of {w : World} {v : Value} {n : Nat} {E : List En} (h : ownsR w 49 3 v n (Tr.ents E)) : Rd w v n E := by
  obtain ⟨a, c, rfl⟩ := h.slice
  refine ⟨a, c, rfl, fun hn => ?_⟩
  obtain ⟨g, cap, e1, -, -⟩ := h.form hn
  injection e1 with e1 _ e3
  subst e1 e3
  refine ⟨g, 0, rfl, fun i e he => ?_⟩
  have := rowEnt h he
  simpa using this
theorem Rd.take {w : World} {a : Option Addr} {n c k : Nat} {E : List En} (h : Rd w (.slice a n c) n E) (hk : k ≤ n) (c' : Nat) : Rd w (.slice a k c') k (E.take k) := by
  obtain ⟨a', c1, e, h⟩ := h
  injection e with e1 _ _
  subst e1
  refine ⟨a, c', rfl, fun hp => ?_⟩
  obtain ⟨g, o, e, hc⟩ := h (by omega)
  refine ⟨g, o, e, fun i e he => ?_⟩
  rw [List.getElem?_take] at he
  split at he
  · exact hc i e he
  · cases he
theorem Rd.drop {w : World} {g o n c k m : Nat} {E : List En} (h : Rd w (.slice (some ⟨g, o, none⟩) n c) n E) (hk : k + m = n) (c' : Nat) : Rd w (.slice (some ⟨g, o + k * 3, none⟩) m c') m (E.drop k) := by
  obtain ⟨a', c1, e, h⟩ := h
  injection e with e1 _ _
  subst e1
  refine ⟨_, c', rfl, fun hp => ?_⟩
  obtain ⟨g, o, e, hc⟩ := h (by omega)
  injection e with e
  injection e with e1 e2 _
  subst e1 e2
  refine ⟨_, _, rfl, fun i e he => ?_⟩
  rw [List.getElem?_drop] at he
  have := hc (k + i) e he
  rw [Nat.add_mul, ← Nat.add_assoc] at this
  exact this
set_option maxHeartbeats 1000000 in
theorem same_rdq (v1 v2 : Value) (n m : Nat) (E F : List En) (w : World) (hn : E.length = n) (hm : F.length = m) (h1 : Rd w v1 n E) (h2 : Rd w v2 m F) (b1 : n ≤ 65536) (b2 : m ≤ 65536) :
    Calls Try.prog 16 #[v1, v2] w fun e w' => e = .returned (.bool (decide (E = F))) ∧ ∃ m, w' = w.drewN m := by
  obtain ⟨a1, c1, rfl, h1⟩ := h1
  obtain ⟨a2, c2, rfl, h2⟩ := h2
  obtain ⟨D, hD⟩ : ∃ D, D = decide (E = F) := ⟨_, rfl⟩
  rw [← hD]
  by_cases hnm : n = m
  · subst hnm
    have nn : ((n : Int) != (n : Int)) = false := by simp
    have H1 := Lib.hid h1
    have H2 := Lib.hid h2
    have HN := Lib.hid hn
    have HM := Lib.hid hm
    have HD := Lib.hid hD
    clear h1 h2 hn hm b2 hD
    go_enter Try.func16, Try.ntmps16
    go_wp2
    go_loopw [13] (fun vi wr => ∃ k : Nat, vi = .int .i64 (k : Int) ∧ k ≤ n ∧ E.take k = F.take k ∧ ∃ m, wr = w.drewN m) (fun vi _ => n - (intOf vi).toNat)
    case atStart => exact ⟨0, rfl, Nat.zero_le _, rfl, 0, (World.drewN_zero w).symm⟩
    case round =>
      obtain ⟨k, rfl, hk, ht, md, rfl⟩ := hrel
      by_cases hlt : k < n
      · obtain ⟨g1, o1, rfl, f1⟩ := H1.out (by omega)
        obtain ⟨g2, o2, rfl, f2⟩ := H2.out (by omega)
        obtain ⟨e, he⟩ : ∃ e, E[k]? = some e := ⟨_, List.getElem?_eq_getElem (by rw [HN.out]; exact hlt)⟩
        obtain ⟨f, hf⟩ : ∃ f, F[k]? = some f := ⟨_, List.getElem?_eq_getElem (by rw [HM.out]; exact hlt)⟩
        obtain ⟨p0, p1, p2⟩ := f1 k e he
        obtain ⟨q0, q1, q2⟩ := f2 k f hf
        clear f1 f2
        have hltI : (k : Int) < (n : Int) := by omega
        by_cases hef : e = f
        · have HT := Lib.hid (take_eq_succ ht he hf hef)
          subst hef
          clear ht he hf
          go_wp2_with fail
          go_quiet (fail)
          go_wp2_with fail
          exact ⟨⟨k + 1, by go_num, by omega, HT.out, ⟨_, rfl⟩⟩, by simp [intOf]; omega⟩
        · have hne : decide (E = F) = false := by
            rw [decide_eq_false_iff_not]
            intro h
            rw [h, hf] at he
            injection he with he
            exact hef he.symm
          have hD : D = false := HD.out.trans hne
          subst hD
          obtain ⟨⟨ea, es⟩, ev⟩ := e
          obtain ⟨⟨fa, fs⟩, fv⟩ := f
          simp only at p0 p1 p2 q0 q1 q2
          clear ht he hf hne
          by_cases t0 : ea = fa
          · subst t0
            by_cases t1 : es = fs
            · subst t1
              have t2 : (ev == fv) = false := by
                rw [beq_eq_false_iff_ne]
                exact fun h => hef (by rw [h])
              clear hef
              go_wp2_with fail
              go_quiet (fail)
              go_wp2_with fail
              go_ret
              exact ⟨rfl, _, World.drewN_drewN _ _ _⟩
            · have t1 : (es == fs) = false := by rw [beq_eq_false_iff_ne]; exact t1
              clear hef
              go_wp2_with fail
              go_quiet (fail)
              go_wp2_with fail
              go_ret
              exact ⟨rfl, _, World.drewN_drewN _ _ _⟩
          · have t0 : (ea == fa) = false := by rw [beq_eq_false_iff_ne]; exact t0
            clear hef
            go_wp2_with fail
            go_quiet (fail)
            go_wp2_with fail
            go_ret
            exact ⟨rfl, _, World.drewN_drewN _ _ _⟩
      · obtain rfl : k = n := by omega
        have hEF : E = F := by
          rw [List.take_of_length_le (by rw [HN.out]; exact Nat.le_refl _), List.take_of_length_le (by rw [HM.out]; exact Nat.le_refl _)] at ht
          exact ht
        have hD : D = true := HD.out.trans (decide_eq_true hEF)
        subst hD
        clear ht hlt hk hEF
        go_wp2
        go_ret
        exact ⟨rfl, _, rfl⟩
  · have hne : decide (E = F) = false := by
      rw [decide_eq_false_iff_not]
      intro h
      rw [h] at hn
      omega
    rw [hne] at hD
    subst hD
    have nn : ((n : Int) != (m : Int)) = true := by simp; omega
    clear hne h1 h2 hn hm hnm
    go_enter Try.func16, Try.ntmps16
    go_wp2
    go_ret
    exact ⟨rfl, 0, (World.drewN_zero w).symm⟩
theorem same_rd {v1 v2 : Value} {n m : Nat} {E F : List En} {w : World} (hn : E.length = n) (hm : F.length = m) (h1 : Rd w v1 n E) (h2 : Rd w v2 m F) (b1 : n ≤ 65536) (b2 : m ≤ 65536) (hEF : E = F) :
    Calls Try.prog 16 #[v1, v2] w fun e w' => e = .returned (.bool true) ∧ Ext w w' := by
  have := (same_rdq v1 v2 n m E F w hn hm h1 h2 b1 b2).mono (fun _ _ ⟨he, md, hw⟩ => (⟨he, hw ▸ (Ext.refl w).drewN md⟩ : _ ∧ Ext w _))
  rw [decide_eq_true hEF] at this
  exact this
/-- less -/
theorem less_any (a s b t : Int) (w : World) : Calls Try.prog 23 #[.agg #[.int .u64 a, .int .u64 s], .agg #[.int .u64 b, .int .u64 t]] w fun e w' => e = .returned (.bool (lt (a, s) (b, t))) ∧ Ext w w' := by
  by_cases h1 : a < b
  · rw [(lt_iff (a, s) (b, t)).2 (.inl h1)]
    go_enter Try.func23, Try.ntmps23
    go_wp2
    go_ret
    exact ⟨rfl, ((Ext.refl w).alloc _).alloc _⟩
  · by_cases h2 : a = b
    · subst h2
      have haa : (a == a) = true := by simp
      by_cases h3 : s < t
      · rw [(lt_iff (a, s) (a, t)).2 (.inr ⟨rfl, h3⟩)]
        go_enter Try.func23, Try.ntmps23
        go_wp2
        go_ret
        exact ⟨rfl, ((Ext.refl w).alloc _).alloc _⟩
      · rw [show lt (a, s) (a, t) = false from by rw [Bool.eq_false_iff]; intro h; rw [lt_iff] at h; simp only at h; omega]
        go_enter Try.func23, Try.ntmps23
        go_wp2
        go_ret
        exact ⟨rfl, ((Ext.refl w).alloc _).alloc _⟩
    · rw [show lt (a, s) (b, t) = false from by rw [Bool.eq_false_iff]; intro h; rw [lt_iff] at h; simp only at h; omega]
      have hab : (a == b) = false := by simp [h2]
      go_enter Try.func23, Try.ntmps23
      go_wp2
      go_ret
      exact ⟨rfl, ((Ext.refl w).alloc _).alloc _⟩
/-- a row's shape -/
theorem row_cap {w : World} {e size n : Nat} {v : Value} {xs : List Value} (h : ownsR w e size v n xs) : ∃ a c, v = .slice a n c ∧ n ≤ c := by
  rcases h.2 with ⟨rfl, rfl⟩ | ⟨g, cap, cur, rfl, -, h1, -⟩
  · exact ⟨none, 0, rfl, Nat.le_refl _⟩
  · exact ⟨_, cap, rfl, h1⟩
end Go.Proofs.Ytekdahppacghbab.Wk
