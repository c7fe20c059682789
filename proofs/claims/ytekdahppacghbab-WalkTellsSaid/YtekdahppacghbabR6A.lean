/- DERIVED. Layer 6 (tree): 'Same' of the laws; the document's tree: Less, place. -/
import Derived.Test.YtekdahppacghbabTrT
import Derived.Test.YtekdahppacghbabAppR
import Derived.Test.YtekdahppacghbabBlk
import Derived.RegionTactic
set_option linter.unusedVariables false
set_option linter.unusedSimpArgs false
set_option maxRecDepth 100000
namespace Go.Proofs.Ytekdahppacghbab.Tr
open Go.RowKit Go.Proofs.Ytekdahppacghbab Go.Proofs.Ytekdahppacghbab.TreeP

theorem entsAt : ∀ (E : List En) (i c : Nat) (e : En), E[i]? = some e → c < 3 → (ents E)[i * 3 + c]? = (ec e)[c]?
  | [], i, c, e, h, hc => by simp at h
  | y :: l, 0, c, e, h, hc => by
    obtain rfl : y = e := by simpa using h
    rw [ents, List.getElem?_append_left (by simp [ec]; omega)]
    congr 1; omega
  | y :: l, i + 1, c, e, h, hc => by
    rw [ents, List.getElem?_append_right (by simp [ec]; omega), show (ec y).length = 3 from rfl, show (i + 1) * 3 + c - 3 = i * 3 + c from by omega]
    exact entsAt l i c e (by simpa using h) hc
/-- one entry of a row -/
theorem rowEnt {w : World} {g cap n i : Nat} {E : List En} (h : ownsR w 49 3 (.slice (some ⟨g, 0, none⟩) n cap) n (ents E)) {e : En} (he : E[i]? = some e) :
    w.cell? ⟨g, i * 3, none⟩ = some (.int .u64 e.1.1) ∧ w.cell? ⟨g, i * 3 + 1, none⟩ = some (.int .u64 e.1.2) ∧ w.cell? ⟨g, i * 3 + 2, none⟩ = some (.int .i64 e.2) := by
  have hh : ∀ c u, c < 3 → (ec e)[c]? = some u → w.cell? ⟨g, i * 3 + c, none⟩ = some u := fun c u h1 h2 => (h.cells rfl _ _ ((entsAt E i c e he h1).trans h2)).1
  exact ⟨hh 0 _ (by omega) rfl, hh 1 _ (by omega) rfl, hh 2 _ (by omega) rfl⟩
theorem take_eq_succ {E F : List En} {k : Nat} {e f : En} (h : E.take k = F.take k) (he : E[k]? = some e) (hf : F[k]? = some f) (hef : e = f) : E.take (k + 1) = F.take (k + 1) := by
  rw [List.take_add_one, List.take_add_one, he, hf, h, hef]
set_option maxHeartbeats 1000000 in
theorem same_quiet (v1 v2 : Value) (n m : Nat) (E F : List En) (w : World) (hn : E.length = n) (hm : F.length = m) (h1 : ownsR w 49 3 v1 n (ents E)) (h2 : ownsR w 49 3 v2 m (ents F)) (b1 : n ≤ 65536) (b2 : m ≤ 65536) :
    Calls Try.prog 16 #[v1, v2] w fun e w' => e = .returned (.bool (decide (E = F))) ∧ ∃ m, w' = w.drewN m := by
  obtain ⟨a1, c1, rfl⟩ := h1.slice
  obtain ⟨a2, c2, rfl⟩ := h2.slice
  obtain ⟨D, hD⟩ : ∃ D, D = decide (E = F) := ⟨_, rfl⟩
  rw [← hD]
  by_cases hnm : n = m
  · subst hnm
    have nn : ((n : Int) != (n : Int)) = false := by simp
    have H1 := Lib.hid h1
    have H2 := Lib.hid h2
    have HN := Lib.hid hn
    have HM := Lib.hid hm
    have HD := Lib.hid hD
    clear h1 h2 hn hm b2 hD
    go_enter Try.func16, Try.ntmps16
    go_wp2
    go_loopw [13] (fun vi wr => ∃ k : Nat, vi = .int .i64 (k : Int) ∧ k ≤ n ∧ E.take k = F.take k ∧ ∃ m, wr = w.drewN m) (fun vi _ => n - (intOf vi).toNat)
    case atStart => exact ⟨0, rfl, Nat.zero_le _, rfl, 0, (World.drewN_zero w).symm⟩
    case round =>
      obtain ⟨k, rfl, hk, ht, md, rfl⟩ := hrel
      by_cases hlt : k < n
      · obtain ⟨g1, cap1, e1, -, -⟩ := H1.out.form (by omega)
        obtain ⟨g2, cap2, e2, -, -⟩ := H2.out.form (by omega)
        injection e1 with e1 _ e3
        injection e2 with e2 _ e4
        subst e1 e2 e3 e4
        obtain ⟨e, he⟩ : ∃ e, E[k]? = some e := ⟨_, List.getElem?_eq_getElem (by rw [HN.out]; exact hlt)⟩
        obtain ⟨f, hf⟩ : ∃ f, F[k]? = some f := ⟨_, List.getElem?_eq_getElem (by rw [HM.out]; exact hlt)⟩
        obtain ⟨p0, p1, p2⟩ := rowEnt H1.out he
        obtain ⟨q0, q1, q2⟩ := rowEnt H2.out hf
        have hltI : (k : Int) < (n : Int) := by omega
        by_cases hef : e = f
        · have HT := Lib.hid (take_eq_succ ht he hf hef)
          subst hef
          clear ht he hf
          go_wp2_with fail
          go_quiet (fail)
          go_wp2_with fail
          exact ⟨⟨k + 1, by go_num, by omega, HT.out, ⟨_, rfl⟩⟩, by simp [intOf]; omega⟩
        · have hne : decide (E = F) = false := by
            rw [decide_eq_false_iff_not]
            intro h
            rw [h, hf] at he
            injection he with he
            exact hef he.symm
          have hD : D = false := HD.out.trans hne
          subst hD
          obtain ⟨⟨ea, es⟩, ev⟩ := e
          obtain ⟨⟨fa, fs⟩, fv⟩ := f
          simp only at p0 p1 p2 q0 q1 q2
          clear ht he hf hne
          by_cases t0 : ea = fa
          · subst t0
            by_cases t1 : es = fs
            · subst t1
              have t2 : (ev == fv) = false := by
                rw [beq_eq_false_iff_ne]
                exact fun h => hef (by rw [h])
              clear hef
              go_wp2_with fail
              go_quiet (fail)
              go_wp2_with fail
              go_ret
              exact ⟨rfl, _, World.drewN_drewN _ _ _⟩
            · have t1 : (es == fs) = false := by rw [beq_eq_false_iff_ne]; exact t1
              clear hef
              go_wp2_with fail
              go_quiet (fail)
              go_wp2_with fail
              go_ret
              exact ⟨rfl, _, World.drewN_drewN _ _ _⟩
          · have t0 : (ea == fa) = false := by rw [beq_eq_false_iff_ne]; exact t0
            clear hef
            go_wp2_with fail
            go_quiet (fail)
            go_wp2_with fail
            go_ret
            exact ⟨rfl, _, World.drewN_drewN _ _ _⟩
      · obtain rfl : k = n := by omega
        have hEF : E = F := by
          rw [List.take_of_length_le (by rw [HN.out]; exact Nat.le_refl _), List.take_of_length_le (by rw [HM.out]; exact Nat.le_refl _)] at ht
          exact ht
        have hD : D = true := HD.out.trans (decide_eq_true hEF)
        subst hD
        clear ht hlt hk hEF
        go_wp2
        go_ret
        exact ⟨rfl, _, rfl⟩
  · have hne : decide (E = F) = false := by
      rw [decide_eq_false_iff_not]
      intro h
      rw [h] at hn
      omega
    rw [hne] at hD
    subst hD
    have nn : ((n : Int) != (m : Int)) = true := by simp; omega
    clear hne h1 h2 hn hm hnm
    go_enter Try.func16, Try.ntmps16
    go_wp2
    go_ret
    exact ⟨rfl, 0, (World.drewN_zero w).symm⟩

theorem same_any (v1 v2 : Value) (n m : Nat) (E F : List En) (w : World) (hn : E.length = n) (hm : F.length = m) (h1 : ownsR w 49 3 v1 n (ents E)) (h2 : ownsR w 49 3 v2 m (ents F)) (b1 : n ≤ 65536) (b2 : m ≤ 65536) :
    Calls Try.prog 16 #[v1, v2] w fun e w' => e = .returned (.bool (decide (E = F))) ∧ Ext w w' :=
  (same_quiet v1 v2 n m E F w hn hm h1 h2 b1 b2).mono (fun _ _ ⟨he, md, hw⟩ => ⟨he, hw ▸ (Ext.refl w).drewN md⟩)
/-- the document's Less -/
theorem rless_any (a s b t : Int) (w : World) : Calls Try.prog 34 #[.agg #[.int .u64 a, .int .u64 s], .agg #[.int .u64 b, .int .u64 t]] w fun e w' => e = .returned (.bool (lt (a, s) (b, t))) ∧ Ext w w' := by
  by_cases h2 : a = b
  · subst h2
    have e : lt (a, s) (a, t) = decide (s < t) := by simp [lt]
    rw [e]
    clear e
    obtain ⟨B, hB⟩ : ∃ B, B = decide (s < t) := ⟨_, rfl⟩
    rw [← hB]
    have hB' := hB.symm
    clear hB
    go_enter Try.func34, Try.ntmps34
    go_wp2
    go_ret
    exact ⟨rfl, ((Ext.refl _).alloc _).alloc _⟩
  · have e2 : (a == b) = false := by simp [h2]
    have e3 : (a != b) = true := by simp [h2]
    have e : lt (a, s) (b, t) = decide (a < b) := by simp [lt, h2]
    rw [e]
    clear e
    obtain ⟨B, hB⟩ : ∃ B, B = decide (a < b) := ⟨_, rfl⟩
    rw [← hB]
    have hB' := hB.symm
    clear hB
    go_enter Try.func34, Try.ntmps34
    go_wp2
    go_ret
    exact ⟨rfl, ((Ext.refl _).alloc _).alloc _⟩
/-- where a key stands, or would -/
def plc (E : List En) (q : Key) : Nat := (E.takeWhile fun e => lt e.1 q).length
def is_at (E : List En) (q : Key) : Bool := decide ((E[plc E q]?.map (·.1)) = some q)
theorem plc_le (E : List En) (q : Key) : plc E q ≤ E.length := by
  unfold plc
  exact (List.takeWhile_sublist _).length_le
theorem plc_step : ∀ {E : List En} {q : Key} {k : Nat}, k ≤ plc E q → ∀ e, E[k]? = some e → (k < plc E q ↔ lt e.1 q = true)
  | [], q, k, h, e, he => by simp at he
  | x :: l, q, 0, h, e, he => by
    obtain rfl : x = e := by simpa using he
    unfold plc
    rw [List.takeWhile_cons]
    cases lt x.1 q <;> simp
  | x :: l, q, k + 1, h, e, he => by
    have h1 : lt x.1 q = true := by
      cases hx : lt x.1 q
      · unfold plc at h
        rw [List.takeWhile_cons, hx] at h
        simp at h
      · rfl
    have h2 : plc (x :: l) q = plc l q + 1 := by
      unfold plc
      rw [List.takeWhile_cons, h1]
      simp
    rw [h2] at h ⊢
    rw [Nat.add_lt_add_iff_right]
    exact plc_step (E := l) (q := q) (k := k) (by omega) e (by simpa using he)
theorem plc_cons_lt {x : En} {l : List En} {q : Key} (h : lt x.1 q = true) : plc (x :: l) q = plc l q + 1 := by
  unfold plc
  rw [List.takeWhile_cons, h]
  simp
theorem plc_cons_not {x : En} {l : List En} {q : Key} (h : lt x.1 q = false) : plc (x :: l) q = 0 := by
  unfold plc
  rw [List.takeWhile_cons, h]
  simp
theorem parts : ∀ {E : List En} (h : RisingE E) (q : Key),
    (∃ A v B, E = A ++ (q, v) :: B ∧ plc E q = A.length ∧ (∀ e ∈ A, lt e.1 q = true) ∧ (∀ e ∈ B, lt q e.1 = true)) ∨
    (∃ A B, E = A ++ B ∧ plc E q = A.length ∧ (∀ e ∈ A, lt e.1 q = true) ∧ (∀ e ∈ B, lt q e.1 = true))
  | [], _, q => .inr ⟨[], [], rfl, rfl, by simp, by simp⟩
  | x :: l, h, q => by
    unfold RisingE at h
    rw [List.pairwise_cons] at h
    by_cases hx : lt x.1 q = true
    · rcases parts (E := l) h.2 q with ⟨A, v, B, e1, e2, e3, e4⟩ | ⟨A, B, e1, e2, e3, e4⟩
      · exact .inl ⟨x :: A, v, B, by rw [e1]; rfl, by rw [plc_cons_lt hx, e2]; rfl, fun e he => by
          rcases List.mem_cons.1 he with rfl | he
          · exact hx
          · exact e3 e he, e4⟩
      · exact .inr ⟨x :: A, B, by rw [e1]; rfl, by rw [plc_cons_lt hx, e2]; rfl, fun e he => by
          rcases List.mem_cons.1 he with rfl | he
          · exact hx
          · exact e3 e he, e4⟩
    · have hx' : lt x.1 q = false := by simpa using hx
      rcases lt_tri x.1 q with h1 | h1 | h1
      · exact absurd h1 hx
      · refine .inl ⟨[], x.2, l, ?_, plc_cons_not hx', by simp, fun e he => by rw [← h1]; exact h.1 e he⟩
        rw [List.nil_append, ← h1]
      · refine .inr ⟨[], x :: l, rfl, plc_cons_not hx', by simp, fun e he => ?_⟩
        rcases List.mem_cons.1 he with rfl | he
        · exact h1
        · exact lt_trans h1 (h.1 e he)
/-- what the document's place tells of rising entries -/
structure PF (E : List En) (q : Key) : Prop where
  at_ : is_at E q = (look E q).isSome
  put : look E q = none → ∀ v, ins E q v = E.take (plc E q) ++ (q, v) :: E.drop (plc E q)
  has : ∀ u, look E q = some u → E[plc E q]? = some (q, u) ∧ del E q = E.take (plc E q) ++ E.drop (plc E q + 1) ∧ plc E q < E.length
theorem place_facts {E : List En} (h : RisingE E) (q : Key) : PF E q := by
  rcases parts h q with ⟨A, v, B, e1, e2, e3, e4⟩ | ⟨A, B, e1, e2, e3, e4⟩
  · subst e1
    obtain ⟨d1, d2⟩ := del_parts h
    have hat : (A ++ (q, v) :: B)[A.length]? = some (q, v) := by simp
    refine ⟨?_, fun hn => ?_, fun u hu => ?_⟩
    · unfold is_at
      rw [e2, hat, d2]
      simp
    · rw [d2] at hn
      cases hn
    · rw [d2] at hu
      injection hu with hu
      subst hu
      rw [e2]
      refine ⟨hat, ?_, by simp⟩
      rw [d1]
      simp
  · subst e1
    have hl : look (A ++ B) q = none := look_none (fun e he => by
      rcases List.mem_append.1 he with he | he
      · exact lt_ne (e3 e he)
      · exact fun e' => lt_ne (e4 e he) e'.symm)
    refine ⟨?_, fun _ v => ?_, fun u hu => ?_⟩
    · unfold is_at
      rw [e2, hl]
      cases B with
      | nil => simp
      | cons y B =>
        have : y.1 ≠ q := fun e' => lt_ne (e4 y (.head _)) e'.symm
        simp [this]
    · rw [ins_parts e3 e4, e2]
      simp
    · rw [hl] at hu
      cases hu
theorem ents_take : ∀ (E : List En) (i : Nat), ents (E.take i) = (ents E).take (i * 3)
  | [], i => by simp [ents]
  | e :: E, 0 => by simp [ents]
  | e :: E, i + 1 => by
    rw [List.take_succ_cons, ents, ents, ents_take E i, show (i + 1) * 3 = i * 3 + 3 from by omega]
    simp [ec]
theorem ents_drop : ∀ (E : List En) (i : Nat), ents (E.drop i) = (ents E).drop (i * 3)
  | [], i => by simp [ents]
  | e :: E, 0 => by simp [ents]
  | e :: E, i + 1 => by
    rw [List.drop_succ_cons, ents, ents_drop E i, show (i + 1) * 3 = i * 3 + 3 from by omega]
    simp [ec]
end Go.Proofs.Ytekdahppacghbab.Tr
