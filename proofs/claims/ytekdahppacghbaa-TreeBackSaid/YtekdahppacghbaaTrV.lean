/- DERIVED. Layer 6 (tree): the law TreeNext. -/
import Derived.Test.YtekdahppacghbaaTrU
set_option linter.unusedVariables false
set_option linter.unusedSimpArgs false
set_option maxRecDepth 100000
namespace Go.Proofs.Ytekdahppacghbaa.Tr
open Go.RowKit Go.Proofs.Ytekdahppacghbaa Go.Proofs.Ytekdahppacghbaa.TreeP

theorem ahead_any (a s b t : Int) (w : World) : Calls Try.prog 13 #[.agg #[.int .u64 a, .int .u64 s], .agg #[.int .u64 b, .int .u64 t]] w fun e w' => e = .returned (.bool (lt (a, s) (b, t))) ∧ Ext w w' := by
  by_cases h1 : a < b
  · have e1 : decide (a < b) = true := by simpa using h1
    have e : lt (a, s) (b, t) = true := by simp [lt, h1]
    rw [e]
    clear e
    go_enter Try.func13, Try.ntmps13
    go_wp2
    go_ret
    exact ⟨rfl, ((Ext.refl _).alloc _).alloc _⟩
  · have e1 : decide (a < b) = false := by simpa using h1
    by_cases h2 : a = b
    · subst h2
      have e : lt (a, s) (a, t) = decide (s < t) := by simp [lt]
      rw [e]
      clear e
      obtain ⟨B, hB⟩ : ∃ B, B = decide (s < t) := ⟨_, rfl⟩
      rw [← hB]
      have hB' := hB.symm
      clear hB
      go_enter Try.func13, Try.ntmps13
      go_wp2
      go_ret
      exact ⟨rfl, ((Ext.refl _).alloc _).alloc _⟩
    · have e2 : (a == b) = false := by simp [h2]
      have e : lt (a, s) (b, t) = false := by simp [lt, h1, h2]
      rw [e]
      clear e
      go_enter Try.func13, Try.ntmps13
      go_wp2
      go_ret
      exact ⟨rfl, ((Ext.refl _).alloc _).alloc _⟩

def z0 : En := ((0, 0), 0)
theorem entO_getD (o : Option En) : entO o = ent (o.getD z0).1.1 (o.getD z0).1.2 (o.getD z0).2 := by
  cases o <;> rfl
theorem next_at : ∀ {E : List En} (h : RisingE E) (i : Nat) (e : En), E[i]? = some e → nextE E e.1 = E[i + 1]?
  | [], _, i, e, he => by simp at he
  | x :: l, h, 0, e, he => by
    obtain rfl : x = e := by simpa using he
    unfold RisingE at h
    rw [List.pairwise_cons] at h
    unfold nextE
    rw [List.find?_cons_of_neg (by simpa using lt_irrefl x.1)]
    cases l with
    | nil => rfl
    | cons y l => rw [List.find?_cons_of_pos (by exact h.1 y (.head _))]; rfl
  | x :: l, h, i + 1, e, he => by
    unfold RisingE at h
    rw [List.pairwise_cons] at h
    have hm : e ∈ l := List.mem_of_getElem? (by simpa using he)
    have ih := next_at (E := l) h.2 i e (by simpa using he)
    unfold nextE at ih ⊢
    rw [List.find?_cons_of_neg (by simpa using lt_asymm (h.1 e hm))]
    simpa using ih
theorem first_above : ∀ {E : List En} (q : Key) (j : Nat) (e : En), E[j]? = some e → lt q e.1 = true → (∀ i e', i < j → E[i]? = some e' → lt q e'.1 = false) → nextE E q = some e
  | [], q, j, e, he, _, _ => by simp at he
  | x :: l, q, 0, e, he, hl, _ => by
    obtain rfl : x = e := by simpa using he
    simp [nextE, List.find?_cons, hl]
  | x :: l, q, j + 1, e, he, hl, hn => by
    unfold nextE
    rw [List.find?_cons_of_neg (by simpa using hn 0 x (by omega) rfl)]
    exact first_above (E := l) q j e (by simpa using he) hl (fun i e' hi h => hn (i + 1) e' (by omega) (by simpa using h))
theorem none_above {E : List En} (q : Key) (hn : ∀ (i : Nat) (e' : En), E[i]? = some e' → lt q e'.1 = false) : nextE E q = none := by
  unfold nextE
  rw [List.find?_eq_none]
  intro e he
  obtain ⟨i, hi⟩ := List.getElem?_of_mem he
  simpa using hn i e hi
theorem ents_at : ∀ (E : List En) (i c : Nat) (e : En), E[i]? = some e → c < 3 → (ents E)[i * 3 + c]? = (ec e)[c]?
  | [], i, c, e, h, hc => by simp at h
  | y :: l, 0, c, e, h, hc => by
    obtain rfl : y = e := by simpa using h
    rw [ents, List.getElem?_append_left (by simp [ec]; omega)]
    congr 1; omega
  | y :: l, i + 1, c, e, h, hc => by
    rw [ents, List.getElem?_append_right (by simp [ec]; omega), show (ec y).length = 3 from rfl, show (i + 1) * 3 + c - 3 = i * 3 + c from by omega]
    exact ents_at l i c e (by simpa using h) hc
/-- one entry of a row -/
theorem row_ent {w : World} {g cap n i : Nat} {E : List En} (h : w.ownsRow 0 31 3 (.slice (some ⟨g, 0, none⟩) n cap) n (ents E)) (hn : 0 < n) {e : En} (he : E[i]? = some e) :
    w.cell? ⟨g, i * 3, none⟩ = some (.int .u64 e.1.1) ∧ w.cell? ⟨g, i * 3 + 1, none⟩ = some (.int .u64 e.1.2) ∧ w.cell? ⟨g, i * 3 + 2, none⟩ = some (.int .i64 e.2) := by
  obtain ⟨g', cap', e', -, hcs⟩ := own_form h hn
  injection e' with e1 _ _
  injection e1 with e1
  injection e1 with e1
  subst e1
  have hh : ∀ c u, c < 3 → (ec e)[c]? = some u → w.cell? ⟨g, i * 3 + c, none⟩ = some u := fun c u h1 h2 => (hcs _ _ ((ents_at E i c e he h1).trans h2)).1
  exact ⟨hh 0 _ (by omega) rfl, hh 1 _ (by omega) rfl, hh 2 _ (by omega) rfl⟩
theorem Own.blkSet {l : List HP} {w : World} {b o : Nat} {cs : Array Value} {t : TypeId} (h : Own (Blk b cs t :: l) w) (v : Value) : Own (Blk b (cs.setIfInBounds o v) t :: l) (w.setCell ⟨b, o, none⟩ v) := by
  obtain ⟨s, hP, hb, K⟩ := h.open
  exact K ((Step.refl s w).setCell _ (.inl ((hP.2 b).2 rfl)) v) (P' := Blk b (cs.setIfInBounds o v) t) (s' := s) ⟨heap_set v hP.1, hP.2⟩ (fun x hx => .inl hx)
theorem Own.blkSet3 {l : List HP} {w : World} {b : Nat} {x y z : Value} {t : TypeId} (h : Own (Blk b #[x, y, z] t :: l) w) (a0 a1 a2 : Value) :
    ∃ w1, ((w.setCell ⟨b, 0, none⟩ a0).setCell ⟨b, 1, none⟩ a1).setCell ⟨b, 2, none⟩ a2 = w1 ∧ Own (Blk b #[a0, a1, a2] t :: l) w1 :=
  ⟨_, rfl, Own.blkSet (Own.blkSet (Own.blkSet h a0) a1) a2⟩
/-- the first loop: x is the entry at hand -/
def XI (w0 : World) (p : Nat) (vb : Option Addr) (vc kb b7 : Nat) (q1 q2 : Int) (E : List En) (s8 s25 : Value) (wr : World) : Prop :=
  ∃ i : Nat, s25 = .int .i64 (i : Int) ∧ s8 = .bool (decide (i < E.length)) ∧ i ≤ E.length ∧
    Own [Tree p 60 E, Row 31 3 (.slice vb E.length vc) E.length (ents E), Blk b7 #[.int .u64 (E[i]?.getD z0).1.1, .int .u64 (E[i]?.getD z0).1.2, .int .i64 (E[i]?.getD z0).2] 31, Blk kb #[.int .u64 q1, .int .u64 q2] 25, Old w0] wr
theorem isSome_get (E : List En) (i : Nat) : E[i]?.isSome = decide (i < E.length) := by
  by_cases h : i < E.length
  · simp [h]
  · simp [h]
theorem Own.blk3f {l : List HP} {w : World} {b : Nat} {x y z : Value} {t : TypeId} (h : Own l w) (hm : Blk b #[x, y, z] t ∈ l) :
    w.cell? ⟨b, 0, none⟩ = some x ∧ w.cell? ⟨b, 1, none⟩ = some y ∧ w.cell? ⟨b, 2, none⟩ = some z ∧ w.frozen? ⟨b, 0, none⟩ = false ∧ w.frozen? ⟨b, 1, none⟩ = false ∧ w.frozen? ⟨b, 2, none⟩ = false := by
  simp [World.cell?, World.frozen?, Own.blk h hm]
theorem Own.blk2 {l : List HP} {w : World} {b : Nat} {x y : Value} {t : TypeId} (h : Own l w) (hm : Blk b #[x, y] t ∈ l) :
    w.cell? ⟨b, 0, none⟩ = some x ∧ w.cell? ⟨b, 1, none⟩ = some y := by
  simp [World.cell?, Own.blk h hm]
/-- the second loop: none of those behind is above the key -/
def YI (w0 : World) (p : Nat) (vb : Option Addr) (vc kb b10 : Nat) (q1 q2 : Int) (y : En) (E : List En) (s55 : Value) (wr : World) : Prop :=
  ∃ j : Nat, s55 = .int .i64 (j : Int) ∧ j ≤ E.length ∧ (∀ (i : Nat) (e' : En), i < j → E[i]? = some e' → lt (q1, q2) e'.1 = false) ∧
    Own [Tree p 60 E, Row 31 3 (.slice vb E.length vc) E.length (ents E), Blk kb #[.int .u64 q1, .int .u64 q2] 25, Blk b10 #[.int .u64 y.1.1, .int .u64 y.1.2, .int .i64 y.2] 31, Old w0] wr
set_option maxHeartbeats 4000000 in
theorem next_of (v : Value) (q1 q2 : Int) (n : Nat) (f : Nat → Op) (wf1 : (Lit.int .u64 q1).wf = true) (wf2 : (Lit.int .u64 q2).wf = true) (w : World) (ho : Ops w v n f) :
    Calls Try.prog 3 #[v, .agg #[.int .u64 q1, .int .u64 q2]] w fun e w' => e = .returned (.bool true) ∧ Ext w w' := by
  clear wf1 wf2
  have h0 := Own.blkNew (Own.start w) #[.int .u64 q1, .int .u64 q2] 25
  have HPL := Lib.hid (played_any v n f ho h0 (.tail _ (.head _)))
  obtain ⟨a, cap0, rfl, -, -, -⟩ := ho
  clear h0
  go_enter Try.func3, Try.ntmps3
  go_wp2_with fail
  refine (HPL.out).mono ?_
  rintro e w1 ⟨p, E, rfl, h1⟩
  have HR := Lib.hid (rising_of h1)
  have H1 := Lib.hid h1
  clear h1 HPL
  go_wp2_with fail
  refine (own_all H1.out).mono ?_
  rintro e w2 ⟨va, rfl, h2⟩
  obtain ⟨vb, vc, rfl⟩ := own_slice h2.row
  have H2 := Lib.hid h2.swap
  clear h2 H1
  go_wp2_with fail
  have hf := own_first H2.out
  rw [List.head?_eq_getElem?, entO_getD, isSome_get] at hf
  obtain ⟨c, hc⟩ : ∃ c, c = E[0]?.getD z0 := ⟨_, rfl⟩
  obtain ⟨B0, hB0⟩ : ∃ B0, B0 = decide (0 < E.length) := ⟨_, rfl⟩
  rw [← hc, ← hB0] at hf
  have HFI := Lib.hid hf
  have HC := Lib.hid hc
  have HB0 := Lib.hid hB0
  obtain ⟨kb, hkb⟩ : ∃ kb, kb = w.heap.size := ⟨_, rfl⟩
  rw [← hkb]
  rw [← hkb] at HFI
  clear hf hc hB0 H2 hkb
  refine (HFI.out).mono ?_
  rintro e w3 ⟨rfl, h3⟩
  have h4 := (Own.blkNew h3 #[.int .u64 c.1.1, .int .u64 c.1.2, .int .i64 c.2] 31).back3
  have HX0 : Hid (XI w p vb vc kb w3.heap.size q1 q2 E (.bool B0) (.int .i64 0) (w3.alloc (.cells #[.int .u64 c.1.1, .int .u64 c.1.2, .int .i64 c.2] 31))) := Lib.hid ⟨0, rfl, by rw [HB0.out], Nat.zero_le _, by rw [← HC.out]; exact h4⟩
  obtain ⟨b7, hb7⟩ : ∃ b7, b7 = w3.heap.size := ⟨_, rfl⟩
  have HB7 := Lib.hid hb7
  clear h3 h4 HFI HC HB0 hb7
  go_wp2_with fail
  rw [← HB7.out]
  rw [← HB7.out] at HX0
  go_loopw [8, 25] (fun s8 s25 wr => XI w p vb vc kb b7 q1 q2 E s8 s25 wr) (fun _ s25 _ => E.length - (intOf s25).toNat)
  case atStart => exact HX0.out
  case round =>
    clear HX0 HB7
    obtain ⟨i, rfl, hs8, hi, h⟩ := hrel
    by_cases hlt : i < E.length
    · as_aux_lemma =>
        obtain ⟨g, cap, ev, -, -⟩ := own_cap h.swap.row (by omega)
        injection ev with e1 _ e3
        subst e1 e3
        obtain ⟨e, he⟩ : ∃ e, E[i]? = some e := ⟨_, List.getElem?_eq_getElem hlt⟩
        rw [he] at h
        obtain ⟨r0, r1, r2⟩ := row_ent h.swap.row (by omega) he
        simp only [Option.getD_some] at h
        obtain ⟨x0, x1, x2, f0, f1, f2⟩ := Own.blk3f h (.tail _ (.tail _ (.head _)))
        have hn := own_next h e.1.1 e.1.2
        rw [show nextE E (e.1.1, e.1.2) = E[i + 1]? from next_at HR.out.1 i e he, entO_getD, isSome_get] at hn
        obtain ⟨c', hc'⟩ : ∃ c', c' = E[i + 1]?.getD z0 := ⟨_, rfl⟩
        obtain ⟨B1, hB1⟩ : ∃ B1, B1 = decide (i + 1 < E.length) := ⟨_, rfl⟩
        rw [← hc', ← hB1] at hn
        have hd : decide (i < E.length) = true := by simpa using hlt
        rw [hd] at hs8
        subst hs8
        obtain ⟨L, hL⟩ : ∃ L, L = E.length := ⟨_, rfl⟩
        have hLI : (i : Int) < (L : Int) := by omega
        have i60 : (i : Int) ≤ 60 := by have := HR.out.2; omega
        rw [← hL]
        obtain ⟨⟨ea, es⟩, ev⟩ := e
        simp only at r0 r1 r2 x0 x1 x2 hn h
        have HNX : Hid (∀ n, Calls Try.prog 12 #[.pointer (some ⟨p, 0, none⟩), key ea es] (wr.drewN n) fun e w' => e = .returned (.tuple #[ent c'.1.1 c'.1.2 c'.2, .bool B1]) ∧ Own [Tree p 60 E, Row 31 3 (.slice (some ⟨g, 0, none⟩) E.length vc) E.length (ents E), Blk b7 #[.int .u64 ea, .int .u64 es, .int .i64 ev] 31, Blk kb #[.int .u64 q1, .int .u64 q2] 25, Old w] w') := Lib.hid fun n => by
          have hn := own_next (h.step ((Ext.refl wr).drewN n)) ea es
          rw [show nextE E (ea, es) = E[i + 1]? from next_at HR.out.1 i ((ea, es), ev) he, entO_getD, isSome_get, ← hc', ← hB1] at hn
          exact hn
        have HC := Lib.hid hc'
        have HB := Lib.hid hB1
        have HL := Lib.hid hL
        have hiL : i < L := by omega
        clear hn hc' hB1 hd h he hlt hi hL
        go_wp2_with fail
        go_quiet (fail)
        go_wp2_with fail
        refine (HNX.out _).mono ?_
        rintro e w5 ⟨rfl, h5⟩
        obtain ⟨w6, e6, h6⟩ := Own.blkSet3 h5.third (.int .u64 c'.1.1) (.int .u64 c'.1.2) (.int .i64 c'.2)
        obtain ⟨y0, y1, y2, g0, g1, g2⟩ := Own.blk3f h5 (.tail _ (.tail _ (.head _)))
        have HXI : Hid (XI w p (some ⟨g, 0, none⟩) vc kb b7 q1 q2 E (.bool B1) (.int .i64 ((i : Int) + 1)) w6) := Lib.hid ⟨i + 1, by go_num, by rw [HB.out], by have := HL.out; omega, by rw [← HC.out]; exact h6.back3⟩
        clear h5 h6 HNX r0 r1 r2 x0 x1 x2 f0 f1 f2
        go_wp2_with fail
        exact ⟨HXI.out, by simp [intOf]; omega⟩
    · as_aux_lemma =>
        obtain rfl : i = E.length := by omega
        have hd : decide (E.length < E.length) = false := by simp
        rw [hd] at hs8
        subst hs8
        have h2 := h.third.drop
        obtain ⟨k0, k1⟩ := Own.blk2 (b := kb) (x := .int .u64 q1) (y := .int .u64 q2) (t := 25) h2 (by simp)
        have hn := own_next h2 q1 q2
        rw [entO_getD] at hn
        obtain ⟨y, hy⟩ : ∃ y, y = (nextE E (q1, q2)).getD z0 := ⟨_, rfl⟩
        obtain ⟨bs, hbs⟩ : ∃ bs, bs = (nextE E (q1, q2)).isSome := ⟨_, rfl⟩
        rw [← hy, ← hbs] at hn
        have HNX := Lib.hid hn
        have HY := Lib.hid hy
        have HBS := Lib.hid hbs
        clear h h2 hn hy hbs hd hlt hi
        go_wp2_with fail
        refine (HNX.out).mono ?_
        rintro e w5 ⟨rfl, h5⟩
        have h6 := (Own.blkNew h5 #[.int .u64 y.1.1, .int .u64 y.1.2, .int .i64 y.2] 31).back4
        have HY0 : Hid (YI w p vb vc kb w5.heap.size q1 q2 y E (.int .i64 0) (w5.alloc (.cells #[.int .u64 y.1.1, .int .u64 y.1.2, .int .i64 y.2] 31))) := Lib.hid ⟨0, rfl, Nat.zero_le _, fun i e' hi => absurd hi (Nat.not_lt_zero i), h6⟩
        obtain ⟨b10, hb10⟩ : ∃ b10, b10 = w5.heap.size := ⟨_, rfl⟩
        have HB10 := Lib.hid hb10
        clear h5 h6 HNX k0 k1 hb10
        go_wp2_with fail
        rw [← HB10.out]
        rw [← HB10.out] at HY0
        go_loopw [55] (fun s55 wr => YI w p vb vc kb b10 q1 q2 y E s55 wr) (fun s55 _ => E.length - (intOf s55).toNat)
        case atStart => exact HY0.out
        case round =>
          clear HY0 HB10
          obtain ⟨j, rfl, hj, hno, h⟩ := hrel
          by_cases hlt : j < E.length
          · obtain ⟨g, cap, ev, -, -⟩ := own_cap h.swap.row (by omega)
            injection ev with e1 _ e3
            subst e1 e3
            obtain ⟨e, he⟩ : ∃ e, E[j]? = some e := ⟨_, List.getElem?_eq_getElem hlt⟩
            obtain ⟨r0, r1, r2⟩ := row_ent h.swap.row (by omega) he
            have hx := (Ext.refl wr).alloc (.cells #[.int .u64 e.1.1, .int .u64 e.1.2, .int .i64 e.2] 31)
            have hA := h.step hx
            obtain ⟨k0, k1⟩ := Own.blk2 (b := kb) (x := .int .u64 q1) (y := .int .u64 q2) (t := 25) hA (by simp)
            obtain ⟨B, hB⟩ : ∃ B, B = lt (q1, q2) e.1 := ⟨_, rfl⟩
            have hah : Calls Try.prog 13 #[.agg #[.int .u64 q1, .int .u64 q2], .agg #[.int .u64 e.1.1, .int .u64 e.1.2]] (wr.alloc (.cells #[.int .u64 e.1.1, .int .u64 e.1.2, .int .i64 e.2] 31)) fun e' w' => e' = .returned (.bool B) ∧ Ext (wr.alloc (.cells #[.int .u64 e.1.1, .int .u64 e.1.2, .int .i64 e.2] 31)) w' := by rw [hB]; exact ahead_any _ _ _ _ _
            have HAH := Lib.hid hah
            obtain ⟨L, hL⟩ : ∃ L, L = E.length := ⟨_, rfl⟩
            have hLI : (j : Int) < (L : Int) := by omega
            have j60 : (j : Int) ≤ 60 := by have := HR.out.2; omega
            rw [← hL]
            have HL := Lib.hid hL
            have HA := Lib.hid hA
            have hjL : j < L := by omega
            have HE := Lib.hid he
            have HNO := Lib.hid hno
            have HBB := Lib.hid hB
            clear h hA hah hx he hno hlt hj hL hB
            go_wp2_with fail
            refine (HAH.out).mono ?_
            rintro e' w7 ⟨rfl, hx7⟩
            have h7 := HA.out.step hx7
            obtain ⟨t0, t1, t2, -, -, -⟩ := three hx7
            obtain ⟨u0, u1, u2, -, -, -⟩ := Own.blk3f h7 (b := b10) (x := .int .u64 y.1.1) (y := .int .u64 y.1.2) (z := .int .i64 y.2) (t := 31) (by simp)
            have H7 := Lib.hid h7
            clear hx7 h7 HAH HA r0 r1 r2 k0 k1
            cases B with
            | true =>
              have hs := first_above (q1, q2) j e HE.out HBB.out.symm HNO.out
              have hy : y = e := by rw [HY.out, hs]; rfl
              have hb : bs = true := by rw [HBS.out, hs]; rfl
              subst hy hb
              go_wp2_with fail
              refine (awake_any H7.out).mono ?_
              rintro e' w8 ⟨rfl, h8⟩
              have H8 := Lib.hid h8
              clear h8 H7 t0 t1 t2 u0 u1 u2
              go_wp2_with fail
              go_ret
              exact ⟨rfl, H8.out.ext (by simp)⟩
            | false =>
              have HYI : Hid (YI w p (some ⟨g, 0, none⟩) vc kb b10 q1 q2 y E (.int .i64 ((j : Int) + 1)) w7) := Lib.hid ⟨j + 1, by go_num, by have := HL.out; omega, fun i e' hi hie => by
                by_cases hij : i = j
                · subst hij
                  rw [HE.out] at hie
                  injection hie with hie
                  rw [← hie]; exact HBB.out.symm
                · exact HNO.out i e' (by omega) hie, H7.out⟩
              clear H7 t0 t1 t2 u0 u1 u2
              go_wp2_with fail
              exact ⟨HYI.out, by simp [intOf]; omega⟩
          · have hnn : nextE E (q1, q2) = none := none_above (q1, q2) (fun i e' hie => hno i e' (by have := (List.getElem?_eq_some_iff.1 hie).1; omega) hie)
            have hb : bs = false := by rw [HBS.out, hnn]; rfl
            subst hb
            obtain rfl : j = E.length := by omega
            have H7 := Lib.hid h
            clear h hno hlt hj hnn
            go_wp2_with fail
            refine (awake_any H7.out).mono ?_
            rintro e' w8 ⟨rfl, h8⟩
            have H8 := Lib.hid h8
            clear h8 H7
            go_wp2_with fail
            go_ret
            exact ⟨rfl, H8.out.ext (by simp)⟩
end Go.Proofs.Ytekdahppacghbaa.Tr
