/- DERIVED. Layer 4 (arena): the document's arena: Used, Handle, Place. -/
import Derived.Test.YtekdgghekdajbaaArH
import Derived.Test.YtekdgghekdajbaaAppR
import Derived.Test.YtekdgghekdajbaaBlk
set_option linter.unusedVariables false
set_option linter.unusedSimpArgs false
set_option maxRecDepth 100000
namespace Go.Proofs.Ytekdgghekdajbaa.Ar
open Go.RowKit Go.Proofs.Ytekdgghekdajbaa

/-- how often each place was taken; whether it is -/
def tms (X : A) : List Value := X.st.map fun s => .int .i64 (((s + 1) / 2 : Nat) : Int)
def tbs (X : A) : List Value := X.st.map fun s => .bool (decide (s % 2 = 1))
theorem tms_at {X : A} {q : Nat} (h : q < X.st.length) : (tms X)[q]? = some (.int .i64 (((X.st.getD q 0 + 1) / 2 : Nat) : Int)) := by simp [tms, h, List.getD]
theorem tbs_at {X : A} {q : Nat} (h : q < X.st.length) : (tbs X)[q]? = some (.bool (decide (X.st.getD q 0 % 2 = 1))) := by simp [tbs, h, List.getD]
/-- the document's arena, as a value, tells X -/
structure Ref (X : A) (v1 v2 v3 : Value) (w : World) : Prop where
  t : ownsR w 3 1 v1 X.st.length (tms X)
  b : ownsR w 4 1 v2 X.st.length (tbs X)
  k : ownsR w 3 1 v3 X.bk.length (is X.bk)
theorem ownsR_ext {w w' : World} {e size n : Nat} {v : Value} {xs : List Value} (h : ownsR w e size v n xs) (hx : Ext w w') : ownsR w' e size v n xs :=
  ⟨h.1, by
    rcases h.2 with hn | ⟨g, cap, cur, rfl, hg, r⟩
    · exact .inl hn
    · exact .inr ⟨g, cap, cur, rfl, hx.heap hg, r⟩⟩
theorem Ref.ext {X : A} {v1 v2 v3 : Value} {w w' : World} (h : Ref X v1 v2 v3 w) (hx : Ext w w') : Ref X v1 v2 v3 w' := ⟨ownsR_ext h.t hx, ownsR_ext h.b hx, ownsR_ext h.k hx⟩
theorem used_count {N : Nat} {X : A} (h : Ok N X) : X.used = (X.st.filter fun s => decide (s % 2 = 1)).length := by
  have h1 : X.bk.length = ((List.range X.st.length).filter fun q => decide (X.st.getD q 0 % 2 = 0)).length := by
    refine List.Perm.length_eq ((List.perm_ext_iff_of_nodup h.nd (List.nodup_range.filter _)).2 fun q => ?_)
    rw [h.mem, List.mem_filter, List.mem_range, decide_eq_true_eq]
  have h2 : (X.st.filter fun s => decide (s % 2 = 0)).length = ((List.range X.st.length).filter fun q => decide (X.st.getD q 0 % 2 = 0)).length := by
    have e : X.st = (List.range X.st.length).map fun q => X.st.getD q 0 := by
      apply List.ext_getElem?
      intro i
      by_cases hi : i < X.st.length
      · simp [hi, List.getD]
      · simp [hi]
    conv => lhs; rw [e]
    rw [List.filter_map, List.length_map]
    rfl
  have h3 : X.st.length = (X.st.filter fun s => decide (s % 2 = 1)).length + (X.st.filter fun s => decide (s % 2 = 0)).length := by
    generalize X.st = l
    induction l with
    | nil => rfl
    | cons s l ih =>
      rcases Nat.mod_two_eq_zero_or_one s with hs | hs
      · simp [List.filter_cons, hs]; omega
      · simp [List.filter_cons, hs]; omega
  have := h.sum
  omega
theorem cellOf {w : World} {b o : Nat} {cs : Array Value} {t : TypeId} {u : Value} (h : w.heap[b]? = some (.cells cs t (0, 0))) (hu : cs[o]? = some u) : w.cell? ⟨b, o, none⟩ = some u := by simp [World.cell?, h, hu]
theorem box4 (w : World) (x y z u : Value) (t : TypeId) : Ext w (w.alloc (.cells #[x, y, z, u] t)) ∧ (w.alloc (.cells #[x, y, z, u] t)).cell? ⟨w.heap.size, 0, none⟩ = some x ∧ (w.alloc (.cells #[x, y, z, u] t)).cell? ⟨w.heap.size, 1, none⟩ = some y ∧ (w.alloc (.cells #[x, y, z, u] t)).cell? ⟨w.heap.size, 2, none⟩ = some z ∧ (w.alloc (.cells #[x, y, z, u] t)).cell? ⟨w.heap.size, 3, none⟩ = some u := by
  have h := heap_alloc_new w (.cells #[x, y, z, u] t)
  exact ⟨(Ext.refl w).alloc _, cellOf (o := 0) h rfl, cellOf (o := 1) h rfl, cellOf (o := 2) h rfl, cellOf (o := 3) h rfl⟩
theorem cnt_step {l : List Nat} {k s : Nat} (h : l[k]? = some s) : ((l.take (k + 1)).filter fun s => decide (s % 2 = 1)).length = ((l.take k).filter fun s => decide (s % 2 = 1)).length + (if s % 2 = 1 then 1 else 0) := by
  rw [List.take_add_one, h, Option.toList_some, List.filter_append, List.length_append]
  by_cases hs : s % 2 = 1
  · simp [hs]
  · simp [hs]
set_option maxHeartbeats 1000000 in
theorem rused_any {N : Nat} {X : A} {v1 v2 v3 : Value} {w : World} (h : Ref X v1 v2 v3 w) (ho : Ok N X) :
    Calls Try.prog 27 #[.agg #[v1, v2, v3, .int .i64 X.room]] w fun e w' => e = .returned (.int .i64 X.used) ∧ Ext w w' := by
  obtain ⟨a1, c1, rfl⟩ := h.t.slice
  obtain ⟨a2, c2, rfl⟩ := h.b.slice
  obtain ⟨a3, c3, rfl⟩ := h.k.slice
  obtain ⟨L, hL⟩ : ∃ L, L = X.st.length := ⟨_, rfl⟩
  obtain ⟨r, hr⟩ : ∃ r, r = X.room := ⟨_, rfl⟩
  have hL6 : L ≤ 65536 := by rw [hL]; exact Nat.le_trans ho.len ho.r2
  obtain ⟨U, hU⟩ : ∃ U, U = X.used := ⟨_, rfl⟩
  rw [← hU]
  rw [used_count ho] at hU
  have HU := Lib.hid hU
  obtain ⟨hx0, b0, b1, b2, b3⟩ := box4 w (.slice a1 X.st.length c1) (.slice a2 X.st.length c2) (.slice a3 X.bk.length c3) (.int .i64 X.room) 48
  rw [← hL] at hx0 b0 b1 b2 b3 ⊢
  obtain ⟨W1, hW1⟩ : ∃ W1, W1 = w.alloc (.cells #[.slice a1 L c1, .slice a2 L c2, .slice a3 X.bk.length c3, .int .i64 X.room] 48) := ⟨_, rfl⟩
  rw [← hW1] at hx0 b1
  have HB := Lib.hid b1
  have HW := Lib.hid hW1
  have HX := Lib.hid hx0
  have HR := Lib.hid (ownsR_ext h.b hx0)
  have HL := Lib.hid hL
  clear h ho hr b0 b1 b2 b3 hW1 hx0 hL hU
  go_enter Try.func27, Try.ntmps27
  go_wp2_with fail
  rw [← HW.out]
  go_loopw [3, 4] (fun v3 v4 wr => ∃ k : Nat, v4 = .int .i64 (k : Int) ∧ k ≤ L ∧ v3 = .int .i64 ((((X.st.take k).filter fun s => decide (s % 2 = 1)).length : Nat) : Int) ∧ W1 = wr) (fun _ v4 _ => L - (intOf v4).toNat)
  case atStart => exact ⟨0, rfl, Nat.zero_le _, by simp, rfl⟩
  case round =>
    obtain ⟨k, rfl, hk, hv3, rfl⟩ := hrel
    obtain ⟨c, hc⟩ : ∃ c, c = ((X.st.take k).filter fun s => decide (s % 2 = 1)).length := ⟨_, rfl⟩
    rw [← hc] at hv3
    subst hv3
    have b1 := HB.out
    by_cases hlt : k < L
    · have hltI : (k : Int) < (L : Int) := by omega
      have hkL : k < X.st.length := by rw [← HL.out]; exact hlt
      have hrow := HR.out
      rw [← HL.out] at hrow
      obtain ⟨g, cp, ev, -, -⟩ := hrow.form (by omega)
      injection ev with e1 _ e3
      subst e1 e3
      have cb := (hrow.cells rfl k _ (tbs_at hkL)).1
      have hst : X.st[k]? = some (X.st.getD k 0) := by simp [List.getD, hkL]
      have HCS := Lib.hid (cnt_step hst)
      have hck : c ≤ k := by
        rw [hc]
        exact Nat.le_trans (List.length_filter_le _ _) (by rw [List.length_take]; omega)
      have HC := Lib.hid hc
      clear hrow hst hc
      by_cases hs : X.st.getD k 0 % 2 = 1
      · have cb' : W1.cell? ⟨g, k, none⟩ = some (.bool true) := by rw [cb]; simp only [hs, decide_true]
        have HS := Lib.hid (show ((X.st.take (k + 1)).filter fun s => decide (s % 2 = 1)).length = c + 1 by rw [HCS.out, ← HC.out, if_pos hs])
        clear cb hs
        go_wp2
        exact ⟨⟨k + 1, by go_num, by omega, by rw [HS.out]; go_num, by first | rfl | trivial⟩, by simp [intOf]; omega⟩
      · have cb' : W1.cell? ⟨g, k, none⟩ = some (.bool false) := by rw [cb]; simp only [hs, decide_false]
        have HS := Lib.hid (show ((X.st.take (k + 1)).filter fun s => decide (s % 2 = 1)).length = c by rw [HCS.out, ← HC.out, if_neg hs]; rfl)
        clear cb hs
        go_wp2
        exact ⟨⟨k + 1, by go_num, by omega, by rw [HS.out], by first | rfl | trivial⟩, by simp [intOf]; omega⟩
    · obtain rfl : k = L := by omega
      have hT : X.st.take k = X.st := List.take_of_length_le (by rw [← HL.out]; exact Nat.le_refl _)
      rw [hT] at hc
      have hcu : c = U := hc.trans HU.out.symm
      subst hcu
      clear hT hc hlt hk
      go_wp2
      go_ret
      exact ⟨rfl, HX.out⟩
theorem handle_not {X : A} {q : Int} (h : ¬ (0 ≤ q ∧ q.toNat < X.st.length ∧ X.st.getD q.toNat 0 % 2 = 1)) : hb X q = false ∧ hv X q = 0 := by
  have eh : hb X q = false := by
    cases he : hb X q
    · rfl
    · exfalso
      unfold Ar.hb at he
      simp only [Bool.and_eq_true, decide_eq_true_eq] at he
      exact h ⟨he.1, he.2.1, he.2.2⟩
  refine ⟨eh, ?_⟩
  unfold hv
  rw [eh]
  simp
theorem handle_yes {X : A} {q : Nat} (hq : q < X.st.length) (h : X.st.getD q 0 % 2 = 1) : hb X (q : Int) = true ∧ hv X (q : Int) = ((X.st.getD q 0 / 2 * 4294967296 + q + 1 : Nat) : Int) := by
  have eh : hb X (q : Int) = true := by
    have h' := h
    rw [List.getD_eq_getElem?_getD, List.getElem?_eq_getElem hq, Option.getD_some] at h'
    unfold hb; simp [hq, h']
  refine ⟨eh, ?_⟩
  unfold hv
  rw [eh, Int.toNat_natCast, hdl_at h]
  simp
set_option maxHeartbeats 1000000 in
theorem rhandle_any {N : Nat} {X : A} {v1 v2 v3 : Value} {w : World} (h : Ref X v1 v2 v3 w) (ho : Ok N X) (hN : N < 4294967295) (q : Int) :
    Calls Try.prog 25 #[.agg #[v1, v2, v3, .int .i64 X.room], .int .i64 q] w fun e w' => e = .returned (.tuple #[.int .u64 (hv X q), .bool (hb X q)]) ∧ Ext w w' := by
  obtain ⟨a1, c1, rfl⟩ := h.t.slice
  obtain ⟨a2, c2, rfl⟩ := h.b.slice
  obtain ⟨a3, c3, rfl⟩ := h.k.slice
  obtain ⟨L, hL⟩ : ∃ L, L = X.st.length := ⟨_, rfl⟩
  obtain ⟨hx0, b0, b1, b2, b3⟩ := box4 w (.slice a1 X.st.length c1) (.slice a2 X.st.length c2) (.slice a3 X.bk.length c3) (.int .i64 X.room) 48
  have hL6 : L ≤ 65536 := by rw [hL]; exact Nat.le_trans ho.len ho.r2
  have HX := Lib.hid hx0
  rw [← hL] at HX ⊢
  clear b0 b1 b2 b3
  by_cases h0 : 0 ≤ q
  · obtain ⟨n, rfl⟩ := Int.eq_ofNat_of_zero_le h0
    by_cases hn : n < L
    · have hnI : (n : Int) < (L : Int) := by omega
      have hn0 : (0 : Int) ≤ (n : Int) := by omega
      have hnX : n < X.st.length := by omega
      have hrow := ownsR_ext h.b hx0
      have hrow2 := ownsR_ext h.t hx0
      rw [← hL] at hrow hrow2 hx0
      obtain ⟨g, cp, ev, -, -⟩ := hrow.form (by omega)
      injection ev with e1 _ e3
      subst e1 e3
      obtain ⟨g2, cp2, ev, -, -⟩ := hrow2.form (by omega)
      injection ev with e1 _ e3
      subst e1 e3
      have cb := (hrow.cells rfl n _ (tbs_at hnX)).1
      have ct := (hrow2.cells rfl n _ (tms_at hnX)).1
      by_cases hs : X.st.getD n 0 % 2 = 1
      · obtain ⟨e1, e2⟩ := handle_yes hnX hs
        obtain ⟨s, es⟩ : ∃ s, s = X.st.getD n 0 / 2 := ⟨_, rfl⟩
        have hts : (((X.st.getD n 0 + 1) / 2 : Nat) : Int) = (s : Int) + 1 := by omega
        have hsb : s < 4294967296 := by have := ho.bd n; omega
        rw [e1, e2, ← es]
        rw [hts] at ct
        simp only [hs, decide_true] at cb
        have c2' : ((s : Int) + 1 - 1) = (s : Int) := by omega
        have HE := Lib.hid (show ((s * 4294967296 + n + 1 : Nat) : Int) = (s : Int) * 4294967296 + (n : Int) + 1 by omega)
        rw [HE.out]
        clear h ho hrow hrow2 hx0 e1 e2 es hts hs hL
        go_enter Try.func25, Try.ntmps25
        go_wp2_with fail
        go_ret2
        exact ⟨by go_num, HX.out⟩
      · obtain ⟨e1, e2⟩ := handle_not (X := X) (q := (n : Int)) (by rw [Int.toNat_natCast]; exact fun h => hs h.2.2)
        rw [e1, e2]
        simp only [hs, decide_false] at cb
        clear h ho hrow hrow2 hx0 e1 e2 hs hL ct
        go_enter Try.func25, Try.ntmps25
        go_wp2_with fail
        go_ret2
        exact ⟨rfl, HX.out⟩
    · obtain ⟨e1, e2⟩ := handle_not (X := X) (q := (n : Int)) (by rw [Int.toNat_natCast]; exact fun h => hn (by omega))
      rw [e1, e2]
      have hnI : (L : Int) ≤ (n : Int) := by omega
      clear h ho hx0 e1 e2 hL
      go_enter Try.func25, Try.ntmps25
      go_wp2_with fail
      go_ret2
      exact ⟨rfl, HX.out⟩
  · obtain ⟨e1, e2⟩ := handle_not (X := X) (q := q) (fun h => h0 h.1)
    rw [e1, e2]
    have hqI : q < 0 := by omega
    clear h ho hx0 e1 e2 hL
    go_enter Try.func25, Try.ntmps25
    go_wp2_with fail
    go_ret2
    exact ⟨rfl, HX.out⟩
end Go.Proofs.Ytekdgghekdajbaa.Ar
