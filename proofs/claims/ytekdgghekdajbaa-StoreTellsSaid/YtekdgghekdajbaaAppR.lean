/- DERIVED. Slices of the call's own whose capacity may be less than their block has room for ('held[:k:k]'), and append to them. No Go text. -/
import Derived.Test.YtekdgghekdajbaaApp
import Derived.Deep.RegionLaw
set_option linter.unusedVariables false
set_option linter.unusedSimpArgs false
namespace Go.Proofs.Ytekdgghekdajbaa
open Go.RowKit

/-- as the kit's ownsRow, but for the capacity -/
def ownsR (w : World) (e : TypeId) (size : Nat) (v : Value) (n : Nat) (xs : List Value) : Prop :=
  xs.length = n * size ∧
  ((v = .slice none 0 0 ∧ n = 0) ∨
   ∃ g cap cur, v = .slice (some ⟨g, 0, none⟩) n cap ∧ w.heap[g]? = some (.cells cur e (0, 0)) ∧ n ≤ cap ∧ cap ≤ maxLen ∧ cap * size ≤ cur.size ∧ cur.toList.take (n * size) = xs)
theorem ownsR_of {w : World} {e size : Nat} {v : Value} {n : Nat} {xs : List Value} (h : w.ownsRow 0 e size v n xs) : ownsR w e size v n xs := by
  refine ⟨h.1, ?_⟩
  rcases h.2 with h | ⟨g, cap, cur, hv, _, hg, hc, hm, hs, ht⟩
  · exact .inl h
  · exact .inr ⟨g, cap, cur, hv, hg, hc, hm, Nat.le_of_eq hs.symm, ht⟩
theorem ownsR.cells {w : World} {e size : Nat} {v : Value} {n : Nat} {xs : List Value} (h : ownsR w e size v n xs) {g : Nat} (hg : v.ownBlock = some g) : ∀ j u, xs[j]? = some u → w.cell? ⟨g, j, none⟩ = some u ∧ w.frozen? ⟨g, j, none⟩ = false := by
  intro j u hu
  rcases h.2 with ⟨rfl, _⟩ | ⟨g', cap, cur, rfl, hgg, _, _, _, htake⟩
  · simp [Value.ownBlock] at hg
  · simp [Value.ownBlock] at hg
    subst hg
    refine ⟨?_, by simp [World.frozen?, hgg]⟩
    rw [cell_of_row w g' j cur e (0, 0) hgg]
    rw [← htake, List.getElem?_take] at hu
    split at hu
    · simpa using hu
    · cases hu
theorem ownsR.slice {w : World} {e size n : Nat} {v : Value} {xs : List Value} (h : ownsR w e size v n xs) : ∃ a c, v = .slice a n c := by
  rcases h.2 with ⟨rfl, rfl⟩ | ⟨g, cap, cur, rfl, _⟩
  · exact ⟨none, 0, rfl⟩
  · exact ⟨_, cap, rfl⟩
theorem ownsR.form {w : World} {e size n : Nat} {v : Value} {xs : List Value} (h : ownsR w e size v n xs) (hn : 0 < n) : ∃ g cap, v = .slice (some ⟨g, 0, none⟩) n cap ∧ n ≤ cap ∧ cap ≤ maxLen := by
  rcases h.2 with ⟨rfl, rfl⟩ | ⟨g, cap, cur, rfl, hg, hc, hm, _⟩
  · omega
  · exact ⟨g, cap, rfl, hc, hm⟩
/-- the first k of them, with no room behind -/
theorem ownsR.cut {w : World} {e size n g cap : Nat} {xs : List Value} (h : ownsR w e size (.slice (some ⟨g, 0, none⟩) n cap) n xs) {k c : Nat} (hk : k ≤ n) (hkc : k ≤ c) (hc : c ≤ cap) :
    ownsR w e size (.slice (some ⟨g, 0, none⟩) k c) k (xs.take (k * size)) := by
  have hl := h.1
  have hks : k * size ≤ n * size := Nat.mul_le_mul_right _ hk
  refine ⟨by rw [List.length_take]; omega, ?_⟩
  rcases h.2 with ⟨h1, _⟩ | ⟨g', cap', cur, h1, hg, hc', hm, hs, ht⟩
  · simp at h1
  · injection h1 with e1 e2 e3
    injection e1 with e1
    injection e1 with e1
    subst e1 e3
    refine .inr ⟨g, c, cur, rfl, hg, hkc, by omega, Nat.le_trans (Nat.mul_le_mul_right _ hc) hs, ?_⟩
    rw [← ht, List.take_take, Nat.min_eq_left hks]
/-- a slice of the call's own, of less capacity than its block has, perhaps -/
def RowR (e : TypeId) (size : Nat) (v : Value) (n : Nat) (xs : List Value) : HP where
  holds w s := ownsR w e size v n xs ∧ ∀ b, s b ↔ v.ownBlock = some b
  loc := fun {w w' s} h h1 h2 h3 h4 h5 => ⟨⟨h.1.1, by
    rcases h.1.2 with hn | ⟨g, cap, cur, rfl, hg, r⟩
    · exact .inl hn
    · exact .inr ⟨g, cap, cur, rfl, (h4 g ((h.2 g).2 rfl)).trans hg, r⟩⟩, h.2⟩
  bnd := fun {w s b} h hb => by
    have hb := (h.2 b).1 hb
    rcases h.1.2 with ⟨rfl, _⟩ | ⟨g, cap, cur, rfl, hg, _⟩
    · simp [Value.ownBlock] at hb
    · simp [Value.ownBlock] at hb
      subst hb
      exact (Array.getElem?_eq_some_iff.1 hg).1
theorem Own.rowR {e : TypeId} {size : Nat} {v : Value} {n : Nat} {xs : List Value} {l : List HP} {w : World} (h : Own (RowR e size v n xs :: l) w) : ownsR w e size v n xs := by
  obtain ⟨s, hP, _⟩ := h.open
  exact hP.1
theorem Own.nilRowR (e : TypeId) (size : Nat) {l : List HP} {w : World} (h : Own l w) : Own (RowR e size (.slice none 0 0) 0 [] :: l) w :=
  h.new (Ext.refl w) (s := fun _ => False) ⟨ownsR_of (World.ownsRow_nil w 0 e size), fun b => by simp [Value.ownBlock]⟩ (fun _ h => h.elim)
theorem Own.toR {e : TypeId} {size : Nat} {v : Value} {n : Nat} {xs : List Value} {l : List HP} {w : World} (h : Own (Row e size v n xs :: l) w) : Own (RowR e size v n xs :: l) w := by
  obtain ⟨s, hP, hb, K⟩ := h.open
  exact K (Step.refl s w) (s' := s) ⟨ownsR_of hP.1, hP.2⟩ (fun b hb => .inl hb)
theorem Own.rowRGrown {e : TypeId} {size : Nat} {v v0 v' : Value} {n n' : Nat} {xs xs' : List Value} {l : List HP} {w w' : World} (h : Own (RowR e size v n xs :: l) w) (hr : ownsR w' e size v' n' xs') (hv0 : v0.ownBlock = v.ownBlock) (hg : w.grownBy w' v0.ownBlock)
    (hnew : Moved w v0 v') : Own (RowR e size v' n' xs' :: l) w' := by
  obtain ⟨s, hP, hb, K⟩ := h.open
  refine K ((Step.refl s w).grown hg (fun k hk => .inl ((hP.2 k).2 (hv0 ▸ hk)))) (s' := fun b => v'.ownBlock = some b) ⟨hr, fun _ => Iff.rfl⟩ (fun b hb => ?_)
  rcases hnew with hnew | ⟨b', hb', hle⟩
  · exact .inl ((hP.2 b).2 (by rw [← hv0, ← hnew]; exact hb))
  · rw [hb'] at hb
    injection hb with hb
    exact .inr (hb ▸ hle)
section
variable {P : Program} (w : World)
theorem run_append_R (t ty e : TypeId) (i : TypeInfo) (z : Value) (size bytes : Nat) (ht : P.underlying t = some (.slice e)) (hi : P.info? e = some i) (hz : i.zero = some z)
    (hsize : i.size = size) (hby : i.bytes = bytes) (hzs : z.cells.size = size) (hsz : 0 < size)
    (v : Value) (n : Nat) (xs : List Value) (hown : ownsR w e size v n xs)
    (a : Addr) (m c : Nat) (news : List Value) (hl : news.length = m * size) (hnews : ∀ j u, news[j]? = some u → w.cell? (a.add j) = some u) (h1 : ∀ u ∈ news, u.oneCell' = true)
    (h63 : n + m ≤ maxLen) (hbytes : (n + m) * bytes ≤ 140737488355328) :
    ∃ v' w', (Builtin.append_ #[t, t] ty #[v, .slice (some a) m c]).run P w = .ok v' w' ∧ ownsR w' e size v' (n + m) (xs ++ news) ∧ w.grownBy w' v.ownBlock ∧ Moved w v v' := by
  subst hsize
  subst hby
  have hsmall : n + m ≤ 9223372036854775807 := by simp only [maxLen] at h63; omega
  have hlen : (xs ++ news).length = (n + m) * i.size := by rw [List.length_append, hown.1, hl, Nat.add_mul]
  have grown : ∀ (old : Nat), old < n + m → ∀ (row : Option Nat),
      ownsR (w.drew.alloc (.cells (xs.toArray ++ news.toArray ++ Builtin.zeroCells z.cells (grownCap w (n + m) old e - (n + m))) e)) e i.size
        (.slice (some ⟨w.heap.size, 0, none⟩) (n + m) (grownCap w (n + m) old e)) (n + m) (xs ++ news) ∧
      w.grownBy (w.drew.alloc (.cells (xs.toArray ++ news.toArray ++ Builtin.zeroCells z.cells (grownCap w (n + m) old e - (n + m))) e)) row := by
    intro old ho row
    have hge := grownCap_ge w (n + m) old e
    have hcm : grownCap w (n + m) old e ≤ maxLen := grownCap_le_maxLen w (n + m) old e h63
    refine ⟨⟨hlen, .inr ⟨w.heap.size, _, _, rfl, heap_alloc_new w.drew _, hge, hcm, Nat.le_of_eq ?_, ?_⟩⟩, ⟨rfl, rfl, rfl, by simp, fun k hk _ => (Ext.refl w).drew.alloc _ |>.block k hk⟩⟩
    · simp only [Array.size_append, List.size_toArray, size_zeroCells, hzs, hown.1, hl, ← Nat.add_mul]
      congr 1
      omega
    · simp only [Array.toList_append, List.append_assoc]
      rw [← List.append_assoc, ← hlen]
      exact List.take_left
  have hblk : ∀ k c', (Value.slice (some ⟨w.heap.size, 0, none⟩) k c').ownBlock = some w.heap.size := fun k c' => rfl
  rcases hown.2 with ⟨rfl, rfl⟩ | ⟨g, cap, cur, rfl, hg, hnc, hcm, hcs, htake⟩
  · have hx : xs = [] := List.eq_nil_of_length_eq_zero (by simpa using hown.1)
    subst hx
    by_cases hm : m = 0
    · subst hm
      have hn : news = [] := List.eq_nil_of_length_eq_zero (by simpa using hl)
      subst hn
      refine ⟨.slice none 0 0, w, ?_, ownsR_of (World.ownsRow_nil w 0 e i.size), ⟨rfl, rfl, rfl, Nat.le_refl _, fun _ _ _ => rfl⟩, Or.inl rfl⟩
      simp [Builtin.append_, run_underlying ht, sizeOf, typeInfo, hi, Builtin.lenOf, Builtin.firstCells, loadCells, loadCellsFrom]
    · have hr := run_append_nil (P := P) w t ty e i z ht hi hz a m c news hl hnews (by omega) (by omega) (by have hb := hbytes; simp only [Nat.zero_add] at hb; omega)
      have hgr := grown 0 (by omega) (Value.ownBlock (.slice none 0 0))
      simp only [Nat.zero_add, List.nil_append, Array.empty_append] at hgr ⊢
      exact ⟨_, _, hr, hgr.1, hgr.2, Or.inr ⟨_, rfl, Nat.le_refl _⟩⟩
  · by_cases hroom : n + m ≤ cap
    · have hfit : n * i.size + news.length ≤ cur.size := by rw [hl, ← Nat.add_mul]; exact Nat.le_trans (Nat.mul_le_mul_right _ hroom) hcs
      have hr := run_append_room (P := P) w t ty e i ht hi g n cap cur hg a m c news hl hnews h1 hroom hfit
      refine ⟨_, _, hr, ⟨hlen, .inr ⟨g, cap, _, rfl, setRow_heap w g cur _ e _ hg, hroom, hcm, ?_, ?_⟩⟩, ⟨rfl, rfl, rfl, by simp, fun k _ hk => setRow_other w g k _ (fun e => hk (by simp [Value.ownBlock, e]))⟩, Or.inl rfl⟩
      · simp only [List.size_toArray, List.length_append, List.length_take, List.length_drop, Array.length_toList]
        omega
      · rw [htake, ← hlen]
        exact List.take_left
    · have holds : ∀ j u, xs[j]? = some u → w.cell? ((⟨g, 0, none⟩ : Addr).add j) = some u := fun j u hu => by rw [add_plain]; exact (hown.cells (g := g) rfl j u hu).1
      have hr := run_append_grow (P := P) w t ty e i z ht hi hz ⟨g, 0, none⟩ n cap xs hown.1 holds a m c news hl hnews (by omega) (by omega) (growslice_fits (by omega) hbytes)
      have hgr := grown cap (by omega) (Value.ownBlock (.slice (some ⟨g, 0, none⟩) n cap))
      exact ⟨_, _, hr, hgr.1, hgr.2, Or.inr ⟨_, rfl, Nat.le_refl _⟩⟩
end
section
variable {P : Program} {ops : Array Oper} {rest : List Oper} {o : Oper} {a : Act} {Q : Exit → Act → World → Prop}
/-- append of what lies somewhere, m elements of it -/
theorem app_R (w : World) (hgd : o.guard = none) (s x : Operand) (t e : TypeId) (z : Value) (size bytes : Nat)
    (ho : o.op = .call { callee := .builtin .append, args := #[s, x], argTypes := #[t, t] })
    (ht : P.underlying t = some (.slice e)) (hinfo : (P.info? e).map (fun i => (i.zero, i.size, i.bytes)) = some (some z, size, bytes)) (hz : z.cells.size = size) (hs0 : 0 < size)
    (v : Value) (n : Nat) (xs : List Value) (hs : a.eval s = v) (ad : Addr) (m c : Nat) (ys : List Value) (hx : a.eval x = .slice (some ad) m c) (hys : ys.length = m * size)
    (hnews : ∀ j u, ys[j]? = some u → w.cell? (ad.add j) = some u) (h1 : ∀ u ∈ ys, u.oneCell' = true)
    (HO : ownsR w e size v n xs) (hl : n + m ≤ maxLen) (hl2 : (n + m) * bytes ≤ 140737488355328)
    (h : ∀ v1 w1, ownsR w1 e size v1 (n + m) (xs ++ ys) → w.grownBy w1 v.ownBlock → Moved w v v1 → wpList P ops Q rest (a.put o.dst v1) w1) :
    wpList P ops Q (o :: rest) a w := by
  obtain ⟨i0, hi, hzz⟩ := Option.map_eq_some_iff.1 hinfo
  simp only [Prod.mk.injEq] at hzz
  obtain ⟨hz0, hz1, hz2⟩ := hzz
  refine wpList_plain hgd fun K hK => ?_
  obtain ⟨v', w', hr, h2, h3, h4⟩ := run_append_R (P := P) w t o.type e i0 z size bytes ht hi hz0 hz1 hz2 hz hs0 v n xs HO ad m c ys hys hnews h1 hl hl2
  unfold Oper.wp execOp
  simp only [ho, resolve, invoke, builtin, Sem.run_bind, Sem.run_pure, Result.andThen_ok, List.map_toArray, List.map_cons, List.map_nil, hs, hx, hr]
  exact hK _ _ (h v' w' h2 h3 h4)
/-- the same as one step of a region that draws its order -/
theorem step_app_R {E : Prop} {K : Act → World → Prop} (w : World) (hgd : o.guard = none) (s x : Operand) (t e : TypeId) (z : Value) (size bytes : Nat)
    (ho : o.op = .call { callee := .builtin .append, args := #[s, x], argTypes := #[t, t] })
    (ht : P.underlying t = some (.slice e)) (hinfo : (P.info? e).map (fun i => (i.zero, i.size, i.bytes)) = some (some z, size, bytes)) (hz : z.cells.size = size) (hs0 : 0 < size)
    (v : Value) (n : Nat) (xs : List Value) (hs : a.eval s = v) (ad : Addr) (m c : Nat) (ys : List Value) (hx : a.eval x = .slice (some ad) m c) (hys : ys.length = m * size)
    (hnews : ∀ j u, ys[j]? = some u → w.cell? (ad.add j) = some u) (h1 : ∀ u ∈ ys, u.oneCell' = true)
    (HO : ownsR w e size v n xs) (hl : n + m ≤ maxLen) (hl2 : (n + m) * bytes ≤ 140737488355328)
    (h : ∀ v1 w1, ownsR w1 e size v1 (n + m) (xs ++ ys) → w.grownBy w1 v.ownBlock → Moved w v v1 → K (a.put o.dst v1) w1) :
    if Region.wanted o (yielded ops a.tmps) = true then Oper.wp P o a w K Q else E := by
  have hw : Region.wanted o (yielded ops a.tmps) = true := by simp [Region.wanted, hgd]
  rw [if_pos hw]
  obtain ⟨i0, hi, hzz⟩ := Option.map_eq_some_iff.1 hinfo
  simp only [Prod.mk.injEq] at hzz
  obtain ⟨hz0, hz1, hz2⟩ := hzz
  obtain ⟨v', w', hr, h2, h3, h4⟩ := run_append_R (P := P) w t o.type e i0 z size bytes ht hi hz0 hz1 hz2 hz hs0 v n xs HO ad m c ys hys hnews h1 hl hl2
  unfold Oper.wp execOp
  simp only [ho, resolve, invoke, builtin, Sem.run_bind, Sem.run_pure, Result.andThen_ok, List.map_toArray, List.map_cons, List.map_nil, hs, hx, hr]
  exact h v' w' h2 h3 h4
/-- append of nothing that is nil -/
theorem app_nil (w : World) (hgd : o.guard = none) (s x : Operand) (t e : TypeId) (z : Value) (size bytes : Nat)
    (ho : o.op = .call { callee := .builtin .append, args := #[s, x], argTypes := #[t, t] })
    (ht : P.underlying t = some (.slice e)) (hinfo : (P.info? e).map (fun i => (i.zero, i.size, i.bytes)) = some (some z, size, bytes))
    (v : Value) (n : Nat) (xs : List Value) (hs : a.eval s = v) (hx : a.eval x = .slice none 0 0)
    (HO : ownsR w e size v n xs)
    (h : wpList P ops Q rest (a.put o.dst v) w) :
    wpList P ops Q (o :: rest) a w := by
  obtain ⟨i0, hi, hzz⟩ := Option.map_eq_some_iff.1 hinfo
  refine wpList_plain hgd fun K hK => ?_
  have hr : (Builtin.append_ #[t, t] o.type #[v, .slice none 0 0]).run P w = .ok v w := by
    rcases HO.2 with ⟨rfl, rfl⟩ | ⟨g, cap, cur, rfl, hg, hnc, hcm, hcs, htake⟩
    · simp [Builtin.append_, run_underlying ht, sizeOf, typeInfo, hi, Builtin.lenOf, Builtin.firstCells, loadCells, loadCellsFrom]
    · simp [Builtin.append_, run_underlying ht, sizeOf, typeInfo, hi, Builtin.lenOf, Builtin.firstCells, loadCells, loadCellsFrom, hnc, storeCells]
  unfold Oper.wp execOp
  simp only [ho, resolve, invoke, builtin, Sem.run_bind, Sem.run_pure, Result.andThen_ok, List.map_toArray, List.map_cons, List.map_nil, hs, hx, hr]
  exact hK _ _ h
/-- append of one element, behind the variadic's own block -/
theorem app_R1 {W : World} (hgd : o.guard = none) (s x : Operand) (t e : TypeId) (z : Value) (size bytes : Nat)
    (ho : o.op = .call { callee := .builtin .append, args := #[s, x], argTypes := #[t, t] })
    (ht : P.underlying t = some (.slice e)) (hinfo : (P.info? e).map (fun i => (i.zero, i.size, i.bytes)) = some (some z, size, bytes)) (hz : z.cells.size = size) (hs0 : 0 < size) (hb0 : 0 < bytes)
    (v : Value) (n : Nat) (xs ys : List Value) (hs : a.eval s = v) (k : Nat) (hk : k = W.heap.size) (hx : a.eval x = .slice (some ⟨k, 0, none⟩) 1 1) (hys : ys.length = size) (h1 : ∀ u ∈ ys, u.oneCell' = true)
    (HO : ownsR W e size v n xs) (hl : (n + 1) * bytes ≤ 140737488355328)
    (h : ∀ v1 w1, ownsR w1 e size v1 (n + 1) (xs ++ ys) → W.grownBy w1 v.ownBlock → Moved W v v1 → wpList P ops Q rest (a.put o.dst v1) w1) :
    wpList P ops Q (o :: rest) a (W.alloc (.cells ys.toArray e)) := by
  subst hk
  have hlen : n + 1 ≤ 140737488355328 := Nat.le_trans (Nat.le_mul_of_pos_right _ hb0) hl
  have HO' : ownsR (W.alloc (.cells ys.toArray e)) e size v n xs := by
    refine ⟨HO.1, ?_⟩
    rcases HO.2 with hn | ⟨g, cap, cur, rfl, hg, r⟩
    · exact .inl hn
    · exact .inr ⟨g, cap, cur, rfl, ((Ext.refl W).alloc _).heap hg, r⟩
  refine app_R (W.alloc (.cells ys.toArray e)) hgd s x t e z size bytes ho ht hinfo hz hs0 v n xs hs ⟨W.heap.size, 0, none⟩ 1 1 ys hx (by rw [hys]; simp)
    (by simpa using World.news_of_block (cs := ys.toArray) (t := e) (fr := (0, 0)) (heap_alloc_new W (.cells ys.toArray e))) h1 HO' (by simp only [maxLen]; omega) hl ?_
  intro v1 w1 hown hg hat
  refine h v1 w1 hown (World.grownBy.trans (World.grownBy_alloc W _ _) hg) ?_
  rcases hat with hat | ⟨b, hat, hb⟩
  · exact .inl hat
  · exact .inr ⟨b, hat, by simp at hb; omega⟩
end
end Go.Proofs.Ytekdgghekdajbaa
