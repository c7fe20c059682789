/- DERIVED. Layer 4 (arena): the document's arena: copied. -/
import Derived.Test.YtekdgghekdajbaaA4B
import Derived.Deep.Cut
set_option linter.unusedVariables false
set_option linter.unusedSimpArgs false
set_option maxRecDepth 100000
namespace Go.Proofs.Ytekdgghekdajbaa.Ar
open Go.RowKit Go.Proofs.Ytekdgghekdajbaa

section
variable {P : Program} {ops : Array Oper} {rest : List Oper} {o : Oper} {a : Act} {Q : Exit → Act → World → Prop}
/-- append([]T{}, x...): a copy in memory of its own -/
theorem app_fresh (w : World) (hgd : o.guard = none) (s x : Operand) (t e : TypeId) (z : Value) (size bytes : Nat)
    (ho : o.op = .call { callee := .builtin .append, args := #[s, x], argTypes := #[t, t] })
    (ht : P.underlying t = some (.slice e)) (hinfo : (P.info? e).map (fun i => (i.zero, i.size, i.bytes)) = some (some z, size, bytes)) (hz : z.cells.size = size) (hs0 : 0 < size)
    (k : Nat) (hs : a.eval s = .slice (some ⟨k, 0, none⟩) 0 0) (hk : ownsR w e size (.slice (some ⟨k, 0, none⟩) 0 0) 0 []) (v : Value) (n : Nat) (xs : List Value) (hx : a.eval x = v) (hv : ownsR w e size v n xs) (h1 : ∀ u ∈ xs, u.oneCell' = true)
    (hl : n ≤ maxLen) (hl2 : n * bytes ≤ 140737488355328)
    (h : ∀ v1 w1, ownsR w1 e size v1 n xs → w.grownBy w1 (Value.slice (some ⟨k, 0, none⟩) 0 0).ownBlock → Moved w (.slice (some ⟨k, 0, none⟩) 0 0) v1 → wpList P ops Q rest (a.put o.dst v1) w1) :
    wpList P ops Q (o :: rest) a w := by
  have hv' := hv
  rcases hv.2 with ⟨rfl, rfl⟩ | ⟨g, cap, cur, rfl, hg, hnc, hcm, hcs, htake⟩
  · have hxs : xs = [] := List.eq_nil_of_length_eq_zero (by simpa using hv.1)
    subst hxs
    exact app_nil w hgd s x t e z size bytes ho ht hinfo _ 0 [] hs hx hk (h _ _ hk ⟨rfl, rfl, rfl, Nat.le_refl _, fun _ _ _ => rfl⟩ (.inl rfl))
  · refine app_R w hgd s x t e z size bytes ho ht hinfo hz hs0 _ 0 [] hs ⟨g, 0, none⟩ n cap xs hx hv.1 (fun j u hj => by rw [add_plain]; exact (hv'.cells rfl j u hj).1) h1 hk (by omega) (by rw [Nat.zero_add]; exact hl2) ?_
    intro v1 w1 q1 q2 q3
    rw [Nat.zero_add, List.nil_append] at q1
    exact h v1 w1 q1 q2 q3
end
theorem Own.emptyNew (e : TypeId) (size : Nat) {l : List HP} {w : World} (h : Own l w) : Own (RowR e size (.slice (some ⟨w.heap.size, 0, none⟩) 0 0) 0 [] :: l) (w.alloc (.cells #[] e)) :=
  h.new ((Ext.refl w).alloc _) (P := RowR e size (.slice (some ⟨w.heap.size, 0, none⟩) 0 0) 0 []) (s := fun b => b = w.heap.size)
    ⟨⟨by simp, .inr ⟨w.heap.size, 0, #[], rfl, heap_alloc_new w _, Nat.le_refl _, by simp [maxLen], by simp, by simp⟩⟩, fun b => by simp [Value.ownBlock, eq_comm]⟩ (fun b hb => by rw [hb]; exact Nat.le_refl _)
theorem tms_one (X : A) : ∀ u ∈ tms X, u.oneCell' = true := by
  intro u hu
  obtain ⟨s, _, rfl⟩ := List.mem_map.1 hu
  rfl
theorem tbs_one (X : A) : ∀ u ∈ tbs X, u.oneCell' = true := by
  intro u hu
  obtain ⟨s, _, rfl⟩ := List.mem_map.1 hu
  rfl
theorem is_one (l : List Nat) : ∀ u ∈ is l, u.oneCell' = true := by
  intro u hu
  obtain ⟨s, _, rfl⟩ := List.mem_map.1 hu
  rfl
theorem setBox {w : World} {b o : Nat} {cs : Array Value} {t : TypeId} {l : List HP} (h : Own (Blk b cs t :: l) w) (v : Value) : Own (Blk b (cs.setIfInBounds o v) t :: l) (w.setCell ⟨b, o, none⟩ v) := h.blkSet v
/-- the document's arena, owned -/
abbrev RT (X : A) (v1 : Value) : HP := RowR 3 1 v1 X.st.length (tms X)
abbrev RB (X : A) (v2 : Value) : HP := RowR 4 1 v2 X.st.length (tbs X)
abbrev RK (X : A) (v3 : Value) : HP := RowR 3 1 v3 X.bk.length (is X.bk)
abbrev BX (b : Nat) (v1 v2 v3 r : Value) : HP := Blk b #[v1, v2, v3, r] 48
theorem bx_cells {w : World} {b : Nat} {x y z u : Value} {l : List HP} (h : Own l w) (hm : BX b x y z u ∈ l) :
    w.cell? ⟨b, 0, none⟩ = some x ∧ w.cell? ⟨b, 1, none⟩ = some y ∧ w.cell? ⟨b, 2, none⟩ = some z ∧ w.cell? ⟨b, 3, none⟩ = some u ∧ w.frozen? ⟨b, 0, none⟩ = false ∧ w.frozen? ⟨b, 1, none⟩ = false ∧ w.frozen? ⟨b, 2, none⟩ = false ∧ w.frozen? ⟨b, 3, none⟩ = false := by
  obtain ⟨a0, a1, a2, a3, hf⟩ := Own.blk4 h hm
  exact ⟨a0, a1, a2, a3, hf 0, hf 1, hf 2, hf 3⟩
theorem bx_set0 {w : World} {b : Nat} {x y z u : Value} {l : List HP} (h : Own (BX b x y z u :: l) w) (v : Value) : Own (BX b v y z u :: l) (w.setCell ⟨b, 0, none⟩ v) := Own.blkSet (o := 0) h v
theorem bx_set1 {w : World} {b : Nat} {x y z u : Value} {l : List HP} (h : Own (BX b x y z u :: l) w) (v : Value) : Own (BX b x v z u :: l) (w.setCell ⟨b, 1, none⟩ v) := Own.blkSet (o := 1) h v
theorem bx_set2 {w : World} {b : Nat} {x y z u : Value} {l : List HP} (h : Own (BX b x y z u :: l) w) (v : Value) : Own (BX b x y v u :: l) (w.setCell ⟨b, 2, none⟩ v) := Own.blkSet (o := 2) h v
theorem bx_set3 {w : World} {b : Nat} {x y z u : Value} {l : List HP} (h : Own (BX b x y z u :: l) w) (v : Value) : Own (BX b x y z v :: l) (w.setCell ⟨b, 3, none⟩ v) := Own.blkSet (o := 3) h v
theorem bx_all {w : World} {b : Nat} {x y z u : Value} {l : List HP} (h : Own (BX b x y z u :: l) w) (a0 a1 a2 a3 : Value) :
    ∃ w1, ((((w.setCell ⟨b, 0, none⟩ a0).setCell ⟨b, 1, none⟩ a1).setCell ⟨b, 2, none⟩ a2).setCell ⟨b, 3, none⟩ a3) = w1 ∧ Own (BX b a0 a1 a2 a3 :: l) w1 := ⟨_, rfl, bx_set3 (bx_set2 (bx_set1 (bx_set0 h a0) a1) a2) a3⟩
theorem OwnIn.fifth5 {P Q R S T : HP} {l : List HP} {w : World} {U : Nat → Prop} (h : OwnIn (P :: Q :: R :: S :: T :: l) w U) : OwnIn (T :: P :: Q :: R :: S :: l) w U := (h.tail OwnIn.fourth).swap
theorem Own.sixth6 {P Q R S T V : HP} {l : List HP} {w : World} (h : Own (P :: Q :: R :: S :: T :: V :: l) w) : Own (V :: P :: Q :: R :: S :: T :: l) w := (h.tail OwnIn.fifth5).swap
set_option maxHeartbeats 1000000 in
theorem rcopied_any {N : Nat} {X : A} {v1 v2 v3 : Value} {l : List HP} {w : World} (h : Own (RT X v1 :: RB X v2 :: RK X v3 :: l) w) (ho : Ok N X) :
    Calls Try.prog 44 #[.agg #[v1, v2, v3, .int .i64 X.room]] w fun e w' => ∃ u1 u2, e = .returned (.agg #[u1, u2, v3, .int .i64 X.room]) ∧ Own (RT X u1 :: RB X u2 :: RK X v3 :: l) w' := by
  obtain ⟨a3, c3, rfl⟩ := h.third.rowR.slice
  obtain ⟨a1, c1, rfl⟩ := h.rowR.slice
  obtain ⟨a2, c2, rfl⟩ := h.second.rowR.slice
  obtain ⟨L, hL⟩ : ∃ L, L = X.st.length := ⟨_, rfl⟩
  have hL6 : L ≤ 65536 := by rw [hL]; exact Nat.le_trans ho.len ho.r2
  have h1 := Own.blkNew (Own.blkNew h #[.slice a1 X.st.length c1, .slice a2 X.st.length c2, .slice a3 X.bk.length c3, .int .i64 X.room] 48) #[.slice none 0 0, .slice none 0 0, .slice none 0 0, .int .i64 0] 48
  rw [show (w.alloc (.cells #[.slice a1 X.st.length c1, .slice a2 X.st.length c2, .slice a3 X.bk.length c3, .int .i64 X.room] 48)).heap.size = w.heap.size + 1 by simp] at h1
  rw [← hL] at h1 ⊢
  obtain ⟨W1, hW1⟩ : ∃ W1, W1 = (w.alloc (.cells #[.slice a1 L c1, .slice a2 L c2, .slice a3 X.bk.length c3, .int .i64 X.room] 48)).alloc (.cells #[.slice none 0 0, .slice none 0 0, .slice none 0 0, .int .i64 0] 48) := ⟨_, rfl⟩
  rw [← hW1] at h1
  have HW := Lib.hid hW1
  have HL := Lib.hid hL
  have h2 := Own.emptyNew 3 1 h1
  obtain ⟨b0, b1, b2, b3, f0, f1, -, -⟩ := bx_cells (b := w.heap.size) h2 (.tail _ (.tail _ (.head _)))
  have H2 := Lib.hid h2
  have HT1 := Lib.hid (tms_one X)
  have HB1 := Lib.hid (tbs_one X)
  clear h h1 h2 ho hL hW1
  go_enter Try.func44, Try.ntmps44
  go_upto_region 1 with fail
  rw [← HW.out]
  clear HW
  have M1 : Hid (L ≤ maxLen) := Lib.hid (by simp only [maxLen]; omega)
  have M2 : Hid (L * 8 ≤ 140737488355328) := Lib.hid (by omega)
  have M3 : Hid (L * 1 ≤ 140737488355328) := Lib.hid (by omega)
  have HI3 := Lib.hid info3
  have HI4 := Lib.hid info4
  go_wp2_with (first
    | (at_builtin; refine app_fresh _ rfl _ _ _ _ _ 1 8 rfl Try.underlying41 HI3.out rfl (by omega) W1.heap.size rfl H2.out.rowR (.slice a1 L c1) L (tms X) rfl (by have h := H2.out.fourth.rowR; rw [← HL.out] at h; exact h) HT1.out M1.out M2.out ?_
       intro u1 w3 hown hgrow hmv
       have h3 := H2.out.rowRGrown hown rfl hgrow hmv
       obtain ⟨b0, b1, b2, b3, f0, f1, -, -⟩ := bx_cells (b := w.heap.size) h3 (.tail _ (.tail _ (.head _)))
       obtain ⟨p1, d1, rfl⟩ := h3.rowR.slice
       have h4 := bx_set0 h3.third (.slice p1 L d1)
       have h5 := Own.emptyNew 4 1 h4
       obtain ⟨w4, hw4⟩ : ∃ w4, w3.setCell ⟨w.heap.size, 0, none⟩ (.slice p1 L d1) = w4 := ⟨_, rfl⟩
       rw [hw4] at h5
       obtain ⟨e0, e1, e2, e3, -, -, -, -⟩ := bx_cells (b := w.heap.size) h5 (.tail _ (.head _))
       have H5 := Lib.hid h5
       clear hown hgrow hmv h3 h4 h5 e0)
    | (at_builtin; refine app_fresh _ rfl _ _ _ _ _ 1 1 rfl Try.underlying25 HI4.out rfl (by omega) w4.heap.size rfl H5.out.rowR (.slice a2 L c2) L (tbs X) rfl (by have h := (Own.sixth6 H5.out).rowR; rw [← HL.out] at h; exact h) HB1.out M1.out M3.out ?_
       intro u2 w5 hown hgrow hmv
       have h6 := H5.out.rowRGrown hown rfl hgrow hmv
       obtain ⟨p2, d2, rfl⟩ := h6.rowR.slice
       have h7 := bx_set1 h6.swap (.slice p2 L d2)
       obtain ⟨w6, hw6⟩ : ∃ w6, w5.setCell ⟨w.heap.size, 1, none⟩ (.slice p2 L d2) = w6 := ⟨_, rfl⟩
       rw [hw6] at h7
       obtain ⟨k0, k1, k2, k3, g0, g1, g2, g3⟩ := bx_cells (b := w.heap.size) h6 (.tail _ (.head _))
       obtain ⟨e0, e1, e2, e3, -, -, -, -⟩ := bx_cells (b := w.heap.size) h7 (.head _)
       obtain ⟨z0, z1, z2, z3, y0, y1, y2, y3⟩ := bx_cells (b := w.heap.size + 1) h7 (.tail _ (.tail _ (.tail _ (.head _))))
       obtain ⟨w7, hw7, h8⟩ := bx_all h7.drop.third (.slice p1 L d1) (.slice p2 L d2) (.slice a3 X.bk.length c3) (.int .i64 X.room)
       obtain ⟨r0, r1, r2, r3, -, -, -, -⟩ := bx_cells (b := w.heap.size + 1) h8 (.head _)
       have HF := Lib.hid h8.drop.third.drop.third.drop.swap
       have HRR := Lib.hid (And.intro r0 (And.intro r1 (And.intro r2 r3)))
       clear hown hgrow hmv h6 h7 h8 r0 r1 r2 r3))
  obtain ⟨r0, r1, r2, r3⟩ := HRR.out
  exact bodyPost_ret (v := .agg #[.slice p1 L d1, .slice p2 L d2, .slice a3 X.bk.length c3, .int .i64 X.room]) (by simp [results, Try.results44, go_sem, r0, r1, r2, r3]) rfl ⟨_, _, rfl, by
    have h := HF.out
    rw [show RT X (.slice p1 L d1) = RowR 3 1 (.slice p1 L d1) L (tms X) by rw [HL.out], show RB X (.slice p2 L d2) = RowR 4 1 (.slice p2 L d2) L (tbs X) by rw [HL.out]]
    exact h⟩
end Go.Proofs.Ytekdgghekdajbaa.Ar
