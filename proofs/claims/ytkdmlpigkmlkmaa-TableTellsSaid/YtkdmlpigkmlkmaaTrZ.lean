/- DERIVED. Merged by wip/mergeset.py from XTrK XTrL XTrM XTrN XTrO XTrP XTrQ XTrS XTrT XR6A. -/
import Derived.Test.YtkdmlpigkmlkmaaTrF
import Derived.Test.YtkdmlpigkmlkmaaOwn
import Derived.BigRegion
import Derived.Test.YtkdmlpigkmlkmaaTrI
import Derived.LoopN
import Derived.Test.YtkdmlpigkmlkmaaAppR
import Derived.Test.YtkdmlpigkmlkmaaBlk
import Derived.RegionTactic
--  DERIVED. Layer 6 (tree): contracts of entry, Get, First, Next. 
set_option linter.unusedVariables false
set_option linter.unusedSimpArgs false
set_option maxRecDepth 100000
namespace Go.Proofs.Ytkdmlpigkmlkmaa.Tr
open Go.RowKit Go.Proofs.Ytkdmlpigkmlkmaa Go.Proofs.Ytkdmlpigkmlkmaa.TreeP

section
variable {p g cap many room : Nat} {fr : Value} {S : TS} {w : World}
abbrev ent (a s v : Int) : Value := .agg #[.int .u64 a, .int .u64 s, .int .i64 v]
theorem entry_none (p : Nat) (w : World) : Calls Try.prog 103 #[.pointer (some ⟨p, 0, none⟩), .int .i64 0] w fun e w' => e = .returned (.tuple #[ent 0 0 0, .bool false]) ∧ Ext w w' := by
  go_enter Try.func103, Try.ntmps103
  go_wp2
  exact bodyPost_ret (v := .tuple #[ent 0 0 0, .bool false]) (by simp [results, Try.results103, go_sem]) rfl ⟨rfl, (Ext.refl _).alloc _⟩
theorem entry_some (h : TW p g cap fr many room S w) (x : Nat) (hx : x < S.n.length) (hx0 : x ≠ 0) :
    Calls Try.prog 103 #[.pointer (some ⟨p, 0, none⟩), .int .i64 x] w fun e w' => e = .returned (.tuple #[ent (S.nd x).a (S.nd x).s (S.nd x).v, .bool true]) ∧ Ext w w' := by
  have h' := h.ext ((Ext.refl w).alloc (.cells #[.int .u64 0, .int .u64 0, .int .i64 0] 132))
  have c0 := h'.c0
  have ca := h'.a hx
  have cs := h'.s hx
  have cv := h'.v hx
  clear h'
  obtain ⟨a, ea⟩ : ∃ a, a = (S.nd x).a := ⟨_, rfl⟩
  obtain ⟨s, es⟩ : ∃ s, s = (S.nd x).s := ⟨_, rfl⟩
  obtain ⟨v, ev⟩ : ∃ v, v = (S.nd x).v := ⟨_, rfl⟩
  obtain ⟨N, hN⟩ : ∃ N, N = S.n.length := ⟨_, rfl⟩
  rw [← ea] at ca
  rw [← es] at cs
  rw [← ev] at cv
  rw [← hN] at c0 hx
  rw [← ea, ← es, ← ev]
  have x1 : (x : Int) < N := by omega
  have x2 : ((x : Int) == 0) = false := by simp; omega
  have hp : p ≠ w.heap.size := by
    have := (Array.getElem?_eq_some_iff.1 h.obj).1
    omega
  have hg : g ≠ w.heap.size := by
    have := (h.row.lt g rfl).2
    omega
  have hp' := Ne.symm hp
  have hg' := Ne.symm hg
  clear ea es ev hN h hx0
  go_enter Try.func103, Try.ntmps103
  go_wp2_with fail
  go_region
  go_wp2_with fail
  exact bodyPost_ret (v := .tuple #[ent a s v, .bool true]) (by simp [results, Try.results103, go_sem]) rfl ⟨rfl, ((Ext.refl _).alloc _).drew⟩
theorem entry_any (h : TW p g cap fr many room S w) (h0 : S.nd 0 = Nd.zero) (x : Nat) (hx : x < S.n.length) :
    Calls Try.prog 103 #[.pointer (some ⟨p, 0, none⟩), .int .i64 x] w fun e w' => e = .returned (.tuple #[ent (S.nd x).a (S.nd x).s (S.nd x).v, .bool (!(x == 0))]) ∧ Ext w w' := by
  by_cases hx0 : x = 0
  · subst hx0
    rw [h0]
    exact entry_none p w
  · have e : (!(x == 0)) = true := by simp [hx0]
    rw [e]
    exact entry_some h x hx hx0
theorem get_any (h : TW p g cap fr many room S w) (hr : Rng S) (a s : Int) (z l : Nat) (hf : ∃ k, TreeP.find k S (a, s) S.root 0 = some (z, l)) (hz : z < S.n.length) :
    Calls Try.prog 77 #[.pointer (some ⟨p, 0, none⟩), .agg #[.int .u64 a, .int .u64 s]] w fun e w' => e = .returned (.tuple #[.int .i64 (if z = 0 then 0 else (S.nd z).v), .bool (!(z == 0))]) ∧ Ext w w' := by
  have e1 := (Ext.refl w).alloc (.cells #[.int .u64 a, .int .u64 s] 130)
  have HF := Lib.hid (find_any (h.ext e1) hr a s (z, l) hf)
  have HT := Lib.hid (h.ext e1)
  have E1 := Lib.hid e1
  obtain ⟨N, hN⟩ : ∃ N, N = S.n.length := ⟨_, rfl⟩
  by_cases hz0 : z = 0
  · subst hz0
    clear h e1 hf hN hz
    go_enter Try.func77, Try.ntmps77
    go_wp2_with (first
      | (go_at_call 91; refine (no_any HT.out).mono ?_; rintro e w' ⟨rfl, rfl⟩)
      | (go_at_call 92; refine (HF.out).mono ?_; rintro e w2 ⟨rfl, h2, hx2⟩))
    go_ret2
    exact ⟨by simp, E1.out.trans hx2⟩
  · have z2 : ((z : Int) == 0) = false := by simp; omega
    have e0 : (z == 0) = false := by simp [hz0]
    rw [← hN] at hz
    have z1 : (z : Int) < N := by omega
    have HN := Lib.hid hN
    have HZ := Lib.hid hz0
    rw [if_neg hz0, e0]
    obtain ⟨v, ev⟩ : ∃ v, v = (S.nd z).v := ⟨_, rfl⟩
    rw [← ev]
    have EV := Lib.hid ev
    clear h e1 hf hN ev hz0 e0
    go_enter Try.func77, Try.ntmps77
    go_wp2_with (first
      | (go_at_call 91; refine (no_any HT.out).mono ?_; rintro e w' ⟨rfl, rfl⟩)
      | (go_at_call 92; refine (HF.out).mono ?_; rintro e w2 ⟨rfl, h2, hx2⟩; have c0 := h2.c0; rw [← HN.out] at c0; have cv := h2.v (i := z) (by rw [← HN.out]; exact hz); rw [← EV.out] at cv; clear h2))
    go_ret2
    exact ⟨rfl, E1.out.trans hx2⟩
/-- a new block of three cells, and what lies behind -/
theorem three {w w2 : World} {a b c : Value} {t : TypeId} (k : Ext (w.alloc (.cells #[a, b, c] t)) w2) :
    w2.cell? ⟨w.heap.size, 0, none⟩ = some a ∧ w2.cell? ⟨w.heap.size, 1, none⟩ = some b ∧ w2.cell? ⟨w.heap.size, 2, none⟩ = some c ∧ w2.frozen? ⟨w.heap.size, 0, none⟩ = false ∧ w2.frozen? ⟨w.heap.size, 1, none⟩ = false ∧ w2.frozen? ⟨w.heap.size, 2, none⟩ = false := by
  have hb := k.heap (heap_alloc_new w (.cells #[a, b, c] t))
  simp [World.cell?, World.frozen?, hb]
def LMF (N : Nat) (S : TS) (yf : Nat) (y : Value) (k : Nat) : Prop := ∃ y' : Nat, y = .int .i64 (y' : Int) ∧ y' < N ∧ TreeP.leftmost k S y' = some yf
open Classical in
end
end Go.Proofs.Ytkdmlpigkmlkmaa.Tr
--  DERIVED. Layer 6 (tree): contracts of Next, order, All. 
set_option linter.unusedVariables false
set_option linter.unusedSimpArgs false
set_option maxRecDepth 100000
namespace Go.Proofs.Ytkdmlpigkmlkmaa.Tr
open Go.RowKit Go.Proofs.Ytkdmlpigkmlkmaa Go.Proofs.Ytkdmlpigkmlkmaa.TreeP

def NI (p g cap : Nat) (fr : Value) (many room N : Nat) (S : TS) (kb : Nat) (a s : Int) (w0 : World) (y : Nat) (best x : Value) (wr : World) (k : Nat) : Prop :=
  ∃ x' b' : Nat, x = .int .i64 (x' : Int) ∧ best = .int .i64 (b' : Int) ∧ TW p g cap fr many room S wr ∧ Ext ((w0.alloc (.cells #[.int .u64 a, .int .u64 s] 130)).alloc (.cells #[.int .u64 0, .int .u64 0, .int .i64 0] 132)) wr ∧ x' < N ∧
    wr.cell? ⟨kb, 0, none⟩ = some (.int .u64 a) ∧ wr.cell? ⟨kb, 1, none⟩ = some (.int .u64 s) ∧ TreeP.nextN k S (a, s) x' b' = some y ∧ kb = w0.heap.size
section
variable {p g cap many room : Nat} {fr : Value} {S : TS} {w : World}
end
end Go.Proofs.Ytkdmlpigkmlkmaa.Tr
--  DERIVED. Layer 6 (tree): what a tree is to those who use it: its entries, rising. Plain facts: links stay in the array; what a put and a drop make of the entries. 
set_option linter.unusedVariables false
set_option linter.unusedSimpArgs false
set_option maxRecDepth 100000
namespace Go.Proofs.Ytkdmlpigkmlkmaa.Tr
open Go.RowKit Go.Proofs.Ytkdmlpigkmlkmaa Go.Proofs.Ytkdmlpigkmlkmaa.TreeP

theorem settle_rng : ∀ (k : Nat) (S : TS) (z : Nat) (Sf : TS), Rng S → z < S.n.length → TreeP.settle k S z = some Sf → Rng Sf
  | 0, _, _, _, _, _, h => by simp [TreeP.settle] at h
  | k + 1, S, z, Sf, hr, hz, h => by
    unfold TreeP.settle at h
    simp only at h
    have hp : (S.nd z).up < S.n.length := hr.up z
    have hg : (S.nd (S.nd z).up).up < S.n.length := hr.up _
    by_cases h1 : (S.nd (S.nd z).up).red = true
    · rw [if_pos h1] at h
      by_cases h2 : (S.nd ((S.nd (S.nd (S.nd z).up).up).kid (!side S (S.nd z).up))).red = true
      · rw [if_pos h2] at h
        refine settle_rng k _ _ _ (((hr.sred false hp).sred false ?_).sred true ?_) ?_ h
        · simp only [len_upd]; exact hr.kid _ _
        · simp only [len_upd]; exact hg
        · simp only [len_upd]; exact hg
      · rw [if_neg h2] at h
        by_cases h3 : side S z = side S (S.nd z).up
        · simp only [h3, if_true] at h
          refine settle_rng k _ _ _ (Rng.turn ((hr.sred false hp).sred true ?_) _ ?_).1 ?_ h
          · simp only [len_upd]; exact hg
          · simp only [len_upd]; exact hg
          · rw [turn_len]; simp only [len_upd]; exact hz
        · simp only [h3, if_false] at h
          obtain ⟨r1, l1⟩ := hr.turn (x := (S.nd z).up) (side S (S.nd z).up) hp
          refine settle_rng k _ _ _ (Rng.turn ((r1.sred false (r1.up _)).sred true ?_) _ ?_).1 ?_ h
          · simp only [len_upd]; rw [l1]; exact hg
          · simp only [len_upd]; rw [l1]; exact hg
          · rw [turn_len]; simp only [len_upd]; rw [l1]; exact hp
    · rw [if_neg h1] at h
      injection h with h
      rw [← h]
      exact hr.sred false hr.root
theorem lift_rng : ∀ (k : Nat) (S : TS) (x : Nat) (Sf : TS), Rng S → x < S.n.length → TreeP.lift k S x = some Sf → Rng Sf
  | 0, _, _, _, _, _, h => by simp [TreeP.lift] at h
  | k + 1, S, x, Sf, hr, hx, h => by
    by_cases hg : x ≠ S.root ∧ (S.nd x).red = false
    · rw [lift_succ k S x hg] at h
      generalize hd : (!((S.nd (S.nd x).up).k0 == x)) = d at h
      generalize hp : (S.nd x).up = p at h
      have hpl : p < S.n.length := by rw [← hp]; exact hr.up x
      obtain ⟨S1, e1⟩ : ∃ S1, S1 = (if (S.nd ((S.nd p).kid (!d))).red then turn ((S.upd ((S.nd p).kid (!d)) (Nd.setRed false)).upd p (Nd.setRed true)) p d else S) := ⟨_, rfl⟩
      rw [← e1] at h
      have hr1 : Rng S1 ∧ S1.n.length = S.n.length := by
        rw [e1]
        split
        · have := Rng.turn ((hr.sred false (hr.kid p (!d))).sred (i := p) true (by simp only [len_upd]; exact hpl)) d (x := p) (by simp only [len_upd]; exact hpl)
          exact ⟨this.1, by rw [this.2]; simp⟩
        · exact ⟨hr, rfl⟩
      obtain ⟨r1, l1⟩ := hr1
      clear e1
      unfold liftB at h
      simp only at h
      obtain ⟨v, ev⟩ : ∃ v, v = (S1.nd p).kid (!d) := ⟨_, rfl⟩
      rw [← ev] at h
      have hv : v < S1.n.length := by rw [ev]; exact r1.kid p _
      by_cases hb : (S1.nd ((S1.nd v).kid false)).red = false ∧ (S1.nd ((S1.nd v).kid true)).red = false
      · simp only [hb, and_self, ↓reduceIte] at h
        exact lift_rng k _ _ _ (r1.sred true hv) (by simp only [len_upd]; omega) h
      · rw [if_neg hb] at h
        obtain ⟨S2, e2⟩ : ∃ S2, S2 = (if (S1.nd ((S1.nd v).kid (!d))).red then S1 else turn ((S1.upd ((S1.nd v).kid d) (Nd.setRed false)).upd v (Nd.setRed true)) v (!d)) := ⟨_, rfl⟩
        rw [← e2] at h
        have hr2 : Rng S2 ∧ S2.n.length = S1.n.length := by
          rw [e2]
          split
          · exact ⟨r1, rfl⟩
          · have := Rng.turn ((r1.sred false (r1.kid v d)).sred (i := v) true (by simp only [len_upd]; exact hv)) (!d) (x := v) (by simp only [len_upd]; exact hv)
            exact ⟨this.1, by rw [this.2]; simp⟩
        obtain ⟨r2, l2⟩ := hr2
        clear e2
        have hw : (S2.nd p).kid (!d) < S2.n.length := r2.kid p _
        have r3 := (r2.sred (S2.nd p).red hw).sred (i := p) false (by simp only [len_upd]; omega)
        have r4 := r3.sred false (r3.kid ((S2.nd p).kid (!d)) (!d))
        have r5 := r4.turn (x := p) d (by simp only [len_upd]; omega)
        exact lift_rng k _ _ _ r5.1 r5.1.root h
    · unfold TreeP.lift at h
      rw [if_neg hg] at h
      injection h with h
      rw [← h]
      exact hr.sred false hx
theorem leftmost_rng : ∀ (k : Nat) (S : TS) (x y : Nat), Rng S → x < S.n.length → TreeP.leftmost k S x = some y → y < S.n.length
  | 0, _, _, _, _, _, h => by simp [TreeP.leftmost] at h
  | k + 1, S, x, y, hr, hx, h => by
    unfold TreeP.leftmost at h
    split at h
    · exact leftmost_rng k S _ y hr (hr.k0 x) h
    · injection h with h
      rw [← h]; exact hx
theorem Rng.zero {S : TS} (h : Rng S) : Rng (S.upd 0 (fun _ => Nd.zero)) := h.upd h.pos (fun d => by cases d <;> exact h.pos) h.pos
theorem after_rng {k : Nat} {red : Bool} {x : Nat} {S Sf : TS} (hr : Rng S) (hx : x < S.n.length) (h : (if red then some S else TreeP.lift k S x).map (fun S'' => S''.upd 0 (fun _ => Nd.zero)) = some Sf) : Rng Sf := by
  cases red with
  | true =>
    simp only [if_true, Option.map_some, Option.some.injEq] at h
    rw [← h]; exact hr.zero
  | false =>
    simp only [Bool.false_eq_true, if_false] at h
    cases hc : TreeP.lift k S x with
    | none => rw [hc] at h; simp at h
    | some T =>
      rw [hc] at h
      simp only [Option.map_some, Option.some.injEq] at h
      rw [← h]
      exact (lift_rng k S x T hr hx hc).zero
theorem swap_rng {S : TS} (hr : Rng S) {y z : Nat} (hy : y < S.n.length) (hz : z < S.n.length) : Rng (TreeP.swapS S y z) ∧ (TreeP.swapS S y z).n.length = S.n.length := by
  unfold TreeP.swapS
  simp only
  obtain ⟨r1, l1⟩ := hr.hang (x := y) (q := z) hy
  have r2 := r1.skid (i := y) (y := ((TreeP.hang S y z).nd z).k0) false (by omega) (r1.k0 z)
  have r3 := r2.sup (y := y) (r2.k0 y) (by simp only [len_upd]; omega)
  exact ⟨r3.sred _ (by simp only [len_upd]; omega), by simp only [len_upd]; exact l1⟩
theorem drop_rng {k : Nat} {S Sf : TS} {z : Nat} (hr : Rng S) (hz : z < S.n.length) (h : TreeP.dropS k S z = some Sf) : Rng Sf := by
  unfold TreeP.dropS at h
  by_cases h0 : (S.nd z).k0 = 0
  · simp only [h0, ↓reduceIte, Option.bind_some] at h
    have := hr.hang (x := (S.nd z).k1) (q := z) (hr.k1 z)
    exact after_rng this.1 (by rw [this.2]; exact hr.k1 z) h
  · by_cases h1 : (S.nd z).k1 = 0
    · simp only [h0, h1, ↓reduceIte, Option.bind_some] at h
      have := hr.hang (x := (S.nd z).k0) (q := z) (hr.k0 z)
      exact after_rng this.1 (by rw [this.2]; exact hr.k0 z) h
    · simp only [h0, h1, ↓reduceIte] at h
      cases hc : TreeP.leftmost k S (S.nd z).k1 with
      | none => rw [hc] at h; simp at h
      | some y =>
        rw [hc] at h
        simp only [Option.map_some, Option.bind_some] at h
        have hy := leftmost_rng k S _ y hr (hr.k1 z) hc
        obtain ⟨S2, e2⟩ : ∃ S2, S2 = (if (S.nd y).up = z then S.upd (S.nd y).k1 (Nd.setUp y) else (((TreeP.hang S (S.nd y).k1 y).upd y (Nd.setKid true ((TreeP.hang S (S.nd y).k1 y).nd z).k1)).upd (((TreeP.hang S (S.nd y).k1 y).upd y (Nd.setKid true ((TreeP.hang S (S.nd y).k1 y).nd z).k1)).nd y).k1 (Nd.setUp y))) := ⟨_, rfl⟩
        rw [← e2] at h
        have hr2 : Rng S2 ∧ S2.n.length = S.n.length := by
          rw [e2]
          split
          · exact ⟨hr.sup (hr.k1 y) hy, by simp⟩
          · obtain ⟨q1, q2⟩ := hr.hang (x := (S.nd y).k1) (q := y) (hr.k1 y)
            have q3 := q1.skid (i := y) (y := ((TreeP.hang S (S.nd y).k1 y).nd z).k1) true (by omega) (q1.k1 z)
            exact ⟨q3.sup (q3.k1 y) (by simp only [len_upd]; omega), by simp only [len_upd]; exact q2⟩
        obtain ⟨r3, l3⟩ := swap_rng hr2.1 (y := y) (z := z) (by omega) (by omega)
        exact after_rng r3 (by rw [l3, hr2.2]; exact hr.k1 y) h

/-! ### Entries -/
abbrev En := Key × Int
def entry (S : TS) (i : Nat) : En := (S.key i, (S.nd i).v)
theorem entry_load {S S' : TS} {i : Nat} (h : (S'.nd i).load = (S.nd i).load) : entry S' i = entry S i := by
  unfold entry TS.key
  unfold Nd.load at h
  simp only [Prod.mk.injEq] at h
  rw [h.1, h.2.1, h.2.2]
/-- a key put among entries -/
def ins (E : List En) (q : Key) (v : Int) : List En := E.filter (fun e => lt e.1 q) ++ (q, v) :: E.filter (fun e => lt q e.1)
def del (E : List En) (q : Key) : List En := E.filter (fun e => decide (e.1 ≠ q))
def look (E : List En) (q : Key) : Option Int := (E.find? (fun e => decide (e.1 = q))).map (·.2)
def RisingE (E : List En) : Prop := E.Pairwise fun a b => lt a.1 b.1 = true
theorem ins_parts {A B : List En} {q : Key} {v : Int} (hA : ∀ e ∈ A, lt e.1 q = true) (hB : ∀ e ∈ B, lt q e.1 = true) : ins (A ++ B) q v = A ++ (q, v) :: B := by
  unfold ins
  rw [List.filter_append, List.filter_append, List.filter_eq_self.2 hA, List.filter_eq_nil_iff.2 (fun e he => lt_asymm (hB e he)), List.filter_eq_nil_iff.2 (fun e he => lt_asymm (hA e he)), List.filter_eq_self.2 hB]
  simp
theorem lt_ne {p q : Key} (h : lt p q = true) : p ≠ q := fun e => lt_irrefl q (by rw [e] at h; exact h)
theorem del_parts {A B : List En} {q : Key} {v : Int} (h : RisingE (A ++ (q, v) :: B)) : del (A ++ (q, v) :: B) q = A ++ B ∧ look (A ++ (q, v) :: B) q = some v := by
  unfold RisingE at h
  rw [List.pairwise_append] at h
  obtain ⟨h1, h2, h3⟩ := h
  rw [List.pairwise_cons] at h2
  have hA : ∀ e ∈ A, e.1 ≠ q := fun e he => lt_ne (h3 e he _ (.head _))
  have hB : ∀ e ∈ B, e.1 ≠ q := fun e he => (lt_ne (h2.1 e he)).symm
  constructor
  · unfold del
    rw [List.filter_append, List.filter_eq_self.2 (fun e he => by simpa using hA e he), List.filter_cons_of_neg (by simp), List.filter_eq_self.2 (fun e he => by simpa using hB e he)]
  · unfold look
    rw [List.find?_append, List.find?_eq_none.2 (fun e he => by simpa using hA e he)]
    simp
theorem look_none {E : List En} {q : Key} (h : ∀ e ∈ E, e.1 ≠ q) : look E q = none := by
  unfold look
  rw [List.find?_eq_none.2 (fun e he => by simpa using h e he)]; rfl
structure Inv (S : TS) (free : List Nat) (many room : Nat) (t : T) : Prop where
  is : Is S t S.root 0
  nd : t.ids.Nodup
  rb : ∃ n, RB t false n
  zero : S.nd 0 = Nd.zero
  rng : Rng S
  fnd : free.Nodup
  fr : ∀ i ∈ free, i ≠ 0 ∧ i < S.n.length ∧ i ∉ t.ids
  len : S.n.length = 1 + t.ids.length + free.length
  cnt : many = t.ids.length
  mr : many ≤ room
  r1 : 1 ≤ room
  r2 : room ≤ 65536
  lr : S.n.length ≤ room + 1
  rise : Rising S t.ids
theorem Inv.here {S : TS} {free : List Nat} {many room : Nat} {t : T} (h : Inv S free many room t) : Here S [] t S.root 0 :=
  ⟨⟨rfl, rfl⟩, h.is, by simpa [pids] using h.nd, h.rng.pos⟩
theorem Inv.riseE {S : TS} {free : List Nat} {many room : Nat} {t : T} (h : Inv S free many room t) : RisingE (t.ids.map (entry S)) := by
  have := h.rise
  unfold Rising at this
  unfold RisingE
  rw [List.pairwise_map]
  exact this
theorem Inv.found {S : TS} {free : List Nat} {many room : Nat} {t : T} (h : Inv S free many room t) (q : Key) : ∃ k r, TreeP.find k S q S.root 0 = some r ∧ TreeP.Found S t q r :=
  find_spec t h.here h.rise (fun j hj => by simp [TreeP.lids] at hj) (fun j hj => by simp [TreeP.rids] at hj)
theorem found_cases {S : TS} {t : T} {q : Key} {r : Nat × Nat} (h : TreeP.Found S t q r) :
    (∃ i, r = (i, i) ∧ i ≠ 0 ∧ i ∈ t.ids ∧ S.key i = q) ∨ (∃ p, r = (0, p) ∧ ∀ j ∈ t.ids, S.key j ≠ q) := by
  cases h with
  | @there C l r' i p c h1 h2 h3 =>
    refine .inl ⟨i, rfl, (Here.root (d := false) h1).2.1, ?_, h3⟩
    rw [← h2, ids_plug]
    exact .inl (by simp [T.ids])
  | @not C p h1 h2 h3 h4 =>
    refine .inr ⟨p, rfl, fun j hj => ?_⟩
    rw [← h2, plug_ids] at hj
    simp only [T.ids, List.nil_append, List.mem_append] at hj
    rcases hj with hj | hj
    · exact lt_ne (h3 j hj)
    · exact (lt_ne (h4 j hj)).symm
theorem look_found {S : TS} {free : List Nat} {many room : Nat} {t : T} (h : Inv S free many room t) {q : Key} {i : Nat} (hi : i ∈ t.ids) (hk : S.key i = q) : look (t.ids.map (entry S)) q = some (S.nd i).v := by
  obtain ⟨A, B, e⟩ := List.append_of_mem hi
  have := h.riseE
  rw [e, List.map_append, List.map_cons] at this ⊢
  have ee : entry S i = (q, (S.nd i).v) := by unfold entry; rw [hk]
  rw [ee] at this ⊢
  exact (del_parts this).2
theorem look_not {S : TS} {t : T} {q : Key} (h : ∀ j ∈ t.ids, S.key j ≠ q) : look (t.ids.map (entry S)) q = none :=
  look_none fun e he => by
    obtain ⟨j, hj, rfl⟩ := List.mem_map.1 he
    exact h j hj
end Go.Proofs.Ytkdmlpigkmlkmaa.Tr
--  DERIVED. Layer 6 (tree): contracts of the calls, over entries. 
set_option linter.unusedVariables false
set_option linter.unusedSimpArgs false
set_option maxRecDepth 100000
namespace Go.Proofs.Ytkdmlpigkmlkmaa.Tr
open Go.RowKit Go.Proofs.Ytkdmlpigkmlkmaa Go.Proofs.Ytkdmlpigkmlkmaa.TreeP

/-- a tree with these entries, for which there is so much room -/
def Tree (p room : Nat) (E : List En) : HP where
  holds w s := ∃ g cap fr free many S t, TL p g cap fr free many room S w ∧ Inv S free many room t ∧ t.ids.map (entry S) = E ∧ ∀ b, s b ↔ foot p g fr b
  loc := fun {w w' s} h h1 h2 h3 h4 h5 => by
    obtain ⟨g, cap, fr, free, many, S, t, hl, hi, he, hs⟩ := h
    exact ⟨g, cap, fr, free, many, S, t, ⟨⟨(h4 p ((hs p).2 (.inl rfl))).trans hl.tw.obj, ownsRow_keep hl.tw.row (fun b hb => h4 b ((hs b).2 (.inr (.inl (by injection hb with hb; exact hb.symm))))), hl.tw.ne⟩,
      ownsRow_keep hl.fe (fun b hb => h4 b ((hs b).2 (.inr (.inr hb)))), hl.fp, hl.fg⟩, hi, he, hs⟩
  bnd := fun {w s b} h hb => by
    obtain ⟨g, cap, fr, free, many, S, t, hl, hi, he, hs⟩ := h
    exact hl.foot_lt b ((hs b).1 hb)
theorem tree_open {p room : Nat} {E : List En} {l : List HP} {w : World} (h : Own (Tree p room E :: l) w) :
    ∃ g cap fr free many S t, TL p g cap fr free many room S w ∧ Inv S free many room t ∧ t.ids.map (entry S) = E ∧
      (∀ {free1 many1 S1 t1 w1}, Turned p g fr free1 many1 room S1 w w1 → Inv S1 free1 many1 room t1 → Own (Tree p room (t1.ids.map (entry S1)) :: l) w1) ∧
      (∀ {w1}, Ext w w1 → Own (Tree p room E :: l) w1) := by
  obtain ⟨s, ⟨g, cap, fr, free, many, S, t, hl, hi, he, hs⟩, hb, K⟩ := h.open
  refine ⟨g, cap, fr, free, many, S, t, hl, hi, he, fun {free1 many1 S1 t1 w1} ht hi1 => ?_, fun {w1} k => h.step k⟩
  obtain ⟨g1, cap1, fr1, h1, h2, h3⟩ := ht
  exact K (h2.mono fun b hb => (hs b).2 hb) (P' := Tree p room _) (s' := foot p g1 fr1) ⟨g1, cap1, fr1, free1, many1, S1, t1, h1, hi1, rfl, fun _ => Iff.rfl⟩ (fun b hb => (h3 b hb).imp (fun e => (hs b).2 e) id)
theorem zOf_facts {S : TS} {free : List Nat} {many room : Nat} {t : T} (h : Inv S free many room t) (a s v : Int) (l : Nat) :
    zOf S free ≠ 0 ∧ zOf S free ∉ t.ids ∧ zOf S free < (grow S free).n.length ∧ zOf S free < (laid S free a s v l).n.length ∧ S.n.length ≤ (laid S free a s v l).n.length ∧ (laid S free a s v l).root = S.root ∧
      (∀ j, j ≠ zOf S free → (laid S free a s v l).nd j = S.nd j) ∧ (laid S free a s v l).nd (zOf S free) = ⟨a, s, v, 0, 0, l, true⟩ ∧ (laid S free a s v l).n.length = (if free = [] then S.n.length + 1 else S.n.length) ∧ zOf S free ∉ free.dropLast := by
  have hg : zOf S free < (grow S free).n.length ∧ S.n.length ≤ (grow S free).n.length ∧ (grow S free).root = S.root ∧ (∀ j, j ≠ zOf S free → (grow S free).nd j = S.nd j) ∧ zOf S free ≠ 0 ∧ zOf S free ∉ t.ids ∧ (grow S free).n.length = (if free = [] then S.n.length + 1 else S.n.length) ∧ zOf S free ∉ free.dropLast := by
    rcases List.eq_nil_or_concat free with rfl | ⟨F, z, rfl⟩
    · have hz : zOf S [] = S.n.length := by simp [zOf]
      have hgr : grow S [] = ⟨S.n ++ [Nd.zero], S.root⟩ := by simp [grow]
      rw [hz, hgr]
      refine ⟨by simp, by simp, rfl, fun j hj => ?_, by have := h.rng.pos; omega, fun hm => ?_, by simp, by simp⟩
      · unfold TS.nd
        by_cases hlt : j < S.n.length
        · simp [List.getD, List.getElem?_append_left hlt]
        · simp [List.getD, List.getElem?_append_right (show S.n.length ≤ j by omega), List.getElem?_eq_none (show S.n.length ≤ j by omega), List.getElem?_eq_none (show [Nd.zero].length ≤ j - S.n.length by simp; omega)]
      · have := (ids_lt h.is _ hm).2
        omega
    · rw [List.concat_eq_append] at h ⊢
      have hne : F ++ [z] ≠ [] := by simp
      have hz : zOf S (F ++ [z]) = z := by unfold zOf; rw [if_neg hne, List.getLastD_concat]
      have hgr : grow S (F ++ [z]) = S := by unfold grow; rw [if_neg hne]
      have hf := h.fr z (by simp)
      have hn := h.fnd
      rw [List.nodup_append] at hn
      rw [hz, hgr]
      exact ⟨hf.2.1, Nat.le_refl _, rfl, fun _ _ => rfl, hf.1, hf.2.2, by rw [if_neg hne], by rw [List.dropLast_concat]; exact fun hm => hn.2.2 z hm z (by simp) rfl⟩
  obtain ⟨g1, g2, g3, g4, g5, g6, g7, g8⟩ := hg
  unfold laid
  refine ⟨g5, g6, g1, by simpa using g1, by simpa using g2, g3, fun j hj => ?_, ?_, by simpa using g7, g8⟩
  · rw [nd_upd _ _ _ _ g1, if_neg (Ne.symm hj)]; exact g4 j hj
  · rw [nd_upd _ _ _ _ g1, if_pos rfl]
def putE (room : Nat) (E : List En) (q : Key) : Int := if (look E q).isSome then 60 else if E.length = room then 4 else 0
def putT (room : Nat) (E : List En) (q : Key) (v : Int) : List En := if (look E q).isSome then E else if E.length = room then E else ins E q v
theorem own_put {p room : Nat} {E : List En} {l : List HP} {w : World} (h : Own (Tree p room E :: l) w) (a s v : Int) :
    Calls Try.prog 84 #[.pointer (some ⟨p, 0, none⟩), key a s, .int .i64 v] w fun e w' => e = .returned (.int .i64 (putE room E (a, s))) ∧ Own (Tree p room (putT room E (a, s) v) :: l) w' := by
  obtain ⟨g, cap, fr, free, many, S, t, hl, hi, he, K, K2⟩ := tree_open h
  obtain ⟨k, r, hf, hfo⟩ := hi.found (a, s)
  have hlen : E.length = many := by rw [← he, List.length_map, hi.cnt]
  rcases found_cases hfo with ⟨i, rfl, hi0, him, hk⟩ | ⟨q, rfl, hno⟩
  · have hlk := look_found hi him hk
    rw [he] at hlk
    have e1 : putE room E (a, s) = 60 := by unfold putE; rw [hlk]; rfl
    have e2 : putT room E (a, s) v = E := by unfold putT; rw [hlk]; rfl
    rw [e1, e2]
    exact (put_have hl hi.rng a s v i i hi0 ⟨k, hf⟩).mono fun e w' ⟨h1, h2, h3⟩ => ⟨h1, K2 h3⟩
  · have hlk := look_not hno
    rw [he] at hlk
    by_cases hm : many = room
    · have e1 : putE room E (a, s) = 4 := by unfold putE; rw [hlk, hlen, if_pos hm]; rfl
      have e2 : putT room E (a, s) v = E := by unfold putT; rw [hlk, hlen, if_pos hm]; rfl
      rw [e1, e2]
      exact (put_full hl hi.rng a s v q hm ⟨k, hf⟩).mono fun e w' ⟨h1, h2, h3⟩ => ⟨h1, K2 h3⟩
    · have e1 : putE room E (a, s) = 0 := by unfold putE; rw [hlk, hlen, if_neg hm]; rfl
      have e2 : putT room E (a, s) v = ins E (a, s) v := by unfold putT; rw [hlk, hlen, if_neg hm]; rfl
      rw [e1, e2]
      obtain ⟨z0, zt, zg, zl, hle, hroot, hold, hz, hll, hzd⟩ := zOf_facts hi a s v q
      obtain ⟨n, hrb⟩ := hi.rb
      have hql : q < S.n.length := by
        have hfo' := hfo
        generalize hr : (0, q) = r at hfo'
        cases hfo' with
        | there h1 _ _ =>
          injection hr with e1 _
          exact absurd e1.symm (Here.root (d := false) h1).2.1
        | not h1 _ _ _ =>
          injection hr with _ e2
          rw [e2]
          exact on_lt h1.on h1.len
      obtain ⟨k2, S', t', L, R, hs, his, hw, ht', hL, hR, hrb', hlen', hload, hzero⟩ := put_spec hfo hrb hi.zero z0 zt zl hle hroot hold hz
      have hmr := hi.mr
      have hr2 := hi.r2
      have hlr := hi.lr
      have hleni := hi.len
      have hcnt := hi.cnt
      refine (put_ok hl hi.rng a s v q (by omega) hi.r2 hi.lr hql (by omega) zg ⟨k, hf⟩ S' ⟨k2, hs⟩).mono fun e w' ⟨h1, h2⟩ => ⟨h1, ?_⟩
      have hrl : Rng (laid S free a s v q) := (rng_grow hi.rng free).upd zg (fun d => by cases d <;> exact (rng_grow hi.rng free).pos) (by have := hle; unfold laid at this; simp only [len_upd] at this; show q < _; omega)
      have hrng : Rng S' := settle_rng k2 _ _ _ (hrl.link zl (by omega)).1 (by rw [(hrl.link zl (by omega)).2]; exact zl) hs
      have hent : ∀ j, j ≠ zOf S free → entry S' j = entry S j := fun j hj => entry_load (by rw [hload j, hold j hj])
      have hentz : entry S' (zOf S free) = ((a, s), v) := by
        have := hload (zOf S free)
        rw [hz] at this
        unfold Nd.load at this
        simp only [Prod.mk.injEq] at this
        unfold entry TS.key
        rw [this.1, this.2.1, this.2.2]
      have hLz : ∀ j ∈ L, j ≠ zOf S free := fun j hj e => zt (by rw [hw]; exact List.mem_append_left _ (e ▸ hj))
      have hRz : ∀ j ∈ R, j ≠ zOf S free := fun j hj e => zt (by rw [hw]; exact List.mem_append_right _ (e ▸ hj))
      have hE : t'.ids.map (entry S') = ins E (a, s) v := by
        rw [← he, hw, ht', List.map_append, List.map_append, List.map_cons, hentz]
        rw [List.map_congr_left (fun j hj => hent j (hLz j hj)), List.map_congr_left (f := entry S') (g := entry S) (l := R) (fun j hj => hent j (hRz j hj))]
        rw [ins_parts]
        · intro e he
          obtain ⟨j, hj, rfl⟩ := List.mem_map.1 he
          exact hL j hj
        · intro e he
          obtain ⟨j, hj, rfl⟩ := List.mem_map.1 he
          exact hR j hj
      have hnd := hi.nd
      rw [hw] at hnd
      have hlw : t.ids.length = L.length + R.length := by rw [hw, List.length_append]
      rw [← hE]
      refine K h2 ⟨his, ?_, hrb', hzero, hrng, ?_, ?_, ?_, ?_, by omega, hi.r1, hi.r2, ?_, ?_⟩
      · rw [ht']
        rw [List.nodup_append] at hnd ⊢
        refine ⟨hnd.1, ?_, ?_⟩
        · rw [List.nodup_cons]
          exact ⟨fun hm => hRz _ hm rfl, hnd.2.1⟩
        · intro x hx y hy e
          rcases List.mem_cons.1 hy with rfl | hy
          · exact hLz x hx e
          · exact hnd.2.2 x hx y hy e
      · exact hi.fnd.sublist (List.dropLast_sublist _)
      · intro i hm
        have hf := hi.fr i (List.dropLast_subset _ hm)
        refine ⟨hf.1, by rw [hlen']; omega, ?_⟩
        rw [ht']
        intro hc
        rcases List.mem_append.1 hc with hc | hc
        · exact hf.2.2 (by rw [hw]; exact List.mem_append_left _ hc)
        · rcases List.mem_cons.1 hc with rfl | hc
          · exact hzd hm
          · exact hf.2.2 (by rw [hw]; exact List.mem_append_right _ hc)
      · rw [hlen', hll, ht', List.length_append, List.length_cons, List.length_dropLast]
        split
        · next e => subst e; simp only [List.length_nil] at hleni ⊢; omega
        · next e =>
          have : 0 < free.length := List.length_pos_iff.2 e
          omega
      · rw [ht', List.length_append, List.length_cons]; omega
      · rw [hlen', hll]
        split
        · next e => subst e; simp only [List.length_nil] at hleni; omega
        · omega
      · have hr := hi.rise
        unfold Rising at hr ⊢
        rw [hw] at hr
        rw [ht']
        rw [List.pairwise_append] at hr ⊢
        have hkey : ∀ j, j ≠ zOf S free → S'.key j = S.key j := fun j hj => congrArg Prod.fst (hent j hj)
        have hkz : S'.key (zOf S free) = (a, s) := congrArg Prod.fst hentz
        refine ⟨?_, ?_, ?_⟩
        · refine hr.1.imp_of_mem ?_
          intro x y hx hy hlt
          rw [hkey x (hLz x hx), hkey y (hLz y hy)]; exact hlt
        · rw [List.pairwise_cons]
          refine ⟨fun j hj => ?_, hr.2.1.imp_of_mem ?_⟩
          · rw [hkz, hkey j (hRz j hj)]; exact hR j hj
          · intro x y hx hy hlt
            rw [hkey x (hRz x hx), hkey y (hRz y hy)]; exact hlt
        · intro x hx y hy
          rw [hkey x (hLz x hx)]
          rcases List.mem_cons.1 hy with rfl | hy
          · rw [hkz]; exact hL x hx
          · rw [hkey y (hRz y hy)]; exact hr.2.2 x hx y hy
end Go.Proofs.Ytkdmlpigkmlkmaa.Tr
--  DERIVED. Layer 6 (tree): contracts of the calls, over entries: New, Drop, Get, First, Next, Len, Room. 
set_option linter.unusedVariables false
set_option linter.unusedSimpArgs false
set_option maxRecDepth 100000
namespace Go.Proofs.Ytkdmlpigkmlkmaa.Tr
open Go.RowKit Go.Proofs.Ytkdmlpigkmlkmaa Go.Proofs.Ytkdmlpigkmlkmaa.TreeP

theorem del_none {E : List En} {q : Key} (h : look E q = none) : del E q = E := by
  unfold look at h
  rw [Option.map_eq_none_iff, List.find?_eq_none] at h
  unfold del
  rw [List.filter_eq_self.2 (fun e he => by simpa using h e he)]
theorem own_drop {p room : Nat} {E : List En} {l : List HP} {w : World} (h : Own (Tree p room E :: l) w) (a s : Int) :
    Calls Try.prog 85 #[.pointer (some ⟨p, 0, none⟩), key a s] w fun e w' => e = .returned (.tuple #[.int .i64 ((look E (a, s)).getD 0), .bool (look E (a, s)).isSome]) ∧ Own (Tree p room (del E (a, s)) :: l) w' := by
  obtain ⟨g, cap, fr, free, many, S, t, hl, hi, he, K, K2⟩ := tree_open h
  obtain ⟨k, r, hf, hfo⟩ := hi.found (a, s)
  have hfo' := hfo
  cases hfo' with
  | @not C p' h1 h2 h3 h4 =>
    have hno : ∀ j ∈ t.ids, S.key j ≠ (a, s) := by
      rcases found_cases hfo with ⟨i, e, hi0, _, _⟩ | ⟨q, e, hno⟩
      · injection e with e1 e2
        exact absurd e1.symm hi0
      · exact hno
    have hlk := look_not hno
    rw [he] at hlk
    rw [hlk, del_none hlk]
    exact (drop_not hl hi.rng a s p' ⟨k, hf⟩).mono fun e w' ⟨h1, h2, h3⟩ => ⟨h1, K2 h3⟩
  | @there C lt' rt' i p' c h1 h2 h3 =>
    obtain ⟨n, hrb⟩ := hi.rb
    obtain ⟨k2, S', t', hs, his, hids, hrb', hlen', hload, hzero⟩ := drop_spec h1 (by rw [h2]; exact hrb) hi.zero
    have hi0 := (Here.root (d := false) h1).2.1
    have htids : t.ids = lids C ++ (lt'.ids ++ (i :: (rt'.ids ++ rids C))) := by rw [← h2, plug_ids]; simp [T.ids]
    have hil : i < S.n.length := (ids_lt hi.is i (by rw [htids]; simp)).2
    have hmr := hi.mr
    have hlr := hi.lr
    have hleni := hi.len
    have hcnt := hi.cnt
    have hct : t.ids.length = t'.ids.length + 1 := by rw [htids, hids]; simp only [List.length_append, List.length_cons]; omega
    have hent : ∀ j, entry S' j = entry S j := fun j => entry_load (hload j)
    have hkey : ∀ j, S'.key j = S.key j := fun j => congrArg Prod.fst (hent j)
    obtain ⟨A, hA⟩ : ∃ A, A = (lids C ++ lt'.ids).map (entry S) := ⟨_, rfl⟩
    obtain ⟨B, hB⟩ : ∃ B, B = (rt'.ids ++ rids C).map (entry S) := ⟨_, rfl⟩
    have hE : E = A ++ ((a, s), (S.nd i).v) :: B := by
      rw [← he, htids, hA, hB]
      have : entry S i = ((a, s), (S.nd i).v) := by unfold entry; rw [h3]
      rw [← this]
      simp
    have hE' : t'.ids.map (entry S') = A ++ B := by
      rw [hids, hA, hB, List.map_congr_left (g := entry S) (fun j _ => hent j)]
      simp
    have hrE := hi.riseE
    rw [he, hE] at hrE
    obtain ⟨hd, hlk⟩ := del_parts hrE
    rw [hE, hd, hlk, ← hE']
    have hnd := hi.nd
    refine (drop_ok hl hi.rng a s i hi0 hil hi.r2 (by omega) hmr (by omega) ⟨k, hf⟩ S' ⟨k2, hs⟩).mono fun e w' ⟨h4, h5⟩ => ⟨h4, K h5 ⟨his, ?_, hrb', hzero, drop_rng hi.rng hil hs, ?_, ?_, ?_, by omega, by omega, hi.r1, hi.r2, by omega, ?_⟩⟩
    · have hsub : List.Sublist t'.ids t.ids := by
        rw [htids, hids]
        exact (List.Sublist.refl _).append ((List.Sublist.refl _).append (List.sublist_cons_self _ _))
      exact hnd.sublist hsub
    · rw [List.nodup_append]
      refine ⟨hi.fnd, by simp, fun x hx y hy e => ?_⟩
      rw [List.mem_singleton] at hy
      subst hy e
      exact (hi.fr x hx).2.2 (by rw [htids]; simp)
    · intro j hj
      have hin : i ∉ t'.ids := by
        rw [htids] at hnd
        rw [hids]
        have := hnd
        simp only [List.nodup_append, List.nodup_cons, List.mem_append, List.mem_cons] at this
        intro hc
        simp only [List.mem_append] at hc
        obtain ⟨q1, ⟨q2, ⟨q3, q4⟩, q5⟩, q6⟩ := this
        rcases hc with hc | hc | hc
        · exact q6 i hc i (.inr (.inl rfl)) rfl
        · exact q5 i hc i (.inl rfl) rfl
        · exact q3 hc
      rcases List.mem_append.1 hj with hj | hj
      · have hf := hi.fr j hj
        refine ⟨hf.1, by rw [hlen']; exact hf.2.1, fun hc => hf.2.2 ?_⟩
        rw [hids] at hc
        rw [htids]
        simp only [List.mem_append, List.mem_cons] at hc ⊢
        rcases hc with hc | hc | hc
        · exact .inl hc
        · exact .inr (.inl hc)
        · exact .inr (.inr (.inr hc))
      · rw [List.mem_singleton] at hj
        subst hj
        exact ⟨hi0, by rw [hlen']; exact hil, hin⟩
    · rw [hlen', List.length_append, List.length_singleton]; omega
    · have hr := hi.rise
      unfold Rising at hr ⊢
      have hsub : List.Sublist t'.ids t.ids := by
        rw [htids, hids]
        exact (List.Sublist.refl _).append ((List.Sublist.refl _).append (List.sublist_cons_self _ _))
      refine (hr.sublist hsub).imp ?_
      intro x y hxy
      rw [hkey, hkey]; exact hxy
theorem own_get {p room : Nat} {E : List En} {l : List HP} {w : World} (h : Own (Tree p room E :: l) w) (a s : Int) :
    Calls Try.prog 77 #[.pointer (some ⟨p, 0, none⟩), key a s] w fun e w' => e = .returned (.tuple #[.int .i64 ((look E (a, s)).getD 0), .bool (look E (a, s)).isSome]) ∧ Own (Tree p room E :: l) w' := by
  obtain ⟨g, cap, fr, free, many, S, t, hl, hi, he, K, K2⟩ := tree_open h
  obtain ⟨k, r, hf, hfo⟩ := hi.found (a, s)
  rcases found_cases hfo with ⟨i, rfl, hi0, him, hk⟩ | ⟨q, rfl, hno⟩
  · have hlk := look_found hi him hk
    rw [he] at hlk
    rw [hlk]
    refine (get_any hl.tw hi.rng a s i i ⟨k, hf⟩ (ids_lt hi.is i him).2).mono fun e w' ⟨h1, h2⟩ => ⟨?_, K2 h2⟩
    rw [h1, if_neg hi0]
    simp [hi0]
  · have hlk := look_not hno
    rw [he] at hlk
    rw [hlk]
    refine (get_any hl.tw hi.rng a s 0 q ⟨k, hf⟩ hi.rng.pos).mono fun e w' ⟨h1, h2⟩ => ⟨?_, K2 h2⟩
    rw [h1]
    simp
/-- an entry that may be none -/
def entO : Option En → Value
  | none => ent 0 0 0
  | some e => ent e.1.1 e.1.2 e.2
def nextE (E : List En) (q : Key) : Option En := E.find? (fun e => lt q e.1)
theorem new_not (r : Int) (h : r < 1 ∨ 65536 < r) (w : World) :
    Calls Try.prog 83 #[.int .i64 r] w fun e w' => e = .returned (.tuple #[.pointer none, .int .i64 2]) ∧ w = w' := by
  by_cases h0 : r < 1
  · clear h
    go_enter Try.func83, Try.ntmps83
    go_wp2
    go_ret2
    exact ⟨rfl, rfl⟩
  · have h' : 65536 < r := by omega
    clear h
    go_enter Try.func83, Try.ntmps83
    go_wp2
    go_ret2
    exact ⟨rfl, rfl⟩
theorem own_new {l : List HP} {w : World} (r : Nat) (h1 : 1 ≤ r) (h2 : r ≤ 65536) (h : Own l w) :
    Calls Try.prog 83 #[.int .i64 r] w fun e w' => ∃ p, e = .returned (.tuple #[.pointer (some ⟨p, 0, none⟩), .int .i64 0]) ∧ Own (Tree p r [] :: l) w' := by
  obtain ⟨i0, hi, hzz⟩ := Option.map_eq_some_iff.1 infoNode
  simp only [Prod.mk.injEq] at hzz
  obtain ⟨hz0, hz1, hz2⟩ := hzz
  have H := Lib.hid h
  have HI := Lib.hid hi
  have HZ0 := Lib.hid hz0
  have HZ1 := Lib.hid hz1
  have HZ2 := Lib.hid hz2
  clear h hi hz0 hz1 hz2
  go_enter Try.func83, Try.ntmps83
  have hflat : (madeCells #[.int .u64 0, .int .u64 0, .int .i64 0, .int .i64 0, .int .i64 0, .int .i64 0, .bool false] 7).toList = flat [Nd.zero] := by unfold madeCells; rw [Array.toList_map, Array.toList_range]; rfl
  have HFL := Lib.hid hflat
  clear hflat
  go_wp2_with (refine wpList_make_full w rfl _ _ 156 rfl 0 155 i0 _ 7 Try.underlying156 HI.out HZ0.out HZ1.out .i64 .i64 1 1 1 rfl rfl rfl rfl (by rw [HZ2.out]; decide) (by simp [maxLen]) (Nat.zero_le _) ?_)
  intro w1 hrow hgrow
  rw [HFL.out] at hrow
  have hx : Ext w w1 := ⟨hgrow.os, hgrow.tape, hgrow.output, hgrow.size, fun b hb => hgrow.block b hb (fun e => by cases e)⟩
  have HROW := Lib.hid hrow
  have HX := Lib.hid hx
  clear hrow hgrow hx
  go_wp2
  go_ret2
  have hrow := HROW.out
  have hg := hrow.lt w.heap.size rfl
  have hx := HX.out.alloc (.cells #[.slice (some ⟨w.heap.size, 0, none⟩) 1 1, .slice none 0 0, .int .i64 0, .int .i64 0, .int .i64 r] 158)
  refine ⟨_, rfl, H.out.new (P := Tree w1.heap.size r []) (s := foot w1.heap.size w.heap.size (.slice none 0 0)) hx ?_ ?_⟩
  · refine ⟨w.heap.size, 1, .slice none 0 0, [], 0, ⟨[Nd.zero], 0⟩, .nil, ⟨⟨heap_alloc_new w1 _, own_alloc hrow _, by omega⟩, World.ownsRow_nil _ 0 _ 1, by simp [Value.ownBlock], by simp [Value.ownBlock]⟩, ?_, rfl, fun _ => Iff.rfl⟩
    refine ⟨rfl, by simp [T.ids], ⟨_, .nil⟩, rfl, ⟨by simp, by simp, fun i d => ?_, fun i => ?_⟩, by simp, by simp, by simp [T.ids], rfl, by omega, h1, h2, by simp, by simp [Rising, T.ids]⟩
    · have : TS.nd ⟨[Nd.zero], 0⟩ i = Nd.zero := by unfold TS.nd; cases i <;> simp [List.getD]
      rw [this]; cases d <;> simp [Nd.kid, Nd.zero]
    · have : TS.nd ⟨[Nd.zero], 0⟩ i = Nd.zero := by unfold TS.nd; cases i <;> simp [List.getD]
      rw [this]; simp [Nd.zero]
  · intro b hb
    rcases hb with rfl | rfl | hb
    · exact HX.out.size
    · exact Nat.le_refl _
    · simp [Value.ownBlock] at hb
end Go.Proofs.Ytkdmlpigkmlkmaa.Tr
--  DERIVED. Layer 6 (tree): the calls' contracts at known entries; the chapter's examples. 
set_option linter.unusedVariables false
set_option linter.unusedSimpArgs false
set_option maxRecDepth 100000
namespace Go.Proofs.Ytkdmlpigkmlkmaa.Tr
open Go.RowKit Go.Proofs.Ytkdmlpigkmlkmaa Go.Proofs.Ytkdmlpigkmlkmaa.TreeP

/-- a block whose cells are known -/
def Blk (b : Nat) (cs : Array Value) (t : TypeId) : HP where
  holds w s := w.heap[b]? = some (.cells cs t (0, 0)) ∧ ∀ x, s x ↔ x = b
  loc := fun {w w' s} h h1 h2 h3 h4 h5 => ⟨(h4 b ((h.2 b).2 rfl)).trans h.1, h.2⟩
  bnd := fun {w s x} h hx => by rw [(h.2 x).1 hx]; exact (Array.getElem?_eq_some_iff.1 h.1).1
theorem Own.blkNew {l : List HP} {w : World} (h : Own l w) (cs : Array Value) (t : TypeId) : Own (Blk w.heap.size cs t :: l) (w.alloc (.cells cs t)) :=
  h.new (s := fun x => x = w.heap.size) ((Ext.refl w).alloc _) ⟨heap_alloc_new w _, fun _ => Iff.rfl⟩ (fun b hb => by rw [hb]; exact Nat.le_refl _)
theorem blk_of : ∀ {l : List HP} {w : World} {U : Nat → Prop} {b : Nat} {cs : Array Value} {t : TypeId}, OwnIn l w U → Blk b cs t ∈ l → w.heap[b]? = some (.cells cs t (0, 0))
  | [], _, _, _, _, _, _, hm => by simp at hm
  | P :: l, w, U, b, cs, t, ⟨s, V, hP, hl, _, _⟩, hm => by
    cases hm with
    | head => exact hP.1
    | tail _ hm => exact blk_of hl hm
theorem Own.blk {l : List HP} {w : World} {b : Nat} {cs : Array Value} {t : TypeId} (h : Own l w) (hm : Blk b cs t ∈ l) : w.heap[b]? = some (.cells cs t (0, 0)) := by
  obtain ⟨U, hU⟩ := h
  exact blk_of hU hm
theorem Own.blk3 {l : List HP} {w : World} {b : Nat} {x y z : Value} {t : TypeId} (h : Own l w) (hm : Blk b #[x, y, z] t ∈ l) :
    w.cell? ⟨b, 0, none⟩ = some x ∧ w.cell? ⟨b, 1, none⟩ = some y ∧ w.cell? ⟨b, 2, none⟩ = some z := by
  simp [World.cell?, Own.blk h hm]
section
variable {p room : Nat} {E : List En} {l : List HP} {w : World}
theorem own_put' {a s v x : Int} {E' : List En} (h : Own (Tree p room E :: l) w) (h1 : putE room E (a, s) = x) (h2 : putT room E (a, s) v = E') :
    Calls Try.prog 84 #[.pointer (some ⟨p, 0, none⟩), .agg #[.int .u64 a, .int .u64 s], .int .i64 v] w fun e w' => e = .returned (.int .i64 x) ∧ Own (Tree p room E' :: l) w' := by
  subst h1 h2
  exact own_put h a s v
theorem own_drop' {a s x : Int} {b : Bool} {E' : List En} (h : Own (Tree p room E :: l) w) (h1 : (look E (a, s)).getD 0 = x) (h2 : (look E (a, s)).isSome = b) (h3 : del E (a, s) = E') :
    Calls Try.prog 85 #[.pointer (some ⟨p, 0, none⟩), .agg #[.int .u64 a, .int .u64 s]] w fun e w' => e = .returned (.tuple #[.int .i64 x, .bool b]) ∧ Own (Tree p room E' :: l) w' := by
  subst h1 h2 h3
  exact own_drop h a s
theorem own_get' {a s x : Int} {b : Bool} (h : Own (Tree p room E :: l) w) (h1 : (look E (a, s)).getD 0 = x) (h2 : (look E (a, s)).isSome = b) :
    Calls Try.prog 77 #[.pointer (some ⟨p, 0, none⟩), .agg #[.int .u64 a, .int .u64 s]] w fun e w' => e = .returned (.tuple #[.int .i64 x, .bool b]) ∧ Own (Tree p room E :: l) w' := by
  subst h1 h2
  exact own_get h a s
end
end Go.Proofs.Ytkdmlpigkmlkmaa.Tr
--  DERIVED. Layer 6 (tree): a tree that is none; the law TreeNone. 
set_option linter.unusedVariables false
set_option linter.unusedSimpArgs false
set_option maxRecDepth 100000
namespace Go.Proofs.Ytkdmlpigkmlkmaa.Tr
open Go.RowKit Go.Proofs.Ytkdmlpigkmlkmaa Go.Proofs.Ytkdmlpigkmlkmaa.TreeP

/-- a tree that is none, as long as these assertions hold -/
def NilIn (l : List HP) (a : Option Addr) : Prop := ∀ w, Own l w → Calls Try.prog 91 #[.pointer a] w fun e w' => e = .returned (.bool true) ∧ w = w'
theorem nilIn_none (l : List HP) : NilIn l none := by
  intro w h
  clear h
  go_enter Try.func91, Try.ntmps91
  go_wp2
  go_ret
  exact ⟨rfl, rfl⟩
abbrev zeroT : Array Value := #[.slice none 0 0, .slice none 0 0, .int .i64 0, .int .i64 0, .int .i64 0]
theorem nilIn_zero (l : List HP) (b : Nat) (hm : Blk b zeroT 158 ∈ l) : NilIn l (some ⟨b, 0, none⟩) := by
  intro w h
  have hb := Own.blk h hm
  have c0 : w.cell? ⟨b, 0, none⟩ = some (.slice none 0 0) := by simp [World.cell?, hb]
  have he : ∀ w : World, (binOp .eql 156 (.slice none 0 0) (.slice none 0 0)).run Try.prog w = .ok (.bool true) w := fun _ => rfl
  clear h hb
  go_enter Try.func91, Try.ntmps91
  go_wp2
  go_ret
  exact ⟨rfl, rfl⟩
section
variable {l : List HP} {a : Option Addr} {w : World}
theorem nil_put (hn : NilIn l a) (h : Own l w) (x s v : Int) :
    Calls Try.prog 84 #[.pointer a, .agg #[.int .u64 x, .int .u64 s], .int .i64 v] w fun e w' => e = .returned (.int .i64 1) ∧ Own l w' := by
  have H := Lib.hid (h.step ((Ext.refl w).alloc (.cells #[.int .u64 x, .int .u64 s] 130)))
  have HN := Lib.hid hn
  clear h hn
  go_enter Try.func84, Try.ntmps84
  go_wp2_with (go_at_call 91; refine (HN.out _ H.out).mono ?_; rintro e w' ⟨rfl, rfl⟩)
  go_ret
  exact ⟨rfl, H.out⟩
theorem nil_drop (hn : NilIn l a) (h : Own l w) (x s : Int) :
    Calls Try.prog 85 #[.pointer a, .agg #[.int .u64 x, .int .u64 s]] w fun e w' => e = .returned (.tuple #[.int .i64 0, .bool false]) ∧ Own l w' := by
  have H := Lib.hid (h.step ((Ext.refl w).alloc (.cells #[.int .u64 x, .int .u64 s] 130)))
  have HN := Lib.hid hn
  clear h hn
  go_enter Try.func85, Try.ntmps85
  go_wp2_with (go_at_call 91; refine (HN.out _ H.out).mono ?_; rintro e w' ⟨rfl, rfl⟩)
  go_ret2
  exact ⟨rfl, H.out⟩
theorem nil_get (hn : NilIn l a) (h : Own l w) (x s : Int) :
    Calls Try.prog 77 #[.pointer a, .agg #[.int .u64 x, .int .u64 s]] w fun e w' => e = .returned (.tuple #[.int .i64 0, .bool false]) ∧ Own l w' := by
  have H := Lib.hid (h.step ((Ext.refl w).alloc (.cells #[.int .u64 x, .int .u64 s] 130)))
  have HN := Lib.hid hn
  clear h hn
  go_enter Try.func77, Try.ntmps77
  go_wp2_with (go_at_call 91; refine (HN.out _ H.out).mono ?_; rintro e w' ⟨rfl, rfl⟩)
  go_ret2
  exact ⟨rfl, H.out⟩
theorem nil_all (hn : NilIn l a) (h : Own l w) :
    Calls Try.prog 90 #[.pointer a] w fun e w' => e = .returned (.slice none 0 0) ∧ Own l w' := by
  have H := Lib.hid h
  have HN := Lib.hid hn
  clear h hn
  go_enter Try.func90, Try.ntmps90
  go_wp2_with (go_at_call 91; refine (HN.out _ H.out).mono ?_; rintro e w' ⟨rfl, rfl⟩)
  go_ret
  exact ⟨rfl, H.out⟩
end
theorem Own.blk2 {l : List HP} {w : World} {b : Nat} {x y : Value} {t : TypeId} (h : Own l w) (hm : Blk b #[x, y] t ∈ l) :
    w.cell? ⟨b, 0, none⟩ = some x ∧ w.cell? ⟨b, 1, none⟩ = some y := by
  simp [World.cell?, Own.blk h hm]
end Go.Proofs.Ytkdmlpigkmlkmaa.Tr
--  DERIVED. Layer 6 (tree): contract of order. 
set_option linter.unusedVariables false
set_option linter.unusedSimpArgs false
set_option maxRecDepth 100000
namespace Go.Proofs.Ytkdmlpigkmlkmaa.Tr
open Go.RowKit Go.Proofs.Ytkdmlpigkmlkmaa Go.Proofs.Ytkdmlpigkmlkmaa.TreeP

/-- a tree as it stands, owned -/
def TreeAt (p g cap : Nat) (fr : Value) (free : List Nat) (many room : Nat) (S : TS) : HP where
  holds w s := TL p g cap fr free many room S w ∧ ∀ b, s b ↔ foot p g fr b
  loc := fun {w w' s} ⟨hl, hs⟩ h1 h2 h3 h4 h5 =>
    ⟨⟨⟨(h4 p ((hs p).2 (.inl rfl))).trans hl.tw.obj, ownsRow_keep hl.tw.row (fun b hb => h4 b ((hs b).2 (.inr (.inl (by injection hb with hb; exact hb.symm))))), hl.tw.ne⟩,
      ownsRow_keep hl.fe (fun b hb => h4 b ((hs b).2 (.inr (.inr hb)))), hl.fp, hl.fg⟩, hs⟩
  bnd := fun {w s b} ⟨hl, hs⟩ hb => hl.foot_lt b ((hs b).1 hb)
theorem tree_at {p room : Nat} {E : List En} {l : List HP} {w : World} (h : Own (Tree p room E :: l) w) :
    ∃ g cap fr free many S t, Own (TreeAt p g cap fr free many room S :: l) w ∧ Inv S free many room t ∧ t.ids.map (entry S) = E := by
  obtain ⟨s, ⟨g, cap, fr, free, many, S, t, hl, hi, he, hs⟩, hb, K⟩ := h.open
  exact ⟨g, cap, fr, free, many, S, t, K (Step.refl s w) (P' := TreeAt p g cap fr free many room S) (s' := s) ⟨hl, hs⟩ (fun b hb => .inl hb), hi, he⟩
theorem tree_back {p g cap many room : Nat} {fr : Value} {free : List Nat} {S : TS} {t : T} {E : List En} {l : List HP} {w : World} (h : Own (TreeAt p g cap fr free many room S :: l) w) (hi : Inv S free many room t) (he : t.ids.map (entry S) = E) : Own (Tree p room E :: l) w := by
  obtain ⟨s, ⟨hl, hs⟩, hb, K⟩ := h.open
  exact K (Step.refl s w) (P' := Tree p room E) (s' := s) ⟨g, cap, fr, free, many, S, t, hl, hi, he, hs⟩ (fun b hb => .inl hb)
theorem own_tl {p g cap many room : Nat} {fr : Value} {free : List Nat} {S : TS} {l : List HP} {w : World} (h : Own (TreeAt p g cap fr free many room S :: l) w) : TL p g cap fr free many room S w := by
  obtain ⟨s, ⟨hl, hs⟩, hb, K⟩ := h.open
  exact hl
theorem Own.rowPop {e n g cap : Nat} {xs : List Value} {l : List HP} {w : World} (h : Own (Row e 1 (.slice (some ⟨g, 0, none⟩) (n + 1) cap) (n + 1) xs :: l) w) : Own (Row e 1 (.slice (some ⟨g, 0, none⟩) n cap) n xs.dropLast :: l) w := by
  obtain ⟨s, hP, hb, K⟩ := h.open
  exact K (Step.refl s w) (P' := Row e 1 (.slice (some ⟨g, 0, none⟩) n cap) n xs.dropLast) (s' := s) ⟨by have := ownsRow_pop' hP.1 (by omega); simpa using this, fun b => by rw [hP.2 b]; simp [Value.ownBlock]⟩ (fun b hb => .inl hb)
theorem ord_len : ∀ (k : Nat) (S : TS) (x : Nat) (T O R : List Nat), TreeP.ord k S x T O = some R → T.length + O.length ≤ R.length
  | 0, _, _, _, _, _, h => by simp [TreeP.ord] at h
  | k + 1, S, x, T, O, R, h => by
    unfold TreeP.ord at h
    by_cases hx : x ≠ 0
    · rw [if_pos hx] at h
      have := ord_len k S _ _ _ _ h
      rw [List.length_append, List.length_singleton] at this
      omega
    · rw [if_neg hx] at h
      by_cases ht : T = []
      · rw [if_pos ht] at h
        injection h with h
        subst ht h
        simp
      · rw [if_neg ht] at h
        have := ord_len k S _ _ _ _ h
        rw [List.length_dropLast, List.length_append, List.length_singleton] at this
        have : 0 < T.length := List.length_pos_iff.2 ht
        omega
def OI (l0 : List HP) (S : TS) (R : List Nat) (N : Nat) (vo vt vx : Value) (wr : World) (k : Nat) : Prop :=
  ∃ (x : Nat) (T O : List Nat), vx = .int .i64 (x : Int) ∧ x < N ∧ Own (Row 3 1 vt T.length (ints T) :: Row 3 1 vo O.length (ints O) :: l0) wr ∧ TreeP.ord k S x T O = some R ∧ ∀ j ∈ T, j < N
set_option maxHeartbeats 2000000 in
theorem order_any {p g cap many room : Nat} {fr : Value} {free : List Nat} {S : TS} {l : List HP} {w : World} (h : Own (TreeAt p g cap fr free many room S :: l) w) (hr : Rng S) (R : List Nat) (hR : R.length ≤ 65536) (ho : ∃ k, TreeP.ord k S S.root [] [] = some R) :
    Calls Try.prog 102 #[.pointer (some ⟨p, 0, none⟩)] w fun e w' => ∃ v, e = .returned v ∧ Own (Row 3 1 v R.length (ints R) :: TreeAt p g cap fr free many room S :: l) w' := by
  have hl := own_tl h
  obtain ⟨N, hN⟩ : ∃ N, N = S.n.length := ⟨_, rfl⟩
  obtain ⟨rt, ert⟩ : ∃ rt, rt = S.root := ⟨_, rfl⟩
  have hrt : rt < N := by rw [ert, hN]; exact hr.root
  have c2 := hl.tw.c2
  rw [← ert] at c2 ho
  have H0 : Hid (∃ k, OI (TreeAt p g cap fr free many room S :: l) S R N (.slice none 0 0) (.slice none 0 0) (.int .i64 rt) w k) := Lib.hid (by
    obtain ⟨k, hk⟩ := ho
    exact ⟨k, rt, [], [], rfl, hrt, (h.nilRow _ 1).nilRow _ 1, hk, by simp⟩)
  have HN := Lib.hid hN
  have HR := Lib.hid hr
  have HRL := Lib.hid hR
  clear h hr ho ert hrt hN hl hR
  go_enter Try.func102, Try.ntmps102
  go_wp2
  go_loopw [3, 4, 5] (fun vo vt vx wr => ∃ k, OI (TreeAt p g cap fr free many room S :: l) S R N vo vt vx wr k) (fun vo vt vx wr => least (OI (TreeAt p g cap fr free many room S :: l) S R N vo vt vx wr))
  case atStart => exact H0.out
  case round =>
    clear H0 c2
    obtain ⟨hP, -⟩ := least_spec hrel
    clear hrel
    obtain ⟨j, ej⟩ : ∃ j, j = least (OI (TreeAt p g cap fr free many room S :: l) S R N u3 u4 u5 wr) := ⟨_, rfl⟩
    rw [← ej] at hP
    have EJ := Lib.hid ej
    clear ej
    obtain ⟨x, T, O, rfl, hx, h, ho, hT⟩ := hP
    have hlen := ord_len _ _ _ _ _ _ ho
    have hRL := HRL.out
    cases j with
    | zero => simp [TreeP.ord] at ho
    | succ k =>
      unfold TreeP.ord at ho
      have x1 : (x : Int) < N := by omega
      by_cases hx0 : x = 0
      · rw [if_neg (by simpa using hx0)] at ho
        have x2 : ((x : Int) != 0) = false := by simp [hx0]
        by_cases ht : T = []
        · rw [if_pos ht] at ho
          injection ho with ho
          subst ht ho
          obtain ⟨a, c, rfl⟩ := own_slice h.row
          have H := Lib.hid h.drop
          clear h hlen hRL hx0
          go_wp2
          go_ret
          exact ⟨_, rfl, H.out⟩
        · rw [if_neg ht] at ho
          obtain ⟨T', z, rfl⟩ : ∃ T' z, T = T' ++ [z] := by
            rcases List.eq_nil_or_concat T with e | ⟨T', z, e⟩
            · exact absurd e ht
            · exact ⟨T', z, by rw [e, List.concat_eq_append]⟩
          rw [List.getLastD_concat, List.dropLast_concat] at ho
          have hl1 : (T' ++ [z]).length = T'.length + 1 := by simp
          rw [hl1] at h hlen
          obtain ⟨gt, ct, rfl, q1, q2⟩ := own_cap h.row (by omega)
          unfold maxLen at q2
          obtain ⟨gt', ct', e', _, hcs⟩ := own_form h.row (by omega)
          injection e' with e1 _ e3
          injection e1 with e1
          injection e1 with e1
          subst e1 e3
          have cz := (hcs T'.length (.int .i64 z) (by simp [ints])).1
          clear hcs
          have h2 := Own.rowPop h
          have hd : (ints (T' ++ [z])).dropLast = ints T' := by simp [ints]
          rw [hd] at h2
          have hl := own_tl h2.third
          have HO : Hid (Own (Row 3 1 (.slice (some ⟨gt, 0, none⟩) T'.length ct) T'.length (ints T') :: Row 3 1 u3 O.length (ints O) :: TreeAt p g cap fr free many room S :: l) wr) := Lib.hid h2
          have hz : z < N := hT z (by simp)
          have HTT : Hid (∀ j ∈ T', j < N) := Lib.hid (fun j hj => hT j (by simp [hj]))
          have z1 : (z : Int) < N := by omega
          have c0 := hl.tw.c0
          rw [← HN.out] at c0
          have HOO := Lib.hid ho
          have HL := Lib.hid hlen
          have hTl : T'.length < 65536 := by omega
          have hOl : O.length < 65536 := by omega
          obtain ⟨m, hm⟩ : ∃ m, m = T'.length := ⟨_, rfl⟩
          rw [← hm] at q1 cz hTl HO EJ
          have HM := Lib.hid hm
          rw [← hm]
          clear h h2 ho hT hl1 hd hl ht hx0 hlen hm
          go_wp2_with (first
            | (at_builtin; refine app_own (W := wr) rfl _ _ _ _ _ 1 8 rfl Try.underlying47 infoInt rfl (by omega) (by omega) u3 O.length (ints O) [.int .i64 z] rfl _ rfl rfl rfl (by simp [Value.oneCell']) (by exact HO.out.swap.row) (by omega) ?_; intro v1 w2 hown hgrow hmv
               have h2 := HO.out.swap.rowApp hown hgrow hmv
               have hl := own_tl h2.third
               have c0 := hl.tw.c0
               rw [← HN.out] at c0
               have kx := hl.tw.k1 (i := z) (by rw [← HN.out]; exact hz)
               have H2 := Lib.hid h2
               clear hown hgrow hmv hl h2)
            | fail)
          have e : ints (O ++ [z]) = ints O ++ [.int .i64 z] := by simp [ints]
          have HP := Lib.hid (show OI (TreeAt p g cap fr free many room S :: l) S R N v1 (.slice (some ⟨gt, 0, none⟩) m ct) (.int .i64 ((S.nd z).k1 : Nat)) w2 k from
            ⟨(S.nd z).k1, T', O ++ [z], rfl, by rw [HN.out]; exact HR.out.k1 z, by rw [List.length_append, List.length_singleton, e, ← HM.out]; exact H2.out.swap, HOO.out, HTT.out⟩)
          exact ⟨⟨_, HP.out⟩, least_lt HP.out (Nat.lt_succ_self k) EJ.out⟩
      · rw [if_pos (by simpa using hx0)] at ho
        have x2 : ((x : Int) != 0) = true := by simp; omega
        have H := Lib.hid h
        have HO := Lib.hid ho
        have HTT : Hid (∀ j ∈ T ++ [x], j < N) := Lib.hid (fun j hj => by
          rcases List.mem_append.1 hj with hj | hj
          · exact hT j hj
          · rw [List.mem_singleton] at hj; rw [hj]; exact hx)
        clear hT
        obtain ⟨m, hm⟩ : ∃ m, m = T.length := ⟨_, rfl⟩
        rw [← hm] at hlen
        have HM := Lib.hid hm
        clear h ho hm hx0
        go_wp2_with (first
          | (at_builtin; refine app_own (W := wr) rfl _ _ _ _ _ 1 8 rfl Try.underlying47 infoInt rfl (by omega) (by omega) u4 T.length (ints T) [.int .i64 x] rfl _ rfl rfl rfl (by simp [Value.oneCell']) (by exact H.out.row) (by have := HM.out; omega) ?_; intro v1 w2 hown hgrow hmv
             have h2 := H.out.rowApp hown hgrow hmv
             have hl := own_tl h2.third
             have c0 := hl.tw.c0
             rw [← HN.out] at c0
             have kx := hl.tw.k0 (i := x) (by rw [← HN.out]; exact hx)
             have H2 := Lib.hid h2
             clear hown hgrow hmv hl h2)
          | fail)
        have e : ints (T ++ [x]) = ints T ++ [.int .i64 x] := by simp [ints]
        have HP := Lib.hid (show OI (TreeAt p g cap fr free many room S :: l) S R N u3 v1 (.int .i64 ((S.nd x).k0 : Nat)) w2 k from
          ⟨(S.nd x).k0, T ++ [x], O, rfl, by rw [HN.out]; exact HR.out.k0 x, by rw [List.length_append, List.length_singleton, e]; exact H2.out, HO.out, HTT.out⟩)
        exact ⟨⟨_, HP.out⟩, least_lt HP.out (Nat.lt_succ_self k) EJ.out⟩
end Go.Proofs.Ytkdmlpigkmlkmaa.Tr
--  DERIVED. Layer 6 (tree): contract of All. 
set_option linter.unusedVariables false
set_option linter.unusedSimpArgs false
set_option maxRecDepth 100000
namespace Go.Proofs.Ytkdmlpigkmlkmaa.Tr
open Go.RowKit Go.Proofs.Ytkdmlpigkmlkmaa Go.Proofs.Ytkdmlpigkmlkmaa.TreeP

def ec (e : En) : List Value := [.int .u64 e.1.1, .int .u64 e.1.2, .int .i64 e.2]
/-- entries, as a row of them lies in memory -/
def ents : List En → List Value
  | [] => []
  | e :: l => ec e ++ ents l
theorem ents_append : ∀ l m : List En, ents (l ++ m) = ents l ++ ents m
  | [], m => rfl
  | e :: l, m => by rw [List.cons_append, ents, ents, ents_append l m, List.append_assoc]
theorem ents_len : ∀ l : List En, (ents l).length = l.length * 3
  | [] => rfl
  | e :: l => by rw [ents, List.length_append, ents_len l, List.length_cons]; simp [ec]; omega
theorem infoEntry : (Try.prog.info? 132).map (fun i => (i.zero, i.size, i.bytes)) = some (some (.agg #[.int .u64 0, .int .u64 0, .int .i64 0]), 3, 24) := by kernel_rfl
def AI (l0 : List HP) (v : Value) (ids : List Nat) (E : List En) (vo vi : Value) (wr : World) : Prop :=
  ∃ k : Nat, vi = .int .i64 (k : Int) ∧ k ≤ ids.length ∧ Own (Row 132 3 vo k (ents (E.take k)) :: Row 3 1 v ids.length (ints ids) :: l0) wr
set_option maxHeartbeats 2000000 in
theorem own_all {p room : Nat} {E : List En} {l : List HP} {w : World} (h : Own (Tree p room E :: l) w) :
    Calls Try.prog 90 #[.pointer (some ⟨p, 0, none⟩)] w fun e w' => ∃ v, e = .returned v ∧ Own (Row 132 3 v E.length (ents E) :: Tree p room E :: l) w' := by
  obtain ⟨g, cap, fr, free, many, S, t, h1, hi, he⟩ := tree_at h
  obtain ⟨ids, eids⟩ : ∃ ids, ids = t.ids := ⟨_, rfl⟩
  have hil : ids.length ≤ 65536 := by rw [eids, ← hi.cnt]; have := hi.mr; have := hi.r2; omega
  obtain ⟨n, hn⟩ : ∃ n, n = ids.length := ⟨_, rfl⟩
  have hEl : E.length = n := by rw [← he, List.length_map, hn, eids]
  have HNO := Lib.hid (no_any (own_tl h1).tw)
  have HOR := Lib.hid (order_any h1 hi.rng ids hil (by rw [eids]; exact ord_all hi.is))
  have HBACK : Hid (∀ (l' : List HP) (w' : World), Own (TreeAt p g cap fr free many room S :: l') w' → Own (Tree p room E :: l') w') := Lib.hid (fun l' w' h' => tree_back h' hi he)
  have HZ := Lib.hid hi.zero
  have HM : Hid (∀ x ∈ ids, x ≠ 0 ∧ x < S.n.length) := Lib.hid (by rw [eids]; exact ids_lt hi.is)
  have HE : Hid (ids.map (entry S) = E) := Lib.hid (by rw [eids]; exact he)
  have HN := Lib.hid hn
  have HEL := Lib.hid hEl
  have hn6 : n ≤ 65536 := by omega
  clear h h1 hi he hil hn hEl eids
  go_enter Try.func90, Try.ntmps90
  go_wp2_with fail
  refine (HNO.out).mono ?_
  rintro e w' ⟨rfl, rfl⟩
  go_wp2_with fail
  refine (HOR.out).mono ?_
  rintro e w1 ⟨v, rfl, h1⟩
  rw [← HN.out] at h1
  obtain ⟨va, vc, rfl⟩ := own_slice h1.row
  have H1 := Lib.hid h1
  clear h1 HOR HNO
  go_wp2_with fail
  go_loopw [3, 13] (fun vo vi wr => AI (TreeAt p g cap fr free many room S :: l) (.slice va n vc) ids E vo vi wr) (fun _ vi _ => n - (intOf vi).toNat)
  case atStart =>
    refine ⟨0, rfl, Nat.zero_le _, ?_⟩
    rw [List.take_zero, ← HN.out]
    exact H1.out.nilRow 132 3
  case round =>
    clear H1
    obtain ⟨k, rfl, hk, h⟩ := hrel
    rw [← HN.out] at hk h
    by_cases hlt : k < n
    · have hltI : (k : Int) < (n : Int) := by omega
      obtain ⟨gv, cv, ev, -, -⟩ := own_cap h.swap.row (by omega)
      injection ev with e1 _ e3
      subst e1 e3
      have hkl : k < ids.length := by rw [← HN.out]; exact hlt
      obtain ⟨x, hx⟩ : ∃ x, x = ids.getD k 0 := ⟨_, rfl⟩
      have hget : ids[k]? = some x := by rw [hx]; simp [List.getD, hkl]
      have cx : wr.cell? ⟨gv, k, none⟩ = some (.int .i64 (x : Int)) := by
        obtain ⟨g', cap', e', -, hcs⟩ := own_form h.swap.row (by omega)
        injection e' with e1 _ _
        injection e1 with e1
        injection e1 with e1
        subst e1
        have := (hcs k _ (ints_at ids k hkl)).1
        rw [← hx] at this
        exact this
      have hm := HM.out x (List.mem_of_getElem? hget)
      have hc := entry_any (own_tl h.third).tw HZ.out x hm.2
      have hEk : E[k]? = some (entry S x) := by rw [← HE.out, List.getElem?_map, hget]; rfl
      obtain ⟨a, ea⟩ : ∃ a, a = (S.nd x).a := ⟨_, rfl⟩
      obtain ⟨s, es⟩ : ∃ s, s = (S.nd x).s := ⟨_, rfl⟩
      obtain ⟨u, eu⟩ : ∃ u, u = (S.nd x).v := ⟨_, rfl⟩
      have hek : ents (E.take (k + 1)) = ents (E.take k) ++ [.int .u64 a, .int .u64 s, .int .i64 u] := by
        have hkE : k < E.length := by rw [HEL.out]; exact hlt
        rw [List.take_add_one, hEk]
        simp [ents_append, ents, ec, entry, TS.key, ea, es, eu]
      rw [← ea, ← es, ← eu] at hc
      have HC := Lib.hid hc
      have H := Lib.hid h
      have HEK := Lib.hid hek
      have hk6 : k < 65536 := by omega
      clear hc h hek ea es eu hEk hm hget hx hkl
      go_wp2_with fail
      refine (HC.out).mono ?_
      rintro e w2 ⟨rfl, hx2⟩
      have H2 := Lib.hid ((H.out.step hx2).step ((Ext.refl w2).alloc (.cells #[.int .u64 a, .int .u64 s, .int .i64 u] 132)))
      clear hx2 HC
      go_wp2_with (at_builtin; refine app_own (W := w2.alloc (.cells #[.int .u64 a, .int .u64 s, .int .i64 u] 132)) rfl _ _ _ _ _ 3 24 rfl Try.underlying126 infoEntry rfl (by omega) (by omega) u3 k (ents (E.take k)) [.int .u64 a, .int .u64 s, .int .i64 u] rfl _ (by simp) rfl rfl (by simp [Value.oneCell']) (by exact H2.out.row) (by omega) ?_)
      intro v1 w3 hown hgrow hmv
      rw [← HEK.out] at hown
      have h3 := H2.out.rowApp hown hgrow hmv
      have HP := Lib.hid (show AI (TreeAt p g cap fr free many room S :: l) (.slice (some ⟨gv, 0, none⟩) n vc) ids E v1 (.int .i64 ((k : Int) + 1)) w3 from ⟨k + 1, by go_num, by rw [← HN.out]; omega, by rw [← HN.out]; exact h3⟩)
      clear hown hgrow hmv h3 H2 cx
      go_wp2_with fail
      exact ⟨HP.out, by simp [intOf]; omega⟩
    · obtain rfl : k = n := by omega
      have hE : E.take k = E := List.take_of_length_le (by rw [HEL.out]; exact Nat.le_refl _)
      rw [hE] at h
      have HF := Lib.hid (show Own (Row 132 3 u3 E.length (ents E) :: Tree p room E :: l) wr from by
        rw [HEL.out]
        exact (HBACK.out _ _ (h.swap.drop.swap)).swap)
      clear h hE hlt hk
      go_wp2
      go_ret
      exact ⟨_, rfl, HF.out⟩
end Go.Proofs.Ytkdmlpigkmlkmaa.Tr
--  DERIVED. Layer 6 (tree): 'Same' of the laws; the document's tree: Less, place. 
set_option linter.unusedVariables false
set_option linter.unusedSimpArgs false
set_option maxRecDepth 100000
namespace Go.Proofs.Ytkdmlpigkmlkmaa.Tr
open Go.RowKit Go.Proofs.Ytkdmlpigkmlkmaa Go.Proofs.Ytkdmlpigkmlkmaa.TreeP

theorem entsAt : ∀ (E : List En) (i c : Nat) (e : En), E[i]? = some e → c < 3 → (ents E)[i * 3 + c]? = (ec e)[c]?
  | [], i, c, e, h, hc => by simp at h
  | y :: l, 0, c, e, h, hc => by
    obtain rfl : y = e := by simpa using h
    rw [ents, List.getElem?_append_left (by simp [ec]; omega)]
    congr 1; omega
  | y :: l, i + 1, c, e, h, hc => by
    rw [ents, List.getElem?_append_right (by simp [ec]; omega), show (ec y).length = 3 from rfl, show (i + 1) * 3 + c - 3 = i * 3 + c from by omega]
    exact entsAt l i c e (by simpa using h) hc
/-- one entry of a row -/
theorem rowEnt {w : World} {g cap n i : Nat} {E : List En} (h : ownsR w 132 3 (.slice (some ⟨g, 0, none⟩) n cap) n (ents E)) {e : En} (he : E[i]? = some e) :
    w.cell? ⟨g, i * 3, none⟩ = some (.int .u64 e.1.1) ∧ w.cell? ⟨g, i * 3 + 1, none⟩ = some (.int .u64 e.1.2) ∧ w.cell? ⟨g, i * 3 + 2, none⟩ = some (.int .i64 e.2) := by
  have hh : ∀ c u, c < 3 → (ec e)[c]? = some u → w.cell? ⟨g, i * 3 + c, none⟩ = some u := fun c u h1 h2 => (h.cells rfl _ _ ((entsAt E i c e he h1).trans h2)).1
  exact ⟨hh 0 _ (by omega) rfl, hh 1 _ (by omega) rfl, hh 2 _ (by omega) rfl⟩
theorem take_eq_succ {E F : List En} {k : Nat} {e f : En} (h : E.take k = F.take k) (he : E[k]? = some e) (hf : F[k]? = some f) (hef : e = f) : E.take (k + 1) = F.take (k + 1) := by
  rw [List.take_add_one, List.take_add_one, he, hf, h, hef]
/-- where a key stands, or would -/
def plc (E : List En) (q : Key) : Nat := (E.takeWhile fun e => lt e.1 q).length
def is_at (E : List En) (q : Key) : Bool := decide ((E[plc E q]?.map (·.1)) = some q)
theorem plc_le (E : List En) (q : Key) : plc E q ≤ E.length := by
  unfold plc
  exact (List.takeWhile_sublist _).length_le
theorem plc_step : ∀ {E : List En} {q : Key} {k : Nat}, k ≤ plc E q → ∀ e, E[k]? = some e → (k < plc E q ↔ lt e.1 q = true)
  | [], q, k, h, e, he => by simp at he
  | x :: l, q, 0, h, e, he => by
    obtain rfl : x = e := by simpa using he
    unfold plc
    rw [List.takeWhile_cons]
    cases lt x.1 q <;> simp
  | x :: l, q, k + 1, h, e, he => by
    have h1 : lt x.1 q = true := by
      cases hx : lt x.1 q
      · unfold plc at h
        rw [List.takeWhile_cons, hx] at h
        simp at h
      · rfl
    have h2 : plc (x :: l) q = plc l q + 1 := by
      unfold plc
      rw [List.takeWhile_cons, h1]
      simp
    rw [h2] at h ⊢
    rw [Nat.add_lt_add_iff_right]
    exact plc_step (E := l) (q := q) (k := k) (by omega) e (by simpa using he)
theorem plc_cons_lt {x : En} {l : List En} {q : Key} (h : lt x.1 q = true) : plc (x :: l) q = plc l q + 1 := by
  unfold plc
  rw [List.takeWhile_cons, h]
  simp
theorem plc_cons_not {x : En} {l : List En} {q : Key} (h : lt x.1 q = false) : plc (x :: l) q = 0 := by
  unfold plc
  rw [List.takeWhile_cons, h]
  simp
theorem parts : ∀ {E : List En} (h : RisingE E) (q : Key),
    (∃ A v B, E = A ++ (q, v) :: B ∧ plc E q = A.length ∧ (∀ e ∈ A, lt e.1 q = true) ∧ (∀ e ∈ B, lt q e.1 = true)) ∨
    (∃ A B, E = A ++ B ∧ plc E q = A.length ∧ (∀ e ∈ A, lt e.1 q = true) ∧ (∀ e ∈ B, lt q e.1 = true))
  | [], _, q => .inr ⟨[], [], rfl, rfl, by simp, by simp⟩
  | x :: l, h, q => by
    unfold RisingE at h
    rw [List.pairwise_cons] at h
    by_cases hx : lt x.1 q = true
    · rcases parts (E := l) h.2 q with ⟨A, v, B, e1, e2, e3, e4⟩ | ⟨A, B, e1, e2, e3, e4⟩
      · exact .inl ⟨x :: A, v, B, by rw [e1]; rfl, by rw [plc_cons_lt hx, e2]; rfl, fun e he => by
          rcases List.mem_cons.1 he with rfl | he
          · exact hx
          · exact e3 e he, e4⟩
      · exact .inr ⟨x :: A, B, by rw [e1]; rfl, by rw [plc_cons_lt hx, e2]; rfl, fun e he => by
          rcases List.mem_cons.1 he with rfl | he
          · exact hx
          · exact e3 e he, e4⟩
    · have hx' : lt x.1 q = false := by simpa using hx
      rcases lt_tri x.1 q with h1 | h1 | h1
      · exact absurd h1 hx
      · refine .inl ⟨[], x.2, l, ?_, plc_cons_not hx', by simp, fun e he => by rw [← h1]; exact h.1 e he⟩
        rw [List.nil_append, ← h1]
      · refine .inr ⟨[], x :: l, rfl, plc_cons_not hx', by simp, fun e he => ?_⟩
        rcases List.mem_cons.1 he with rfl | he
        · exact h1
        · exact lt_trans h1 (h.1 e he)
/-- what the document's place tells of rising entries -/
structure PF (E : List En) (q : Key) : Prop where
  at_ : is_at E q = (look E q).isSome
  put : look E q = none → ∀ v, ins E q v = E.take (plc E q) ++ (q, v) :: E.drop (plc E q)
  has : ∀ u, look E q = some u → E[plc E q]? = some (q, u) ∧ del E q = E.take (plc E q) ++ E.drop (plc E q + 1) ∧ plc E q < E.length
theorem place_facts {E : List En} (h : RisingE E) (q : Key) : PF E q := by
  rcases parts h q with ⟨A, v, B, e1, e2, e3, e4⟩ | ⟨A, B, e1, e2, e3, e4⟩
  · subst e1
    obtain ⟨d1, d2⟩ := del_parts h
    have hat : (A ++ (q, v) :: B)[A.length]? = some (q, v) := by simp
    refine ⟨?_, fun hn => ?_, fun u hu => ?_⟩
    · unfold is_at
      rw [e2, hat, d2]
      simp
    · rw [d2] at hn
      cases hn
    · rw [d2] at hu
      injection hu with hu
      subst hu
      rw [e2]
      refine ⟨hat, ?_, by simp⟩
      rw [d1]
      simp
  · subst e1
    have hl : look (A ++ B) q = none := look_none (fun e he => by
      rcases List.mem_append.1 he with he | he
      · exact lt_ne (e3 e he)
      · exact fun e' => lt_ne (e4 e he) e'.symm)
    refine ⟨?_, fun _ v => ?_, fun u hu => ?_⟩
    · unfold is_at
      rw [e2, hl]
      cases B with
      | nil => simp
      | cons y B =>
        have : y.1 ≠ q := fun e' => lt_ne (e4 y (.head _)) e'.symm
        simp [this]
    · rw [ins_parts e3 e4, e2]
      simp
    · rw [hl] at hu
      cases hu
theorem ents_take : ∀ (E : List En) (i : Nat), ents (E.take i) = (ents E).take (i * 3)
  | [], i => by simp [ents]
  | e :: E, 0 => by simp [ents]
  | e :: E, i + 1 => by
    rw [List.take_succ_cons, ents, ents, ents_take E i, show (i + 1) * 3 = i * 3 + 3 from by omega]
    simp [ec]
theorem ents_drop : ∀ (E : List En) (i : Nat), ents (E.drop i) = (ents E).drop (i * 3)
  | [], i => by simp [ents]
  | e :: E, 0 => by simp [ents]
  | e :: E, i + 1 => by
    rw [List.drop_succ_cons, ents, ents_drop E i, show (i + 1) * 3 = i * 3 + 3 from by omega]
    simp [ec]
end Go.Proofs.Ytkdmlpigkmlkmaa.Tr
