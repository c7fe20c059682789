/- DERIVED. Layer 10 (store): the document's store in memory; contracts of New, May, Get, Bytes. -/
import Derived.Test.YtekdgghekdajbaaStP
import Derived.Test.YtekdgghekdajbaaA4E
import Derived.Deep.DeepCutAuto
set_option linter.unusedVariables false
set_option linter.unusedSimpArgs false
set_option maxRecDepth 100000
namespace Go.Proofs.Ytekdgghekdajbaa.St
open Go.RowKit Go.Proofs.Ytekdgghekdajbaa Go.Proofs.Ytekdgghekdajbaa.Ar

/-- one of the document's: its handle, what is held -/
def o8 (p : HE) : List Value := [.int .u64 (p.1 : Int), .int .u64 p.2.k, .int .u64 p.2.c, .int .i64 p.2.len, .int .u8 p.2.pr, .int .u64 p.2.at_, .int .u64 p.2.seq, .int .u64 p.2.came]
theorem o8_len (p : HE) : (o8 p).length = 8 := rfl
abbrev nilv : Value := .slice none 0 0
abbrev DH (v : Value) (n : Nat) (E : List HE) : HP := RowR 106 8 v n (E.flatMap o8)
abbrev DHO (v : Value) (E : List HE) : HP := Row 106 8 v E.length (E.flatMap o8)
abbrev sv (v1 v2 v3 : Value) (r : Nat) (vL : Value) (nx : Int) : Value := .agg #[v1, v2, v3, .int .i64 (r : Int), vL, .int .u64 nx]
abbrev BS (b : Nat) (v1 v2 v3 : Value) (r : Int) (vL : Value) (nx : Int) : HP := Go.Proofs.Ytekdgghekdajbaa.Blk b #[v1, v2, v3, .int .i64 r, vL, .int .u64 nx] 79
abbrev BZ (b : Nat) : HP := BS b nilv nilv nilv 0 nilv 0
abbrev BH (b : Nat) (x : Hd) : HP := Go.Proofs.Ytekdgghekdajbaa.Blk b #[.int .u64 x.k, .int .u64 x.c, .int .i64 x.len, .int .u8 x.pr, .int .u64 x.at_, .int .u64 x.seq, .int .u64 x.came] 72
abbrev BP (b : Nat) (k c len pr at_ : Int) : HP := Go.Proofs.Ytekdgghekdajbaa.Blk b #[.int .u64 k, .int .u64 c, .int .i64 len, .int .u8 pr, .int .u64 at_] 69
abbrev oneZ : Value := .agg #[.int .u64 0, .int .u64 0, .int .u64 0, .int .i64 0, .int .u8 0, .int .u64 0, .int .u64 0, .int .u64 0]
theorem infoOne : (Try.prog.info? 106).map (fun i => (i.zero, i.size, i.bytes)) = some (some oneZ, 8, 64) := by kernel_rfl
section
variable {l : List HP} {w : World} {b : Nat} {v1 v2 v3 vL : Value} {r nx : Int} {x : Hd} {E : List HE}
theorem boxN (h : Own l w) (hb : w.heap.size = b) (cs : Array Value) (t : TypeId) : ∃ W, w.alloc (.cells cs t) = W ∧ W.heap.size = b + 1 ∧ Own (Go.Proofs.Ytekdgghekdajbaa.Blk b cs t :: l) W :=
  ⟨_, rfl, by rw [World.size_alloc, hb], by have := Go.Proofs.Ytekdgghekdajbaa.Own.blkNew h cs t; rw [hb] at this; exact this⟩
theorem bs_cells (h : Own l w) (hm : BS b v1 v2 v3 r vL nx ∈ l) :
    w.cell? ⟨b, 0, none⟩ = some v1 ∧ w.cell? ⟨b, 1, none⟩ = some v2 ∧ w.cell? ⟨b, 2, none⟩ = some v3 ∧ w.cell? ⟨b, 3, none⟩ = some (.int .i64 r) ∧ w.cell? ⟨b, 4, none⟩ = some vL ∧ w.cell? ⟨b, 5, none⟩ = some (.int .u64 nx) ∧
    w.frozen? ⟨b, 0, none⟩ = false ∧ w.frozen? ⟨b, 1, none⟩ = false ∧ w.frozen? ⟨b, 2, none⟩ = false ∧ w.frozen? ⟨b, 3, none⟩ = false ∧ w.frozen? ⟨b, 4, none⟩ = false ∧ w.frozen? ⟨b, 5, none⟩ = false := by
  have := Go.Proofs.Ytekdgghekdajbaa.Own.blk h hm
  simp [World.cell?, World.frozen?, this]
theorem bh_cells (h : Own l w) (hm : BH b x ∈ l) :
    w.cell? ⟨b, 0, none⟩ = some (.int .u64 x.k) ∧ w.cell? ⟨b, 1, none⟩ = some (.int .u64 x.c) ∧ w.cell? ⟨b, 2, none⟩ = some (.int .i64 x.len) ∧ w.cell? ⟨b, 3, none⟩ = some (.int .u8 x.pr) ∧ w.cell? ⟨b, 4, none⟩ = some (.int .u64 x.at_) ∧ w.cell? ⟨b, 5, none⟩ = some (.int .u64 x.seq) ∧ w.cell? ⟨b, 6, none⟩ = some (.int .u64 x.came) ∧
    w.frozen? ⟨b, 0, none⟩ = false ∧ w.frozen? ⟨b, 1, none⟩ = false ∧ w.frozen? ⟨b, 2, none⟩ = false ∧ w.frozen? ⟨b, 3, none⟩ = false ∧ w.frozen? ⟨b, 4, none⟩ = false ∧ w.frozen? ⟨b, 5, none⟩ = false ∧ w.frozen? ⟨b, 6, none⟩ = false := by
  have := Go.Proofs.Ytekdgghekdajbaa.Own.blk h hm
  simp [World.cell?, World.frozen?, this]
/-- the cells of a store written -/
theorem _root_.Go.Proofs.Ytekdgghekdajbaa.Own.bsSet {v1' v2' v3' vL' : Value} {r' nx' : Int} (h : Own (BS b v1 v2 v3 r vL nx :: l) w) :
    ∃ w1, ((((((w.setCell ⟨b, 0, none⟩ v1').setCell ⟨b, 1, none⟩ v2').setCell ⟨b, 2, none⟩ v3').setCell ⟨b, 3, none⟩ (.int .i64 r')).setCell ⟨b, 4, none⟩ vL').setCell ⟨b, 5, none⟩ (.int .u64 nx')) = w1 ∧ Own (BS b v1' v2' v3' r' vL' nx' :: l) w1 :=
  ⟨_, rfl, Go.Proofs.Ytekdgghekdajbaa.Own.blkSet (o := 5) (Go.Proofs.Ytekdgghekdajbaa.Own.blkSet (o := 4) (Go.Proofs.Ytekdgghekdajbaa.Own.blkSet (o := 3) (Go.Proofs.Ytekdgghekdajbaa.Own.blkSet (o := 2) (Go.Proofs.Ytekdgghekdajbaa.Own.blkSet (o := 1) (Go.Proofs.Ytekdgghekdajbaa.Own.blkSet (o := 0) h v1') v2') v3') (.int .i64 r')) vL') (.int .u64 nx')⟩
theorem _root_.Go.Proofs.Ytekdgghekdajbaa.Own.bsA {v1' v2' v3' : Value} {r' : Int} (h : Own (BS b v1 v2 v3 r vL nx :: l) w) :
    ∃ w1, ((((w.setCell ⟨b, 0, none⟩ v1').setCell ⟨b, 1, none⟩ v2').setCell ⟨b, 2, none⟩ v3').setCell ⟨b, 3, none⟩ (.int .i64 r')) = w1 ∧ Own (BS b v1' v2' v3' r' vL nx :: l) w1 :=
  ⟨_, rfl, Go.Proofs.Ytekdgghekdajbaa.Own.blkSet (o := 3) (Go.Proofs.Ytekdgghekdajbaa.Own.blkSet (o := 2) (Go.Proofs.Ytekdgghekdajbaa.Own.blkSet (o := 1) (Go.Proofs.Ytekdgghekdajbaa.Own.blkSet (o := 0) h v1') v2') v3') (.int .i64 r')⟩
theorem _root_.Go.Proofs.Ytekdgghekdajbaa.Own.bsL {vL' : Value} (h : Own (BS b v1 v2 v3 r vL nx :: l) w) : ∃ w1, w.setCell ⟨b, 4, none⟩ vL' = w1 ∧ Own (BS b v1 v2 v3 r vL' nx :: l) w1 := ⟨_, rfl, Go.Proofs.Ytekdgghekdajbaa.Own.blkSet (o := 4) h vL'⟩
theorem _root_.Go.Proofs.Ytekdgghekdajbaa.Own.bsN {nx' : Int} (h : Own (BS b v1 v2 v3 r vL nx :: l) w) : ∃ w1, w.setCell ⟨b, 5, none⟩ (.int .u64 nx') = w1 ∧ Own (BS b v1 v2 v3 r vL nx' :: l) w1 := ⟨_, rfl, Go.Proofs.Ytekdgghekdajbaa.Own.blkSet (o := 5) h (.int .u64 nx')⟩
theorem _root_.Go.Proofs.Ytekdgghekdajbaa.Own.bhSet {y : Hd} (h : Own (BH b x :: l) w) :
    ∃ w1, (((((((w.setCell ⟨b, 0, none⟩ (.int .u64 y.k)).setCell ⟨b, 1, none⟩ (.int .u64 y.c)).setCell ⟨b, 2, none⟩ (.int .i64 y.len)).setCell ⟨b, 3, none⟩ (.int .u8 y.pr)).setCell ⟨b, 4, none⟩ (.int .u64 y.at_)).setCell ⟨b, 5, none⟩ (.int .u64 y.seq)).setCell ⟨b, 6, none⟩ (.int .u64 y.came)) = w1 ∧ Own (BH b y :: l) w1 := by
  have h0 : Own (Go.Proofs.Ytekdgghekdajbaa.Blk b #[.int .u64 y.k, .int .u64 x.c, .int .i64 x.len, .int .u8 x.pr, .int .u64 x.at_, .int .u64 x.seq, .int .u64 x.came] 72 :: l) _ := Go.Proofs.Ytekdgghekdajbaa.Own.blkSet (o := 0) h (.int .u64 y.k)
  have h1 : Own (Go.Proofs.Ytekdgghekdajbaa.Blk b #[.int .u64 y.k, .int .u64 y.c, .int .i64 x.len, .int .u8 x.pr, .int .u64 x.at_, .int .u64 x.seq, .int .u64 x.came] 72 :: l) _ := Go.Proofs.Ytekdgghekdajbaa.Own.blkSet (o := 1) h0 (.int .u64 y.c)
  have h2 : Own (Go.Proofs.Ytekdgghekdajbaa.Blk b #[.int .u64 y.k, .int .u64 y.c, .int .i64 y.len, .int .u8 x.pr, .int .u64 x.at_, .int .u64 x.seq, .int .u64 x.came] 72 :: l) _ := Go.Proofs.Ytekdgghekdajbaa.Own.blkSet (o := 2) h1 (.int .i64 y.len)
  have h3 : Own (Go.Proofs.Ytekdgghekdajbaa.Blk b #[.int .u64 y.k, .int .u64 y.c, .int .i64 y.len, .int .u8 y.pr, .int .u64 x.at_, .int .u64 x.seq, .int .u64 x.came] 72 :: l) _ := Go.Proofs.Ytekdgghekdajbaa.Own.blkSet (o := 3) h2 (.int .u8 y.pr)
  have h4 : Own (Go.Proofs.Ytekdgghekdajbaa.Blk b #[.int .u64 y.k, .int .u64 y.c, .int .i64 y.len, .int .u8 y.pr, .int .u64 y.at_, .int .u64 x.seq, .int .u64 x.came] 72 :: l) _ := Go.Proofs.Ytekdgghekdajbaa.Own.blkSet (o := 4) h3 (.int .u64 y.at_)
  have h5 : Own (Go.Proofs.Ytekdgghekdajbaa.Blk b #[.int .u64 y.k, .int .u64 y.c, .int .i64 y.len, .int .u8 y.pr, .int .u64 y.at_, .int .u64 y.seq, .int .u64 x.came] 72 :: l) _ := Go.Proofs.Ytekdgghekdajbaa.Own.blkSet (o := 5) h4 (.int .u64 y.seq)
  have h6 : Own (Go.Proofs.Ytekdgghekdajbaa.Blk b #[.int .u64 y.k, .int .u64 y.c, .int .i64 y.len, .int .u8 y.pr, .int .u64 y.at_, .int .u64 y.seq, .int .u64 y.came] 72 :: l) _ := Go.Proofs.Ytekdgghekdajbaa.Own.blkSet (o := 6) h5 (.int .u64 y.came)
  exact ⟨_, rfl, h6⟩
theorem flat_at {α : Type} {f : α → List Value} {sz : Nat} (hf : ∀ x, (f x).length = sz) : ∀ (l : List α) (i c : Nat) (x : α), l[i]? = some x → c < sz → (l.flatMap f)[i * sz + c]? = (f x)[c]?
  | [], i, c, x, h, hc => by simp at h
  | y :: l, 0, c, x, h, hc => by
    obtain rfl : y = x := by simpa using h
    rw [List.flatMap_cons, List.getElem?_append_left (by rw [hf]; omega)]
    congr 1; omega
  | y :: l, i + 1, c, x, h, hc => by
    rw [List.flatMap_cons, List.getElem?_append_right (by rw [hf, Nat.add_mul]; omega), hf, show (i + 1) * sz + c - sz = i * sz + c from by rw [Nat.add_mul]; omega]
    exact flat_at hf l i c x (by simpa using h) hc
/-- one of the document's -/
theorem drow {a : Option Addr} {n c : Nat} (h : Own (DH (.slice a n c) n E :: l) w) {k : Nat} (hk : k < n) {p : HE} (hd : E[k]? = some p) :
    ∃ g, a = some ⟨g, 0, none⟩ ∧ n ≤ c ∧ w.cell? ⟨g, k * 8, none⟩ = some (.int .u64 (p.1 : Int)) ∧ w.cell? ⟨g, k * 8 + 1, none⟩ = some (.int .u64 p.2.k) ∧ w.cell? ⟨g, k * 8 + 2, none⟩ = some (.int .u64 p.2.c) ∧ w.cell? ⟨g, k * 8 + 3, none⟩ = some (.int .i64 p.2.len) ∧ w.cell? ⟨g, k * 8 + 4, none⟩ = some (.int .u8 p.2.pr) ∧ w.cell? ⟨g, k * 8 + 5, none⟩ = some (.int .u64 p.2.at_) ∧ w.cell? ⟨g, k * 8 + 6, none⟩ = some (.int .u64 p.2.seq) ∧ w.cell? ⟨g, k * 8 + 7, none⟩ = some (.int .u64 p.2.came) := by
  obtain ⟨g, cap, ev, h1, -⟩ := h.rowR.form (by omega)
  injection ev with e1 _ e3
  subst e1 e3
  have hh : ∀ c v, c < 8 → (o8 p)[c]? = some v → w.cell? ⟨g, k * 8 + c, none⟩ = some v := fun c v hc hv =>
    (h.rowR.cells (g := g) rfl _ _ (by rw [flat_at o8_len E k c p hd hc]; exact hv)).1
  exact ⟨g, rfl, h1, hh 0 _ (by omega) rfl, hh 1 _ (by omega) rfl, hh 2 _ (by omega) rfl, hh 3 _ (by omega) rfl, hh 4 _ (by omega) rfl, hh 5 _ (by omega) rfl, hh 6 _ (by omega) rfl, hh 7 _ (by omega) rfl⟩
end
/-! ### New, May -/
theorem rsnew_any (q : Int) {w : World} {l : List HP} (h : Own l w) :
    Calls Try.prog 35 #[.int .i64 q] w fun e w' => e = .returned (.tuple #[.agg #[nilv, nilv, nilv, .int .i64 q, nilv, .int .u64 1], .bool (decide (1 ≤ q ∧ q ≤ 65536))]) ∧ Own l w' := by
  obtain ⟨b, hb⟩ : ∃ b, w.heap.size = b := ⟨_, rfl⟩
  obtain ⟨W1, hW1, hs1, h1⟩ := boxN h hb #[nilv, nilv, nilv, .int .i64 0, nilv, .int .u64 0] 79
  have HN := Lib.hid (rnew_any q h1)
  obtain ⟨B, hB⟩ : ∃ B, B = decide (1 ≤ q ∧ q ≤ 65536) := ⟨_, rfl⟩
  rw [← hB] at HN ⊢
  have HW1 := Lib.hid hW1
  have HB := Lib.hid hb
  clear h h1 hW1 hs1 hB hb
  go_enter Try.func35, Try.ntmps35
  go_upto_region 1 with fail
  rw [HB.out, HW1.out]
  clear HB HW1
  go_wp2_with fail
  (with_reducible refine (HN.out).mono ?_)
  rintro e w2 ⟨rfl, h2⟩
  obtain ⟨b2, hb2⟩ : ∃ b, w2.heap.size = b := ⟨_, rfl⟩
  obtain ⟨W3, hW3, hs3, h3⟩ := boxN h2 hb2 #[nilv, nilv, nilv, .int .i64 q] 48
  obtain ⟨z0, z1, z2, z3, -, -, -, -⟩ := bx_cells (b := b2) h3 (.head _)
  obtain ⟨c0, c1, c2, c3, c4, c5, f0, f1, f2, f3, f4, f5⟩ := bs_cells (b := b) (v1 := nilv) (v2 := nilv) (v3 := nilv) (r := 0) (vL := nilv) (nx := 0) h3 (.tail _ (.head _))
  obtain ⟨w4, e4, h4⟩ := Own.bsSet (v1' := nilv) (v2' := nilv) (v3' := nilv) (r' := q) (vL' := nilv) (nx' := 1) h3.swap
  obtain ⟨q0, q1, q2, q3, q4, q5, -⟩ := bs_cells h4 (.head _)
  have H4 := Lib.hid h4
  have HB2 := Lib.hid hb2
  have HW3 := Lib.hid hW3
  clear h2 h3 h4 hb2 hW3 hs3 HN
  go_upto_region 2 with fail
  rw [HB2.out, HW3.out]
  clear HB2 HW3
  go_wp2_with fail
  exact bodyPost_ret (v := .tuple #[.agg #[nilv, nilv, nilv, .int .i64 q, nilv, .int .u64 1], .bool B]) (by simp [results, Try.results35, go_sem, q0, q1, q2, q3, q4, q5]) rfl ⟨rfl, H4.out.drop.drop⟩
theorem rmay_any {l : List HP} {w : World} (h : Own l w) (k c len pr at_ : Int) :
    Calls Try.prog 46 #[pk k c len pr at_] w fun e w' => e = .returned (.bool (!bad len pr)) ∧ Own l w' := by
  obtain ⟨b, hb⟩ : ∃ b, w.heap.size = b := ⟨_, rfl⟩
  obtain ⟨W1, hW1, hs1, h1⟩ := boxN h hb #[.int .u64 k, .int .u64 c, .int .i64 len, .int .u8 pr, .int .u64 at_] 69
  obtain ⟨c0, c1, c2, c3, c4⟩ := Own.blk5 h1 (.head _)
  have H1 := Lib.hid h1
  have HW1 := Lib.hid hW1
  have HB := Lib.hid hb
  clear h h1 hW1 hs1 hb
  unfold bad
  by_cases l1 : len < 1
  · have d1 : decide (1 ≤ len) = false := by simp; omega
    rw [show decide (len < 1) = true from decide_eq_true l1]
    clear l1
    go_enter Try.func46, Try.ntmps46
    go_upto_region 1 with fail
    rw [HB.out, HW1.out]
    clear HB HW1
    go_wp2_with fail
    go_ret
    exact ⟨rfl, H1.out.drop⟩
  · have d1 : decide (1 ≤ len) = true := by simp; omega
    rw [show decide (len < 1) = false from decide_eq_false l1]
    clear l1
    by_cases l2 : 65536 < len
    · have d2 : decide (len ≤ 65536) = false := by simp; omega
      rw [show decide (65536 < len) = true from decide_eq_true l2]
      clear l2
      go_enter Try.func46, Try.ntmps46
      go_upto_region 1 with fail
      rw [HB.out, HW1.out]
      clear HB HW1
      go_wp2_with fail
      go_ret
      exact ⟨rfl, H1.out.drop⟩
    · have d2 : decide (len ≤ 65536) = true := by simp; omega
      rw [show decide (65536 < len) = false from decide_eq_false l2]
      clear l2
      by_cases l3 : 15 < pr
      · have d3 : decide (pr ≤ 15) = false := by simp; omega
        rw [show decide (15 < pr) = true from decide_eq_true l3]
        clear l3
        go_enter Try.func46, Try.ntmps46
        go_upto_region 1 with fail
        rw [HB.out, HW1.out]
        clear HB HW1
        go_wp2_with fail
        go_ret
        exact ⟨rfl, H1.out.drop⟩
      · have d3 : decide (pr ≤ 15) = true := by simp; omega
        rw [show decide (15 < pr) = false from decide_eq_false l3]
        clear l3
        go_enter Try.func46, Try.ntmps46
        go_upto_region 1 with fail
        rw [HB.out, HW1.out]
        clear HB HW1
        go_wp2_with fail
        go_ret
        exact ⟨rfl, H1.out.drop⟩
/-! ### Get, Bytes -/
def GeI (E : List HE) (n hh : Nat) (W : World) (vi : Value) (wr : World) : Prop :=
  ∃ k : Nat, vi = .int .i64 (k : Int) ∧ k ≤ n ∧ (∀ j p, j < k → E[j]? = some p → p.1 ≠ hh) ∧ wr = W
theorem rsget_any {X : A} {v1 v2 v3 vL : Value} {r : Nat} {nx : Int} {n : Nat} {E : List HE} {l : List HP} {w : World} (h : Own (RT X v1 :: RB X v2 :: RK X v3 :: DH vL n E :: l) w) (hL : E.length = n) (bn : n ≤ 60000) (nd : (E.map (·.1)).Nodup) (hh : Nat) :
    Calls Try.prog 38 #[sv v1 v2 v3 r vL nx, .int .u64 hh] w fun e w' => e = .returned (.tuple #[hagg (getH E hh), .bool (lookH E hh).isSome]) ∧ Own (RT X v1 :: RB X v2 :: RK X v3 :: DH vL n E :: l) w' := by
  obtain ⟨a1, c1, rfl⟩ := h.rowR.slice
  obtain ⟨a2, c2, rfl⟩ := h.swap.rowR.slice
  obtain ⟨a3, c3, rfl⟩ := h.third.rowR.slice
  obtain ⟨aL, cL, rfl⟩ := h.fourth.rowR.slice
  obtain ⟨b, hb⟩ : ∃ b, w.heap.size = b := ⟨_, rfl⟩
  obtain ⟨W1, hW1, hs1, h1⟩ := boxN h hb #[.slice a1 X.st.length c1, .slice a2 X.st.length c2, .slice a3 X.bk.length c3, .int .i64 (r : Int), .slice aL n cL, .int .u64 nx] 79
  obtain ⟨W2, hW2, hs2, h2⟩ := boxN h1 hs1 #[.int .u64 0, .int .u64 0, .int .i64 0, .int .u8 0, .int .u64 0, .int .u64 0, .int .u64 0] 72
  obtain ⟨c0, c1', c2', c3', c4, c5, -⟩ := bs_cells (b := b) (v1 := .slice a1 X.st.length c1) (v2 := .slice a2 X.st.length c2) (v3 := .slice a3 X.bk.length c3) (r := (r : Int)) (vL := .slice aL n cL) (nx := nx) h2 (.tail _ (.head _))
  obtain ⟨z0, z1, z2, z3, z4, z5, z6, f0, f1, f2, f3, f4, f5, f6⟩ := bh_cells (b := b + 1) (x := zeroH) h2 (.head _)
  unfold zeroH at z0 z1 z2 z3 z4 z5 z6
  have HB := Lib.hid hb
  have HW1 := Lib.hid hW1
  have HW2 := Lib.hid hW2
  have HR := Lib.hid hL
  have HND := Lib.hid nd
  have H2 := Lib.hid h2
  clear h h1 h2 hb hW1 hW2 hs1 hs2 hL nd
  go_enter Try.func38, Try.ntmps38
  go_upto_region 1 with fail
  rw [HB.out, HW1.out, HW2.out]
  clear HB HW1 HW2
  go_wp2_with fail
  go_loopw [6] (fun vi wr => GeI E n hh W2 vi wr) (fun vi _ => n - (intOf vi).toNat)
  case atStart => exact ⟨0, rfl, Nat.zero_le _, fun j p hj => absurd hj (Nat.not_lt_zero j), rfl⟩
  case round =>
    obtain ⟨k, rfl, hk, hno, hwr⟩ := hrel
    obtain rfl : W2 = wr := hwr.symm
    by_cases hlt : k < n
    · have hltI : (k : Int) < (n : Int) := by omega
      obtain ⟨p, hp⟩ : ∃ p, E[k]? = some p := ⟨_, List.getElem?_eq_getElem (by rw [HR.out]; exact hlt)⟩
      obtain ⟨g, rfl, gc, r0, r1, r2, r3, r4, r5, r6, r7⟩ := drow (Own.sixth6 H2.out) hlt hp
      obtain ⟨q, x⟩ := p
      simp only at r0 r1 r2 r3 r4 r5 r6 r7
      by_cases hs : q = hh
      · subst hs
        have hl : lookH E q = some x := look_mem HND.out (List.mem_of_getElem? hp)
        obtain ⟨w3, e3, h3⟩ := Own.bhSet (y := x) (x := zeroH) H2.out
        obtain ⟨q0, q1, q2, q3, q4, q5, q6, -⟩ := bh_cells h3 (.head _)
        have H3 := Lib.hid h3
        have HL := Lib.hid hl
        clear h3 hl hp hno
        go_wp2_with fail
        unfold getH
        rw [HL.out]
        exact bodyPost_ret (v := .tuple #[hagg x, .bool true]) (by simp [results, Try.results38, go_sem, q0, q1, q2, q3, q4, q5, q6]) rfl ⟨rfl, H3.out.drop.drop⟩
      · have hs1 : ((q : Int) == (hh : Int)) = false := by simp; omega
        have HX : Hid (GeI E n hh W2 (.int .i64 ((k : Int) + 1)) W2) := Lib.hid ⟨k + 1, by go_num, by omega, fun j e' hj he' => by
          by_cases hjk : j = k
          · subst hjk
            rw [hp] at he'
            injection he' with he'
            rw [← he']; exact hs
          · exact hno j e' (by omega) he', rfl⟩
        clear hp hno hs
        go_wp2_with fail
        exact ⟨HX.out, by simp [intOf]; omega⟩
    · obtain rfl : k = n := by omega
      have hl : lookH E hh = none := by
        unfold lookH
        rw [Option.map_eq_none_iff, List.find?_eq_none]
        intro p hp
        obtain ⟨j, hj⟩ := List.getElem?_of_mem hp
        simpa using hno j p (by have := (List.getElem?_eq_some_iff.1 hj).1; rw [HR.out] at this; exact this) hj
      obtain ⟨w3, e3, h3⟩ := Own.bhSet (y := zeroH) (x := zeroH) H2.out
      obtain ⟨q0, q1, q2, q3, q4, q5, q6, -⟩ := bh_cells h3 (.head _)
      unfold zeroH at e3 q0 q1 q2 q3 q4 q5 q6
      have H3 := Lib.hid h3
      have HL := Lib.hid hl
      clear hno hlt hk h3 hl
      go_wp2_with fail
      unfold getH
      rw [HL.out]
      exact bodyPost_ret (v := .tuple #[hagg zeroH, .bool false]) (by simp [results, Try.results38, go_sem, q0, q1, q2, q3, q4, q5, q6, zeroH]) rfl ⟨rfl, H3.out.drop.drop⟩
theorem sumH_take {E : List HE} {k : Nat} {p : HE} (h : E[k]? = some p) : sumH (E.take (k + 1)) = sumH (E.take k) + p.2.len := by
  rw [List.take_add_one, h]
  exact sumH_snoc _ _
theorem rsbytes_any {X : A} {v1 v2 v3 vL : Value} {r : Nat} {nx : Int} {n : Nat} {E : List HE} {l : List HP} {w : World} (h : Own (RT X v1 :: RB X v2 :: RK X v3 :: DH vL n E :: l) w) (hL : E.length = n) (bn : n ≤ 60000) (hl : ∀ p ∈ E, 1 ≤ p.2.len ∧ p.2.len ≤ 65536) :
    Calls Try.prog 40 #[sv v1 v2 v3 r vL nx] w fun e w' => e = .returned (.int .i64 (sumH E)) ∧ Own (RT X v1 :: RB X v2 :: RK X v3 :: DH vL n E :: l) w' := by
  obtain ⟨a1, c1, rfl⟩ := h.rowR.slice
  obtain ⟨a2, c2, rfl⟩ := h.swap.rowR.slice
  obtain ⟨a3, c3, rfl⟩ := h.third.rowR.slice
  obtain ⟨aL, cL, rfl⟩ := h.fourth.rowR.slice
  obtain ⟨b, hb⟩ : ∃ b, w.heap.size = b := ⟨_, rfl⟩
  obtain ⟨W1, hW1, hs1, h1⟩ := boxN h hb #[.slice a1 X.st.length c1, .slice a2 X.st.length c2, .slice a3 X.bk.length c3, .int .i64 (r : Int), .slice aL n cL, .int .u64 nx] 79
  obtain ⟨c0, c1', c2', c3', c4, c5, -⟩ := bs_cells (b := b) (v1 := .slice a1 X.st.length c1) (v2 := .slice a2 X.st.length c2) (v3 := .slice a3 X.bk.length c3) (r := (r : Int)) (vL := .slice aL n cL) (nx := nx) h1 (.head _)
  have HB := Lib.hid hb
  have HW1 := Lib.hid hW1
  have HR := Lib.hid hL
  have H1 := Lib.hid h1
  have HLL := Lib.hid hl
  clear h h1 hb hW1 hs1 hL hl
  go_enter Try.func40, Try.ntmps40
  go_upto_region 1 with fail
  rw [HB.out, HW1.out]
  clear HB HW1
  go_wp2_with fail
  go_loopw [3, 4] (fun s vi wr => ∃ k : Nat, vi = .int .i64 (k : Int) ∧ k ≤ n ∧ s = .int .i64 (sumH (E.take k)) ∧ wr = W1) (fun _ vi _ => n - (intOf vi).toNat)
  case atStart => exact ⟨0, rfl, Nat.zero_le _, rfl, rfl⟩
  case round =>
    obtain ⟨k, rfl, hk, rfl, hwr⟩ := hrel
    obtain rfl : W1 = wr := hwr.symm
    by_cases hlt : k < n
    · have hltI : (k : Int) < (n : Int) := by omega
      obtain ⟨p, hp⟩ : ∃ p, E[k]? = some p := ⟨_, List.getElem?_eq_getElem (by rw [HR.out]; exact hlt)⟩
      obtain ⟨g, rfl, gc, r0, r1, r2, r3, r4, r5, r6, r7⟩ := drow (Own.fifth H1.out) hlt hp
      have hsu := sumH_take hp
      have hb1 := sum_bd (E := E.take k) (k := 60000) (fun p hp => HLL.out p (List.mem_of_mem_take hp)) (by rw [List.length_take]; omega)
      have hb2 := HLL.out p (List.mem_of_getElem? hp)
      obtain ⟨u, hu⟩ : ∃ u, u = sumH (E.take k) := ⟨_, rfl⟩
      obtain ⟨z, hz⟩ : ∃ z, z = p.2.len := ⟨_, rfl⟩
      rw [← hz] at hsu r3 hb2
      rw [← hu] at hsu hb1 ⊢
      have HS := Lib.hid hsu
      obtain ⟨hb3, hb4⟩ := hb1
      obtain ⟨hb5, hb6⟩ := hb2
      clear hp hsu hu hz
      go_wp2_with fail
      exact ⟨⟨k + 1, by go_num, by omega, by rw [HS.out], trivial⟩, by simp [intOf]; omega⟩
    · obtain rfl : k = n := by omega
      have HS := Lib.hid (show E.take k = E from List.take_of_length_le (by rw [HR.out]; exact Nat.le_refl _))
      rw [HS.out]
      clear hlt hk
      go_wp2_with fail
      go_ret
      exact ⟨rfl, H1.out.drop⟩
end Go.Proofs.Ytekdgghekdajbaa.St
