/- DERIVED. Layer 14 (table): the document's tables in memory; contracts of at, with. -/
import Derived.Test.YtkdmlpigkmlkmaaTcP
set_option linter.unusedVariables false
set_option linter.unusedSimpArgs false
set_option maxRecDepth 100000
namespace Go.Proofs.Ytkdmlpigkmlkmaa.Tb
open Go.RowKit Go.Proofs.Ytkdmlpigkmlkmaa Go.Proofs.Ytkdmlpigkmlkmaa.TreeP Go.Proofs.Ytkdmlpigkmlkmaa.Tr Go.Proofs.Ytkdmlpigkmlkmaa.Bk

abbrev dv (n bits : Nat) (keep : Int) (vL vG : Value) (u : Nat) : Value := .agg #[.int .i64 (n : Int), .int .i64 (bits : Int), .int .u64 keep, vL, vG, .int .i64 (u : Int)]
abbrev BD (b n bits : Nat) (keep : Int) (vL vG : Value) (u : Nat) : HP := Go.Proofs.Ytkdmlpigkmlkmaa.Blk b #[.int .i64 (n : Int), .int .i64 (bits : Int), .int .u64 keep, vL, vG, .int .i64 (u : Int)] 64
abbrev DRR (v : Value) (n : Nat) (L : List DR) : HP := RowR 76 9 v n (L.flatMap dc)
abbrev DRO (v : Value) (L : List DR) : HP := Row 76 9 v L.length (L.flatMap dc)
abbrev BR (b : Nat) (d : DR) : HP := Go.Proofs.Ytkdmlpigkmlkmaa.Blk b #[.int .i64 (d.k : Int), .int .u64 d.f.s, .int .u64 d.f.c, .int .u64 d.f.ra, .int .i64 d.f.cr, .int .u64 d.f.nx, .int .u64 d.f.db, .int .u64 d.f.ag, .bool d.q] 76
abbrev drv (d : DR) : Value := .agg #[.int .i64 (d.k : Int), .int .u64 d.f.s, .int .u64 d.f.c, .int .u64 d.f.ra, .int .i64 d.f.cr, .int .u64 d.f.nx, .int .u64 d.f.db, .int .u64 d.f.ag, .bool d.q]
abbrev nilv : Value := .slice none 0 0
abbrev drz : Value := .agg #[.int .i64 0, .int .u64 0, .int .u64 0, .int .u64 0, .int .i64 0, .int .u64 0, .int .u64 0, .int .u64 0, .bool false]
theorem infoDR : (Try.prog.info? 76).map (fun i => (i.zero, i.size, i.bytes)) = some (some drz, 9, 72) := by kernel_rfl
section
variable {l : List HP} {w : World} {b n bits u : Nat} {keep : Int} {vL vG : Value} {d : DR} {L : List DR} {v : Value}
theorem bd_cells (h : Own l w) (hm : BD b n bits keep vL vG u ∈ l) :
    w.cell? ⟨b, 0, none⟩ = some (.int .i64 (n : Int)) ∧ w.cell? ⟨b, 1, none⟩ = some (.int .i64 (bits : Int)) ∧ w.cell? ⟨b, 2, none⟩ = some (.int .u64 keep) ∧ w.cell? ⟨b, 3, none⟩ = some vL ∧ w.cell? ⟨b, 4, none⟩ = some vG ∧ w.cell? ⟨b, 5, none⟩ = some (.int .i64 (u : Int)) ∧
    w.frozen? ⟨b, 0, none⟩ = false ∧ w.frozen? ⟨b, 1, none⟩ = false ∧ w.frozen? ⟨b, 2, none⟩ = false ∧ w.frozen? ⟨b, 3, none⟩ = false ∧ w.frozen? ⟨b, 4, none⟩ = false ∧ w.frozen? ⟨b, 5, none⟩ = false := by
  have := Go.Proofs.Ytkdmlpigkmlkmaa.Own.blk h hm
  simp [World.cell?, World.frozen?, this]
theorem br_cells (h : Own l w) (hm : BR b d ∈ l) :
    w.cell? ⟨b, 0, none⟩ = some (.int .i64 (d.k : Int)) ∧ w.cell? ⟨b, 1, none⟩ = some (.int .u64 d.f.s) ∧ w.cell? ⟨b, 2, none⟩ = some (.int .u64 d.f.c) ∧ w.cell? ⟨b, 3, none⟩ = some (.int .u64 d.f.ra) ∧ w.cell? ⟨b, 4, none⟩ = some (.int .i64 d.f.cr) ∧ w.cell? ⟨b, 5, none⟩ = some (.int .u64 d.f.nx) ∧ w.cell? ⟨b, 6, none⟩ = some (.int .u64 d.f.db) ∧ w.cell? ⟨b, 7, none⟩ = some (.int .u64 d.f.ag) ∧ w.cell? ⟨b, 8, none⟩ = some (.bool d.q) := by
  have := Go.Proofs.Ytkdmlpigkmlkmaa.Own.blk h hm
  simp [World.cell?, this]
theorem flat_at {α : Type} {f : α → List Value} {sz : Nat} (hf : ∀ x, (f x).length = sz) : ∀ (l : List α) (i c : Nat) (x : α), l[i]? = some x → c < sz → (l.flatMap f)[i * sz + c]? = (f x)[c]?
  | [], i, c, x, h, hc => by simp at h
  | y :: l, 0, c, x, h, hc => by
    obtain rfl : y = x := by simpa using h
    rw [List.flatMap_cons, List.getElem?_append_left (by rw [hf]; omega)]
    congr 1; omega
  | y :: l, i + 1, c, x, h, hc => by
    rw [List.flatMap_cons, List.getElem?_append_right (by rw [hf, Nat.add_mul]; omega), hf, show (i + 1) * sz + c - sz = i * sz + c from by rw [Nat.add_mul]; omega]
    exact flat_at hf l i c x (by simpa using h) hc
/-- one row of the document's -/
theorem drow {a : Option Addr} {n c : Nat} (h : Own (DRR (.slice a n c) n L :: l) w) {k : Nat} (hk : k < n) (hd : L[k]? = some d) :
    ∃ g, a = some ⟨g, 0, none⟩ ∧ n ≤ c ∧ w.cell? ⟨g, k * 9, none⟩ = some (.int .i64 (d.k : Int)) ∧ w.cell? ⟨g, k * 9 + 1, none⟩ = some (.int .u64 d.f.s) ∧ w.cell? ⟨g, k * 9 + 2, none⟩ = some (.int .u64 d.f.c) ∧ w.cell? ⟨g, k * 9 + 3, none⟩ = some (.int .u64 d.f.ra) ∧ w.cell? ⟨g, k * 9 + 4, none⟩ = some (.int .i64 d.f.cr) ∧ w.cell? ⟨g, k * 9 + 5, none⟩ = some (.int .u64 d.f.nx) ∧ w.cell? ⟨g, k * 9 + 6, none⟩ = some (.int .u64 d.f.db) ∧ w.cell? ⟨g, k * 9 + 7, none⟩ = some (.int .u64 d.f.ag) ∧ w.cell? ⟨g, k * 9 + 8, none⟩ = some (.bool d.q) := by
  obtain ⟨g, cap, ev, h1, -⟩ := h.rowR.form (by omega)
  injection ev with e1 _ e3
  subst e1 e3
  have hh : ∀ c v, c < 9 → (dc d)[c]? = some v → w.cell? ⟨g, k * 9 + c, none⟩ = some v := fun c v hc hv =>
    (h.rowR.cells (g := g) rfl _ _ (by rw [flat_at dc_len L k c d hd hc]; exact hv)).1
  exact ⟨g, rfl, h1, hh 0 _ (by omega) rfl, hh 1 _ (by omega) rfl, hh 2 _ (by omega) rfl, hh 3 _ (by omega) rfl, hh 4 _ (by omega) rfl, hh 5 _ (by omega) rfl, hh 6 _ (by omega) rfl, hh 7 _ (by omega) rfl, hh 8 _ (by omega) rfl⟩
/-- all six of a table written -/
theorem Own.bdSet {n' bits' u' : Nat} {keep' : Int} {vL' vG' : Value} (h : Own (BD b n bits keep vL vG u :: l) w) :
    ∃ w1, (((((w.setCell ⟨b, 0, none⟩ (.int .i64 (n' : Int))).setCell ⟨b, 1, none⟩ (.int .i64 (bits' : Int))).setCell ⟨b, 2, none⟩ (.int .u64 keep')).setCell ⟨b, 3, none⟩ vL').setCell ⟨b, 4, none⟩ vG').setCell ⟨b, 5, none⟩ (.int .i64 (u' : Int)) = w1 ∧ Own (BD b n' bits' keep' vL' vG' u' :: l) w1 :=
  ⟨_, rfl, Go.Proofs.Ytkdmlpigkmlkmaa.Own.blkSet (o := 5) (Go.Proofs.Ytkdmlpigkmlkmaa.Own.blkSet (o := 4) (Go.Proofs.Ytkdmlpigkmlkmaa.Own.blkSet (o := 3) (Go.Proofs.Ytkdmlpigkmlkmaa.Own.blkSet (o := 2) (Go.Proofs.Ytkdmlpigkmlkmaa.Own.blkSet (o := 1) (Go.Proofs.Ytkdmlpigkmlkmaa.Own.blkSet (o := 0) h (.int .i64 (n' : Int))) (.int .i64 (bits' : Int))) (.int .u64 keep')) vL') vG') (.int .i64 (u' : Int))⟩
theorem Own.bdL {vL' : Value} (h : Own (BD b n bits keep vL vG u :: l) w) : ∃ w1, w.setCell ⟨b, 3, none⟩ vL' = w1 ∧ Own (BD b n bits keep vL' vG u :: l) w1 := ⟨_, rfl, Go.Proofs.Ytkdmlpigkmlkmaa.Own.blkSet (o := 3) h vL'⟩
theorem Own.bdG {vG' : Value} (h : Own (BD b n bits keep vL vG u :: l) w) : ∃ w1, w.setCell ⟨b, 4, none⟩ vG' = w1 ∧ Own (BD b n bits keep vL vG' u :: l) w1 := ⟨_, rfl, Go.Proofs.Ytkdmlpigkmlkmaa.Own.blkSet (o := 4) h vG'⟩
theorem Own.bdU {u' : Nat} (h : Own (BD b n bits keep vL vG u :: l) w) : ∃ w1, w.setCell ⟨b, 5, none⟩ (.int .i64 (u' : Int)) = w1 ∧ Own (BD b n bits keep vL vG u' :: l) w1 := ⟨_, rfl, Go.Proofs.Ytkdmlpigkmlkmaa.Own.blkSet (o := 5) h (.int .i64 (u' : Int))⟩
theorem Own.bdB {bits' : Nat} (h : Own (BD b n bits keep vL vG u :: l) w) : ∃ w1, w.setCell ⟨b, 1, none⟩ (.int .i64 (bits' : Int)) = w1 ∧ Own (BD b n bits' keep vL vG u :: l) w1 := ⟨_, rfl, Go.Proofs.Ytkdmlpigkmlkmaa.Own.blkSet (o := 1) h (.int .i64 (bits' : Int))⟩
theorem Own.bdK {keep' : Int} (h : Own (BD b n bits keep vL vG u :: l) w) : ∃ w1, w.setCell ⟨b, 2, none⟩ (.int .u64 keep') = w1 ∧ Own (BD b n bits keep' vL vG u :: l) w1 := ⟨_, rfl, Go.Proofs.Ytkdmlpigkmlkmaa.Own.blkSet (o := 2) h (.int .u64 keep')⟩
/-- two boxes of one's own differ -/
theorem bd_mem : ∀ {l : List HP} {w : World} {U : Nat → Prop} {b : Nat} {cs : Array Value} {t : TypeId}, OwnIn l w U → Go.Proofs.Ytkdmlpigkmlkmaa.Blk b cs t ∈ l → U b
  | [], _, _, _, _, _, _, hm => by simp at hm
  | P :: l, w, U, b, cs, t, ⟨s, V, hP, hl, _, hU⟩, hm => by
    cases hm with
    | head => exact (hU b).2 (.inl ((hP.2 b).2 rfl))
    | tail _ hm => exact (hU b).2 (.inr (bd_mem hl hm))
theorem bd_ne {b b' : Nat} {cs cs' : Array Value} {t t' : TypeId} {l : List HP} {w : World} (h : Own (Go.Proofs.Ytkdmlpigkmlkmaa.Blk b cs t :: l) w) (hm : Go.Proofs.Ytkdmlpigkmlkmaa.Blk b' cs' t' ∈ l) : b ≠ b' := by
  obtain ⟨U, s, V, hP, hl, hd, hU⟩ := h
  intro e
  exact hd b ((hP.2 b).2 rfl) (e ▸ bd_mem hl hm)
theorem dr_slice {e size n : Nat} {v : Value} {xs : List Value} {w : World} (h : w.ownsRow 0 e size v n xs) : ∃ a c, v = .slice a n c := (ownsR_of h).slice
end
/-! ### at -/
def AtS (L : List DR) (f i : Int) : Prop := (i = -1 ∧ ∀ d ∈ L, (d.k : Int) ≠ f) ∨ ∃ (j : Nat) (d : DR), i = (j : Int) ∧ L[j]? = some d ∧ (d.k : Int) = f
def DatI (L : List DR) (n : Nat) (f : Int) (W : World) (vi : Value) (wr : World) : Prop :=
  ∃ k : Nat, vi = .int .i64 (k : Int) ∧ k ≤ n ∧ (∀ j d, j < k → L[j]? = some d → (d.k : Int) ≠ f) ∧ wr = W
theorem rat_any {v vG : Value} {n N bits u : Nat} {keep : Int} {L : List DR} {l : List HP} {w : World} (h : Own (DRR v n L :: l) w) (hL : L.length = n) (bn : n ≤ 60000) (f : Int) :
    Calls Try.prog 69 #[dv N bits keep v vG u, .int .i64 f] w fun e w' => ∃ i, e = .returned (.int .i64 i) ∧ AtS L f i ∧ Own (DRR v n L :: l) w' := by
  obtain ⟨va, vc, rfl⟩ := h.rowR.slice
  have h1 : Own (BD w.heap.size N bits keep (.slice va n vc) vG u :: DRR (.slice va n vc) n L :: l) (w.alloc (.cells #[.int .i64 (N : Int), .int .i64 (bits : Int), .int .u64 keep, .slice va n vc, vG, .int .i64 (u : Int)] 64)) := Go.Proofs.Ytkdmlpigkmlkmaa.Own.blkNew h _ _
  obtain ⟨W, hW⟩ : ∃ W, w.alloc (.cells #[.int .i64 (N : Int), .int .i64 (bits : Int), .int .u64 keep, .slice va n vc, vG, .int .i64 (u : Int)] 64) = W := ⟨_, rfl⟩
  obtain ⟨b, hb⟩ : ∃ b, b = w.heap.size := ⟨_, rfl⟩
  rw [hW, ← hb] at h1
  obtain ⟨c0, c1, c2, c3, c4, c5, -, -, -, -, -, -⟩ := bd_cells h1 (.head _)
  have H1 := Lib.hid h1
  have HW := Lib.hid hW
  have HB := Lib.hid hb
  have HR := Lib.hid hL
  clear h h1 hW hb hL
  go_enter Try.func69, Try.ntmps69
  go_wp2_with fail
  rw [HW.out, ← HB.out]
  clear HW HB
  go_loopw [5] (fun vi wr => DatI L n f W vi wr) (fun vi _ => n - (intOf vi).toNat)
  case atStart => exact ⟨0, rfl, Nat.zero_le _, fun j e hj => absurd hj (Nat.not_lt_zero j), rfl⟩
  case round =>
    obtain ⟨k, rfl, hk, hno, hwr⟩ := hrel
    obtain rfl : W = wr := hwr.symm
    by_cases hlt : k < n
    · have hltI : (k : Int) < (n : Int) := by omega
      obtain ⟨e, he⟩ : ∃ e, L[k]? = some e := ⟨_, List.getElem?_eq_getElem (by rw [HR.out]; exact hlt)⟩
      obtain ⟨g, rfl, gc, r0, r1, r2, r3, r4, r5, r6, r7, r8⟩ := drow (H1.out.swap) hlt he
      by_cases hs : (e.k : Int) = f
      · have HX : Hid (AtS L f (k : Int)) := Lib.hid (.inr ⟨k, e, rfl, he, hs⟩)
        rw [hs] at r0
        clear he hno hs
        go_wp2_with fail
        go_ret
        exact ⟨_, rfl, HX.out, H1.out.drop⟩
      · have hs1 : ((e.k : Int) == f) = false := by simp [hs]
        have HX : Hid (DatI L n f W (.int .i64 ((k : Int) + 1)) W) := Lib.hid ⟨k + 1, by go_num, by omega, fun j e' hj he' => by
          by_cases hjk : j = k
          · subst hjk
            rw [he] at he'
            injection he' with he'
            rw [← he']; exact hs
          · exact hno j e' (by omega) he', rfl⟩
        clear he hno hs
        go_wp2_with fail
        exact ⟨HX.out, by simp [intOf]; omega⟩
    · obtain rfl : k = n := by omega
      have HX : Hid (AtS L f (-1)) := Lib.hid (.inl ⟨rfl, fun d hd => by
        obtain ⟨j, hj⟩ := List.getElem?_of_mem hd
        exact hno j d (by have := (List.getElem?_eq_some_iff.1 hj).1; rw [HR.out] at this; exact this) hj⟩)
      clear hno hlt hk
      go_wp2_with fail
      go_ret
      exact ⟨_, rfl, HX.out, H1.out.drop⟩
/-! ### with -/
theorem wlen_step (r : DR) (s : List DR × Bool) (x : DR) : (wStep r s x).1.length + (if (wStep r s x).2 = true then 0 else 1) ≤ s.1.length + (if s.2 = true then 0 else 1) + 1 := by
  unfold wStep
  obtain ⟨o, d⟩ := s
  cases d <;> by_cases h1 : r.k ≤ x.k <;> by_cases h2 : x.k = r.k <;> simp [h1, h2]
theorem wlen (r : DR) : ∀ (L : List DR) (s : List DR × Bool), (L.foldl (wStep r) s).1.length + (if (L.foldl (wStep r) s).2 = true then 0 else 1) ≤ s.1.length + (if s.2 = true then 0 else 1) + L.length
  | [], s => Nat.le_refl _
  | x :: L, s => by
    rw [List.foldl_cons]
    have h1 := wlen r L (wStep r s x)
    have h2 := wlen_step r s x
    rw [List.length_cons]
    omega
def wk (r : DR) (L : List DR) (k : Nat) : List DR × Bool := (L.take k).foldl (wStep r) ([], false)
theorem wk_succ {r : DR} {L : List DR} {k : Nat} {x : DR} (h : L[k]? = some x) : wk r L (k + 1) = wStep r (wk r L k) x := by
  unfold wk
  rw [List.take_add_one, h, List.foldl_append]
  rfl
theorem wk_len (r : DR) (L : List DR) (k : Nat) : (wk r L k).1.length ≤ k + 1 := by
  have := wlen r (L.take k) ([], false)
  rw [List.length_take] at this
  unfold wk
  simp only [List.length_nil, Bool.false_eq_true, if_false] at this
  omega
theorem wk_end {r : DR} {L : List DR} {n : Nat} (h : L.length = n) : withD L r = wEnd r (wk r L n) := by
  unfold withD wk
  rw [List.take_of_length_le (by omega)]
/-- a row of the document's that has grown by one -/
theorem Own.drApp {F : List DR} {e : DR} {v v1 : Value} {l : List HP} {W w1 : World} (h : Own (DRO v F :: l) W) (hr : w1.ownsRow 0 76 9 v1 (F.length + 1) (F.flatMap dc ++ [.int .i64 (e.k : Int), .int .u64 e.f.s, .int .u64 e.f.c, .int .u64 e.f.ra, .int .i64 e.f.cr, .int .u64 e.f.nx, .int .u64 e.f.db, .int .u64 e.f.ag, .bool e.q])) (hg : W.grownBy w1 v.ownBlock) (hm : Moved W v v1) : Own (DRO v1 (F ++ [e]) :: l) w1 := by
  have e1 : (F ++ [e]).flatMap dc = F.flatMap dc ++ [.int .i64 (e.k : Int), .int .u64 e.f.s, .int .u64 e.f.c, .int .u64 e.f.ra, .int .i64 e.f.cr, .int .u64 e.f.nx, .int .u64 e.f.db, .int .u64 e.f.ag, .bool e.q] := by rw [List.flatMap_append]; rfl
  rw [← e1] at hr
  have := h.rowApp hr hg hm
  unfold DRO
  rw [List.length_append]
  exact this
def DwI (l : List HP) (b n N bits u : Nat) (keep : Int) (v vG : Value) (L : List DR) (r : DR) (s5 s6 vi : Value) (wr : World) : Prop :=
  ∃ k : Nat, vi = .int .i64 (k : Int) ∧ k ≤ n ∧ s6 = .bool (wk r L k).2 ∧ Own (DRO s5 (wk r L k).1 :: DRR v n L :: BR (b + 1) r :: BD (b + 1 + 1) 0 0 0 nilv nilv 0 :: BD b N bits keep v vG u :: l) wr
set_option maxHeartbeats 2000000 in
theorem rwith_any {v : Value} {ga : Option Addr} {gk gcc : Nat} {n N bits u : Nat} {keep : Int} {L : List DR} {l : List HP} {w : World} (h : Own (DRR v n L :: l) w) (hL : L.length = n) (bn : n ≤ 60000) (r : DR) :
    Calls Try.prog 68 #[dv N bits keep v (.slice ga gk gcc) u, drv r] w fun e w' => ∃ v', e = .returned (dv N bits keep v' (.slice ga gk gcc) u) ∧ Own (DRR v' (withD L r).length (withD L r) :: l) w' := by
  obtain ⟨va, vc, rfl⟩ := h.rowR.slice
  obtain ⟨O, hO⟩ : ∃ O, O = withD L r := ⟨_, rfl⟩
  rw [← hO]
  have HO := Lib.hid hO
  clear hO
  have h1 : Own (BD w.heap.size N bits keep (.slice va n vc) (.slice ga gk gcc) u :: DRR (.slice va n vc) n L :: l) (w.alloc (.cells #[.int .i64 (N : Int), .int .i64 (bits : Int), .int .u64 keep, .slice va n vc, (.slice ga gk gcc), .int .i64 (u : Int)] 64)) := Go.Proofs.Ytkdmlpigkmlkmaa.Own.blkNew h _ _
  obtain ⟨W, hW⟩ : ∃ W, w.alloc (.cells #[.int .i64 (N : Int), .int .i64 (bits : Int), .int .u64 keep, .slice va n vc, (.slice ga gk gcc), .int .i64 (u : Int)] 64) = W := ⟨_, rfl⟩
  obtain ⟨b, hb⟩ : ∃ b, b = w.heap.size := ⟨_, rfl⟩
  have hs1 : W.heap.size = b + 1 := by rw [← hW, hb, World.size_alloc]
  rw [hW, ← hb] at h1
  have h2 := Go.Proofs.Ytkdmlpigkmlkmaa.Own.blkNew h1 #[.int .i64 (r.k : Int), .int .u64 r.f.s, .int .u64 r.f.c, .int .u64 r.f.ra, .int .i64 r.f.cr, .int .u64 r.f.nx, .int .u64 r.f.db, .int .u64 r.f.ag, .bool r.q] 76
  rw [hs1] at h2
  obtain ⟨W2, hW2⟩ : ∃ W2, W.alloc (.cells #[.int .i64 (r.k : Int), .int .u64 r.f.s, .int .u64 r.f.c, .int .u64 r.f.ra, .int .i64 r.f.cr, .int .u64 r.f.nx, .int .u64 r.f.db, .int .u64 r.f.ag, .bool r.q] 76) = W2 := ⟨_, rfl⟩
  have hs2 : W2.heap.size = b + 1 + 1 := by rw [← hW2, World.size_alloc, hs1]
  rw [hW2] at h2
  have h3 := Go.Proofs.Ytkdmlpigkmlkmaa.Own.blkNew h2 #[.int .i64 0, .int .i64 0, .int .u64 0, .slice none 0 0, .slice none 0 0, .int .i64 0] 64
  rw [hs2] at h3
  obtain ⟨W3, hW3⟩ : ∃ W3, W2.alloc (.cells #[.int .i64 0, .int .i64 0, .int .u64 0, .slice none 0 0, .slice none 0 0, .int .i64 0] 64) = W3 := ⟨_, rfl⟩
  rw [hW3] at h3
  have h4 : Own (DRO nilv (wk r L 0).1 :: DRR (.slice va n vc) n L :: BR (b + 1) r :: BD (b + 1 + 1) 0 0 0 nilv nilv 0 :: BD b N bits keep (.slice va n vc) (.slice ga gk gcc) u :: l) W3 := by
    have h5 : Own (DRR (.slice va n vc) n L :: BR (b + 1) r :: BD (b + 1 + 1) 0 0 0 nilv nilv 0 :: BD b N bits keep (.slice va n vc) (.slice ga gk gcc) u :: l) W3 := h3.fourth.tail OwnIn.swap
    exact h5.nilRow 76 9
  have H4 := Lib.hid h4
  have HR := Lib.hid hL
  have HB := Lib.hid hb
  have HW := Lib.hid hW
  have HW2 := Lib.hid hW2
  have HW3 := Lib.hid hW3
  have HS1 := Lib.hid hs1
  have HS2 := Lib.hid hs2
  clear h h1 h2 h3 h4 hL hb hW hW2 hW3 hs1 hs2
  go_enter Try.func68, Try.ntmps68
  go_wp2_with fail
  rw [HW.out, ← HB.out, HW2.out, HW3.out]
  clear HW HW2 HW3 HS1 HS2 HB
  go_loopw [5, 6, 7] (fun s5 s6 vi wr => DwI l b n N bits u keep (.slice va n vc) (.slice ga gk gcc) L r s5 s6 vi wr) (fun _ _ vi _ => n - (intOf vi).toNat)
  case atStart => exact ⟨0, rfl, Nat.zero_le _, rfl, H4.out⟩
  case round =>
    clear H4
    obtain ⟨k, rfl, hk, rfl, h⟩ := hrel
    obtain ⟨c0, c1, c2, c3, c4, c5, -, -, -, z0, -, -⟩ := bd_cells h (b := b) (n := N) (bits := bits) (keep := keep) (vL := .slice va n vc) (vG := (.slice ga gk gcc)) (u := u) (.tail _ (.tail _ (.tail _ (.tail _ (.head _)))))
    obtain ⟨y0, y1, y2, y3, y4, y5, y6, y7, y8⟩ := br_cells h (b := b + 1) (d := r) (.tail _ (.tail _ (.head _)))
    by_cases hlt : k < n
    · have hltI : (k : Int) < (n : Int) := by omega
      obtain ⟨e, he⟩ : ∃ e, L[k]? = some e := ⟨_, List.getElem?_eq_getElem (by rw [HR.out]; exact hlt)⟩
      obtain ⟨g, rfl, gc, r0, r1, r2, r3, r4, r5, r6, r7, r8⟩ := drow h.swap hlt he
      have hst := wk_succ (r := r) he
      have hlen := wk_len r L k
      obtain ⟨o, dn, ho⟩ : ∃ o dn, wk r L k = (o, dn) := ⟨_, _, rfl⟩
      rw [ho] at h hst hlen ⊢
      simp only at h hlen ⊢
      obtain ⟨M, hM⟩ : ∃ M, M = o.length := ⟨_, rfl⟩
      have hMk : M ≤ k + 1 := by rw [hM]; exact hlen
      obtain ⟨va9, vc9, rfl⟩ := dr_slice h.row
      rw [← hM]
      rw [hM] at hMk
      rw [← hM] at hMk
      have HM := Lib.hid hM
      have HE := Lib.hid he
      rw [← hM] at h
      clear hlen hM ho
      have hqs : (e.k = r.k) ∨ ¬ e.k = r.k := by omega
      by_cases hadd : dn = false ∧ r.k ≤ e.k
      · obtain ⟨rfl, hge⟩ := hadd
        have hadd := hge
        have hq : decide (r.k ≤ e.k) = true := by simpa using hge
        have hq2 : decide ((r.k : Int) ≤ (e.k : Int)) = true := by simp; omega
        rcases hqs with hkk | hkk
        · have hst2 : wk r L (k + 1) = (o ++ [r], true) := by rw [hst]; simp [wStep, hge, hkk]
          have hn1 : (e.k != r.k) = false := by simp [hkk]
          have hn2 : ((e.k : Int) != (r.k : Int)) = false := by simp [hkk]
          clear hge
          have HS := Lib.hid hst2
          rw [hkk] at r0
          clear he hst hst2 hkk hadd
          go_upto_region 6 with fail
          go_quiet (fail)
          replace h := h.step ((Ext.refl _).drewN nq)
          generalize World.drewN _ nq = W1 at h ⊢
          clear c0 c1 c2 c3 c4 c5 y0 y1 y2 y3 y4 y5 y6 y7 y8 z0 r0 r1 r2 r3 r4 r5 r6 r7 r8
          obtain ⟨c0, c1, c2, c3, c4, c5, -, -, -, z0, -, -⟩ := bd_cells h (b := b) (n := N) (bits := bits) (keep := keep) (vL := .slice (some ⟨g, 0, none⟩) n vc) (vG := (.slice ga gk gcc)) (u := u) (.tail _ (.tail _ (.tail _ (.tail _ (.head _)))))
          obtain ⟨y0, y1, y2, y3, y4, y5, y6, y7, y8⟩ := br_cells h (b := b + 1) (d := r) (.tail _ (.tail _ (.head _)))
          obtain ⟨g', ge, -, r0, r1, r2, r3, r4, r5, r6, r7, r8⟩ := drow h.swap hlt HE.out
          obtain rfl : g = g' := by injection ge with ge; injection ge
          have H := Lib.hid h
          clear h
          go_upto_region 8 with (at_builtin; refine app_own (W := W1) rfl _ _ _ _ _ 9 72 rfl Try.underlying62 infoDR rfl (by omega) (by omega) (.slice va9 M vc9) M (o.flatMap dc) [.int .i64 (r.k : Int), .int .u64 r.f.s, .int .u64 r.f.c, .int .u64 r.f.ra, .int .i64 r.f.cr, .int .u64 r.f.nx, .int .u64 r.f.db, .int .u64 r.f.ag, .bool r.q] rfl _ (by simp) rfl rfl (by simp [Value.oneCell']) (by have h := H.out.row; rw [← HM.out] at h; exact h) (by omega) ?_; intro v1 w3 hown hgrow hmv; rw [HM.out] at hown; have h3 := Own.drApp (e := r) H.out hown hgrow hmv; have h := h3; clear h3 hown hgrow hmv H; clear c0 c1 c2 c3 c4 c5 y0 y1 y2 y3 y4 y5 y6 y7 y8 z0 r0 r1 r2 r3 r4 r5 r6 r7 r8; obtain ⟨c0, c1, c2, c3, c4, c5, -, -, -, z0, -, -⟩ := bd_cells h (b := b) (n := N) (bits := bits) (keep := keep) (vL := .slice (some ⟨g, 0, none⟩) n vc) (vG := (.slice ga gk gcc)) (u := u) (.tail _ (.tail _ (.tail _ (.tail _ (.head _))))); obtain ⟨y0, y1, y2, y3, y4, y5, y6, y7, y8⟩ := br_cells h (b := b + 1) (d := r) (.tail _ (.tail _ (.head _))); obtain ⟨g', ge, -, r0, r1, r2, r3, r4, r5, r6, r7, r8⟩ := drow h.swap hlt HE.out; obtain rfl : g = g' := by injection ge with ge; injection ge)
          have HM := Lib.hid (show M + 1 = (o ++ [r]).length by rw [List.length_append, ← HM.out]; rfl)
          obtain ⟨va8, vc8, rfl⟩ := dr_slice h.row
          rw [← HM.out] at h ⊢
          go_upto_region 9 with fail
          go_quiet (fail)
          replace h := h.step ((Ext.refl _).drewN nq)
          generalize World.drewN _ nq = W1 at h ⊢
          clear c0 c1 c2 c3 c4 c5 y0 y1 y2 y3 y4 y5 y6 y7 y8 z0 r0 r1 r2 r3 r4 r5 r6 r7 r8
          obtain ⟨c0, c1, c2, c3, c4, c5, -, -, -, z0, -, -⟩ := bd_cells h (b := b) (n := N) (bits := bits) (keep := keep) (vL := .slice (some ⟨g, 0, none⟩) n vc) (vG := (.slice ga gk gcc)) (u := u) (.tail _ (.tail _ (.tail _ (.tail _ (.head _)))))
          obtain ⟨y0, y1, y2, y3, y4, y5, y6, y7, y8⟩ := br_cells h (b := b + 1) (d := r) (.tail _ (.tail _ (.head _)))
          obtain ⟨g', ge, -, r0, r1, r2, r3, r4, r5, r6, r7, r8⟩ := drow h.swap hlt HE.out
          obtain rfl : g = g' := by injection ge with ge; injection ge
          have H := Lib.hid h
          clear h
          have HX : Hid (DwI l b n N bits u keep (.slice (some ⟨g, 0, none⟩) n vc) (.slice ga gk gcc) L r (.slice va8 (M + 1) vc8) (.bool true) (.int .i64 ((k : Int) + 1)) W1) := Lib.hid ⟨k + 1, by go_num, by omega, by rw [HS.out], by rw [HS.out]; exact H.out⟩
          clear H
          go_wp2_with fail
          exact ⟨HX.out, by simp [intOf]; omega⟩
        · have hst2 : wk r L (k + 1) = (o ++ [r] ++ [e], true) := by rw [hst]; simp [wStep, hge, hkk]
          have hn1 : (e.k != r.k) = true := by simp [hkk]
          have hn2 : ((e.k : Int) != (r.k : Int)) = true := by simp; omega
          clear hge
          have HS := Lib.hid hst2
          clear he hst hst2 hkk hadd
          go_upto_region 6 with fail
          go_quiet (fail)
          replace h := h.step ((Ext.refl _).drewN nq)
          generalize World.drewN _ nq = W1 at h ⊢
          clear c0 c1 c2 c3 c4 c5 y0 y1 y2 y3 y4 y5 y6 y7 y8 z0 r0 r1 r2 r3 r4 r5 r6 r7 r8
          obtain ⟨c0, c1, c2, c3, c4, c5, -, -, -, z0, -, -⟩ := bd_cells h (b := b) (n := N) (bits := bits) (keep := keep) (vL := .slice (some ⟨g, 0, none⟩) n vc) (vG := (.slice ga gk gcc)) (u := u) (.tail _ (.tail _ (.tail _ (.tail _ (.head _)))))
          obtain ⟨y0, y1, y2, y3, y4, y5, y6, y7, y8⟩ := br_cells h (b := b + 1) (d := r) (.tail _ (.tail _ (.head _)))
          obtain ⟨g', ge, -, r0, r1, r2, r3, r4, r5, r6, r7, r8⟩ := drow h.swap hlt HE.out
          obtain rfl : g = g' := by injection ge with ge; injection ge
          have H := Lib.hid h
          clear h
          go_upto_region 8 with (at_builtin; refine app_own (W := W1) rfl _ _ _ _ _ 9 72 rfl Try.underlying62 infoDR rfl (by omega) (by omega) (.slice va9 M vc9) M (o.flatMap dc) [.int .i64 (r.k : Int), .int .u64 r.f.s, .int .u64 r.f.c, .int .u64 r.f.ra, .int .i64 r.f.cr, .int .u64 r.f.nx, .int .u64 r.f.db, .int .u64 r.f.ag, .bool r.q] rfl _ (by simp) rfl rfl (by simp [Value.oneCell']) (by have h := H.out.row; rw [← HM.out] at h; exact h) (by omega) ?_; intro v1 w3 hown hgrow hmv; rw [HM.out] at hown; have h3 := Own.drApp (e := r) H.out hown hgrow hmv; have h := h3; clear h3 hown hgrow hmv H; clear c0 c1 c2 c3 c4 c5 y0 y1 y2 y3 y4 y5 y6 y7 y8 z0 r0 r1 r2 r3 r4 r5 r6 r7 r8; obtain ⟨c0, c1, c2, c3, c4, c5, -, -, -, z0, -, -⟩ := bd_cells h (b := b) (n := N) (bits := bits) (keep := keep) (vL := .slice (some ⟨g, 0, none⟩) n vc) (vG := (.slice ga gk gcc)) (u := u) (.tail _ (.tail _ (.tail _ (.tail _ (.head _))))); obtain ⟨y0, y1, y2, y3, y4, y5, y6, y7, y8⟩ := br_cells h (b := b + 1) (d := r) (.tail _ (.tail _ (.head _))); obtain ⟨g', ge, -, r0, r1, r2, r3, r4, r5, r6, r7, r8⟩ := drow h.swap hlt HE.out; obtain rfl : g = g' := by injection ge with ge; injection ge)
          have HM := Lib.hid (show M + 1 = (o ++ [r]).length by rw [List.length_append, ← HM.out]; rfl)
          obtain ⟨va8, vc8, rfl⟩ := dr_slice h.row
          rw [← HM.out] at h ⊢
          go_upto_region 9 with fail
          go_quiet (fail)
          replace h := h.step ((Ext.refl _).drewN nq)
          generalize World.drewN _ nq = W1 at h ⊢
          clear c0 c1 c2 c3 c4 c5 y0 y1 y2 y3 y4 y5 y6 y7 y8 z0 r0 r1 r2 r3 r4 r5 r6 r7 r8
          obtain ⟨c0, c1, c2, c3, c4, c5, -, -, -, z0, -, -⟩ := bd_cells h (b := b) (n := N) (bits := bits) (keep := keep) (vL := .slice (some ⟨g, 0, none⟩) n vc) (vG := (.slice ga gk gcc)) (u := u) (.tail _ (.tail _ (.tail _ (.tail _ (.head _)))))
          obtain ⟨y0, y1, y2, y3, y4, y5, y6, y7, y8⟩ := br_cells h (b := b + 1) (d := r) (.tail _ (.tail _ (.head _)))
          obtain ⟨g', ge, -, r0, r1, r2, r3, r4, r5, r6, r7, r8⟩ := drow h.swap hlt HE.out
          obtain rfl : g = g' := by injection ge with ge; injection ge
          have H := Lib.hid h
          clear h
          go_wp2_with (at_builtin; refine app_own (W := W1) rfl _ _ _ _ _ 9 72 rfl Try.underlying62 infoDR rfl (by omega) (by omega) (.slice va8 (M + 1) vc8) (M + 1) ((o ++ [r]).flatMap dc) [.int .i64 (e.k : Int), .int .u64 e.f.s, .int .u64 e.f.c, .int .u64 e.f.ra, .int .i64 e.f.cr, .int .u64 e.f.nx, .int .u64 e.f.db, .int .u64 e.f.ag, .bool e.q] rfl _ (by simp) rfl rfl (by simp [Value.oneCell']) (by have h := H.out.row; rw [← HM.out] at h; exact h) (by omega) ?_; intro v1 w3 hown hgrow hmv; rw [HM.out] at hown; have h3 := Own.drApp (e := e) H.out hown hgrow hmv; have HX : Hid (DwI l b n N bits u keep (.slice (some ⟨g, 0, none⟩) n vc) (.slice ga gk gcc) L r v1 (.bool true) (.int .i64 ((k : Int) + 1)) w3) := Lib.hid ⟨k + 1, by go_num, by omega, by rw [HS.out], by rw [HS.out]; exact h3⟩; clear h3 hown hgrow hmv H)
          exact ⟨HX.out, by simp [intOf]; omega⟩
      · rcases hqs with hkk | hkk
        · have hdn : dn = true := by
            cases dn with
            | true => rfl
            | false => exact absurd ⟨rfl, Nat.le_of_eq hkk.symm⟩ hadd
          subst hdn
          have hst2 : wk r L (k + 1) = (o, true) := by rw [hst]; simp [wStep, hkk]
          have hn1 : (e.k != r.k) = false := by simp [hkk]
          have hn2 : ((e.k : Int) != (r.k : Int)) = false := by simp [hkk]
          have HS := Lib.hid hst2
          rw [hkk] at r0
          clear he hst hst2 hkk hadd
          go_upto_region 6 with fail
          go_quiet (fail)
          replace h := h.step ((Ext.refl _).drewN nq)
          generalize World.drewN _ nq = W1 at h ⊢
          clear c0 c1 c2 c3 c4 c5 y0 y1 y2 y3 y4 y5 y6 y7 y8 z0 r0 r1 r2 r3 r4 r5 r6 r7 r8
          obtain ⟨c0, c1, c2, c3, c4, c5, -, -, -, z0, -, -⟩ := bd_cells h (b := b) (n := N) (bits := bits) (keep := keep) (vL := .slice (some ⟨g, 0, none⟩) n vc) (vG := (.slice ga gk gcc)) (u := u) (.tail _ (.tail _ (.tail _ (.tail _ (.head _)))))
          obtain ⟨y0, y1, y2, y3, y4, y5, y6, y7, y8⟩ := br_cells h (b := b + 1) (d := r) (.tail _ (.tail _ (.head _)))
          obtain ⟨g', ge, -, r0, r1, r2, r3, r4, r5, r6, r7, r8⟩ := drow h.swap hlt HE.out
          obtain rfl : g = g' := by injection ge with ge; injection ge
          go_upto_region 9 with fail
          go_quiet (fail)
          replace h := h.step ((Ext.refl _).drewN nq)
          generalize World.drewN _ nq = W1 at h ⊢
          clear c0 c1 c2 c3 c4 c5 y0 y1 y2 y3 y4 y5 y6 y7 y8 z0 r0 r1 r2 r3 r4 r5 r6 r7 r8
          obtain ⟨c0, c1, c2, c3, c4, c5, -, -, -, z0, -, -⟩ := bd_cells h (b := b) (n := N) (bits := bits) (keep := keep) (vL := .slice (some ⟨g, 0, none⟩) n vc) (vG := (.slice ga gk gcc)) (u := u) (.tail _ (.tail _ (.tail _ (.tail _ (.head _)))))
          obtain ⟨y0, y1, y2, y3, y4, y5, y6, y7, y8⟩ := br_cells h (b := b + 1) (d := r) (.tail _ (.tail _ (.head _)))
          obtain ⟨g', ge, -, r0, r1, r2, r3, r4, r5, r6, r7, r8⟩ := drow h.swap hlt HE.out
          obtain rfl : g = g' := by injection ge with ge; injection ge
          have H := Lib.hid h
          clear h
          have HX : Hid (DwI l b n N bits u keep (.slice (some ⟨g, 0, none⟩) n vc) (.slice ga gk gcc) L r (.slice va9 M vc9) (.bool true) (.int .i64 ((k : Int) + 1)) W1) := Lib.hid ⟨k + 1, by go_num, by omega, by rw [HS.out], by rw [HS.out]; exact H.out⟩
          clear H
          go_wp2_with fail
          exact ⟨HX.out, by simp [intOf]; omega⟩
        · have hst2 : wk r L (k + 1) = (o ++ [e], dn) := by rw [hst]; simp [wStep, hadd, hkk]
          have hn1 : (e.k != r.k) = true := by simp [hkk]
          have hn2 : ((e.k : Int) != (r.k : Int)) = true := by simp; omega
          cases dn with
          | true =>
            have HS := Lib.hid hst2
            clear he hst hst2 hkk hadd
            go_upto_region 6 with fail
            go_quiet (fail)
            replace h := h.step ((Ext.refl _).drewN nq)
            generalize World.drewN _ nq = W1 at h ⊢
            clear c0 c1 c2 c3 c4 c5 y0 y1 y2 y3 y4 y5 y6 y7 y8 z0 r0 r1 r2 r3 r4 r5 r6 r7 r8
            obtain ⟨c0, c1, c2, c3, c4, c5, -, -, -, z0, -, -⟩ := bd_cells h (b := b) (n := N) (bits := bits) (keep := keep) (vL := .slice (some ⟨g, 0, none⟩) n vc) (vG := (.slice ga gk gcc)) (u := u) (.tail _ (.tail _ (.tail _ (.tail _ (.head _)))))
            obtain ⟨y0, y1, y2, y3, y4, y5, y6, y7, y8⟩ := br_cells h (b := b + 1) (d := r) (.tail _ (.tail _ (.head _)))
            obtain ⟨g', ge, -, r0, r1, r2, r3, r4, r5, r6, r7, r8⟩ := drow h.swap hlt HE.out
            obtain rfl : g = g' := by injection ge with ge; injection ge
            go_upto_region 9 with fail
            go_quiet (fail)
            replace h := h.step ((Ext.refl _).drewN nq)
            generalize World.drewN _ nq = W1 at h ⊢
            clear c0 c1 c2 c3 c4 c5 y0 y1 y2 y3 y4 y5 y6 y7 y8 z0 r0 r1 r2 r3 r4 r5 r6 r7 r8
            obtain ⟨c0, c1, c2, c3, c4, c5, -, -, -, z0, -, -⟩ := bd_cells h (b := b) (n := N) (bits := bits) (keep := keep) (vL := .slice (some ⟨g, 0, none⟩) n vc) (vG := (.slice ga gk gcc)) (u := u) (.tail _ (.tail _ (.tail _ (.tail _ (.head _)))))
            obtain ⟨y0, y1, y2, y3, y4, y5, y6, y7, y8⟩ := br_cells h (b := b + 1) (d := r) (.tail _ (.tail _ (.head _)))
            obtain ⟨g', ge, -, r0, r1, r2, r3, r4, r5, r6, r7, r8⟩ := drow h.swap hlt HE.out
            obtain rfl : g = g' := by injection ge with ge; injection ge
            have H := Lib.hid h
            clear h
            go_wp2_with (at_builtin; refine app_own (W := W1) rfl _ _ _ _ _ 9 72 rfl Try.underlying62 infoDR rfl (by omega) (by omega) (.slice va9 M vc9) M (o.flatMap dc) [.int .i64 (e.k : Int), .int .u64 e.f.s, .int .u64 e.f.c, .int .u64 e.f.ra, .int .i64 e.f.cr, .int .u64 e.f.nx, .int .u64 e.f.db, .int .u64 e.f.ag, .bool e.q] rfl _ (by simp) rfl rfl (by simp [Value.oneCell']) (by have h := H.out.row; rw [← HM.out] at h; exact h) (by omega) ?_; intro v1 w3 hown hgrow hmv; rw [HM.out] at hown; have h3 := Own.drApp (e := e) H.out hown hgrow hmv; have HX : Hid (DwI l b n N bits u keep (.slice (some ⟨g, 0, none⟩) n vc) (.slice ga gk gcc) L r v1 (.bool true) (.int .i64 ((k : Int) + 1)) w3) := Lib.hid ⟨k + 1, by go_num, by omega, by rw [HS.out], by rw [HS.out]; exact h3⟩; clear h3 hown hgrow hmv H)
            exact ⟨HX.out, by simp [intOf]; omega⟩
          | false =>
            have hlt2 : ¬ r.k ≤ e.k := fun hh => hadd ⟨rfl, hh⟩
            have hq : decide (r.k ≤ e.k) = false := by simpa using hlt2
            have hq2 : decide ((r.k : Int) ≤ (e.k : Int)) = false := by simp; omega
            clear hlt2
            have HS := Lib.hid hst2
            clear he hst hst2 hkk hadd
            go_upto_region 6 with fail
            go_quiet (fail)
            replace h := h.step ((Ext.refl _).drewN nq)
            generalize World.drewN _ nq = W1 at h ⊢
            clear c0 c1 c2 c3 c4 c5 y0 y1 y2 y3 y4 y5 y6 y7 y8 z0 r0 r1 r2 r3 r4 r5 r6 r7 r8
            obtain ⟨c0, c1, c2, c3, c4, c5, -, -, -, z0, -, -⟩ := bd_cells h (b := b) (n := N) (bits := bits) (keep := keep) (vL := .slice (some ⟨g, 0, none⟩) n vc) (vG := (.slice ga gk gcc)) (u := u) (.tail _ (.tail _ (.tail _ (.tail _ (.head _)))))
            obtain ⟨y0, y1, y2, y3, y4, y5, y6, y7, y8⟩ := br_cells h (b := b + 1) (d := r) (.tail _ (.tail _ (.head _)))
            obtain ⟨g', ge, -, r0, r1, r2, r3, r4, r5, r6, r7, r8⟩ := drow h.swap hlt HE.out
            obtain rfl : g = g' := by injection ge with ge; injection ge
            go_upto_region 9 with fail
            go_quiet (fail)
            replace h := h.step ((Ext.refl _).drewN nq)
            generalize World.drewN _ nq = W1 at h ⊢
            clear c0 c1 c2 c3 c4 c5 y0 y1 y2 y3 y4 y5 y6 y7 y8 z0 r0 r1 r2 r3 r4 r5 r6 r7 r8
            obtain ⟨c0, c1, c2, c3, c4, c5, -, -, -, z0, -, -⟩ := bd_cells h (b := b) (n := N) (bits := bits) (keep := keep) (vL := .slice (some ⟨g, 0, none⟩) n vc) (vG := (.slice ga gk gcc)) (u := u) (.tail _ (.tail _ (.tail _ (.tail _ (.head _)))))
            obtain ⟨y0, y1, y2, y3, y4, y5, y6, y7, y8⟩ := br_cells h (b := b + 1) (d := r) (.tail _ (.tail _ (.head _)))
            obtain ⟨g', ge, -, r0, r1, r2, r3, r4, r5, r6, r7, r8⟩ := drow h.swap hlt HE.out
            obtain rfl : g = g' := by injection ge with ge; injection ge
            have H := Lib.hid h
            clear h
            go_wp2_with (at_builtin; refine app_own (W := W1) rfl _ _ _ _ _ 9 72 rfl Try.underlying62 infoDR rfl (by omega) (by omega) (.slice va9 M vc9) M (o.flatMap dc) [.int .i64 (e.k : Int), .int .u64 e.f.s, .int .u64 e.f.c, .int .u64 e.f.ra, .int .i64 e.f.cr, .int .u64 e.f.nx, .int .u64 e.f.db, .int .u64 e.f.ag, .bool e.q] rfl _ (by simp) rfl rfl (by simp [Value.oneCell']) (by have h := H.out.row; rw [← HM.out] at h; exact h) (by omega) ?_; intro v1 w3 hown hgrow hmv; rw [HM.out] at hown; have h3 := Own.drApp (e := e) H.out hown hgrow hmv; have HX : Hid (DwI l b n N bits u keep (.slice (some ⟨g, 0, none⟩) n vc) (.slice ga gk gcc) L r v1 (.bool false) (.int .i64 ((k : Int) + 1)) w3) := Lib.hid ⟨k + 1, by go_num, by omega, by rw [HS.out], by rw [HS.out]; exact h3⟩; clear h3 hown hgrow hmv H)
            exact ⟨HX.out, by simp [intOf]; omega⟩
    · obtain rfl : k = n := by omega
      have hen := wk_end (r := r) HR.out
      have hlen := wk_len r L k
      obtain ⟨o, dn, ho⟩ : ∃ o dn, wk r L k = (o, dn) := ⟨_, _, rfl⟩
      rw [ho] at h hen hlen ⊢
      simp only at h hlen ⊢
      rw [← HO.out] at hen
      obtain ⟨M, hM⟩ : ∃ M, M = o.length := ⟨_, rfl⟩
      have hMk : M ≤ k + 1 := by rw [hM]; exact hlen
      obtain ⟨va9, vc9, rfl⟩ := dr_slice h.row
      rw [← hM]
      cases dn with
      | true =>
        have hen : O = o := by rw [hen]; simp [wEnd]
        rw [← hen] at h hM
        rw [← hM] at h
        obtain ⟨w3, e3, h3⟩ := Own.bdL (vL' := .slice va9 M vc9) h.fifth
        obtain ⟨x0, x1, x2, x3, x4, x5, -, -, -, -, -, -⟩ := bd_cells h3 (.head _)
        obtain ⟨p0, p1, p2, p3, p4, p5, f0, f1, f2, f3, f4, f5⟩ := bd_cells (b := b + 1 + 1) (n := 0) (bits := 0) (keep := 0) (vL := nilv) (vG := nilv) (u := 0) h3 (.tail _ (.tail _ (.tail _ (.tail _ (.head _)))))
        obtain ⟨w4, e4, h4⟩ := Own.bdSet (n' := N) (bits' := bits) (keep' := keep) (vL' := .slice va9 M vc9) (vG' := (.slice ga gk gcc)) (u' := u) h3.fifth
        obtain ⟨q0, q1, q2, q3, q4, q5, -, -, -, -, -, -⟩ := bd_cells h4 (.head _)
        have hn2 := bd_ne h3 (.tail _ (.tail _ (.tail _ (.head _))))
        have HF : Hid (Own (DRR (.slice va9 M vc9) M O :: l) w4) := Lib.hid (by have := h4.drop.drop.toR.swap.drop.swap.drop; rw [← hM] at this; exact this)
        have HM := Lib.hid hM
        clear h h3 h4 hM hlt hk hen ho hlen
        go_wp2_with fail
        exact bodyPost_ret (v := dv N bits keep (.slice va9 M vc9) (.slice ga gk gcc) u) (by simp [results, Try.results68, go_sem, q0, q1, q2, q3, q4, q5]) rfl ⟨_, rfl, by rw [← HM.out]; exact HF.out⟩
      | false =>
        have hen : O = o ++ [r] := by rw [hen]; simp [wEnd]
        have H := Lib.hid h
        have HM := Lib.hid hM
        have HN := Lib.hid hen
        clear h hM hen ho hlen
        go_wp2_with (at_builtin; refine app_own (W := wr) rfl _ _ _ _ _ 9 72 rfl Try.underlying62 infoDR rfl (by omega) (by omega) (.slice va9 M vc9) M (o.flatMap dc) [.int .i64 (r.k : Int), .int .u64 r.f.s, .int .u64 r.f.c, .int .u64 r.f.ra, .int .i64 r.f.cr, .int .u64 r.f.nx, .int .u64 r.f.db, .int .u64 r.f.ag, .bool r.q] rfl _ (by simp) rfl rfl (by simp [Value.oneCell']) (by rw [HM.out]; exact H.out.row) (by omega) ?_)
        intro v1 w3 hown hgrow hmv
        rw [HM.out] at hown hgrow hmv
        have h := Own.drApp H.out hown hgrow hmv
        rw [← HN.out] at h
        obtain ⟨K, hM⟩ : ∃ K, K = O.length := ⟨_, rfl⟩
        obtain ⟨va9, vc9, rfl⟩ := dr_slice h.row
        rw [← hM]
        clear H HM HN hown hgrow hmv c0 c1 c2 c3 c4 c5 y0 y1 y2 y3 y4 y5 y6 y7 y8 z0
        obtain ⟨c0, c1, c2, c3, c4, c5, -, -, -, z0, -, -⟩ := bd_cells h (b := b) (n := N) (bits := bits) (keep := keep) (vL := .slice va k vc) (vG := (.slice ga gk gcc)) (u := u) (.tail _ (.tail _ (.tail _ (.tail _ (.head _)))))
        rw [← hM] at h
        obtain ⟨w3, e3, h3⟩ := Own.bdL (vL' := .slice va9 K vc9) h.fifth
        obtain ⟨x0, x1, x2, x3, x4, x5, -, -, -, -, -, -⟩ := bd_cells h3 (.head _)
        obtain ⟨p0, p1, p2, p3, p4, p5, f0, f1, f2, f3, f4, f5⟩ := bd_cells (b := b + 1 + 1) (n := 0) (bits := 0) (keep := 0) (vL := nilv) (vG := nilv) (u := 0) h3 (.tail _ (.tail _ (.tail _ (.tail _ (.head _)))))
        obtain ⟨w4, e4, h4⟩ := Own.bdSet (n' := N) (bits' := bits) (keep' := keep) (vL' := .slice va9 K vc9) (vG' := (.slice ga gk gcc)) (u' := u) h3.fifth
        obtain ⟨q0, q1, q2, q3, q4, q5, -, -, -, -, -, -⟩ := bd_cells h4 (.head _)
        have hn2 := bd_ne h3 (.tail _ (.tail _ (.tail _ (.head _))))
        have HF : Hid (Own (DRR (.slice va9 K vc9) K O :: l) w4) := Lib.hid (by have := h4.drop.drop.toR.swap.drop.swap.drop; rw [← hM] at this; exact this)
        have HM := Lib.hid hM
        clear h h3 h4 hM hlt hk
        go_wp2_with fail
        exact bodyPost_ret (v := dv N bits keep (.slice va9 K vc9) (.slice ga gk gcc) u) (by simp [results, Try.results68, go_sem, q0, q1, q2, q3, q4, q5]) rfl ⟨_, rfl, by rw [← HM.out]; exact HF.out⟩
end Go.Proofs.Ytkdmlpigkmlkmaa.Tb
