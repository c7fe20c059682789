/- DERIVED. Layer 14 (table): the document's tables: boxes; contracts of Get, Rests, old, Rebuild. -/
import Derived.Test.YtkdmlpigkmlkmaaTcA
import Derived.Test.YtkdmlpigkmlkmaaApF
set_option linter.unusedVariables false
set_option linter.unusedSimpArgs false
set_option maxRecDepth 100000
namespace Go.Proofs.Ytkdmlpigkmlkmaa.Tb
open Go.RowKit Go.Proofs.Ytkdmlpigkmlkmaa Go.Proofs.Ytkdmlpigkmlkmaa.TreeP Go.Proofs.Ytkdmlpigkmlkmaa.Tr Go.Proofs.Ytkdmlpigkmlkmaa.Bk

section
variable {l : List HP} {w : World} {b : Nat}
theorem boxT (h : Own l w) (hb : w.heap.size = b) (n bits : Nat) (keep : Int) (vL vG : Value) (u : Nat) :
    ∃ W, w.alloc (.cells #[.int .i64 (n : Int), .int .i64 (bits : Int), .int .u64 keep, vL, vG, .int .i64 (u : Int)] 64) = W ∧ W.heap.size = b + 1 ∧ Own (BD b n bits keep vL vG u :: l) W :=
  ⟨_, rfl, by rw [World.size_alloc, hb], hb ▸ Go.Proofs.Ytkdmlpigkmlkmaa.Own.blkNew h _ _⟩
theorem boxZ (h : Own l w) (hb : w.heap.size = b) :
    ∃ W, w.alloc (.cells #[.int .i64 0, .int .i64 0, .int .u64 0, .slice none 0 0, .slice none 0 0, .int .i64 0] 64) = W ∧ W.heap.size = b + 1 ∧ Own (BD b 0 0 0 nilv nilv 0 :: l) W :=
  ⟨_, rfl, by rw [World.size_alloc, hb], hb ▸ Go.Proofs.Ytkdmlpigkmlkmaa.Own.blkNew h _ _⟩
theorem boxR (h : Own l w) (hb : w.heap.size = b) (d : DR) :
    ∃ W, w.alloc (.cells #[.int .i64 (d.k : Int), .int .u64 d.f.s, .int .u64 d.f.c, .int .u64 d.f.ra, .int .i64 d.f.cr, .int .u64 d.f.nx, .int .u64 d.f.db, .int .u64 d.f.ag, .bool d.q] 76) = W ∧ W.heap.size = b + 1 ∧ Own (BR b d :: l) W :=
  ⟨_, rfl, by rw [World.size_alloc, hb], hb ▸ Go.Proofs.Ytkdmlpigkmlkmaa.Own.blkNew h _ _⟩
theorem boxF (h : Own l w) (hb : w.heap.size = b) (F : FD) :
    ∃ W, w.alloc (.cells #[.int .u64 F.s, .int .u64 F.c, .int .u64 F.ra, .int .i64 F.cr, .int .u64 F.nx, .int .u64 F.db, .int .u64 F.ag] 41) = W ∧ W.heap.size = b + 1 ∧ Own (BF b F :: l) W :=
  ⟨_, rfl, by rw [World.size_alloc, hb], hb ▸ Go.Proofs.Ytkdmlpigkmlkmaa.Own.blkNew h _ _⟩
theorem boxF0 (h : Own l w) (hb : w.heap.size = b) :
    ∃ W, w.alloc (.cells #[.int .u64 0, .int .u64 0, .int .u64 0, .int .i64 0, .int .u64 0, .int .u64 0, .int .u64 0] 41) = W ∧ W.heap.size = b + 1 ∧ Own (BF b F0 :: l) W := boxF h hb F0
theorem bf_frozen {F : FD} (h : Own l w) (hm : BF b F ∈ l) : ∀ o, w.frozen? ⟨b, o, none⟩ = false := fun o => by
  have := Go.Proofs.Ytkdmlpigkmlkmaa.Own.blk h hm
  simp [World.frozen?, this]
theorem br_frozen {d : DR} (h : Own l w) (hm : BR b d ∈ l) : ∀ o, w.frozen? ⟨b, o, none⟩ = false := fun o => by
  have := Go.Proofs.Ytkdmlpigkmlkmaa.Own.blk h hm
  simp [World.frozen?, this]
/-- a flow written whole -/
theorem _root_.Go.Proofs.Ytkdmlpigkmlkmaa.Own.bfSet {F : FD} (h : Own (BF b F :: l) w) (G : FD) :
    ∃ w1, ((((((w.setCell ⟨b, 0, none⟩ (.int .u64 G.s)).setCell ⟨b, 1, none⟩ (.int .u64 G.c)).setCell ⟨b, 2, none⟩ (.int .u64 G.ra)).setCell ⟨b, 3, none⟩ (.int .i64 G.cr)).setCell ⟨b, 4, none⟩ (.int .u64 G.nx)).setCell ⟨b, 5, none⟩ (.int .u64 G.db)).setCell ⟨b, 6, none⟩ (.int .u64 G.ag) = w1 ∧ Own (BF b G :: l) w1 := by
  have h0 : Own (Go.Proofs.Ytkdmlpigkmlkmaa.Blk b #[(.int .u64 G.s), .int .u64 F.c, .int .u64 F.ra, .int .i64 F.cr, .int .u64 F.nx, .int .u64 F.db, .int .u64 F.ag] 41 :: l) _ := Go.Proofs.Ytkdmlpigkmlkmaa.Own.blkSet (o := 0) h (.int .u64 G.s)
  have h1 : Own (Go.Proofs.Ytkdmlpigkmlkmaa.Blk b #[(.int .u64 G.s), (.int .u64 G.c), .int .u64 F.ra, .int .i64 F.cr, .int .u64 F.nx, .int .u64 F.db, .int .u64 F.ag] 41 :: l) _ := Go.Proofs.Ytkdmlpigkmlkmaa.Own.blkSet (o := 1) h0 (.int .u64 G.c)
  have h2 : Own (Go.Proofs.Ytkdmlpigkmlkmaa.Blk b #[(.int .u64 G.s), (.int .u64 G.c), (.int .u64 G.ra), .int .i64 F.cr, .int .u64 F.nx, .int .u64 F.db, .int .u64 F.ag] 41 :: l) _ := Go.Proofs.Ytkdmlpigkmlkmaa.Own.blkSet (o := 2) h1 (.int .u64 G.ra)
  have h3 : Own (Go.Proofs.Ytkdmlpigkmlkmaa.Blk b #[(.int .u64 G.s), (.int .u64 G.c), (.int .u64 G.ra), (.int .i64 G.cr), .int .u64 F.nx, .int .u64 F.db, .int .u64 F.ag] 41 :: l) _ := Go.Proofs.Ytkdmlpigkmlkmaa.Own.blkSet (o := 3) h2 (.int .i64 G.cr)
  have h4 : Own (Go.Proofs.Ytkdmlpigkmlkmaa.Blk b #[(.int .u64 G.s), (.int .u64 G.c), (.int .u64 G.ra), (.int .i64 G.cr), (.int .u64 G.nx), .int .u64 F.db, .int .u64 F.ag] 41 :: l) _ := Go.Proofs.Ytkdmlpigkmlkmaa.Own.blkSet (o := 4) h3 (.int .u64 G.nx)
  have h5 : Own (Go.Proofs.Ytkdmlpigkmlkmaa.Blk b #[(.int .u64 G.s), (.int .u64 G.c), (.int .u64 G.ra), (.int .i64 G.cr), (.int .u64 G.nx), (.int .u64 G.db), .int .u64 F.ag] 41 :: l) _ := Go.Proofs.Ytkdmlpigkmlkmaa.Own.blkSet (o := 5) h4 (.int .u64 G.db)
  have h6 : Own (Go.Proofs.Ytkdmlpigkmlkmaa.Blk b #[(.int .u64 G.s), (.int .u64 G.c), (.int .u64 G.ra), (.int .i64 G.cr), (.int .u64 G.nx), (.int .u64 G.db), (.int .u64 G.ag)] 41 :: l) _ := Go.Proofs.Ytkdmlpigkmlkmaa.Own.blkSet (o := 6) h5 (.int .u64 G.ag)
  exact ⟨_, rfl, h6⟩
/-- a row's flow written whole -/
theorem _root_.Go.Proofs.Ytkdmlpigkmlkmaa.Own.brFlow {d : DR} (h : Own (BR b d :: l) w) (G : FD) :
    ∃ w1, ((((((w.setCell ⟨b, 1, none⟩ (.int .u64 G.s)).setCell ⟨b, 2, none⟩ (.int .u64 G.c)).setCell ⟨b, 3, none⟩ (.int .u64 G.ra)).setCell ⟨b, 4, none⟩ (.int .i64 G.cr)).setCell ⟨b, 5, none⟩ (.int .u64 G.nx)).setCell ⟨b, 6, none⟩ (.int .u64 G.db)).setCell ⟨b, 7, none⟩ (.int .u64 G.ag) = w1 ∧ Own (BR b ⟨d.k, G, d.q⟩ :: l) w1 := by
  have h0 : Own (Go.Proofs.Ytkdmlpigkmlkmaa.Blk b #[.int .i64 (d.k : Int), (.int .u64 G.s), .int .u64 d.f.c, .int .u64 d.f.ra, .int .i64 d.f.cr, .int .u64 d.f.nx, .int .u64 d.f.db, .int .u64 d.f.ag, .bool d.q] 76 :: l) _ := Go.Proofs.Ytkdmlpigkmlkmaa.Own.blkSet (o := 1) h (.int .u64 G.s)
  have h1 : Own (Go.Proofs.Ytkdmlpigkmlkmaa.Blk b #[.int .i64 (d.k : Int), (.int .u64 G.s), (.int .u64 G.c), .int .u64 d.f.ra, .int .i64 d.f.cr, .int .u64 d.f.nx, .int .u64 d.f.db, .int .u64 d.f.ag, .bool d.q] 76 :: l) _ := Go.Proofs.Ytkdmlpigkmlkmaa.Own.blkSet (o := 2) h0 (.int .u64 G.c)
  have h2 : Own (Go.Proofs.Ytkdmlpigkmlkmaa.Blk b #[.int .i64 (d.k : Int), (.int .u64 G.s), (.int .u64 G.c), (.int .u64 G.ra), .int .i64 d.f.cr, .int .u64 d.f.nx, .int .u64 d.f.db, .int .u64 d.f.ag, .bool d.q] 76 :: l) _ := Go.Proofs.Ytkdmlpigkmlkmaa.Own.blkSet (o := 3) h1 (.int .u64 G.ra)
  have h3 : Own (Go.Proofs.Ytkdmlpigkmlkmaa.Blk b #[.int .i64 (d.k : Int), (.int .u64 G.s), (.int .u64 G.c), (.int .u64 G.ra), (.int .i64 G.cr), .int .u64 d.f.nx, .int .u64 d.f.db, .int .u64 d.f.ag, .bool d.q] 76 :: l) _ := Go.Proofs.Ytkdmlpigkmlkmaa.Own.blkSet (o := 4) h2 (.int .i64 G.cr)
  have h4 : Own (Go.Proofs.Ytkdmlpigkmlkmaa.Blk b #[.int .i64 (d.k : Int), (.int .u64 G.s), (.int .u64 G.c), (.int .u64 G.ra), (.int .i64 G.cr), (.int .u64 G.nx), .int .u64 d.f.db, .int .u64 d.f.ag, .bool d.q] 76 :: l) _ := Go.Proofs.Ytkdmlpigkmlkmaa.Own.blkSet (o := 5) h3 (.int .u64 G.nx)
  have h5 : Own (Go.Proofs.Ytkdmlpigkmlkmaa.Blk b #[.int .i64 (d.k : Int), (.int .u64 G.s), (.int .u64 G.c), (.int .u64 G.ra), (.int .i64 G.cr), (.int .u64 G.nx), (.int .u64 G.db), .int .u64 d.f.ag, .bool d.q] 76 :: l) _ := Go.Proofs.Ytkdmlpigkmlkmaa.Own.blkSet (o := 6) h4 (.int .u64 G.db)
  have h6 : Own (Go.Proofs.Ytkdmlpigkmlkmaa.Blk b #[.int .i64 (d.k : Int), (.int .u64 G.s), (.int .u64 G.c), (.int .u64 G.ra), (.int .i64 G.cr), (.int .u64 G.nx), (.int .u64 G.db), (.int .u64 G.ag), .bool d.q] 76 :: l) _ := Go.Proofs.Ytkdmlpigkmlkmaa.Own.blkSet (o := 7) h5 (.int .u64 G.ag)
  exact ⟨_, rfl, h6⟩
theorem _root_.Go.Proofs.Ytkdmlpigkmlkmaa.Own.brAge {d : DR} (h : Own (BR b d :: l) w) (a : Int) : ∃ w1, w.setCell ⟨b, 7, none⟩ (.int .u64 a) = w1 ∧ Own (BR b ⟨d.k, { d.f with ag := a }, d.q⟩ :: l) w1 := ⟨_, rfl, Go.Proofs.Ytkdmlpigkmlkmaa.Own.blkSet (o := 7) h (.int .u64 a)⟩
theorem _root_.Go.Proofs.Ytkdmlpigkmlkmaa.Own.brRests {d : DR} (h : Own (BR b d :: l) w) (q : Bool) : ∃ w1, w.setCell ⟨b, 8, none⟩ (.bool q) = w1 ∧ Own (BR b ⟨d.k, d.f, q⟩ :: l) w1 := ⟨_, rfl, Go.Proofs.Ytkdmlpigkmlkmaa.Own.blkSet (o := 8) h (.bool q)⟩
end
/-! ### Whose number it is -/
def fndD (L : List DR) (f : Int) : Option DR := L.find? fun d => decide ((d.k : Int) = f)
def UniqD (L : List DR) : Prop := ∀ d ∈ L, ∀ e ∈ L, d.k = e.k → d = e
theorem fnd_some {L : List DR} {f : Int} {d : DR} (h : fndD L f = some d) : d ∈ L ∧ (d.k : Int) = f := by
  unfold fndD at h
  exact ⟨List.mem_of_find?_eq_some h, by simpa using List.find?_some h⟩
theorem fnd_none {L : List DR} {f : Int} (h : fndD L f = none) : ∀ d ∈ L, (d.k : Int) ≠ f := fun d hd => by
  unfold fndD at h
  rw [List.find?_eq_none] at h
  simpa using h d hd
theorem at_find {L : List DR} {f i : Int} (hu : UniqD L) (h : AtS L f i) : (i = -1 ∧ fndD L f = none) ∨ ∃ (j : Nat) (d : DR), i = (j : Int) ∧ L[j]? = some d ∧ fndD L f = some d := by
  rcases h with ⟨h1, h2⟩ | ⟨j, d, h1, h2, h3⟩
  · refine .inl ⟨h1, ?_⟩
    unfold fndD
    rw [List.find?_eq_none]
    simpa using h2
  · refine .inr ⟨j, d, h1, h2, ?_⟩
    cases hf : fndD L f with
    | none => exact absurd h3 (fnd_none hf d (List.mem_of_getElem? h2))
    | some e =>
      obtain ⟨h4, h5⟩ := fnd_some hf
      rw [hu d (List.mem_of_getElem? h2) e h4 (by omega)]
theorem doc_fnd (S : T) (f : Int) : fndD (docL 0 S.rows) f = (atF S f).map fun r => ⟨f.toNat, r.f, r.q⟩ := by
  cases ha : atF S f with
  | none =>
    unfold fndD
    rw [Option.map_none, List.find?_eq_none]
    intro d hd
    rw [decide_eq_true_eq]
    rintro rfl
    obtain ⟨i, r, h1, h2⟩ := doc_mem.1 hd
    rw [Nat.zero_add] at h2
    rw [atF_nat, h2] at ha
    rw [h1] at ha
    cases ha
  | some r =>
    obtain ⟨k, rfl, hk⟩ := atF_some ha
    cases hf : fndD (docL 0 S.rows) (k : Int) with
    | none => exact absurd rfl (fnd_none hf _ (doc_of hk))
    | some e =>
      obtain ⟨h4, h5⟩ := fnd_some hf
      rw [doc_uniq h4 (doc_of hk) (by simp only; omega)]
      simp
theorem doc_uniqD (S : T) : UniqD (docL 0 S.rows) := fun d hd e he h => doc_uniq hd he h
/-! ### Get -/
def oF (O : Option DR) : FD := (O.map (·.f)).getD F0
set_option maxHeartbeats 1000000 in
theorem rget_any {v vG : Value} {n N bits u : Nat} {keep : Int} {L : List DR} {l : List HP} {w : World} (h : Own (DRR v n L :: l) w) (hL : L.length = n) (bn : n ≤ 60000) (hu : UniqD L) (f : Int) :
    Calls Try.prog 38 #[dv N bits keep v vG u, .int .i64 f] w fun e w' => e = .returned (.tuple #[fagg (oF (fndD L f)), .bool (fndD L f).isSome]) ∧ Own (DRR v n L :: l) w' := by
  obtain ⟨va, vc, rfl⟩ := h.rowR.slice
  obtain ⟨b, hb⟩ : ∃ b, w.heap.size = b := ⟨_, rfl⟩
  obtain ⟨W1, hW1, hs1, h1⟩ := boxT h hb N bits keep (.slice va n vc) vG u
  obtain ⟨W2, hW2, hs2, h2⟩ := boxF0 h1 hs1
  obtain ⟨c0, c1, c2, c3, c4, c5, -, -, -, -, -, -⟩ := bd_cells h2 (b := b) (n := N) (bits := bits) (keep := keep) (vL := .slice va n vc) (vG := vG) (u := u) (.tail _ (.head _))
  have HAT := Lib.hid (rat_any (N := N) (bits := bits) (keep := keep) (vG := vG) (u := u) h2.third hL bn f)
  obtain ⟨O, hO⟩ : ∃ O, O = fndD L f := ⟨_, rfl⟩
  rw [← hO]
  have HF := Lib.hid (fun i (hi : AtS L f i) => at_find hu hi)
  have HO := Lib.hid hO
  have HB := Lib.hid hb
  have HW1 := Lib.hid hW1
  have HW2 := Lib.hid hW2
  have HL := Lib.hid hL
  clear h h1 h2 hL hu hO hb hW1 hW2 hs1 hs2
  go_enter Try.func38, Try.ntmps38
  go_upto_region 1 with fail
  rw [HB.out, HW1.out, HW2.out]
  clear HB HW1 HW2
  go_wp2_with fail
  (with_reducible refine (HAT.out).mono ?_)
  rintro e w2 ⟨i, rfl, hi, h3⟩
  rcases HF.out i hi with ⟨rfl, hn⟩ | ⟨j, d, rfl, hj, hd⟩
  · obtain rfl : O = none := HO.out.trans hn
    obtain ⟨x0, x1, x2, x3, x4, x5, x6⟩ := bf_cells (b := b + 1) (F := F0) h3 (.tail _ (.head _))
    have hf := bf_frozen (b := b + 1) (F := F0) h3 (.tail _ (.head _))
    obtain ⟨w3, e3, h4⟩ := Own.bfSet h3.swap F0
    obtain ⟨q0, q1, q2, q3, q4, q5, q6⟩ := bf_cells h4 (.head _)
    have H4 := Lib.hid h4
    simp only [F0] at e3 x0 x1 x2 x3 x4 x5 x6 q0 q1 q2 q3 q4 q5 q6
    clear h3 h4 hi hn HAT
    go_wp2_with fail
    exact bodyPost_ret (v := .tuple #[fagg F0, .bool false]) (by simp [results, Try.results38, go_sem, q0, q1, q2, q3, q4, q5, q6, F0]) rfl ⟨rfl, H4.out.drop.swap.drop⟩
  · obtain rfl : O = some d := HO.out.trans hd
    have hlt : j < n := by rw [← HL.out]; exact (List.getElem?_eq_some_iff.1 hj).1
    have hltI : (j : Int) < (n : Int) := by omega
    obtain ⟨g, rfl, gc, r0, r1, r2, r3, r4, r5, r6, r7, r8⟩ := drow h3 hlt hj
    obtain ⟨c0, c1, c2, c3, c4, c5, -, -, -, -, -, -⟩ := bd_cells h3 (b := b) (n := N) (bits := bits) (keep := keep) (vL := .slice (some ⟨g, 0, none⟩) n vc) (vG := vG) (u := u) (.tail _ (.tail _ (.head _)))
    obtain ⟨x0, x1, x2, x3, x4, x5, x6⟩ := bf_cells (b := b + 1) (F := F0) h3 (.tail _ (.head _))
    have hf := bf_frozen (b := b + 1) (F := F0) h3 (.tail _ (.head _))
    obtain ⟨w3, e3, h4⟩ := Own.bfSet h3.swap d.f
    obtain ⟨q0, q1, q2, q3, q4, q5, q6⟩ := bf_cells h4 (.head _)
    have H4 := Lib.hid h4
    clear h3 h4 hi hj hd HAT hlt
    go_wp2_with fail
    exact bodyPost_ret (v := .tuple #[fagg d.f, .bool true]) (by simp [results, Try.results38, go_sem, q0, q1, q2, q3, q4, q5, q6]) rfl ⟨rfl, H4.out.drop.swap.drop⟩
/-! ### Rests -/
def oQ (O : Option DR) : Bool := (O.map (·.q)).getD false
set_option maxHeartbeats 1000000 in
theorem rrests_any {v vG : Value} {n N bits u : Nat} {keep : Int} {L : List DR} {l : List HP} {w : World} (h : Own (DRR v n L :: l) w) (hL : L.length = n) (bn : n ≤ 60000) (hu : UniqD L) (f : Int) :
    Calls Try.prog 39 #[dv N bits keep v vG u, .int .i64 f] w fun e w' => e = .returned (.bool (oQ (fndD L f))) ∧ Own (DRR v n L :: l) w' := by
  obtain ⟨va, vc, rfl⟩ := h.rowR.slice
  obtain ⟨b, hb⟩ : ∃ b, w.heap.size = b := ⟨_, rfl⟩
  obtain ⟨W1, hW1, hs1, h1⟩ := boxT h hb N bits keep (.slice va n vc) vG u
  obtain ⟨c0, c1, c2, c3, c4, c5, -, -, -, -, -, -⟩ := bd_cells h1 (b := b) (n := N) (bits := bits) (keep := keep) (vL := .slice va n vc) (vG := vG) (u := u) (.head _)
  have HAT := Lib.hid (rat_any (N := N) (bits := bits) (keep := keep) (vG := vG) (u := u) h1.swap hL bn f)
  obtain ⟨O, hO⟩ : ∃ O, O = fndD L f := ⟨_, rfl⟩
  rw [← hO]
  have HF := Lib.hid (fun i (hi : AtS L f i) => at_find hu hi)
  have HO := Lib.hid hO
  have HB := Lib.hid hb
  have HW1 := Lib.hid hW1
  have HL := Lib.hid hL
  clear h h1 hL hu hO hb hW1 hs1
  go_enter Try.func39, Try.ntmps39
  go_upto_region 1 with fail
  rw [HB.out, HW1.out]
  clear HB HW1
  go_wp2_with fail
  (with_reducible refine (HAT.out).mono ?_)
  rintro e w2 ⟨i, rfl, hi, h3⟩
  rcases HF.out i hi with ⟨rfl, hn⟩ | ⟨j, d, rfl, hj, hd⟩
  · obtain rfl : O = none := HO.out.trans hn
    have H4 := Lib.hid h3
    clear h3 hi hn HAT
    go_wp2_with fail
    go_ret
    exact ⟨rfl, H4.out.swap.drop⟩
  · obtain rfl : O = some d := HO.out.trans hd
    have hlt : j < n := by rw [← HL.out]; exact (List.getElem?_eq_some_iff.1 hj).1
    have hltI : (j : Int) < (n : Int) := by omega
    obtain ⟨g, rfl, gc, r0, r1, r2, r3, r4, r5, r6, r7, r8⟩ := drow h3 hlt hj
    obtain ⟨c0, c1, c2, c3, c4, c5, -, -, -, -, -, -⟩ := bd_cells h3 (b := b) (n := N) (bits := bits) (keep := keep) (vL := .slice (some ⟨g, 0, none⟩) n vc) (vG := vG) (u := u) (.tail _ (.head _))
    have H4 := Lib.hid h3
    clear h3 hi hj hd HAT hlt
    go_wp2_with fail
    go_ret
    exact ⟨rfl, H4.out.swap.drop⟩
/-! ### old -/
theorem rsat_any (a b : Int) (w : World) (ha : 0 ≤ a) (ha' : a ≤ 18446744073709551615) (hb : 0 ≤ b) (hb' : b ≤ 18446744073709551615) :
    Calls Try.prog 101 #[.int .u64 a, .int .u64 b] w fun e w' => e = .returned (.int .u64 (Hz.sat a b)) ∧ w = w' := by
  unfold Hz.sat
  by_cases h : a + b ≤ 18446744073709551615
  · have h1 : ¬ (18446744073709551615 - a < b) := by omega
    have h2 : (a + b) % 18446744073709551616 = a + b := by omega
    rw [if_pos h]
    go_enter Try.func101, Try.ntmps101
    go_wp2
    go_ret
    exact ⟨rfl, rfl⟩
  · have h1 : 18446744073709551615 - a < b := by omega
    rw [if_neg h]
    go_enter Try.func101, Try.ntmps101
    go_wp2
    go_ret
    exact ⟨rfl, rfl⟩
theorem rold_any {vL vG : Value} {N bits u : Nat} {keep : Int} {l : List HP} {w : World} (h : Own l w) (d : DR) (now : Int) (ha : 0 ≤ d.f.ag ∧ d.f.ag < 18446744073709551616) (hk : 0 ≤ keep ∧ keep ≤ 18446744073709551615) :
    Calls Try.prog 88 #[dv N bits keep vL vG u, drv d, .int .u64 now] w fun e w' => e = .returned (.bool (d.q && decide (Hz.sat d.f.ag keep < now))) ∧ Own l w' := by
  obtain ⟨b, hb⟩ : ∃ b, w.heap.size = b := ⟨_, rfl⟩
  obtain ⟨W1, hW1, hs1, h1⟩ := boxT h hb N bits keep vL vG u
  obtain ⟨W2, hW2, hs2, h2⟩ := boxR h1 hs1 d
  obtain ⟨c0, c1, c2, c3, c4, c5, -, -, -, -, -, -⟩ := bd_cells h2 (b := b) (n := N) (bits := bits) (keep := keep) (vL := vL) (vG := vG) (u := u) (.tail _ (.head _))
  obtain ⟨y0, y1, y2, y3, y4, y5, y6, y7, y8⟩ := br_cells h2 (b := b + 1) (d := d) (.head _)
  have HADD := Lib.hid (fun w' => rsat_any d.f.ag keep w' ha.1 (by omega) hk.1 hk.2)
  have HX := Lib.hid h2.drop.drop
  have HB := Lib.hid hb
  have HW1 := Lib.hid hW1
  have HW2 := Lib.hid hW2
  obtain ⟨sv, hsv⟩ : ∃ sv, sv = Hz.sat d.f.ag keep := ⟨_, rfl⟩
  rw [← hsv] at HADD ⊢
  obtain ⟨q, hq⟩ : ∃ q, q = d.q := ⟨_, rfl⟩
  rw [← hq] at y8 ⊢
  clear h h1 h2 hb hW1 hW2 hs1 hs2 hsv hq ha hk
  cases q with
  | false =>
    go_enter Try.func88, Try.ntmps88
    go_upto_region 1 with fail
    rw [HB.out, HW1.out, HW2.out]
    clear HB HW1 HW2
    go_wp2_with fail
    go_ret
    exact ⟨rfl, HX.out⟩
  | true =>
    go_enter Try.func88, Try.ntmps88
    go_upto_region 1 with fail
    rw [HB.out, HW1.out, HW2.out]
    clear HB HW1 HW2
    go_wp2_with (go_at_call 101; (with_reducible refine (HADD.out _).mono ?_); rintro e w' ⟨rfl, rfl⟩)
    go_ret
    exact ⟨rfl, HX.out⟩
end Go.Proofs.Ytkdmlpigkmlkmaa.Tb
