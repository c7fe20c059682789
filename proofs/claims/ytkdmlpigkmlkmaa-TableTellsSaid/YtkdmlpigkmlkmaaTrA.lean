/- DERIVED. Layer 6 (tree) in memory: nodes in one slice of the tree's own; a field read, a field written; what only reads. -/
import Derived.Test.YtkdmlpigkmlkmaaHeap
import Derived.Test.YtkdmlpigkmlkmaaTreeP
set_option linter.unusedVariables false
set_option linter.unusedSimpArgs false
set_option maxRecDepth 100000
namespace Go.Proofs.Ytkdmlpigkmlkmaa.Tr
open Go.RowKit Go.Proofs.Ytkdmlpigkmlkmaa Go.Proofs.Ytkdmlpigkmlkmaa.TreeP

/-- a node's cells -/
def cellsOf (x : Nd) : List Value := [.int .u64 x.a, .int .u64 x.s, .int .i64 x.v, .int .i64 x.k0, .int .i64 x.k1, .int .i64 x.up, .bool x.red]
theorem cellsOf_len (x : Nd) : (cellsOf x).length = 7 := rfl
def flat : List Nd → List Value
  | [] => []
  | x :: l => cellsOf x ++ flat l
theorem flat_len : ∀ l : List Nd, (flat l).length = l.length * 7
  | [] => rfl
  | x :: l => by rw [flat, List.length_append, flat_len l, cellsOf_len, List.length_cons]; omega
theorem flat_at : ∀ (l : List Nd) (i c : Nat) (x : Nd), l[i]? = some x → c < 7 → (flat l)[i * 7 + c]? = (cellsOf x)[c]?
  | [], i, c, x, h, hc => by simp at h
  | y :: l, 0, c, x, h, hc => by
    obtain rfl : y = x := by simpa using h
    rw [flat, List.getElem?_append_left (by rw [cellsOf_len]; omega)]
    congr 1; omega
  | y :: l, i + 1, c, x, h, hc => by
    rw [flat, List.getElem?_append_right (by rw [cellsOf_len]; omega), cellsOf_len, show (i + 1) * 7 + c - 7 = i * 7 + c from by omega]
    exact flat_at l i c x (by simpa using h) hc
theorem flat_set : ∀ (l : List Nd) (i c : Nat) (x y : Nd) (v : Value), l[i]? = some x → c < 7 → cellsOf y = (cellsOf x).set c v → flat (l.set i y) = (flat l).set (i * 7 + c) v
  | [], i, c, x, y, v, h, hc, e => by simp at h
  | z :: l, 0, c, x, y, v, h, hc, e => by
    obtain rfl : z = x := by simpa using h
    rw [List.set_cons_zero, flat, flat, List.set_append_left _ _ (by rw [cellsOf_len]; omega), e]
    congr 2; omega
  | z :: l, i + 1, c, x, y, v, h, hc, e => by
    rw [List.set_cons_succ, flat, flat, List.set_append_right _ _ (by rw [cellsOf_len]; omega), cellsOf_len, show (i + 1) * 7 + c - 7 = i * 7 + c from by omega]
    rw [flat_set l i c x y v (by simpa using h) hc e]
theorem flat_append : ∀ (l m : List Nd), flat (l ++ m) = flat l ++ flat m
  | [], m => rfl
  | x :: l, m => by rw [List.cons_append, flat, flat, flat_append l m, List.append_assoc]
theorem nd_get {S : TS} {i : Nat} (h : i < S.n.length) : S.n[i]? = some (S.nd i) := by
  unfold TS.nd; simp [List.getD, h]

/-- a tree as it stands: its object in block p, its nodes in block g -/
structure TW (p g cap : Nat) (fr : Value) (many room : Nat) (S : TS) (w : World) : Prop where
  obj : w.heap[p]? = some (.cells #[.slice (some ⟨g, 0, none⟩) S.n.length cap, fr, .int .i64 S.root, .int .i64 many, .int .i64 room] 158 (0, 0))
  row : w.ownsRow 0 155 7 (.slice (some ⟨g, 0, none⟩) S.n.length cap) S.n.length (flat S.n)
  ne : g ≠ p
/-- nothing but the two blocks has turned -/
abbrev St (p g : Nat) (w w' : World) : Prop := Step (fun b => b = p ∨ b = g) w w'
section
variable {p g cap many room : Nat} {fr : Value} {S : TS} {w : World}
theorem TW.c0 (h : TW p g cap fr many room S w) : w.cell? ⟨p, 0, none⟩ = some (.slice (some ⟨g, 0, none⟩) S.n.length cap) := by simp [World.cell?, h.obj]
theorem TW.c1 (h : TW p g cap fr many room S w) : w.cell? ⟨p, 1, none⟩ = some fr := by simp [World.cell?, h.obj]
theorem TW.c2 (h : TW p g cap fr many room S w) : w.cell? ⟨p, 2, none⟩ = some (.int .i64 S.root) := by simp [World.cell?, h.obj]
theorem TW.c3 (h : TW p g cap fr many room S w) : w.cell? ⟨p, 3, none⟩ = some (.int .i64 many) := by simp [World.cell?, h.obj]
theorem TW.c4 (h : TW p g cap fr many room S w) : w.cell? ⟨p, 4, none⟩ = some (.int .i64 room) := by simp [World.cell?, h.obj]
theorem TW.pf (h : TW p g cap fr many room S w) (o : Nat) : w.frozen? ⟨p, o, none⟩ = false := by simp [World.frozen?, h.obj]
theorem TW.gf (h : TW p g cap fr many room S w) (hl : 0 < S.n.length) (o : Nat) : w.frozen? ⟨g, o, none⟩ = false := by
  obtain ⟨_, h2⟩ := h.row
  rcases h2 with ⟨e, _⟩ | ⟨g', cap', cur, e, _, hg, _⟩
  · simp at e
  · injection e with e1 _ _
    injection e1 with e1
    injection e1 with e1
    subst e1
    simp [World.frozen?, hg]
theorem TW.cell (h : TW p g cap fr many room S w) {i c : Nat} {u : Value} (hi : i < S.n.length) (hc : c < 7) (hu : (cellsOf (S.nd i))[c]? = some u) : w.cell? ⟨g, i * 7 + c, none⟩ = some u := by
  obtain ⟨g', cap', e, _, hcs⟩ := own_form h.row (by omega)
  injection e with e1 _ _
  injection e1 with e1
  injection e1 with e1
  subst e1
  exact (hcs (i * 7 + c) u ((flat_at _ _ _ _ (nd_get hi) hc).trans hu)).1
theorem TW.a (h : TW p g cap fr many room S w) {i : Nat} (hi : i < S.n.length) : w.cell? ⟨g, i * 7, none⟩ = some (.int .u64 (S.nd i).a) := h.cell (c := 0) hi (by omega) rfl
theorem TW.s (h : TW p g cap fr many room S w) {i : Nat} (hi : i < S.n.length) : w.cell? ⟨g, i * 7 + 1, none⟩ = some (.int .u64 (S.nd i).s) := h.cell hi (by omega) rfl
theorem TW.v (h : TW p g cap fr many room S w) {i : Nat} (hi : i < S.n.length) : w.cell? ⟨g, i * 7 + 2, none⟩ = some (.int .i64 (S.nd i).v) := h.cell hi (by omega) rfl
theorem TW.k0 (h : TW p g cap fr many room S w) {i : Nat} (hi : i < S.n.length) : w.cell? ⟨g, i * 7 + 3, none⟩ = some (.int .i64 (S.nd i).k0) := h.cell hi (by omega) rfl
theorem TW.k1 (h : TW p g cap fr many room S w) {i : Nat} (hi : i < S.n.length) : w.cell? ⟨g, i * 7 + 4, none⟩ = some (.int .i64 (S.nd i).k1) := h.cell hi (by omega) rfl
theorem TW.up (h : TW p g cap fr many room S w) {i : Nat} (hi : i < S.n.length) : w.cell? ⟨g, i * 7 + 5, none⟩ = some (.int .i64 (S.nd i).up) := h.cell hi (by omega) rfl
theorem TW.red (h : TW p g cap fr many room S w) {i : Nat} (hi : i < S.n.length) : w.cell? ⟨g, i * 7 + 6, none⟩ = some (.bool (S.nd i).red) := h.cell hi (by omega) rfl
/-- which side -/
def dn (d : Bool) : Nat := if d then 1 else 0
theorem TW.kid (h : TW p g cap fr many room S w) {i : Nat} (hi : i < S.n.length) (d : Bool) : w.cell? ⟨g, i * 7 + 3 + dn d, none⟩ = some (.int .i64 ((S.nd i).kid d : Nat)) := by
  cases d
  · exact h.k0 hi
  · exact h.k1 hi
/-- one field of one node, written -/
theorem TW.wr (h : TW p g cap fr many room S w) {i c : Nat} {f : Nd → Nd} {v : Value} (hi : i < S.n.length) (hc : c < 7) (e : cellsOf (f (S.nd i)) = (cellsOf (S.nd i)).set c v) :
    ∃ S1 w1, S1 = S.upd i f ∧ w.setCell ⟨g, i * 7 + c, none⟩ v = w1 ∧ TW p g cap fr many room S1 w1 ∧ St p g w w1 := by
  refine ⟨_, _, rfl, rfl, ⟨?_, ?_, h.ne⟩, (Step.refl _ w).setCell _ (.inl (.inr rfl)) v⟩
  · rw [heap_other v (Ne.symm h.ne), len_upd]; exact h.obj
  · rw [len_upd]
    have := ownsRow_set (o := i * 7 + c) v h.row (by omega)
    unfold TS.upd
    simp only
    rw [flat_set _ _ _ _ _ _ (nd_get hi) hc e]
    exact this
theorem TW.wkid (h : TW p g cap fr many room S w) {i : Nat} (hi : i < S.n.length) (d : Bool) (y : Nat) :
    ∃ S1 w1, S1 = S.upd i (Nd.setKid d y) ∧ w.setCell ⟨g, i * 7 + 3 + dn d, none⟩ (.int .i64 y) = w1 ∧ TW p g cap fr many room S1 w1 ∧ St p g w w1 := by
  cases d
  · exact h.wr (c := 3) hi (by omega) rfl
  · exact h.wr (c := 4) hi (by omega) rfl
theorem TW.wup (h : TW p g cap fr many room S w) {i : Nat} (hi : i < S.n.length) (y : Nat) :
    ∃ S1 w1, S1 = S.upd i (Nd.setUp y) ∧ w.setCell ⟨g, i * 7 + 5, none⟩ (.int .i64 y) = w1 ∧ TW p g cap fr many room S1 w1 ∧ St p g w w1 := h.wr (c := 5) hi (by omega) rfl
theorem TW.wred (h : TW p g cap fr many room S w) {i : Nat} (hi : i < S.n.length) (y : Bool) :
    ∃ S1 w1, S1 = S.upd i (Nd.setRed y) ∧ w.setCell ⟨g, i * 7 + 6, none⟩ (.bool y) = w1 ∧ TW p g cap fr many room S1 w1 ∧ St p g w w1 := h.wr (c := 6) hi (by omega) rfl
theorem TW.wroot (h : TW p g cap fr many room S w) (y : Nat) :
    ∃ S1 w1, S1 = S.setRoot y ∧ w.setCell ⟨p, 2, none⟩ (.int .i64 y) = w1 ∧ TW p g cap fr many room S1 w1 ∧ St p g w w1 := by
  refine ⟨_, _, rfl, rfl, ⟨?_, ?_, h.ne⟩, (Step.refl _ w).setCell _ (.inl (.inl rfl)) _⟩
  · rw [heap_set _ h.obj]; rfl
  · refine ownsRow_keep h.row (fun b hb => heap_other _ ?_)
    injection hb with hb
    subst hb
    exact h.ne
end
/-- all links stay in the array -/
structure Rng (S : TS) : Prop where
  pos : 0 < S.n.length
  root : S.root < S.n.length
  kid : ∀ i d, (S.nd i).kid d < S.n.length
  up : ∀ i, (S.nd i).up < S.n.length
theorem Rng.k0 {S : TS} (h : Rng S) (i : Nat) : (S.nd i).k0 < S.n.length := h.kid i false
theorem Rng.k1 {S : TS} (h : Rng S) (i : Nat) : (S.nd i).k1 < S.n.length := h.kid i true
theorem Rng.upd {S : TS} (h : Rng S) {i : Nat} {f : Nd → Nd} (hi : i < S.n.length) (hk : ∀ d, (f (S.nd i)).kid d < S.n.length) (hu : (f (S.nd i)).up < S.n.length) : Rng (S.upd i f) := by
  refine ⟨by simpa using h.pos, by simpa using h.root, fun j d => ?_, fun j => ?_⟩
  · rw [nd_upd _ _ _ _ hi, len_upd]
    split
    · next e => subst e; exact hk d
    · exact h.kid j d
  · rw [nd_upd _ _ _ _ hi, len_upd]
    split
    · next e => subst e; exact hu
    · exact h.up j
theorem Rng.skid {S : TS} (h : Rng S) {i y : Nat} (d : Bool) (hi : i < S.n.length) (hy : y < S.n.length) : Rng (S.upd i (Nd.setKid d y)) :=
  h.upd hi (fun e => by rw [kid_setKid]; split; exact hy; exact h.kid i e) (by rw [up_setKid]; exact h.up i)
theorem Rng.sup {S : TS} (h : Rng S) {i y : Nat} (hi : i < S.n.length) (hy : y < S.n.length) : Rng (S.upd i (Nd.setUp y)) :=
  h.upd hi (fun e => by rw [kid_setUp]; exact h.kid i e) hy
theorem Rng.sred {S : TS} (h : Rng S) {i : Nat} (c : Bool) (hi : i < S.n.length) : Rng (S.upd i (Nd.setRed c)) :=
  h.upd hi (fun e => by rw [kid_setRed]; exact h.kid i e) (by rw [up_setRed]; exact h.up i)
theorem Rng.sroot {S : TS} (h : Rng S) {y : Nat} (hy : y < S.n.length) : Rng (S.setRoot y) := ⟨h.pos, hy, h.kid, h.up⟩
theorem Rng.hang {S : TS} (h : Rng S) {x q : Nat} (hx : x < S.n.length) : Rng (hang S x q) ∧ (TreeP.hang S x q).n.length = S.n.length := by
  unfold TreeP.hang
  simp only
  split
  · exact ⟨(h.sroot hx).sup hx (h.up q), by simp⟩
  · exact ⟨((h.skid _ (h.up q) hx).sup (by simpa using hx) (by simpa using h.up q)), by simp⟩
theorem Rng.turn {S : TS} (h : Rng S) {x : Nat} (d : Bool) (hx : x < S.n.length) : Rng (turn S x d) ∧ (TreeP.turn S x d).n.length = S.n.length := by
  have hy : (S.nd x).kid (!d) < S.n.length := h.kid x _
  have hi : (S.nd ((S.nd x).kid (!d))).kid d < S.n.length := h.kid _ _
  obtain ⟨h1, l1⟩ := Rng.hang (q := x) h hy
  have h2 := h1.skid (i := x) (!d) (by omega) (by rw [l1]; exact hi)
  unfold TreeP.turn
  simp only
  split
  · refine ⟨((h2.skid d (by simp; omega) (by simp; omega)).sup (by simp; omega) (by simp; omega)), by simp [l1]⟩
  · refine ⟨(((h2.sup (by simp; omega) (by simp; omega)).skid d (by simp; omega) (by simp; omega)).sup (by simp; omega) (by simp; omega)), by simp [l1]⟩
end Go.Proofs.Ytkdmlpigkmlkmaa.Tr
