/- DERIVED. Maps, owned, with the datum itself (not what each key reads as): for len, delete, and 'is it there?'. No Go text. -/
import Derived.Test.YtkdmlpigkmlkmaaOwn
import Derived.Maps.OwnOps
import Derived.Maps.OwnSet
import Derived.Maps.Views
import Derived.Carry
import Derived.Deep.RegionHeld3
set_option linter.unusedVariables false
set_option linter.unusedSimpArgs false
namespace Go.Proofs.Ytkdmlpigkmlkmaa
open Go.RowKit Go.Maps

/-- the map in block b, of datum D; at most n entries -/
def MapD (P : Program) (k : TypeId) (R : Value → Option (DataW Unit × List MemPlace)) (b n : Nat) (D : DataW Unit) : HP where
  holds w s := w.ownsMap P k R b n D ∧ ∀ c, s c ↔ c = b
  loc := fun {w w' s} h h1 h2 h3 h4 h5 => ⟨by
    obtain ⟨es, clock, hb, r⟩ := h.1
    exact ⟨es, clock, (h4 b ((h.2 b).2 rfl)).trans hb, r⟩, h.2⟩
  bnd := fun {w s c} h hc => by
    rw [(h.2 c).1 hc]
    exact h.1.lt
theorem Own.mapDNew {P : Program} (k : TypeId) (R : Value → Option (DataW Unit × List MemPlace)) {l : List HP} {w : World} (h : Own l w) : Own (MapD P k R w.heap.size 0 (.map []) :: l) (w.alloc (.map #[] 0)) :=
  h.new ((Ext.refl w).alloc _) (s := fun c => c = w.heap.size) ⟨World.ownsMap_made w P k _, fun _ => Iff.rfl⟩ (fun b hb => by rw [hb]; exact Nat.le_refl _)
theorem Own.mapD {P : Program} {k : TypeId} {R : Value → Option (DataW Unit × List MemPlace)} {b n : Nat} {D : DataW Unit} {l : List HP} {w : World} (h : Own (MapD P k R b n D :: l) w) : w.ownsMap P k R b n D := by
  obtain ⟨s, hP, _⟩ := h.open
  exact hP.1
theorem Own.mapDSet {P : Program} {k : TypeId} {R : Value → Option (DataW Unit × List MemPlace)} {b n n' : Nat} {D D' : DataW Unit} {l : List HP} {w w' : World} (h : Own (MapD P k R b n D :: l) w) (h' : w'.ownsMap P k R b n' D') (hg : w.grownBy w' (some b)) : Own (MapD P k R b n' D' :: l) w' := by
  obtain ⟨s, hP, hb, K⟩ := h.open
  exact K ((Step.refl s w).grown hg (fun c hc => by cases hc; exact .inl ((hP.2 b).2 rfl))) (s' := s) ⟨h', hP.2⟩ (fun c hc => .inl hc)
section
variable {P : Program} {ops : Array Oper} {rest : List Oper} {o : Oper} {a : Act} {Q : Exit → Act → World → Prop}
theorem mapD_look (w : World) (hg : o.guard = none) (m x : Operand) (t : TypeId) (hop : o.op = Op.lookup t m x false) (k e : TypeId) (K : Keyed P k) (ht : P.underlying t = some (.map k e)) (he : P.underlying e = some (.int .i64))
    (hz : (zeroValue e).run P w = .ok (.int .i64 0) w) (b n : Nat) (D : DataW Unit) {l : List HP} (hm : a.eval m = .map (some b)) (h : Own (MapD P k (plainElem P e) b n D :: l) w) (kv : Value) (y : Lit) (hx : a.eval x = kv) (hy : keyOf P k kv = some y) (v : Int) (hv : D.atKey y (.lit (.int .i64 0)) = .lit (.int .i64 v))
    (hK : wpList P ops Q rest (a.put o.dst (.int .i64 v)) w) : wpList P ops Q (o :: rest) a w := by
  refine wpList_lookup_own_int w hg m x t hop k e .i64 K ht he hz b n D hm h.mapD _ _ hx hy ?_
  intro c hc _
  rw [hv] at hc
  injection hc with hc
  injection hc with _ hc
  rw [← hc]
  exact hK
theorem mapD_put (w : World) (hg : o.guard = none) (m x v : Operand) (t : TypeId) (hop : o.op = Op.mapUpdate t m x v) (k e : TypeId) (K : Keyed P k) (ht : P.underlying t = some (.map k e)) (R : Value → Option (DataW Unit × List MemPlace))
    (b n : Nat) (D : DataW Unit) {l : List HP} (hm : a.eval m = .map (some b)) (h : Own (MapD P k R b n D :: l) w) (hn : n < maxLen) (kv : Value) (y : Lit) (hx : a.eval x = kv) (hy : keyOf P k kv = some y) (u : Value) (hv : a.eval v = u) (d : DataW Unit) (ps : List MemPlace) (hu : R u = some (d, ps))
    (hK : ∀ w', Own (MapD P k R b (n + 1) (D.put y d) :: l) w' → wpList P ops Q rest (a.put o.dst undef) w') : wpList P ops Q (o :: rest) a w := by
  refine wpList_mapUpdate_in w hg m x v t hop k e K ht R b n D hm h.mapD hn _ _ _ hx hv hy d ps hu ?_
  intro w' h1 hg1
  exact hK w' (h.mapDSet h1 hg1.grown)
theorem mapD_len (w : World) (hg : o.guard = none) (m : Operand) (t : TypeId) (hop : o.op = Op.call { callee := Callee.builtin Builtin.len, args := #[m], argTypes := #[t] }) (k e : TypeId) (ht : P.underlying t = some (.map k e)) (R : Value → Option (DataW Unit × List MemPlace))
    (b n : Nat) (D : DataW Unit) {l : List HP} (hm : a.eval m = .map (some b)) (h : Own (MapD P k R b n D :: l) w)
    (hK : wpList P ops Q rest (a.put o.dst (.int .i64 (Maps.size D))) w) : wpList P ops Q (o :: rest) a w :=
  wpList_len_own w hg m t hop k e ht R b n D hm h.mapD hK
theorem mapD_del (w : World) (hg : o.guard = none) (m x : Operand) (t k : TypeId) (hop : o.op = Op.call { callee := Callee.builtin Builtin.delete, args := #[m, x], argTypes := #[t, k] }) (e : TypeId) (K : Keyed P k) (ht : P.underlying t = some (.map k e)) (R : Value → Option (DataW Unit × List MemPlace))
    (b n : Nat) (D : DataW Unit) {l : List HP} (hm : a.eval m = .map (some b)) (h : Own (MapD P k R b n D :: l) w) (kv : Value) (y : Lit) (hx : a.eval x = kv) (hy : keyOf P k kv = some y)
    (hK : ∀ w', Own (MapD P k R b n (D.del y) :: l) w' → wpList P ops Q rest (a.put o.dst (.tuple #[])) w') : wpList P ops Q (o :: rest) a w := by
  refine wpList_delete_own w hg m x t k hop e K ht R b n D hm h.mapD _ _ hx hy ?_
  intro w' h1 hg1
  exact hK w' (h.mapDSet h1 hg1.grown)
/-- look-up with 'is it there?' -/
theorem mapD_look2 (w : World) (hg : o.guard = none) (m x : Operand) (t : TypeId) (hop : o.op = Op.lookup t m x true) (k e : TypeId) (K : Keyed P k) (ht : P.underlying t = some (.map k e)) (R : Value → Option (DataW Unit × List MemPlace)) {z : Value} (hz : (zeroValue e).run P w = .ok z w) (zd : DataW Unit) (hzd : R z = some (zd, []))
    (b n : Nat) (D : DataW Unit) {l : List HP} (hm : a.eval m = .map (some b)) (h : Own (MapD P k R b n D :: l) w) (kv : Value) (y : Lit) (hx : a.eval x = kv) (hy : keyOf P k kv = some y) (v : Value) (hv : ∀ u ps, R u = some (D.atKey y zd, ps) → u = v) (B : Bool) (hB : Maps.has D y = B)
    (hK : wpList P ops Q rest (a.put o.dst (.tuple #[v, .bool B])) w) : wpList P ops Q (o :: rest) a w := by
  refine wpList_lookup_own_ok w hg m x t hop k e K ht R hz zd [] hzd b n D hm h.mapD _ _ hx hy ?_
  intro u ps hu
  rw [hv u ps hu, hB]
  exact hK
/-- in a region that draws its order: a store -/
theorem held_put {K' : Act → World → Prop} (w : World) (hw : Region.wanted o (yielded ops a.tmps) = true) (m x v : Operand) (t : TypeId) (hop : o.op = Op.mapUpdate t m x v) (k e : TypeId) (K : Keyed P k) (ht : P.underlying t = some (.map k e)) (R : Value → Option (DataW Unit × List MemPlace))
    (b n : Nat) (D : DataW Unit) {l : List HP} (hm : a.eval m = .map (some b)) (h : Own (MapD P k R b n D :: l) w) (hn : n < maxLen) (kv : Value) (y : Lit) (hx : a.eval x = kv) (hy : keyOf P k kv = some y) (u : Value) (hv : a.eval v = u) (d : DataW Unit) (ps : List MemPlace) (hu : R u = some (d, ps))
    (hK : ∀ w', Own (MapD P k R b (n + 1) (D.put y d) :: l) w' → K' (a.put o.dst undef) w') : if Region.wanted o (yielded ops a.tmps) = true then Oper.wp P o a w K' Q else K' (a.put o.dst undef) w := by
  rw [if_pos hw]
  obtain ⟨w', hrun, r1, r2⟩ := h.mapD.store K ht hn hy hu
  unfold Oper.wp
  simp [execOp, hop, hm, hx, hv, hrun, Result.andThen]
  exact hK w' (h.mapDSet r1 r2.grown)
/-- .. a delete -/
theorem held_del {K' : Act → World → Prop} (w : World) (hw : Region.wanted o (yielded ops a.tmps) = true) (m x : Operand) (t k : TypeId) (hop : o.op = Op.call { callee := Callee.builtin Builtin.delete, args := #[m, x], argTypes := #[t, k] }) (e : TypeId) (K : Keyed P k) (ht : P.underlying t = some (.map k e)) (R : Value → Option (DataW Unit × List MemPlace))
    (b n : Nat) (D : DataW Unit) {l : List HP} (hm : a.eval m = .map (some b)) (h : Own (MapD P k R b n D :: l) w) (kv : Value) (y : Lit) (hx : a.eval x = kv) (hy : keyOf P k kv = some y)
    (hK : ∀ w', Own (MapD P k R b n (D.del y) :: l) w' → K' (a.put o.dst (.tuple #[])) w') : if Region.wanted o (yielded ops a.tmps) = true then Oper.wp P o a w K' Q else K' (a.put o.dst undef) w := by
  rw [if_pos hw]
  obtain ⟨w', hrun, r1, r2⟩ := h.mapD.drop K ht hy o.type
  unfold Oper.wp
  simp [execOp, hop, resolve, invoke, builtin, hm, hx, hrun, Result.andThen]
  exact hK w' (h.mapDSet r1 r2.grown)
/-- .. a look-up -/
theorem yields_look {S : World → Prop} (hw : Region.wanted o (yielded ops a.tmps) = true) (m x : Operand) (t : TypeId) (hop : o.op = Op.lookup t m x false) (k e : TypeId) (K : Keyed P k) (ht : P.underlying t = some (.map k e)) (R : Value → Option (DataW Unit × List MemPlace)) {z : Value} (hz : ∀ w, (zeroValue e).run P w = .ok z w) (zd : DataW Unit) (hzd : R z = some (zd, []))
    (b n : Nat) (D : DataW Unit) (hm : a.eval m = .map (some b)) (h : ∀ w, S w → ∃ l, Own (MapD P k R b n D :: l) w) (kv : Value) (y : Lit) (hx : a.eval x = kv) (hy : keyOf P k kv = some y) (v : Value) (hv : ∀ u ps, R u = some (D.atKey y zd, ps) → u = v) : YieldsIf P ops S o v a := by
  refine Or.inl ⟨hw, fun w hS => ?_⟩
  obtain ⟨l, hl⟩ := h w hS
  obtain ⟨es, clock, hb, F, _, rfl⟩ := hl.mapD
  rcases Maps.fit_look false K ht (hz w) hb F hy with ⟨hrun, _, hat⟩ | ⟨e0, y0, _, _, hrun, hRv, hat, _⟩
  · have := hv z [] (by rw [hat zd]; exact hzd)
    subst this
    simp [execOp, hop, hm, hx, hrun, Result.andThen]
  · have := hv e0.val y0.2 (by rw [hat zd]; exact hRv)
    subst this
    simp [execOp, hop, hm, hx, hrun, Result.andThen]
end
end Go.Proofs.Ytkdmlpigkmlkmaa
