/- DERIVED. Maps from whole numbers to ints, owned: what they hold, as a function; look-up and store. No Go text. -/
import Derived.Test.YtkdmlpigkmlkmaaOwn
import Derived.Maps.OwnOps
import Derived.Maps.Views
import Derived.Carry
set_option linter.unusedVariables false
set_option linter.unusedSimpArgs false
namespace Go.Proofs.Ytkdmlpigkmlkmaa
open Go.RowKit Go.Maps

/-- the map in block b: from numbers of kind q to ints, at most n of them; F: what each key reads as -/
def MapI (P : Program) (k e : TypeId) (q : IntKind) (b n : Nat) (F : Int → Int) : HP where
  holds w s := (∃ D : DataW Unit, w.ownsMap P k (plainElem P e) b n D ∧ ∀ x, D.atKey (.int q x) (.lit (.int .i64 0)) = .lit (.int .i64 (F x))) ∧ ∀ c, s c ↔ c = b
  loc := fun {w w' s} h h1 h2 h3 h4 h5 => ⟨by
    obtain ⟨D, ⟨es, clock, hb, r⟩, hF⟩ := h.1
    exact ⟨D, ⟨es, clock, (h4 b ((h.2 b).2 rfl)).trans hb, r⟩, hF⟩, h.2⟩
  bnd := fun {w s c} h hc => by
    obtain ⟨D, hD, _⟩ := h.1
    rw [(h.2 c).1 hc]
    exact hD.lt
theorem Own.mapNew {P : Program} (k e : TypeId) (q : IntKind) {l : List HP} {w : World} (h : Own l w) : Own (MapI P k e q w.heap.size 0 (fun _ => 0) :: l) (w.alloc (.map #[] 0)) :=
  h.new ((Ext.refl w).alloc _) (s := fun c => c = w.heap.size) ⟨⟨.map [], World.ownsMap_made w P k _, fun x => rfl⟩, fun _ => Iff.rfl⟩ (fun b hb => by rw [hb]; exact Nat.le_refl _)
theorem Own.mapAt {P : Program} {k e : TypeId} {q : IntKind} {b n : Nat} {F : Int → Int} {l : List HP} {w : World} (h : Own (MapI P k e q b n F :: l) w) :
    ∃ D : DataW Unit, w.ownsMap P k (plainElem P e) b n D ∧ ∀ x, D.atKey (.int q x) (.lit (.int .i64 0)) = .lit (.int .i64 (F x)) := by
  obtain ⟨s, hP, _⟩ := h.open
  exact hP.1
/-- behind a store of v at x -/
theorem Own.mapPut {P : Program} {k e : TypeId} {q : IntKind} {b n : Nat} {F : Int → Int} {l : List HP} {w w' : World} (h : Own (MapI P k e q b n F :: l) w) {D : DataW Unit} (hD : w.ownsMap P k (plainElem P e) b n D) (hF : ∀ x, D.atKey (.int q x) (.lit (.int .i64 0)) = .lit (.int .i64 (F x)))
    (x v : Int) (h' : w'.ownsMap P k (plainElem P e) b (n + 1) (D.put (.int q x) (.lit (.int .i64 v)))) (hg : w.grownBy w' (some b)) : Own (MapI P k e q b (n + 1) (fun y => if y = x then v else F y) :: l) w' := by
  obtain ⟨s, hP, hb, K⟩ := h.open
  have hmap : IsMap D := by
    obtain ⟨es, clock, _, _, _, hd⟩ := hD
    exact ⟨_, hd⟩
  refine K ((Step.refl s w).grown hg (fun c hc => by cases hc; exact .inl ((hP.2 b).2 rfl))) (s' := s) ⟨⟨_, h', fun y => ?_⟩, hP.2⟩ (fun c hc => .inl hc)
  by_cases e : y = x
  · subst e
    dsimp only
    rw [if_pos rfl]
    exact atKey_put_same hmap (by simp [WideAt.IsKeyLit]) _ _
  · dsimp only
    rw [if_neg e]
    rw [atKey_put_other (fun h => e (by injection h))]
    exact hF y
section
variable {P : Program} {ops : Array Oper} {rest : List Oper} {o : Oper} {a : Act} {Q : Exit → Act → World → Prop}
theorem map_look (w : World) (hg : o.guard = none) (m x : Operand) (t : TypeId) (hop : o.op = Op.lookup t m x false) (k e : TypeId) (q : IntKind) (hk : P.underlying k = some (.int q)) (ht : P.underlying t = some (.map k e)) (he : P.underlying e = some (.int .i64))
    (hz : (zeroValue e).run P w = .ok (.int .i64 0) w) (b n : Nat) (F : Int → Int) {l : List HP} (hm : a.eval m = .map (some b)) (h : Own (MapI P k e q b n F :: l) w) (y : Int) (hx : a.eval x = .int q y) (hy : (Lit.int q y).wf = true)
    (hK : wpList P ops Q rest (a.put o.dst (.int .i64 (F y))) w) : wpList P ops Q (o :: rest) a w := by
  obtain ⟨D, hD, hF⟩ := h.mapAt
  refine wpList_lookup_own_int w hg m x t hop k e .i64 (int_keyed hk) ht he hz b n D hm hD _ _ hx (keyOf_int_mk hk hy) ?_
  intro c hc _
  rw [hF y] at hc
  injection hc with hc
  injection hc with _ hc
  rw [← hc]
  exact hK
theorem map_put (w : World) (hg : o.guard = none) (m x v : Operand) (t : TypeId) (hop : o.op = Op.mapUpdate t m x v) (k e : TypeId) (q : IntKind) (hk : P.underlying k = some (.int q)) (ht : P.underlying t = some (.map k e)) (he : P.underlying e = some (.int .i64))
    (b n : Nat) (F : Int → Int) {l : List HP} (hm : a.eval m = .map (some b)) (h : Own (MapI P k e q b n F :: l) w) (hn : n < maxLen) (y : Int) (hx : a.eval x = .int q y) (hy : (Lit.int q y).wf = true) (u : Int) (hv : a.eval v = .int .i64 u) (hu : (Lit.int .i64 u).wf = true)
    (hK : ∀ w', Own (MapI P k e q b (n + 1) (fun z => if z = y then u else F z) :: l) w' → wpList P ops Q rest (a.put o.dst undef) w') : wpList P ops Q (o :: rest) a w := by
  obtain ⟨D, hD, hF⟩ := h.mapAt
  refine wpList_mapUpdate_own w hg m x v t hop k e (int_keyed hk) ht (plainElem P e) b n D hm hD hn _ _ _ hx hv (keyOf_int_mk hk hy) _ [] (plainElem_int he hu) ?_
  intro w' h1 hg1
  exact hK w' (h.mapPut hD hF y u h1 hg1)
end
end Go.Proofs.Ytkdmlpigkmlkmaa
