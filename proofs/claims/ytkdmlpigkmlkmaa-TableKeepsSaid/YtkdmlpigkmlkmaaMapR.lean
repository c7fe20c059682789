/- DERIVED. A map under way in a loop over it, owned. No Go text. -/
import Derived.Test.YtkdmlpigkmlkmaaMapD
import Derived.Maps.RangeWalk
set_option linter.unusedVariables false
set_option linter.unusedSimpArgs false
namespace Go.Proofs.Ytkdmlpigkmlkmaa
open Go.RowKit Go.Maps

/-- the map in block b, under way by the iterator in block r -/
def MapRg (P : Program) (k : TypeId) (R : Value → Option (DataW Unit × List MemPlace)) (b r n : Nat) (D : DataW Unit) (left : Lit → Bool) (cnt : Nat) : HP where
  holds w s := w.ranges P k R b r n D left cnt ∧ ∀ c, s c ↔ (c = b ∨ c = r)
  loc := fun {w w' s} h h1 h2 h3 h4 h5 => ⟨by
    obtain ⟨es, clock, since, seen, c0, hb, F, hs, hD, hr, x⟩ := h.1
    exact ⟨es, clock, since, seen, c0, (h4 b ((h.2 b).2 (.inl rfl))).trans hb, F, hs, hD, (h4 r ((h.2 r).2 (.inr rfl))).trans hr, x⟩, h.2⟩
  bnd := fun {w s c} h hc => by
    rcases (h.2 c).1 hc with rfl | rfl
    · exact h.1.owns.lt
    · exact h.1.lt
theorem Own.mapRg {P : Program} {k : TypeId} {R : Value → Option (DataW Unit × List MemPlace)} {b n : Nat} {D : DataW Unit} {left : Lit → Bool} {cnt : Nat} {l : List HP} {w w' : World} (h : Own (MapD P k R b n D :: l) w)
    (h' : w'.ranges P k R b w.heap.size n D left cnt) (hg : w.grownBy w' none) : Own (MapRg P k R b w.heap.size n D left cnt :: l) w' := by
  obtain ⟨s, hP, hb, K⟩ := h.open
  refine K ((Step.refl s w).grown hg (fun c hc => by cases hc)) (P' := MapRg P k R b w.heap.size n D left cnt) (s' := fun c => c = b ∨ c = w.heap.size) ⟨h', fun _ => Iff.rfl⟩ (fun c hc => ?_)
  rcases hc with rfl | rfl
  · exact .inl ((hP.2 _).2 rfl)
  · exact .inr (Nat.le_refl _)
theorem Own.rg {P : Program} {k : TypeId} {R : Value → Option (DataW Unit × List MemPlace)} {b r n : Nat} {D : DataW Unit} {left : Lit → Bool} {cnt : Nat} {l : List HP} {w : World} (h : Own (MapRg P k R b r n D left cnt :: l) w) : w.ranges P k R b r n D left cnt := by
  obtain ⟨s, hP, _⟩ := h.open
  exact hP.1
theorem Own.mapRgSet {P : Program} {k : TypeId} {R : Value → Option (DataW Unit × List MemPlace)} {b r n : Nat} {D : DataW Unit} {left left' : Lit → Bool} {cnt cnt' : Nat} {l : List HP} {w w' : World} (h : Own (MapRg P k R b r n D left cnt :: l) w)
    (h' : w'.ranges P k R b r n D left' cnt') (hg : w.grownBy w' (some r)) : Own (MapRg P k R b r n D left' cnt' :: l) w' := by
  obtain ⟨s, hP, hb, K⟩ := h.open
  exact K ((Step.refl s w).grown hg (fun c hc => by cases hc; exact .inl ((hP.2 _).2 (.inr rfl)))) (P' := MapRg P k R b r n D left' cnt') (s' := s) ⟨h', hP.2⟩ (fun c hc => .inl hc)
/-- back: the map alone -/
theorem Own.mapRgDone {P : Program} {k : TypeId} {R : Value → Option (DataW Unit × List MemPlace)} {b r n : Nat} {D : DataW Unit} {left : Lit → Bool} {cnt : Nat} {l : List HP} {w : World} (h : Own (MapRg P k R b r n D left cnt :: l) w) : Own (MapD P k R b n D :: l) w := by
  obtain ⟨s, hP, hb, K⟩ := h.open
  refine K (Step.refl s w) (P' := MapD P k R b n D) (s' := fun c => c = b) ⟨hP.1.owns, fun _ => Iff.rfl⟩ (fun c hc => ?_)
  subst hc
  exact .inl ((hP.2 _).2 (.inl rfl))
section
variable {P : Program} {ops : Array Oper} {rest : List Oper} {o : Oper} {a : Act} {Q : Exit → Act → World → Prop}
theorem mapR_range (w : World) (hg : o.guard = none) (m : Operand) (t : TypeId) (hop : o.op = Op.range t m) (k e : TypeId) (K : Keyed P k) (ht : P.underlying t = some (.map k e)) (R : Value → Option (DataW Unit × List MemPlace)) (b n : Nat) (D : DataW Unit) {l : List HP}
    (hm : a.eval m = .map (some b)) (h : Own (MapD P k R b n D :: l) w)
    (hK : ∀ (r : Nat) (w' : World), Own (MapRg P k R b r n D (Maps.has D) (Maps.size D) :: l) w' → wpList P ops Q rest (a.put o.dst (.pointer (some ⟨r, 0, none⟩))) w') : wpList P ops Q (o :: rest) a w :=
  wpList_range_own w hg m t hop k e K ht R b n D hm h.mapD (fun w' h1 h2 h3 => hK _ w' (h.mapRg h1 h2))
theorem mapR_next (w : World) (hg : o.guard = none) (it : Operand) (hop : o.op = Op.next it false) (k e : TypeId) (qk qe : IntKind) (K : Keyed P k) (hk : P.underlying k = some (.int qk)) (he : P.underlying e = some (.int qe))
    (b r n : Nat) (D : DataW Unit) (left : Lit → Bool) (cnt : Nat) {l : List HP} (hit : a.eval it = .pointer (some ⟨r, 0, none⟩)) (h : Own (MapRg P k (plainElem P e) b r n D left cnt :: l) w)
    (hDone : (∀ kl, left kl = false) → wpList P ops Q rest (a.put o.dst (.tuple #[.bool false])) w)
    (hMore : ∀ (x c : Int) (w' : World) (cnt' : Nat), left (.int qk x) = true → (∀ zd, D.atKey (.int qk x) zd = .lit (.int qe c)) → Own (MapRg P k (plainElem P e) b r n D (fun z => left z && !z.sameKey (.int qk x)) cnt' :: l) w' → cnt' < cnt →
      (Instr.entry (.pointer (some ⟨r, 0, none⟩))).run P w' = .ok (.tuple #[.int qk x, .int qe c]) w' → wpList P ops Q rest (a.put o.dst (.tuple #[.bool true, .int qk x, .int qe c])) w') : wpList P ops Q (o :: rest) a w :=
  wpList_next_ranges_ii w hg it hop k e qk qe K hk he b r n D left cnt hit h.rg (fun _ hl => hDone hl) (fun x c w' cnt' _ _ h1 h2 h3 h4 h5 _ h6 => hMore x c w' cnt' h1 h2 (h.mapRgSet h3 h5) h4 h6)
end
end Go.Proofs.Ytkdmlpigkmlkmaa
