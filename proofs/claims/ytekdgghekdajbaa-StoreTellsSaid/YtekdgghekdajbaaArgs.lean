/- DERIVED. Slices that came in, as the laws read them: from an argument's reading to its cells. No Go text. -/
import Derived.Test.YtekdgghekdajbaaBase
import Derived.Deep.Slices
set_option linter.unusedVariables false
set_option linter.unusedSimpArgs false
namespace Go.Proofs.Ytekdgghekdajbaa
open Go.RowKit Go.WideShapes Go.ChangeShapes

/-- n elements of sz cells each; cell c of element i holds 'C i c' -/
def Came (W : World) (v : Value) (n sz : Nat) (C : Nat → Nat → Value) : Prop :=
  ∃ a cap, v = .slice a n cap ∧ n ≤ cap ∧ cap ≤ maxLen ∧ (0 < n → ∃ b off, a = some ⟨b, off, none⟩ ∧ b < W.heap.size ∧ ∀ i c, i < n → c < sz → W.cell? ⟨b, off + i * sz + c, none⟩ = some (C i c))
/-- bytes -/
def Bytes (W : World) (v : Value) (l : List Nat) : Prop :=
  ∃ a cap, v = .slice a l.length cap ∧ l.length ≤ cap ∧ cap ≤ maxLen ∧ (0 < l.length → ∃ b off, a = some ⟨b, off, none⟩ ∧ b < W.heap.size ∧ ∀ (i x : Nat), l[i]? = some x → x ≤ 255 ∧ W.cell? ⟨b, off + i, none⟩ = some (.int .u8 x))
section
variable {H : Type} {enc : TypeId × Value → H} {P : Program} {w : World}
theorem came_of {t e : TypeId} {v : Value} {d : DataW H} {ps : List MemPlace} {sz : Nat} (ht : P.underlying t = some (.slice e)) (hc : P.cellsOf e = sz) (hsz : 0 < sz) (hv : ∃ a len cap, v = .slice a len cap)
    (h : DataW.Trod enc P w 0 (fun _ => true) true t v d ps) :
    ∃ n C, Came w v n sz C ∧ ∀ i, i < n → ∃ m x, DataW.trod enc P w 0 (fun _ => true) true m e ((List.range sz).map (C i)) = some x := by
  obtain ⟨fuel, hf⟩ := h
  obtain ⟨a', len', cap', rfl⟩ := hv
  have hf' : DataW.trod enc P w 0 (fun _ => true) true fuel t [.slice a' len' cap'] = some (d, ps) := by simpa [Value.cells] using hf
  rcases Deep.open_slice ht hf' with ⟨hcs, _⟩ | ⟨a, len, cap, m, n, D, Pl, hcs, _, hl, hm, hmm, _, hx⟩
  · injection hcs with e1 _
    injection e1 with e1 e2 e3
    subst e1 e2 e3
    exact ⟨0, fun _ _ => undef, ⟨none, 0, rfl, Nat.le_refl _, by simp [maxLen], fun h => absurd h (Nat.lt_irrefl 0)⟩, fun i hi => absurd hi (Nat.not_lt_zero _)⟩
  · injection hcs with e1 _
    injection e1 with e1 e2 e3
    subst e1 e2 e3
    simp only [if_true] at hmm
    subst hmm
    rw [hc] at hx
    by_cases hn : len' = 0
    · subst hn
      exact ⟨0, fun _ _ => undef, ⟨some a, _, rfl, hl, hm, fun h => absurd h (Nat.lt_irrefl 0)⟩, fun i hi => absurd hi (Nat.not_lt_zero _)⟩
    · obtain ⟨b, off, spot⟩ := a
      have hat : ∀ i, i < len' → ∃ cs : List Value, cs.length = sz ∧ (∀ c, c < sz → w.cell? (((⟨b, off, spot⟩ : Addr).add (i * sz)).add c) = cs[c]?) ∧ ∃ k x, DataW.trod enc P w 0 (fun _ => true) true k e cs = some x := by
        intro i hi
        obtain ⟨cs, h1, h2⟩ := hx i (by omega)
        exact ⟨cs, (World.cells?_some h1).2.1, fun c hc => (World.cells?_some h1).2.2 c hc, _, _, h2⟩
      have hspot : spot = none := by
        obtain ⟨cs, h1, h2, _⟩ := hat 0 (by omega)
        have h3 := h2 0 hsz
        rw [List.getElem?_eq_getElem (by omega)] at h3
        simpa [Addr.add] using World.cell?_spot h3
      subst hspot
      have hpl : ∀ i c, ((⟨b, off, none⟩ : Addr).add (i * sz)).add c = ⟨b, off + i * sz + c, none⟩ := fun i c => by
        rw [Deep.add_add, add_plain, Nat.add_assoc]
      refine ⟨len', fun i c => (w.cell? ⟨b, off + i * sz + c, none⟩).getD undef, ⟨some ⟨b, off, none⟩, _, rfl, hl, hm, fun _ => ⟨b, off, rfl, ?_, fun i c hi hc => ?_⟩⟩, fun i hi => ?_⟩
      · obtain ⟨cs, h1, h2, _⟩ := hat 0 (by omega)
        have h3 := h2 0 hsz
        rw [List.getElem?_eq_getElem (by omega), hpl] at h3
        exact World.block_lt_of_cell? w _ h3
      · obtain ⟨cs, h1, h2, _⟩ := hat i hi
        have h3 := h2 c hc
        rw [List.getElem?_eq_getElem (by omega), hpl] at h3
        simp only [h3, Option.getD_some]
      · obtain ⟨cs, h1, h2, k, x, h4⟩ := hat i hi
        refine ⟨k, x, ?_⟩
        have : (List.range sz).map (fun c => (w.cell? ⟨b, off + i * sz + c, none⟩).getD undef) = cs := by
          apply List.ext_getElem?
          intro c
          by_cases hc : c < sz
          · have h3 := h2 c hc
            rw [hpl] at h3
            rw [List.getElem?_map, List.getElem?_range hc, Option.map_some, h3, List.getElem?_eq_getElem (by omega)]
            rfl
          · rw [List.getElem?_eq_none (by simp; omega), List.getElem?_eq_none (by omega)]
        rw [this]
        exact h4
/-- bytes that came in -/
theorem bytes_of {t e : TypeId} {v : Value} {d : DataW H} {ps : List MemPlace} (ht : P.underlying t = some (.slice e)) (he : P.underlying e = some (.int .u8)) (hc : P.cellsOf e = 1) (hv : ∃ a len cap, v = .slice a len cap)
    (h : DataW.Trod enc P w 0 (fun _ => true) true t v d ps) : ∃ l, Bytes w v l := by
  obtain ⟨n, C, ⟨a, cap, hv', h1, h2, h3⟩, h4⟩ := came_of ht hc (by omega) hv h
  have hz : ∀ i, i < n → ∃ x : Nat, x ≤ 255 ∧ C i 0 = .int .u8 x := by
    intro i hi
    obtain ⟨m, x, hx⟩ := h4 i hi
    obtain ⟨z, hz, _, hw⟩ := DataW.trod_int he hx
    simp only [List.range_succ, List.range_zero, List.nil_append, List.map_cons, List.map_nil, List.cons.injEq, and_true] at hz
    obtain ⟨l, u⟩ := u8_bd hw
    exact ⟨z.toNat, by omega, by rw [hz, Int.toNat_of_nonneg l]⟩
  refine ⟨(List.range n).map fun i => (match C i 0 with | .int _ z => z.toNat | _ => 0), a, cap, by simpa using hv', by simpa using h1, h2, fun hp => ?_⟩
  obtain ⟨b, off, rfl, hb, hcell⟩ := h3 (by simpa using hp)
  refine ⟨b, off, rfl, hb, fun i x hx => ?_⟩
  have hi : i < n := by have := (List.getElem?_eq_some_iff.1 hx).1; simpa using this
  obtain ⟨y, hy, hC⟩ := hz i hi
  rw [List.getElem?_map, List.getElem?_range hi, Option.map_some, hC] at hx
  simp only [Int.toNat_natCast, Option.some.injEq] at hx
  subst hx
  have := hcell i 0 hi (by omega)
  rw [hC, Nat.mul_one, Nat.add_zero] at this
  exact ⟨hy, this⟩
end
end Go.Proofs.Ytekdgghekdajbaa
