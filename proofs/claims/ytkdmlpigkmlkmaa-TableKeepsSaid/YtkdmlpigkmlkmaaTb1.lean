/- DERIVED. Layer 14 (table): the law TableKeeps' map, of what was there; the loop over it. -/
import Derived.Test.YtkdmlpigkmlkmaaTbY
import Derived.Test.YtkdmlpigkmlkmaaMapR
set_option linter.unusedVariables false
set_option linter.unusedSimpArgs false
set_option maxRecDepth 100000
namespace Go.Proofs.Ytkdmlpigkmlkmaa.Tb
open Go.RowKit Go.Proofs.Ytkdmlpigkmlkmaa Go.Proofs.Ytkdmlpigkmlkmaa.TreeP Go.Proofs.Ytkdmlpigkmlkmaa.Tr Go.Proofs.Ytkdmlpigkmlkmaa.Bk Go.Maps

/-- a row as the law keeps it: its flow, whether it rests -/
abbrev wasV (r : RW) : Value := .agg #[.int .u64 r.f.s, .int .u64 r.f.c, .int .u64 r.f.ra, .int .i64 r.f.cr, .int .u64 r.f.nx, .int .u64 r.f.db, .int .u64 r.f.ag, .bool r.q]
def wd (k : Nat) : DataW Unit := .lit (.int .i64 (k : Int))
theorem wd_inj {j k : Nat} (h : wd j = wd k) : j = k := by
  unfold wd at h
  injection h with h
  injection h with _ h
  omega
/-- how an element reads: the number of its row -/
noncomputable def wasR (S : T) (v : Value) : Option (DataW Unit × List MemPlace) :=
  @dite _ (∃ k : Nat, ∃ r, rowAt S.rows k = some r ∧ v = wasV r) (Classical.propDecidable _) (fun h => some (wd (Classical.choose h), [])) (fun _ => none)
theorem wasV_sock {r x : RW} (h : wasV r = wasV x) : r.f.s = x.f.s := by
  unfold wasV at h
  injection h with h
  injection h with h
  injection h with h1 h
  injection h1 with _ h1
theorem wasR_mk {n N k : Nat} {S : T} {r : RW} (h : TI n N S) (hr : rowAt S.rows k = some r) : wasR S (wasV r) = some (wd k, []) := by
  unfold wasR
  have hx : ∃ k : Nat, ∃ x, rowAt S.rows k = some x ∧ wasV r = wasV x := ⟨k, r, hr, rfl⟩
  rw [dif_pos hx]
  obtain ⟨x, h1, h2⟩ := Classical.choose_spec hx
  rw [h.uniq h1 hr (wasV_sock h2).symm]
theorem wasR_inv {S : T} {v : Value} {y : DataW Unit × List MemPlace} (h : wasR S v = some y) : ∃ (k : Nat) (r : RW), rowAt S.rows k = some r ∧ v = wasV r ∧ y.1 = wd k := by
  unfold wasR at h
  by_cases hx : ∃ k : Nat, ∃ x, rowAt S.rows k = some x ∧ v = wasV x
  · rw [dif_pos hx] at h
    injection h with h
    obtain ⟨x, h1, h2⟩ := Classical.choose_spec hx
    exact ⟨_, x, h1, h2, by rw [← h]⟩
  · rw [dif_neg hx] at h
    cases h
abbrev flk (x : Int) : Lit := .int .i64 x
/-- the map behind i of all numbers -/
structure WD (S : T) (i : Nat) (D : DataW Unit) : Prop where
  tidy : Tidy D
  size : Maps.size D = i
  has : ∀ x : Int, Maps.has D (flk x) = true ↔ ∃ j k : Nat, j < i ∧ (allL S)[j]? = some k ∧ x = (k : Int)
  val : ∀ (j k : Nat) zd, j < i → (allL S)[j]? = some k → D.atKey (flk (k : Int)) zd = wd k
theorem wd_zero (S : T) : WD S 0 (.map []) := ⟨tidy_empty, rfl, fun x => ⟨fun h => by simp [Maps.has] at h, fun ⟨j, k, h, _⟩ => absurd h (Nat.not_lt_zero j)⟩, fun j k zd h => absurd h (Nat.not_lt_zero j)⟩
theorem flk_lit (x : Int) : WideAt.IsKeyLit (flk x) := by simp [WideAt.IsKeyLit]
theorem flk_ne {x y : Int} (h : x ≠ y) : flk x ≠ flk y := fun e => h (by injection e)
theorem wd_step {S : T} {i k : Nat} {D : DataW Unit} (h : WD S i D) (hk : (allL S)[i]? = some k) : WD S (i + 1) (D.put (flk (k : Int)) (wd k)) := by
  have hnew : Maps.has D (flk (k : Int)) = false := by
    rw [← Bool.not_eq_true]
    intro hh
    obtain ⟨j, k2, hj, hk2, e⟩ := (h.has _).1 hh
    obtain rfl : k2 = k := by omega
    obtain ⟨q1, q2⟩ := List.getElem?_eq_some_iff.1 hk
    obtain ⟨q3, q4⟩ := List.getElem?_eq_some_iff.1 hk2
    have := (List.getElem_inj (all_nodup S)).1 (q4.trans q2.symm)
    omega
  refine ⟨h.tidy.put (flk_lit _) _, ?_, fun x => ?_, fun j k2 zd hj hk2 => ?_⟩
  · rw [size_put h.tidy, hnew, if_neg (by simp), h.size]
  · by_cases e : x = (k : Int)
    · subst e
      rw [has_put_same h.tidy.isMap (flk_lit _)]
      exact ⟨fun _ => ⟨i, k, by omega, hk, rfl⟩, fun _ => rfl⟩
    · rw [has_put_other (flk_ne e), h.has]
      constructor
      · rintro ⟨j, k2, h1, h2, h3⟩
        exact ⟨j, k2, by omega, h2, h3⟩
      · rintro ⟨j, k2, h1, h2, h3⟩
        refine ⟨j, k2, ?_, h2, h3⟩
        have : j ≠ i := fun e2 => by
          subst e2
          rw [hk] at h2
          injection h2 with h2
          exact e (by rw [h3, h2])
        omega
  · by_cases e : k2 = k
    · subst e
      exact atKey_put_same h.tidy.isMap (flk_lit _) _ _
    · rw [atKey_put_other (flk_ne (by omega))]
      refine h.val j k2 zd ?_ hk2
      have : j ≠ i := fun e2 => by
        subst e2
        rw [hk] at hk2
        injection hk2 with hk2
        exact e hk2.symm
      omega
noncomputable abbrev MW (S : T) (b n : Nat) (D : DataW Unit) : HP := MapD Try.prog 3 (wasR S) b n D
noncomputable abbrev MG (S : T) (b r n : Nat) (D : DataW Unit) (left : Lit → Bool) (cnt : Nat) : HP := MapRg Try.prog 3 (wasR S) b r n D left cnt
theorem intK : Keyed Try.prog 3 := int_keyed Try.underlying3
section
variable {ops : Array Oper} {rest : List Oper} {o : Oper} {a : Act} {Q : Exit → Act → World → Prop}
/-- the loop's step -/
theorem was_next (S : T) (w : World) (hg : o.guard = none) (it : Operand) (hop : o.op = Op.next it false)
    (b r n : Nat) (D : DataW Unit) (left : Lit → Bool) (cnt : Nat) {l : List HP} (hit : a.eval it = .pointer (some ⟨r, 0, none⟩)) (h : Own (MG S b r n D left cnt :: l) w)
    (hDone : (∀ kl, left kl = false) → wpList Try.prog ops Q rest (a.put o.dst (.tuple #[.bool false])) w)
    (hMore : ∀ (x : Int) (k : Nat) (c : RW) (w' : World) (cnt' : Nat), left (flk x) = true → rowAt S.rows k = some c → (∀ zd, D.atKey (flk x) zd = wd k) → Own (MG S b r n D (fun z => left z && !z.sameKey (flk x)) cnt' :: l) w' → cnt' < cnt →
      (Instr.entry (.pointer (some ⟨r, 0, none⟩))).run Try.prog w' = .ok (.tuple #[.int .i64 x, wasV c]) w' → wpList Try.prog ops Q rest (a.put o.dst (.tuple #[.bool true, .int .i64 x, wasV c])) w') : wpList Try.prog ops Q (o :: rest) a w :=
  wpList_next_ranges w hg it hop 3 intK (wasR S) (Value.int .i64) wasV (fun key kl hkey => by obtain ⟨x, rfl, _⟩ := Maps.keyOf_int_inv Try.underlying3 hkey; exact ⟨x, rfl⟩) (fun v y hv => by obtain ⟨k, c, _, rfl, _⟩ := wasR_inv hv; exact ⟨c, rfl⟩)
    b r n D left cnt hit h.rg (fun _ hl => hDone hl) (fun x c kl y w' cnt' hkey hlk hv hat hrg hlt hgr hsz hen => by
      obtain ⟨x', ex, rfl, hwx⟩ := Maps.keyOf_int_inv Try.underlying3 hkey
      cases ex
      obtain ⟨k, c', h1, h2, h3⟩ := wasR_inv hv
      rw [h2] at hen ⊢
      exact hMore x k c' w' cnt' hlk h1 (fun zd => by rw [hat zd, h3]) (h.mapRgSet hrg hgr) hlt hen)
/-- the loop's start -/
theorem was_range (S : T) (w : World) (hg : o.guard = none) (m : Operand) (hop : o.op = Op.range 46 m) (b n : Nat) (D : DataW Unit) {l : List HP}
    (hm : a.eval m = .map (some b)) (h : Own (MW S b n D :: l) w)
    (hK : ∀ (r : Nat) (w' : World), Own (MG S b r n D (Maps.has D) (Maps.size D) :: l) w' → wpList Try.prog ops Q rest (a.put o.dst (.pointer (some ⟨r, 0, none⟩))) w') : wpList Try.prog ops Q (o :: rest) a w :=
  mapR_range w hg m _ hop 3 _ intK Try.underlying46 (wasR S) b n D hm h hK
end
theorem wpList_guarded {P : Program} {ops : Array Oper} {rest : List Oper} {o : Oper} {a : Act} {Q : Exit → Act → World → Prop} {W : World} (hw : Region.wanted o (yielded ops a.tmps) = true) (h : wpList P ops Q ({ o with guard := none } :: rest) a W) : wpList P ops Q (o :: rest) a W := by
  unfold wpList at h ⊢
  rw [if_pos hw]
  rw [if_pos (by simp [Region.wanted])] at h
  cases o
  exact h
/-- a store -/
theorem was_put {S : T} {w : World} {b n N1 N2 k : Nat} {D : DataW Unit} {l : List HP} {r : RW} (h : Own (MW S b n D :: l) w) (ht : TI N1 N2 S) (hn : n < maxLen) (hr : rowAt S.rows k = some r) (hk : k < 4096) :
    ∃ w', (Instr.mapUpdate 46 (.map (some b)) (.int .i64 (k : Int)) (wasV r)).run Try.prog w = .ok () w' ∧ Own (MW S b (n + 1) (D.put (flk (k : Int)) (wd k)) :: l) w' := by
  obtain ⟨w', hrun, r1, r2⟩ := h.mapD.store intK Try.underlying46 hn (keyOf_int_mk Try.underlying3 (show (Lit.int .i64 (k : Int)).wf = true by simp [Lit.wf, IntKind.min, IntKind.max, IntKind.signed, IntKind.bits]; omega)) (wasR_mk ht hr)
  exact ⟨w', hrun, h.mapDSet r1 r2.grown⟩
end Go.Proofs.Ytkdmlpigkmlkmaa.Tb
