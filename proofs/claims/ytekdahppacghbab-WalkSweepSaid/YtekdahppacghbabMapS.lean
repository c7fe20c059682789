/- DERIVED. Merged by wip/merge.py from XMapD XMapE XMapL XKeyL. -/
import Derived.Test.YtekdahppacghbabOwn
import Derived.Maps.OwnOps
import Derived.Maps.OwnSet
import Derived.Maps.Views
import Derived.Carry
import Derived.Deep.RegionHeld3
import Derived.WideKeyEntry
import Derived.DeepKeys4
--  DERIVED. Maps, owned, with the datum itself (not what each key reads as): for len, delete, and 'is it there?'. No Go text. 
set_option linter.unusedVariables false
set_option linter.unusedSimpArgs false
namespace Go.Proofs.Ytekdahppacghbab
open Go.RowKit Go.Maps

/-- the map in block b, of datum D; at most n entries -/
def MapD (P : Program) (k : TypeId) (R : Value → Option (DataW Unit × List MemPlace)) (b n : Nat) (D : DataW Unit) : HP where
  holds w s := w.ownsMap P k R b n D ∧ ∀ c, s c ↔ c = b
  loc := fun {w w' s} h h1 h2 h3 h4 h5 => ⟨by
    obtain ⟨es, clock, hb, r⟩ := h.1
    exact ⟨es, clock, (h4 b ((h.2 b).2 rfl)).trans hb, r⟩, h.2⟩
  bnd := fun {w s c} h hc => by
    rw [(h.2 c).1 hc]
    exact h.1.lt
theorem Own.mapDNew {P : Program} (k : TypeId) (R : Value → Option (DataW Unit × List MemPlace)) {l : List HP} {w : World} (h : Own l w) : Own (MapD P k R w.heap.size 0 (.map []) :: l) (w.alloc (.map #[] 0)) :=
  h.new ((Ext.refl w).alloc _) (s := fun c => c = w.heap.size) ⟨World.ownsMap_made w P k _, fun _ => Iff.rfl⟩ (fun b hb => by rw [hb]; exact Nat.le_refl _)
theorem Own.mapD {P : Program} {k : TypeId} {R : Value → Option (DataW Unit × List MemPlace)} {b n : Nat} {D : DataW Unit} {l : List HP} {w : World} (h : Own (MapD P k R b n D :: l) w) : w.ownsMap P k R b n D := by
  obtain ⟨s, hP, _⟩ := h.open
  exact hP.1
theorem Own.mapDSet {P : Program} {k : TypeId} {R : Value → Option (DataW Unit × List MemPlace)} {b n n' : Nat} {D D' : DataW Unit} {l : List HP} {w w' : World} (h : Own (MapD P k R b n D :: l) w) (h' : w'.ownsMap P k R b n' D') (hg : w.grownBy w' (some b)) : Own (MapD P k R b n' D' :: l) w' := by
  obtain ⟨s, hP, hb, K⟩ := h.open
  exact K ((Step.refl s w).grown hg (fun c hc => by cases hc; exact .inl ((hP.2 b).2 rfl))) (s' := s) ⟨h', hP.2⟩ (fun c hc => .inl hc)
section
variable {P : Program} {ops : Array Oper} {rest : List Oper} {o : Oper} {a : Act} {Q : Exit → Act → World → Prop}
theorem mapD_look (w : World) (hg : o.guard = none) (m x : Operand) (t : TypeId) (hop : o.op = Op.lookup t m x false) (k e : TypeId) (K : Keyed P k) (ht : P.underlying t = some (.map k e)) (he : P.underlying e = some (.int .i64))
    (hz : (zeroValue e).run P w = .ok (.int .i64 0) w) (b n : Nat) (D : DataW Unit) {l : List HP} (hm : a.eval m = .map (some b)) (h : Own (MapD P k (plainElem P e) b n D :: l) w) (kv : Value) (y : Lit) (hx : a.eval x = kv) (hy : keyOf P k kv = some y) (v : Int) (hv : D.atKey y (.lit (.int .i64 0)) = .lit (.int .i64 v))
    (hK : wpList P ops Q rest (a.put o.dst (.int .i64 v)) w) : wpList P ops Q (o :: rest) a w := by
  refine wpList_lookup_own_int w hg m x t hop k e .i64 K ht he hz b n D hm h.mapD _ _ hx hy ?_
  intro c hc _
  rw [hv] at hc
  injection hc with hc
  injection hc with _ hc
  rw [← hc]
  exact hK
theorem mapD_put (w : World) (hg : o.guard = none) (m x v : Operand) (t : TypeId) (hop : o.op = Op.mapUpdate t m x v) (k e : TypeId) (K : Keyed P k) (ht : P.underlying t = some (.map k e)) (R : Value → Option (DataW Unit × List MemPlace))
    (b n : Nat) (D : DataW Unit) {l : List HP} (hm : a.eval m = .map (some b)) (h : Own (MapD P k R b n D :: l) w) (hn : n < maxLen) (kv : Value) (y : Lit) (hx : a.eval x = kv) (hy : keyOf P k kv = some y) (u : Value) (hv : a.eval v = u) (d : DataW Unit) (ps : List MemPlace) (hu : R u = some (d, ps))
    (hK : ∀ w', Own (MapD P k R b (n + 1) (D.put y d) :: l) w' → wpList P ops Q rest (a.put o.dst undef) w') : wpList P ops Q (o :: rest) a w := by
  refine wpList_mapUpdate_in w hg m x v t hop k e K ht R b n D hm h.mapD hn _ _ _ hx hv hy d ps hu ?_
  intro w' h1 hg1
  exact hK w' (h.mapDSet h1 hg1.grown)
theorem mapD_len (w : World) (hg : o.guard = none) (m : Operand) (t : TypeId) (hop : o.op = Op.call { callee := Callee.builtin Builtin.len, args := #[m], argTypes := #[t] }) (k e : TypeId) (ht : P.underlying t = some (.map k e)) (R : Value → Option (DataW Unit × List MemPlace))
    (b n : Nat) (D : DataW Unit) {l : List HP} (hm : a.eval m = .map (some b)) (h : Own (MapD P k R b n D :: l) w)
    (hK : wpList P ops Q rest (a.put o.dst (.int .i64 (Maps.size D))) w) : wpList P ops Q (o :: rest) a w :=
  wpList_len_own w hg m t hop k e ht R b n D hm h.mapD hK
theorem mapD_del (w : World) (hg : o.guard = none) (m x : Operand) (t k : TypeId) (hop : o.op = Op.call { callee := Callee.builtin Builtin.delete, args := #[m, x], argTypes := #[t, k] }) (e : TypeId) (K : Keyed P k) (ht : P.underlying t = some (.map k e)) (R : Value → Option (DataW Unit × List MemPlace))
    (b n : Nat) (D : DataW Unit) {l : List HP} (hm : a.eval m = .map (some b)) (h : Own (MapD P k R b n D :: l) w) (kv : Value) (y : Lit) (hx : a.eval x = kv) (hy : keyOf P k kv = some y)
    (hK : ∀ w', Own (MapD P k R b n (D.del y) :: l) w' → wpList P ops Q rest (a.put o.dst (.tuple #[])) w') : wpList P ops Q (o :: rest) a w := by
  refine wpList_delete_own w hg m x t k hop e K ht R b n D hm h.mapD _ _ hx hy ?_
  intro w' h1 hg1
  exact hK w' (h.mapDSet h1 hg1.grown)
/-- look-up with 'is it there?' -/
theorem mapD_look2 (w : World) (hg : o.guard = none) (m x : Operand) (t : TypeId) (hop : o.op = Op.lookup t m x true) (k e : TypeId) (K : Keyed P k) (ht : P.underlying t = some (.map k e)) (R : Value → Option (DataW Unit × List MemPlace)) {z : Value} (hz : (zeroValue e).run P w = .ok z w) (zd : DataW Unit) (hzd : R z = some (zd, []))
    (b n : Nat) (D : DataW Unit) {l : List HP} (hm : a.eval m = .map (some b)) (h : Own (MapD P k R b n D :: l) w) (kv : Value) (y : Lit) (hx : a.eval x = kv) (hy : keyOf P k kv = some y) (v : Value) (hv : ∀ u ps, R u = some (D.atKey y zd, ps) → u = v) (B : Bool) (hB : Maps.has D y = B)
    (hK : wpList P ops Q rest (a.put o.dst (.tuple #[v, .bool B])) w) : wpList P ops Q (o :: rest) a w := by
  refine wpList_lookup_own_ok w hg m x t hop k e K ht R hz zd [] hzd b n D hm h.mapD _ _ hx hy ?_
  intro u ps hu
  rw [hv u ps hu, hB]
  exact hK
/-- in a region that draws its order: a store -/
theorem held_put {K' : Act → World → Prop} (w : World) (hw : Region.wanted o (yielded ops a.tmps) = true) (m x v : Operand) (t : TypeId) (hop : o.op = Op.mapUpdate t m x v) (k e : TypeId) (K : Keyed P k) (ht : P.underlying t = some (.map k e)) (R : Value → Option (DataW Unit × List MemPlace))
    (b n : Nat) (D : DataW Unit) {l : List HP} (hm : a.eval m = .map (some b)) (h : Own (MapD P k R b n D :: l) w) (hn : n < maxLen) (kv : Value) (y : Lit) (hx : a.eval x = kv) (hy : keyOf P k kv = some y) (u : Value) (hv : a.eval v = u) (d : DataW Unit) (ps : List MemPlace) (hu : R u = some (d, ps))
    (hK : ∀ w', Own (MapD P k R b (n + 1) (D.put y d) :: l) w' → K' (a.put o.dst undef) w') : if Region.wanted o (yielded ops a.tmps) = true then Oper.wp P o a w K' Q else K' (a.put o.dst undef) w := by
  rw [if_pos hw]
  obtain ⟨w', hrun, r1, r2⟩ := h.mapD.store K ht hn hy hu
  unfold Oper.wp
  simp [execOp, hop, hm, hx, hv, hrun, Result.andThen]
  exact hK w' (h.mapDSet r1 r2.grown)
/-- .. a delete -/
theorem held_del {K' : Act → World → Prop} (w : World) (hw : Region.wanted o (yielded ops a.tmps) = true) (m x : Operand) (t k : TypeId) (hop : o.op = Op.call { callee := Callee.builtin Builtin.delete, args := #[m, x], argTypes := #[t, k] }) (e : TypeId) (K : Keyed P k) (ht : P.underlying t = some (.map k e)) (R : Value → Option (DataW Unit × List MemPlace))
    (b n : Nat) (D : DataW Unit) {l : List HP} (hm : a.eval m = .map (some b)) (h : Own (MapD P k R b n D :: l) w) (kv : Value) (y : Lit) (hx : a.eval x = kv) (hy : keyOf P k kv = some y)
    (hK : ∀ w', Own (MapD P k R b n (D.del y) :: l) w' → K' (a.put o.dst (.tuple #[])) w') : if Region.wanted o (yielded ops a.tmps) = true then Oper.wp P o a w K' Q else K' (a.put o.dst undef) w := by
  rw [if_pos hw]
  obtain ⟨w', hrun, r1, r2⟩ := h.mapD.drop K ht hy o.type
  unfold Oper.wp
  simp [execOp, hop, resolve, invoke, builtin, hm, hx, hrun, Result.andThen]
  exact hK w' (h.mapDSet r1 r2.grown)
/-- .. a look-up -/
theorem yields_look {S : World → Prop} (hw : Region.wanted o (yielded ops a.tmps) = true) (m x : Operand) (t : TypeId) (hop : o.op = Op.lookup t m x false) (k e : TypeId) (K : Keyed P k) (ht : P.underlying t = some (.map k e)) (R : Value → Option (DataW Unit × List MemPlace)) {z : Value} (hz : ∀ w, (zeroValue e).run P w = .ok z w) (zd : DataW Unit) (hzd : R z = some (zd, []))
    (b n : Nat) (D : DataW Unit) (hm : a.eval m = .map (some b)) (h : ∀ w, S w → ∃ l, Own (MapD P k R b n D :: l) w) (kv : Value) (y : Lit) (hx : a.eval x = kv) (hy : keyOf P k kv = some y) (v : Value) (hv : ∀ u ps, R u = some (D.atKey y zd, ps) → u = v) : YieldsIf P ops S o v a := by
  refine Or.inl ⟨hw, fun w hS => ?_⟩
  obtain ⟨l, hl⟩ := h w hS
  obtain ⟨es, clock, hb, F, _, rfl⟩ := hl.mapD
  rcases Maps.fit_look false K ht (hz w) hb F hy with ⟨hrun, _, hat⟩ | ⟨e0, y0, _, _, hrun, hRv, hat, _⟩
  · have := hv z [] (by rw [hat zd]; exact hzd)
    subst this
    simp [execOp, hop, hm, hx, hrun, Result.andThen]
  · have := hv e0.val y0.2 (by rw [hat zd]; exact hRv)
    subst this
    simp [execOp, hop, hm, hx, hrun, Result.andThen]
end
end Go.Proofs.Ytekdahppacghbab
--  DERIVED. `m[k]++` on a map that is owned, in a region that draws its order: entry, look-up and store. No Go text. 
set_option linter.unusedVariables false
set_option linter.unusedSimpArgs false
namespace Go.Proofs.Ytekdahppacghbab
open Go.RowKit Go.Maps Go.WideMaps Go.ChangeMaps Go.WideShapes

/-- the map in block b, as it lies there -/
def MB (b : Nat) (es : Array MapEntry) (clock : Nat) : HP where
  holds w s := w.heap[b]? = some (.map es clock) ∧ ∀ c, s c ↔ c = b
  loc := fun {w w' s} h h1 h2 h3 h4 h5 => ⟨(h4 b ((h.2 b).2 rfl)).trans h.1, h.2⟩
  bnd := fun {w s c} h hc => by
    rw [(h.2 c).1 hc]
    exact (Array.getElem?_eq_some_iff.1 h.1).1
theorem Own.mapB {P : Program} {k : TypeId} {R : Value → Option (DataW Unit × List MemPlace)} {b n clock : Nat} {es : Array MapEntry} {D : DataW Unit} {l : List HP} {w w' : World} (h : Own (MapD P k R b n D :: l) w) (ht : w.mapTurned w' b) (hb : w'.heap[b]? = some (.map es clock)) : Own (MB b es clock :: l) w' := by
  obtain ⟨s, hP, _, K⟩ := h.open
  exact K ((Step.refl s w).grown ht.grown (fun c hc => by cases hc; exact .inl ((hP.2 b).2 rfl))) (P' := MB b es clock) (s' := s) ⟨hb, hP.2⟩ (fun c hc => .inl hc)
theorem Own.mb {b clock : Nat} {es : Array MapEntry} {l : List HP} {w : World} (h : Own (MB b es clock :: l) w) : w.heap[b]? = some (.map es clock) := by
  obtain ⟨s, hP, _⟩ := h.open
  exact hP.1
theorem Own.mapBack {P : Program} {k : TypeId} {R : Value → Option (DataW Unit × List MemPlace)} {b n clock : Nat} {es : Array MapEntry} {D : DataW Unit} {l : List HP} {w w' : World} (h : Own (MB b es clock :: l) w) (ht : w.mapTurned w' b) (ho : w'.ownsMap P k R b n D) : Own (MapD P k R b n D :: l) w' := by
  obtain ⟨s, hP, _, K⟩ := h.open
  exact K ((Step.refl s w).grown ht.grown (fun c hc => by cases hc; exact .inl ((hP.2 b).2 rfl))) (P' := MapD P k R b n D) (s' := s) ⟨ho, hP.2⟩ (fun c hc => .inl hc)
theorem setBlock_inj {w : World} {b clock c1 c2 : Nat} {es e1 e2 : Array MapEntry} (hb : w.heap[b]? = some (.map es clock)) (h : setBlock w b (.map e1 c1) = setBlock w b (.map e2 c2)) : e1 = e2 ∧ c1 = c2 := by
  have h1 := heap_setBlock_same hb (.map e1 c1)
  rw [h, heap_setBlock_same hb (.map e2 c2)] at h1
  injection h1 with h1
  injection h1 with h1 h2
  exact ⟨h1.symm, h2.symm⟩
theorem modify_key {es : Array MapEntry} {j : Nat} {e0 : MapEntry} {kv : Value} (h : es.toList[j]? = some e0) (hk : e0.key = kv) : es.modify j (fun e => { e with key := kv }) = es := by
  have hj : es[j]? = some e0 := by simpa using h
  refine Array.ext (by simp) (fun i h1 h2 => ?_)
  rw [Array.getElem_modify]
  split
  · rename_i e
    subst e
    obtain ⟨hlt, he⟩ := Array.getElem?_eq_some_iff.1 hj
    rw [he, ← hk]
  · rfl
section
variable {P : Program} {k e t : TypeId} {R : Value → Option (DataW Unit × List MemPlace)} {b n : Nat} {D : DataW Unit} {l : List HP} {w : World}
/-- the entry of a key, what a look-up gives behind it, and the store -/
theorem entry_all (KL : KeyLaw P k) (ht : P.underlying t = some (.map k e)) {z : Value} (hz : ∀ u : World, (zeroValue e).run P u = .ok z u) (zd : DataW Unit) (hzd : R z = some (zd, [])) (h : Own (MapD P k R b n D :: l) w) (hn : n < maxLen)
    {kv : Value} {y : Lit} (hkey : keyOf P k kv = some y) (v : Value) (hv : ∀ u ps, R u = some (D.atKey y zd, ps) → u = v) :
    ∃ (st : Nat) (es1 : Array MapEntry) (clock1 : Nat) (w' : World), (Instr.mapEntry t (.map (some b)) kv).run P w = .ok (.tuple #[v, goInt st]) w' ∧ Own (MB b es1 clock1 :: l) w' ∧
      (∀ w2 : World, w2.heap[b]? = some (.map es1 clock1) → (Instr.lookup t (.map (some b)) kv false).run P w2 = .ok v w2) ∧
      (∀ (w2 : World) (l2 : List HP) (u : Value) (d : DataW Unit), Own (MB b es1 clock1 :: l2) w2 → R u = some (d, []) → ∃ w3, (Instr.entryStore t (.map (some b)) (goInt st) u).run P w2 = .ok () w3 ∧ Own (MapD P k R b (n + 1) (D.put y d) :: l2) w3) := by
  have hown := h.mapD
  have hown0 := hown
  obtain ⟨es, clock, hb, F, hs, hD⟩ := hown
  have K : Keyed P k := Keyed.of_law KL
  obtain ⟨v0, st, es1, clock1, hrun, _, hst⟩ := WideElems.entry_then_store KL ht hz hb F hkey
  have hstore : ∀ (w2 : World) (l2 : List HP) (u : Value) (d : DataW Unit), Own (MB b es1 clock1 :: l2) w2 → R u = some (d, []) → ∃ w3, (Instr.entryStore t (.map (some b)) (goInt st) u).run P w2 = .ok () w3 ∧ Own (MapD P k R b (n + 1) (D.put y d) :: l2) w3 := fun w2 l2 u d h2 hu => by
    obtain ⟨es', clock', hs1, hs2⟩ := hst w2 u h2.mb
    obtain ⟨w4, hm1, hm2, _⟩ := hown0.store K ht hn hkey hu
    rw [hs2] at hm1
    injection hm1 with _ hm1
    rw [← hm1] at hm2
    obtain ⟨es3, c3, hb3, F3, hs3, hD3⟩ := hm2
    rw [heap_setBlock_same hb] at hb3
    injection hb3 with hb3
    injection hb3 with e3 e4
    subst e3 e4
    exact ⟨_, hs1, h2.mapBack ⟨_, _, _, _, h2.mb, rfl⟩ ⟨es', clock', heap_setBlock_same h2.mb _, F3, hs3, hD3⟩⟩
  rw [hD] at hv
  rcases Maps.fit_look false K ht (hz w) hb F hkey with ⟨_, hno, hat⟩ | ⟨e0, y0, hm0, hk0, _, hRv, hat, _⟩
  · have hzv : z = v := hv z [] (by rw [hat zd]; exact hzd)
    rcases KL.find w hkey es.toList F.keys with ⟨h1, h2⟩ | ⟨j, e0, h1, h2, h3⟩
    · have hrun2 : (Instr.mapEntry t (.map (some b)) kv).run P w = .ok (.tuple #[z, goInt clock]) (setBlock w b (.map (es.push ⟨kv, z, clock⟩) (clock + 1))) := by
        simp [Instr.mapEntry, run_underlying ht, MapKept.run_getObj_map hb, KL.check w false hkey, h1, hz, MapKept.run_setObj_map _ hb, Result.andThen, setBlock]
      have he := hrun.symm.trans hrun2
      injection he with he1 he2
      obtain ⟨rfl, rfl⟩ := setBlock_inj hb he2
      rw [he1] at hrun
      have hst2 : goInt st = goInt clock := by
        injection he1 with he1
        injection he1 with he1
        injection he1 with _ he1
        injection he1 with he1 _
      refine ⟨st, _, _, _, by rw [hrun, hst2, ← hzv], h.mapB ⟨_, _, _, _, hb, rfl⟩ (heap_setBlock_same hb _), fun w2 hb2 => ?_, hstore⟩
      rcases KL.find w2 hkey (es.push ⟨kv, z, clock⟩).toList (fun x hx => by
        rw [Array.toList_push, List.mem_append] at hx
        rcases hx with hx | hx
        · exact F.keys x hx
        · rw [List.mem_singleton.1 hx]; exact ⟨y, hkey⟩) with ⟨_, g2⟩ | ⟨j, e1, g1, g2, g3⟩
      · exact absurd rfl (g2 ⟨kv, z, clock⟩ (by simp))
      · have hv1 : e1.val = z := by
          have hm := List.mem_of_getElem? g2
          rw [Array.toList_push, List.mem_append] at hm
          rcases hm with hm | hm
          · exact absurd g3 (hno e1 hm)
          · rw [List.mem_singleton.1 hm]
        rw [hv1] at g1
        rw [← hzv]
        simp only [Array.toList_push] at g1
        simp [Instr.lookup, run_underlying ht, MapKept.run_getObj_map hb2, KL.check w2 _ hkey, g1, Result.andThen]
    · exact absurd h3 (hno e0 (List.mem_of_getElem? h2))
  · have hvv : e0.val = v := hv e0.val y0.2 (by rw [hat zd]; exact hRv)
    rcases KL.find w hkey es.toList F.keys with ⟨h1, h2⟩ | ⟨j, e2, h1, h2, h3⟩
    · exact absurd hk0 (h2 e0 hm0)
    · have hj : es[j]? = some e2 := by simpa using h2
      have hrun2 : (Instr.mapEntry t (.map (some b)) kv).run P w = .ok (.tuple #[e2.val, goInt e2.born]) (setBlock w b (.map es clock)) := by
        have hsame := modify_key h2 h3
        simp [Instr.mapEntry, run_underlying ht, MapKept.run_getObj_map hb, KL.check w false hkey, h1, hj, h3, KL.stays w hkey, hsame, MapKept.run_setObj_map _ hb, Result.andThen, setBlock]
      have he := hrun.symm.trans hrun2
      injection he with he1 he2
      obtain ⟨rfl, rfl⟩ := setBlock_inj hb he2
      have hlk : ∀ w2 : World, w2.heap[b]? = some (.map es1 clock1) → (Instr.lookup t (.map (some b)) kv false).run P w2 = .ok v w2 := fun w2 hb2 => by
        rcases Maps.fit_look false K ht (hz w2) hb2 F hkey with ⟨hr, _, hat2⟩ | ⟨e4, y4, _, _, hr, hR4, hat4, _⟩
        · rw [hr, if_neg (by simp), hv z [] (by rw [hat2 zd]; exact hzd)]
        · rw [hr, if_neg (by simp), hv e4.val y4.2 (by rw [hat4 zd]; exact hR4)]
      have hv2 : v0 = v := by
        have hl := hlk w hb
        have hl2 : (Instr.lookup t (.map (some b)) kv false).run P w = .ok e2.val w := by
          simp [Instr.lookup, run_underlying ht, MapKept.run_getObj_map hb, KL.check w _ hkey, h1, Result.andThen]
        rw [hl] at hl2
        injection hl2 with hl2 _
        injection he1 with he1
        injection he1 with he1
        injection he1 with he1 _
        rw [he1, ← hl2]
      exact ⟨st, _, _, _, by rw [hrun, hv2], h.mapB ⟨_, _, _, _, hb, rfl⟩ (heap_setBlock_same hb _), hlk, hstore⟩
/-- a look-up -/
theorem look_run (K : Keyed P k) (ht : P.underlying t = some (.map k e)) {z : Value} (hz : ∀ u : World, (zeroValue e).run P u = .ok z u) (zd : DataW Unit) (hzd : R z = some (zd, [])) (h : Own (MapD P k R b n D :: l) w)
    {kv : Value} {y : Lit} (hkey : keyOf P k kv = some y) (v : Value) (hv : ∀ u ps, R u = some (D.atKey y zd, ps) → u = v) : (Instr.lookup t (.map (some b)) kv false).run P w = .ok v w := by
  obtain ⟨es, clock, hb, F, _, rfl⟩ := h.mapD
  rcases Maps.fit_look false K ht (hz w) hb F hkey with ⟨hr, _, hat⟩ | ⟨e0, y0, _, _, hr, hRv, hat, _⟩
  · rw [hr, if_neg (by simp), hv z [] (by rw [hat zd]; exact hzd)]
  · rw [hr, if_neg (by simp), hv e0.val y0.2 (by rw [hat zd]; exact hRv)]
end
section
variable {P : Program} {ops : Array Oper} {o : Oper} {a : Act} {Q : Exit → Act → World → Prop} {K' : Act → World → Prop} {E : Prop}
theorem held_lookM (w : World) (hw : Region.wanted o (yielded ops a.tmps) = true) (m x : Operand) (t : TypeId) (hop : o.op = Op.lookup t m x false) (b : Nat) (kv v : Value) (hm : a.eval m = .map (some b)) (hx : a.eval x = kv)
    (hrun : (Instr.lookup t (.map (some b)) kv false).run P w = .ok v w) (hK : K' (a.put o.dst v) w) : if Region.wanted o (yielded ops a.tmps) = true then Oper.wp P o a w K' Q else E := by
  rw [if_pos hw]
  unfold Oper.wp
  simp [execOp, hop, hm, hx, hrun, Result.andThen]
  exact hK
theorem held_entryM (w w' : World) (hw : Region.wanted o (yielded ops a.tmps) = true) (m x : Operand) (t : TypeId) (hop : o.op = Op.mapEntry t m x) (b : Nat) (kv v : Value) (hm : a.eval m = .map (some b)) (hx : a.eval x = kv)
    (hrun : (Instr.mapEntry t (.map (some b)) kv).run P w = .ok v w') (hK : K' (a.put o.dst v) w') : if Region.wanted o (yielded ops a.tmps) = true then Oper.wp P o a w K' Q else E := by
  rw [if_pos hw]
  unfold Oper.wp
  simp [execOp, hop, hm, hx, hrun, Result.andThen]
  exact hK
theorem held_estoreM (w w' : World) (hw : Region.wanted o (yielded ops a.tmps) = true) (m s x : Operand) (t : TypeId) (hop : o.op = Op.entryStore t m s x) (b : Nat) (stv u : Value) (hm : a.eval m = .map (some b)) (hs : a.eval s = stv) (hx : a.eval x = u)
    (hrun : (Instr.entryStore t (.map (some b)) stv u).run P w = .ok () w') (hK : K' (a.put o.dst undef) w') : if Region.wanted o (yielded ops a.tmps) = true then Oper.wp P o a w K' Q else E := by
  rw [if_pos hw]
  unfold Oper.wp
  simp [execOp, hop, hm, hs, hx, hrun, Result.andThen]
  exact hK
end
end Go.Proofs.Ytekdahppacghbab
--  DERIVED. Maps to ints, owned, whatever their keys: what they hold, as a function of what a key reads as; look-up and store. No Go text. 
set_option linter.unusedVariables false
set_option linter.unusedSimpArgs false
namespace Go.Proofs.Ytekdahppacghbab
open Go.RowKit Go.Maps

/-- F, but v at x -/
noncomputable def upd (F : Lit → Int) (x : Lit) (v : Int) : Lit → Int := fun y => @ite _ (y = x) (Classical.propDecidable _) v (F y)
theorem upd_same (F : Lit → Int) (x : Lit) (v : Int) : upd F x v x = v := by simp [upd]
theorem upd_other (F : Lit → Int) {x y : Lit} (v : Int) (h : y ≠ x) : upd F x v y = F y := by simp [upd, h]
/-- the map in block b: from numbers of kind q to ints, at most n of them; F: what each key reads as -/
def MapL (P : Program) (k e : TypeId) (b n : Nat) (F : Lit → Int) : HP where
  holds w s := (∃ D : DataW Unit, w.ownsMap P k (plainElem P e) b n D ∧ ∀ x, D.atKey x (.lit (.int .i64 0)) = .lit (.int .i64 (F x))) ∧ ∀ c, s c ↔ c = b
  loc := fun {w w' s} h h1 h2 h3 h4 h5 => ⟨by
    obtain ⟨D, ⟨es, clock, hb, r⟩, hF⟩ := h.1
    exact ⟨D, ⟨es, clock, (h4 b ((h.2 b).2 rfl)).trans hb, r⟩, hF⟩, h.2⟩
  bnd := fun {w s c} h hc => by
    obtain ⟨D, hD, _⟩ := h.1
    rw [(h.2 c).1 hc]
    exact hD.lt
theorem Own.mapLNew {P : Program} (k e : TypeId) {l : List HP} {w : World} (h : Own l w) : Own (MapL P k e w.heap.size 0 (fun _ => 0) :: l) (w.alloc (.map #[] 0)) :=
  h.new ((Ext.refl w).alloc _) (s := fun c => c = w.heap.size) ⟨⟨.map [], World.ownsMap_made w P k _, fun x => rfl⟩, fun _ => Iff.rfl⟩ (fun b hb => by rw [hb]; exact Nat.le_refl _)
theorem Own.mapLAt {P : Program} {k e : TypeId} {b n : Nat} {F : Lit → Int} {l : List HP} {w : World} (h : Own (MapL P k e b n F :: l) w) :
    ∃ D : DataW Unit, w.ownsMap P k (plainElem P e) b n D ∧ ∀ x, D.atKey x (.lit (.int .i64 0)) = .lit (.int .i64 (F x)) := by
  obtain ⟨s, hP, _⟩ := h.open
  exact hP.1
/-- behind a store of v at x -/
theorem Own.mapLPut {P : Program} {k e : TypeId} {b n : Nat} {F : Lit → Int} {l : List HP} {w w' : World} (h : Own (MapL P k e b n F :: l) w) {D : DataW Unit} (hD : w.ownsMap P k (plainElem P e) b n D) (hF : ∀ x, D.atKey x (.lit (.int .i64 0)) = .lit (.int .i64 (F x)))
    (x : Lit) (hx : WideAt.IsKeyLit x) (v : Int) (h' : w'.ownsMap P k (plainElem P e) b (n + 1) (D.put x (.lit (.int .i64 v)))) (hg : w.grownBy w' (some b)) : Own (MapL P k e b (n + 1) (upd F x v) :: l) w' := by
  obtain ⟨s, hP, hb, K⟩ := h.open
  have hmap : IsMap D := by
    obtain ⟨es, clock, _, _, _, hd⟩ := hD
    exact ⟨_, hd⟩
  refine K ((Step.refl s w).grown hg (fun c hc => by cases hc; exact .inl ((hP.2 b).2 rfl))) (s' := s) ⟨⟨_, h', fun y => ?_⟩, hP.2⟩ (fun c hc => .inl hc)
  by_cases e : y = x
  · subst e
    rw [upd_same]
    exact atKey_put_same hmap hx _ _
  · rw [upd_other _ _ e]
    rw [atKey_put_other e]
    exact hF y
section
variable {P : Program} {ops : Array Oper} {rest : List Oper} {o : Oper} {a : Act} {Q : Exit → Act → World → Prop}
theorem mapL_look (w : World) (hg : o.guard = none) (m x : Operand) (t : TypeId) (hop : o.op = Op.lookup t m x false) (k e : TypeId) (K : Keyed P k) (ht : P.underlying t = some (.map k e)) (he : P.underlying e = some (.int .i64))
    (hz : (zeroValue e).run P w = .ok (.int .i64 0) w) (b n : Nat) (F : Lit → Int) {l : List HP} (hm : a.eval m = .map (some b)) (h : Own (MapL P k e b n F :: l) w) (kv : Value) (y : Lit) (hx : a.eval x = kv) (hy : keyOf P k kv = some y)
    (hK : wpList P ops Q rest (a.put o.dst (.int .i64 (F y))) w) : wpList P ops Q (o :: rest) a w := by
  obtain ⟨D, hD, hF⟩ := h.mapLAt
  refine wpList_lookup_own_int w hg m x t hop k e .i64 K ht he hz b n D hm hD _ _ hx hy ?_
  intro c hc _
  rw [hF y] at hc
  injection hc with hc
  injection hc with _ hc
  rw [← hc]
  exact hK
theorem mapL_put (w : World) (hg : o.guard = none) (m x v : Operand) (t : TypeId) (hop : o.op = Op.mapUpdate t m x v) (k e : TypeId) (K : Keyed P k) (ht : P.underlying t = some (.map k e)) (he : P.underlying e = some (.int .i64))
    (b n : Nat) (F : Lit → Int) {l : List HP} (hm : a.eval m = .map (some b)) (h : Own (MapL P k e b n F :: l) w) (hn : n < maxLen) (kv : Value) (y : Lit) (hx : a.eval x = kv) (hy : keyOf P k kv = some y) (u : Int) (hv : a.eval v = .int .i64 u) (hu : (Lit.int .i64 u).wf = true)
    (hK : ∀ w', Own (MapL P k e b (n + 1) (upd F y u) :: l) w' → wpList P ops Q rest (a.put o.dst undef) w') : wpList P ops Q (o :: rest) a w := by
  obtain ⟨D, hD, hF⟩ := h.mapLAt
  refine wpList_mapUpdate_own w hg m x v t hop k e K ht (plainElem P e) b n D hm hD hn _ _ _ hx hv hy _ [] (plainElem_int he hu) ?_
  intro w' h1 hg1
  exact hK w' (h.mapLPut hD hF y (K.key hy) u h1 hg1)
end
end Go.Proofs.Ytekdahppacghbab
--  DERIVED. api.Key as a map's key: what it reads as. 
set_option linter.unusedVariables false
set_option linter.unusedSimpArgs false
namespace Go.Proofs.Ytekdahppacghbab
open Go.RowKit Go.Maps Go.WideMaps
theorem key_laidOut : laidOutB Try.prog = true := by kernel_rfl
theorem key_row : (24 : TypeId) < Try.prog.types.size := of_decide_eq_true (by kernel_rfl)
theorem key_wide : (match Try.prog.underlying 24 with | some (.array _ _) | some (.struct _) => true | _ => false) = true := by rw [Try.underlying24]
theorem key_keyed : Keyed Try.prog 24 := Keyed.of_law (deep_law_laid key_laidOut (m := 2) (by omega) key_row (by kernel_rfl) key_wide)
/-- what a key reads as -/
def KL (a s : Int) : Lit := .string (keyBytes [.int .u64 a, .int .u64 s])
theorem keyOf_key (a s : Int) (ha : (Lit.int .u64 a).wf = true) (hs : (Lit.int .u64 s).wf = true) : keyOf Try.prog 24 (.agg #[.int .u64 a, .int .u64 s]) = some (KL a s) := by
  have h1 : Try.prog.keyType 24 = true := by kernel_rfl
  have h2 : (Value.agg #[.int .u64 a, .int .u64 s]).formed Try.prog 24 = true := by
    have hc : Try.prog.cellsOf 24 = 2 := by kernel_rfl
    simp [Value.formed, Try.underlying24, hc]
  have h3 : Try.prog.keyLits (Try.prog.types.size + 1) 24 [.int .u64 a, .int .u64 s] = some [.int .u64 a, .int .u64 s] := by
    have hc : Try.prog.cellsOf 24 = 2 := by kernel_rfl
    have hu : Try.prog.cellsOf 22 = 1 := by kernel_rfl
    obtain ⟨n, hn⟩ := Nat.exists_eq_succ_of_ne_zero (Nat.ne_of_gt (Nat.lt_of_le_of_lt (Nat.zero_le _) key_row))
    rw [hn]
    simp [Program.keyLits, Try.underlying24, Try.underlying22, hc, hu, ha, hs]
  unfold keyOf
  rw [Try.underlying24]
  simp only [h1, h2, Bool.and_self, if_true, Value.cells]
  rw [h3]
  rfl
theorem KL_inj {a s b t : Int} (ha : (Lit.int .u64 a).wf = true) (hs : (Lit.int .u64 s).wf = true) (hb : (Lit.int .u64 b).wf = true) (ht : (Lit.int .u64 t).wf = true) (h : KL a s = KL b t) : (a, s) = (b, t) := by
  have := key_keyed.inj (keyOf_key a s ha hs) (h ▸ keyOf_key b t hb ht)
  injection this with this
  injection this with this
  injection this with h1 h2
  injection h2 with h2 _
  injection h1 with _ h1
  injection h2 with _ h2
  rw [h1, h2]
end Go.Proofs.Ytekdahppacghbab
