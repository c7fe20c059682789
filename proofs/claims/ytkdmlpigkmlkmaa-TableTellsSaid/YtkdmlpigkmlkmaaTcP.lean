/- DERIVED. Layer 14 (table): the document's tables, plainly: rows by rising numbers; what each call makes of them, beside the table's own. -/
import Derived.Test.YtkdmlpigkmlkmaaTbZ
set_option linter.unusedVariables false
set_option linter.unusedSimpArgs false
namespace Go.Proofs.Ytkdmlpigkmlkmaa.Tb
open Go.RowKit Go.Proofs.Ytkdmlpigkmlkmaa Go.Proofs.Ytkdmlpigkmlkmaa.TreeP Go.Proofs.Ytkdmlpigkmlkmaa.Tr Go.Proofs.Ytkdmlpigkmlkmaa.Bk

/-- a row of the document's -/
structure DR where
  k : Nat
  f : FD
  q : Bool
def dc (d : DR) : List Value := [.int .i64 (d.k : Int), .int .u64 d.f.s, .int .u64 d.f.c, .int .u64 d.f.ra, .int .i64 d.f.cr, .int .u64 d.f.nx, .int .u64 d.f.db, .int .u64 d.f.ag, .bool d.q]
theorem dc_len (d : DR) : (dc d).length = 9 := rfl
def docL : Nat → Rows → List DR
  | _, [] => []
  | j, none :: l => docL (j + 1) l
  | j, some r :: l => ⟨j, r.f, r.q⟩ :: docL (j + 1) l
theorem rowAt_zero (x : Option RW) (L : Rows) : rowAt (x :: L) 0 = x := rfl
theorem rowAt_succ (x : Option RW) (L : Rows) (i : Nat) : rowAt (x :: L) (i + 1) = rowAt L i := by simp [rowAt]
theorem rowAt_nil (i : Nat) : rowAt [] i = none := by simp [rowAt]
theorem doc_mem : ∀ {L : Rows} {j : Nat} {d : DR}, d ∈ docL j L ↔ ∃ i r, rowAt L i = some r ∧ d = ⟨j + i, r.f, r.q⟩
  | [], j, d => by
    constructor
    · intro h; cases h
    · rintro ⟨i, r, h, _⟩
      rw [rowAt_nil] at h
      cases h
  | none :: L, j, d => by
    rw [docL, doc_mem]
    constructor
    · rintro ⟨i, r, h, e⟩
      exact ⟨i + 1, r, by rw [rowAt_succ]; exact h, by rw [e]; congr 1; omega⟩
    · rintro ⟨i, r, h, e⟩
      cases i with
      | zero => rw [rowAt_zero] at h; cases h
      | succ i => exact ⟨i, r, by rw [rowAt_succ] at h; exact h, by rw [e]; congr 1; omega⟩
  | some x :: L, j, d => by
    rw [docL, List.mem_cons, doc_mem]
    constructor
    · rintro (e | ⟨i, r, h, e⟩)
      · exact ⟨0, x, rfl, e⟩
      · exact ⟨i + 1, r, by rw [rowAt_succ]; exact h, by rw [e]; congr 1; omega⟩
    · rintro ⟨i, r, h, e⟩
      cases i with
      | zero => rw [rowAt_zero] at h; injection h with h; subst h; exact .inl e
      | succ i => exact .inr ⟨i, r, by rw [rowAt_succ] at h; exact h, by rw [e]; congr 1; omega⟩
theorem doc_ge {L : Rows} {j : Nat} {d : DR} (h : d ∈ docL j L) : j ≤ d.k := by
  obtain ⟨i, r, -, e⟩ := doc_mem.1 h
  rw [e]
  exact Nat.le_add_right j i
theorem doc_rise : ∀ (L : Rows) (j : Nat), (docL j L).Pairwise fun a b => a.k < b.k
  | [], j => .nil
  | none :: L, j => by rw [docL]; exact doc_rise L (j + 1)
  | some x :: L, j => by
    rw [docL, List.pairwise_cons]
    exact ⟨fun d hd => doc_ge hd, doc_rise L (j + 1)⟩
/-- a row as it is now, or one more: one step -/
def wStep (r : DR) (s : List DR × Bool) (x : DR) : List DR × Bool :=
  let s1 := if s.2 = false ∧ r.k ≤ x.k then (s.1 ++ [r], true) else s
  if x.k = r.k then s1 else (s1.1 ++ [x], s1.2)
def wEnd (r : DR) (s : List DR × Bool) : List DR := if s.2 = true then s.1 else s.1 ++ [r]
def withD (L : List DR) (r : DR) : List DR := wEnd r (L.foldl (wStep r) ([], false))
theorem with_done (r : DR) : ∀ (L : List DR) (o : List DR), (∀ x ∈ L, x.k ≠ r.k) → L.foldl (wStep r) (o, true) = (o ++ L, true)
  | [], o, h => by simp
  | x :: L, o, h => by
    have h0 := h x (.head _)
    rw [List.foldl_cons, show wStep r (o, true) x = (o ++ [x], true) by simp [wStep, h0], with_done r L _ fun y hy => h y (.tail _ hy)]
    simp
theorem with_set (r : RW) : ∀ (L : Rows) (j i : Nat) (o : List DR), i < L.length →
    wEnd ⟨j + i, r.f, r.q⟩ ((docL j L).foldl (wStep ⟨j + i, r.f, r.q⟩) (o, false)) = o ++ docL j (L.set i (some r))
  | [], j, i, o, h => by simp at h
  | none :: L, j, 0, o, h => by
    rw [List.set_cons_zero, docL, docL]
    have hge : ∀ x ∈ docL (j + 1) L, x.k ≠ j + 0 := fun x hx => by have := doc_ge hx; omega
    cases hd : docL (j + 1) L with
    | nil => simp [wEnd]
    | cons y t =>
      rw [hd] at hge
      have h0 := hge y (.head _)
      have h1 : j + 1 ≤ y.k := doc_ge (L := L) (by rw [hd]; exact .head _)
      rw [List.foldl_cons, show wStep ⟨j + 0, r.f, r.q⟩ (o, false) y = (o ++ [⟨j, r.f, r.q⟩] ++ [y], true) by
        have : j ≤ y.k := by omega
        have h2 : ¬ y.k = j := by omega
        simp [wStep, this, h2], with_done _ _ _ fun x hx => hge x (.tail _ hx)]
      simp [wEnd]
  | some x :: L, j, 0, o, h => by
    rw [List.set_cons_zero, docL, docL]
    have hge : ∀ x ∈ docL (j + 1) L, x.k ≠ j + 0 := fun x hx => by have := doc_ge hx; omega
    rw [List.foldl_cons, show wStep ⟨j + 0, r.f, r.q⟩ (o, false) ⟨j, x.f, x.q⟩ = (o ++ [⟨j, r.f, r.q⟩], true) by simp [wStep], with_done _ _ _ hge]
    simp [wEnd]
  | none :: L, j, i + 1, o, h => by
    rw [List.set_cons_succ, docL, docL]
    have := with_set r L (j + 1) i o (by simpa using h)
    rw [show j + 1 + i = j + (i + 1) by omega] at this
    exact this
  | some x :: L, j, i + 1, o, h => by
    rw [List.set_cons_succ, docL, docL]
    have := with_set r L (j + 1) i (o ++ [⟨j, x.f, x.q⟩]) (by simpa using h)
    rw [show j + 1 + i = j + (i + 1) by omega] at this
    rw [List.foldl_cons, show wStep ⟨j + (i + 1), r.f, r.q⟩ (o, false) ⟨j, x.f, x.q⟩ = (o ++ [⟨j, x.f, x.q⟩], false) by
      have h1 : ¬ j + (i + 1) ≤ j := by omega
      have h2 : ¬ j = j + (i + 1) := by omega
      simp [wStep, h1], this]
    simp
theorem with_doc {L : Rows} {k : Nat} (hk : k < L.length) (r : RW) : withD (docL 0 L) ⟨k, r.f, r.q⟩ = docL 0 (L.set k (some r)) := by
  have := with_set r L 0 k [] hk
  rw [Nat.zero_add] at this
  unfold withD
  rw [this]
  rfl
theorem doc_drop : ∀ (L : Rows) (j i : Nat), docL j (L.set i none) = (docL j L).filter fun d => decide (d.k ≠ j + i)
  | [], j, i => by simp [docL]
  | none :: L, j, 0 => by
    rw [List.set_cons_zero, docL, eq_comm, List.filter_eq_self]
    intro d hd
    have := doc_ge hd
    simp; omega
  | some x :: L, j, 0 => by
    rw [List.set_cons_zero, docL, docL, List.filter_cons_of_neg (by simp), eq_comm, List.filter_eq_self]
    intro d hd
    have := doc_ge hd
    simp; omega
  | none :: L, j, i + 1 => by
    rw [List.set_cons_succ, docL, docL, doc_drop, show j + 1 + i = j + (i + 1) by omega]
  | some x :: L, j, i + 1 => by
    rw [List.set_cons_succ, docL, docL, doc_drop, show j + 1 + i = j + (i + 1) by omega, List.filter_cons_of_pos (by simp)]
theorem doc_drop0 (L : Rows) (k : Nat) : docL 0 (L.set k none) = (docL 0 L).filter fun d => decide (d.k ≠ k) := by
  rw [doc_drop, Nat.zero_add]
theorem doc_same {L : Rows} {k : Nat} (h : rowAt L k = none) : (docL 0 L).filter (fun d => decide (d.k ≠ k)) = docL 0 L := by
  rw [List.filter_eq_self]
  intro d hd
  obtain ⟨i, r, h1, h2⟩ := doc_mem.1 hd
  rw [Nat.zero_add] at h2
  rw [decide_eq_true_eq]
  rintro rfl
  rw [h2] at h
  rw [h1] at h
  cases h
theorem doc_at {L : Rows} {i : Nat} {d : DR} (h : (docL 0 L)[i]? = some d) : ∃ r, rowAt L d.k = some r ∧ d = ⟨d.k, r.f, r.q⟩ := by
  obtain ⟨j, r, h1, h2⟩ := doc_mem.1 (List.mem_of_getElem? h)
  rw [Nat.zero_add] at h2
  refine ⟨r, ?_, ?_⟩
  · rw [h2]; exact h1
  · rw [h2]
theorem doc_of {L : Rows} {k : Nat} {r : RW} (h : rowAt L k = some r) : ⟨k, r.f, r.q⟩ ∈ docL 0 L := doc_mem.2 ⟨k, r, h, by rw [Nat.zero_add]⟩
theorem doc_uniq {L : Rows} {d e : DR} (hd : d ∈ docL 0 L) (he : e ∈ docL 0 L) (hk : d.k = e.k) : d = e := by
  obtain ⟨j, r, h1, h2⟩ := doc_mem.1 hd
  obtain ⟨i, r', h3, h4⟩ := doc_mem.1 he
  rw [Nat.zero_add] at h2 h4
  have : j = i := by rw [h2, h4] at hk; exact hk
  subst this
  rw [h1] at h3
  injection h3 with h3
  rw [h2, h4, h3]
/-! ### All numbers -/
theorem ext_lt : ∀ {a b : List Nat}, a.Pairwise (· < ·) → b.Pairwise (· < ·) → (∀ x, x ∈ a ↔ x ∈ b) → a = b
  | [], [], _, _, _ => rfl
  | [], y :: b, _, _, h => by have := (h y).2 (.head _); cases this
  | x :: a, [], _, _, h => by have := (h x).1 (.head _); cases this
  | x :: a, y :: b, ha, hb, h => by
    rw [List.pairwise_cons] at ha hb
    have hxy : x = y := by
      rcases List.mem_cons.1 ((h x).1 (.head _)) with e | hx
      · exact e
      · rcases List.mem_cons.1 ((h y).2 (.head _)) with e | hy
        · exact e.symm
        · have h1 := ha.1 y hy
          have h2 := hb.1 x hx
          omega
    subst hxy
    rw [ext_lt ha.2 hb.2 fun z => ?_]
    constructor
    · intro hz
      rcases List.mem_cons.1 ((h z).1 (.tail _ hz)) with e | hz'
      · have := ha.1 z hz; omega
      · exact hz'
    · intro hz
      rcases List.mem_cons.1 ((h z).2 (.tail _ hz)) with e | hz'
      · have := hb.1 z hz; omega
      · exact hz'
theorem doc_all (S : T) : (docL 0 S.rows).map (·.k) = allL S := by
  refine ext_lt (List.pairwise_map.2 (doc_rise _ _)) ?_ fun x => ?_
  · exact List.Pairwise.sublist List.filter_sublist List.pairwise_lt_range
  · rw [mem_all, List.mem_map]
    constructor
    · rintro ⟨d, hd, rfl⟩
      obtain ⟨i, r, h1, h2⟩ := doc_mem.1 hd
      rw [Nat.zero_add] at h2
      rw [h2, h1]; rfl
    · intro h
      obtain ⟨r, hr⟩ := Option.isSome_iff_exists.1 h
      exact ⟨_, doc_of hr, rfl⟩
theorem doc_len {n N : Nat} {S : T} (h : TI n N S) : (docL 0 S.rows).length = S.R.length := by
  rw [← all_len h, ← doc_all, List.length_map]
/-! ### Collection -/
def elig (bits : Nat) (keep now sock : Int) (d : DR) : Bool := decide (d.f.s ≠ sock) && (decide (β bits d.f.s = β bits sock) && (d.q && decide (Hz.sat d.f.ag keep < now)))
def pickS (p : DR → Bool) (b : Option DR) (d : DR) : Option DR := if p d = true then (match b with | none => some d | some e => if d.f.s < e.f.s then some d else some e) else b
def least (p : DR → Bool) (L : List DR) : Option DR := L.foldl (pickS p) none
theorem least_take {p : DR → Bool} {L : List DR} {k : Nat} {d : DR} (h : L[k]? = some d) : least p (L.take (k + 1)) = pickS p (least p (L.take k)) d := by
  unfold least
  rw [List.take_add_one, h, List.foldl_append]
  rfl
def LeastOf (p : DR → Bool) (L : List DR) : Option DR → Prop
  | none => ∀ d ∈ L, p d = false
  | some d => d ∈ L ∧ p d = true ∧ ∀ x ∈ L, p x = true → d.f.s ≤ x.f.s
theorem pick_spec {p : DR → Bool} {L : List DR} {b : Option DR} (h : LeastOf p L b) (d : DR) : LeastOf p (L ++ [d]) (pickS p b d) := by
  unfold pickS
  by_cases hp : p d = true
  · rw [if_pos hp]
    cases b with
    | none =>
      refine ⟨by simp, hp, fun x hx hpx => ?_⟩
      rcases List.mem_append.1 hx with hx | hx
      · have := h x hx
        rw [this] at hpx
        cases hpx
      · simp at hx
        rw [hx]; exact Int.le_refl _
    | some e =>
      obtain ⟨h1, h2, h3⟩ := h
      simp only
      split
      · rename_i hlt
        refine ⟨by simp, hp, fun x hx hpx => ?_⟩
        rcases List.mem_append.1 hx with hx | hx
        · have := h3 x hx hpx; omega
        · simp at hx
          rw [hx]; exact Int.le_refl _
      · rename_i hlt
        refine ⟨by simp [h1], h2, fun x hx hpx => ?_⟩
        rcases List.mem_append.1 hx with hx | hx
        · exact h3 x hx hpx
        · simp at hx
          rw [hx]; omega
  · rw [if_neg hp]
    cases b with
    | none =>
      intro x hx
      rcases List.mem_append.1 hx with hx | hx
      · exact h x hx
      · simp at hx
        rw [hx]; simpa using hp
    | some e =>
      obtain ⟨h1, h2, h3⟩ := h
      refine ⟨by simp [h1], h2, fun x hx hpx => ?_⟩
      rcases List.mem_append.1 hx with hx | hx
      · exact h3 x hx hpx
      · simp at hx
        rw [hx] at hpx
        exact absurd hpx hp
theorem least_in (p : DR → Bool) : ∀ (L A : List DR) (b : Option DR), LeastOf p A b → LeastOf p (A ++ L) (L.foldl (pickS p) b)
  | [], A, b, h => by simpa using h
  | d :: L, A, b, h => by
    rw [List.foldl_cons, show A ++ d :: L = (A ++ [d]) ++ L by simp]
    exact least_in p L _ _ (pick_spec h d)
theorem least_spec (p : DR → Bool) (L : List DR) : LeastOf p L (least p L) := least_in p L [] none fun d hd => by cases hd
def collD (p : DR → Bool) : Nat → List DR × List Nat → List DR × List Nat
  | 0, s => s
  | m + 1, s => match least p s.1 with
    | none => s
    | some d => collD p m (s.1.filter fun x => decide (x.k ≠ d.k), s.2 ++ [d.k])
theorem lt_fst {a b : Key} (h : lt a b = true) : a.1 ≤ b.1 := by
  unfold lt at h
  simp only [Bool.or_eq_true, Bool.and_eq_true, decide_eq_true_eq] at h
  omega
theorem coll_doc {n bits : Nat} {keep now sock : Int} : ∀ {l : List En} {m N : Nat} {S : T}, TI n N S → RisingE l → (∀ e ∈ l, e ∈ S.R) → (∀ e ∈ l, β bits e.1.1 = β bits sock) →
    (∀ k r, rowAt S.rows k = some r → elig bits keep now sock ⟨k, r.f, r.q⟩ = true → ((r.f.s, 0), (k : Int)) ∈ l) → m ≤ 8 →
    collD (elig bits keep now sock) (8 - m) (docL 0 S.rows, S.X.bk) = (docL 0 (coll keep now sock l m S).rows, (coll keep now sock l m S).X.bk) ∧ (coll keep now sock l m S).X.st.length = S.X.st.length
  | [], m, N, S, h, hl, hi, hb, hc, hm => by
    refine ⟨?_, rfl⟩
    show _ = (docL 0 S.rows, S.X.bk)
    cases hf : 8 - m with
    | zero => rfl
    | succ j =>
      rw [collD]
      cases hls : least (elig bits keep now sock) (docL 0 S.rows) with
      | none => rfl
      | some d =>
        have hsp := least_spec (elig bits keep now sock) (docL 0 S.rows)
        rw [hls] at hsp
        obtain ⟨h1, h2, -⟩ := hsp
        obtain ⟨i, r, h3, h4⟩ := doc_mem.1 h1
        rw [Nat.zero_add] at h4
        rw [h4] at h2
        have := hc i r h3 h2
        cases this
  | e :: l, m, N, S, h, hl, hi, hb, hc, hm => by
    unfold coll
    have hl' := hl
    unfold RisingE at hl'
    rw [List.pairwise_cons] at hl'
    by_cases hm8 : m = 8
    · rw [if_pos hm8, hm8]
      exact ⟨rfl, rfl⟩
    · rw [if_neg hm8]
      obtain ⟨k, r, hr, he⟩ := h.row_of (hi e (.head _))
      have hk : e.2.toNat = k := by rw [he]; simp
      have hbe := hb e (.head _)
      have hgo : goes keep now sock S e = elig bits keep now sock ⟨k, r.f, r.q⟩ := by
        unfold goes elig oldR
        rw [hk, hr]
        rw [he] at hbe ⊢
        simp only at hbe
        simp [hbe]
      by_cases hg : goes keep now sock S e = true
      · rw [if_pos hg, hk]
        rw [hgo] at hg
        have hin : ∀ x ∈ l, x ∈ (dropT S k).R := fun x hx => mem_drop h hr (hi x (.tail _ hx)) (fun e2 => by
          have := hl'.1 x hx
          rw [e2, he] at this
          exact lt_irrefl _ this)
        have hdr := dropT_some hr
        have hrows : (dropT S k).rows = S.rows.set k none := by rw [hdr]
        have ih := coll_doc (bits := bits) (keep := keep) (now := now) (sock := sock) (l := l) (m := m + 1) (drop_ok h hr) hl'.2 hin (fun x hx => hb x (.tail _ hx)) (fun j r' hj hel => by
          rw [hrows, rowAt_set (rowAt_lt hr)] at hj
          split at hj
          · cases hj
          · rename_i hne
            rcases List.mem_cons.1 (hc j r' hj hel) with e3 | h3
            · rw [he] at e3
              injection e3 with _ e3
              omega
            · exact h3) (by omega)
        have hsp := least_spec (elig bits keep now sock) (docL 0 S.rows)
        obtain ⟨d, hd⟩ : ∃ d, least (elig bits keep now sock) (docL 0 S.rows) = some d := by
          cases hls : least (elig bits keep now sock) (docL 0 S.rows) with
          | some d => exact ⟨d, rfl⟩
          | none =>
            rw [hls] at hsp
            have := hsp _ (doc_of hr)
            rw [this] at hg
            cases hg
        rw [hd] at hsp
        obtain ⟨h1, h2, h3⟩ := hsp
        obtain ⟨i, r', h4, h5⟩ := doc_mem.1 h1
        rw [Nat.zero_add] at h5
        have hik : i = k := by
          rw [h5] at h2
          rcases List.mem_cons.1 (hc i r' h4 h2) with e3 | h6
          · rw [he] at e3
            injection e3 with _ e3
            omega
          · have h7 := hl'.1 _ h6
            have h8 := h3 _ (doc_of hr) hg
            rw [he] at h7
            rw [h5] at h8
            simp only at h8
            unfold lt at h7
            simp only [Bool.or_eq_true, Bool.and_eq_true, decide_eq_true_eq] at h7
            omega
        have hdk : d.k = k := by rw [h5]; exact hik
        rw [show 8 - m = (8 - (m + 1)) + 1 by omega, collD, hd]
        simp only [hdk]
        rw [hrows, doc_drop0] at ih
        have hX : (dropT S k).X = Ar.gv S.X k := by rw [hdr]
        have hbk : (dropT S k).X.bk = S.X.bk ++ [k] := by rw [hX]; rfl
        have hst : (dropT S k).X.st.length = S.X.st.length := by rw [hX]; exact List.length_set
        rw [hbk, hst] at ih
        exact ih
      · rw [if_neg hg]
        refine coll_doc h hl'.2 (fun x hx => hi x (.tail _ hx)) (fun x hx => hb x (.tail _ hx)) (fun j r' hj hel => ?_) hm
        rcases List.mem_cons.1 (hc j r' hj hel) with e3 | h3
        · exfalso
          rw [he] at e3
          injection e3 with _ e3
          have : j = k := by omega
          subst this
          rw [hr] at hj
          injection hj with hj
          rw [hgo, hj] at hg
          exact hg hel
        · exact h3
theorem collT_doc {n N bits : Nat} {keep now sock : Int} {S : T} (h : TI n N S) :
    collD (elig bits keep now sock) 8 (docL 0 S.rows, S.X.bk) = (docL 0 (collT bits keep now sock S).rows, (collT bits keep now sock S).X.bk) ∧ (collT bits keep now sock S).X.st.length = S.X.st.length := by
  have hb := bk_rise (bits := bits) h sock
  refine coll_doc (m := 0) h hb.1 hb.2 (fun e he => ?_) (fun k r hr hel => ?_) (by omega)
  · unfold bkOf inB at he
    simpa using (List.mem_filter.1 he).2
  · unfold bkOf inB
    rw [List.mem_filter]
    refine ⟨(h.mem _ _).2 ⟨k, r, hr, rfl, rfl⟩, ?_⟩
    unfold elig at hel
    simp only [Bool.and_eq_true, decide_eq_true_eq] at hel
    simpa using hel.2.1
/-! ### A fresh one -/
theorem new_doc {n N : Nat} {S : T} (h : TI n N S) (hu : S.X.used < n) (f : FD) :
    docL 0 (newT S f).rows = withD (docL 0 S.rows) ⟨Ar.tq S.X, f, false⟩ ∧ (newT S f).X.bk = S.X.bk.dropLast ∧ (newT S f).X.st.length = if S.X.bk = [] then S.X.st.length + 1 else S.X.st.length := by
  obtain ⟨q1, q2⟩ := new_at h hu
  refine ⟨?_, rfl, ?_⟩
  · have := with_doc (L := S.rows) (k := Ar.tq S.X) (by rw [h.len]; exact q1) ⟨f, Ar.hdl (Ar.tk S.X) (Ar.tq S.X), false⟩
    rw [this]
    rfl
  · show (Ar.tk S.X).st.length = _
    unfold Ar.tk Ar.st0
    simp only [List.length_set]
    split <;> simp
theorem set_doc {n N : Nat} {S : T} (h : TI n N S) {k : Nat} {r : RW} (hr : rowAt S.rows k = some r) (r' : RW) : docL 0 (setT S k r').rows = withD (docL 0 S.rows) ⟨k, r'.f, r'.q⟩ :=
  (with_doc (rowAt_lt hr) r').symm
end Go.Proofs.Ytkdmlpigkmlkmaa.Tb
