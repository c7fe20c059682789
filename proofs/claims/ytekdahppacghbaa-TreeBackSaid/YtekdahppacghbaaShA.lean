/- DERIVED. Layer 6 (tree): a tree's shape, as twigs: what the laws' walk and deep find in it. No Go text. -/
import Derived.Test.YtekdahppacghbaaTrS
set_option linter.unusedVariables false
set_option linter.unusedSimpArgs false
namespace Go.Proofs.Ytekdahppacghbaa.Tr
open Go.RowKit Go.Proofs.Ytekdahppacghbaa Go.Proofs.Ytekdahppacghbaa.TreeP

/-- a node, as it stands among all -/
structure Tw where
  a : Int
  s : Int
  red : Bool
  up : Int
def tc (z : Tw) : List Value := [.int .u64 z.a, .int .u64 z.s, .bool z.red, .int .i64 z.up]
def tws : List Tw → List Value
  | [] => []
  | z :: l => tc z ++ tws l
theorem tws_append : ∀ l m : List Tw, tws (l ++ m) = tws l ++ tws m
  | [], m => rfl
  | e :: l, m => by rw [List.cons_append, tws, tws, tws_append l m, List.append_assoc]
theorem tws_len : ∀ l : List Tw, (tws l).length = l.length * 4
  | [] => rfl
  | e :: l => by rw [tws, List.length_append, tws_len l, List.length_cons]; simp [tc]; omega
theorem twsAt : ∀ (Z : List Tw) (i c : Nat) (z : Tw), Z[i]? = some z → c < 4 → (tws Z)[i * 4 + c]? = (tc z)[c]?
  | [], i, c, e, h, hc => by simp at h
  | y :: l, 0, c, e, h, hc => by
    obtain rfl : y = e := by simpa using h
    rw [tws, List.getElem?_append_left (by simp [tc]; omega)]
    congr 1; omega
  | y :: l, i + 1, c, e, h, hc => by
    rw [tws, List.getElem?_append_right (by simp [tc]; omega), show (tc y).length = 4 from rfl, show (i + 1) * 4 + c - 4 = i * 4 + c from by omega]
    exact twsAt l i c e (by simpa using h) hc
/-- the part from f up to te, below 'ab', is a red-black tree: its root's colour, its black height -/
inductive Wk (Z : List Tw) : Nat → Nat → Int → Bool → Nat → Prop
  | nil {f : Nat} {ab : Int} : Wk Z f f ab false 0
  | node {f te r : Nat} {ab : Int} {c cl cr : Bool} {m : Nat} {z : Tw} (h1 : f ≤ r) (h2 : r < te) (h3 : Z[r]? = some z) (h4 : z.up = ab) (h5 : ∀ i x, f ≤ i → i < te → Z[i]? = some x → x.up = ab → i = r)
      (h6 : z.red = c) (h7 : c = true → ∃ (q : Nat) (y : Tw), ab = (q : Int) ∧ Z[q]? = some y ∧ y.red = false) (hl : Wk Z f r (r : Int) cl m) (hr : Wk Z (r + 1) te (r : Int) cr m) (h8 : c = true → cl = false ∧ cr = false) :
      Wk Z f te ab c (if c then m else m + 1)
theorem wk_le {Z : List Tw} {f te : Nat} {ab : Int} {c : Bool} {n : Nat} (h : Wk Z f te ab c n) : f ≤ te ∧ n ≤ te - f := by
  induction h with
  | nil => omega
  | @node f te r ab c cl cr m z h1 h2 h3 h4 h5 h6 h7 hl hr h8 il ir => cases c <;> simp <;> omega
theorem wk_size {Z : List Tw} {f te : Nat} {ab : Int} {c : Bool} {n : Nat} (h : Wk Z f te ab c n) : 2 ^ n ≤ te - f + 1 := by
  induction h with
  | nil => simp
  | @node f te r ab c cl cr m z h1 h2 h3 h4 h5 h6 h7 hl hr h8 il ir =>
    have := wk_le hl
    have := wk_le hr
    cases c
    · simp only [Bool.false_eq_true, ↓reduceIte, Nat.pow_succ]
      omega
    · simp only [↓reduceIte]
      omega
/-- from i, d ups lead te ab -/
inductive Ups (Z : List Tw) : Nat → Nat → Int → Prop
  | one {i : Nat} {z : Tw} (h : Z[i]? = some z) : Ups Z i 1 z.up
  | more {i j d : Nat} {z : Tw} {ab : Int} (h : Z[i]? = some z) (hj : z.up = (j : Int)) (hu : Ups Z j d ab) : Ups Z i (d + 1) ab
theorem ups_snoc {Z : List Tw} {i d r : Nat} {z : Tw} {ab : Int} (h : Ups Z i d ab) : ab = (r : Int) → Z[r]? = some z → Ups Z i (d + 1) z.up := by
  induction h with
  | one h1 => exact fun he hz => .more h1 he (.one hz)
  | more h1 hj hu ih => exact fun he hz => .more h1 hj (ih he hz)
theorem wk_ups {Z : List Tw} {f te : Nat} {ab : Int} {c : Bool} {n : Nat} (h : Wk Z f te ab c n) : ∀ i, f ≤ i → i < te → ∃ d, 1 ≤ d ∧ d ≤ 2 * n + (if c then 1 else 0) ∧ Ups Z i d ab := by
  induction h with
  | nil => exact fun i h1 h2 => absurd h2 (by omega)
  | @node f te r ab c cl cr m z h1 h2 h3 h4 h5 h6 h7 hl hr h8 il ir =>
    intro i hi1 hi2
    have hone : Ups Z r 1 ab := h4 ▸ .one h3
    have lift : ∀ (k : Bool), (c = true → k = false) → (∃ d, 1 ≤ d ∧ d ≤ 2 * m + (if k then 1 else 0) ∧ Ups Z i d (r : Int)) → ∃ d, 1 ≤ d ∧ d ≤ 2 * (if c then m else m + 1) + (if c then 1 else 0) ∧ Ups Z i d ab := by
      rintro k hk ⟨d, d1, d2, d3⟩
      refine ⟨d + 1, by omega, ?_, h4 ▸ ups_snoc d3 rfl h3⟩
      cases c
      · cases k <;> simp at d2 ⊢ <;> omega
      · rw [hk rfl] at d2
        simp at d2 ⊢
        omega
    by_cases e : i = r
    · subst e
      refine ⟨1, Nat.le_refl _, ?_, hone⟩
      cases c <;> simp <;> omega
    · by_cases hlt : i < r
      · exact lift cl (fun hc => (h8 hc).1) (il i hi1 hlt)
      · exact lift cr (fun hc => (h8 hc).2) (ir i (by omega) hi2)
/-! ### From the tree -/
/-- where a node stands; -1: none -/
def posI (ids : List Nat) (x : Nat) : Int := if x = 0 then -1 else (ids.idxOf x : Int)
def tw (S : TS) (ids : List Nat) (x : Nat) : Tw := ⟨(S.nd x).a, (S.nd x).s, (S.nd x).red, posI ids (S.nd x).up⟩
theorem posI_at {ids : List Nat} (nd : ids.Nodup) {k x : Nat} (hx : x ≠ 0) (h : ids[k]? = some x) : posI ids x = (k : Int) := by
  obtain ⟨hk, he⟩ := List.getElem?_eq_some_iff.1 h
  unfold posI
  rw [if_neg hx]
  have h2 : ids.idxOf x < ids.length := List.idxOf_lt_length_of_mem (List.mem_of_getElem? h)
  have h3 : ids[ids.idxOf x] = x := List.getElem_idxOf h2
  have : ids.idxOf x = k := (List.getElem_inj nd).1 (h3.trans he.symm)
  omega
theorem posI_inj {ids : List Nat} {a b : Nat} (ha : a ∈ ids) (h0 : a ≠ 0) (h : posI ids a = posI ids b) : a = b := by
  unfold posI at h
  rw [if_neg h0] at h
  by_cases hb : b = 0
  · rw [if_pos hb] at h
    omega
  · rw [if_neg hb] at h
    have h1 : ids.idxOf a < ids.length := List.idxOf_lt_length_of_mem ha
    have h2 : ids[ids.idxOf a] = a := List.getElem_idxOf h1
    have h3 : ids.idxOf a = ids.idxOf b := by omega
    have h4 : ids.idxOf b < ids.length := by omega
    have h5 : ids[ids.idxOf b] = b := List.getElem_idxOf h4
    simp only [h3] at h2
    exact h2.symm.trans h5
theorem is_up {S : TS} {t : T} {x p : Nat} (h : Is S t x p) (hx : x ∈ t.ids) : (S.nd x).up = p := by
  cases t with
  | nil => simp [T.ids] at hx
  | node l i c r =>
    obtain ⟨rfl, _, _, _, hu, _⟩ := h
    exact hu
theorem up_in {S : TS} : ∀ {t : T} {x p : Nat}, Is S t x p → ∀ j ∈ t.ids, j ≠ x → (S.nd j).up ∈ t.ids
  | .nil, x, p, h, j, hj, _ => by simp [T.ids] at hj
  | .node l i c r, x, p, h, j, hj, hne => by
    obtain ⟨rfl, _, _, _, _, hl, hr⟩ := h
    simp only [T.ids, List.mem_append, List.mem_cons] at hj ⊢
    rcases hj with hj | hj | hj
    · by_cases e : j = (S.nd x).kid false
      · subst e
        exact .inr (.inl (is_up hl hj))
      · exact .inl (up_in hl j hj e)
    · exact absurd hj hne
    · by_cases e : j = (S.nd x).kid true
      · subst e
        exact .inr (.inl (is_up hr hj))
      · exact .inr (.inr (up_in hr j hj e))
theorem no_self {S : TS} : ∀ {t : T} {x p : Nat}, Is S t x p → t.ids.Nodup → p ∉ t.ids → ∀ j ∈ t.ids, (S.nd j).up ≠ j
  | .nil, x, p, h, nd, hp, j, hj => by simp [T.ids] at hj
  | .node l i c r, x, p, h, nd, hp, j, hj => by
    obtain ⟨rfl, _, _, _, hu, hl, hr⟩ := h
    simp only [T.ids, List.mem_append, List.mem_cons] at hj hp
    have nd3 := (List.nodup_append.1 nd)
    have nd4 := List.nodup_cons.1 nd3.2.1
    rcases hj with hj | hj | hj
    · exact no_self hl nd3.1 (fun h => nd3.2.2 x h x (.head _) rfl) j hj
    · subst hj
      rw [hu]
      exact fun e => hp (.inr (.inl e))
    · exact no_self hr nd4.2 nd4.1 j hj
theorem wk_tree {S : TS} {ids : List Nat} (nd : ids.Nodup) (nz : ∀ j ∈ ids, j ≠ 0) : ∀ (t : T) {L R : List Nat} {x up n : Nat} {c : Bool}, ids = L ++ (t.ids ++ R) → Is S t x up → RB t c n → (c = true → up ≠ 0 ∧ up ∈ ids ∧ (S.nd up).red = false) → up ∉ t.ids →
    Wk (ids.map (tw S ids)) L.length (L.length + t.ids.length) (posI ids up) c n
  | .nil, L, R, x, up, n, c, e, hi, hr, hc, hu => by
    cases hr
    exact .nil
  | .node l i c' r, L, R, x, up, n, c, e, hi, hr, hc, hu => by
    obtain ⟨rfl, hx0, hxl, hred, hup, hil, hir⟩ := hi
    have e1 : ids = L ++ (l.ids ++ (x :: (r.ids ++ R))) := by rw [e]; simp [T.ids]
    have e2 : ids = (L ++ (l.ids ++ [x])) ++ (r.ids ++ R) := by rw [e]; simp [T.ids]
    have hat : ids[L.length + l.ids.length]? = some x := by
      rw [e1, List.getElem?_append_right (by omega), Nat.add_sub_cancel_left, List.getElem?_append_right (by omega)]
      simp
    have hxi : x ∈ ids := List.mem_of_getElem? hat
    have hpx := posI_at nd hx0 hat
    have hz : (ids.map (tw S ids))[L.length + l.ids.length]? = some (tw S ids x) := by rw [List.getElem?_map, hat]; rfl
    have nd2 := nd
    rw [e1, List.nodup_append] at nd2
    have nd3 := (List.nodup_append.1 nd2.2.1)
    have nd4 := List.nodup_cons.1 nd3.2.1
    have hxl2 : x ∉ l.ids := fun h => nd3.2.2 x h x (.head _) rfl
    have hxr : x ∉ r.ids := fun h => nd4.1 (List.mem_append.2 (.inl h))
    have hlen : (T.node l x c' r).ids.length = l.ids.length + 1 + r.ids.length := by simp [T.ids]; omega
    have huniq : ∀ i y, L.length ≤ i → i < L.length + (T.node l x c' r).ids.length → (ids.map (tw S ids))[i]? = some y → y.up = posI ids up → i = L.length + l.ids.length := by
      intro i y h1 h2 h3 h4
      rw [List.getElem?_map] at h3
      obtain ⟨j, hj, rfl⟩ := Option.map_eq_some_iff.1 h3
      by_cases ej : j = x
      · subst ej
        obtain ⟨a1, a2⟩ := List.getElem?_eq_some_iff.1 hj
        obtain ⟨b1, b2⟩ := List.getElem?_eq_some_iff.1 hat
        exact (List.getElem_inj nd).1 (a2.trans b2.symm)
      · exfalso
        have hjt : j ∈ (T.node l x c' r).ids := by
          rw [e, List.getElem?_append_right h1, List.getElem?_append_left (by omega)] at hj
          exact List.mem_of_getElem? hj
        have hin := up_in (S := S) (t := .node l x c' r) (x := x) (p := up) ⟨rfl, hx0, hxl, hred, hup, hil, hir⟩ j hjt ej
        have hin2 : (S.nd j).up ∈ ids := by rw [e]; simp [hin]
        exact hu (posI_inj hin2 (nz _ hin2) h4 ▸ hin)
    have hpc : c' = true → ∃ (q : Nat) (y : Tw), posI ids up = (q : Int) ∧ (ids.map (tw S ids))[q]? = some y ∧ y.red = false := by
      intro hcc
      have hct : c = true := by
        subst hcc
        cases hr
        rfl
      obtain ⟨u1, u2, u3⟩ := hc hct
      obtain ⟨q, hq⟩ := List.mem_iff_getElem?.1 u2
      exact ⟨q, tw S ids up, posI_at nd u1 hq, by rw [List.getElem?_map, hq]; rfl, u3⟩
    have eL : (L ++ (l.ids ++ [x])).length = L.length + l.ids.length + 1 := by simp; omega
    cases hr with
    | red hrl hrr =>
      have wl := wk_tree nd nz l (L := L) (R := x :: (r.ids ++ R)) e1 hil hrl (fun h => by cases h) hxl2
      have wr := wk_tree nd nz r (L := L ++ (l.ids ++ [x])) (R := R) e2 hir hrr (fun h => by cases h) hxr
      rw [hpx] at wl wr
      rw [eL] at wr
      have := Wk.node (Z := ids.map (tw S ids)) (f := L.length) (te := L.length + (T.node l x true r).ids.length) (r := L.length + l.ids.length) (ab := posI ids up) (c := true) (by omega) (by rw [hlen]; omega) hz (by rw [← hup]; rfl) huniq hred hpc wl
        (by rw [show L.length + (T.node l x true r).ids.length = L.length + l.ids.length + 1 + r.ids.length by rw [hlen]; omega]; exact wr) (fun _ => ⟨rfl, rfl⟩)
      exact this
    | @black _ _ _ m cl cr hrl hrr =>
      have wl := wk_tree nd nz l (L := L) (R := x :: (r.ids ++ R)) e1 hil hrl (fun _ => ⟨hx0, hxi, hred⟩) hxl2
      have wr := wk_tree nd nz r (L := L ++ (l.ids ++ [x])) (R := R) e2 hir hrr (fun _ => ⟨hx0, hxi, hred⟩) hxr
      rw [hpx] at wl wr
      rw [eL] at wr
      have := Wk.node (Z := ids.map (tw S ids)) (f := L.length) (te := L.length + (T.node l x false r).ids.length) (r := L.length + l.ids.length) (ab := posI ids up) (c := false) (by omega) (by rw [hlen]; omega) hz (by rw [← hup]; rfl) huniq hred hpc wl
        (by rw [show L.length + (T.node l x false r).ids.length = L.length + l.ids.length + 1 + r.ids.length by rw [hlen]; omega]; exact wr) (fun h => by cases h)
      exact this
/-- what Shape tells of a tree with the entries E -/
structure Shp (E : List En) (Z : List Tw) : Prop where
  len : Z.length = E.length
  key : ∀ (i : Nat) (e : En), E[i]? = some e → ∃ z, Z[i]? = some z ∧ z.a = e.1.1 ∧ z.s = e.1.2 ∧ -1 ≤ z.up ∧ z.up < Z.length ∧ z.up ≠ i
  wk : ∃ n, Wk Z 0 Z.length (-1) false n
theorem shp_tree {S : TS} {free : List Nat} {many room : Nat} {t : T} (h : Inv S free many room t) : Shp (t.ids.map (entry S)) (t.ids.map (tw S t.ids)) := by
  have nz : ∀ j ∈ t.ids, j ≠ 0 := fun j hj => (ids_lt h.is j hj).1
  obtain ⟨n, hn⟩ := h.rb
  have h0 : 0 ∉ t.ids := fun h0 => nz 0 h0 rfl
  refine ⟨by simp, fun i e he => ?_, n, ?_⟩
  · rw [List.getElem?_map] at he
    obtain ⟨j, hj, rfl⟩ := Option.map_eq_some_iff.1 he
    have hjm := List.mem_of_getElem? hj
    refine ⟨tw S t.ids j, by rw [List.getElem?_map, hj]; rfl, rfl, rfl, ?_⟩
    show -1 ≤ posI t.ids (S.nd j).up ∧ posI t.ids (S.nd j).up < _ ∧ posI t.ids (S.nd j).up ≠ i
    have hlt : i < t.ids.length := (List.getElem?_eq_some_iff.1 hj).1
    by_cases ej : j = S.root
    · have : (S.nd j).up = 0 := by rw [ej]; exact is_up h.is (ej ▸ hjm)
      rw [this]
      simp [posI]
      omega
    · have hin := up_in h.is j hjm ej
      obtain ⟨q, hq⟩ := List.mem_iff_getElem?.1 hin
      rw [posI_at h.nd (nz _ hin) hq]
      have hql : q < t.ids.length := (List.getElem?_eq_some_iff.1 hq).1
      have hne : (q : Int) ≠ (i : Int) := by
        intro e
        have : q = i := by omega
        subst this
        rw [hq] at hj
        injection hj with hj
        exact no_self h.is h.nd h0 j hjm hj
      simp only [List.length_map]
      exact ⟨by omega, by omega, hne⟩
  · have := wk_tree (S := S) h.nd nz t (L := []) (R := []) (by simp) h.is hn (fun h => by cases h) h0
    simpa [posI] using this
end Go.Proofs.Ytekdahppacghbaa.Tr
