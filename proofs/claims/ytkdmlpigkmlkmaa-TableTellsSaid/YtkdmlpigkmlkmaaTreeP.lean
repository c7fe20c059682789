/- DERIVED. Plain facts on red-black trees that lie in an array, with links to the nodes above (layer 6): turning, settling behind a put, lifting behind a drop, finding, going through. No Go, no program. -/
set_option linter.unusedVariables false
set_option linter.unusedSimpArgs false
namespace Go.Proofs.Ytkdmlpigkmlkmaa.TreeP
/-- a node as it stands in the array -/
structure Nd where
  a : Int
  s : Int
  v : Int
  k0 : Nat
  k1 : Nat
  up : Nat
  red : Bool
def Nd.zero : Nd := ⟨0, 0, 0, 0, 0, 0, false⟩
def Nd.kid (x : Nd) (d : Bool) : Nat := if d then x.k1 else x.k0
def Nd.setKid (d : Bool) (y : Nat) (x : Nd) : Nd := if d then { x with k1 := y } else { x with k0 := y }
def Nd.setUp (y : Nat) (x : Nd) : Nd := { x with up := y }
def Nd.setRed (c : Bool) (x : Nd) : Nd := { x with red := c }
@[simp] theorem kid_setKid (d e : Bool) (y : Nat) (x : Nd) : (x.setKid d y).kid e = if d = e then y else x.kid e := by
  cases d <;> cases e <;> simp [Nd.kid, Nd.setKid]
@[simp] theorem up_setKid (d : Bool) (y : Nat) (x : Nd) : (x.setKid d y).up = x.up := by cases d <;> rfl
@[simp] theorem red_setKid (d : Bool) (y : Nat) (x : Nd) : (x.setKid d y).red = x.red := by cases d <;> rfl
@[simp] theorem kid_setUp (d : Bool) (y : Nat) (x : Nd) : (x.setUp y).kid d = x.kid d := rfl
@[simp] theorem up_setUp (y : Nat) (x : Nd) : (x.setUp y).up = y := rfl
@[simp] theorem red_setUp (y : Nat) (x : Nd) : (x.setUp y).red = x.red := rfl
@[simp] theorem kid_setRed (d c : Bool) (x : Nd) : (x.setRed c).kid d = x.kid d := rfl
@[simp] theorem up_setRed (c : Bool) (x : Nd) : (x.setRed c).up = x.up := rfl
@[simp] theorem red_setRed (c : Bool) (x : Nd) : (x.setRed c).red = c := rfl
/-- the array, and the root -/
structure TS where
  n : List Nd
  root : Nat
def TS.nd (S : TS) (i : Nat) : Nd := S.n.getD i Nd.zero
def TS.upd (S : TS) (i : Nat) (f : Nd → Nd) : TS := { S with n := S.n.set i (f (S.nd i)) }
def TS.setRoot (S : TS) (x : Nat) : TS := { S with root := x }
@[simp] theorem len_upd (S : TS) (i : Nat) (f : Nd → Nd) : (S.upd i f).n.length = S.n.length := by simp [TS.upd]
@[simp] theorem root_upd (S : TS) (i : Nat) (f : Nd → Nd) : (S.upd i f).root = S.root := rfl
@[simp] theorem len_setRoot (S : TS) (x : Nat) : (S.setRoot x).n.length = S.n.length := rfl
@[simp] theorem root_setRoot (S : TS) (x : Nat) : (S.setRoot x).root = x := rfl
@[simp] theorem nd_setRoot (S : TS) (x i : Nat) : (S.setRoot x).nd i = S.nd i := rfl
theorem nd_upd (S : TS) (i j : Nat) (f : Nd → Nd) (h : i < S.n.length) : (S.upd i f).nd j = if i = j then f (S.nd j) else S.nd j := by
  unfold TS.upd TS.nd
  by_cases e : i = j
  · subst e; simp [List.getD, h]
  · simp [List.getD, e]
/-- the keys' fields stay: what a node holds besides links and colour -/
def Nd.load (x : Nd) : Int × Int × Int := (x.a, x.s, x.v)
@[simp] theorem load_setKid (d : Bool) (y : Nat) (x : Nd) : (x.setKid d y).load = x.load := by cases d <;> rfl
@[simp] theorem load_setUp (y : Nat) (x : Nd) : (x.setUp y).load = x.load := rfl
@[simp] theorem load_setRed (c : Bool) (x : Nd) : (x.setRed c).load = x.load := rfl

/-! ### The program's own steps -/
def side (S : TS) (x : Nat) : Bool := !((S.nd (S.nd x).up).k0 == x)
def hang (S : TS) (x p : Nat) : TS :=
  let up := (S.nd p).up
  (if up = 0 then S.setRoot x else S.upd up (Nd.setKid (side S p) x)).upd x (Nd.setUp up)
def turn (S : TS) (x : Nat) (d : Bool) : TS :=
  let y := (S.nd x).kid (!d)
  let i := (S.nd y).kid d
  let S1 := (hang S y x).upd x (Nd.setKid (!d) i)
  let S2 := if i = 0 then S1 else S1.upd i (Nd.setUp x)
  (S2.upd y (Nd.setKid d x)).upd x (Nd.setUp y)

/-! ### Trees and paths -/
inductive T where
  | nil
  | node (l : T) (i : Nat) (c : Bool) (r : T)
/-- a node, by sides: 'a' hangs on side d, 'b' on the other one -/
def nod (d : Bool) (a : T) (i : Nat) (c : Bool) (b : T) : T := if d then .node b i c a else .node a i c b
def T.ids : T → List Nat
  | .nil => []
  | .node l i _ r => l.ids ++ i :: r.ids
theorem mem_nod (d : Bool) (a : T) (i : Nat) (c : Bool) (b : T) (x : Nat) : x ∈ (nod d a i c b).ids ↔ x ∈ a.ids ∨ x = i ∨ x ∈ b.ids := by
  cases d <;> simp [nod, T.ids] <;> (try omega)
  constructor
  · rintro (h | h | h) <;> simp [h]
  · rintro (h | h | h) <;> simp [h]
structure Fr where
  d : Bool
  i : Nat
  c : Bool
  s : T
abbrev Path := List Fr
def Fr.ids (f : Fr) : List Nat := f.i :: f.s.ids
def pids : Path → List Nat
  | [] => []
  | f :: C => f.ids ++ pids C
def plug : Path → T → T
  | [], t => t
  | f :: C, t => plug C (nod f.d t f.i f.c f.s)
/-- node x of S, under p, is the root of the tree t -/
def Is (S : TS) : T → Nat → Nat → Prop
  | .nil, x, _ => x = 0
  | .node l i c r, x, p => x = i ∧ i ≠ 0 ∧ i < S.n.length ∧ (S.nd i).red = c ∧ (S.nd i).up = p ∧ Is S l ((S.nd i).kid false) i ∧ Is S r ((S.nd i).kid true) i
theorem is_nod (S : TS) (d : Bool) (a : T) (i : Nat) (c : Bool) (b : T) (x p : Nat) :
    Is S (nod d a i c b) x p ↔ x = i ∧ i ≠ 0 ∧ i < S.n.length ∧ (S.nd i).red = c ∧ (S.nd i).up = p ∧ Is S a ((S.nd i).kid d) i ∧ Is S b ((S.nd i).kid (!d)) i := by
  cases d
  · simp [nod, Is]
  · simp only [nod, Is, ↓reduceIte, Bool.not_true]
    constructor
    · rintro ⟨h1, h2, h3, h4, h5, h6, h7⟩; exact ⟨h1, h2, h3, h4, h5, h7, h6⟩
    · rintro ⟨h1, h2, h3, h4, h5, h6, h7⟩; exact ⟨h1, h2, h3, h4, h5, h7, h6⟩
/-- x is the place to which the path C leads, p the node above it -/
def On (S : TS) : Path → Nat → Nat → Prop
  | [], x, p => S.root = x ∧ p = 0
  | f :: C, x, p => p = f.i ∧ f.i ≠ 0 ∧ f.i < S.n.length ∧ (S.nd f.i).red = f.c ∧ (S.nd f.i).kid f.d = x ∧ Is S f.s ((S.nd f.i).kid (!f.d)) f.i ∧ On S C f.i (S.nd f.i).up
/-- what another part of the array does is of no concern -/
theorem Is.keep {S S' : TS} (hl : S'.n.length = S.n.length) : ∀ {t : T} {x p : Nat}, Is S t x p → (∀ i ∈ t.ids, S'.nd i = S.nd i) → Is S' t x p
  | .nil, _, _, h, _ => h
  | .node l i c r, x, p, h, k => by
    obtain ⟨h1, h2, h3, h4, h5, h6, h7⟩ := h
    have e := k i (by simp [T.ids])
    refine ⟨h1, h2, hl ▸ h3, e ▸ h4, e ▸ h5, ?_, ?_⟩
    · rw [e]; exact Is.keep hl h6 (fun j hj => k j (by simp [T.ids, hj]))
    · rw [e]; exact Is.keep hl h7 (fun j hj => k j (by simp [T.ids, hj]))
theorem On.keep {S S' : TS} (hl : S'.n.length = S.n.length) (hr : S'.root = S.root) : ∀ {C : Path} {x p : Nat}, On S C x p → (∀ i ∈ pids C, S'.nd i = S.nd i) → On S' C x p
  | [], _, _, h, _ => ⟨hr ▸ h.1, h.2⟩
  | f :: C, x, p, h, k => by
    obtain ⟨h1, h2, h3, h4, h5, h6, h7⟩ := h
    have e := k f.i (by simp [pids, Fr.ids])
    refine ⟨h1, h2, hl ▸ h3, e ▸ h4, e ▸ h5, ?_, ?_⟩
    · rw [e]; exact Is.keep hl h6 (fun j hj => k j (by simp [pids, Fr.ids, hj]))
    · rw [e]; exact On.keep hl hr h7 (fun j hj => k j (by simp [pids, hj]))
theorem on_plug (S : TS) : ∀ (C : Path) (t : T) (x p : Nat), On S C x p → Is S t x p → Is S (plug C t) S.root 0
  | [], t, x, p, h, ht => by obtain ⟨rfl, rfl⟩ := h; exact ht
  | f :: C, t, x, p, h, ht => by
    obtain ⟨rfl, h2, h3, h4, rfl, h6, h7⟩ := h
    exact on_plug S C _ _ _ h7 ((is_nod S f.d t f.i f.c f.s f.i _).2 ⟨rfl, h2, h3, h4, rfl, ht, h6⟩)
theorem plug_on (S : TS) : ∀ (C : Path) (t : T), Is S (plug C t) S.root 0 → ∃ x p, On S C x p ∧ Is S t x p
  | [], t, h => ⟨_, _, ⟨rfl, rfl⟩, h⟩
  | f :: C, t, h => by
    obtain ⟨x, p, ho, hi⟩ := plug_on S C _ h
    obtain ⟨rfl, h2, h3, h4, h5, h6, h7⟩ := (is_nod S f.d t f.i f.c f.s x p).1 hi
    exact ⟨_, _, ⟨rfl, h2, h3, h4, rfl, h7, h5 ▸ ho⟩, h6⟩
theorem ids_plug (C : Path) : ∀ (t : T) (x : Nat), x ∈ (plug C t).ids ↔ x ∈ t.ids ∨ x ∈ pids C := by
  induction C with
  | nil => intro t x; simp [plug, pids]
  | cons f C ih =>
    intro t x
    simp only [plug, ih, mem_nod, pids, Fr.ids, List.mem_append, List.mem_cons]
    constructor
    · rintro ((h | h | h) | h) <;> simp [h]
    · rintro (h | (h | h) | h) <;> simp [h]

/-- what was hung elsewhere: its root's 'up' alone has turned -/
theorem Is.reroot {S S' : TS} {t : T} {x p : Nat} (q : Nat) (hl : S'.n.length = S.n.length) (h : Is S t x p) (nd : t.ids.Nodup)
    (k : ∀ j ∈ t.ids, j ≠ x → S'.nd j = S.nd j) (kx : x ≠ 0 → S'.nd x = (S.nd x).setUp q) : Is S' t x q := by
  cases t with
  | nil => exact h
  | node l i c r =>
    obtain ⟨rfl, h2, h3, h4, h5, h6, h7⟩ := h
    have e := kx h2
    simp only [T.ids, List.nodup_append, List.nodup_cons, List.mem_cons] at nd
    refine ⟨rfl, h2, hl ▸ h3, by rw [e]; exact h4, by rw [e]; rfl, ?_, ?_⟩
    · rw [e]; exact Is.keep hl h6 (fun j hj => k j (by simp [T.ids, hj]) (fun hc => nd.2.2 j hj x (.inl rfl) hc))
    · rw [e]; exact Is.keep hl h7 (fun j hj => k j (by simp [T.ids, hj]) (fun hc => nd.2.1.1 (hc ▸ hj)))
theorem On.rehang {S S' : TS} {C : Path} {x p : Nat} (y : Nat) (hl : S'.n.length = S.n.length) (h : On S C x p) (nd : (pids C).Nodup)
    (hr : S'.root = if p = 0 then y else S.root) (k : ∀ j ∈ pids C, j ≠ p → S'.nd j = S.nd j)
    (kp : ∀ f C', C = f :: C' → S'.nd p = (S.nd p).setKid f.d y) : On S' C y p := by
  cases C with
  | nil => obtain ⟨rfl, rfl⟩ := h; exact ⟨by simpa using hr, rfl⟩
  | cons f C =>
    obtain ⟨rfl, h2, h3, h4, h5, h6, h7⟩ := h
    have e := kp f C rfl
    simp only [pids, Fr.ids, List.cons_append, List.nodup_cons, List.mem_append] at nd
    rw [if_neg h2] at hr
    refine ⟨rfl, h2, hl ▸ h3, by rw [e]; simpa using h4, by rw [e]; simp, ?_, ?_⟩
    · rw [e]
      have : (Nd.setKid f.d y (S.nd f.i)).kid (!f.d) = (S.nd f.i).kid (!f.d) := by rw [kid_setKid]; cases f.d <;> simp
      rw [this]
      exact Is.keep hl h6 (fun j hj => k j (by simp [pids, Fr.ids, hj]) (fun hc => nd.1 (.inl (hc ▸ hj))))
    · rw [e, up_setKid]
      exact On.keep hl hr h7 (fun j hj => k j (by simp [pids, hj]) (fun hc => nd.1 (.inr (hc ▸ hj))))
theorem is_zero {S : TS} {t : T} {p : Nat} (h : Is S t 0 p) : t = .nil := by
  cases t with
  | nil => rfl
  | node l i c r => exact absurd h.1.symm h.2.1
theorem is_mem {S : TS} {t : T} {x p : Nat} (h : Is S t x p) (hx : x ≠ 0) : x ∈ t.ids := by
  cases t with
  | nil => exact absurd h hx
  | node l i c r => rw [h.1]; simp [T.ids]
theorem is_lt {S : TS} {t : T} {x p : Nat} (h : Is S t x p) (hl : 0 < S.n.length) : x < S.n.length := by
  cases t with
  | nil => rw [show x = 0 from h]; exact hl
  | node l i c r => rw [h.1]; exact h.2.2.1
theorem ids_lt {S : TS} : ∀ {t : T} {x p : Nat}, Is S t x p → ∀ j ∈ t.ids, j ≠ 0 ∧ j < S.n.length
  | .nil, _, _, _, j, hj => by simp [T.ids] at hj
  | .node l i c r, x, p, h, j, hj => by
    obtain ⟨rfl, h2, h3, h4, h5, h6, h7⟩ := h
    simp only [T.ids, List.mem_append, List.mem_cons] at hj
    rcases hj with hj | rfl | hj
    · exact ids_lt h6 j hj
    · exact ⟨h2, h3⟩
    · exact ids_lt h7 j hj
theorem on_lt {S : TS} {C : Path} {x p : Nat} (h : On S C x p) (hl : 0 < S.n.length) : p < S.n.length := by
  cases C with
  | nil => rw [h.2]; exact hl
  | cons f C => rw [h.1]; exact h.2.2.1
theorem side_spec {S : TS} {f : Fr} {C : Path} {z p : Nat} (h : On S (f :: C) z p) (hz : z ≠ 0) (hu : (S.nd z).up = p) (hn : z ∉ f.s.ids) : side S z = f.d := by
  obtain ⟨rfl, h2, h3, h4, h5, h6, h7⟩ := h
  unfold side
  rw [hu]
  cases hd : f.d
  · rw [hd] at h5; simp [Nd.kid] at h5; simp [h5]
  · rw [hd] at h5 h6
    simp [Nd.kid] at h5 h6
    have : (S.nd f.i).k0 ≠ z := by
      intro hc
      rw [hc] at h6
      exact hn (is_mem h6 hz)
    simp [this]
/-- 'hang': the place z under p gets x -/
theorem hang_spec {S : TS} {C : Path} {z p : Nat} (x : Nat) (h : On S C z p) (hz : z ≠ 0) (hu : (S.nd z).up = p) (hzC : z ∉ pids C) (hx : x < S.n.length) (hxC : x ∉ pids C)
    (nd : (pids C).Nodup) (hl : 0 < S.n.length) :
    On (hang S x z) C x p ∧ (hang S x z).nd x = (S.nd x).setUp p ∧ (∀ j, j ≠ x → j ≠ p → (hang S x z).nd j = S.nd j) ∧ (hang S x z).n.length = S.n.length ∧
      (∀ j, ((hang S x z).nd j).load = (S.nd j).load) ∧ (∀ j, ((hang S x z).nd j).red = (S.nd j).red) ∧ (p = 0 → ∀ j, j ≠ x → (hang S x z).nd j = S.nd j) := by
  have hp := on_lt h hl
  cases C with
  | nil =>
    obtain ⟨rfl, rfl⟩ := h
    have e : hang S x S.root = (S.setRoot x).upd x (Nd.setUp 0) := by unfold hang; simp [hu]
    rw [e]
    have hk : ∀ j, ((S.setRoot x).upd x (Nd.setUp 0)).nd j = if x = j then (S.nd j).setUp 0 else S.nd j := fun j => by rw [nd_upd _ _ _ _ (by simpa using hx)]; simp
    refine ⟨⟨rfl, rfl⟩, by rw [hk]; simp, fun j h1 _ => by rw [hk, if_neg (Ne.symm h1)], by simp, fun j => ?_, fun j => ?_, fun _ j h1 => by rw [hk, if_neg (Ne.symm h1)]⟩
    · rw [hk]; split <;> simp
    · rw [hk]; split <;> simp
  | cons f C =>
    have hside := side_spec h hz hu (fun hc => hzC (by simp [pids, Fr.ids, hc]))
    have hpf := h.1
    have hp0 : p ≠ 0 := by rw [hpf]; exact h.2.1
    have e : hang S x z = (S.upd p (Nd.setKid f.d x)).upd x (Nd.setUp p) := by unfold hang; simp [hu, hp0, hside]
    have hxp : x ≠ p := fun hc => hxC (by simp [pids, Fr.ids, hc, hpf])
    have hk : ∀ j, (hang S x z).nd j = if x = j then (S.nd j).setUp p else if p = j then (S.nd j).setKid f.d x else S.nd j := fun j => by
      rw [e, nd_upd _ _ _ _ (by simpa using hx), nd_upd _ _ _ _ hp]
      by_cases h1 : x = j
      · subst h1; simp [Ne.symm hxp]
      · simp [h1]
    refine ⟨?_, by rw [hk]; simp, fun j h1 h2 => by rw [hk, if_neg (Ne.symm h1), if_neg (Ne.symm h2)], by rw [e]; simp, fun j => ?_, fun j => ?_, fun hc => absurd hc hp0⟩
    · refine On.rehang x (by rw [e]; simp) h nd (by rw [e]; simp [hp0]) (fun j hj hjp => ?_) (fun f' C' hc => ?_)
      · rw [hk, if_neg (fun hc => hxC (by rw [hc]; exact hj)), if_neg (Ne.symm hjp)]
      · injection hc with h1 h2
        subst h1
        rw [hk, if_neg hxp, if_pos rfl]
    · rw [hk]; split
      · simp
      · split <;> simp
    · rw [hk]; split
      · simp
      · split <;> simp
theorem nodup_nod {d : Bool} {a b : T} {i : Nat} {c : Bool} (h : (nod d a i c b).ids.Nodup) : a.ids.Nodup ∧ b.ids.Nodup ∧ i ∉ a.ids ∧ i ∉ b.ids ∧ ∀ j ∈ a.ids, j ∉ b.ids := by
  cases d
  · simp only [nod, Bool.false_eq_true, ↓reduceIte, T.ids, List.nodup_append, List.nodup_cons, List.mem_cons] at h
    exact ⟨h.1, h.2.1.2, fun hc => h.2.2 i hc i (.inl rfl) rfl, h.2.1.1, fun j hj hc => h.2.2 j hj j (.inr hc) rfl⟩
  · simp only [nod, ↓reduceIte, T.ids, List.nodup_append, List.nodup_cons, List.mem_cons] at h
    exact ⟨h.2.1.2, h.1, h.2.1.1, fun hc => h.2.2 i hc i (.inl rfl) rfl, fun j hj hc => h.2.2 j hc j (.inr hj) rfl⟩
/-- 'turn': y, the kid of x on the other side, comes up -/
theorem turn_spec {S : TS} {C : Path} {d : Bool} {a b c : T} {x y p : Nat} {cx cy : Bool} (ho : On S C x p) (hi : Is S (nod d a x cx (nod d b y cy c)) x p)
    (nd : ((nod d a x cx (nod d b y cy c)).ids ++ pids C).Nodup) (hl : 0 < S.n.length) :
    On (turn S x d) C y p ∧ Is (turn S x d) (nod d (nod d a x cx b) y cy c) y p ∧ (turn S x d).n.length = S.n.length ∧
      (∀ j, ((turn S x d).nd j).load = (S.nd j).load) ∧ (∀ j, ((turn S x d).nd j).red = (S.nd j).red) ∧ (turn S x d).nd 0 = S.nd 0 := by
  obtain ⟨_, x0, xl, xc, xu, ha, hy⟩ := (is_nod S d a x cx _ x p).1 hi
  obtain ⟨ey, y0, yl, yc, yu, hb, hc⟩ := (is_nod S d b y cy c _ x).1 hy
  rw [List.nodup_append] at nd
  obtain ⟨n1, n2, n3⟩ := nd
  have m1 := nodup_nod n1
  have m2 := nodup_nod m1.2.1
  obtain ⟨na, -, nxa, nxr, nar⟩ := m1
  obtain ⟨nb, nc, nyb, nyc, nbc⟩ := m2
  have xy : x ≠ y := fun h => nxr ((mem_nod ..).2 (.inr (.inl h)))
  have xC : x ∉ pids C := fun h => n3 x ((mem_nod ..).2 (.inr (.inl rfl))) x h rfl
  have yC : y ∉ pids C := fun h => n3 y ((mem_nod ..).2 (.inr (.inr ((mem_nod ..).2 (.inr (.inl rfl)))))) y h rfl
  have bC : ∀ j ∈ b.ids, j ∉ pids C := fun j hj h => n3 j ((mem_nod ..).2 (.inr (.inr ((mem_nod ..).2 (.inl hj))))) j h rfl
  have aC : ∀ j ∈ a.ids, j ∉ pids C := fun j hj h => n3 j ((mem_nod ..).2 (.inl hj)) j h rfl
  have cC : ∀ j ∈ c.ids, j ∉ pids C := fun j hj h => n3 j ((mem_nod ..).2 (.inr (.inr ((mem_nod ..).2 (.inr (.inr hj)))))) j h rfl
  have xb : x ∉ b.ids := fun h => nxr ((mem_nod ..).2 (.inl h))
  have xc' : x ∉ c.ids := fun h => nxr ((mem_nod ..).2 (.inr (.inr h)))
  have ya : y ∉ a.ids := fun h => nar y h ((mem_nod ..).2 (.inr (.inl rfl)))
  have ab : ∀ j ∈ a.ids, j ∉ b.ids := fun j h h' => nar j h ((mem_nod ..).2 (.inl h'))
  obtain ⟨g1, g2, g3, g4, g5, g6, g7⟩ := hang_spec y ho x0 xu xC yl yC n2 hl
  have pl := on_lt ho hl
  have pC : p ≠ 0 → p ∈ pids C := fun h => by
    cases C with
    | nil => exact absurd ho.2 h
    | cons f C => simp [pids, Fr.ids, ho.1]
  -- what the nodes are behind it
  generalize hi0 : (S.nd y).kid d = i at hb
  have il : i < S.n.length := is_lt hb hl
  have iy : i ≠ y := fun h => nyb (h ▸ is_mem hb (h ▸ y0))
  have ix : i ≠ x := fun h => xb (h ▸ is_mem hb (h ▸ x0))
  have eT : turn S x d = ((if i = 0 then (hang S y x).upd x (Nd.setKid (!d) i) else ((hang S y x).upd x (Nd.setKid (!d) i)).upd i (Nd.setUp x)).upd y (Nd.setKid d x)).upd x (Nd.setUp y) := by
    unfold turn; simp only [ey, hi0]
  have hlen : (turn S x d).n.length = S.n.length := by rw [eT]; split <;> simp [g4]
  have hk : ∀ j, (turn S x d).nd j = if x = j then (((hang S y x).nd j).setKid (!d) i).setUp y else if y = j then ((hang S y x).nd j).setKid d x else if i = j ∧ i ≠ 0 then ((hang S y x).nd j).setUp x else (hang S y x).nd j := by
    intro j
    rw [eT, nd_upd _ _ _ _ (by split <;> simp [g4, xl]), nd_upd _ _ _ _ (by split <;> simp [g4, yl])]
    by_cases i0 : i = 0
    · rw [if_pos i0, nd_upd _ _ _ _ (by simp [g4, xl])]
      by_cases e1 : x = j
      · subst e1; simp [Ne.symm xy]
      · by_cases e2 : y = j <;> simp [e1, e2, i0]
    · rw [if_neg i0, nd_upd _ _ _ _ (by simp [g4, il]), nd_upd _ _ _ _ (by simp [g4, xl])]
      by_cases e1 : x = j
      · subst e1; simp [Ne.symm xy, ix]
      · by_cases e2 : y = j
        · subst e2; simp [xy, iy]
        · by_cases e3 : i = j
          · subst e3; simp [e1, e2, i0]
          · simp [e1, e2, e3]
  have kx : (turn S x d).nd x = ((S.nd x).setKid (!d) i).setUp y := by rw [hk, if_pos rfl, g3 x xy (fun h => by by_cases hp : p = 0; exact x0 (h.trans hp); exact xC (h ▸ pC hp))]
  have ky : (turn S x d).nd y = ((S.nd y).setUp p).setKid d x := by rw [hk, if_neg xy, if_pos rfl, g2]
  have ki : i ≠ 0 → (turn S x d).nd i = (S.nd i).setUp x := fun h => by
    rw [hk, if_neg (Ne.symm ix), if_neg (Ne.symm iy), if_pos ⟨rfl, h⟩, g3 i iy (fun hc => by
      have := is_mem hb h
      exact bC i this (hc ▸ pC (hc ▸ h)))]
  have kj : ∀ j, j ≠ 0 → j ∉ pids C → j ≠ x → j ≠ y → j ≠ i → (turn S x d).nd j = S.nd j := fun j j0 jC jx jy ji => by
    rw [hk, if_neg (Ne.symm jx), if_neg (Ne.symm jy), if_neg (fun hc => ji hc.1.symm), g3 j jy (fun hc => jC (hc ▸ pC (hc ▸ j0)))]
  have kC : ∀ j ∈ pids C, (turn S x d).nd j = (hang S y x).nd j := fun j jC => by
    rw [hk, if_neg (fun hc => xC (by rw [hc]; exact jC)), if_neg (fun hc => yC (by rw [hc]; exact jC)), if_neg (fun hc => bC i (is_mem hb hc.2) (by rw [hc.1]; exact jC))]
  refine ⟨On.keep (hlen.trans g4.symm) (by rw [eT]; split <;> simp) g1 kC, ?_, hlen, fun j => ?_, fun j => ?_, ?_⟩
  · refine (is_nod ..).2 ⟨rfl, y0, hlen ▸ yl, by rw [ky]; simpa using yc, by rw [ky]; simp, ?_, ?_⟩
    · rw [ky]
      refine (is_nod ..).2 ⟨by simp, x0, hlen ▸ xl, by rw [kx]; simpa using xc, by rw [kx]; simp, ?_, ?_⟩
      · rw [kx]
        have : (((S.nd x).setKid (!d) i).setUp y).kid d = (S.nd x).kid d := by rw [kid_setUp, kid_setKid]; cases d <;> simp
        rw [this]
        exact Is.keep hlen ha (fun j hj => kj j (ids_lt ha j hj).1 (aC j hj) (fun h => nxa (h ▸ hj)) (fun h => ya (h ▸ hj)) (fun h => by
          by_cases i0 : i = 0
          · exact (ids_lt ha j hj).1 (h.trans i0)
          · exact ab j hj (h ▸ is_mem hb i0)))
      · rw [kx, kid_setUp, kid_setKid, if_pos rfl]
        exact Is.reroot x hlen hb nb (fun j hj hji => kj j (ids_lt hb j hj).1 (bC j hj) (fun h => xb (h ▸ hj)) (fun h => nyb (h ▸ hj)) hji) ki
    · rw [ky]
      have : (((S.nd y).setUp p).setKid d x).kid (!d) = (S.nd y).kid (!d) := by rw [kid_setKid]; cases d <;> simp
      rw [this]
      exact Is.keep hlen hc (fun j hj => kj j (ids_lt hc j hj).1 (cC j hj) (fun h => xc' (h ▸ hj)) (fun h => nyc (h ▸ hj)) (fun h => by
          by_cases i0 : i = 0
          · exact (ids_lt hc j hj).1 (h.trans i0)
          · exact nbc i (is_mem hb i0) (h ▸ hj)))
  · rw [hk]; repeat' split
    all_goals simp [g5]
  · rw [hk]; repeat' split
    all_goals simp [g6]
  · rw [hk, if_neg x0, if_neg y0, if_neg (fun h => h.2 h.1)]
    by_cases hp : p = 0
    · exact g7 hp 0 (Ne.symm y0)
    · exact g3 0 (Ne.symm y0) (Ne.symm hp)

/-! ### A place in a tree -/
structure Here (S : TS) (C : Path) (t : T) (x p : Nat) : Prop where
  on : On S C x p
  is : Is S t x p
  nd : (t.ids ++ pids C).Nodup
  len : 0 < S.n.length
/-- nothing but links and colours has turned -/
structure Same (S S' : TS) : Prop where
  len : S'.n.length = S.n.length
  load : ∀ j, (S'.nd j).load = (S.nd j).load
  zero : S'.nd 0 = S.nd 0
theorem Same.refl (S : TS) : Same S S := ⟨rfl, fun _ => rfl, rfl⟩
theorem Same.trans {S S' S'' : TS} (h : Same S S') (k : Same S' S'') : Same S S'' := ⟨k.len.trans h.len, fun j => (k.load j).trans (h.load j), k.zero.trans h.zero⟩
theorem nod_not (d : Bool) (a : T) (i : Nat) (c : Bool) (b : T) : nod d a i c b = nod (!d) b i c a := by cases d <;> rfl
theorem perm_nod (d : Bool) (a : T) (i : Nat) (c : Bool) (b : T) : (nod d a i c b).ids.Perm (a.ids ++ (i :: b.ids)) := by
  cases d
  · exact List.Perm.refl _
  · simp only [nod, ↓reduceIte, T.ids]
    refine (List.perm_append_comm).trans ?_
    simp only [List.cons_append]
    exact (List.perm_middle).symm
theorem nodup_down (d : Bool) (a : T) (i : Nat) (c : Bool) (b : T) (C : Path) :
    ((nod d a i c b).ids ++ pids C).Nodup ↔ (a.ids ++ pids (⟨d, i, c, b⟩ :: C)).Nodup := by
  refine List.Perm.nodup_iff ?_
  refine ((perm_nod d a i c b).append_right _).trans ?_
  simp [pids, Fr.ids]
theorem Here.down {S : TS} {C : Path} {d : Bool} {a b : T} {i : Nat} {c : Bool} {x p : Nat} (h : Here S C (nod d a i c b) x p) : Here S (⟨d, i, c, b⟩ :: C) a ((S.nd i).kid d) i := by
  obtain ⟨rfl, h2, h3, h4, h5, h6, h7⟩ := (is_nod ..).1 h.is
  exact ⟨⟨rfl, h2, h3, h4, rfl, h7, h5 ▸ h.on⟩, h6, (nodup_down ..).1 h.nd, h.len⟩
theorem Here.up {S : TS} {C : Path} {d : Bool} {a b : T} {i : Nat} {c : Bool} {x p : Nat} (h : Here S (⟨d, i, c, b⟩ :: C) a x p) : Here S C (nod d a i c b) p (S.nd p).up ∧ p = i ∧ i ≠ 0 ∧ (S.nd i).kid d = x := by
  obtain ⟨h1, h2, h3, h4, h5, h6, h7⟩ := h.on
  simp only at h1 h2 h3 h4 h5 h6 h7
  subst h1
  exact ⟨⟨h7, (is_nod ..).2 ⟨rfl, h2, h3, h4, rfl, h5.symm ▸ h.is, h6⟩, (nodup_down ..).2 h.nd, h.len⟩, rfl, h2, h5⟩
theorem Here.other {S : TS} {C : Path} {d : Bool} {a b : T} {i : Nat} {c : Bool} {x p : Nat} (h : Here S (⟨d, i, c, b⟩ :: C) a x p) : Here S (⟨!d, i, c, a⟩ :: C) b ((S.nd i).kid (!d)) i := by
  have := h.up.1
  rw [nod_not] at this
  exact this.down
theorem Here.root {S : TS} {C : Path} {d : Bool} {a b : T} {i : Nat} {c : Bool} {x p : Nat} (h : Here S C (nod d a i c b) x p) : x = i ∧ i ≠ 0 ∧ (S.nd i).red = c ∧ (S.nd i).up = p ∧ i < S.n.length := by
  obtain ⟨rfl, h2, h3, h4, h5, h6, h7⟩ := (is_nod ..).1 h.is
  exact ⟨rfl, h2, h4, h5, h3⟩
theorem Here.recolor {S : TS} {C : Path} {d : Bool} {a b : T} {i : Nat} {c : Bool} {x p : Nat} (e : Bool) (h : Here S C (nod d a i c b) x p) :
    Here (S.upd i (Nd.setRed e)) C (nod d a i e b) x p ∧ Same S (S.upd i (Nd.setRed e)) := by
  obtain ⟨rfl, h2, h3, h4, h5, h6, h7⟩ := (is_nod ..).1 h.is
  have n0 := (nodup_down ..).1 h.nd
  have nm := List.nodup_append.1 h.nd
  have n1 := nodup_nod nm.1
  have hk : ∀ j, (S.upd x (Nd.setRed e)).nd j = if x = j then (S.nd j).setRed e else S.nd j := fun j => nd_upd _ _ _ _ h3
  have hx : (S.upd x (Nd.setRed e)).nd x = (S.nd x).setRed e := by rw [hk, if_pos rfl]
  refine ⟨⟨On.keep (S := S) (S' := S.upd x (Nd.setRed e)) (by simp) rfl h.on (fun j hj => ?_), (is_nod ..).2 ⟨rfl, h2, by simpa using h3, by rw [hx]; rfl, by rw [hx]; exact h5, ?_, ?_⟩, ?_, by simpa using h.len⟩, ⟨by simp, fun j => ?_, ?_⟩⟩
  · rw [hk, if_neg (fun hc => nm.2.2 x ((mem_nod ..).2 (.inr (.inl rfl))) j hj hc)]
  · rw [hx]; exact Is.keep (S := S) (by simp) h6 (fun j hj => by rw [hk, if_neg (fun hc => n1.2.2.1 (by rw [hc]; exact hj))])
  · rw [hx]; exact Is.keep (S := S) (by simp) h7 (fun j hj => by rw [hk, if_neg (fun hc => n1.2.2.2.1 (by rw [hc]; exact hj))])
  · exact (nodup_down ..).2 (by simpa [pids, Fr.ids] using n0)
  · rw [hk]; split <;> simp
  · rw [hk, if_neg h2]
theorem Here.turn {S : TS} {C : Path} {d : Bool} {a b c : T} {x y x' p : Nat} {cx cy : Bool} (h : Here S C (nod d a x cx (nod d b y cy c)) x' p) :
    Here (turn S x d) C (nod d (nod d a x cx b) y cy c) y p ∧ Same S (turn S x d) := by
  obtain rfl := h.root.1
  obtain ⟨h1, h2, h3, h4, h5, h6⟩ := turn_spec h.on h.is h.nd h.len
  refine ⟨⟨h1, h2, ?_, h3 ▸ h.len⟩, ⟨h3, h4, h6⟩⟩
  refine (List.Perm.nodup_iff (List.Perm.append_right _ ?_)).1 h.nd
  cases d <;> simp [nod, T.ids]
theorem ids_turn (d : Bool) (a b c : T) (x y : Nat) (cx cy cx' cy' : Bool) : (nod d (nod d a x cx b) y cy c).ids = (nod d a x cx' (nod d b y cy' c)).ids := by
  cases d <;> simp [nod, T.ids]
theorem ids_nod_congr {d : Bool} {a a' b b' : T} {i : Nat} {c c' : Bool} (h : a.ids = a'.ids) (h' : b.ids = b'.ids) : (nod d a i c b).ids = (nod d a' i c' b').ids := by
  cases d <;> simp [nod, T.ids, h, h']
theorem ids_plug_congr {t t' : T} (h : t.ids = t'.ids) : ∀ C, (plug C t).ids = (plug C t').ids := by
  intro C
  induction C generalizing t t' with
  | nil => exact h
  | cons f C ih => exact ih (ids_nod_congr h rfl)

/-! ### Red and black -/
inductive RB : T → Bool → Nat → Prop
  | nil : RB .nil false 0
  | red {l r : T} {i n : Nat} : RB l false n → RB r false n → RB (.node l i true r) true n
  | black {l r : T} {i n : Nat} {cl cr : Bool} : RB l cl n → RB r cr n → RB (.node l i false r) false (n + 1)
theorem rb_red {d : Bool} {a b : T} {i n : Nat} (h : RB a false n) (k : RB b false n) : RB (nod d a i true b) true n := by
  cases d
  · exact .red h k
  · exact .red k h
theorem rb_black {d : Bool} {a b : T} {i n : Nat} {ca cb : Bool} (h : RB a ca n) (k : RB b cb n) : RB (nod d a i false b) false (n + 1) := by
  cases d
  · exact .black h k
  · exact .black k h
/-- a tree is nothing, or a node, seen from whichever side -/
theorem T.as_nod (d : Bool) (t : T) : t = .nil ∨ ∃ a i c b, t = nod d a i c b := by
  cases t with
  | nil => exact .inl rfl
  | node l i c r =>
    cases d
    · exact .inr ⟨l, i, c, r, rfl⟩
    · exact .inr ⟨r, i, c, l, rfl⟩
theorem rb_nod_red {d : Bool} {a b : T} {i n : Nat} {c : Bool} (h : RB (nod d a i true b) c n) : c = true ∧ RB a false n ∧ RB b false n := by
  cases d
  · cases h with | red h k => exact ⟨rfl, h, k⟩
  · cases h with | red h k => exact ⟨rfl, k, h⟩
theorem rb_nod_black {d : Bool} {a b : T} {i n : Nat} {c : Bool} (h : RB (nod d a i false b) c n) : c = false ∧ ∃ m ca cb, n = m + 1 ∧ RB a ca m ∧ RB b cb m := by
  cases d
  · cases h with | black h k => exact ⟨rfl, _, _, _, rfl, h, k⟩
  · cases h with | black h k => exact ⟨rfl, _, _, _, rfl, k, h⟩
theorem rb_true {d : Bool} {t : T} {n : Nat} (h : RB t true n) : ∃ a i b, t = nod d a i true b ∧ RB a false n ∧ RB b false n := by
  cases h with
  | red h k =>
    cases d
    · exact ⟨_, _, _, rfl, h, k⟩
    · exact ⟨_, _, _, rfl, k, h⟩
theorem rb_false_succ {d : Bool} {t : T} {n : Nat} (h : RB t false (n + 1)) : ∃ a i b ca cb, t = nod d a i false b ∧ RB a ca n ∧ RB b cb n := by
  cases h with
  | black h k =>
    cases d
    · exact ⟨_, _, _, _, _, rfl, h, k⟩
    · exact ⟨_, _, _, _, _, rfl, k, h⟩
/-- the colour that stands in the array -/
theorem Here.red {S : TS} {C : Path} {t : T} {x p n : Nat} {c : Bool} (h : Here S C t x p) (k : RB t c n) (h0 : (S.nd 0).red = false) : (S.nd x).red = c := by
  cases k with
  | nil => rw [show x = 0 from h.is]; exact h0
  | red _ _ => have := Here.root (d := false) h; rw [this.1, this.2.2.1]
  | black _ _ => have := Here.root (d := false) h; rw [this.1, this.2.2.1]
def TopBlack (C : Path) : Prop := ∃ f C', C = f :: C' ∧ f.c = false
/-- a path whose place wants so many black ones on each way below it -/
def POK : Path → Nat → Prop
  | [], _ => True
  | f :: C, n => (f.c = true ∧ RB f.s false n ∧ TopBlack C ∧ POK C n) ∨ (f.c = false ∧ (∃ c, RB f.s c n) ∧ POK C (n + 1))
theorem plug_rb : ∀ (C : Path) {t : T} {c : Bool} {n : Nat}, POK C n → RB t c n → (c = true → C = [] ∨ TopBlack C) → ∃ c' m, RB (plug C t) c' m ∧ (c' = true → C = [] ∧ c = true)
  | [], t, c, n, _, h, _ => ⟨c, n, h, fun e => ⟨rfl, e⟩⟩
  | f :: C, t, c, n, hp, h, hc => by
    rcases hp with ⟨f1, f2, f3, f4⟩ | ⟨f1, ⟨cs, f2⟩, f3⟩
    · have e : c = false := by
        cases c
        · rfl
        · rcases hc rfl with h' | ⟨g, C', h', k⟩
          · cases h'
          · cases h'; rw [f1] at k; cases k
      subst e
      obtain ⟨c', m, h1, h2⟩ := plug_rb C f4 (rb_red (d := f.d) (i := f.i) h f2) (fun _ => .inr f3)
      refine ⟨c', m, by simpa [plug, f1] using h1, fun e => ?_⟩
      obtain ⟨e1, _⟩ := h2 e
      obtain ⟨g, C', h', _⟩ := f3
      rw [e1] at h'; cases h'
    · obtain ⟨c', m, h1, h2⟩ := plug_rb C f3 (rb_black (d := f.d) (i := f.i) h f2) (fun h => by cases h)
      refine ⟨c', m, by simpa [plug, f1] using h1, fun e => ?_⟩
      obtain ⟨_, e2⟩ := h2 e
      cases e2
/-- a whole tree: it stands in S, red and black as it should be -/
def Good (S : TS) (t : T) : Prop := Is S t S.root 0 ∧ t.ids.Nodup ∧ (∃ n, RB t false n) ∧ 0 < S.n.length ∧ (S.nd 0).red = false
theorem nodup_plug (C : Path) : ∀ (t : T), (t.ids ++ pids C).Nodup ↔ (plug C t).ids.Nodup := by
  induction C with
  | nil => intro t; simp [pids, plug]
  | cons f C ih => intro t; rw [← nodup_down f.d t f.i f.c f.s C, ih]; rfl
theorem Here.whole {S : TS} {C : Path} {t : T} {x p : Nat} (h : Here S C t x p) : Here S [] (plug C t) S.root 0 :=
  ⟨⟨rfl, rfl⟩, on_plug _ _ _ _ _ h.on h.is, by simpa [pids] using (nodup_plug C t).1 h.nd, h.len⟩

/-! ### settle -/
def settle : Nat → TS → Nat → Option TS
  | 0, _, _ => none
  | k + 1, S, z =>
    let p := (S.nd z).up
    if (S.nd p).red then
      let g := (S.nd p).up
      let d := side S p
      let u := (S.nd g).kid (!d)
      if (S.nd u).red then
        settle k (((S.upd p (Nd.setRed false)).upd u (Nd.setRed false)).upd g (Nd.setRed true)) g
      else
        let S1 := if side S z = d then S else turn S p d
        let z1 := if side S z = d then z else p
        let p1 := if side S z = d then p else (S1.nd z1).up
        settle k (turn ((S1.upd p1 (Nd.setRed false)).upd g (Nd.setRed true)) g (!d)) z1
    else some (S.upd S.root (Nd.setRed false))
/-- what 'settle' and 'lift' leave: the same nodes in the same order, a tree as it should be -/
structure Done (S S' : TS) (l : List Nat) (t : T) : Prop where
  is : Is S' t S'.root 0
  ids : t.ids = l
  rb : ∃ n, RB t false n
  same : Same S S'
theorem rb_blacken {t : T} {c : Bool} {n : Nat} (h : RB t c n) : ∃ l i c' r, (t = .nil ∨ t = .node l i c' r) := by
  cases h
  · exact ⟨.nil, 0, false, .nil, .inl rfl⟩
  · exact ⟨_, _, _, _, .inr rfl⟩
  · exact ⟨_, _, _, _, .inr rfl⟩
/-- the end of both: the root is made black -/
theorem done_root {S : TS} {C : Path} {t : T} {x p n : Nat} {c : Bool} (h : Here S C t x p) (hp : POK C n) (hr : RB t c n) (hc : c = true → C = [] ∨ TopBlack C) (hne : plug C t ≠ .nil) :
    ∃ t', Done S (S.upd S.root (Nd.setRed false)) (plug C t).ids t' := by
  obtain ⟨c', m, hrb, _⟩ := plug_rb C hp hr hc
  have hw := h.whole
  generalize plug C t = T at hrb hw hne
  cases hrb with
  | nil => exact absurd rfl hne
  | @red l r i _ h1 h2 =>
    obtain ⟨k1, k2⟩ := Here.recolor (d := false) false hw
    have hx := (Here.root (d := false) hw).1
    rw [hx]
    refine ⟨.node l i false r, ?_, ?_, ⟨_, .black h1 h2⟩, k2⟩
    · have := k1.is; rw [hx] at this; exact (by rw [root_upd, hx]; exact this)
    · rfl
  | @black l r i _ _ _ h1 h2 =>
    obtain ⟨k1, k2⟩ := Here.recolor (d := false) false hw
    have hx := (Here.root (d := false) hw).1
    rw [hx]
    refine ⟨.node l i false r, ?_, ?_, ⟨_, .black h1 h2⟩, k2⟩
    · have := k1.is; rw [hx] at this; exact (by rw [root_upd, hx]; exact this)
    · rfl
theorem Done.pre {S S1 S' : TS} {l l' : List Nat} {t : T} (h : Done S1 S' l t) (k : Same S S1) (e : l = l') : Done S S' l' t :=
  ⟨h.is, h.ids.trans e, h.rb, k.trans h.same⟩
theorem plug_ne (C : Path) : ∀ (t : T), t ≠ .nil → plug C t ≠ .nil := by
  induction C with
  | nil => intro t h; exact h
  | cons f C ih => intro t _; exact ih _ (by cases f.d <;> simp [nod])
theorem nod_ne {d : Bool} {a b : T} {i : Nat} {c : Bool} : nod d a i c b ≠ .nil := by cases d <;> simp [nod]
theorem kid_red (S : TS) (i j : Nat) (c d : Bool) (h : i < S.n.length) : ((S.upd i (Nd.setRed c)).nd j).kid d = (S.nd j).kid d := by
  rw [nd_upd _ _ _ _ h]; split <;> simp
theorem up_red (S : TS) (i j : Nat) (c : Bool) (h : i < S.n.length) : ((S.upd i (Nd.setRed c)).nd j).up = (S.nd j).up := by
  rw [nd_upd _ _ _ _ h]; split <;> simp
/-- the last part: z red on the side d of p red on the side d of g black, the uncle black -/
theorem settle_turn (k : Nat) {S : TS} {C : Path} {d : Bool} {t s us : T} {z p g gp n : Nat} {cu : Bool}
    (h : Here S C (nod d (nod d t p true s) g false us) g gp) (ht : Here S (⟨d, p, true, s⟩ :: ⟨d, g, false, us⟩ :: C) t z p) (hr : RB t true n) (hs : RB s false n) (hu : RB us cu n) (hcu : cu = false)
    (hp : POK C (n + 1)) :
    ∃ S' t', settle (k + 1) (turn ((S.upd p (Nd.setRed false)).upd g (Nd.setRed true)) g (!d)) z = some S' ∧ Done S S' (plug C (nod d (nod d t p true s) g false us)).ids t' := by
  subst hcu
  obtain ⟨h1, s1⟩ := Here.recolor false ht.up.1
  have h1' := h1.up.1
  have eg : ((S.upd p (Nd.setRed false)).nd g).up = gp := by
    have e1 := h.root.2.2.2.1
    have hpg : p ≠ g := by
      intro e
      have := (nodup_down ..).1 h.nd
      rw [List.nodup_append] at this
      exact this.2.2 p ((mem_nod ..).2 (.inr (.inl rfl))) g (by simp [pids, Fr.ids]) e
    rw [nd_upd _ _ _ _ (by have := h.down.root.2.2.2.2; exact this), if_neg hpg]; exact e1
  have hg0 : (S.nd p).up = g := ht.up.1.on.1
  rw [hg0, eg] at h1'
  obtain ⟨h2, s2⟩ := Here.recolor true h1'
  rw [nod_not d _ g, nod_not d t p] at h2
  obtain ⟨h3, s3⟩ := h2.turn
  -- z stands below p, which is black
  generalize turn ((S.upd p (Nd.setRed false)).upd g (Nd.setRed true)) g (!d) = S3 at h3 s3
  rw [nod_not (!d) _ p, Bool.not_not] at h3
  have hz := h3.down
  have hsame := (s1.trans s2).trans s3
  have hzk : (S3.nd p).kid d = z := by
    have a1 := hz.is
    have a2 := ht.is
    cases hr with | red _ _ => exact a1.1.trans a2.1.symm
  rw [hzk] at hz
  have hup : (S3.nd z).up = p := by
    cases hr with | red _ _ => have := Here.root (d := false) hz; rw [this.1]; exact this.2.2.2.1
  have hpb : (S3.nd p).red = false := h3.root.2.2.1
  have hrb := rb_black (d := d) (i := p) hr (rb_red (d := !d) (i := g) hu hs)
  obtain ⟨t', hd⟩ := done_root h3 hp hrb (fun e => by cases e) (plug_ne C _ nod_ne)
  refine ⟨_, t', ?_, hd.pre hsame (ids_plug_congr ?_ C)⟩
  · unfold settle; simp [hup, hpb]
  · rw [nod_not d _ g]
    simp only [nod_not d t p]
    exact ids_turn (!d) us s t g p true false false true
theorem settle_spec : ∀ (m : Nat) {S : TS} {C : Path} {t : T} {z p n : Nat}, C.length ≤ m → Here S C t z p → RB t true n → POK C n → (S.nd 0).red = false →
    ∃ k S' t', settle k S z = some S' ∧ Done S S' (plug C t).ids t' := by
  intro m
  induction m with
  | zero =>
    intro S C t z p n hm h hr hp h0
    obtain rfl : C = [] := by cases C <;> simp_all
    have hup : (S.nd z).up = 0 := by cases hr with | red _ _ => have := Here.root (d := false) h; rw [this.1]; exact this.2.2.2.1.trans h.on.2
    obtain ⟨t', hd⟩ := done_root h hp hr (fun _ => .inl rfl) (by cases hr; simp [plug])
    exact ⟨1, _, t', by unfold settle; simp [hup, h0], hd⟩
  | succ m ih =>
    intro S C t z p n hm h hr hp h0
    have hup : (S.nd z).up = p := by cases hr with | red _ _ => have := Here.root (d := false) h; rw [this.1]; exact this.2.2.2.1
    have hz0 : z ≠ 0 := by cases hr with | red _ _ => have := Here.root (d := false) h; rw [this.1]; exact this.2.1
    have hzt : z ∈ t.ids := is_mem h.is hz0
    have htn : t ≠ .nil := by cases hr; simp
    cases C with
    | nil =>
      obtain ⟨t', hd⟩ := done_root h hp hr (fun _ => .inl rfl) (by cases hr; simp [plug])
      exact ⟨1, _, t', by unfold settle; simp [hup, h.on.2, h0], hd⟩
    | cons f C =>
      obtain ⟨dp, p', cp, s⟩ := f
      obtain ⟨hu1, rfl, hp0, hkid⟩ := h.up
      have hpr : (S.nd p).red = cp := hu1.root.2.2.1
      rcases hp with ⟨f1, f2, f3, f4⟩ | ⟨f1, f2, f3⟩
      · -- p is red
        simp only at f1 f2
        subst f1
        obtain ⟨fg, C2, rfl, fgc⟩ := f3
        obtain ⟨dg, g, cg, us⟩ := fg
        simp only at fgc
        subst fgc
        rcases f4 with ⟨e1, _⟩ | ⟨_, ⟨cu, hus⟩, hp2⟩
        · cases e1
        simp only at hus
        obtain ⟨hu2, hgg, hg0, hgk⟩ := hu1.up
        have hside : side S p = dg := side_spec hu1.on hp0 rfl (fun hc => by
          have := hu1.nd
          rw [List.nodup_append] at this
          exact this.2.2 p ((mem_nod ..).2 (.inr (.inl rfl))) p (by simp [pids, Fr.ids, hc]) rfl)
        have hsz : side S z = dp := side_spec h.on hz0 hup (fun hc => by
          have := h.nd
          rw [List.nodup_append] at this
          exact this.2.2 z hzt z (by simp [pids, Fr.ids, hc]) rfl)
        have hou := hu1.other
        have hur := hou.red hus h0
        have hpl : p < S.n.length := hu1.root.2.2.2.2
        rw [hgg] at hu2
        cases cu with
        | true =>
          obtain ⟨ua, ui, ub, rfl, ra, rb⟩ := rb_true (d := false) hus
          obtain ⟨hA, sA⟩ := Here.recolor false hu1
          have hB0 := hA.other
          have eu : (S.nd g).kid (!dg) = ui := hou.root.1
          rw [kid_red _ _ _ _ _ hpl, eu] at hB0
          obtain ⟨hB, sB⟩ := Here.recolor false hB0
          obtain ⟨hC, sC⟩ := Here.recolor true hB.up.1
          have hr' : RB (nod (!dg) (nod false ua ui false ub) g true (nod dp t p false s)) true (n + 1) := rb_red (rb_black ra rb) (rb_black hr f2)
          obtain ⟨k, S', t', e1, e2⟩ := ih (C := C2) (by simp at hm; omega) hC hr' hp2 (by rw [((sA.trans sB).trans sC).zero]; exact h0)
          refine ⟨k + 1, S', t', ?_, e2.pre ((sA.trans sB).trans sC) ?_⟩
          · unfold settle; simp only [hup, hpr, hgg, hside, eu, ↓reduceIte]
            rw [eu] at hur
            simp only [hur, ↓reduceIte]; exact e1
          · simp only [plug]
            refine ids_plug_congr ?_ C2
            rw [nod_not dg _ g]
            exact ids_nod_congr (ids_nod_congr rfl rfl) (ids_nod_congr rfl rfl)
        | false =>
          by_cases hd : dp = dg
          · subst hd
            obtain ⟨S', t', e1, e2⟩ := settle_turn 0 hu2 h hr f2 hus rfl hp2
            refine ⟨2, S', t', ?_, e2⟩
            unfold settle
            simp only [hup, hpr, hgg, hside, hsz, hur, ↓reduceIte, Bool.false_eq_true]
            exact e1
          · have hd' : dp = !dg := by cases dp <;> cases dg <;> simp_all
            subst hd'
            obtain ⟨b, zi, c, rfl, rb, rc⟩ := rb_true (d := dg) hr
            obtain rfl : z = zi := h.root.1
            have hu1' := hu1
            rw [nod_not (!dg) _ p, Bool.not_not] at hu1'
            obtain ⟨hT, sT⟩ := hu1'.turn
            rw [hgg] at hT
            have hT1 := hT.down
            have hkp : ((turn S p dg).nd z).kid dg = p := (hT1.root).1
            rw [hkp] at hT1
            have hup1 : ((turn S p dg).nd p).up = z := hT1.root.2.2.2.1
            obtain ⟨S', t', e1, e2⟩ := settle_turn 0 hT.up.1 hT1 (rb_red f2 rb) rc hus rfl hp2
            refine ⟨2, S', t', ?_, e2.pre sT ?_⟩
            · unfold settle
              simp only [hup, hpr, hgg, hside, hsz, hur, ↓reduceIte, Bool.false_eq_true, hd, hup1]
              exact e1
            · simp only [plug]
              refine ids_plug_congr (ids_nod_congr ?_ rfl) C2
              rw [nod_not (!dg) _ p, Bool.not_not]
              exact ids_turn dg s b c p z true true true true
      · -- p is black
        simp only at f1
        subst f1
        obtain ⟨t', hd⟩ := done_root h (.inr ⟨rfl, f2, f3⟩) hr (fun _ => .inr ⟨_, _, rfl, rfl⟩) (plug_ne _ _ htn)
        exact ⟨1, _, t', by unfold settle; simp [hup, hpr], hd⟩

/-! ### lift -/
def lift : Nat → TS → Nat → Option TS
  | 0, _, _ => none
  | k + 1, S, x =>
    if x ≠ S.root ∧ (S.nd x).red = false then
      let p := (S.nd x).up
      let d : Bool := !((S.nd p).k0 == x)
      let w0 := (S.nd p).kid (!d)
      let S1 := if (S.nd w0).red then turn ((S.upd w0 (Nd.setRed false)).upd p (Nd.setRed true)) p d else S
      let w := (S1.nd p).kid (!d)
      if (S1.nd ((S1.nd w).kid false)).red = false ∧ (S1.nd ((S1.nd w).kid true)).red = false then
        lift k (S1.upd w (Nd.setRed true)) p
      else
        let far := (S1.nd w).kid (!d)
        let S2 := if (S1.nd far).red then S1 else turn ((S1.upd ((S1.nd w).kid d) (Nd.setRed false)).upd w (Nd.setRed true)) w (!d)
        let v := (S2.nd p).kid (!d)
        let S3 := (S2.upd v (Nd.setRed (S2.nd p).red)).upd p (Nd.setRed false)
        let S4 := turn (S3.upd ((S3.nd v).kid (!d)) (Nd.setRed false)) p d
        lift k S4 S4.root
    else some (S.upd x (Nd.setRed false))
theorem root_mem {S : TS} : ∀ {C : Path} {f : Fr} {x p : Nat}, On S (f :: C) x p → S.root ∈ pids (f :: C)
  | [], f, x, p, h => by
    have := h.2.2.2.2.2.2.1
    simp [pids, Fr.ids, this]
  | g :: C, f, x, p, h => by
    have := root_mem h.2.2.2.2.2.2
    rw [pids]
    exact List.mem_append_right _ this
theorem path_ne0 {S : TS} : ∀ {C : Path} {x p : Nat}, On S C x p → ∀ j ∈ pids C, j ≠ 0
  | [], _, _, _, j, hj => by simp [pids] at hj
  | f :: C, x, p, h, j, hj => by
    obtain ⟨h1, h2, h3, h4, h5, h6, h7⟩ := h
    simp only [pids, Fr.ids, List.cons_append, List.mem_cons, List.mem_append] at hj
    rcases hj with rfl | hj | hj
    · exact h2
    · exact (ids_lt h6 j hj).1
    · exact path_ne0 h7 j hj
theorem Here.ne_root {S : TS} {C : Path} {f : Fr} {t : T} {x p : Nat} (h : Here S (f :: C) t x p) : x ≠ S.root := by
  intro e
  have hm := root_mem h.on
  by_cases hx : x = 0
  · exact path_ne0 h.on _ hm (e ▸ hx)
  · have := (List.nodup_append.1 h.nd).2.2 x (is_mem h.is hx) S.root hm
    exact this e
theorem Here.dir {S : TS} {C : Path} {d c : Bool} {i : Nat} {s t : T} {x p : Nat} (h : Here S (⟨d, i, c, s⟩ :: C) t x p) (hs : s ≠ .nil) : (!((S.nd p).k0 == x)) = d := by
  obtain ⟨h1, h2, h3, h4, h5, h6, h7⟩ := h.on
  simp only at h1 h5 h6
  subst h1
  cases d
  · simp [Nd.kid] at h5; simp [h5]
  · simp [Nd.kid] at h5 h6
    have hw : (S.nd p).k0 ≠ 0 := by
      intro e
      rw [e] at h6
      exact hs (is_zero h6)
    have : (S.nd p).k0 ≠ x := by
      intro e
      have hx : x ≠ 0 := e ▸ hw
      have a1 := is_mem h.is hx
      have a2 : x ∈ s.ids := by rw [← e]; exact is_mem h6 hw
      exact (List.nodup_append.1 h.nd).2.2 x a1 x (by simp [pids, Fr.ids, a2]) rfl
    simp [this]
/-- the end: what stands there is a tree with a black root or becomes one -/
theorem lift_end (k : Nat) {S : TS} {C : Path} {t : T} {x p n : Nat} {c : Bool} (h : Here S C t x p) (hp : POK C n) (hr : RB t c n) (hc : c = true → C = [] ∨ TopBlack C) (hne : plug C t ≠ .nil) :
    ∃ t', lift (k + 1) S S.root = some (S.upd S.root (Nd.setRed false)) ∧ Done S (S.upd S.root (Nd.setRed false)) (plug C t).ids t' := by
  obtain ⟨t', h1⟩ := done_root h hp hr hc hne
  exact ⟨t', by unfold lift; simp, h1⟩
/-- the last part: the sibling w is black, its far kid red -/
theorem lift_turn (k : Nat) {S : TS} {C : Path} {d cp : Bool} {t b c : T} {p w gp n : Nat} {cb : Bool}
    (h : Here S C (nod d t p cp (nod d b w false c)) p gp) (ht : RB t false n) (hb : RB b cb n) (hc : RB c true n) (hp : POK C (if cp then n + 1 else n + 2)) (htop : cp = true → TopBlack C) :
    let v := (S.nd p).kid (!d)
    let S3 := (S.upd v (Nd.setRed (S.nd p).red)).upd p (Nd.setRed false)
    let S4 := turn (S3.upd ((S3.nd v).kid (!d)) (Nd.setRed false)) p d
    ∃ S' t', lift (k + 1) S4 S4.root = some S' ∧ Done S S' (plug C (nod d t p cp (nod d b w false c))).ids t' := by
  intro v S3 S4
  have hpc : (S.nd p).red = cp := h.root.2.2.1
  have hpl : p < S.n.length := h.root.2.2.2.2
  have hd := h.down.other
  have hv : v = w := hd.root.1
  have hwl : w < S.n.length := hd.root.2.2.2.2
  have hvd : (S.nd p).kid (!d) = w := hv
  rw [hvd] at hd
  obtain ⟨h1, s1⟩ := Here.recolor cp hd
  obtain ⟨h2, s2⟩ := Here.recolor false h1.up.1
  have e3 : S3 = (S.upd w (Nd.setRed cp)).upd p (Nd.setRed false) := by show (S.upd v _).upd p _ = _; rw [hv, hpc]
  rw [← e3] at h2 s2
  have h3 := h2.down
  have hw3 : (S3.nd p).kid (!d) = w := by rw [e3, kid_red _ _ _ _ _ (by simpa using hpl), kid_red _ _ _ _ _ hwl, hvd]
  rw [hw3, nod_not d b w] at h3
  have h4 := h3.down
  obtain ⟨c1, ci, c2, rfl, rc1, rc2⟩ := rb_true (d := d) hc
  have hci : (S3.nd w).kid (!d) = ci := h4.root.1
  rw [hci] at h4
  obtain ⟨h5, s5⟩ := Here.recolor false h4
  have h6 := h5.up.1.up.1
  have hS4 : S4 = turn (S3.upd ci (Nd.setRed false)) p d := by show turn (S3.upd ((S3.nd v).kid (!d)) _) p d = _; rw [hv, hci]
  rw [nod_not (!d) _ w, nod_not (!d) _ p, Bool.not_not] at h6
  obtain ⟨h7, s7⟩ := h6.turn
  rw [← hS4] at h7 s7
  have hsame := ((s1.trans s2).trans s5).trans s7
  have hrb := rb_black (d := d) (i := p) ht hb
  have hrc := rb_black (d := d) (i := ci) rc1 rc2
  have hids : (plug C (nod d (nod d t p false b) w cp (nod d c1 ci false c2))).ids = (plug C (nod d t p cp (nod d b w false (nod d c1 ci true c2)))).ids := by
    refine ids_plug_congr ?_ C
    rw [ids_turn d t b _ p w false cp cp false]
    exact ids_nod_congr rfl (ids_nod_congr rfl (ids_nod_congr rfl rfl))
  cases cp with
  | true =>
    obtain ⟨t', e1, e2⟩ := lift_end k h7 (by simpa using hp) (rb_red hrb hrc) (fun _ => .inr (htop rfl)) (plug_ne C _ nod_ne)
    exact ⟨_, t', e1, e2.pre hsame hids⟩
  | false =>
    obtain ⟨t', e1, e2⟩ := lift_end k h7 (by simpa using hp) (rb_black hrb hrc) (fun e => by cases e) (plug_ne C _ nod_ne)
    exact ⟨_, t', e1, e2.pre hsame hids⟩
/-- the sibling is black: what 'lift' does then -/
def liftB (k : Nat) (S1 : TS) (p : Nat) (d : Bool) : Option TS :=
  let w := (S1.nd p).kid (!d)
  if (S1.nd ((S1.nd w).kid false)).red = false ∧ (S1.nd ((S1.nd w).kid true)).red = false then
    lift k (S1.upd w (Nd.setRed true)) p
  else
    let far := (S1.nd w).kid (!d)
    let S2 := if (S1.nd far).red then S1 else turn ((S1.upd ((S1.nd w).kid d) (Nd.setRed false)).upd w (Nd.setRed true)) w (!d)
    let v := (S2.nd p).kid (!d)
    let S3 := (S2.upd v (Nd.setRed (S2.nd p).red)).upd p (Nd.setRed false)
    let S4 := turn (S3.upd ((S3.nd v).kid (!d)) (Nd.setRed false)) p d
    lift k S4 S4.root
theorem both_iff (S : TS) (w : Nat) (d : Bool) : ((S.nd ((S.nd w).kid false)).red = false ∧ (S.nd ((S.nd w).kid true)).red = false) ↔ ((S.nd ((S.nd w).kid d)).red = false ∧ (S.nd ((S.nd w).kid (!d))).red = false) := by
  cases d
  · rfl
  · exact and_comm
theorem done_black {S S' : TS} {C : Path} {t : T} {x p n : Nat} {c : Bool} (h : Here S' C t x p) (hp : POK C n) (hr : RB t c n) (hc : c = true → TopBlack C) (k : Same S S') {l : List Nat} (e : (plug C t).ids = l) : ∃ t', Done S S' l t' := by
  obtain ⟨c', m, h1, h2⟩ := plug_rb C hp hr (fun e => .inr (hc e))
  have hf : c' = false := by
    cases c'
    · rfl
    · obtain ⟨e1, e2⟩ := h2 rfl
      obtain ⟨f, C', e3, _⟩ := hc e2
      rw [e1] at e3; cases e3
  subst hf
  exact ⟨_, h.whole.is, e, ⟨m, h1⟩, k⟩
theorem lift_black {S : TS} {C : Path} {d cp : Bool} {t s : T} {x p n : Nat} (h : Here S (⟨d, p, cp, s⟩ :: C) t x p) (ht : RB t false n) (hs : RB s false (n + 1)) (hp : POK C (if cp then n + 1 else n + 2))
    (htop : cp = true → TopBlack C) (h0 : (S.nd 0).red = false)
    (ih : cp = false → ∀ (S' : TS) (t' : T) (p' n' : Nat), Here S' C t' p p' → RB t' false n' → POK C (n' + 1) → (S'.nd 0).red = false → (S'.nd p).up = p' → ∃ k S'' t'', lift k S' p = some S'' ∧ Done S' S'' (plug C t').ids t'') :
    ∃ k S' t', liftB k S p d = some S' ∧ Done S S' (plug (⟨d, p, cp, s⟩ :: C) t).ids t' := by
  obtain ⟨b, w, c, cb, cc, rfl, hb, hc⟩ := rb_false_succ (d := d) hs
  have hu := h.up.1
  have hd := h.other
  have hw : (S.nd p).kid (!d) = w := hd.root.1
  rw [hw] at hd
  have hnear := hd.down.red hb h0
  have hfar := hd.down.other.red hc h0
  unfold liftB
  simp only [hw, both_iff S w d]
  by_cases hbl : cb = false ∧ cc = false
  · obtain ⟨rfl, rfl⟩ := hbl
    obtain ⟨h1, s1⟩ := Here.recolor true hd
    have h2 := h1.up.1
    rw [nod_not (!d) _ p, Bool.not_not] at h2
    have hrb := rb_black (d := d) (i := p) ht (rb_red (d := d) (i := w) hb hc)
    have hids : (plug C (nod d t p false (nod d b w true c))).ids = (plug C (nod d t p cp (nod d b w false c))).ids := ids_plug_congr (ids_nod_congr rfl (ids_nod_congr rfl rfl)) C
    have h01 : ((S.upd w (Nd.setRed true)).nd 0).red = false := by rw [s1.zero]; exact h0
    cases cp with
    | true =>
      obtain ⟨h3, s3⟩ := Here.recolor false h2
      obtain ⟨t', hd'⟩ := done_black h3 (by simpa using hp) hrb (fun e => by cases e) (s1.trans s3) hids
      refine ⟨1, _, t', ?_, hd'⟩
      rw [if_pos ⟨hnear, hfar⟩]
      have : ((S.upd w (Nd.setRed true)).nd p).red = true := h2.root.2.2.1
      unfold lift; simp [this]
    | false =>
      obtain ⟨k, S', t', e1, e2⟩ := ih rfl _ _ _ _ h2 hrb (by simpa using hp) h01 rfl
      exact ⟨k, S', t', by rw [if_pos ⟨hnear, hfar⟩]; exact e1, e2.pre s1 hids⟩
  · have hnb : ¬ ((S.nd ((S.nd w).kid d)).red = false ∧ (S.nd ((S.nd w).kid (!d))).red = false) := by
      rw [hnear, hfar]; exact hbl
    cases cc with
    | true =>
      obtain ⟨S', t', e1, e2⟩ := lift_turn 0 hu ht hb hc hp htop
      refine ⟨1, S', t', ?_, e2⟩
      rw [if_neg hnb, if_pos hfar]
      simpa only [hw] using e1
    | false =>
      have hcb : cb = true := by cases cb <;> simp_all
      subst hcb
      obtain ⟨b1, nb, b2, rfl, rb1, rb2⟩ := rb_true (d := d) hb
      have hn := hd.down
      have hnk : (S.nd w).kid d = nb := hn.root.1
      rw [hnk] at hn
      obtain ⟨h1, s1⟩ := Here.recolor false hn
      obtain ⟨h2, s2⟩ := Here.recolor true h1.up.1
      rw [nod_not d _ w, nod_not d b1 nb] at h2
      obtain ⟨h3, s3⟩ := h2.turn
      rw [nod_not (!d) _ nb, Bool.not_not, nod_not (!d) c w, Bool.not_not] at h3
      generalize hS2 : turn ((S.upd nb (Nd.setRed false)).upd w (Nd.setRed true)) w (!d) = S2 at h3 s3
      have h4 := h3.up.1
      have hwp : ((S.upd nb (Nd.setRed false)).nd w).up = p := by rw [up_red _ _ _ _ hn.root.2.2.2.2]; exact hd.root.2.2.2.1
      rw [nod_not (!d) _ p, Bool.not_not, hwp] at h4
      obtain ⟨S', t', e1, e2⟩ := lift_turn 0 h4 ht rb1 (rb_red (d := d) (i := w) rb2 hc) hp htop
      refine ⟨1, S', t', ?_, e2.pre ((s1.trans s2).trans s3) ?_⟩
      · rw [if_neg hnb, if_neg (by rw [hfar]; simp)]
        simp only [hnk, hS2]
        exact e1
      · simp only [plug]
        refine ids_plug_congr (ids_nod_congr rfl ?_) C
        cases d <;> simp [nod, T.ids]
theorem lift_top {S : TS} {t : T} {x p n : Nat} {c : Bool} (h : Here S [] t x p) (hr : RB t c n) (h0 : (S.nd 0).red = false) :
    ∃ k S' t', lift k S x = some S' ∧ Done S S' (plug [] t).ids t' := by
  have hx : S.root = x := h.on.1
  have hp : p = 0 := h.on.2
  subst hx hp
  by_cases ht : t = .nil
  · subst ht
    have h00 : S.root = 0 := h.is
    refine ⟨1, S.upd S.root (Nd.setRed false), .nil, by unfold lift; simp, ⟨h00, rfl, ⟨0, .nil⟩, ⟨by simp, fun j => ?_, ?_⟩⟩⟩
    · rw [nd_upd _ _ _ _ (by rw [h00]; exact h.len)]; split <;> simp
    · rw [nd_upd _ _ _ _ (by rw [h00]; exact h.len), if_pos h00]
      generalize S.nd 0 = q at h0
      cases q; simp_all [Nd.setRed]
  · obtain ⟨t', h1, h2⟩ := lift_end 0 h (n := n) trivial hr (fun _ => .inl rfl) ht
    exact ⟨1, _, t', h1, h2⟩
theorem lift_spec : ∀ (m : Nat) {S : TS} {C : Path} {t : T} {x p n : Nat} {c : Bool}, C.length ≤ m → Here S C t x p → RB t c n → POK C (n + 1) → (S.nd 0).red = false → (S.nd x).up = p →
    ∃ k S' t', lift k S x = some S' ∧ Done S S' (plug C t).ids t' := by
  intro m
  induction m with
  | zero =>
    intro S C t x p n c hm h hr hp h0 hup
    obtain rfl : C = [] := by cases C <;> simp_all
    exact lift_top h hr h0
  | succ m ih =>
    intro S C t x p n c hm h hr hp h0 hup
    cases C with
    | nil => exact lift_top h hr h0
    | cons f C =>
      obtain ⟨d, p', cp, s⟩ := f
      obtain ⟨hu, rfl, hp0, hkid⟩ := h.up
      cases c with
      | true =>
        obtain ⟨a, i, b, rfl, ra, rb⟩ := rb_true (d := false) hr
        obtain rfl := h.root.1
        obtain ⟨h1, s1⟩ := Here.recolor false h
        obtain ⟨t', hd⟩ := done_black h1 hp (rb_black ra rb) (fun e => by cases e) s1 (l := (plug (⟨d, p, cp, s⟩ :: C) (nod false a x true b)).ids) (ids_plug_congr (ids_nod_congr rfl rfl) _)
        exact ⟨1, _, t', by unfold lift; simp [h.root.2.2.1], hd⟩
      | false =>
        have hne := h.ne_root
        have hxr := h.red hr h0
        have hlen : C.length ≤ m := by simp at hm; omega
        have key : ∀ k, lift (k + 1) S x = liftB k (if (S.nd ((S.nd p).kid (!(!((S.nd p).k0 == x))))).red then turn ((S.upd ((S.nd p).kid (!(!((S.nd p).k0 == x)))) (Nd.setRed false)).upd p (Nd.setRed true)) p (!((S.nd p).k0 == x)) else S) p (!((S.nd p).k0 == x)) := by
          intro k
          conv => lhs; unfold lift
          simp only [hup]
          rw [if_pos ⟨hne, hxr⟩]
          rfl
        have hou := h.other
        rcases hp with ⟨f1, f2, f3, f4⟩ | ⟨f1, ⟨cs, f2⟩, f3⟩
        · simp only at f1 f2
          subst f1
          have hsn : s ≠ .nil := by intro e; subst e; cases f2
          rw [h.dir hsn] at key
          have hsr := hou.red f2 h0
          obtain ⟨k, S', t', e1, e2⟩ := lift_black h hr f2 (by simpa using f4) (fun _ => f3) h0 (fun e => by cases e)
          exact ⟨k + 1, S', t', by rw [key, hsr]; exact e1, e2⟩
        · simp only at f1 f2
          subst f1
          have hsn : s ≠ .nil := by intro e; subst e; cases f2
          rw [h.dir hsn] at key
          have hsr := hou.red f2 h0
          cases cs with
          | false =>
            obtain ⟨k, S', t', e1, e2⟩ := lift_black h hr f2 (by simpa using f3) (fun e => by cases e) h0
              (fun _ S' t' p' n' a1 a2 a3 a4 a5 => ih hlen a1 a2 a3 a4 a5)
            exact ⟨k + 1, S', t', by rw [key, hsr]; exact e1, e2⟩
          | true =>
            obtain ⟨b, w, c, rfl, rb, rc⟩ := rb_true (d := d) f2
            have hw : (S.nd p).kid (!d) = w := hou.root.1
            rw [hw] at hou hsr key
            obtain ⟨h1, s1⟩ := Here.recolor false hou
            obtain ⟨h2, s2⟩ := Here.recolor true h1.up.1
            rw [nod_not (!d) _ p, Bool.not_not] at h2
            obtain ⟨h3, s3⟩ := h2.turn
            generalize hS1 : turn ((S.upd w (Nd.setRed false)).upd p (Nd.setRed true)) p d = S1 at h3 s3 key
            have hS := (s1.trans s2).trans s3
            have h4 := h3.down
            have hpk : (S1.nd w).kid d = p := h4.root.1
            rw [hpk] at h4
            have h5 := h4.down
            have hxk : (S1.nd p).kid d = x := by
              by_cases hx : x = 0
              · have := h.is
                rw [hx] at this
                have := is_zero this
                subst this
                rw [hx]; exact h5.is
              · cases hr with
                | nil => exact absurd h.is hx
                | black _ _ => exact h5.is.1.trans h.is.1.symm
            rw [hxk] at h5
            obtain ⟨k, S', t', e1, e2⟩ := lift_black h5 hr rb (.inr ⟨rfl, ⟨false, rc⟩, by simpa using f3⟩) (fun _ => ⟨_, _, rfl, rfl⟩) (by rw [hS.zero]; exact h0) (fun e => by cases e)
            refine ⟨k + 1, S', t', by rw [key, hsr]; exact e1, e2.pre hS ?_⟩
            simp only [plug]
            exact ids_plug_congr (ids_turn d t b c p w true false false true) C

/-! ### Paths, from left to right -/
def lids : Path → List Nat
  | [] => []
  | f :: C => if f.d then lids C ++ (f.s.ids ++ [f.i]) else lids C
def rids : Path → List Nat
  | [] => []
  | f :: C => if f.d then rids C else (f.i :: f.s.ids) ++ rids C
theorem plug_ids : ∀ (C : Path) (t : T), (plug C t).ids = lids C ++ (t.ids ++ rids C)
  | [], t => by simp [plug, lids, rids]
  | f :: C, t => by
    rw [plug, plug_ids C]
    cases h : f.d <;> simp [nod, T.ids, lids, rids, h]
theorem plug_append : ∀ (D C : Path) (t : T), plug (D ++ C) t = plug C (plug D t)
  | [], _, _ => rfl
  | f :: D, C, t => by simp only [List.cons_append, plug]; exact plug_append D C _
theorem pids_append : ∀ (D C : Path), pids (D ++ C) = pids D ++ pids C
  | [], _ => rfl
  | f :: D, C => by simp [pids, pids_append D C]
/-- down a path, at once -/
theorem Here.downs {S : TS} : ∀ (D : Path) {C : Path} {t : T} {x p : Nat}, Here S C (plug D t) x p → ∃ x' p', Here S (D ++ C) t x' p' ∧ (D = [] → x' = x ∧ p' = p)
  | [], C, t, x, p, h => ⟨x, p, h, fun _ => ⟨rfl, rfl⟩⟩
  | f :: D, C, t, x, p, h => by
    obtain ⟨x', p', h', _⟩ := Here.downs D (t := nod f.d t f.i f.c f.s) h
    exact ⟨_, _, h'.down, fun e => by cases e⟩
theorem Here.ups {S : TS} : ∀ (D : Path) {C : Path} {t : T} {x p : Nat}, Here S (D ++ C) t x p → ∃ x' p', Here S C (plug D t) x' p' ∧ (D = [] → x' = x ∧ p' = p)
  | [], C, t, x, p, h => ⟨x, p, h, fun _ => ⟨rfl, rfl⟩⟩
  | f :: D, C, t, x, p, h => by
    have h' : Here S (f :: (D ++ C)) t x p := h
    obtain ⟨x', p', h1, _⟩ := Here.ups D h'.up.1
    exact ⟨x', p', h1, fun e => by cases e⟩
/-- the colours on the way down a whole tree -/
theorem pok_of_rb : ∀ (C : Path) {t : T} {m : Nat}, RB (plug C t) false m → ∃ c n, RB t c n ∧ POK C n ∧ (c = true → TopBlack C)
  | [], t, m, h => ⟨false, m, h, trivial, fun e => by cases e⟩
  | f :: C, t, m, h => by
    obtain ⟨c, n, h1, h2, h3⟩ := pok_of_rb C (t := nod f.d t f.i f.c f.s) h
    cases hc : f.c with
    | true =>
      rw [hc] at h1
      obtain ⟨e, k1, k2⟩ := rb_nod_red h1
      exact ⟨false, n, k1, .inl ⟨hc, k2, h3 e, h2⟩, fun e => by cases e⟩
    | false =>
      rw [hc] at h1
      obtain ⟨e, m', ca, cb, e2, k1, k2⟩ := rb_nod_black h1
      subst e2
      exact ⟨ca, m', k1, .inr ⟨hc, ⟨cb, k2⟩, h2⟩, fun _ => ⟨f, C, rfl, hc⟩⟩
theorem top_name : ∀ (D : Path) {C : Path} {d c : Bool} {i j : Nat} {s : T}, TopBlack (D ++ ⟨d, i, c, s⟩ :: C) → TopBlack (D ++ ⟨d, j, c, s⟩ :: C)
  | [], C, d, c, i, j, s, h => by
    obtain ⟨f, C', e, hf⟩ := h
    cases e
    exact ⟨_, _, rfl, hf⟩
  | g :: D, C, d, c, i, j, s, h => by
    obtain ⟨f, C', e, hf⟩ := h
    cases e
    exact ⟨_, _, rfl, hf⟩
theorem pok_name : ∀ (D : Path) {C : Path} {d c : Bool} {i j n : Nat} {s : T}, POK (D ++ ⟨d, i, c, s⟩ :: C) n → POK (D ++ ⟨d, j, c, s⟩ :: C) n
  | [], C, d, c, i, j, n, s, h => h
  | g :: D, C, d, c, i, j, n, s, h => by
    rcases h with ⟨h1, h2, h3, h4⟩ | ⟨h1, h2, h3⟩
    · exact .inl ⟨h1, h2, top_name D h3, pok_name D h4⟩
    · exact .inr ⟨h1, h2, pok_name D h3⟩

/-! ### drop -/
def leftmost : Nat → TS → Nat → Option Nat
  | 0, _, _ => none
  | k + 1, S, y => if (S.nd y).k0 ≠ 0 then leftmost k S (S.nd y).k0 else some y
theorem leftmost_spec {S : TS} : ∀ (t : T) {C : Path} {x p : Nat}, Here S C t x p → t ≠ .nil →
    ∃ k y D cy ry, leftmost k S x = some y ∧ t = plug D (.node .nil y cy ry) ∧ lids D = []
  | .nil, _, _, _, _, hn => absurd rfl hn
  | .node l i c r, C, x, p, h, _ => by
    have hx := (Here.root (d := false) h).1
    have hd := (Here.down (d := false) h)
    by_cases hl : l = .nil
    · subst hl
      have h0 : (S.nd i).kid false = 0 := hd.is
      exact ⟨1, i, [], c, r, by unfold leftmost; rw [hx, if_neg (fun e => e h0)], rfl, rfl⟩
    · obtain ⟨k, y, D, cy, ry, h1, h2, h3⟩ := leftmost_spec l hd hl
      have h0 : (S.nd i).k0 ≠ 0 := fun e => hl (is_zero (S := S) (p := i) (by have := hd.is; simpa [Nd.kid, e] using this))
      have hk : (S.nd i).kid false = (S.nd i).k0 := rfl
      refine ⟨k + 1, y, D ++ [⟨false, i, c, r⟩], cy, ry, ?_, ?_, ?_⟩
      · unfold leftmost; rw [hx, if_pos h0]; exact hk ▸ h1
      · rw [plug_append, ← h2]; rfl
      · have : ∀ (D : Path), lids D = [] → lids (D ++ [⟨false, i, c, r⟩]) = [] := by
          intro D
          induction D with
          | nil => intro _; rfl
          | cons f D ih =>
            intro h
            simp only [List.cons_append, lids] at h ⊢
            cases hf : f.d
            · simp only [hf, Bool.false_eq_true, ↓reduceIte] at h ⊢; exact ih h
            · simp [hf] at h
        exact this D h3
/-- a node with one kid at most is taken out: the kid comes in its place -/
theorem unlink {S : TS} {C : Path} {d : Bool} {r : T} {y p : Nat} {c : Bool} (h : Here S C (nod d .nil y c r) y p) :
    Here (hang S ((S.nd y).kid (!d)) y) C r ((S.nd y).kid (!d)) p ∧ ((hang S ((S.nd y).kid (!d)) y).nd ((S.nd y).kid (!d))).up = p ∧
      (∀ j, j ≠ (S.nd y).kid (!d) → j ≠ p → (hang S ((S.nd y).kid (!d)) y).nd j = S.nd j) ∧ (hang S ((S.nd y).kid (!d)) y).n.length = S.n.length ∧
      (∀ j, ((hang S ((S.nd y).kid (!d)) y).nd j).load = (S.nd j).load) ∧ (∀ j, ((hang S ((S.nd y).kid (!d)) y).nd j).red = (S.nd j).red) := by
  obtain ⟨-, y0, yc, yu, yl⟩ := h.root
  have hn := (nodup_down ..).1 h.nd
  have hd := h.down.other
  generalize hx : (S.nd y).kid (!d) = x at hd ⊢
  have nm := List.nodup_append.1 h.nd
  have nn := nodup_nod nm.1
  have hyC : y ∉ pids C := fun hc => nm.2.2 y ((mem_nod ..).2 (.inr (.inl rfl))) y hc rfl
  have hrC : ∀ j ∈ r.ids, j ∉ pids C := fun j hj hc => nm.2.2 j ((mem_nod ..).2 (.inr (.inr hj))) j hc rfl
  have hxC : x ∉ pids C := by
    intro hc
    by_cases x0 : x = 0
    · exact path_ne0 h.on _ hc x0
    · exact hrC x (is_mem hd.is x0) hc
  obtain ⟨g1, g2, g3, g4, g5, g6, g7⟩ := hang_spec x h.on y0 yu hyC (is_lt hd.is h.len) hxC nm.2.1 h.len
  refine ⟨⟨g1, ?_, ?_, by rw [g4]; exact h.len⟩, by rw [g2]; rfl, g3, g4, g5, g6⟩
  · refine Is.reroot p g4 hd.is nn.2.1 (fun j hj hjx => ?_) (fun _ => g2)
    by_cases p0 : p = 0
    · exact g7 p0 j hjx
    · have : p ∈ pids C := by
        cases C with
        | nil => exact absurd h.on.2 p0
        | cons f C => simp [pids, Fr.ids, h.on.1]
      exact g3 j hjx (fun e => hrC j hj (by rw [e]; exact this))
  · exact List.nodup_append.2 ⟨nn.2.1, nm.2.1, fun a ha b hb e => hrC a ha (by rw [e]; exact hb)⟩
/-- z goes, y comes in its place: what must stand in the array then -/
theorem replace {S1 S' : TS} {C : Path} {l r : T} {z y p lx rx : Nat} {cz : Bool} (h : On S1 C z p) (hS1 : ∀ j ∈ pids C, j ≠ p → S'.nd j = S1.nd j) (hz : z ≠ 0) (hu : (S1.nd z).up = p) (hzC : z ∉ pids C)
    (hyC : y ∉ pids C) (ndC : (pids C).Nodup) (hl1 : S'.n.length = S1.n.length) (hlen : 0 < S1.n.length) (y0 : y ≠ 0) (yl : y < S1.n.length)
    (hroot : S'.root = (hang S1 y z).root) (hpp : p ≠ 0 → S'.nd p = (hang S1 y z).nd p) (e1 : (S'.nd y).red = cz) (e2 : (S'.nd y).up = p) (e3 : (S'.nd y).kid false = lx) (e4 : (S'.nd y).kid true = rx)
    (hl : Is S' l lx y) (hr : Is S' r rx y) (nd : ((T.node l y cz r).ids ++ pids C).Nodup) : Here S' C (.node l y cz r) y p := by
  obtain ⟨g1, g2, g3, g4, g5, g6, g7⟩ := hang_spec y h hz hu hzC yl hyC ndC hlen
  refine ⟨On.keep (hl1.trans g4.symm) hroot g1 (fun j hj => ?_), ⟨rfl, y0, hl1 ▸ yl, e1, e2, e3 ▸ hl, e4 ▸ hr⟩, nd, hl1 ▸ hlen⟩
  by_cases hjp : j = p
  · subst hjp
    exact hpp (path_ne0 h _ hj)
  · rw [hS1 j hj hjp, g3 j (fun e => hyC (e ▸ hj)) hjp]
def swapS (S2 : TS) (y z : Nat) : TS :=
  let S3 := hang S2 y z
  let S4 := S3.upd y (Nd.setKid false (S3.nd z).k0)
  let S5 := S4.upd (S4.nd y).k0 (Nd.setUp y)
  S5.upd y (Nd.setRed (S5.nd z).red)
theorem swap_spec {S : TS} {C : Path} {l r : T} {z y p lx rx : Nat} {cz : Bool} (h : On S C z p) (hz : z ≠ 0) (hu : (S.nd z).up = p) (hk : (S.nd z).k0 = lx) (hcz : (S.nd z).red = cz) (hl : Is S l lx z) (hln : l ≠ .nil)
    (hky : (S.nd y).kid true = rx) (hr : Is S r rx y) (y0 : y ≠ 0) (yl : y < S.n.length) (hyC : y ∉ pids C) (hyl : y ∉ l.ids) (hyr : y ∉ r.ids) (hyz : y ≠ z) (hlen : 0 < S.n.length)
    (nd : ((T.node l z cz r).ids ++ pids C).Nodup) :
    Here (swapS S y z) C (.node l y cz r) y p ∧ Same S (swapS S y z) := by
  have nm := List.nodup_append.1 nd
  have nn := nodup_nod (d := false) nm.1
  have hzC : z ∉ pids C := fun hc => nm.2.2 z (by simp [T.ids]) z hc rfl
  have hlC : ∀ j ∈ l.ids, j ∉ pids C := fun j hj hc => nm.2.2 j (by simp [T.ids, hj]) j hc rfl
  have hrC : ∀ j ∈ r.ids, j ∉ pids C := fun j hj hc => nm.2.2 j (by simp [T.ids, hj]) j hc rfl
  obtain ⟨nl, nr, zl, zr, lr⟩ := nn
  have hlx : lx ≠ 0 := fun e => hln (is_zero (e ▸ hl))
  have hlm := is_mem hl hlx
  have lxl : lx < S.n.length := is_lt hl hlen
  have lxy : lx ≠ y := fun e => hyl (e ▸ hlm)
  have lxz : lx ≠ z := fun e => zl (e ▸ hlm)
  have pC : p ≠ 0 → p ∈ pids C := fun h' => by
    cases C with
    | nil => exact absurd h.2 h'
    | cons f C => simp [pids, Fr.ids, h.1]
  have hpl := on_lt h hlen
  obtain ⟨g1, g2, g3, g4, g5, g6, g7⟩ := hang_spec y h hz hu hzC yl hyC nm.2.1 hlen
  have zp : z ≠ p := fun e => by
    by_cases p0 : p = 0
    · exact hz (e.trans p0)
    · exact hzC (e ▸ pC p0)
  have ez : (hang S y z).nd z = S.nd z := g3 z (Ne.symm hyz) zp
  generalize hS3 : hang S y z = S3 at *
  have eS : swapS S y z = (((S3.upd y (Nd.setKid false lx)).upd lx (Nd.setUp y)).upd y (Nd.setRed cz)) := by
    unfold swapS
    simp only [hS3]
    have a1 : (S3.nd z).k0 = lx := by rw [ez, hk]
    have a2 : ((S3.upd y (Nd.setKid false lx)).nd y).k0 = lx := by rw [nd_upd _ _ _ _ (by rw [g4]; exact yl), if_pos rfl]; simp [Nd.setKid]
    have a3 : (((S3.upd y (Nd.setKid false lx)).upd lx (Nd.setUp y)).nd z).red = cz := by
      rw [nd_upd _ _ _ _ (by simp [g4, lxl]), if_neg lxz, nd_upd _ _ _ _ (by simp [g4, yl]), if_neg hyz, ez, hcz]
    rw [a1, a2, a3]
  have hk6 : ∀ j, (swapS S y z).nd j = if y = j then ((S3.nd j).setKid false lx).setRed cz else if lx = j then (S3.nd j).setUp y else S3.nd j := by
    intro j
    rw [eS, nd_upd _ _ _ _ (by simp [g4, yl]), nd_upd _ _ _ _ (by simp [g4, lxl]), nd_upd _ _ _ _ (by simp [g4, yl])]
    by_cases e1 : y = j
    · subst e1; simp [lxy]
    · by_cases e2 : lx = j
      · subst e2; simp [e1]
      · simp [e1, e2]
  have hlen6 : (swapS S y z).n.length = S.n.length := by rw [eS]; simp [g4]
  have hy6 : (swapS S y z).nd y = (((S.nd y).setUp p).setKid false lx).setRed cz := by rw [hk6, if_pos rfl, g2]
  have ho : ∀ j, j ≠ y → j ≠ lx → j ≠ p → (swapS S y z).nd j = S.nd j := fun j a b c => by rw [hk6, if_neg (Ne.symm a), if_neg (Ne.symm b), g3 j a c]
  refine ⟨replace (lx := lx) (rx := rx) (cz := cz) h (fun j hj hjp => ho j (fun e => hyC (e ▸ hj)) (fun e => hlC lx hlm (e ▸ hj)) hjp) hz hu hzC hyC nm.2.1 hlen6 hlen y0 yl (by rw [hS3, eS]; rfl) (fun p0 => ?_) (by rw [hy6]; rfl) (by rw [hy6]; simp) (by rw [hy6, kid_setRed, kid_setKid, if_pos rfl]) (by rw [hy6, kid_setRed, kid_setKid, if_neg (by decide), kid_setUp, hky]) ?_ ?_ ?_, ⟨hlen6, fun j => ?_, ?_⟩⟩
  · rw [hS3, hk6, if_neg (fun e => hyC (by rw [e]; exact pC p0)), if_neg (fun e => hlC lx hlm (by rw [e]; exact pC p0))]
  · refine Is.reroot y hlen6 hl nl (fun j hj hjx => ho j (fun e => hyl (e ▸ hj)) hjx (fun e => ?_)) (fun _ => ?_)
    · exact hlC j hj (e ▸ pC (e ▸ (ids_lt hl j hj).1))
    · rw [hk6, if_neg (Ne.symm lxy), if_pos rfl, g3 lx lxy (fun e => hlC lx hlm (e ▸ pC (e ▸ hlx)))]
  · exact Is.keep hlen6 hr (fun j hj => ho j (fun e => hyr (e ▸ hj)) (fun e => lr lx hlm (e ▸ hj)) (fun e => hrC j hj (e ▸ pC (e ▸ (ids_lt hr j hj).1))))
  · refine List.nodup_append.2 ⟨?_, nm.2.1, fun a ha b hb e => ?_⟩
    · have : (T.node l y cz r).ids.Nodup := by
        simp only [T.ids, List.nodup_append, List.nodup_cons, List.mem_cons]
        exact ⟨nl, ⟨hyr, nr⟩, fun a ha b hb e => by
          rcases hb with hb | hb
          · exact hyl (by rw [← hb, ← e]; exact ha)
          · exact lr a ha (by rw [e]; exact hb)⟩
      exact this
    · simp only [T.ids, List.mem_append, List.mem_cons] at ha
      rcases ha with ha | ha | ha
      · exact hlC a ha (by rw [e]; exact hb)
      · exact hyC (by rw [← ha, e]; exact hb)
      · exact hrC a ha (by rw [e]; exact hb)
  · rw [hk6]; repeat' split
    all_goals simp [g5]
  · rw [hk6, if_neg y0, if_neg hlx]
    by_cases p0 : p = 0
    · exact g7 p0 0 (Ne.symm y0)
    · exact g3 0 (Ne.symm y0) (Ne.symm p0)
def dropS (k : Nat) (S : TS) (z : Nat) : Option TS :=
  (if (S.nd z).k0 = 0 then some ((S.nd z).red, (S.nd z).k1, hang S (S.nd z).k1 z)
   else if (S.nd z).k1 = 0 then some ((S.nd z).red, (S.nd z).k0, hang S (S.nd z).k0 z)
   else (leftmost k S (S.nd z).k1).map fun y =>
     let x := (S.nd y).k1
     let S2 := if (S.nd y).up = z then S.upd x (Nd.setUp y)
       else
         let S1 := hang S x y
         let S1' := S1.upd y (Nd.setKid true (S1.nd z).k1)
         S1'.upd (S1'.nd y).k1 (Nd.setUp y)
     ((S.nd y).red, x, swapS S2 y z)).bind fun (red, x, S') =>
  (if red then some S' else lift k S' x).map fun S'' => S''.upd 0 (fun _ => Nd.zero)
/-- behind the taking out: lift where a black one went -/
theorem after_unlink {S : TS} {C : Path} {t : T} {x p n : Nat} {c cy : Bool} (h : Here S C t x p) (hr : RB t c n) (hp : POK C (if cy then n else n + 1)) (hc : cy = true → c = false) (htop : c = true → True) (h0 : (S.nd 0).red = false) (hu : (S.nd x).up = p) :
    ∃ k S' t', (if cy then some S else lift k S x) = some S' ∧ Done S S' (plug C t).ids t' := by
  cases cy with
  | true =>
    have hc' := hc rfl
    subst hc'
    obtain ⟨t', hd⟩ := done_black h (by simpa using hp) hr (fun e => by cases e) (Same.refl S) rfl
    exact ⟨0, S, t', rfl, hd⟩
  | false =>
    obtain ⟨k, S', t', h1, h2⟩ := lift_spec C.length (Nat.le_refl _) h hr (by simpa using hp) h0 hu
    exact ⟨k, S', t', h1, h2⟩
/-- the sentinel is made anew -/
theorem Done.cleared {S S' : TS} {l : List Nat} {t : T} (h : Done S S' l t) (hl : 0 < S.n.length) (h0 : ((S.nd 0).load = Nd.zero.load)) :
    Is (S'.upd 0 (fun _ => Nd.zero)) t (S'.upd 0 (fun _ => Nd.zero)).root 0 ∧ (S'.upd 0 (fun _ => Nd.zero)).n.length = S.n.length ∧
      (∀ j, ((S'.upd 0 (fun _ => Nd.zero)).nd j).load = (S.nd j).load) ∧ (S'.upd 0 (fun _ => Nd.zero)).nd 0 = Nd.zero := by
  have hl' : 0 < S'.n.length := by rw [h.same.len]; exact hl
  refine ⟨Is.keep (S := S') (by simp) h.is (fun j hj => ?_), by simp [h.same.len], fun j => ?_, ?_⟩
  · rw [nd_upd _ _ _ _ hl', if_neg (fun e => (ids_lt h.is j hj).1 e.symm)]
  · rw [nd_upd _ _ _ _ hl']
    split
    · rename_i e; rw [← e, h0]
    · exact h.same.load j
  · rw [nd_upd _ _ _ _ hl', if_pos rfl]
theorem lids_nil_append : ∀ (D C : Path), lids D = [] → lids (D ++ C) = lids C
  | [], _, _ => rfl
  | f :: D, C, h => by
    simp only [lids, List.cons_append] at h ⊢
    cases hf : f.d
    · simp only [hf, Bool.false_eq_true, ↓reduceIte] at h ⊢; exact lids_nil_append D C h
    · simp [hf] at h
theorem liftB_mono (k m : Nat) (S : TS) (p : Nat) (d : Bool) (S' : TS) (h : liftB k S p d = some S') (ih : ∀ (S : TS) (x : Nat) (S' : TS), lift k S x = some S' → lift m S x = some S') : liftB m S p d = some S' := by
  unfold liftB at h ⊢
  by_cases hb : (S.nd ((S.nd ((S.nd p).kid (!d))).kid false)).red = false ∧ (S.nd ((S.nd ((S.nd p).kid (!d))).kid true)).red = false
  · simp only [hb, and_self, ↓reduceIte] at h ⊢
    exact ih _ _ _ h
  · rw [if_neg hb] at h ⊢
    exact ih _ _ _ h
theorem lift_succ (k : Nat) (S : TS) (x : Nat) (h : x ≠ S.root ∧ (S.nd x).red = false) :
    lift (k + 1) S x = liftB k (if (S.nd ((S.nd (S.nd x).up).kid (!(!((S.nd (S.nd x).up).k0 == x))))).red then turn ((S.upd ((S.nd (S.nd x).up).kid (!(!((S.nd (S.nd x).up).k0 == x)))) (Nd.setRed false)).upd (S.nd x).up (Nd.setRed true)) (S.nd x).up (!((S.nd (S.nd x).up).k0 == x)) else S) (S.nd x).up (!((S.nd (S.nd x).up).k0 == x)) := by
  conv => lhs; unfold lift
  rw [if_pos h]
  rfl
theorem lift_mono : ∀ (k : Nat) (S : TS) (x : Nat) (S' : TS), lift k S x = some S' → ∀ m, k ≤ m → lift m S x = some S'
  | 0, _, _, _, h, _, _ => by simp [lift] at h
  | k + 1, S, x, S', h, 0, hm => by omega
  | k + 1, S, x, S', h, m + 1, hm => by
    by_cases hc : x ≠ S.root ∧ (S.nd x).red = false
    · rw [lift_succ _ _ _ hc] at h ⊢
      exact liftB_mono k m _ _ _ _ h (fun S x S' h' => lift_mono k S x S' h' m (by omega))
    · unfold lift at h ⊢
      rw [if_neg hc] at h ⊢
      exact h
theorem leftmost_mono : ∀ (k : Nat) (S : TS) (x y : Nat), leftmost k S x = some y → ∀ m, k ≤ m → leftmost m S x = some y
  | 0, _, _, _, h, _, _ => by simp [leftmost] at h
  | k + 1, S, x, y, h, 0, hm => by omega
  | k + 1, S, x, y, h, m + 1, hm => by
    unfold leftmost at h ⊢
    split at h
    · rename_i hc; rw [if_pos hc]; exact leftmost_mono k _ _ _ h m (by omega)
    · rename_i hc; rw [if_neg hc]; exact h
theorem settle_mono : ∀ (k : Nat) (S : TS) (x : Nat) (S' : TS), settle k S x = some S' → ∀ m, k ≤ m → settle m S x = some S'
  | 0, _, _, _, h, _, _ => by simp [settle] at h
  | k + 1, S, x, S', h, 0, hm => by omega
  | k + 1, S, x, S', h, m + 1, hm => by
    unfold settle at h ⊢
    by_cases hc : (S.nd (S.nd x).up).red = true
    · by_cases hb : (S.nd ((S.nd (S.nd (S.nd x).up).up).kid (!side S (S.nd x).up))).red = true
      · simp only [hc, hb, ↓reduceIte] at h ⊢
        exact settle_mono k _ _ _ h m (by omega)
      · rw [if_pos hc, if_neg hb] at h ⊢
        exact settle_mono k _ _ _ h m (by omega)
    · rw [if_neg hc] at h ⊢
      exact h
theorem plug_ne' {f : Fr} {D : Path} {t : T} : plug (f :: D) t ≠ .nil := plug_ne D _ nod_ne
theorem same_root {S S' : TS} {t : T} {x x' p p' : Nat} (h : Is S t x p) (h' : Is S' t x' p') : x = x' := by
  cases t with
  | nil => exact (show x = 0 from h).trans (show x' = 0 from h').symm
  | node l i c r => exact h.1.trans h'.1.symm
/-- two kids: y, the leftmost on the right, comes in the place of z -/
theorem drop_two {S S2 : TS} {C D : Path} {l ry : T} {z y p pz x rx m : Nat} {cz cy : Bool}
    (hrb : RB (plug (D ++ ⟨true, z, cz, l⟩ :: C) (.node .nil y cy ry)) false m)
    (a1 : On S2 C z pz) (a2 : z ≠ 0) (a3 : (S2.nd z).up = pz) (a4 : (S2.nd z).red = cz) (a5 : Is S2 l (S2.nd z).k0 z) (a6 : l ≠ .nil) (a7 : (S2.nd y).kid true = rx) (a8 : Is S2 (plug D ry) rx y)
    (a9 : y ≠ 0) (a10 : y < S2.n.length) (b1 : y ∉ pids C) (b2 : y ∉ l.ids) (b3 : y ∉ (plug D ry).ids) (b4 : y ≠ z) (b5 : 0 < S2.n.length) (b6 : ((T.node l z cz (plug D ry)).ids ++ pids C).Nodup)
    (b7 : (S2.nd 0).red = false) (b9 : Is S ry x p) (b10 : x = 0 → ∀ f D', D ++ [⟨true, y, cz, l⟩] = f :: D' → (S2.nd 0).up = f.i) :
    ∃ k S' t', (if cy then some (swapS S2 y z) else lift k (swapS S2 y z) x) = some S' ∧ Done S2 S' (plug (D ++ ⟨true, y, cz, l⟩ :: C) ry).ids t' := by
  obtain ⟨h1, s1⟩ := swap_spec a1 a2 a3 rfl a4 a5 a6 a7 a8 a9 a10 b1 b2 b3 b4 b5 b6
  have h2 := Here.down (d := true) (a := plug D ry) (b := l) h1
  obtain ⟨x', p', h3, h3'⟩ := Here.downs D h2
  obtain rfl : x = x' := same_root b9 h3.is
  have hup : ((swapS S2 y z).nd x).up = p' := by
    by_cases x0 : x = 0
    · rw [x0, s1.zero]
      cases D with
      | nil =>
        have e := h3.on.1
        simp only at e
        rw [e]
        exact b10 x0 _ _ rfl
      | cons f D =>
        have e := h3.on.1
        rw [e]
        exact b10 x0 f _ rfl
    · have hi := h3.is
      cases ry with
      | nil => exact absurd hi x0
      | node _ i _ _ => rw [hi.1]; exact hi.2.2.2.2.1
  obtain ⟨c2, n2, r1, r2, _⟩ := pok_of_rb _ hrb
  have hrbq : ∃ c' n', RB ry c' n' ∧ POK (D ++ ⟨true, z, cz, l⟩ :: C) (if cy then n' else n' + 1) ∧ (cy = true → c' = false) := by
    cases cy with
    | true =>
      obtain ⟨e1, e2, e3⟩ := rb_nod_red (d := false) r1
      exact ⟨false, n2, e3, by simpa using r2, fun _ => rfl⟩
    | false =>
      obtain ⟨e1, m', ca, cb, e2, e3, e4⟩ := rb_nod_black (d := false) r1
      subst e2
      exact ⟨cb, m', e4, by simpa using r2, fun e => by cases e⟩
  obtain ⟨c', n', k1, k2, k3⟩ := hrbq
  obtain ⟨k, S', t', e1, e2⟩ := after_unlink (cy := cy) h3 k1 (pok_name D k2) k3 (fun _ => trivial) (by rw [s1.zero]; exact b7) hup
  exact ⟨k, S', t', e1, e2.pre s1 rfl⟩
theorem drop_spec {S : TS} {C : Path} {l r : T} {z p m : Nat} {cz : Bool} (h : Here S C (.node l z cz r) z p) (hrb : RB (plug C (.node l z cz r)) false m) (h0 : S.nd 0 = Nd.zero) :
    ∃ k S' t', dropS k S z = some S' ∧ Is S' t' S'.root 0 ∧ t'.ids = lids C ++ (l.ids ++ (r.ids ++ rids C)) ∧ (∃ n, RB t' false n) ∧ S'.n.length = S.n.length ∧ (∀ j, (S'.nd j).load = (S.nd j).load) ∧ S'.nd 0 = Nd.zero := by
  have h00 : (S.nd 0).red = false := by rw [h0]; rfl
  obtain ⟨c, n, q1, q2, q3⟩ := pok_of_rb C hrb
  have hzr : (S.nd z).red = cz := (Here.root (d := false) h).2.2.1
  have hdl := Here.down (d := false) h
  have hdr := Here.down (d := true) (a := r) (b := l) h
  -- what follows where z has one kid at most
  have one : ∀ (d : Bool) (q : T), q.ids = l.ids ++ r.ids → Here S C (nod d .nil z cz q) z p → RB (nod d .nil z cz q) c n →
      ∃ k S' t', ((if cz then some (hang S ((S.nd z).kid (!d)) z) else lift k (hang S ((S.nd z).kid (!d)) z) ((S.nd z).kid (!d))).map fun S'' => S''.upd 0 (fun _ => Nd.zero)) = some S' ∧
        Is S' t' S'.root 0 ∧ t'.ids = lids C ++ (l.ids ++ (r.ids ++ rids C)) ∧ (∃ n, RB t' false n) ∧ S'.n.length = S.n.length ∧ (∀ j, (S'.nd j).load = (S.nd j).load) ∧ S'.nd 0 = Nd.zero := by
    intro d q hq hn hrn
    obtain ⟨u1, u2, u3, u4, u5, u6⟩ := unlink hn
    have hred : ((hang S ((S.nd z).kid (!d)) z).nd 0).red = false := by rw [u6]; exact h00
    have hrbq : ∃ c' n', RB q c' n' ∧ POK C (if cz then n' else n' + 1) ∧ (cz = true → c' = false) := by
      cases cz with
      | true =>
        obtain ⟨e1, e2, e3⟩ := rb_nod_red hrn
        exact ⟨false, n, e3, by simpa using q2, fun _ => rfl⟩
      | false =>
        obtain ⟨e1, m', ca, cb, e2, e3, e4⟩ := rb_nod_black hrn
        subst e2
        exact ⟨cb, m', e4, by simpa using q2, fun e => by cases e⟩
    obtain ⟨c', n', r1, r2, r3⟩ := hrbq
    obtain ⟨k, S', t', k1, k2⟩ := after_unlink u1 r1 r2 r3 (fun _ => trivial) hred u2
    obtain ⟨f1, f2, f3, f4⟩ := k2.cleared u1.len (by rw [u5, h0])
    refine ⟨k, _, t', by rw [k1]; rfl, f1, ?_, k2.rb, f2.trans u4, fun j => (f3 j).trans (u5 j), f4⟩
    rw [k2.ids, plug_ids, hq, List.append_assoc]
  by_cases hl : l = .nil
  · subst hl
    obtain ⟨k, S', t', e1, e2⟩ := one false r (by simp [T.ids]) h q1
    refine ⟨k, S', t', ?_, e2⟩
    have hk : (S.nd z).k0 = 0 := hdl.is
    unfold dropS
    rw [if_pos hk, hzr]
    exact e1
  · have hk0 : (S.nd z).k0 ≠ 0 := fun e => hl (is_zero (S := S) (p := z) (by have := hdl.is; simpa [Nd.kid, e] using this))
    by_cases hr : r = .nil
    · subst hr
      obtain ⟨k, S', t', e1, e2⟩ := one true l (by simp [T.ids]) h q1
      refine ⟨k, S', t', ?_, e2⟩
      have hk : (S.nd z).k1 = 0 := hdr.is
      unfold dropS
      rw [if_neg hk0, if_pos hk, hzr]
      exact e1
    · have hk1 : (S.nd z).k1 ≠ 0 := fun e => hr (is_zero (S := S) (p := z) (by have := hdr.is; simpa [Nd.kid, e] using this))
      obtain ⟨kl, y, D, cy, ry, hlm, rfl, hD⟩ := leftmost_spec r hdr hr
      obtain ⟨y', py, hy, hyD⟩ := Here.downs D hdr
      obtain ⟨e, y0, yr, yu, yl⟩ := Here.root (d := false) hy
      subst e
      have hz0 : z ≠ 0 := (Here.root (d := false) h).2.1
      have hzu : (S.nd z).up = p := (Here.root (d := false) h).2.2.2.1
      have hwhole : plug (D ++ ⟨true, z, cz, l⟩ :: C) (.node .nil y' cy ry) = plug C (.node l z cz (plug D (.node .nil y' cy ry))) := by rw [plug_append]; rfl
      have hxe : (S.nd y').k1 = (S.nd y').kid true := rfl
      have hn := h.nd
      have hry : Is S ry ((S.nd y').kid true) y' := (Here.down (d := true) (a := ry) (b := .nil) hy).is
      have hpl0 : ∀ j, j ∈ (plug D (.node .nil y' cy ry)).ids ↔ (j = y' ∨ j ∈ ry.ids) ∨ j ∈ pids D := fun j => by rw [ids_plug]; simp [T.ids]
      have hpl1 : ∀ j, j ∈ (plug D ry).ids ↔ j ∈ ry.ids ∨ j ∈ pids D := fun j => by rw [ids_plug]
      have hn2 := List.nodup_append.1 hn
      have hn3 := nodup_nod (d := false) hn2.1
      obtain ⟨nl, nr, zl, zr, lr⟩ := hn3
      have hyn := hy.nd
      rw [List.nodup_append] at hyn
      have yD : y' ∉ pids D := fun hc => hyn.2.2 y' (by simp [T.ids]) y' (by rw [pids_append]; exact List.mem_append_left _ hc) rfl
      have yry : y' ∉ ry.ids := fun hc => by
        have := hyn.1
        simp only [T.ids, List.nil_append, List.nodup_cons] at this
        exact this.1 hc
      have yC : y' ∉ pids C := fun hc => hn2.2.2 y' (by simp [T.ids, hpl0]) y' hc rfl
      have yl' : y' ∉ l.ids := fun hc => lr y' hc ((hpl0 y').2 (.inl (.inl rfl)))
      have yz : y' ≠ z := fun e => zr (by rw [← e]; exact (hpl0 y').2 (.inl (.inl rfl)))
      have yr' : y' ∉ (plug D ry).ids := fun hc => by exact ((hpl1 y').1 hc).elim yry yD
      have sub : ∀ j ∈ (plug D ry).ids, j ∈ (plug D (.node .nil y' cy ry)).ids := fun j hj => by
        rcases (hpl1 j).1 hj with h' | h'
        · exact (hpl0 j).2 (.inl (.inr h'))
        · exact (hpl0 j).2 (.inr h')
      have nd' : ((T.node l z cz (plug D ry)).ids ++ pids C).Nodup := by
        refine hn.sublist ?_
        simp only [T.ids]
        refine List.Sublist.append (List.Sublist.append (List.Sublist.refl _) (List.Sublist.cons_cons _ ?_)) (List.Sublist.refl _)
        rw [plug_ids D ry, plug_ids D (.node .nil y' cy ry)]
        refine List.Sublist.append (List.Sublist.refl _) (List.Sublist.append ?_ (List.Sublist.refl _))
        simp [T.ids]
      have fin : ∀ (S2 : TS) (k0 : Nat) (S' : TS) (t' : T), (S2.n.length = S.n.length) → (∀ j, (S2.nd j).load = (S.nd j).load) →
          (∀ k, leftmost k S (S.nd z).k1 = some y' → dropS k S z = ((if cy then some (swapS S2 y' z) else lift k (swapS S2 y' z) ((S.nd y').kid true)).map fun S'' => S''.upd 0 (fun _ => Nd.zero))) →
          (if cy then some (swapS S2 y' z) else lift k0 (swapS S2 y' z) ((S.nd y').kid true)) = some S' → Done S2 S' (plug (D ++ ⟨true, y', cz, l⟩ :: C) ry).ids t' →
          ∃ k S' t', dropS k S z = some S' ∧ Is S' t' S'.root 0 ∧ t'.ids = lids C ++ (l.ids ++ ((plug D (.node .nil y' cy ry)).ids ++ rids C)) ∧ (∃ n, RB t' false n) ∧ S'.n.length = S.n.length ∧ (∀ j, (S'.nd j).load = (S.nd j).load) ∧ S'.nd 0 = Nd.zero := by
        intro S2 k0 S' t' w1 w2 w3 w4 w5
        obtain ⟨f1, f2, f3, f4⟩ := w5.cleared (by rw [w1]; exact h.len) (by rw [w2, h0])
        refine ⟨max kl k0, _, t', ?_, f1, ?_, w5.rb, f2.trans w1, fun j => (f3 j).trans (w2 j), f4⟩
        · rw [w3 _ (leftmost_mono kl _ _ _ hlm _ (Nat.le_max_left ..))]
          cases cy with
          | true =>
            simp only [↓reduceIte] at w4 ⊢
            rw [w4]; rfl
          | false =>
            simp only [Bool.false_eq_true, ↓reduceIte] at w4 ⊢
            rw [lift_mono k0 _ _ _ w4 _ (Nat.le_max_right ..)]; rfl
        · rw [w5.ids, plug_append]
          show (plug C (nod true (plug D ry) y' cz l)).ids = _
          rw [plug_ids C, plug_ids D (.node .nil y' cy ry)]
          simp only [nod, ↓reduceIte, T.ids]
          rw [plug_ids D ry, hD]
          simp
      have hk1e : (S.nd z).k1 = (S.nd z).kid true := rfl
      have hrD : ∀ j ∈ ry.ids, j ∉ pids C := fun j hj hc => hn2.2.2 j (by simp [T.ids, hpl0, hj]) j hc rfl
      have hxl : (S.nd y').kid true < S.n.length := is_lt hry h.len
      have hxC : (S.nd y').kid true ∉ pids C := fun hc => by
        by_cases x0 : (S.nd y').kid true = 0
        · exact path_ne0 h.on _ hc x0
        · exact hrD _ (is_mem hry x0) hc
      have hxry : (S.nd y').kid true ≠ 0 → (S.nd y').kid true ∈ ry.ids := fun x0 => is_mem hry x0
      have hxz : (S.nd y').kid true ≠ z := fun e => zr (by rw [← e]; exact (hpl0 _).2 (.inl (.inr (hxry (by rw [e]; exact hz0)))))
      have hxy : (S.nd y').kid true ≠ y' := fun e => yry (by have := hxry (by rw [e]; exact y0); rw [e] at this; exact this)
      have hll : ∀ j ∈ l.ids, j ≠ (S.nd y').kid true := fun j hj e => lr j hj ((hpl0 j).2 (.inl (.inr (by rw [e]; exact hxry (by rw [← e]; exact (ids_lt hdl.is j hj).1)))))
      cases D with
      | nil =>
        obtain ⟨e1, e2⟩ := hyD rfl
        have hk2 : ∀ j, (S.upd ((S.nd y').kid true) (Nd.setUp y')).nd j = if (S.nd y').kid true = j then (S.nd j).setUp y' else S.nd j := fun j => nd_upd _ _ _ _ hxl
        have hz2 : (S.upd ((S.nd y').kid true) (Nd.setUp y')).nd z = S.nd z := by rw [hk2, if_neg hxz]
        have hy2 : (S.upd ((S.nd y').kid true) (Nd.setUp y')).nd y' = S.nd y' := by rw [hk2, if_neg hxy]
        have hlen2 : (S.upd ((S.nd y').kid true) (Nd.setUp y')).n.length = S.n.length := by simp
        obtain ⟨k0, S', t', w1, w2⟩ := drop_two (S := S) (S2 := S.upd ((S.nd y').kid true) (Nd.setUp y')) (C := C) (D := []) (l := l) (ry := ry) (z := z) (y := y') (p := y') (pz := p) (x := (S.nd y').kid true) (rx := (S.nd y').kid true) (cz := cz) (cy := cy)
          (by rw [hwhole]; exact hrb) (On.keep hlen2 rfl h.on (fun j hj => by rw [hk2, if_neg (fun e => hxC (by rw [e]; exact hj))])) hz0 (by rw [hz2]; exact hzu) (by rw [hz2]; exact hzr)
          (by rw [hz2]; exact Is.keep hlen2 hdl.is (fun j hj => by rw [hk2, if_neg (fun e => hll j hj e.symm)])) hl (by rw [hy2])
          (Is.reroot y' hlen2 hry (by have := hyn.1; simp only [T.ids, List.nil_append, List.nodup_cons] at this; exact this.2) (fun j hj hjx => by rw [hk2, if_neg (Ne.symm hjx)]) (fun _ => by rw [hk2, if_pos rfl]))
          y0 (by rw [hlen2]; exact yl) yC yl' yr' yz (by rw [hlen2]; exact h.len) nd' (by rw [hk2]; split; exact h00; exact h00) hry
          (fun x0 f D' e => by injection e with e3 e4; rw [← e3, hk2, if_pos x0]; rfl)
        refine fin (S.upd ((S.nd y').kid true) (Nd.setUp y')) k0 S' t' hlen2 (fun j => by rw [hk2]; split <;> simp) (fun k hk => ?_) w1 w2
        unfold dropS
        rw [if_neg hk0, if_neg hk1, hk]
        simp only [Option.map_some, Option.bind_some, yr, yu, e2, ↓reduceIte]
        rfl
      | cons f D =>
        obtain ⟨u1, u2, u3, u4, u5, u6⟩ := unlink (d := false) hy
        have hpy : py = f.i := hy.on.1
        have hpz : ¬ (S.nd y').up = z := fun e => by
          rw [yu, hpy] at e
          exact zr (by rw [← e]; exact (hpl0 _).2 (.inr (by simp [pids, Fr.ids])))
        obtain ⟨q, pq, v1, v2⟩ := Here.ups (f :: D) u1
        obtain ⟨v3, v4, v5, v6⟩ := v1.up
        simp only [Bool.not_false] at u1 u2 u3 u4 u5 u6 v1 v3 v6
        generalize hS1 : hang S ((S.nd y').kid true) y' = S1 at *
        subst v4
        have hzk1 : (S1.nd pq).k1 = q := v6
        have hq := v1.is
        have hq0 : q ≠ 0 := fun e => plug_ne' (is_zero (e ▸ hq))
        have hqm : q ∈ (plug (f :: D) ry).ids := is_mem hq hq0
        have hqy : q ≠ y' := fun e => yr' (by rw [← e]; exact hqm)
        have ql : q < S1.n.length := is_lt hq v1.len
        have hqC : q ∉ pids C := fun hc => hn2.2.2 q (by simp [T.ids, sub q hqm]) q hc rfl
        have hqz : q ≠ pq := fun e => zr (by rw [← e]; exact sub q hqm)
        have hql : ∀ j ∈ l.ids, j ≠ q := fun j hj e => lr j hj (by rw [e]; exact sub q hqm)
        have hy1 : S1.nd y' = S.nd y' := u3 y' (Ne.symm hxy) (fun e => by rw [hpy] at e; exact yD (by rw [e]; simp [pids, Fr.ids]))
        have hk2 : ∀ j, ((S1.upd y' (Nd.setKid true q)).upd q (Nd.setUp y')).nd j = if q = j then (S1.nd j).setUp y' else if y' = j then (S1.nd j).setKid true q else S1.nd j := by
          intro j
          rw [nd_upd _ _ _ _ (by simpa using ql), nd_upd _ _ _ _ (by rw [u4]; exact yl)]
          by_cases e1 : q = j
          · subst e1; simp [Ne.symm hqy]
          · simp [e1]
        have hlen2 : ((S1.upd y' (Nd.setKid true q)).upd q (Nd.setUp y')).n.length = S1.n.length := by simp
        have hz2 : ((S1.upd y' (Nd.setKid true q)).upd q (Nd.setUp y')).nd pq = S1.nd pq := by rw [hk2, if_neg hqz, if_neg yz]
        have vl := v3.down.other
        obtain ⟨k0, S', t', w1, w2⟩ := drop_two (S := S1) (S2 := (S1.upd y' (Nd.setKid true q)).upd q (Nd.setUp y')) (C := C) (D := f :: D) (l := l) (ry := ry) (z := pq) (y := y') (p := py) (pz := (S1.nd pq).up) (x := (S.nd y').kid true) (rx := q) (cz := cz) (cy := cy)
          (by rw [hwhole]; exact hrb) (On.keep hlen2 rfl v3.on (fun j hj => by rw [hk2, if_neg (fun e => hqC (by rw [e]; exact hj)), if_neg (fun e => yC (by rw [e]; exact hj))])) hz0 (by rw [hz2]) (by rw [hz2, u6]; exact hzr)
          (by rw [hz2]; exact Is.keep hlen2 vl.is (fun j hj => by rw [hk2, if_neg (fun e => hql j hj e.symm), if_neg (fun e => yl' (by rw [e]; exact hj))])) hl
          (by rw [hk2, if_neg hqy, if_pos rfl, kid_setKid, if_pos rfl])
          (Is.reroot y' hlen2 hq (by have := List.nodup_append.1 nd'; exact (nodup_nod (d := false) this.1).2.1) (fun j hj hjx => by rw [hk2, if_neg (Ne.symm hjx), if_neg (fun e => yr' (by rw [e]; exact hj))]) (fun _ => by rw [hk2, if_pos rfl]))
          y0 (by rw [hlen2, u4]; exact yl) yC yl' yr' yz (by rw [hlen2, u4]; exact h.len) nd' (by rw [hk2, if_neg hq0, if_neg y0, u6]; exact h00) u1.is
          (fun x0 g D' e => by injection e with e3 e4; rw [← e3, hk2, if_neg hq0, if_neg y0, ← hpy, ← u2, x0])
        refine fin _ k0 S' t' (hlen2.trans u4) (fun j => by rw [hk2]; split; exact u5 j; split; exact u5 j; exact u5 j) (fun k hk => ?_) w1 w2
        unfold dropS
        rw [if_neg hk0, if_neg hk1, hk]
        have e1 : (hang S (S.nd y').k1 y') = S1 := hS1
        have e2 : ((S1.upd y' (Nd.setKid true q)).nd y').k1 = q := by rw [nd_upd _ _ _ _ (by rw [u4]; exact yl), if_pos rfl]; rfl
        simp only [Option.map_some, Option.bind_some, yr, if_neg hpz, e1, hzk1, e2]
        rfl

/-! ### Keys -/
abbrev Key := Int × Int
def lt (p q : Key) : Bool := decide (p.1 < q.1) || (decide (p.1 = q.1) && decide (p.2 < q.2))
theorem lt_iff (p q : Key) : lt p q = true ↔ p.1 < q.1 ∨ (p.1 = q.1 ∧ p.2 < q.2) := by simp [lt]
theorem lt_irrefl (p : Key) : ¬ lt p p = true := by rw [lt_iff]; omega
theorem lt_trans {p q r : Key} (h : lt p q = true) (k : lt q r = true) : lt p r = true := by rw [lt_iff] at *; omega
theorem lt_asymm {p q : Key} (h : lt p q = true) : ¬ lt q p = true := by rw [lt_iff] at *; omega
theorem lt_tri (p q : Key) : lt p q = true ∨ p = q ∨ lt q p = true := by
  rw [lt_iff, lt_iff]
  by_cases h : p = q
  · exact .inr (.inl h)
  · have : ¬ (p.1 = q.1 ∧ p.2 = q.2) := fun e => h (Prod.ext e.1 e.2)
    omega
def TS.key (S : TS) (i : Nat) : Key := ((S.nd i).a, (S.nd i).s)
theorem key_load {S S' : TS} {i j : Nat} (h : (S'.nd j).load = (S.nd i).load) : S'.key j = S.key i := by
  unfold Nd.load at h
  simp only [Prod.mk.injEq] at h
  unfold TS.key
  rw [h.1, h.2.1]
def find : Nat → TS → Key → Nat → Nat → Option (Nat × Nat)
  | 0, _, _, _, _ => none
  | k + 1, S, q, x, last => if x = 0 then some (0, last) else if lt q (S.key x) = true then find k S q (S.nd x).k0 x else if lt (S.key x) q = true then find k S q (S.nd x).k1 x else some (x, x)
theorem find_mono : ∀ (k : Nat) (S : TS) (q : Key) (x l : Nat) (r : Nat × Nat), find k S q x l = some r → ∀ m, k ≤ m → find m S q x l = some r
  | 0, _, _, _, _, _, h, _, _ => by simp [find] at h
  | k + 1, S, q, x, l, r, h, 0, hm => by omega
  | k + 1, S, q, x, l, r, h, m + 1, hm => by
    unfold find at h ⊢
    by_cases h1 : x = 0
    · rw [if_pos h1] at h ⊢; exact h
    · rw [if_neg h1] at h ⊢
      by_cases h2 : lt q (S.key x) = true
      · rw [if_pos h2] at h ⊢; exact find_mono k _ _ _ _ _ h m (by omega)
      · rw [if_neg h2] at h ⊢
        by_cases h3 : lt (S.key x) q = true
        · rw [if_pos h3] at h ⊢; exact find_mono k _ _ _ _ _ h m (by omega)
        · rw [if_neg h3] at h ⊢; exact h
def Rising (S : TS) (l : List Nat) : Prop := l.Pairwise fun i j => lt (S.key i) (S.key j) = true
/-- where a key is, or would be -/
inductive Found (S : TS) (w : T) (q : Key) : Nat × Nat → Prop
  | there {C : Path} {l r : T} {i p : Nat} {c : Bool} : Here S C (.node l i c r) i p → plug C (.node l i c r) = w → S.key i = q → Found S w q (i, i)
  | not {C : Path} {p : Nat} : Here S C .nil 0 p → plug C .nil = w → (∀ j ∈ lids C, lt (S.key j) q = true) → (∀ j ∈ rids C, lt q (S.key j) = true) → Found S w q (0, p)
theorem find_spec {S : TS} {q : Key} : ∀ (t : T) {C : Path} {x p : Nat}, Here S C t x p → Rising S (plug C t).ids → (∀ j ∈ lids C, lt (S.key j) q = true) → (∀ j ∈ rids C, lt q (S.key j) = true) →
    ∃ k r, find k S q x p = some r ∧ Found S (plug C t) q r
  | .nil, C, x, p, h, _, hl, hr => by
    obtain rfl : x = 0 := h.is
    exact ⟨1, _, by unfold find; simp, .not h rfl hl hr⟩
  | .node l i c r, C, x, p, h, hs, hl, hr => by
    obtain ⟨rfl, x0, -, -, -⟩ := Here.root (d := false) h
    have hs' := hs
    rw [plug_ids] at hs
    unfold Rising at hs
    simp only [T.ids, List.append_assoc, List.cons_append, List.pairwise_append, List.pairwise_cons, List.mem_append, List.mem_cons] at hs
    rcases lt_tri q (S.key x) with h1 | h1 | h1
    · obtain ⟨k, r', e1, e2⟩ := find_spec l (Here.down (d := false) h) hs' (by simpa [lids] using hl) (fun j hj => by
        simp only [rids, Bool.false_eq_true, ↓reduceIte, List.cons_append, List.mem_cons, List.mem_append] at hj
        rcases hj with rfl | hj | hj
        · exact h1
        · exact lt_trans h1 (hs.2.1.2.1.1 j (.inl hj))
        · exact hr j hj)
      refine ⟨k + 1, r', ?_, e2⟩
      unfold find; rw [if_neg x0, if_pos h1]; exact e1
    · refine ⟨1, (x, x), ?_, .there h rfl h1.symm⟩
      unfold find; rw [if_neg x0, h1, if_neg (lt_irrefl _), if_neg (lt_irrefl _)]
    · obtain ⟨k, r', e1, e2⟩ := find_spec r (Here.down (d := true) (a := r) (b := l) h) hs' (fun j hj => by
        simp only [lids, ↓reduceIte, List.mem_cons, List.mem_append, List.not_mem_nil, or_false] at hj
        rcases hj with hj | hj | rfl
        · exact hl j hj
        · exact lt_trans (hs.2.1.2.2 j hj x (.inl rfl)) h1
        · exact h1) (by simpa [rids] using hr)
      refine ⟨k + 1, r', ?_, e2⟩
      unfold find; rw [if_neg x0, if_neg (lt_asymm h1), if_pos h1]; exact e1
/-! ### put -/
theorem Is.grow {S S' : TS} (hl : S.n.length ≤ S'.n.length) : ∀ {t : T} {x p : Nat}, Is S t x p → (∀ i ∈ t.ids, S'.nd i = S.nd i) → Is S' t x p
  | .nil, _, _, h, _ => h
  | .node l i c r, x, p, h, k => by
    obtain ⟨h1, h2, h3, h4, h5, h6, h7⟩ := h
    have e := k i (by simp [T.ids])
    refine ⟨h1, h2, by omega, e ▸ h4, e ▸ h5, ?_, ?_⟩
    · rw [e]; exact Is.grow hl h6 (fun j hj => k j (by simp [T.ids, hj]))
    · rw [e]; exact Is.grow hl h7 (fun j hj => k j (by simp [T.ids, hj]))
theorem On.grow {S S' : TS} (hl : S.n.length ≤ S'.n.length) (hr : S'.root = S.root) : ∀ {C : Path} {x p : Nat}, On S C x p → (∀ i ∈ pids C, S'.nd i = S.nd i) → On S' C x p
  | [], _, _, h, _ => ⟨hr ▸ h.1, h.2⟩
  | f :: C, x, p, h, k => by
    obtain ⟨h1, h2, h3, h4, h5, h6, h7⟩ := h
    have e := k f.i (by simp [pids, Fr.ids])
    refine ⟨h1, h2, by omega, e ▸ h4, e ▸ h5, ?_, ?_⟩
    · rw [e]; exact Is.grow hl h6 (fun j hj => k j (by simp [pids, Fr.ids, hj]))
    · rw [e]; exact On.grow hl hr h7 (fun j hj => k j (by simp [pids, hj]))
/-- a fresh node under the last one on the way -/
def link (S : TS) (q : Key) (z last : Nat) : TS :=
  if last = 0 then S.setRoot z else if lt q (S.key last) = true then S.upd last (Nd.setKid false z) else S.upd last (Nd.setKid true z)
theorem link_spec {S S1 : TS} {C : Path} {p z : Nat} {q : Key} {v : Int} (h : Here S C .nil 0 p) (hl : ∀ j ∈ lids C, lt (S.key j) q = true) (hr : ∀ j ∈ rids C, lt q (S.key j) = true)
    (z0 : z ≠ 0) (zC : z ∉ pids C) (zl : z < S1.n.length) (hlen : S.n.length ≤ S1.n.length) (hroot : S1.root = S.root) (hold : ∀ j, j ≠ z → S1.nd j = S.nd j) (hz : S1.nd z = ⟨q.1, q.2, v, 0, 0, p, true⟩) :
    Here (link S1 q z p) C (.node .nil z true .nil) z p ∧ (link S1 q z p).n.length = S1.n.length ∧ (∀ j, ((link S1 q z p).nd j).load = (S1.nd j).load) ∧ (link S1 q z p).nd 0 = S1.nd 0 := by
  have nC : (pids C).Nodup := by have := h.nd; simpa [T.ids] using this
  have hpl := on_lt h.on h.len
  have nd' : ((T.node .nil z true .nil).ids ++ pids C).Nodup := by simp [T.ids, zC, nC]
  have ho1 : On S1 C 0 p := On.grow hlen hroot h.on (fun j hj => hold j (fun e => zC (e ▸ hj)))
  have hzz : ∀ S2 : TS, S2.nd z = S1.nd z → S2.n.length = S1.n.length → Is S2 (.node .nil z true .nil) z p := fun S2 e1 e2 =>
    ⟨rfl, z0, by rw [e2]; exact zl, by rw [e1, hz], by rw [e1, hz], by rw [e1, hz]; rfl, by rw [e1, hz]; rfl⟩
  cases C with
  | nil =>
    obtain ⟨_, rfl⟩ := h.on
    have e : link S1 q z 0 = S1.setRoot z := by unfold link; simp
    rw [e]
    exact ⟨⟨⟨rfl, rfl⟩, hzz _ rfl rfl, nd', by rw [len_setRoot]; omega⟩, rfl, fun _ => rfl, rfl⟩
  | cons f C =>
    have hpf := h.on.1
    have p0 : p ≠ 0 := by rw [hpf]; exact h.on.2.1
    have pz : p ≠ z := fun e => zC (by rw [← e, hpf]; simp [pids, Fr.ids])
    have kp : S1.key p = S.key p := by unfold TS.key; rw [hold p pz]
    have e : link S1 q z p = S1.upd p (Nd.setKid f.d z) := by
      unfold link
      rw [if_neg p0, kp]
      cases hd : f.d with
      | false =>
        rw [if_pos (hr p (by simp [rids, hd, hpf]))]
      | true =>
        rw [if_neg (lt_asymm (hl p (by simp [lids, hd, hpf])))]
    rw [e]
    have hp1 : p < S1.n.length := by omega
    have hk : ∀ j, (S1.upd p (Nd.setKid f.d z)).nd j = if p = j then (S1.nd j).setKid f.d z else S1.nd j := fun j => nd_upd _ _ _ _ hp1
    refine ⟨⟨?_, hzz _ (by rw [hk, if_neg pz]) (by simp), nd', by simp; omega⟩, by simp, fun j => ?_, by rw [hk, if_neg p0]⟩
    · refine On.rehang z (by simp) ho1 nC (by simp [p0]) (fun j hj hjp => by rw [hk, if_neg (Ne.symm hjp)]) (fun f' C' hc => ?_)
      injection hc with h1 h2
      subst h1
      rw [hk, if_pos rfl]
    · rw [hk]; split <;> simp
theorem put_spec {S S1 : TS} {w : T} {p z m : Nat} {q : Key} {v : Int} (hf : Found S w q (0, p)) (hrb : RB w false m) (h0 : S.nd 0 = Nd.zero)
    (z0 : z ≠ 0) (zw : z ∉ w.ids) (zl : z < S1.n.length) (hlen : S.n.length ≤ S1.n.length) (hroot : S1.root = S.root) (hold : ∀ j, j ≠ z → S1.nd j = S.nd j) (hz : S1.nd z = ⟨q.1, q.2, v, 0, 0, p, true⟩) :
    ∃ k S' t' L R, settle k (link S1 q z p) z = some S' ∧ Is S' t' S'.root 0 ∧ w.ids = L ++ R ∧ t'.ids = L ++ z :: R ∧ (∀ j ∈ L, lt (S.key j) q = true) ∧ (∀ j ∈ R, lt q (S.key j) = true) ∧ (∃ n, RB t' false n) ∧
      S'.n.length = S1.n.length ∧ (∀ j, (S'.nd j).load = (S1.nd j).load) ∧ S'.nd 0 = Nd.zero := by
  generalize hr : (0, p) = r at hf
  cases hf with
  | there h1 _ _ =>
    injection hr with e1 e2
    exact absurd (e1.symm) (Here.root (d := false) h1).2.1
  | @not C p' h1 hw hl hrr =>
    injection hr with _ e2
    subst e2
    subst hw
    have zC : z ∉ pids C := fun hc => zw ((ids_plug C .nil z).2 (.inr hc))
    obtain ⟨g1, g2, g3, g4⟩ := link_spec h1 hl hrr z0 zC zl hlen hroot hold hz
    obtain ⟨c, n, r1, r2, _⟩ := pok_of_rb C hrb
    obtain ⟨rfl, rfl⟩ : c = false ∧ n = 0 := by cases r1; exact ⟨rfl, rfl⟩
    have h00 : (link S1 q z p).nd 0 = Nd.zero := by rw [g4, hold 0 (Ne.symm z0), h0]
    obtain ⟨k, S', t', e1, e2⟩ := settle_spec C.length (Nat.le_refl _) g1 (.red .nil .nil) r2 (by rw [h00]; rfl)
    refine ⟨k, S', t', lids C, rids C, e1, e2.is, by rw [plug_ids]; simp [T.ids], by rw [e2.ids, plug_ids]; simp [T.ids], hl, hrr, e2.rb, e2.same.len.trans g2, fun j => (e2.same.load j).trans (g3 j), by rw [e2.same.zero, h00]⟩

/-! ### Going through -/
def nextN : Nat → TS → Key → Nat → Nat → Option Nat
  | 0, _, _, _, _ => none
  | k + 1, S, q, x, best => if x = 0 then some best else if lt q (S.key x) = true then nextN k S q (S.nd x).k0 x else nextN k S q (S.nd x).k1 best
/-- the first one above a key, of a list -/
def above (S : TS) (q : Key) (l : List Nat) (d : Nat) : Nat := (l.find? fun i => lt q (S.key i)).getD d
theorem above_append (S : TS) (q : Key) (l m : List Nat) (d : Nat) : above S q (l ++ m) d = above S q l (above S q m d) := by
  unfold above
  rw [List.find?_append]
  cases List.find? (fun i => lt q (S.key i)) l <;> simp
theorem above_none (S : TS) (q : Key) (l : List Nat) (d : Nat) (h : ∀ j ∈ l, ¬ lt q (S.key j) = true) : above S q l d = d := by
  unfold above
  rw [List.find?_eq_none.2 h]; rfl
theorem next_spec {S : TS} {q : Key} : ∀ (t : T) {x p : Nat} (best : Nat), Is S t x p → Rising S t.ids → ∃ k, nextN k S q x best = some (above S q t.ids best)
  | .nil, x, p, best, h, _ => ⟨1, by unfold nextN; rw [if_pos (show x = 0 from h)]; rfl⟩
  | .node l i c r, x, p, best, h, hs => by
    obtain ⟨rfl, x0, _, _, _, hl, hr⟩ := h
    unfold Rising at hs
    simp only [T.ids, List.pairwise_append, List.pairwise_cons, List.mem_cons] at hs
    by_cases h1 : lt q (S.key x) = true
    · obtain ⟨k, e⟩ := next_spec l x hl hs.1
      refine ⟨k + 1, ?_⟩
      unfold nextN
      rw [if_neg x0, if_pos h1]
      refine Eq.trans e ?_
      rw [T.ids, above_append]
      congr 2
      unfold above
      simp [h1]
    · obtain ⟨k, e⟩ := next_spec r best hr hs.2.1.2
      refine ⟨k + 1, ?_⟩
      unfold nextN
      rw [if_neg x0, if_neg h1]
      refine Eq.trans e ?_
      rw [T.ids, above_append, above_none S q l.ids _ (fun j hj hc => h1 (lt_trans hc (hs.2.2 j hj x (.inl rfl))))]
      congr 1
      unfold above
      simp [h1]
def ord : Nat → TS → Nat → List Nat → List Nat → Option (List Nat)
  | 0, _, _, _, _ => none
  | k + 1, S, x, todo, out =>
    if x ≠ 0 then ord k S (S.nd x).k0 (todo ++ [x]) out
    else if todo = [] then some out
    else ord k S (S.nd (todo.getLastD 0)).k1 todo.dropLast (out ++ [todo.getLastD 0])
theorem ord_spec {S : TS} : ∀ (t : T) {x p : Nat}, Is S t x p → ∀ (todo out : List Nat), ∃ j, ∀ k, ord (k + j) S x todo out = ord k S 0 todo (out ++ t.ids)
  | .nil, x, p, h, todo, out => ⟨0, fun k => by rw [show x = 0 from h]; simp [T.ids]⟩
  | .node l i c r, x, p, h, todo, out => by
    obtain ⟨rfl, x0, _, _, _, hl, hr⟩ := h
    obtain ⟨j1, e1⟩ := ord_spec l hl (todo ++ [x]) out
    obtain ⟨j2, e2⟩ := ord_spec r hr todo (out ++ l.ids ++ [x])
    refine ⟨j2 + 1 + j1 + 1, fun k => ?_⟩
    have a1 : ord (k + (j2 + 1 + j1 + 1)) S x todo out = ord (k + (j2 + 1) + j1) S ((S.nd x).kid false) (todo ++ [x]) out := by
      rw [show k + (j2 + 1 + j1 + 1) = (k + (j2 + 1) + j1) + 1 from by omega]
      conv => lhs; unfold ord
      rw [if_pos x0]; rfl
    have a2 : ord (k + (j2 + 1)) S 0 (todo ++ [x]) (out ++ l.ids) = ord (k + j2) S ((S.nd x).kid true) todo (out ++ l.ids ++ [x]) := by
      rw [show k + (j2 + 1) = (k + j2) + 1 from by omega]
      conv => lhs; unfold ord
      simp only [ne_eq, not_true_eq_false, ↓reduceIte, List.append_eq_nil_iff, List.cons_ne_self, and_false]
      simp [Nd.kid]
    rw [a1, e1, a2, e2]
    simp [T.ids]
theorem ord_all {S : TS} {t : T} {x p : Nat} (h : Is S t x p) : ∃ k, ord k S x [] [] = some t.ids := by
  obtain ⟨j, e⟩ := ord_spec t h [] []
  refine ⟨1 + j, (e 1).trans ?_⟩
  unfold ord; simp
end Go.Proofs.Ytkdmlpigkmlkmaa.TreeP
