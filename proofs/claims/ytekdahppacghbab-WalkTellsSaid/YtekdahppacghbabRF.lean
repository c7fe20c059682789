/- DERIVED. A range over a function, over what is owned (each party's blocks apart from the other's). No Go text. -/
import Derived.Test.YtekdahppacghbabPack
import Derived.RangeFuncNested
import Derived.RangeFuncBound
import Derived.RangeFuncCalls
import Derived.RangeFuncLeaves
set_option linter.unusedVariables false
set_option linter.unusedSimpArgs false
namespace Go.Proofs.Ytekdahppacghbab
open Go.RowKit

/-- an object of the book-keeping -/
def ObjHP (l : Nat) (o : Obj) : HP where
  holds w s := w.heap[l]? = some o ∧ ∀ x, s x ↔ x = l
  loc := fun {w w' s} h h1 h2 h3 h4 h5 => ⟨(h4 l ((h.2 l).2 rfl)).trans h.1, h.2⟩
  bnd := fun {w s x} h hx => by rw [(h.2 x).1 hx]; exact (Array.getElem?_eq_some_iff.1 h.1).1
theorem Own.objNew {l : List HP} {w : World} (h : Own l w) (o : Obj) : Own (ObjHP w.heap.size o :: l) (w.alloc o) :=
  h.new (s := fun x => x = w.heap.size) ((Ext.refl w).alloc _) ⟨World.alloc_heap_new w _, fun _ => Iff.rfl⟩ (fun b hb => by rw [hb]; exact Nat.le_refl _)
theorem Own.obj {l : List HP} {w : World} {b : Nat} {o : Obj} (h : Own (ObjHP b o :: l) w) : w.heap[b]? = some o := by
  obtain ⟨s, hP, _⟩ := h.open
  exact hP.1
theorem step_putObj (w : World) (l : Nat) (o : Obj) : Step (fun x => x = l) w (w.putObj l o) :=
  ⟨rfl, rfl, rfl, by rw [World.putObj_size]; exact Nat.le_refl _, fun b hb hs => World.putObj_heap_other hs⟩
theorem Own.objSet {l : List HP} {w : World} {b : Nat} {o : Obj} (h : Own (ObjHP b o :: l) w) (o' : Obj) : Own (ObjHP b o' :: l) (w.putObj b o') := by
  have hb := (Array.getElem?_eq_some_iff.1 h.obj).1
  obtain ⟨s, hP, hs, K⟩ := h.open
  exact K ((step_putObj w b o').mono (fun i hi => (hP.2 i).2 hi)) (P' := ObjHP b o') (s' := s) ⟨World.putObj_heap_same hb, hP.2⟩ (fun x hx => .inl hx)

/-- a call of yield: it leads to a round -/
def YieldO (P : Program) (l : Nat) (args : Array Value) (W : World) (R : Ending → World → Prop) : Prop :=
  ∃ fn tmps assign body, (Instr.yield l args).run P W = .ok (.round l fn tmps assign body) W ∧ ∀ n, RoundIn Fence.wide n P l fn tmps assign body W R
theorem RoundIn.any {P : Program} {n m l fn : Nat} {tmps : Array Value} {assign body : Code} {W : World} {R : Ending → World → Prop} (h : RoundIn Fence.wide n P l fn tmps assign body W R) : RoundIn Fence.wide m P l fn tmps assign body W R :=
  ⟨h.1, fun c cs _ => h.2 c cs (room_wide _)⟩
theorem CallsIn.any {P : Program} {n m f : Nat} {args : Array Value} {W : World} {R : Ending → World → Prop} (h : CallsIn Fence.wide n P f args W R) : CallsIn Fence.wide m P f args W R := callsIn_wide.2 (callsIn_wide.1 h)
/-- what an iterator does: it tells xs, one by one, and minds nothing of what the rounds own; it stops where a round says so -/
def SeqO {α : Type} (P : Program) (gf : Nat) (lb : Array Value) (encs : α → Array Value) (xs : List α) (R0 : List HP) : Prop :=
  ∀ (l : Nat) (I Ix : List α → List HP) (R1 : List HP) (W : World),
    (∀ pre x W1 R, pre ++ [x] <+: xs → Own (I pre ++ R) W1 → YieldO P l (encs x) W1 fun e W' => (e = .returned (.bool true) ∧ Own (I (pre ++ [x]) ++ R) W') ∨ (e = .returned (.bool false) ∧ Own (Ix (pre ++ [x]) ++ R) W')) →
    Own (I [] ++ (R0 ++ R1)) W →
    Calls P gf (#[.func (.yield l) #[] #[]] ++ lb) W fun e W' => (∃ v, e = .returned v) ∧ (Own (I xs ++ (R0 ++ R1)) W' ∨ ∃ pre, pre <+: xs ∧ Own (Ix pre ++ (R0 ++ R1)) W')
/-- how the body of a round may be left -/
def postO {α : Type} (I : List α → List HP) (Ix : Code → List α → List HP) (R : List HP) (xs : List α) : Exit → Act → World → Prop
  | .normal, _, W' => Own (I xs ++ R) W'
  | .ret, _, W' => Own (Ix .ret xs ++ R) W'
  | .exit id, _, W' => Own (Ix (.exit id) xs ++ R) W'
  | .goto t, _, W' => Own (Ix (.goto t) xs ++ R) W'
  | .panic _, _, _ => False
  | .outgrown, _, _ => False
section
variable {P : Program} {α : Type}
theorem rangeFunc_own {n : Nat} {g : Operand} {ps : Array Tmp} {assign body : Code} {Q : Exit → Act → World → Prop} {a : Act} {w : World}
    {gf : Nat} {lb : Array Value} (hg : a.eval g = .func (.func gf) #[] lb) (eg : ∀ args w, (callFunc gf args).run P w = .ok (.enter gf args) w)
    {encs : α → Array Value} {xs : List α} {R0 : List HP} (hseq : SeqO P gf lb encs xs R0) (hps : ∀ x, (encs x).size = ps.size)
    (I : List α → List HP) (Ix : Code → List α → List HP) (R1 : List HP) (h0 : Own (I [] ++ (R0 ++ R1)) w) (Ax : α → List HP → Act → Prop)
    (hassign : ∀ (l : Nat) (pre : List α) (x : α) (W : World) (R : List HP) (K : Act → World → Prop), Own (I pre ++ R) W → (∀ a' W' Z, Own (Z ++ (I pre ++ R)) W' → Ax x Z a' → K a' W') →
      assign.wpIn (Fence.wide.inRound l) (n - 1 - 1) P (Exit.then K (fun _ _ _ => False)) { tmps := (ps.zip (encs x)).foldl (fun t (p, v) => t.setIfInBounds p v) a.tmps, defers := [] } W)
    (hbody : ∀ (l : Nat) (pre : List α) (x : α) (a' : Act) (Z : List HP) (W : World) (R : List HP), pre ++ [x] <+: xs → Ax x Z a' → Own (Z ++ (I pre ++ R)) W → body.wpIn (Fence.wide.inRound l) (n - 1 - 1) P (postO I Ix R (pre ++ [x])) a' W)
    (hdone : ∀ (D : Nat) (W : World), Own (ObjHP D (.deferred (some [])) :: (I xs ++ (R0 ++ R1))) W → Q .normal { a with defers := { target := .collected D, args := #[] } :: a.defers } W)
    (hstop : ∀ (D : Nat) (c : Code) (pre : List α) (W : World), pre <+: xs → Own (ObjHP D (.deferred (some [])) :: (Ix c pre ++ (R0 ++ R1))) W → c.wpIn Fence.wide n P Q { a with defers := { target := .collected D, args := #[] } :: a.defers } W) :
    (Code.rangeFunc g ps assign body).wpIn Fence.wide n P Q a w := by
  refine wpIn_rangeFunc ?_
  intro fn hfn
  obtain ⟨rec, hrec⟩ : ∃ rec : LoopState → Option Code → Loop, rec = fun st pe => { state := st, pending := pe, fn, tmps := a.tmps, params := ps, assign, body, defers := w.heap.size } := ⟨_, rfl⟩
  obtain ⟨W1, hW1⟩ : ∃ W1, (w.alloc (.deferred (some []))).alloc (.loop (rec .ready none)) = W1 := ⟨_, rfl⟩
  have hO : Own (ObjHP (w.heap.size + 1) (.loop (rec .ready none)) :: ObjHP w.heap.size (.deferred (some [])) :: (I [] ++ (R0 ++ R1))) W1 := by
    have := (h0.objNew (.deferred (some []))).objNew (.loop (rec .ready none))
    rw [World.size_alloc, hW1] at this
    exact this
  refine ⟨w.heap.size + 1, [{ target := .collected w.heap.size, args := #[] }], W1, { target := .fn (.func gf) lb, args := #[.func (.yield (w.heap.size + 1)) #[] #[]] }, W1, gf,
    #[.func (.yield (w.heap.size + 1)) #[] #[]] ++ lb, W1, ?_, ?_, ?_, ?_, fun h => by simp [Fence.wide] at h, ?_⟩
  · rw [← hW1, hrec]; exact run_enterLoop_outer _ _ _ _ _
  · simp only [resolve, hg]
    simp [go_sem]
  · intro f' hf'; trivial
  · simp [invoke, go_sem, eg]
  · -- the iterator, over what the caller owns and the two blocks of book-keeping
    have hperm : ∀ {A B C : HP} {X Y : List HP} , (A :: B :: (X ++ Y)).Perm (X ++ (A :: B :: Y)) := fun {A B C X Y} => by
      have := (List.perm_append_comm (l₁ := [A, B]) (l₂ := X)).append_right Y
      simpa using this
    refine callsIn_wide.2 ((hseq (w.heap.size + 1)
      (fun pre => ObjHP (w.heap.size + 1) (.loop (rec .ready none)) :: ObjHP w.heap.size (.deferred (some [])) :: I pre)
      (fun pre => [PackE (fun _ : Code => True) (fun c => ObjHP (w.heap.size + 1) (.loop (rec .done (some c))) :: ObjHP w.heap.size (.deferred (some [])) :: Ix c pre)])
      R1 W1 ?_ hO).mono ?_)
    · -- one round
      intro pre x W R hpre h
      have hl := h.obj
      have hy := run_yield (P := P) (args := encs x) hl (by rw [hrec]; exact hps x)
      rw [hrec] at hy
      refine ⟨fn, _, assign, body, hy, fun m => RoundIn.any (n := n - 1 - 1) (roundIn_of_wpIn hfn ?_)⟩
      clear hy
      have hIR : Own (I pre ++ (ObjHP (w.heap.size + 1) (.loop (rec .ready none)) :: ObjHP w.heap.size (.deferred (some [])) :: R)) W := h.perm (hperm (C := ObjHP 0 (.deferred none)))
      refine hassign _ pre x W _ _ hIR ?_
      intro a' Wa Z hZ hax
      have hl2 : Own (ObjHP (w.heap.size + 1) (.loop (rec .ready none)) :: (Z ++ (I pre ++ (ObjHP w.heap.size (.deferred (some [])) :: R)))) Wa := by
        refine hZ.perm ?_
        have h1 : (I pre ++ (ObjHP (w.heap.size + 1) (.loop (rec .ready none)) :: ObjHP w.heap.size (.deferred (some [])) :: R)).Perm (ObjHP (w.heap.size + 1) (.loop (rec .ready none)) :: (I pre ++ (ObjHP w.heap.size (.deferred (some [])) :: R))) := List.perm_middle
        exact (h1.append_left Z).trans List.perm_middle
      refine ⟨_, run_beginRound hl2.obj (by rw [hrec]), ?_⟩
      have hl3 := hl2.objSet (.loop { rec .ready none with state := .busy })
      have hl4 : Own (Z ++ (I pre ++ (ObjHP (w.heap.size + 1) (.loop { rec .ready none with state := .busy }) :: ObjHP w.heap.size (.deferred (some [])) :: R))) (Wa.putObj (w.heap.size + 1) (.loop { rec .ready none with state := .busy })) := by
        refine hl3.perm ?_
        have h1 : (I pre ++ (ObjHP (w.heap.size + 1) (.loop { rec .ready none with state := .busy }) :: ObjHP w.heap.size (.deferred (some [])) :: R)).Perm (ObjHP (w.heap.size + 1) (.loop { rec .ready none with state := .busy }) :: (I pre ++ (ObjHP w.heap.size (.deferred (some [])) :: R))) := List.perm_middle
        exact ((h1.append_left Z).trans List.perm_middle).symm
      refine wpIn_mono (hbody _ pre x a' Z _ _ hpre hax hl4) ?_
      have fin : ∀ (jump : Option Code) (W3 : World) (X : List HP), Own (X ++ (ObjHP (w.heap.size + 1) (.loop { rec .ready none with state := .busy }) :: ObjHP w.heap.size (.deferred (some [])) :: R)) W3 →
          (Instr.endRound (w.heap.size + 1) jump).run P W3 = .ok (.bool jump.isNone) (W3.putObj (w.heap.size + 1) (.loop (rec (if jump.isNone then .ready else .done) jump))) ∧
          Own (ObjHP (w.heap.size + 1) (.loop (rec (if jump.isNone then .ready else .done) jump)) :: ObjHP w.heap.size (.deferred (some [])) :: (X ++ R)) (W3.putObj (w.heap.size + 1) (.loop (rec (if jump.isNone then .ready else .done) jump))) := fun jump W3 X h3 => by
        have h4 : Own (ObjHP (w.heap.size + 1) (.loop { rec .ready none with state := .busy }) :: ObjHP w.heap.size (.deferred (some [])) :: (X ++ R)) W3 := h3.perm (hperm (C := ObjHP 0 (.deferred none))).symm
        have := run_endRound (P := P) jump h4.obj
        rw [hrec] at this ⊢
        exact ⟨this, h4.objSet _⟩
      rintro e a3 W3 hp
      cases e with
      | normal =>
        obtain ⟨hr, hx⟩ := fin none W3 _ hp
        exact ⟨_, _, hr, .inl ⟨rfl, hx⟩⟩
      | ret =>
        obtain ⟨hr, hx⟩ := fin (some .ret) W3 _ hp
        exact ⟨_, _, hr, .inr ⟨rfl, Own.pack Code.ret trivial hx⟩⟩
      | exit id =>
        obtain ⟨hr, hx⟩ := fin (some (.exit id)) W3 _ hp
        exact ⟨_, _, hr, .inr ⟨rfl, Own.pack (Code.exit id) trivial hx⟩⟩
      | goto t =>
        obtain ⟨hr, hx⟩ := fin (some (.goto t)) W3 _ hp
        exact ⟨_, _, hr, .inr ⟨rfl, Own.pack (Code.goto t) trivial hx⟩⟩
      | panic ch => exact hp.elim
      | outgrown => exact hp.elim
    · -- behind the iterator
      rintro e W2 ⟨⟨v, rfl⟩, (h | ⟨pre, hpre, h⟩)⟩
      · refine ⟨none, _, by have := run_endLoop (P := P) (Own.obj h) (by rw [hrec]; simp); rw [hrec] at this; exact this, hdone _ _ ?_⟩
        exact (Own.objSet h _).drop
      · obtain ⟨c, -, hc⟩ := Own.unpack h
        refine ⟨some c, _, by have := run_endLoop (P := P) (Own.obj hc) (by rw [hrec]; simp); rw [hrec] at this; exact this, hstop _ c pre _ hpre ?_⟩
        exact (Own.objSet hc _).drop
end
end Go.Proofs.Ytekdahppacghbab
