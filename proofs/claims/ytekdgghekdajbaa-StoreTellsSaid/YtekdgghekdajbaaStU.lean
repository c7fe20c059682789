/- DERIVED. Layer 10 (store): the store as one assertion; Put and Free, whichever way; calls that came in. -/
import Derived.Test.YtekdgghekdajbaaStT
import Derived.Test.YtekdgghekdajbaaPk2
import Derived.Deep.Strs
import Derived.Test.YtekdgghekdajbaaPkt
set_option linter.unusedVariables false
set_option linter.unusedSimpArgs false
set_option maxRecDepth 100000
namespace Go.Proofs.Ytekdgghekdajbaa.St
open Go.RowKit Go.Proofs.Ytekdgghekdajbaa Go.Proofs.Ytekdgghekdajbaa.Ar Go.WideShapes Go.ChangeShapes Go.ChangeAt

structure SX where
  H : List Hd
  bys : Int
  pa : Nat
  v : Value
def StoP (p N : Nat) (X : A) (E : List HE) (nx : Int) : HP :=
  PackE (fun x : SX => SI N X x.H E x.bys) (fun x => [Go.Proofs.Ytekdgghekdajbaa.Blk p #[.pointer (some ⟨x.pa, 0, none⟩), x.v, .int .i64 x.bys, .int .u64 nx] 97, Arena x.pa X, Row 72 7 x.v x.H.length (x.H.flatMap hc)])
section
variable {p N : Nat} {X : A} {E : List HE} {nx : Int} {l : List HP} {w : World}
theorem sto_open (h : Own (StoP p N X E nx :: l) w) : StE p N X E nx l w := by
  obtain ⟨⟨H, bys, pa, v⟩, hi, h⟩ := h.unpack
  exact ⟨H, bys, ⟨pa, v, h⟩, hi⟩
theorem sto_shut (h : StE p N X E nx l w) : Own (StoP p N X E nx :: l) w := by
  obtain ⟨H, bys, ⟨pa, v, h⟩, hi⟩ := h
  exact Own.pack ⟨H, bys, pa, v⟩ hi h
end
/-! ### Put, whichever way -/
def putK (X : A) (bd : Bool) : Nat := if bd = true then 0 else tkH X
def putX (X : A) (bd : Bool) : Int := if bd = true then 2 else tkE X
def putA (X : A) (bd : Bool) : A := if bd = true then X else tkA X
def putE (X : A) (E : List HE) (bd : Bool) (x : Hd) : List HE := if bd = true then E else if X.used = X.room then E else E ++ [(tkH X, x)]
def putN (X : A) (bd : Bool) (nx : Int) : Int := if bd = true then nx else if X.used = X.room then nx else nx + 1
theorem putA_room (X : A) (bd : Bool) : (putA X bd).room = X.room := by
  unfold putA tkA
  split
  · rfl
  · split <;> rfl
section
variable {p N : Nat} {X : A} {E : List HE} {nx : Int} {l : List HP} {w : World} {v1 v2 v3 vL : Value} {r : Nat}
theorem sput_any (h : Own (StoP p N X E nx :: l) w) (hN : N < 100000) (n0 : 0 ≤ nx) (n1 : nx ≤ 1000000) (hr : X.room ≤ 1000) (k c len pr at_ now : Int) :
    Calls Try.prog 30 #[.pointer (some ⟨p, 0, none⟩), pk k c len pr at_, .int .u64 now] w fun e w' => e = .returned (.tuple #[.int .u64 ((putK X (bad len pr) : Nat) : Int), .int .i64 (putX X (bad len pr))]) ∧ Own (StoP p (N + 1) (putA X (bad len pr)) (putE X E (bad len pr) ⟨k, c, len, pr, at_, nx, now⟩) (putN X (bad len pr) nx) :: l) w' := by
  have h1 := sto_open h
  obtain ⟨ho, -, -, -⟩ := h1.facts
  cases hb : bad len pr with
  | true =>
    refine (ste_arg h1 k c len pr at_ now hb).mono fun e w' ⟨he, h2⟩ => ⟨he, ?_⟩
    exact sto_shut (h2.mono (by omega))
  | false =>
    by_cases hu : X.used = X.room
    · refine (ste_full h1 hN hu k c len pr at_ now hb).mono fun e w' ⟨he, h2⟩ => ?_
      have e1 : putK X false = 0 := by unfold putK tkH; simp [hu]
      have e2 : putX X false = 4 := by unfold putX tkE; simp [hu]
      have e3 : putA X false = X := by unfold putA tkA; simp [hu]
      have e4 : putE X E false ⟨k, c, len, pr, at_, nx, now⟩ = E := by unfold putE; simp [hu]
      have e5 : putN X false nx = nx := by unfold putN; simp [hu]
      rw [e1, e2, e3, e4, e5]
      exact ⟨he, sto_shut (h2.mono (by omega))⟩
    · have hlt : X.used < X.room := by have := ho.used_le; omega
      refine (ste_put h1 hN hlt k c len pr at_ now hb n0 n1 hr).mono fun e w' ⟨he, h2⟩ => ?_
      have e0 : tkH X = hdl (tk X) (tq X) := by unfold tkH; rw [if_neg hu]
      have e1 : putK X false = hdl (tk X) (tq X) := by unfold putK; simp [e0]
      have e2 : putX X false = 0 := by unfold putX tkE; simp [hu]
      have e3 : putA X false = tk X := by unfold putA tkA; simp [hu]
      have e4 : putE X E false ⟨k, c, len, pr, at_, nx, now⟩ = E ++ [(hdl (tk X) (tq X), ⟨k, c, len, pr, at_, nx, now⟩)] := by unfold putE; simp [hu, e0]
      have e5 : putN X false nx = nx + 1 := by unfold putN; simp [hu]
      rw [e1, e2, e3, e4, e5]
      exact ⟨he, sto_shut h2⟩
theorem rsput_any (h : Own (RT X v1 :: RB X v2 :: RK X v3 :: DH vL E.length E :: l) w) (bn : E.length ≤ 1000) (ho : Ok N X) (hN : N < 100000) (hr : r = X.room) (k c len pr at_ now : Int) (n0 : 0 ≤ nx) (n1 : nx ≤ 1000000) :
    Calls Try.prog 36 #[sv v1 v2 v3 r vL nx, pk k c len pr at_, .int .u64 now] w fun e w' => ∃ u1 u2 u3 uL, e = .returned (.tuple #[sv u1 u2 u3 r uL (putN X (bad len pr) nx), .int .u64 ((putK X (bad len pr) : Nat) : Int), .int .i64 (putX X (bad len pr))]) ∧ Own (RT (putA X (bad len pr)) u1 :: RB (putA X (bad len pr)) u2 :: RK (putA X (bad len pr)) u3 :: DH uL (putE X E (bad len pr) ⟨k, c, len, pr, at_, nx, now⟩).length (putE X E (bad len pr) ⟨k, c, len, pr, at_, nx, now⟩) :: l) w' := by
  cases hb : bad len pr with
  | true => exact (rsput_arg h k c len pr at_ now hb).mono fun e w' ⟨he, h2⟩ => ⟨_, _, _, _, he, h2⟩
  | false =>
    by_cases hu : X.used = X.room
    · refine (rsput_full h ho hr hu k c len pr at_ now hb).mono fun e w' ⟨he, h2⟩ => ?_
      have e1 : putK X false = 0 := by unfold putK tkH; simp [hu]
      have e2 : putX X false = 4 := by unfold putX tkE; simp [hu]
      have e3 : putA X false = X := by unfold putA tkA; simp [hu]
      have e4 : putE X E false ⟨k, c, len, pr, at_, nx, now⟩ = E := by unfold putE; simp [hu]
      have e5 : putN X false nx = nx := by unfold putN; simp [hu]
      rw [e1, e2, e3, e4, e5]
      exact ⟨_, _, _, _, he, h2⟩
    · have hlt : X.used < X.room := by have := ho.used_le; omega
      refine (rsput_ok h rfl (by omega) ho (by omega) hr hlt k c len pr at_ now hb n0 (by omega)).mono fun e w' ⟨u1, u2, u3, uL, he, h2⟩ => ?_
      have e0 : tkH X = hdl (tk X) (tq X) := by unfold tkH; rw [if_neg hu]
      have e1 : putK X false = hdl (tk X) (tq X) := by unfold putK; simp [e0]
      have e2 : putX X false = 0 := by unfold putX tkE; simp [hu]
      have e3 : putA X false = tk X := by unfold putA tkA; simp [hu]
      have e4 : putE X E false ⟨k, c, len, pr, at_, nx, now⟩ = E ++ [(hdl (tk X) (tq X), ⟨k, c, len, pr, at_, nx, now⟩)] := by unfold putE; simp [hu, e0]
      have e5 : putN X false nx = nx + 1 := by unfold putN; simp [hu]
      rw [e1, e2, e3, e4, e5, List.length_append, List.length_singleton]
      exact ⟨_, _, _, _, he, h2⟩
theorem rsfree_any (h : Own (RT X v1 :: RB X v2 :: RK X v3 :: DH vL E.length E :: l) w) (bn : E.length ≤ 1000) (nd : (E.map (·.1)).Nodup) (hp : ∀ hh : Nat, (lookH E hh).isSome = pb X (hh : Int)) (ho : Ok N X) (hN : N < 100000) (hr : r = X.room) (hh : Nat) :
    Calls Try.prog 37 #[sv v1 v2 v3 r vL nx, .int .u64 hh] w fun e w' => ∃ u1 u2 u3 uL, e = .returned (.tuple #[sv u1 u2 u3 r uL nx, hagg (getH E hh), .bool (lookH E hh).isSome]) ∧ Own (RT (gvA X hh) u1 :: RB (gvA X hh) u2 :: RK (gvA X hh) u3 :: DH uL (delH E hh).length (delH E hh) :: l) w' := by
  unfold getH
  cases hx : lookH E hh with
  | none =>
    have hpb : pb X (hh : Int) = false := by rw [← hp, hx]; rfl
    have e1 : gvA X hh = X := by unfold gvA; rw [if_neg (by simp [hpb])]
    rw [e1, del_none hx]
    exact (rsfree_no h rfl (by omega) nd hh hx).mono fun e w' ⟨he, h2⟩ => ⟨_, _, _, _, he, h2⟩
  | some x =>
    exact rsfree_yes h rfl (by omega) nd ho (by omega) hr hh x hx
theorem sfree_any (h : Own (StoP p N X E nx :: l) w) (hN : N < 100000) (hr : X.room ≤ 1000) (hh : Nat) (hH : hh < 18446744073709551616) :
    Calls Try.prog 34 #[.pointer (some ⟨p, 0, none⟩), .int .u64 hh] w fun e w' => e = .returned (.tuple #[hagg (getH E hh), .bool (lookH E hh).isSome]) ∧ Own (StoP p (N + 1) (gvA X hh) (delH E hh) nx :: l) w' :=
  (ste_free (sto_open h) hN hr hh hH).mono fun e w' ⟨he, h2⟩ => ⟨he, sto_shut h2⟩
theorem sget_any (h : Own (StoP p N X E nx :: l) w) (hN : N < 100000) (hh : Nat) (hH : hh < 18446744073709551616) :
    Calls Try.prog 31 #[.pointer (some ⟨p, 0, none⟩), .int .u64 hh] w fun e w' => e = .returned (.tuple #[hagg (getH E hh), .bool (lookH E hh).isSome]) ∧ Own (StoP p N X E nx :: l) w' :=
  (ste_get (sto_open h) hN hh hH).mono fun e w' ⟨he, h2⟩ => ⟨he, sto_shut h2⟩
/-- what a store that is owned says -/
structure SF (N : Nat) (X : A) (E : List HE) : Prop where
  ok : Ok N X
  nd : (E.map (·.1)).Nodup
  cnt : X.used = E.length
  lens : ∀ q ∈ E, 1 ≤ q.2.len ∧ q.2.len ≤ 65536
  pb : ∀ hh : Nat, (lookH E hh).isSome = pb X (hh : Int)
theorem sto_facts (h : Own (StoP p N X E nx :: l) w) : SF N X E := by
  obtain ⟨H, b, -, hi⟩ := sto_open h
  exact ⟨hi.ok, hi.ht.nd, by rw [hi.ht.cnt, List.length_map], hi.lens, hi.look_pb⟩
theorem SF.small (h : SF N X E) : E.length ≤ X.room := by have := h.cnt; have := h.ok.used_le; omega
theorem putK_lt (h : SF N X E) (hN : N ≤ 900) (bd : Bool) : putK X bd < 18446744073709551616 := by
  unfold putK
  split
  · omega
  · unfold tkH
    split
    · omega
    · rename_i hu
      have hlt : X.used < X.room := by have := h.ok.used_le; omega
      obtain ⟨-, -, h3⟩ := take_place h.ok hlt
      omega
end
/-! ### calls that came in -/
structure SOp where
  kind : Int
  k : Int
  c : Int
  len : Int
  pr : Int
  at_ : Int
  now : Nat
  n : Int
instance : Inhabited SOp := ⟨⟨0, 0, 0, 0, 0, 0, 0, 0⟩⟩
def oc (o : SOp) : Nat → Value
  | 0 => .int .u8 o.kind
  | 1 => .int .u64 o.k
  | 2 => .int .u64 o.c
  | 3 => .int .i64 o.len
  | 4 => .int .u8 o.pr
  | 5 => .int .u64 o.at_
  | 6 => .int .u64 (o.now : Int)
  | _ => .int .i64 o.n
def Ops (W : World) (v : Value) (n : Nat) (f : Nat → SOp) : Prop :=
  (∀ i, i < n → (f i).now < 18446744073709551616) ∧ ∃ a cap, v = .slice a n cap ∧ n ≤ cap ∧ cap ≤ maxLen ∧ (0 < n → ∃ b off, a = some ⟨b, off, none⟩ ∧ b < W.heap.size ∧ ∀ i c, i < n → c < 8 → W.cell? ⟨b, off + i * 8 + c, none⟩ = some (oc (f i) c))
def Ops2 (W : World) (v : Value) (x : Nat × (Nat → SOp)) : Prop := Ops W v x.1 x.2
theorem list5 {α : Type} {cs : List α} (h : cs.length = 5) : ∃ c0 c1 c2 c3 c4, cs = [c0, c1, c2, c3, c4] := by
  match cs, h with
  | [c0, c1, c2, c3, c4], _ => exact ⟨c0, c1, c2, c3, c4, rfl⟩
theorem list4 {α : Type} {cs : List α} (h : cs.length = 4) : ∃ c0 c1 c2 c3, cs = [c0, c1, c2, c3] := by
  match cs, h with
  | [c0, c1, c2, c3], _ => exact ⟨c0, c1, c2, c3, rfl⟩
section
variable {H : Type} {enc : TypeId × Value → H} {w : World}
theorem int_atS {P : Program} {base n : Nat} {spare : Nat → Bool} {held : Bool} {t : TypeId} {k : IntKind} {c : Value} {y : DataW H × List MemPlace} (ht : P.underlying t = some (.int k)) (h : DataW.trod enc P w base spare held n t [c] = some y) :
    ∃ a, c = .int k a ∧ (Lit.int k a).wf = true := by
  obtain ⟨a, ha, hx, wa⟩ := DataW.trod_int ht h
  injection ha with ha
  exact ⟨a, ha, wa⟩
theorem trod_pkt {base n : Nat} {spare : Nat → Bool} {held : Bool} {c0 c1 c2 c3 c4 : Value} {y : DataW H × List MemPlace}
    (h : DataW.trod enc Try.prog w base spare held n 69 [c0, c1, c2, c3, c4] = some y) :
    ∃ a0 a1 a2 a3 a4, c0 = .int .u64 a0 ∧ c1 = .int .u64 a1 ∧ c2 = .int .i64 a2 ∧ c3 = .int .u8 a3 ∧ c4 = .int .u64 a4 := by
  obtain ⟨xs, n, _, hx, _, hlen, hg⟩ := DataW.trod_struct Try.underlying69 h
  obtain ⟨y0, y1, y2, y3, y4, rfl⟩ := list5 (show xs.length = 5 from hlen)
  have q8 : Try.prog.cellsOf 30 = 1 := by kernel_rfl
  have q3 : Try.prog.cellsOf 3 = 1 := by kernel_rfl
  have q5 : Try.prog.cellsOf 5 = 1 := by kernel_rfl
  obtain ⟨a0, e0, _⟩ := int_atS (c := c0) Try.underlying30 (by simpa [q8] using hg 0 _ rfl)
  obtain ⟨a1, e1, _⟩ := int_atS (c := c1) Try.underlying30 (by simpa [q8] using hg 1 _ rfl)
  obtain ⟨a2, e2, _⟩ := int_atS (c := c2) Try.underlying3 (by simpa [q3] using hg 2 _ rfl)
  obtain ⟨a3, e3, _⟩ := int_atS (c := c3) Try.underlying5 (by simpa [q5] using hg 3 _ rfl)
  obtain ⟨a4, e4, _⟩ := int_atS (c := c4) Try.underlying30 (by simpa [q8] using hg 4 _ rfl)
  exact ⟨a0, a1, a2, a3, a4, e0, e1, e2, e3, e4⟩
theorem trod_op {base n : Nat} {spare : Nat → Bool} {held : Bool} {C : Nat → Value} {y : DataW H × List MemPlace}
    (h : DataW.trod enc Try.prog w base spare held n 83 [C 0, C 1, C 2, C 3, C 4, C 5, C 6, C 7] = some y) :
    ∃ o : SOp, (∀ c, c < 8 → C c = oc o c) ∧ o.now < 18446744073709551616 := by
  obtain ⟨xs, n, _, hx, _, hlen, hg⟩ := DataW.trod_struct Try.underlying83 h
  obtain ⟨y0, y1, y2, y3, rfl⟩ := list4 (show xs.length = 4 from hlen)
  have q8 : Try.prog.cellsOf 30 = 1 := by kernel_rfl
  have q3 : Try.prog.cellsOf 3 = 1 := by kernel_rfl
  have q5 : Try.prog.cellsOf 5 = 1 := by kernel_rfl
  have q7 : Try.prog.cellsOf 69 = 5 := by kernel_rfl
  obtain ⟨a0, e0, _⟩ := int_atS (c := C 0) Try.underlying5 (by simpa [q5] using hg 0 _ rfl)
  obtain ⟨b0, b1, b2, b3, b4, f0, f1, f2, f3, f4⟩ := trod_pkt (c0 := C 1) (c1 := C 2) (c2 := C 3) (c3 := C 4) (c4 := C 5) (by simpa [q7] using hg 1 _ rfl)
  obtain ⟨a6, e6, w6⟩ := int_atS (c := C 6) Try.underlying30 (by simpa [q7, q8] using hg 2 _ rfl)
  obtain ⟨a7, e7, _⟩ := int_atS (c := C 7) Try.underlying3 (by simpa [q7, q8, q3] using hg 3 _ rfl)
  have d6 := u64_bd w6
  obtain ⟨m, rfl⟩ := Int.eq_ofNat_of_zero_le d6.1
  refine ⟨⟨a0, b0, b1, b2, b3, b4, m, a7⟩, fun c hc => ?_, by simp only; omega⟩
  rcases c with _ | _ | _ | _ | _ | _ | _ | _ | c
  · exact e0
  · exact f0
  · exact f1
  · exact f2
  · exact f3
  · exact f4
  · exact e6
  · exact e7
  · omega
theorem ops_of {v : Value} {d : DataW H} {ps : List MemPlace} (hv : ∃ a len cap, v = .slice a len cap)
    (h : DataW.Trod enc Try.prog w 0 (fun _ => true) true 76 v d ps) : ∃ x, Ops2 w v x := by
  obtain ⟨n, C, ⟨a, cap, hv', h1, h2, h3⟩, h4⟩ := came_of (P := Try.prog) (sz := 8) Try.underlying76 (by kernel_rfl) (by omega) hv h
  have hz : ∀ i, i < n → ∃ o : SOp, (∀ c, c < 8 → C i c = oc o c) ∧ o.now < 18446744073709551616 := by
    intro i hi
    obtain ⟨m, x, hx⟩ := h4 i hi
    exact trod_op hx
  obtain ⟨f, hf⟩ := Deep.choose_lt (α := SOp) (p := fun i o => (∀ c, c < 8 → C i c = oc o c) ∧ o.now < 18446744073709551616) hz
  refine ⟨(n, f), fun i hi => (hf i hi).2, a, cap, hv', h1, h2, fun hp => ?_⟩
  obtain ⟨b, off, rfl, hb, hcell⟩ := h3 hp
  refine ⟨b, off, rfl, hb, fun i c hi hc => ?_⟩
  rw [hcell i c hi hc, (hf i hi).1 c hc]
end
end Go.Proofs.Ytekdgghekdajbaa.St
