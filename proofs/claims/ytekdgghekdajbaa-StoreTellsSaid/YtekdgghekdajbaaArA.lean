/- DERIVED. Layer 4 (arena) in memory; contracts of what only reads. -/
import Derived.Test.YtekdgghekdajbaaHeap
import Derived.Maps.AppendAt
set_option linter.unusedVariables false
set_option linter.unusedSimpArgs false
set_option maxRecDepth 100000
namespace Go.Proofs.Ytekdgghekdajbaa.Ar
open Go.RowKit Go.Proofs.Ytekdgghekdajbaa

/-- an arena: of each place twice how often it was taken, less one if it is; those given back -/
structure A where
  st : List Nat
  bk : List Nat
  room : Nat
  used : Nat
def us (l : List Nat) : List Value := l.map fun (n : Nat) => .int .u64 n
def is (l : List Nat) : List Value := l.map fun (n : Nat) => .int .i64 n
theorem us_len (l : List Nat) : (us l).length = l.length := by simp [us]
theorem is_len (l : List Nat) : (is l).length = l.length := by simp [is]
theorem us_at (l : List Nat) (j : Nat) (h : j < l.length) : (us l)[j]? = some (.int .u64 ((l.getD j 0 : Nat) : Int)) := by simp [us, h, List.getD]
theorem is_at (l : List Nat) (j : Nat) (h : j < l.length) : (is l)[j]? = some (.int .i64 ((l.getD j 0 : Nat) : Int)) := by simp [is, h, List.getD]
def lies (w : World) (p : Nat) (X : A) (sv bv : Value) : Prop :=
  w.heap[p]? = some (.cells #[sv, bv, .int .i64 X.room, .int .i64 X.used] 61 (0, 0)) ∧
    w.ownsRow 0 30 1 sv X.st.length (us X.st) ∧ w.ownsRow 0 3 1 bv X.bk.length (is X.bk) ∧ sv.ownBlock ≠ some p ∧ bv.ownBlock ≠ some p ∧ (∀ b, sv.ownBlock = some b → bv.ownBlock ≠ some b)
def foot (p : Nat) (sv bv : Value) (b : Nat) : Prop := b = p ∨ sv.ownBlock = some b ∨ bv.ownBlock = some b
def Arena (p : Nat) (X : A) : HP where
  holds w s := ∃ sv bv, lies w p X sv bv ∧ ∀ b, s b ↔ foot p sv bv b
  loc := fun {w w' s} h h1 h2 h3 h4 h5 => by
    obtain ⟨sv, bv, ⟨a1, a2, a3, a4, a5, a6⟩, hs⟩ := h
    exact ⟨sv, bv, ⟨(h4 p ((hs p).2 (.inl rfl))).trans a1, ownsRow_keep a2 (fun b hb => h4 b ((hs b).2 (.inr (.inl hb)))), ownsRow_keep a3 (fun b hb => h4 b ((hs b).2 (.inr (.inr hb)))), a4, a5, a6⟩, hs⟩
  bnd := fun {w s b} h hb => by
    obtain ⟨sv, bv, ⟨a1, a2, a3, a4, a5, a6⟩, hs⟩ := h
    rcases (hs b).1 hb with rfl | h' | h'
    · exact (Array.getElem?_eq_some_iff.1 a1).1
    · exact (a2.lt b h').2
    · exact (a3.lt b h').2
theorem lies.cells {w : World} {p : Nat} {X : A} {sv bv : Value} (h : lies w p X sv bv) :
    w.cell? ⟨p, 0, none⟩ = some sv ∧ w.cell? ⟨p, 1, none⟩ = some bv ∧ w.cell? ⟨p, 2, none⟩ = some (.int .i64 X.room) ∧ w.cell? ⟨p, 3, none⟩ = some (.int .i64 X.used) ∧
      w.frozen? ⟨p, 0, none⟩ = false ∧ w.frozen? ⟨p, 1, none⟩ = false ∧ w.frozen? ⟨p, 2, none⟩ = false ∧ w.frozen? ⟨p, 3, none⟩ = false := by
  simp [World.cell?, World.frozen?, h.1]
theorem none_any (p : Nat) (X : A) (sv bv : Value) (w : World) (h : lies w p X sv bv) (hr : 1 ≤ X.room) :
    Calls Try.prog 42 #[.pointer (some ⟨p, 0, none⟩)] w fun e w' => e = .returned (.bool false) ∧ w = w' := by
  obtain ⟨c0, c1, c2, c3, f0, f1, f2, f3⟩ := h.cells
  have hr' : (((X.room : Nat) : Int) == 0) = false := by simp; omega
  go_enter Try.func42, Try.ntmps42
  go_wp2
  go_ret
  exact ⟨rfl, rfl⟩
theorem none_nil (w : World) : Calls Try.prog 42 #[.pointer none] w fun e w' => e = .returned (.bool true) ∧ w = w' := by
  go_enter Try.func42, Try.ntmps42
  go_wp2
  go_ret
  exact ⟨rfl, rfl⟩
/-- which handle holds of a place; 0: none -/
def hdl (X : A) (q : Nat) : Nat := if X.st.getD q 0 % 2 = 1 then X.st.getD q 0 / 2 * 4294967296 + q + 1 else 0
theorem handle_no (p : Nat) (X : A) (sv bv : Value) (q : Int) (w : World) (h : lies w p X sv bv) (hr : 1 ≤ X.room) (hq : q < 0 ∨ X.st.length ≤ q) :
    Calls Try.prog 16 #[.pointer (some ⟨p, 0, none⟩), .int .i64 q] w fun e w' => e = .returned (.tuple #[.int .u64 0, .bool false]) ∧ w = w' := by
  obtain ⟨c0, c1, c2, c3, f0, f1, f2, f3⟩ := h.cells
  obtain ⟨sa, sc, rfl⟩ := own_slice h.2.1
  have H := Lib.hid h
  clear h
  by_cases h0 : q < 0
  · clear hq
    go_enter Try.func16, Try.ntmps16
    go_wp2_with (go_at_call 42; refine (none_any _ _ _ _ _ H.out hr).mono ?_; rintro e w' ⟨rfl, rfl⟩)
    go_ret2
    exact ⟨rfl, rfl⟩
  · have hq' : (X.st.length : Int) ≤ q := by omega
    clear hq
    go_enter Try.func16, Try.ntmps16
    go_wp2_with (go_at_call 42; refine (none_any _ _ _ _ _ H.out hr).mono ?_; rintro e w' ⟨rfl, rfl⟩)
    go_ret2
    exact ⟨rfl, rfl⟩
theorem handle_even (p : Nat) (X : A) (sv bv : Value) (q : Nat) (w : World) (h : lies w p X sv bv) (hr : 1 ≤ X.room) (hq : q < X.st.length) (he : X.st.getD q 0 % 2 = 0) (hb : X.st.getD q 0 < 4294967296) :
    Calls Try.prog 16 #[.pointer (some ⟨p, 0, none⟩), .int .i64 q] w fun e w' => e = .returned (.tuple #[.int .u64 0, .bool false]) ∧ w = w' := by
  obtain ⟨c0, c1, c2, c3, f0, f1, f2, f3⟩ := h.cells
  obtain ⟨g, cap, rfl, _, hcs⟩ := own_form h.2.1 (by omega)
  obtain ⟨hcell, hfr⟩ := hcs q _ (us_at X.st q hq)
  clear hcs
  obtain ⟨n, hn⟩ : ∃ n, n = X.st.getD q 0 := ⟨_, rfl⟩
  rw [← hn] at hcell he hb
  have H := Lib.hid h
  have hbit : bits .and .u64 (n : Int) 1 = 0 := by
    have := u64_and_nat n 1 (by omega) (by omega)
    rw [Nat.and_one_is_mod, he] at this
    simpa using this
  have HN := Lib.hid hn
  clear h hn he
  go_enter Try.func16, Try.ntmps16
  go_wp2_with (go_at_call 42; refine (none_any _ _ _ _ _ H.out hr).mono ?_; rintro e w' ⟨rfl, rfl⟩)
  go_ret2
  exact ⟨rfl, rfl⟩
theorem handle_odd (p : Nat) (X : A) (sv bv : Value) (q : Nat) (w : World) (h : lies w p X sv bv) (hr : 1 ≤ X.room) (hq : q < X.st.length) (he : X.st.getD q 0 % 2 = 1) (hb : X.st.getD q 0 < 4294967296) (hl : X.st.length ≤ 65536) :
    Calls Try.prog 16 #[.pointer (some ⟨p, 0, none⟩), .int .i64 q] w fun e w' => e = .returned (.tuple #[.int .u64 ((hdl X q : Nat) : Int), .bool true]) ∧ w = w' := by
  obtain ⟨c0, c1, c2, c3, f0, f1, f2, f3⟩ := h.cells
  obtain ⟨g, cap, rfl, _, hcs⟩ := own_form h.2.1 (by omega)
  obtain ⟨hcell, hfr⟩ := hcs q _ (us_at X.st q hq)
  clear hcs
  have hh : hdl X q = X.st.getD q 0 / 2 * 4294967296 + q + 1 := by unfold hdl; rw [if_pos he]
  obtain ⟨n, hn⟩ : ∃ n, n = X.st.getD q 0 := ⟨_, rfl⟩
  rw [← hn] at hcell he hb hh
  have hbit : bits .and .u64 (n : Int) 1 = 1 := by
    have := u64_and_nat n 1 (by omega) (by omega)
    rw [Nat.and_one_is_mod, he] at this
    simpa using this
  have hor : bits .or .u64 ((n : Int) / 2 * 4294967296) ((q : Int) + 1) = ((hdl X q : Nat) : Int) := by
    have e1 : ((n : Int) / 2 * 4294967296) = ((n / 2 * 2 ^ 32 : Nat) : Int) := by omega
    have e2 : ((q : Int) + 1) = ((q + 1 : Nat) : Int) := by omega
    rw [e1, e2, u64_or_nat _ _ (by omega) (by omega), ← Nat.shiftLeft_eq, ← Nat.shiftLeft_add_eq_or_of_lt (by omega), Nat.shiftLeft_eq, hh]
    omega
  have H := Lib.hid h
  have HO := Lib.hid hor
  clear h hn he hh hor
  go_enter Try.func16, Try.ntmps16
  go_wp2_with (go_at_call 42; refine (none_any _ _ _ _ _ H.out hr).mono ?_; rintro e w' ⟨rfl, rfl⟩)
  go_ret2
  rw [← HO.out]
  exact ⟨rfl, rfl⟩
/-- what 'Handle' answers -/
def hb (X : A) (q : Int) : Bool := decide (0 ≤ q) && (decide (q.toNat < X.st.length) && decide (X.st.getD q.toNat 0 % 2 = 1))
def hv (X : A) (q : Int) : Int := if hb X q = true then ((hdl X q.toNat : Nat) : Int) else 0
structure Fit (X : A) : Prop where
  r1 : 1 ≤ X.room
  r2 : X.room ≤ 65536
  len : X.st.length ≤ X.room
  bd : ∀ q, X.st.getD q 0 < 4294967296
theorem handle_any (p : Nat) (X : A) (sv bv : Value) (q : Int) (w : World) (h : lies w p X sv bv) (hf : Fit X) :
    Calls Try.prog 16 #[.pointer (some ⟨p, 0, none⟩), .int .i64 q] w fun e w' => e = .returned (.tuple #[.int .u64 (hv X q), .bool (hb X q)]) ∧ w = w' := by
  by_cases h0 : q < 0 ∨ (X.st.length : Int) ≤ q
  · have e : hb X q = false := by unfold hb; simp; omega
    have e2 : hv X q = 0 := by unfold hv; rw [e]; rfl
    rw [e, e2]
    exact handle_no p X sv bv q w h hf.r1 h0
  · obtain ⟨n, rfl⟩ := Int.eq_ofNat_of_zero_le (show 0 ≤ q by omega)
    by_cases hodd : X.st.getD n 0 % 2 = 1
    · have e : hb X (n : Int) = true := by unfold hb; simp only [Int.toNat_natCast, hodd, decide_true, Bool.and_true, Bool.and_eq_true, decide_eq_true_eq]; omega
      have e2 : hv X (n : Int) = ((hdl X n : Nat) : Int) := by unfold hv; rw [e]; rfl
      rw [e, e2]
      exact handle_odd p X sv bv n w h hf.r1 (by omega) hodd (hf.bd n) (Nat.le_trans hf.len hf.r2)
    · have e : hb X (n : Int) = false := by unfold hb; simp only [Int.toNat_natCast, hodd, decide_false, Bool.and_false]
      have e2 : hv X (n : Int) = 0 := by unfold hv; rw [e]; rfl
      rw [e, e2]
      exact handle_even p X sv bv n w h hf.r1 (by omega) (by omega) (hf.bd n)
/-- what 'Place' answers -/
def pb (X : A) (H : Int) : Bool := hb X (H % 4294967296 - 1) && (hv X (H % 4294967296 - 1) == H)
def pv (X : A) (H : Int) : Int := if pb X H = true then H % 4294967296 - 1 else 0
theorem place_any (p : Nat) (X : A) (sv bv : Value) (H : Nat) (hH : H < 18446744073709551616) (w : World) (h : lies w p X sv bv) (hf : Fit X) :
    Calls Try.prog 14 #[.pointer (some ⟨p, 0, none⟩), .int .u64 H] w fun e w' => e = .returned (.tuple #[.int .i64 (pv X H), .bool (pb X H)]) ∧ w = w' := by
  have ea : bits .and .u64 (H : Int) 4294967295 = ((H % 4294967296 : Nat) : Int) := by
    have := u64_and_nat H 4294967295 hH (by omega)
    rw [show (4294967295 : Nat) = 2 ^ 32 - 1 from rfl, Nat.and_two_pow_sub_one_eq_mod] at this
    simpa using this
  obtain ⟨R, hR⟩ : ∃ R : Int, R = (H : Int) % 4294967296 - 1 := ⟨_, rfl⟩
  have b1 : -1 ≤ R := by omega
  have b2 : R ≤ 4294967295 := by omega
  have HR := Lib.hid (show wrap64 (wrap64 (bits .and .u64 (H : Int) 4294967295) - 1) = R by
    rw [ea]; unfold wrap64; omega)
  have HL := Lib.hid h
  have epb : pb X H = (hb X R && (hv X R == H)) := by unfold pb; rw [← hR]
  have epv : pv X H = if pb X H = true then R else 0 := by unfold pv; rw [← hR]
  clear h hR ea
  obtain ⟨V, hV⟩ : ∃ V, V = hv X R := ⟨_, rfl⟩
  obtain ⟨B, hB⟩ : ∃ B, B = hb X R := ⟨_, rfl⟩
  rw [← hV, ← hB] at epb
  have HV := Lib.hid hV
  have HB := Lib.hid hB
  clear hV hB
  rw [epb] at epv
  cases B with
  | false =>
    simp only [Bool.false_and, Bool.false_eq_true, if_false] at epb epv
    rw [epb, epv]
    clear epb epv
    go_enter Try.func14, Try.ntmps14
    go_wp2_with (go_at_call 16; refine (handle_any _ _ _ _ _ _ HL.out hf).mono ?_; rintro e w' ⟨rfl, rfl⟩; rw [HR.out, ← HB.out, ← HV.out])
    go_ret2
    exact ⟨rfl, rfl⟩
  | true =>
    by_cases hVH : V = (H : Int)
    · subst hVH
      simp only [Bool.true_and, beq_self_eq_true, if_true] at epb epv
      rw [epb, epv]
      clear epb epv
      go_enter Try.func14, Try.ntmps14
      go_wp2_with (go_at_call 16; refine (handle_any _ _ _ _ _ _ HL.out hf).mono ?_; rintro e w' ⟨rfl, rfl⟩; rw [HR.out, ← HB.out, ← HV.out])
      go_ret2
      exact ⟨rfl, rfl⟩
    · have hne : (V == (H : Int)) = false := by simp [hVH]
      have hne2 : (V != (H : Int)) = true := by simp [hVH]
      simp only [Bool.true_and, hne, Bool.false_eq_true, if_false] at epb epv
      rw [epb, epv]
      clear epb epv
      go_enter Try.func14, Try.ntmps14
      go_wp2_with (go_at_call 16; refine (handle_any _ _ _ _ _ _ HL.out hf).mono ?_; rintro e w' ⟨rfl, rfl⟩; rw [HR.out, ← HB.out, ← HV.out])
      go_ret2
      exact ⟨rfl, rfl⟩
end Go.Proofs.Ytekdgghekdajbaa.Ar
