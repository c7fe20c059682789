/- DERIVED. Merged by wip/mergeset.py from XArA XArB XArC XArD XArE XArG. -/
import Derived.Test.YtkdmlpigkmlkmaaHeap
import Derived.Maps.AppendAt
import Derived.Test.YtkdmlpigkmlkmaaApp
import Derived.Deep.QuietTactic
import Derived.BigQuiet
--  DERIVED. Layer 4 (arena) in memory; contracts of what only reads. 
set_option linter.unusedVariables false
set_option linter.unusedSimpArgs false
set_option maxRecDepth 100000
namespace Go.Proofs.Ytkdmlpigkmlkmaa.Ar
open Go.RowKit Go.Proofs.Ytkdmlpigkmlkmaa

/-- an arena: of each place twice how often it was taken, less one if it is; those given back -/
structure A where
  st : List Nat
  bk : List Nat
  room : Nat
  used : Nat
def us (l : List Nat) : List Value := l.map fun (n : Nat) => .int .u64 n
def is (l : List Nat) : List Value := l.map fun (n : Nat) => .int .i64 n
theorem us_len (l : List Nat) : (us l).length = l.length := by simp [us]
theorem is_len (l : List Nat) : (is l).length = l.length := by simp [is]
theorem us_at (l : List Nat) (j : Nat) (h : j < l.length) : (us l)[j]? = some (.int .u64 ((l.getD j 0 : Nat) : Int)) := by simp [us, h, List.getD]
theorem is_at (l : List Nat) (j : Nat) (h : j < l.length) : (is l)[j]? = some (.int .i64 ((l.getD j 0 : Nat) : Int)) := by simp [is, h, List.getD]
def lies (w : World) (p : Nat) (X : A) (sv bv : Value) : Prop :=
  w.heap[p]? = some (.cells #[sv, bv, .int .i64 X.room, .int .i64 X.used] 125 (0, 0)) ∧
    w.ownsRow 0 22 1 sv X.st.length (us X.st) ∧ w.ownsRow 0 3 1 bv X.bk.length (is X.bk) ∧ sv.ownBlock ≠ some p ∧ bv.ownBlock ≠ some p ∧ (∀ b, sv.ownBlock = some b → bv.ownBlock ≠ some b)
def foot (p : Nat) (sv bv : Value) (b : Nat) : Prop := b = p ∨ sv.ownBlock = some b ∨ bv.ownBlock = some b
def Arena (p : Nat) (X : A) : HP where
  holds w s := ∃ sv bv, lies w p X sv bv ∧ ∀ b, s b ↔ foot p sv bv b
  loc := fun {w w' s} h h1 h2 h3 h4 h5 => by
    obtain ⟨sv, bv, ⟨a1, a2, a3, a4, a5, a6⟩, hs⟩ := h
    exact ⟨sv, bv, ⟨(h4 p ((hs p).2 (.inl rfl))).trans a1, ownsRow_keep a2 (fun b hb => h4 b ((hs b).2 (.inr (.inl hb)))), ownsRow_keep a3 (fun b hb => h4 b ((hs b).2 (.inr (.inr hb)))), a4, a5, a6⟩, hs⟩
  bnd := fun {w s b} h hb => by
    obtain ⟨sv, bv, ⟨a1, a2, a3, a4, a5, a6⟩, hs⟩ := h
    rcases (hs b).1 hb with rfl | h' | h'
    · exact (Array.getElem?_eq_some_iff.1 a1).1
    · exact (a2.lt b h').2
    · exact (a3.lt b h').2
theorem lies.cells {w : World} {p : Nat} {X : A} {sv bv : Value} (h : lies w p X sv bv) :
    w.cell? ⟨p, 0, none⟩ = some sv ∧ w.cell? ⟨p, 1, none⟩ = some bv ∧ w.cell? ⟨p, 2, none⟩ = some (.int .i64 X.room) ∧ w.cell? ⟨p, 3, none⟩ = some (.int .i64 X.used) ∧
      w.frozen? ⟨p, 0, none⟩ = false ∧ w.frozen? ⟨p, 1, none⟩ = false ∧ w.frozen? ⟨p, 2, none⟩ = false ∧ w.frozen? ⟨p, 3, none⟩ = false := by
  simp [World.cell?, World.frozen?, h.1]
theorem none_any (p : Nat) (X : A) (sv bv : Value) (w : World) (h : lies w p X sv bv) (hr : 1 ≤ X.room) :
    Calls Try.prog 79 #[.pointer (some ⟨p, 0, none⟩)] w fun e w' => e = .returned (.bool false) ∧ w = w' := by
  obtain ⟨c0, c1, c2, c3, f0, f1, f2, f3⟩ := h.cells
  have hr' : (((X.room : Nat) : Int) == 0) = false := by simp; omega
  go_enter Try.func79, Try.ntmps79
  go_wp2
  go_ret
  exact ⟨rfl, rfl⟩
theorem none_nil (w : World) : Calls Try.prog 79 #[.pointer none] w fun e w' => e = .returned (.bool true) ∧ w = w' := by
  go_enter Try.func79, Try.ntmps79
  go_wp2
  go_ret
  exact ⟨rfl, rfl⟩
/-- which handle holds of a place; 0: none -/
def hdl (X : A) (q : Nat) : Nat := if X.st.getD q 0 % 2 = 1 then X.st.getD q 0 / 2 * 4294967296 + q + 1 else 0
theorem handle_no (p : Nat) (X : A) (sv bv : Value) (q : Int) (w : World) (h : lies w p X sv bv) (hr : 1 ≤ X.room) (hq : q < 0 ∨ X.st.length ≤ q) :
    Calls Try.prog 81 #[.pointer (some ⟨p, 0, none⟩), .int .i64 q] w fun e w' => e = .returned (.tuple #[.int .u64 0, .bool false]) ∧ w = w' := by
  obtain ⟨c0, c1, c2, c3, f0, f1, f2, f3⟩ := h.cells
  obtain ⟨sa, sc, rfl⟩ := own_slice h.2.1
  have H := Lib.hid h
  clear h
  by_cases h0 : q < 0
  · clear hq
    go_enter Try.func81, Try.ntmps81
    go_wp2_with (go_at_call 79; refine (none_any _ _ _ _ _ H.out hr).mono ?_; rintro e w' ⟨rfl, rfl⟩)
    go_ret2
    exact ⟨rfl, rfl⟩
  · have hq' : (X.st.length : Int) ≤ q := by omega
    clear hq
    go_enter Try.func81, Try.ntmps81
    go_wp2_with (go_at_call 79; refine (none_any _ _ _ _ _ H.out hr).mono ?_; rintro e w' ⟨rfl, rfl⟩)
    go_ret2
    exact ⟨rfl, rfl⟩
theorem handle_even (p : Nat) (X : A) (sv bv : Value) (q : Nat) (w : World) (h : lies w p X sv bv) (hr : 1 ≤ X.room) (hq : q < X.st.length) (he : X.st.getD q 0 % 2 = 0) (hb : X.st.getD q 0 < 4294967296) :
    Calls Try.prog 81 #[.pointer (some ⟨p, 0, none⟩), .int .i64 q] w fun e w' => e = .returned (.tuple #[.int .u64 0, .bool false]) ∧ w = w' := by
  obtain ⟨c0, c1, c2, c3, f0, f1, f2, f3⟩ := h.cells
  obtain ⟨g, cap, rfl, _, hcs⟩ := own_form h.2.1 (by omega)
  obtain ⟨hcell, hfr⟩ := hcs q _ (us_at X.st q hq)
  clear hcs
  obtain ⟨n, hn⟩ : ∃ n, n = X.st.getD q 0 := ⟨_, rfl⟩
  rw [← hn] at hcell he hb
  have H := Lib.hid h
  have hbit : bits .and .u64 (n : Int) 1 = 0 := by
    have := u64_and_nat n 1 (by omega) (by omega)
    rw [Nat.and_one_is_mod, he] at this
    simpa using this
  have HN := Lib.hid hn
  clear h hn he
  go_enter Try.func81, Try.ntmps81
  go_wp2_with (go_at_call 79; refine (none_any _ _ _ _ _ H.out hr).mono ?_; rintro e w' ⟨rfl, rfl⟩)
  go_ret2
  exact ⟨rfl, rfl⟩
theorem handle_odd (p : Nat) (X : A) (sv bv : Value) (q : Nat) (w : World) (h : lies w p X sv bv) (hr : 1 ≤ X.room) (hq : q < X.st.length) (he : X.st.getD q 0 % 2 = 1) (hb : X.st.getD q 0 < 4294967296) (hl : X.st.length ≤ 65536) :
    Calls Try.prog 81 #[.pointer (some ⟨p, 0, none⟩), .int .i64 q] w fun e w' => e = .returned (.tuple #[.int .u64 ((hdl X q : Nat) : Int), .bool true]) ∧ w = w' := by
  obtain ⟨c0, c1, c2, c3, f0, f1, f2, f3⟩ := h.cells
  obtain ⟨g, cap, rfl, _, hcs⟩ := own_form h.2.1 (by omega)
  obtain ⟨hcell, hfr⟩ := hcs q _ (us_at X.st q hq)
  clear hcs
  have hh : hdl X q = X.st.getD q 0 / 2 * 4294967296 + q + 1 := by unfold hdl; rw [if_pos he]
  obtain ⟨n, hn⟩ : ∃ n, n = X.st.getD q 0 := ⟨_, rfl⟩
  rw [← hn] at hcell he hb hh
  have hbit : bits .and .u64 (n : Int) 1 = 1 := by
    have := u64_and_nat n 1 (by omega) (by omega)
    rw [Nat.and_one_is_mod, he] at this
    simpa using this
  have hor : bits .or .u64 ((n : Int) / 2 * 4294967296) ((q : Int) + 1) = ((hdl X q : Nat) : Int) := by
    have e1 : ((n : Int) / 2 * 4294967296) = ((n / 2 * 2 ^ 32 : Nat) : Int) := by omega
    have e2 : ((q : Int) + 1) = ((q + 1 : Nat) : Int) := by omega
    rw [e1, e2, u64_or_nat _ _ (by omega) (by omega), ← Nat.shiftLeft_eq, ← Nat.shiftLeft_add_eq_or_of_lt (by omega), Nat.shiftLeft_eq, hh]
    omega
  have H := Lib.hid h
  have HO := Lib.hid hor
  clear h hn he hh hor
  go_enter Try.func81, Try.ntmps81
  go_wp2_with (go_at_call 79; refine (none_any _ _ _ _ _ H.out hr).mono ?_; rintro e w' ⟨rfl, rfl⟩)
  go_ret2
  rw [← HO.out]
  exact ⟨rfl, rfl⟩
/-- what 'Handle' answers -/
def hb (X : A) (q : Int) : Bool := decide (0 ≤ q) && (decide (q.toNat < X.st.length) && decide (X.st.getD q.toNat 0 % 2 = 1))
def hv (X : A) (q : Int) : Int := if hb X q = true then ((hdl X q.toNat : Nat) : Int) else 0
structure Fit (X : A) : Prop where
  r1 : 1 ≤ X.room
  r2 : X.room ≤ 65536
  len : X.st.length ≤ X.room
  bd : ∀ q, X.st.getD q 0 < 4294967296
theorem handle_any (p : Nat) (X : A) (sv bv : Value) (q : Int) (w : World) (h : lies w p X sv bv) (hf : Fit X) :
    Calls Try.prog 81 #[.pointer (some ⟨p, 0, none⟩), .int .i64 q] w fun e w' => e = .returned (.tuple #[.int .u64 (hv X q), .bool (hb X q)]) ∧ w = w' := by
  by_cases h0 : q < 0 ∨ (X.st.length : Int) ≤ q
  · have e : hb X q = false := by unfold hb; simp; omega
    have e2 : hv X q = 0 := by unfold hv; rw [e]; rfl
    rw [e, e2]
    exact handle_no p X sv bv q w h hf.r1 h0
  · obtain ⟨n, rfl⟩ := Int.eq_ofNat_of_zero_le (show 0 ≤ q by omega)
    by_cases hodd : X.st.getD n 0 % 2 = 1
    · have e : hb X (n : Int) = true := by unfold hb; simp only [Int.toNat_natCast, hodd, decide_true, Bool.and_true, Bool.and_eq_true, decide_eq_true_eq]; omega
      have e2 : hv X (n : Int) = ((hdl X n : Nat) : Int) := by unfold hv; rw [e]; rfl
      rw [e, e2]
      exact handle_odd p X sv bv n w h hf.r1 (by omega) hodd (hf.bd n) (Nat.le_trans hf.len hf.r2)
    · have e : hb X (n : Int) = false := by unfold hb; simp only [Int.toNat_natCast, hodd, decide_false, Bool.and_false]
      have e2 : hv X (n : Int) = 0 := by unfold hv; rw [e]; rfl
      rw [e, e2]
      exact handle_even p X sv bv n w h hf.r1 (by omega) (by omega) (hf.bd n)
/-- what 'Place' answers -/
def pb (X : A) (H : Int) : Bool := hb X (H % 4294967296 - 1) && (hv X (H % 4294967296 - 1) == H)
def pv (X : A) (H : Int) : Int := if pb X H = true then H % 4294967296 - 1 else 0
theorem place_any (p : Nat) (X : A) (sv bv : Value) (H : Nat) (hH : H < 18446744073709551616) (w : World) (h : lies w p X sv bv) (hf : Fit X) :
    Calls Try.prog 53 #[.pointer (some ⟨p, 0, none⟩), .int .u64 H] w fun e w' => e = .returned (.tuple #[.int .i64 (pv X H), .bool (pb X H)]) ∧ w = w' := by
  have ea : bits .and .u64 (H : Int) 4294967295 = ((H % 4294967296 : Nat) : Int) := by
    have := u64_and_nat H 4294967295 hH (by omega)
    rw [show (4294967295 : Nat) = 2 ^ 32 - 1 from rfl, Nat.and_two_pow_sub_one_eq_mod] at this
    simpa using this
  obtain ⟨R, hR⟩ : ∃ R : Int, R = (H : Int) % 4294967296 - 1 := ⟨_, rfl⟩
  have b1 : -1 ≤ R := by omega
  have b2 : R ≤ 4294967295 := by omega
  have HR := Lib.hid (show wrap64 (wrap64 (bits .and .u64 (H : Int) 4294967295) - 1) = R by
    rw [ea]; unfold wrap64; omega)
  have HL := Lib.hid h
  have epb : pb X H = (hb X R && (hv X R == H)) := by unfold pb; rw [← hR]
  have epv : pv X H = if pb X H = true then R else 0 := by unfold pv; rw [← hR]
  clear h hR ea
  obtain ⟨V, hV⟩ : ∃ V, V = hv X R := ⟨_, rfl⟩
  obtain ⟨B, hB⟩ : ∃ B, B = hb X R := ⟨_, rfl⟩
  rw [← hV, ← hB] at epb
  have HV := Lib.hid hV
  have HB := Lib.hid hB
  clear hV hB
  rw [epb] at epv
  cases B with
  | false =>
    simp only [Bool.false_and, Bool.false_eq_true, if_false] at epb epv
    rw [epb, epv]
    clear epb epv
    go_enter Try.func53, Try.ntmps53
    go_wp2_with (go_at_call 81; refine (handle_any _ _ _ _ _ _ HL.out hf).mono ?_; rintro e w' ⟨rfl, rfl⟩; rw [HR.out, ← HB.out, ← HV.out])
    go_ret2
    exact ⟨rfl, rfl⟩
  | true =>
    by_cases hVH : V = (H : Int)
    · subst hVH
      simp only [Bool.true_and, beq_self_eq_true, if_true] at epb epv
      rw [epb, epv]
      clear epb epv
      go_enter Try.func53, Try.ntmps53
      go_wp2_with (go_at_call 81; refine (handle_any _ _ _ _ _ _ HL.out hf).mono ?_; rintro e w' ⟨rfl, rfl⟩; rw [HR.out, ← HB.out, ← HV.out])
      go_ret2
      exact ⟨rfl, rfl⟩
    · have hne : (V == (H : Int)) = false := by simp [hVH]
      have hne2 : (V != (H : Int)) = true := by simp [hVH]
      simp only [Bool.true_and, hne, Bool.false_eq_true, if_false] at epb epv
      rw [epb, epv]
      clear epb epv
      go_enter Try.func53, Try.ntmps53
      go_wp2_with (go_at_call 81; refine (handle_any _ _ _ _ _ _ HL.out hf).mono ?_; rintro e w' ⟨rfl, rfl⟩; rw [HR.out, ← HB.out, ← HV.out])
      go_ret2
      exact ⟨rfl, rfl⟩
end Go.Proofs.Ytkdmlpigkmlkmaa.Ar
--  DERIVED. Layer 4 (arena): contracts of what writes. 
set_option linter.unusedVariables false
set_option linter.unusedSimpArgs false
set_option maxRecDepth 100000
namespace Go.Proofs.Ytkdmlpigkmlkmaa.Ar
open Go.RowKit Go.Proofs.Ytkdmlpigkmlkmaa

def fresh (r : Nat) : A := ⟨[], [], r, 0⟩
theorem new_any (r : Nat) (h1 : 1 ≤ r) (h2 : r ≤ 65536) (w : World) :
    Calls Try.prog 47 #[.int .i64 r] w fun e w' => e = .returned (.tuple #[.pointer (some ⟨w.heap.size, 0, none⟩), .int .i64 0]) ∧
      lies w' w.heap.size (fresh r) (.slice none 0 0) (.slice none 0 0) ∧ Ext w w' := by
  go_enter Try.func47, Try.ntmps47
  go_wp2
  go_ret2
  refine ⟨rfl, ⟨heap_alloc_new w _, World.ownsRow_nil _ 0 _ 1, World.ownsRow_nil _ 0 _ 1, by simp [Value.ownBlock], by simp [Value.ownBlock], by simp [Value.ownBlock]⟩, (Ext.refl w).alloc _⟩
theorem new_not (r : Int) (h : r < 1 ∨ 65536 < r) (w : World) :
    Calls Try.prog 47 #[.int .i64 r] w fun e w' => e = .returned (.tuple #[.pointer none, .int .i64 2]) ∧ w = w' := by
  by_cases h0 : r < 1
  · clear h
    go_enter Try.func47, Try.ntmps47
    go_wp2
    go_ret2
    exact ⟨rfl, rfl⟩
  · have h' : 65536 < r := by omega
    clear h
    go_enter Try.func47, Try.ntmps47
    go_wp2
    go_ret2
    exact ⟨rfl, rfl⟩
theorem last_any (g n cap : Nat) (v : Int) (w : World) (hc : n + 1 ≤ cap) (hcap : cap ≤ maxLen) (hcell : w.cell? ⟨g, n, none⟩ = some (.int .i64 v)) :
    Calls Try.prog 80 #[.slice (some ⟨g, 0, none⟩) (n + 1) cap] w fun e w' => e = .returned (.tuple #[.int .i64 v, .slice (some ⟨g, 0, none⟩) n cap]) ∧ ∃ q, w' = w.drewN q := by
  unfold maxLen at hcap
  go_enter Try.func80, Try.ntmps80
  go_wp2
  go_quiet (fail)
  go_wp2_with fail
  go_ret2
  exact ⟨rfl, nq, rfl⟩
/-- of what 'Take' makes an arena -/
def st0 (X : A) : List Nat := if X.bk = [] then X.st ++ [0] else X.st
def tq (X : A) : Nat := if X.bk = [] then X.st.length else X.bk.getLastD 0
def tk (X : A) : A := ⟨(st0 X).set (tq X) ((st0 X).getD (tq X) 0 + 1), X.bk.dropLast, X.room, X.used + 1⟩
def Turned (p : Nat) (sv bv : Value) (w : World) (X' : A) (w' : World) : Prop :=
  ∃ sv' bv', lies w' p X' sv' bv' ∧ Step (foot p sv bv) w w' ∧ ∀ b, foot p sv' bv' b → foot p sv bv b ∨ w.heap.size ≤ b
theorem is_dropLast (l : List Nat) : (is l).dropLast = is l.dropLast := by simp [is]
theorem us_set (l : List Nat) (q n : Nat) : (us l).set q (.int .u64 n) = us (l.set q n) := by simp [us, List.map_set]
theorem lies_back {w : World} {p sg bg scap bcap q n m nq L : Nat} {X : A} (h : lies w p X (.slice (some ⟨sg, 0, none⟩) L scap) (.slice (some ⟨bg, 0, none⟩) (m + 1) bcap))
    (hbk : X.bk = [] → False) (hm : X.bk.length = m + 1) (hL : X.st.length = L) (hq : tq X = q) (hl : q < L) (hn : n = X.st.getD q 0) (hu : X.used < 65536) :
    lies ((((w.drewN nq).setCell ⟨p, 1, none⟩ (.slice (some ⟨bg, 0, none⟩) m bcap)).setCell ⟨sg, q, none⟩ (.int .u64 ((n : Int) + 1))).setCell ⟨p, 3, none⟩ (.int .i64 (wrap64 ((X.used : Int) + 1)))) p (tk X)
      (.slice (some ⟨sg, 0, none⟩) L scap) (.slice (some ⟨bg, 0, none⟩) m bcap) := by
  obtain ⟨h1, h2, h3, h4, h5, h6⟩ := h
  have hsp : sg ≠ p := fun e => h4 (by simp [Value.ownBlock, e])
  have hbp : bg ≠ p := fun e => h5 (by simp [Value.ownBlock, e])
  have hsb : sg ≠ bg := fun e => h6 sg (by simp [Value.ownBlock]) (by simp [Value.ownBlock, e])
  have e0 : st0 X = X.st := by unfold st0; rw [if_neg hbk]
  have ew : wrap64 ((X.used : Int) + 1) = ((X.used + 1 : Nat) : Int) := by unfold wrap64; omega
  have en : (n : Int) + 1 = ((n + 1 : Nat) : Int) := by omega
  rw [ew, en]
  rw [hm] at h3
  rw [hL] at h2
  have hb' := ownsRow_pop' h3 (by omega)
  rw [is_dropLast] at hb'
  have hs' := ownsRow_set (.int .u64 ((n + 1 : Nat) : Int)) h2 (o := q) (by omega)
  rw [us_set] at hs'
  have t1 : (tk X).st = X.st.set q (n + 1) := by unfold tk; rw [e0, hq, hn]
  have t2 : (tk X).bk = X.bk.dropLast := rfl
  have l1 : (tk X).st.length = L := by rw [t1, List.length_set, hL]
  have l2 : (tk X).bk.length = m := by rw [t2, List.length_dropLast, hm]; rfl
  refine ⟨?_, ?_, ?_, h4, by simpa [Value.ownBlock] using hbp, by simpa [Value.ownBlock] using fun e => hsb e.symm⟩
  · have a1 := heap_set (o := 1) (.slice (some ⟨bg, 0, none⟩) m bcap) (show (w.drewN nq).heap[p]? = _ from h1)
    have a2 := (heap_other (w := (w.drewN nq).setCell ⟨p, 1, none⟩ (.slice (some ⟨bg, 0, none⟩) m bcap)) (o := q) (.int .u64 ((n + 1 : Nat) : Int)) (Ne.symm hsp)).trans a1
    exact heap_set (o := 3) (.int .i64 ((X.used + 1 : Nat) : Int)) a2
  · rw [l1, t1]
    have hg : (w.setCell ⟨sg, q, none⟩ (.int .u64 ((n + 1 : Nat) : Int))).ownsRow 0 22 1 (.slice (some ⟨sg, 0, none⟩) L scap) L (us (X.st.set q (n + 1))) := hs'
    obtain ⟨g, cap, cur, ev, hbb, hg2, r⟩ := hg.2.resolve_left (by simp)
    injection ev with ev1 ev2 ev3
    injection ev1 with ev1
    injection ev1 with ev1
    subst ev1 ev3
    refine ⟨hg.1, .inr ⟨sg, scap, cur, rfl, Nat.zero_le _, ?_, r⟩⟩
    rw [heap_other _ hsp]
    obtain ⟨g', cap', cur', ev', hbb', hg2', r'⟩ := h2.2.resolve_left (by simp)
    injection ev' with ev1' ev2' ev3'
    injection ev1' with ev1'
    injection ev1' with ev1'
    subst ev1' ev3'
    rw [heap_set (o := q) _ hg2'] at hg2
    rw [← hg2]
    refine heap_set (o := q) _ ?_
    rw [heap_other _ hsp]
    exact hg2'
  · rw [l2, t2]
    refine ownsRow_keep hb' (fun b hb => ?_)
    simp only [Value.ownBlock, Option.some.injEq] at hb
    subst hb
    rw [heap_other _ hbp, heap_other _ (Ne.symm hsb), heap_other _ hbp]
    rfl
theorem take_full (p : Nat) (X : A) (sv bv : Value) (w : World) (h : lies w p X sv bv) (hr : 1 ≤ X.room) (hu : X.used = X.room) :
    Calls Try.prog 52 #[.pointer (some ⟨p, 0, none⟩)] w fun e w' => e = .returned (.tuple #[.int .u64 0, .int .i64 4]) ∧ ∃ q, w' = w.drewN q := by
  obtain ⟨c0, c1, c2, c3, f0, f1, f2, f3⟩ := h.cells
  have H := Lib.hid h
  rw [hu] at c3
  clear h
  go_enter Try.func52, Try.ntmps52
  go_wp2_with (go_at_call 79; refine (none_any _ _ _ _ _ H.out hr).mono ?_; rintro e w' ⟨rfl, rfl⟩)
  go_quiet (fail)
  go_wp2_with fail
  go_ret2
  exact ⟨rfl, nq, rfl⟩
theorem take_back (p : Nat) (X : A) (sv bv : Value) (w : World) (h : lies w p X sv bv) (hf : Fit X) (hu : X.used < X.room) (m q : Nat) (hm : X.bk.length = m + 1) (hq : X.bk.getD m 0 = q) (hl : q < X.st.length) (he : X.st.getD q 0 % 2 = 0) :
    Calls Try.prog 52 #[.pointer (some ⟨p, 0, none⟩)] w fun e w' => e = .returned (.tuple #[.int .u64 ((hdl (tk X) (tq X) : Nat) : Int), .int .i64 0]) ∧ Turned p sv bv w (tk X) w' := by
  obtain ⟨c0, c1, c2, c3, f0, f1, f2, f3⟩ := h.cells
  obtain ⟨bg, bcap, rfl, hbc, hbm⟩ := own_cap h.2.2.1 (by omega)
  obtain ⟨sg, scap, rfl, hsc, hsm⟩ := own_cap h.2.1 (by omega)
  have H := Lib.hid h
  have hne : ((X.used : Int) == (X.room : Int)) = false := by simp; omega
  have hfr : w.frozen? ⟨sg, q, none⟩ = false := h.2.1.frozen' rfl _
  have hb := h.2.2.1.cells (g := bg) rfl m (.int .i64 q) (by rw [is_at _ _ (by omega), hq])
  rw [add_plain] at hb
  obtain ⟨n, hn⟩ : ∃ n, n = X.st.getD q 0 := ⟨_, rfl⟩
  have hs := h.2.1.cells (g := sg) rfl q (.int .u64 n) (by rw [us_at _ _ hl, hn])
  rw [add_plain] at hs
  have hsp : sg ≠ p := fun e => h.2.2.2.1 (by simp [Value.ownBlock, e])
  have hbp : bg ≠ p := fun e => h.2.2.2.2.1 (by simp [Value.ownBlock, e])
  have hsb : sg ≠ bg := fun e => h.2.2.2.2.2 sg (by simp [Value.ownBlock]) (by simp [Value.ownBlock, e])
  have HM := Lib.hid hm
  rw [hm] at c1
  rw [hm] at hbc
  have hn32 := hf.bd q
  rw [← hn] at hn32 he
  have HN := Lib.hid hn
  have HQ := Lib.hid hq
  clear h hm hn hq
  go_enter Try.func52, Try.ntmps52
  go_wp2_with (go_at_call 79; refine (none_any _ _ _ _ _ H.out hf.r1).mono ?_; rintro e w' ⟨rfl, rfl⟩)
  go_quiet (fail)
  go_wp2_with fail
  refine (last_any bg m bcap q _ hbc hbm (by simpa using hb)).mono ?_
  rintro e w1 ⟨rfl, nq2, rfl⟩
  go_wp2_with fail
  have hbk : X.bk = [] → False := fun e => by have := HM.out; rw [e] at this; simp at this
  have htq : tq X = q := by
    unfold tq
    rw [if_neg hbk, ← HQ.out, List.getLastD_eq_getLast?, List.getLast?_eq_getElem?, HM.out]
    simp [List.getD]
  have hL := lies_back (nq := nq + nq2) (HM.out ▸ H.out) hbk HM.out rfl htq hl HN.out (by have := hf.r2; omega)
  have t1 : (tk X).st = X.st.set q (n + 1) := by
    unfold tk
    rw [show st0 X = X.st from by unfold st0; rw [if_neg hbk], htq, HN.out]
  have tq1 : (tk X).st.getD q 0 = n + 1 := by rw [t1]; simp [List.getD, hl]
  have tl : (tk X).st.length = X.st.length := by rw [t1, List.length_set]
  refine (handle_odd p (tk X) _ _ q _ hL hf.r1 (by rw [tl]; exact hl) (by rw [tq1]; omega) (by rw [tq1]; omega) (by rw [tl]; exact Nat.le_trans hf.len hf.r2)).mono ?_
  rintro e w2 ⟨rfl, rfl⟩
  go_wp2_with fail
  go_ret2
  rw [htq]
  refine ⟨rfl, _, _, hL, ?_, fun b hb => .inl ?_⟩
  · refine Step.setCell (Step.setCell (Step.setCell ((Step.refl _ _).drewN _) _ (.inl (.inl rfl)) _) _ (.inl (.inr (.inl rfl))) _) _ (.inl (.inl rfl)) _
  · rcases hb with h | h | h
    · exact .inl h
    · exact .inr (.inl h)
    · exact .inr (.inr h)
end Go.Proofs.Ytkdmlpigkmlkmaa.Ar
--  DERIVED. Layer 4 (arena): contracts of what writes, the rest. 
set_option linter.unusedVariables false
set_option linter.unusedSimpArgs false
set_option maxRecDepth 100000
namespace Go.Proofs.Ytkdmlpigkmlkmaa.Ar
open Go.RowKit Go.Proofs.Ytkdmlpigkmlkmaa

theorem info30 : (Try.prog.info? 22).map (fun i => (i.zero, i.size, i.bytes)) = some (some (.int .u64 0), 1, 8) := by kernel_rfl
theorem info3 : (Try.prog.info? 3).map (fun i => (i.zero, i.size, i.bytes)) = some (some (.int .i64 0), 1, 8) := by kernel_rfl
structure After (p : Nat) (X : A) (bv : Value) (sv v1 : Value) (w w1 : World) (L : Nat) (xs : List Value) : Prop where
  own : w1.ownsRow 0 22 1 v1 (L + 1) xs
  gr : w.grownBy w1 sv.ownBlock
  mv : Moved w sv v1
  blk : w1.heap[p]? = some (.cells #[sv, bv, .int .i64 X.room, .int .i64 X.used] 125 (0, 0))
theorem After.undraw {p : Nat} {X : A} {bv sv v1 : Value} {w w1 : World} {L n : Nat} {xs : List Value} (h : After p X bv sv v1 (w.drewN n) w1 L xs) : After p X bv sv v1 w w1 L xs :=
  ⟨h.own, ⟨h.gr.os, h.gr.tape, h.gr.output, h.gr.size, h.gr.block⟩, h.mv, h.blk⟩
theorem after_app {p : Nat} {X : A} {bv sv v1 : Value} {w w1 : World} {L : Nat} {n : Int} (h : lies w p X sv bv) (hown : w1.ownsRow 0 22 1 v1 (L + 1) (us X.st ++ [.int .u64 n])) (hL : X.st.length = L)
    (hgrow : w.grownBy w1 sv.ownBlock) (hmv : Moved w sv v1) :
    ∃ g cap, v1 = .slice (some ⟨g, 0, none⟩) (L + 1) cap ∧ g ≠ p ∧ L + 1 ≤ cap ∧ Hid (After p X bv sv v1 w w1 L (us X.st ++ [.int .u64 n])) ∧ w1.cell? ⟨p, 0, none⟩ = some sv ∧ w1.cell? ⟨p, 2, none⟩ = some (.int .i64 X.room) ∧ w1.cell? ⟨p, 3, none⟩ = some (.int .i64 X.used) ∧
      w1.frozen? ⟨p, 0, none⟩ = false ∧ w1.frozen? ⟨p, 3, none⟩ = false ∧ w1.cell? ⟨g, L, none⟩ = some (.int .u64 n) ∧ w1.frozen? ⟨g, L, none⟩ = false := by
  obtain ⟨g, cap, hv1, hcap, hmax⟩ := own_cap hown (by omega)
  subst hv1
  have hp := (Array.getElem?_eq_some_iff.1 h.1).1
  have hw1 : w1.heap[p]? = some (.cells #[sv, bv, .int .i64 X.room, .int .i64 X.used] 125 (0, 0)) :=
    (hgrow.block p hp (fun e => h.2.2.2.1 e.symm)).trans h.1
  have hgp : g ≠ p := by
    rcases hmv with hmv | ⟨b, hmv, hb⟩
    · exact fun e => h.2.2.2.1 (by rw [← hmv, e]; rfl)
    · simp only [Value.ownBlock, Option.some.injEq] at hmv
      omega
  have dc : w1.cell? ⟨g, L, none⟩ = some (.int .u64 n) := by
    have := hown.cells (g := g) rfl L (.int .u64 n) (by simp [us_len, hL])
    rwa [add_plain] at this
  exact ⟨g, cap, rfl, hgp, hcap, Lib.hid ⟨hown, hgrow, hmv, hw1⟩, by simp [World.cell?, hw1], by simp [World.cell?, hw1], by simp [World.cell?, hw1], by simp [World.frozen?, hw1], by simp [World.frozen?, hw1], dc, hown.frozen' rfl L⟩
theorem lies_new {p g cap L bcap : Nat} {ba : Option Addr} {X : A} {sv : Value} {w w1 : World} (h : lies w p X sv (.slice ba X.bk.length bcap)) (hL : L = X.st.length) (hbk : X.bk = [])
    (HA : After p X (.slice ba X.bk.length bcap) sv (.slice (some ⟨g, 0, none⟩) (L + 1) cap) w w1 L (us X.st ++ [.int .u64 0])) (hgp : g ≠ p) (hu : X.used < 65536) :
    lies (((w1.setCell ⟨p, 0, none⟩ (.slice (some ⟨g, 0, none⟩) (L + 1) cap)).setCell ⟨g, L, none⟩ (.int .u64 1)).setCell ⟨p, 3, none⟩ (.int .i64 (wrap64 ((X.used : Int) + 1)))) p (tk X)
      (.slice (some ⟨g, 0, none⟩) (L + 1) cap) (.slice ba X.bk.length bcap) ∧ tq X = L ∧ (tk X).st = X.st ++ [1] := by
  obtain ⟨h1, h2, h3, h4, h5, h6⟩ := h
  have e0 : st0 X = X.st ++ [0] := by unfold st0; rw [if_pos hbk]
  have eq : tq X = L := by unfold tq; rw [if_pos hbk, hL]
  have ew : wrap64 ((X.used : Int) + 1) = ((X.used + 1 : Nat) : Int) := by unfold wrap64; omega
  have t1 : (tk X).st = X.st ++ [1] := by
    unfold tk
    rw [e0, eq, hL]
    simp [List.getD]
  have t2 : (tk X).bk = X.bk := by unfold tk; rw [hbk]; rfl
  have l1 : (tk X).st.length = L + 1 := by rw [t1, List.length_append, hL]; rfl
  have hgb : ∀ b, (Value.slice ba X.bk.length bcap).ownBlock = some b → b ≠ g := by
    rintro b hb rfl
    rcases HA.mv with hmv | ⟨b', hmv, hb'⟩
    · exact h6 b (by rw [← hmv]; rfl) hb
    · have := (h3.lt b hb).2
      simp only [Value.ownBlock, Option.some.injEq] at hmv
      omega
  rw [ew]
  refine ⟨⟨?_, ?_, ?_, by simpa [Value.ownBlock] using hgp, h5, fun b hb hc => hgb b hc ?_⟩, eq, t1⟩
  · have a1 := heap_set (o := 0) (.slice (some ⟨g, 0, none⟩) (L + 1) cap) HA.blk
    have a2 := (heap_other (w := w1.setCell ⟨p, 0, none⟩ (.slice (some ⟨g, 0, none⟩) (L + 1) cap)) (o := L) (.int .u64 1) (Ne.symm hgp)).trans a1
    exact heap_set (o := 3) (.int .i64 ((X.used + 1 : Nat) : Int)) a2
  · rw [l1, t1]
    have k1 : (w1.setCell ⟨p, 0, none⟩ (.slice (some ⟨g, 0, none⟩) (L + 1) cap)).ownsRow 0 22 1 (.slice (some ⟨g, 0, none⟩) (L + 1) cap) (L + 1) (us X.st ++ [.int .u64 0]) :=
      ownsRow_keep HA.own (fun b hb => by
        simp only [Value.ownBlock, Option.some.injEq] at hb
        subst hb
        exact heap_other _ hgp)
    have k2 := ownsRow_set (.int .u64 1) k1 (o := L) (by omega)
    have e : (us X.st ++ [Value.int .u64 0]).set L (.int .u64 1) = us (X.st ++ [1]) := by
      rw [List.set_append_right (h := by rw [us_len]; omega), us_len, hL]
      simp [us]
    rw [e] at k2
    refine ownsRow_keep k2 (fun b hb => ?_)
    simp only [Value.ownBlock, Option.some.injEq] at hb
    subst hb
    exact heap_other _ hgp
  · rw [t2]
    refine ownsRow_keep h3 (fun b hb => ?_)
    have hbp : b ≠ p := fun e => h5 (by rw [hb, e])
    rw [heap_other _ hbp, heap_other _ (hgb b hb), heap_other _ hbp]
    exact HA.gr.block b (h3.lt b hb).2 (fun e => h6 b e.symm hb)
  · simpa [Value.ownBlock, eq_comm] using hb
theorem take_new (p : Nat) (X : A) (sv bv : Value) (w : World) (h : lies w p X sv bv) (hf : Fit X) (hu : X.used < X.room) (hbk : X.bk = []) (hlen : X.st.length < X.room) :
    Calls Try.prog 52 #[.pointer (some ⟨p, 0, none⟩)] w fun e w' => e = .returned (.tuple #[.int .u64 ((hdl (tk X) (tq X) : Nat) : Int), .int .i64 0]) ∧ Turned p sv bv w (tk X) w' := by
  obtain ⟨c0, c1, c2, c3, f0, f1, f2, f3⟩ := h.cells
  obtain ⟨ba, bcap, rfl⟩ := own_slice h.2.2.1
  obtain ⟨sa, scap, hsv⟩ := own_slice h.2.1
  have hne : ((X.used : Int) == (X.room : Int)) = false := by simp; omega
  have hb0 : X.bk.length = 0 := by rw [hbk]; rfl
  rw [hb0] at c1
  have hlen2 : X.st.length + 1 ≤ 65536 := by have := hf.r2; omega
  obtain ⟨L, hL⟩ : ∃ L, L = X.st.length := ⟨_, rfl⟩
  rw [← hL] at hsv hlen2
  have HL := Lib.hid hL
  have HO := Lib.hid h.2.1
  have HSV := Lib.hid hsv
  rw [hsv] at c0
  have H := Lib.hid h
  clear h hb0 hL hlen hsv
  go_enter Try.func52, Try.ntmps52
  go_wp2_with (go_at_call 79; refine (none_any _ _ _ _ _ H.out hf.r1).mono ?_; rintro e w' ⟨rfl, rfl⟩)
  go_quiet (fail)
  go_wp2_with (first
    | (at_builtin; refine app_own rfl _ _ _ _ _ 1 8 rfl Try.underlying123 info30 rfl (by omega) (by omega) _ L (us X.st) [.int .u64 0] rfl _ (by simp) rfl rfl (by simp [Value.oneCell']) (by rw [← HSV.out, HL.out]; exact HO.out) (by omega) ?_; intro v1 w1 hown hgrow hmv
       obtain ⟨g, cap, hv1, hgp, hcap, HA, d0, d2, d3, e0, e3, dc, df⟩ := after_app (w := w.drewN nq) H.out hown HL.out.symm (by rw [HSV.out]; exact hgrow) (by rw [HSV.out]; exact hmv)
       subst hv1
       clear hown hgrow hmv c0 c1 c2 c3 f0 f1 f2 f3)
    | fail)
  have HA := Lib.hid HA.out.undraw
  obtain ⟨hL, htq, t1⟩ := lies_new H.out HL.out hbk HA.out hgp (by have := hf.r2; omega)
  have tl : (tk X).st.length = L + 1 := by rw [t1, List.length_append, HL.out]; rfl
  have tq1 : (tk X).st.getD L 0 = 1 := by rw [t1, HL.out]; simp [List.getD]
  refine (handle_odd p (tk X) _ _ L _ hL hf.r1 (by omega) (by rw [tq1]) (by rw [tq1]; omega) (by omega)).mono ?_
  rintro e w2 ⟨rfl, rfl⟩
  go_wp2_with fail
  go_ret2
  rw [htq]
  have hp := (Array.getElem?_eq_some_iff.1 H.out.1).1
  have hg : foot p sv (.slice ba X.bk.length bcap) g ∨ w.heap.size ≤ g := by
    rcases HA.out.mv with hmv | ⟨b, hmv, hb⟩
    · exact .inl (.inr (.inl (by rw [← hmv]; rfl)))
    · simp only [Value.ownBlock, Option.some.injEq] at hmv
      exact .inr (by rw [hmv]; exact hb)
  refine ⟨rfl, _, _, hL, ?_, fun b hb => ?_⟩
  · refine Step.setCell (Step.setCell (Step.setCell ((Step.refl _ _).grown HA.out.gr (fun k hk => .inl (.inr (.inl hk)))) _ (.inl (.inl rfl)) _) _ hg _) _ (.inl (.inl rfl)) _
  · rcases hb with h | h | h
    · exact .inl (.inl h)
    · simp only [Value.ownBlock, Option.some.injEq] at h
      exact h ▸ hg
    · exact .inl (.inr (.inr h))
end Go.Proofs.Ytkdmlpigkmlkmaa.Ar
--  DERIVED. Layer 4 (arena): 'Give'. 
set_option linter.unusedVariables false
set_option linter.unusedSimpArgs false
set_option maxRecDepth 100000
namespace Go.Proofs.Ytkdmlpigkmlkmaa.Ar
open Go.RowKit Go.Proofs.Ytkdmlpigkmlkmaa

theorem give_not (p : Nat) (X : A) (sv bv : Value) (H : Nat) (hH : H < 18446744073709551616) (w : World) (h : lies w p X sv bv) (hf : Fit X) (hb : pb X H = false) :
    Calls Try.prog 60 #[.pointer (some ⟨p, 0, none⟩), .int .u64 H] w fun e w' => e = .returned (.int .i64 40) ∧ w = w' := by
  have HL := Lib.hid h
  have HB := Lib.hid hb
  have HH := Lib.hid hH
  clear h hb hH
  go_enter Try.func60, Try.ntmps60
  go_wp2_with (first
    | (go_at_call 79; refine (none_any _ _ _ _ _ HL.out hf.r1).mono ?_; rintro e w' ⟨rfl, rfl⟩)
    | (go_at_call 53; refine (place_any _ _ _ _ _ HH.out _ HL.out hf).mono ?_; rintro e w' ⟨rfl, rfl⟩; rw [HB.out]))
  go_ret
  exact ⟨rfl, rfl⟩
def gv (X : A) (q : Nat) : A := ⟨X.st.set q (X.st.getD q 0 + 1), X.bk ++ [q], X.room, X.used - 1⟩
structure Aft (p q : Nat) (X : A) (sv bv v1 : Value) (w w1 : World) (L : Nat) : Prop where
  own : w1.ownsRow 0 3 1 v1 (L + 1) (is X.bk ++ [.int .i64 q])
  st : w1.ownsRow 0 22 1 sv X.st.length (us (gv X q).st)
  mv : Moved w bv v1
  sb : ∀ b, sv.ownBlock = some b → v1.ownBlock ≠ some b
  pb : v1.ownBlock ≠ some p
  blk : w1.heap[p]? = some (.cells #[sv, bv, .int .i64 X.room, .int .i64 X.used] 125 (0, 0))
  step : Step (foot p sv bv) w w1
theorem aft_app {p q sg scap : Nat} {X : A} {bv v1 : Value} {w w1 : World} {L n : Nat} (h : lies w p X (.slice (some ⟨sg, 0, none⟩) X.st.length scap) bv) (hq : q < X.st.length) (hn : n = X.st.getD q 0)
    (hown : w1.ownsRow 0 3 1 v1 (L + 1) (is X.bk ++ [.int .i64 q]))
    (hgrow : (w.setCell ⟨sg, q, none⟩ (.int .u64 ((n : Int) + 1))).grownBy w1 bv.ownBlock) (hmv : Moved (w.setCell ⟨sg, q, none⟩ (.int .u64 ((n : Int) + 1))) bv v1) :
    Hid (Aft p q X (.slice (some ⟨sg, 0, none⟩) X.st.length scap) bv v1 w w1 L) ∧ w1.cell? ⟨p, 1, none⟩ = some bv ∧ w1.cell? ⟨p, 3, none⟩ = some (.int .i64 X.used) ∧
      w1.frozen? ⟨p, 1, none⟩ = false ∧ w1.frozen? ⟨p, 3, none⟩ = false := by
  obtain ⟨h1, h2, h3, h4, h5, h6⟩ := h
  have hsp : sg ≠ p := fun e => h4 (by simp [Value.ownBlock, e])
  have hp := (Array.getElem?_eq_some_iff.1 h1).1
  have hsl := (h2.lt sg rfl).2
  have hw1 : w1.heap[p]? = some (.cells #[.slice (some ⟨sg, 0, none⟩) X.st.length scap, bv, .int .i64 X.room, .int .i64 X.used] 125 (0, 0)) :=
    (hgrow.block p (by rw [size_set]; exact hp) (fun e => h5 e.symm)).trans ((heap_other _ (Ne.symm hsp)).trans h1)
  have hmv' : Moved w bv v1 := by
    rcases hmv with hmv | ⟨b, hmv, hb⟩
    · exact .inl hmv
    · exact .inr ⟨b, hmv, by rw [size_set] at hb; exact hb⟩
  have en : (n : Int) + 1 = ((n + 1 : Nat) : Int) := by omega
  have st := ownsRow_set (.int .u64 ((n : Int) + 1)) h2 (o := q) (by omega)
  rw [en, us_set, ← en] at st
  have hsb : sg ≠ p ∧ bv.ownBlock ≠ some sg := ⟨hsp, h6 sg rfl⟩
  refine ⟨Lib.hid ⟨hown, ?_, hmv', ?_, ?_, hw1, ?_⟩, by simp [World.cell?, hw1], by simp [World.cell?, hw1], by simp [World.frozen?, hw1], by simp [World.frozen?, hw1]⟩
  · have e : (gv X q).st = X.st.set q (n + 1) := by unfold gv; rw [hn]
    rw [e]
    refine ownsRow_keep st (fun b hb => ?_)
    simp only [Value.ownBlock, Option.some.injEq] at hb
    subst hb
    exact hgrow.block sg (by rw [size_set]; exact hsl) (fun e => hsb.2 e.symm)
  · intro b hb hc
    simp only [Value.ownBlock, Option.some.injEq] at hb
    subst hb
    rcases hmv' with hmv | ⟨b, hmv, hb⟩
    · exact hsb.2 (hmv ▸ hc)
    · rw [hmv] at hc
      injection hc with hc
      omega
  · intro hc
    rcases hmv' with hmv | ⟨b, hmv, hb⟩
    · exact h5 (hmv ▸ hc)
    · rw [hmv] at hc
      injection hc with hc
      omega
  · exact ((Step.refl _ _).setCell ⟨sg, q, none⟩ (.inl (.inr (.inl rfl))) _).grown hgrow (fun k hk => .inl (.inr (.inr hk)))
theorem lies_give {p q L : Nat} {X : A} {sv bv v1 : Value} {w w1 : World} (HA : Aft p q X sv bv v1 w w1 L) (hsp : sv.ownBlock ≠ some p) (hL : L = X.bk.length) (hu : 1 ≤ X.used) (hu2 : X.used ≤ 65536) :
    lies ((w1.setCell ⟨p, 1, none⟩ v1).setCell ⟨p, 3, none⟩ (.int .i64 ((X.used : Int) - 1))) p (gv X q) sv v1 := by
  have ew : (X.used : Int) - 1 = ((X.used - 1 : Nat) : Int) := by omega
  rw [ew]
  have keep : ∀ {e n : Nat} {v : Value} {xs : List Value}, w1.ownsRow 0 e 1 v n xs → v.ownBlock ≠ some p → ((w1.setCell ⟨p, 1, none⟩ v1).setCell ⟨p, 3, none⟩ (.int .i64 ((X.used - 1 : Nat) : Int))).ownsRow 0 e 1 v n xs := by
    intro e n v xs k hv
    refine ownsRow_keep k (fun b hb => ?_)
    have : b ≠ p := fun e => hv (by rw [hb, e])
    rw [heap_other _ this, heap_other _ this]
  refine ⟨?_, ?_, ?_, hsp, HA.pb, HA.sb⟩
  · have a1 := heap_set (o := 1) v1 HA.blk
    exact heap_set (o := 3) (.int .i64 ((X.used - 1 : Nat) : Int)) a1
  · have e : (gv X q).st.length = X.st.length := by unfold gv; rw [List.length_set]
    rw [e]
    exact keep HA.st hsp
  · have e : (gv X q).bk.length = L + 1 := by unfold gv; rw [List.length_append, hL]; rfl
    have e2 : is (gv X q).bk = is X.bk ++ [.int .i64 q] := by unfold gv is; simp
    rw [e, e2]
    exact keep HA.own HA.pb
theorem give_yes (p : Nat) (X : A) (sv bv : Value) (H q : Nat) (hH : H < 18446744073709551616) (w : World) (h : lies w p X sv bv) (hf : Fit X) (hb : pb X H = true) (hv : pv X H = q) (hq : q < X.st.length) (hu : 1 ≤ X.used) (hu2 : X.used ≤ 65536) (hbl : X.bk.length < 65536) (hbd : X.st.getD q 0 < 4294967296) :
    Calls Try.prog 60 #[.pointer (some ⟨p, 0, none⟩), .int .u64 H] w fun e w' => e = .returned (.int .i64 0) ∧ Turned p sv bv w (gv X q) w' := by
  obtain ⟨c0, c1, c2, c3, f0, f1, f2, f3⟩ := h.cells
  obtain ⟨sg, scap, rfl, hsc, hsm⟩ := own_cap h.2.1 (by omega)
  obtain ⟨ba, bcap, hbv⟩ := own_slice h.2.2.1
  obtain ⟨n, hn⟩ : ∃ n, n = X.st.getD q 0 := ⟨_, rfl⟩
  have hs := h.2.1.cells (g := sg) rfl q (.int .u64 n) (by rw [us_at _ _ hq, hn])
  rw [add_plain] at hs
  have hfr : w.frozen? ⟨sg, q, none⟩ = false := h.2.1.frozen' rfl _
  have hsp : sg ≠ p := fun e => h.2.2.2.1 (by simp [Value.ownBlock, e])
  rw [← hn] at hbd
  have HN := Lib.hid hn
  rw [hbv] at c1
  obtain ⟨Lb, hLb⟩ : ∃ L, L = X.bk.length := ⟨_, rfl⟩
  rw [← hLb] at c1 hbl hbv
  have HBV := Lib.hid hbv
  have HLB := Lib.hid hLb
  have HL := Lib.hid h
  have HB := Lib.hid hb
  have HV := Lib.hid hv
  have HH := Lib.hid hH
  clear h hb hv hn hH hbv hLb
  go_enter Try.func60, Try.ntmps60
  go_wp2_with (first
    | (go_at_call 79; refine (none_any _ _ _ _ _ HL.out hf.r1).mono ?_; rintro e w' ⟨rfl, rfl⟩)
    | (go_at_call 53; refine (place_any _ _ _ _ _ HH.out _ HL.out hf).mono ?_; rintro e w' ⟨rfl, rfl⟩; rw [HB.out, HV.out])
    | (at_builtin; refine app_own rfl _ _ _ _ _ 1 8 rfl Try.underlying47 info3 rfl (by omega) (by omega) _ Lb (is X.bk) [.int .i64 q] rfl _ (by simp [size_set]) rfl rfl (by simp [Value.oneCell']) (by rw [← HBV.out, HLB.out]; exact ownsRow_keep HL.out.2.2.1 (fun b hb => heap_other _ (fun e => HL.out.2.2.2.2.2 sg rfl (e ▸ hb)))) (by omega) ?_; intro v1 w1 hown hgrow hmv
       rw [← HBV.out] at hgrow hmv
       obtain ⟨HA, d1, d3, e1, e3⟩ := aft_app HL.out hq HN.out hown hgrow hmv
       obtain ⟨g, cap, hv1, _, _⟩ := own_cap hown (by omega)
       subst hv1
       clear hown hgrow hmv c0 c1 c2 c3 f0 f1 f2 f3))
  go_ret
  have hsp' : (Value.slice (some ⟨sg, 0, none⟩) X.st.length scap).ownBlock ≠ some p := HL.out.2.2.2.1
  refine ⟨rfl, _, _, lies_give HA.out hsp' HLB.out hu hu2, ?_, fun b hb => ?_⟩
  · exact (HA.out.step.setCell ⟨p, 1, none⟩ (.inl (.inl rfl)) _).setCell ⟨p, 3, none⟩ (.inl (.inl rfl)) _
  · rcases hb with h | h | h
    · exact .inl (.inl h)
    · exact .inl (.inr (.inl h))
    · rcases HA.out.mv with hmv | ⟨b', hmv, hb'⟩
      · exact .inl (.inr (.inr (hmv ▸ h)))
      · rw [hmv] at h
        injection h with h
        exact .inr (h ▸ hb')
end Go.Proofs.Ytkdmlpigkmlkmaa.Ar
--  DERIVED. Layer 4 (arena): an arena that keeps its law, and the contracts in the words of ownership. 
set_option linter.unusedVariables false
set_option linter.unusedSimpArgs false
set_option maxRecDepth 100000
namespace Go.Proofs.Ytkdmlpigkmlkmaa.Ar
open Go.RowKit Go.Proofs.Ytkdmlpigkmlkmaa

/-- what holds of an arena behind N calls -/
structure Ok (N : Nat) (X : A) : Prop where
  r1 : 1 ≤ X.room
  r2 : X.room ≤ 65536
  sum : X.used + X.bk.length = X.st.length
  len : X.st.length ≤ X.room
  nd : X.bk.Nodup
  mem : ∀ q, q ∈ X.bk ↔ q < X.st.length ∧ X.st.getD q 0 % 2 = 0
  bd : ∀ q, X.st.getD q 0 ≤ N
theorem Ok.fit {N : Nat} {X : A} (h : Ok N X) (hN : N < 4294967295) : Fit X := ⟨h.r1, h.r2, h.len, fun q => by have := h.bd q; omega⟩
theorem Ok.mono {N M : Nat} {X : A} (h : Ok N X) (hM : N ≤ M) : Ok M X := ⟨h.r1, h.r2, h.sum, h.len, h.nd, h.mem, fun q => Nat.le_trans (h.bd q) hM⟩
theorem ok_fresh (r : Nat) (h1 : 1 ≤ r) (h2 : r ≤ 65536) : Ok 0 (fresh r) := ⟨h1, h2, rfl, Nat.zero_le _, List.nodup_nil, fun q => by simp [fresh], fun q => by simp [fresh]⟩
theorem getD_set (l : List Nat) (q v j : Nat) (hq : q < l.length) : (l.set q v).getD j 0 = if j = q then v else l.getD j 0 := by
  by_cases h : j = q
  · subst h; simp [List.getD, hq]
  · rw [if_neg h]; simp [List.getD, List.getElem?_set_ne (Ne.symm h)]
theorem getD_snoc (l : List Nat) (v j : Nat) : (l ++ [v]).getD j 0 = if j = l.length then v else l.getD j 0 := by
  by_cases h : j = l.length
  · subst h; simp [List.getD]
  · rw [if_neg h]
    by_cases hj : j < l.length
    · simp [List.getD, List.getElem?_append_left hj]
    · have e1 : (l ++ [v])[j]? = none := List.getElem?_eq_none (by simp; omega)
      have e2 : l[j]? = none := List.getElem?_eq_none (by omega)
      simp only [List.getD, e1, e2]
/-- of 'take': what it makes of each place -/
structure Taken (X : A) : Prop where
  len : (tk X).st.length ≤ X.st.length + 1
  old : X.st.length ≤ (tk X).st.length
  q : tq X < (tk X).st.length
  was : X.st.getD (tq X) 0 % 2 = 0
  now : (tk X).st.getD (tq X) 0 = X.st.getD (tq X) 0 + 1
  other : ∀ j, j ≠ tq X → (tk X).st.getD j 0 = X.st.getD j 0
theorem nodup_last {l : List Nat} (h : l.Nodup) (hne : l ≠ []) : l.getLastD 0 ∉ l.dropLast ∧ l.dropLast.Nodup ∧ ∀ q, q ∈ l.dropLast ↔ q ∈ l ∧ q ≠ l.getLastD 0 := by
  have e : l = l.dropLast ++ [l.getLastD 0] := by
    rw [List.getLastD_eq_getLast?, List.getLast?_eq_some_getLast hne]
    exact (List.dropLast_concat_getLast hne).symm
  have h' := h
  rw [e, List.nodup_append] at h'
  obtain ⟨h1, _, h3⟩ := h'
  have hn : l.getLastD 0 ∉ l.dropLast := fun hm => h3 _ hm _ (by simp) rfl
  refine ⟨hn, h1, fun q => ⟨fun hq => ⟨List.dropLast_subset l hq, fun e => hn (e ▸ hq)⟩, fun ⟨hq, hne2⟩ => ?_⟩⟩
  rw [e, List.mem_append] at hq
  rcases hq with hq | hq
  · exact hq
  · exact (hne2 (List.mem_singleton.1 hq)).elim
theorem take_spec {N : Nat} {X : A} (h : Ok N X) (hu : X.used < X.room) : Taken X ∧ Ok (N + 1) (tk X) := by
  by_cases hbk : X.bk = []
  · have e0 : st0 X = X.st ++ [0] := by unfold st0; rw [if_pos hbk]
    have eq : tq X = X.st.length := by unfold tq; rw [if_pos hbk]
    have t1 : (tk X).st = X.st ++ [1] := by unfold tk; rw [e0, eq]; simp [List.getD]
    have t2 : (tk X).bk = [] := by unfold tk; rw [hbk]; rfl
    have hs := h.sum
    rw [hbk] at hs
    simp at hs
    have hlt : X.st.length < X.room := by omega
    have hz : X.st.getD X.st.length 0 = 0 := by simp [List.getD]
    have hg : ∀ j, (tk X).st.getD j 0 = if j = X.st.length then 1 else X.st.getD j 0 := fun j => by rw [t1, getD_snoc]
    have hl : (tk X).st.length = X.st.length + 1 := by rw [t1, List.length_append]; rfl
    refine ⟨⟨by omega, by omega, by omega, by rw [eq, hz], by rw [eq, hg, if_pos rfl, hz], fun j hj => by rw [hg, if_neg (eq ▸ hj)]⟩, ⟨h.r1, h.r2, ?_, ?_, ?_, fun q => ?_, fun q => ?_⟩⟩
    · rw [t2, hl]; show X.used + 1 + 0 = _; omega
    · rw [hl]; exact hlt
    · rw [t2]; exact List.nodup_nil
    · rw [t2, hl, hg]
      have hm := h.mem q
      rw [hbk] at hm
      simp only [List.not_mem_nil, false_iff] at hm ⊢
      rintro ⟨h1, h2⟩
      split at h2
      · omega
      · exact hm ⟨by omega, h2⟩
    · rw [hg]
      have := h.bd q
      split <;> omega
  · have e0 : st0 X = X.st := by unfold st0; rw [if_neg hbk]
    have eq : tq X = X.bk.getLastD 0 := by unfold tq; rw [if_neg hbk]
    obtain ⟨n1, n2, n3⟩ := nodup_last h.nd hbk
    have hmem : X.bk.getLastD 0 ∈ X.bk := by
      rw [List.getLastD_eq_getLast?, List.getLast?_eq_some_getLast hbk]; exact List.getLast_mem hbk
    obtain ⟨q1, q2⟩ := (h.mem _).1 hmem
    have t1 : (tk X).st = X.st.set (tq X) (X.st.getD (tq X) 0 + 1) := by unfold tk; rw [e0]
    have hg : ∀ j, (tk X).st.getD j 0 = if j = tq X then X.st.getD (tq X) 0 + 1 else X.st.getD j 0 := fun j => by rw [t1, getD_set _ _ _ _ (eq ▸ q1)]
    have hl : (tk X).st.length = X.st.length := by rw [t1, List.length_set]
    have hpos : 0 < X.bk.length := List.length_pos_iff.2 hbk
    have hs := h.sum
    refine ⟨⟨by omega, by omega, by rw [hl, eq]; exact q1, by rw [eq]; exact q2, by rw [hg, if_pos rfl], fun j hj => by rw [hg, if_neg hj]⟩, ⟨h.r1, h.r2, ?_, ?_, n2, fun q => ?_, fun q => ?_⟩⟩
    · rw [hl]; show X.used + 1 + X.bk.dropLast.length = _; rw [List.length_dropLast]; omega
    · rw [hl]; exact h.len
    · show q ∈ X.bk.dropLast ↔ _
      rw [n3, h.mem, hl, hg, eq]
      constructor
      · rintro ⟨⟨a1, a2⟩, a3⟩
        exact ⟨a1, by rw [if_neg a3]; exact a2⟩
      · rintro ⟨a1, a2⟩
        split at a2
        · omega
        · exact ⟨⟨a1, a2⟩, by assumption⟩
    · rw [hg]
      have := h.bd q
      have := h.bd (tq X)
      split <;> omega
theorem give_spec {N : Nat} {X : A} (h : Ok N X) (q : Nat) (hq : q < X.st.length) (ho : X.st.getD q 0 % 2 = 1) :
    Ok (N + 1) (gv X q) ∧ 1 ≤ X.used ∧ (∀ j, (gv X q).st.getD j 0 = if j = q then X.st.getD q 0 + 1 else X.st.getD j 0) ∧ (gv X q).st.length = X.st.length := by
  have hg : ∀ j, (gv X q).st.getD j 0 = if j = q then X.st.getD q 0 + 1 else X.st.getD j 0 := fun j => by unfold gv; rw [getD_set _ _ _ _ hq]
  have hl : (gv X q).st.length = X.st.length := by unfold gv; rw [List.length_set]
  have hnq : q ∉ X.bk := fun hm => by have := ((h.mem q).1 hm).2; omega
  have hs := h.sum
  have hle : X.bk.length + 1 ≤ X.st.length := by
    have : (q :: X.bk).length ≤ (List.range X.st.length).length := by
      refine List.Nodup.length_le_of_subset (List.nodup_cons.2 ⟨hnq, h.nd⟩) ?_
      intro j hj
      rw [List.mem_range]
      rcases List.mem_cons.1 hj with rfl | hj
      · exact hq
      · exact ((h.mem j).1 hj).1
    simpa using this
  refine ⟨⟨h.r1, h.r2, ?_, by rw [hl]; exact h.len, ?_, fun j => ?_, fun j => ?_⟩, by omega, hg, hl⟩
  · rw [hl]; show X.used - 1 + (X.bk ++ [q]).length = _; rw [List.length_append]; simp; omega
  · show (X.bk ++ [q]).Nodup
    rw [List.nodup_append]
    exact ⟨h.nd, by simp, fun a ha b hb e => by simp at hb; subst hb; exact hnq (e ▸ ha)⟩
  · show j ∈ X.bk ++ [q] ↔ _
    rw [List.mem_append, h.mem, hl, hg, List.mem_singleton]
    constructor
    · rintro (⟨a1, a2⟩ | rfl)
      · refine ⟨a1, ?_⟩
        split
        · omega
        · exact a2
      · exact ⟨hq, by rw [if_pos rfl]; omega⟩
    · rintro ⟨a1, a2⟩
      by_cases e : j = q
      · exact .inr e
      · rw [if_neg e] at a2; exact .inl ⟨a1, a2⟩
  · rw [hg]
    have := h.bd j
    have := h.bd q
    split <;> omega
/-! ### Contracts -/
def tkE (X : A) : Int := if X.used = X.room then 4 else 0
def tkH (X : A) : Nat := if X.used = X.room then 0 else hdl (tk X) (tq X)
def tkA (X : A) : A := if X.used = X.room then X else tk X
def gvE (X : A) (H : Nat) : Int := if pb X H = true then 0 else 40
def gvA (X : A) (H : Nat) : A := if pb X H = true then gv X (pv X H).toNat else X
theorem Ok.used_le {N : Nat} {X : A} (h : Ok N X) : X.used ≤ X.room := by have := h.sum; have := h.len; omega
theorem tkA_ok {N : Nat} {X : A} (h : Ok N X) : Ok (N + 1) (tkA X) := by
  unfold tkA
  split
  · exact h.mono (by omega)
  · exact (take_spec h (by have := h.used_le; omega)).2
theorem pb_spec {X : A} {H : Nat} (hb : pb X H = true) : ∃ q, pv X H = (q : Nat) ∧ q < X.st.length ∧ X.st.getD q 0 % 2 = 1 ∧ H = hdl X q := by
  have h1 := hb
  unfold pb at h1
  rw [Bool.and_eq_true, beq_iff_eq] at h1
  obtain ⟨h1, h2⟩ := h1
  have h3 := h1
  unfold Ar.hb at h1
  simp only [Bool.and_eq_true, decide_eq_true_eq] at h1
  obtain ⟨a1, a2, a3⟩ := h1
  refine ⟨((H : Int) % 4294967296 - 1).toNat, ?_, a2, a3, ?_⟩
  · unfold pv; rw [if_pos hb]; omega
  · unfold hv at h2; rw [if_pos h3] at h2; omega
theorem gvA_ok {N : Nat} {X : A} (h : Ok N X) (H : Nat) : Ok (N + 1) (gvA X H) := by
  unfold gvA
  split
  · rename_i hb
    obtain ⟨q, h1, h2, h3, _⟩ := pb_spec hb
    rw [h1]
    exact (give_spec h q h2 h3).1
  · exact h.mono (by omega)
theorem own_new (r : Nat) (h1 : 1 ≤ r) (h2 : r ≤ 65536) {l : List HP} {w : World} (h : Own l w) :
    Calls Try.prog 47 #[.int .i64 r] w fun e w' => ∃ p, e = .returned (.tuple #[.pointer (some ⟨p, 0, none⟩), .int .i64 0]) ∧ Own (Arena p (fresh r) :: l) w' ∧ Ext w w' := by
  refine (new_any r h1 h2 w).mono ?_
  rintro e w' ⟨rfl, hl, hx⟩
  refine ⟨_, rfl, h.new hx (s := foot w.heap.size (.slice none 0 0) (.slice none 0 0)) ⟨_, _, hl, fun _ => Iff.rfl⟩ (fun b hb => ?_), hx⟩
  rcases hb with rfl | hb | hb
  · exact Nat.le_refl _
  · simp [Value.ownBlock] at hb
  · simp [Value.ownBlock] at hb
theorem own_turned {p : Nat} {X X' : A} {l : List HP} {w w' : World} (h : Own (Arena p X :: l) w) (f : ∀ {sv bv}, lies w p X sv bv → Turned p sv bv w X' w') : Own (Arena p X' :: l) w' := by
  obtain ⟨s, ⟨sv, bv, hl, hs⟩, hb, K⟩ := h.open
  obtain ⟨sv', bv', hl', hst, hn⟩ := f hl
  exact K (hst.mono (fun b hb => (hs b).2 hb)) (s' := foot p sv' bv') ⟨sv', bv', hl', fun _ => Iff.rfl⟩ (fun b hb => (hn b hb).imp (fun h => (hs b).2 h) id)
theorem own_lies {p : Nat} {X : A} {l : List HP} {w : World} (h : Own (Arena p X :: l) w) : ∃ sv bv, lies w p X sv bv := by
  obtain ⟨s, ⟨sv, bv, hl, hs⟩, hb, K⟩ := h.open
  exact ⟨sv, bv, hl⟩
theorem own_drewN {l : List HP} {w : World} (h : Own l w) (n : Nat) : Own l (w.drewN n) := h.step ((Ext.refl w).drewN n)
theorem own_take {N p : Nat} {X : A} {l : List HP} {w : World} (h : Own (Arena p X :: l) w) (ho : Ok N X) (hN : N < 4294967294) :
    Calls Try.prog 52 #[.pointer (some ⟨p, 0, none⟩)] w fun e w' => e = .returned (.tuple #[.int .u64 ((tkH X : Nat) : Int), .int .i64 (tkE X)]) ∧ Own (Arena p (tkA X) :: l) w' := by
  obtain ⟨s, ⟨sv, bv, hl, hs⟩, hb, K⟩ := h.open
  have hf := ho.fit (by omega)
  unfold tkH tkE tkA
  by_cases hu : X.used = X.room
  · rw [if_pos hu, if_pos hu, if_pos hu]
    refine (take_full p X sv bv w hl ho.r1 hu).mono ?_
    rintro e w' ⟨rfl, q, rfl⟩
    exact ⟨rfl, own_drewN h q⟩
  · rw [if_neg hu, if_neg hu, if_neg hu]
    have hlt : X.used < X.room := by have := ho.used_le; omega
    have fin : ∀ {e : Ending} {w' : World}, e = .returned (.tuple #[.int .u64 ((hdl (tk X) (tq X) : Nat) : Int), .int .i64 0]) ∧ Turned p sv bv w (tk X) w' →
        e = .returned (.tuple #[.int .u64 ((hdl (tk X) (tq X) : Nat) : Int), .int .i64 0]) ∧ Own (Arena p (tk X) :: l) w' := by
      rintro e w' ⟨rfl, sv', bv', hl', hst, hn⟩
      exact ⟨rfl, K (hst.mono (fun b hb => (hs b).2 hb)) (s' := foot p sv' bv') ⟨sv', bv', hl', fun _ => Iff.rfl⟩ (fun b hb => (hn b hb).imp (fun h => (hs b).2 h) id)⟩
    by_cases hbk : X.bk = []
    · have := ho.sum
      rw [hbk] at this
      exact (take_new p X sv bv w hl hf hlt hbk (by simp at this; omega)).mono (fun {e w'} => fin)
    · obtain ⟨m, hm⟩ : ∃ m, X.bk.length = m + 1 := ⟨X.bk.length - 1, by have := List.length_pos_iff.2 hbk; omega⟩
      have hmem : X.bk.getD m 0 ∈ X.bk := by
        have hlt : m < X.bk.length := by omega
        simp [List.getD, hlt]
      obtain ⟨q1, q2⟩ := (ho.mem _).1 hmem
      exact (take_back p X sv bv w hl hf hlt m _ hm rfl q1 q2).mono (fun {e w'} => fin)
theorem own_give {N p : Nat} {X : A} {l : List HP} {w : World} (h : Own (Arena p X :: l) w) (ho : Ok N X) (hN : N < 4294967294) (H : Nat) (hH : H < 18446744073709551616) :
    Calls Try.prog 60 #[.pointer (some ⟨p, 0, none⟩), .int .u64 H] w fun e w' => e = .returned (.int .i64 (gvE X H)) ∧ Own (Arena p (gvA X H) :: l) w' := by
  obtain ⟨s, ⟨sv, bv, hl, hs⟩, hb, K⟩ := h.open
  have hf := ho.fit (by omega)
  unfold gvE gvA
  by_cases hpb : pb X H = true
  · rw [if_pos hpb, if_pos hpb]
    obtain ⟨q, h1, h2, h3, _⟩ := pb_spec hpb
    obtain ⟨_, h4, _, _⟩ := give_spec ho q h2 h3
    have := ho.sum
    have := ho.len
    have := ho.r2
    rw [h1]
    refine (give_yes p X sv bv H q hH w hl hf hpb h1 h2 h4 (by omega) (by omega) (hf.bd q)).mono ?_
    rintro e w' ⟨rfl, sv', bv', hl', hst, hn⟩
    exact ⟨rfl, K (hst.mono (fun b hb => (hs b).2 hb)) (s' := foot p sv' bv') ⟨sv', bv', hl', fun _ => Iff.rfl⟩ (fun b hb => (hn b hb).imp (fun h => (hs b).2 h) id)⟩
  · rw [if_neg hpb, if_neg hpb]
    refine (give_not p X sv bv H hH w hl hf (by simpa using hpb)).mono ?_
    rintro e w' ⟨rfl, rfl⟩
    exact ⟨rfl, h⟩
theorem own_place {N p : Nat} {X : A} {l : List HP} {w : World} (h : Own (Arena p X :: l) w) (ho : Ok N X) (hN : N < 4294967294) (H : Nat) (hH : H < 18446744073709551616) :
    Calls Try.prog 53 #[.pointer (some ⟨p, 0, none⟩), .int .u64 H] w fun e w' => e = .returned (.tuple #[.int .i64 (pv X H), .bool (pb X H)]) ∧ w = w' := by
  obtain ⟨sv, bv, hl⟩ := own_lies h
  exact place_any p X sv bv H hH w hl (ho.fit (by omega))
theorem own_handle {N p : Nat} {X : A} {l : List HP} {w : World} (h : Own (Arena p X :: l) w) (ho : Ok N X) (hN : N < 4294967294) (q : Int) :
    Calls Try.prog 81 #[.pointer (some ⟨p, 0, none⟩), .int .i64 q] w fun e w' => e = .returned (.tuple #[.int .u64 (hv X q), .bool (hb X q)]) ∧ w = w' := by
  obtain ⟨sv, bv, hl⟩ := own_lies h
  exact handle_any p X sv bv q w hl (ho.fit (by omega))
end Go.Proofs.Ytkdmlpigkmlkmaa.Ar
--  DERIVED. Layer 4 (arena): what holds of the handles that were taken, plainly; no program in sight. 
set_option linter.unusedVariables false
set_option linter.unusedSimpArgs false
namespace Go.Proofs.Ytkdmlpigkmlkmaa.Ar
open Go.RowKit Go.Proofs.Ytkdmlpigkmlkmaa

theorem pb_at (X : A) (k q : Nat) (hq : q < X.st.length) (hl : X.st.length ≤ 65536) : pb X ((k * 4294967296 + q + 1 : Nat) : Int) = decide (X.st.getD q 0 = 2 * k + 1) := by
  have e : ((k * 4294967296 + q + 1 : Nat) : Int) % 4294967296 - 1 = (q : Int) := by omega
  unfold pb
  rw [e]
  have eh : hb X (q : Int) = decide (X.st.getD q 0 % 2 = 1) := by unfold hb; simp [hq]
  have ev : hv X (q : Int) = if X.st.getD q 0 % 2 = 1 then ((X.st.getD q 0 / 2 * 4294967296 + q + 1 : Nat) : Int) else 0 := by
    unfold hv hdl
    rw [eh, Int.toNat_natCast]
    by_cases h : X.st.getD q 0 % 2 = 1
    · rw [if_pos h, if_pos h, if_pos (decide_eq_true h)]
    · rw [if_neg h, if_neg h, if_neg (by rw [decide_eq_true_eq]; exact h)]
  rw [eh, ev]
  obtain ⟨n, hn⟩ : ∃ n, n = X.st.getD q 0 := ⟨_, rfl⟩
  rw [← hn]
  clear hn ev eh e
  by_cases h : n % 2 = 1
  · rw [if_pos h]
    by_cases h2 : n = 2 * k + 1
    · have : n / 2 = k := by omega
      rw [this, decide_eq_true h, decide_eq_true h2]
      simp
    · have h3 : ¬ ((n / 2 * 4294967296 + q + 1 : Nat) : Int) = ((k * 4294967296 + q + 1 : Nat) : Int) := by omega
      rw [decide_eq_true h, decide_eq_false h2, Bool.true_and, beq_eq_false_iff_ne]
      exact h3
  · have : ¬ n = 2 * k + 1 := by omega
    rw [decide_eq_false h, decide_eq_false this, Bool.false_and]
theorem count_set : ∀ (G : List Bool) (i : Nat), i < G.length → G.getD i true = false → (G.set i true).count false + 1 = G.count false
  | [], i, h, _ => by simp at h
  | g :: G, 0, h, e => by
    simp at e
    subst e
    simp
  | g :: G, i + 1, h, e => by
    have := count_set G i (by simpa using h) (by simpa using e)
    simp only [List.set_cons_succ, List.count_cons]
    omega
/-- T: all handles that were taken; G: which of them were given back -/
structure Inv (X : A) (T : List Nat) (G : List Bool) : Prop where
  len : T.length = G.length
  nd : T.Nodup
  each : ∀ (i h : Nat), T[i]? = some h → pb X (h : Int) = !(G.getD i true)
  code : ∀ (h : Nat), h ∈ T → ∃ k q, h = k * 4294967296 + q + 1 ∧ q < X.st.length ∧ 2 * k + 1 ≤ X.st.getD q 0
  cnt : X.used = G.count false
  all : ∀ q, q < X.st.length → X.st.getD q 0 % 2 = 1 → hdl X q ∈ T
  rm : X.room = 10
theorem inv_fresh (r : Nat) (hr : r = 10 := by rfl) : Inv (fresh r) [] [] := ⟨rfl, List.nodup_nil, by simp, by simp, rfl, fun q h => by simp [fresh] at h, hr⟩
theorem hdl_at {X : A} {q : Nat} (h : X.st.getD q 0 % 2 = 1) : hdl X q = X.st.getD q 0 / 2 * 4294967296 + q + 1 := by unfold hdl; rw [if_pos h]
theorem code_inj {k q k' q' : Nat} (h : k * 4294967296 + q + 1 = k' * 4294967296 + q' + 1) (hq : q < 65536) (hq' : q' < 65536) : k = k' ∧ q = q' := by omega
theorem inv_take {N : Nat} {X : A} {T : List Nat} {G : List Bool} (ho : Ok N X) (hi : Inv X T G) (hu : X.used < X.room) : Inv (tk X) (T ++ [hdl (tk X) (tq X)]) (G ++ [false]) := by
  obtain ⟨t, ho'⟩ := take_spec ho hu
  have hl : (tk X).st.length ≤ 65536 := Nat.le_trans ho'.len ho'.r2
  have hl0 : X.st.length ≤ 65536 := Nat.le_trans ho.len ho.r2
  have hodd : (tk X).st.getD (tq X) 0 % 2 = 1 := by rw [t.now]; have := t.was; omega
  have hq := t.q
  have eH := hdl_at hodd
  rw [t.now] at eH
  have was := t.was
  refine ⟨by simp [hi.len], ?_, fun i h hh => ?_, fun h hh => ?_, ?_, fun q hq ho => ?_, hi.rm⟩
  · rw [List.nodup_append]
    refine ⟨hi.nd, by simp, fun a ha b hb e => ?_⟩
    simp at hb
    subst hb
    obtain ⟨k, q, e1, e2, e3⟩ := hi.code a ha
    rw [e, eH] at e1
    obtain ⟨e4, e5⟩ := code_inj e1 (by omega) (by omega)
    subst e5
    omega
  · by_cases hlt : i < T.length
    · rw [List.getElem?_append_left hlt] at hh
      have h1 := hi.each i h hh
      have hg : (G ++ [false]).getD i true = G.getD i true := by simp [List.getD, List.getElem?_append_left (hi.len ▸ hlt)]
      rw [hg, ← h1]
      obtain ⟨k, q, rfl, e2, e3⟩ := hi.code h (List.mem_of_getElem? hh)
      rw [pb_at _ _ _ (Nat.lt_of_lt_of_le e2 t.old) hl, pb_at _ _ _ e2 hl0]
      by_cases e : q = tq X
      · subst e
        rw [t.now]
        have a1 : ¬ X.st.getD (tq X) 0 + 1 = 2 * k + 1 := by omega
        have a2 : ¬ X.st.getD (tq X) 0 = 2 * k + 1 := by omega
        simp only [a1, a2]
      · rw [t.other q e]
    · have : i < (T ++ [hdl (tk X) (tq X)]).length := (List.getElem?_eq_some_iff.1 hh).1
      simp at this
      obtain rfl : i = T.length := by omega
      simp at hh
      subst hh
      have hg : (G ++ [false]).getD T.length true = false := by rw [hi.len]; simp [List.getD]
      rw [hg, eH, pb_at _ _ _ hq hl, t.now, decide_eq_true (by omega)]
      rfl
  · rw [List.mem_append] at hh
    rcases hh with hh | hh
    · obtain ⟨k, q, e1, e2, e3⟩ := hi.code h hh
      refine ⟨k, q, e1, Nat.lt_of_lt_of_le e2 t.old, ?_⟩
      by_cases e : q = tq X
      · subst e; rw [t.now]; omega
      · rw [t.other q e]; exact e3
    · simp at hh
      subst hh
      exact ⟨_, _, eH, hq, by rw [t.now]; omega⟩
  · show X.used + 1 = _
    rw [List.count_append, hi.cnt]
    rfl
  · by_cases e : q = tq X
    · subst e
      simp
    · rw [t.other q e] at ho
      have hlt : q < X.st.length := by
        apply Decidable.byContradiction
        intro hn
        have : X.st.getD q 0 = 0 := by simp [List.getD, List.getElem?_eq_none (by omega : X.st.length ≤ q)]
        omega
      have := hi.all q hlt ho
      rw [List.mem_append]
      refine .inl ?_
      have e2 : hdl (tk X) q = hdl X q := by rw [hdl_at ho, hdl_at (by rw [t.other q e]; exact ho), t.other q e]
      rw [e2]
      exact this
/-- what the laws do to G when h was given back -/
def mark (T : List Nat) (h : Nat) (G : List Bool) : List Bool := (T.zip G).map fun x => x.2 || x.1 == h
theorem mark_len {T : List Nat} {G : List Bool} (h : Nat) (hl : T.length = G.length) : (mark T h G).length = G.length := by simp [mark, hl]
theorem mark_at {T : List Nat} {G : List Bool} (h : Nat) (hl : T.length = G.length) {i x : Nat} (hx : T[i]? = some x) : (mark T h G).getD i true = (G.getD i true || x == h) := by
  have hi : i < T.length := (List.getElem?_eq_some_iff.1 hx).1
  have hg : i < G.length := by omega
  have e : (T.zip G)[i]? = some (x, G[i]) := by
    rw [List.getElem?_zip_eq_some]
    exact ⟨hx, by simp [hg]⟩
  simp [mark, List.getD, e, hg]
theorem mark_set {T : List Nat} {G : List Bool} (h : Nat) (hl : T.length = G.length) (nd : T.Nodup) {i : Nat} (hi : T[i]? = some h) : mark T h G = G.set i true := by
  apply List.ext_getElem?
  intro j
  by_cases hj : j < T.length
  · have hx : T[j]? = some T[j] := by simp [hj]
    have h1 := mark_at h hl hx
    have hm : j < (mark T h G).length := by rw [mark_len h hl]; omega
    have hs : j < (G.set i true).length := by rw [List.length_set]; omega
    rw [List.getD_eq_getElem?_getD, List.getElem?_eq_getElem hm, List.getD_eq_getElem?_getD, List.getElem?_eq_getElem (by omega : j < G.length)] at h1
    simp only [Option.getD_some] at h1
    rw [List.getElem?_eq_getElem hm, List.getElem?_eq_getElem hs, h1]
    by_cases e : j = i
    · subst e
      rw [hx] at hi
      injection hi with hi
      simp [hi]
    · have : T[j] ≠ h := by
        intro he
        have hi' := (List.getElem?_eq_some_iff.1 hi)
        obtain ⟨hi1, hi2⟩ := hi'
        exact e ((List.getElem_inj nd).1 (he.trans hi2.symm))
      simp [List.getElem_set_ne (Ne.symm e), this]
  · rw [List.getElem?_eq_none (by rw [mark_len h hl]; omega), List.getElem?_eq_none (by rw [List.length_set]; omega)]
theorem inv_give {N : Nat} {X : A} {T : List Nat} {G : List Bool} (ho : Ok N X) (hi : Inv X T G) {h : Nat} (hp : pb X h = true) : Inv (gvA X h) T (mark T h G) ∧ h ∈ T := by
  obtain ⟨q, h1, h2, h3, h4⟩ := pb_spec hp
  have eA : gvA X h = gv X q := by unfold gvA; rw [if_pos hp, h1]; rfl
  obtain ⟨ho', hu, hg, hlen⟩ := give_spec ho q h2 h3
  have hmem : h ∈ T := by rw [h4]; exact hi.all q h2 h3
  obtain ⟨i0, hi0⟩ := List.mem_iff_getElem?.1 hmem
  have hl0 : X.st.length ≤ 65536 := Nat.le_trans ho.len ho.r2
  have e4 := h4
  rw [hdl_at h3] at e4
  rw [eA]
  refine ⟨⟨by rw [mark_len h hi.len]; exact hi.len, hi.nd, fun i x hx => ?_, fun x hx => ?_, ?_, fun j hj hjo => ?_, hi.rm⟩, hmem⟩
  · rw [mark_at h hi.len hx]
    have hb := hi.each i x hx
    obtain ⟨k, q', e1, e2, e3⟩ := hi.code x (List.mem_of_getElem? hx)
    rw [e1] at hb ⊢
    rw [pb_at _ _ _ e2 hl0] at hb
    rw [pb_at _ _ _ (by rw [hlen]; exact e2) (by rw [hlen]; exact hl0), hg]
    by_cases e : q' = q
    · subst e
      rw [if_pos rfl]
      have a1 : ¬ X.st.getD q' 0 + 1 = 2 * k + 1 := by omega
      by_cases ek : X.st.getD q' 0 = 2 * k + 1
      · have a2 : k * 4294967296 + q' + 1 = h := by rw [e4, ek]; omega
        rw [decide_eq_false a1, a2]
        simp
      · simp only [ek, decide_false] at hb
        have : G.getD i true = true := by
          cases hgi : G.getD i true
          · rw [hgi] at hb; simp at hb
          · rfl
        simp only [a1, decide_false, this, Bool.true_or, Bool.not_true]
    · rw [if_neg e]
      have a2 : ¬ k * 4294967296 + q' + 1 = h := by
        rw [e4]
        intro ee
        exact e (code_inj ee (by omega) (by omega)).2
      have a3 : (k * 4294967296 + q' + 1 == h) = false := by simp [a2]
      rw [a3, Bool.or_false]
      exact hb
  · obtain ⟨k, q', e1, e2, e3⟩ := hi.code x hx
    refine ⟨k, q', e1, by rw [hlen]; exact e2, ?_⟩
    rw [hg]
    split
    · rename_i e; subst e; omega
    · exact e3
  · have hb := hi.each i0 h hi0
    rw [hp] at hb
    have hgf : G.getD i0 true = false := by
      cases hgi : G.getD i0 true
      · rfl
      · rw [hgi] at hb
        exact absurd hb (by decide)
    rw [mark_set h hi.len hi.nd hi0]
    have := count_set G i0 (by have := (List.getElem?_eq_some_iff.1 hi0).1; have := hi.len; omega) hgf
    have hc := hi.cnt
    show X.used - 1 = _
    omega
  · rw [hlen] at hj
    rw [hg] at hjo
    by_cases e : j = q
    · subst e
      rw [if_pos rfl] at hjo
      omega
    · rw [if_neg e] at hjo
      have e2 : hdl (gv X q) j = hdl X j := by
        have : (gv X q).st.getD j 0 = X.st.getD j 0 := by rw [hg, if_neg e]
        rw [hdl_at hjo, hdl_at (by rw [this]; exact hjo), this]
      rw [e2]
      exact hi.all j hj hjo
end Go.Proofs.Ytkdmlpigkmlkmaa.Ar
