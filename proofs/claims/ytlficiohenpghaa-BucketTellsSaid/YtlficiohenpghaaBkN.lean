/- DERIVED. Layer 13 (bucket): the document's buckets: contracts of Get, Put, Drop. -/
import Derived.Test.YtlficiohenpghaaBkI
set_option linter.unusedVariables false
set_option linter.unusedSimpArgs false
set_option maxRecDepth 100000
namespace Go.Proofs.Ytlficiohenpghaa.Bk
open Go.RowKit Go.Proofs.Ytlficiohenpghaa Go.Proofs.Ytlficiohenpghaa.TreeP Go.Proofs.Ytlficiohenpghaa.Tr

abbrev rs (bits room : Nat) (v : Value) : Value := .agg #[.int .i64 (bits : Int), .int .i64 (room : Int), v]
abbrev BS (b bits room : Nat) (v : Value) : HP := Go.Proofs.Ytlficiohenpghaa.Blk b #[.int .i64 (bits : Int), .int .i64 (room : Int), v] 51
abbrev RR (v : Value) (n : Nat) (R : List En) : HP := RowR 32 3 v n (Tr.ents R)
theorem bs_cells {l : List HP} {w : World} {b bits room : Nat} {v : Value} (h : Own l w) (hm : BS b bits room v ∈ l) :
    w.cell? ⟨b, 0, none⟩ = some (.int .i64 (bits : Int)) ∧ w.cell? ⟨b, 1, none⟩ = some (.int .i64 (room : Int)) ∧ w.cell? ⟨b, 2, none⟩ = some v ∧ w.frozen? ⟨b, 0, none⟩ = false ∧ w.frozen? ⟨b, 1, none⟩ = false ∧ w.frozen? ⟨b, 2, none⟩ = false := by
  have := Go.Proofs.Ytlficiohenpghaa.Own.blk h hm
  simp [World.cell?, World.frozen?, this]
/-- one entry of a row of the document's -/
theorem rentry {w : World} {a : Option Addr} {n c : Nat} {R : List En} {l : List HP} (h : Own (RR (.slice a n c) n R :: l) w) {k : Nat} {e : En} (hk : k < n) (he : R[k]? = some e) :
    ∃ g, a = some ⟨g, 0, none⟩ ∧ n ≤ c ∧ w.cell? ⟨g, k * 3, none⟩ = some (.int .u64 e.1.1) ∧ w.cell? ⟨g, k * 3 + 1, none⟩ = some (.int .u64 e.1.2) ∧ w.cell? ⟨g, k * 3 + 2, none⟩ = some (.int .i64 e.2) := by
  obtain ⟨g, cap, ev, h1, -⟩ := h.rowR.form (by omega)
  injection ev with e1 _ e3
  subst e1 e3
  obtain ⟨r0, r1, r2⟩ := rowEnt h.rowR he
  exact ⟨g, rfl, h1, r0, r1, r2⟩
theorem look_at {room : Nat} {R : List En} (h : RK room R) {e : En} (he : e ∈ R) : Tr.look R (e.1.1, 0) = some e.2 := look_mem h.rise (by
  have : ((e.1.1, 0), e.2) = e := Prod.ext (Prod.ext rfl (h.key e he).1.symm) rfl
  rw [this]; exact he)
theorem look_no {R : List En} {s : Int} (h : ∀ e ∈ R, e.1.1 ≠ s) : Tr.look R (s, 0) = none := Tr.look_none fun e he hq => h e he (congrArg Prod.fst hq)
def RgI (l : List HP) (n : Nat) (R : List En) (s : Int) (W : World) (vi : Value) (wr : World) : Prop :=
  ∃ k : Nat, vi = .int .i64 (k : Int) ∧ k ≤ n ∧ (∀ j e, j < k → R[j]? = some e → e.1.1 ≠ s) ∧ wr = W
theorem rget_any {v : Value} {n bits room r : Nat} {R : List En} {l : List HP} {w : World} (h : Own (RR v n R :: l) w) (hR : R.length = n) (bn : n ≤ 65536) (hk : RK r R) (s : Int) :
    Calls Try.prog 23 #[rs bits room v, .int .u64 s] w fun e w' => e = .returned (.tuple #[.int .i64 ((Tr.look R (s, 0)).getD 0), .bool (Tr.look R (s, 0)).isSome]) ∧ Own (RR v n R :: l) w' := by
  obtain ⟨va, vc, rfl⟩ := h.rowR.slice
  have h1 : Own (BS w.heap.size bits room (.slice va n vc) :: RR (.slice va n vc) n R :: l) (w.alloc (.cells #[.int .i64 (bits : Int), .int .i64 (room : Int), .slice va n vc] 51)) := Go.Proofs.Ytlficiohenpghaa.Own.blkNew h _ _
  obtain ⟨W, hW⟩ : ∃ W, w.alloc (.cells #[.int .i64 (bits : Int), .int .i64 (room : Int), .slice va n vc] 51) = W := ⟨_, rfl⟩
  obtain ⟨b, hb⟩ : ∃ b, b = w.heap.size := ⟨_, rfl⟩
  rw [hW, ← hb] at h1
  obtain ⟨c0, c1, c2, -, -, -⟩ := bs_cells h1 (.head _)
  obtain ⟨O, hO⟩ : ∃ O, O = Tr.look R (s, 0) := ⟨_, rfl⟩
  rw [← hO]
  have H1 := Lib.hid h1
  have HW := Lib.hid hW
  have HB := Lib.hid hb
  have HK := Lib.hid hk
  have HO := Lib.hid hO
  have HR := Lib.hid hR
  clear h h1 hW hb hk hO hR
  go_enter Try.func23, Try.ntmps23
  go_wp2_with fail
  rw [HW.out, ← HB.out]
  clear HW HB
  go_loopw [6] (fun vi wr => RgI l n R s W vi wr) (fun vi _ => n - (intOf vi).toNat)
  case atStart => exact ⟨0, rfl, Nat.zero_le _, fun j e hj => absurd hj (Nat.not_lt_zero j), rfl⟩
  case round =>
    obtain ⟨k, rfl, hk, hno, hwr⟩ := hrel
    obtain rfl : W = wr := hwr.symm
    by_cases hlt : k < n
    · have hltI : (k : Int) < (n : Int) := by omega
      obtain ⟨e, he⟩ : ∃ e, R[k]? = some e := ⟨_, List.getElem?_eq_getElem (by rw [HR.out]; exact hlt)⟩
      obtain ⟨g, rfl, gc, r0, r1, r2⟩ := rentry (H1.out.swap) hlt he
      by_cases hs : e.1.1 = s
      · have hl : O = some e.2 := by rw [HO.out, ← hs]; exact look_at HK.out (List.mem_of_getElem? he)
        subst hl
        rw [hs] at r0
        clear he hno hs
        go_wp2_with fail
        go_ret2
        exact ⟨rfl, H1.out.drop⟩
      · have hs1 : (e.1.1 == s) = false := by simp [hs]
        have HX : Hid (RgI l n R s W (.int .i64 ((k : Int) + 1)) W) := Lib.hid ⟨k + 1, by go_num, by omega, fun j e' hj he' => by
          by_cases hjk : j = k
          · subst hjk
            rw [he] at he'
            injection he' with he'
            rw [← he']; exact hs
          · exact hno j e' (by omega) he', rfl⟩
        clear he hno hs
        go_wp2_with fail
        exact ⟨HX.out, by simp [intOf]; omega⟩
    · obtain rfl : k = n := by omega
      have hl : O = none := by
        rw [HO.out]
        refine look_no fun e he => ?_
        obtain ⟨j, hj⟩ := List.getElem?_of_mem he
        exact hno j e (by have := (List.getElem?_eq_some_iff.1 hj).1; rw [HR.out] at this; exact this) hj
      subst hl
      clear hno hlt hk
      go_wp2_with fail
      go_ret2
      exact ⟨rfl, H1.out.drop⟩
end Go.Proofs.Ytlficiohenpghaa.Bk
