/- DERIVED. Layer 7 (walk): contracts at known trees; the chapter's examples. -/
import Derived.Test.YtekdahppacghbabWkF
set_option linter.unusedVariables false
set_option linter.unusedSimpArgs false
set_option maxRecDepth 100000
namespace Go.Proofs.Ytekdahppacghbab.Wk
open Go.RowKit Go.Proofs.Ytekdahppacghbab Go.Proofs.Ytekdahppacghbab.TreeP Go.Proofs.Ytekdahppacghbab.Tr

section
variable {p room : Nat} {E M : List En} {l : List HP} {w : World}
theorem own_from' {x s n : Int} (hr : RisingE E) (hE : E.length ≤ 60000) (hn : n < 9223372036854775808) (hM : (fromL E (x, s)).take n.toNat = M) (h : Own (Tree p room E :: l) w) :
    Calls Try.prog 11 #[.pointer (some ⟨p, 0, none⟩), Tr.key x s, .int .i64 n] w fun e w' => ∃ v, e = .returned v ∧ Own (RE v M :: Tree p room E :: l) w' := by
  have := own_from (lk_tree p room E hr) hE x s n hn h
  rw [hM] at this
  exact this
theorem own_upto' {at' n : Int} (hr : RisingE E) (hb : Nn E) (hE : E.length ≤ 60000) (hn : n < 9223372036854775808) (hM : (uptoL E at').take n.toNat = M) (h : Own (Tree p room E :: l) w) :
    Calls Try.prog 12 #[.pointer (some ⟨p, 0, none⟩), .int .u64 at', .int .i64 n] w fun e w' => ∃ v, e = .returned v ∧ Own (RE v M :: Tree p room E :: l) w' := by
  have := own_upto (lk_tree p room E hr) hE at' n hn h
  rw [upto_some hr hb, hM] at this
  exact this
theorem own_take' {at' n : Int} {E' : List En} (hr : RisingE E) (hb : Nn E) (hE : E.length ≤ 60000) (hn : n < 9223372036854775808) (hM : (uptoL E at').take n.toNat = M) (hE' : E.drop M.length = E') (h : Own (Tree p room E :: l) w) :
    Calls Try.prog 13 #[.pointer (some ⟨p, 0, none⟩), .int .u64 at', .int .i64 n] w fun e w' => ∃ v, e = .returned v ∧ Own (RE v M :: Tree p room E' :: l) w' := by
  have := own_take hr hb hE at' n hn h
  rw [hM, hE'] at this
  exact this
theorem own_sweep' {x s n kx ks : Int} (hr : RisingE E) (hb : Nn E) (hE : E.length ≤ 60000) (hn0 : -9223372036854775808 ≤ n) (hn : n < 9223372036854775808) (hM : sweepL E (x, s) n.toNat = M) (h1 : (M.getLast?.map (·.1.1)).getD x = kx) (h2 : (M.getLast?.map (·.1.2)).getD s = ks) (h : Own (Tree p room E :: l) w) :
    Calls Try.prog 10 #[.pointer (some ⟨p, 0, none⟩), Tr.key x s, .int .i64 n] w fun e w' => ∃ v, e = .returned (.tuple #[v, Tr.key kx ks]) ∧ Own (RE v M :: Tree p room E :: l) w' := by
  have := own_sweep (lk_tree p room E hr) hb hE x s n hn0 hn h
  rw [hM, h1, h2] at this
  exact this
end
abbrev E0 : List En := [((1, 0), 0), ((3, 0), 1), ((5, 0), 2)]
def f0 (i : Nat) : Key := if i = 0 then (1, 0) else if i = 1 then (3, 0) else (5, 0)
theorem ofP0 : ofP f0 (min 3 60) = E0 := by decide
theorem rise0 : RisingE E0 := by unfold RisingE; decide
theorem nn0 : Nn E0 := by unfold Nn; decide
abbrev B6 (b : Nat) : HP := Go.Proofs.Ytekdahppacghbab.Blk b #[.int .u64 1, .int .u64 0, .int .u64 3, .int .u64 0, .int .u64 5, .int .u64 0] 24
theorem b6_keys {X : List HP} {b : Nat} {l : List HP} {w : World} (h : Own (X ++ B6 b :: l) w) (i : Nat) (hi : i < 3) : w.cell? ⟨b, 0 + i * 2, none⟩ = some (.int .u64 (f0 i).1) ∧ w.cell? ⟨b, 0 + i * 2 + 1, none⟩ = some (.int .u64 (f0 i).2) := by
  have hb := Go.Proofs.Ytekdahppacghbab.Own.blk h (b := b) (cs := #[.int .u64 1, .int .u64 0, .int .u64 3, .int .u64 0, .int .u64 5, .int .u64 0]) (t := 24) (by simp)
  rcases i with _ | _ | _ | i
  · simp [World.cell?, hb, f0]
  · simp [World.cell?, hb, f0]
  · simp [World.cell?, hb, f0]
  · omega
abbrev BL (b : Nat) (cs : Array Value) : HP := Go.Proofs.Ytekdahppacghbab.Blk b cs 49
theorem lit_row {l : List HP} {w : World} {b n : Nat} {cs : Array Value} {M : List En} (h : Own l w) (hm : BL b cs ∈ l) (hc : cs.toList = Tr.ents M) (hn : M.length = n) (hl : n ≤ 1000) : w.ownsRow 0 49 3 (.slice (some ⟨b, 0, none⟩) n n) n (Tr.ents M) := by
  have hb := Go.Proofs.Ytekdahppacghbab.Own.blk h hm
  subst hn
  refine ⟨by rw [ents_len], .inr ⟨b, M.length, cs, rfl, Nat.zero_le _, hb, Nat.le_refl _, by simp only [maxLen]; omega, by rw [← Array.length_toList, hc, ents_len], ?_⟩⟩
  rw [hc, List.take_of_length_le (by simp [ents_len])]
theorem same_lit {L : List HP} {w : World} {v : Value} {b n : Nat} {cs : Array Value} {M : List En} (h : Own (RE v M :: BL b cs :: L) w) (hc : cs.toList = Tr.ents M) (hn : M.length = n) (hl : n ≤ 1000) :
    Calls Try.prog 16 #[v, .slice (some ⟨b, 0, none⟩) n n] w fun e w' => e = .returned (.bool true) ∧ Ext w w' := by
  have := same_any v (.slice (some ⟨b, 0, none⟩) n n) M.length n M M w rfl hn (ownsR_of h.row) (ownsR_of (lit_row h (by simp) hc hn hl)) (by omega) (by omega)
  rw [show decide (M = M) = true from by simp] at this
  exact this
/-- 'Same' of a row and a literal that was laid ahead of it -/
theorem sameA {T : HP} {l : List HP} {w : World} {v : Value} {b n : Nat} {cs : Array Value} {M : List En} (h : Own (RE v M :: T :: BL b cs :: l) w) (hc : cs.toList = Tr.ents M) (hn : M.length = n) (hl : n ≤ 1000) :
    Calls Try.prog 16 #[v, .slice (some ⟨b, 0, none⟩) n n] w fun e w' => e = .returned (.bool true) ∧ Own (T :: l) w' :=
  (same_lit (h.tail OwnIn.swap) hc hn hl).mono fun e w2 ⟨he, hx⟩ => ⟨he, ((h.step hx).tail OwnIn.swap).drop.drop⟩
/-- and behind it -/
theorem sameB {l : List HP} {w : World} {v : Value} {n : Nat} {cs : Array Value} {M : List En} (h : Own (RE v M :: l) w) (hc : cs.toList = Tr.ents M) (hn : M.length = n) (hl : n ≤ 1000) :
    Calls Try.prog 16 #[v, .slice (some ⟨w.heap.size, 0, none⟩) n n] (w.alloc (.cells cs 49)) fun e w' => e = .returned (.bool true) ∧ Own l w' :=
  (same_lit (Own.swap (Go.Proofs.Ytekdahppacghbab.Own.blkNew h cs 49)) hc hn hl).mono fun e w2 ⟨he, hx⟩ => ⟨he, (((Go.Proofs.Ytekdahppacghbab.Own.blkNew h cs 49).step hx).drop.drop)⟩
/-- of a row that stays -/
theorem sameC {l : List HP} {w : World} {v : Value} {n : Nat} {cs : Array Value} {M : List En} (hm : ∃ l2, l.Perm (RE v M :: l2)) (h : Own l w) (hc : cs.toList = Tr.ents M) (hn : M.length = n) (hl : n ≤ 1000) :
    Calls Try.prog 16 #[v, .slice (some ⟨w.heap.size, 0, none⟩) n n] (w.alloc (.cells cs 49)) fun e w' => e = .returned (.bool true) ∧ Own l w' := by
  obtain ⟨l2, hp⟩ := hm
  have h1 := Go.Proofs.Ytekdahppacghbab.Own.blkNew h cs 49
  exact (same_lit (h1.perm (hp.cons _)).swap hc hn hl).mono fun e w2 ⟨he, hx⟩ => ⟨he, (h1.step hx).drop⟩
theorem own_len' {p room n : Nat} {E : List En} {l : List HP} {w : World} (h : Own (Tree p room E :: l) w) (hn : E.length = n) :
    Calls Try.prog 33 #[.pointer (some ⟨p, 0, none⟩)] w fun e w' => e = .returned (.int .i64 (n : Int)) ∧ w = w' := by
  subst hn
  exact own_len h
theorem c35 : (#[.int .u64 3, .int .u64 0, .int .i64 1, .int .u64 5, .int .u64 0, .int .i64 2] : Array Value).toList = Tr.ents [((3, 0), 1), ((5, 0), 2)] := rfl
theorem nc35 : ([((3, 0), 1), ((5, 0), 2)] : List En).length = 2 := rfl
theorem c13 : (#[.int .u64 1, .int .u64 0, .int .i64 0, .int .u64 3, .int .u64 0, .int .i64 1] : Array Value).toList = Tr.ents [((1, 0), 0), ((3, 0), 1)] := rfl
theorem nc13 : ([((1, 0), 0), ((3, 0), 1)] : List En).length = 2 := rfl
theorem cx1 : (#[.int .u64 1, .int .u64 0, .int .i64 0] : Array Value).toList = Tr.ents [((1, 0), 0)] := rfl
theorem nc1 : ([((1, 0), 0)] : List En).length = 1 := rfl
theorem c51 : (#[.int .u64 5, .int .u64 0, .int .i64 2, .int .u64 1, .int .u64 0, .int .i64 0] : Array Value).toList = Tr.ents [((5, 0), 2), ((1, 0), 0)] := rfl
theorem nc51 : ([((5, 0), 2), ((1, 0), 0)] : List En).length = 2 := rfl
theorem c135 : (#[.int .u64 1, .int .u64 0, .int .i64 0, .int .u64 3, .int .u64 0, .int .i64 1, .int .u64 5, .int .u64 0, .int .i64 2] : Array Value).toList = Tr.ents [((1, 0), 0), ((3, 0), 1), ((5, 0), 2)] := rfl
theorem nc135 : ([((1, 0), 0), ((3, 0), 1), ((5, 0), 2)] : List En).length = 3 := rfl
theorem le2 : 2 ≤ 1000 := by omega
theorem le1 : 1 ≤ 1000 := by omega
theorem le3 : 3 ≤ 1000 := by omega
end Go.Proofs.Ytekdahppacghbab.Wk
