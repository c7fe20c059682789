/- DERIVED. Layer 6 (tree): contracts of entry, Get, First, Next. -/
import Derived.Test.YtekdahppacghbabTrF
import Derived.Test.YtekdahppacghbabOwn
import Derived.BigRegion
set_option linter.unusedVariables false
set_option linter.unusedSimpArgs false
set_option maxRecDepth 100000
namespace Go.Proofs.Ytekdahppacghbab.Tr
open Go.RowKit Go.Proofs.Ytekdahppacghbab Go.Proofs.Ytekdahppacghbab.TreeP

section
variable {p g cap many room : Nat} {fr : Value} {S : TS} {w : World}
abbrev ent (a s v : Int) : Value := .agg #[.int .u64 a, .int .u64 s, .int .i64 v]
theorem entry_none (p : Nat) (w : World) : Calls Try.prog 38 #[.pointer (some ⟨p, 0, none⟩), .int .i64 0] w fun e w' => e = .returned (.tuple #[ent 0 0 0, .bool false]) ∧ Ext w w' := by
  go_enter Try.func38, Try.ntmps38
  go_wp2
  exact bodyPost_ret (v := .tuple #[ent 0 0 0, .bool false]) (by simp [results, Try.results38, go_sem]) rfl ⟨rfl, (Ext.refl _).alloc _⟩
theorem entry_some (h : TW p g cap fr many room S w) (x : Nat) (hx : x < S.n.length) (hx0 : x ≠ 0) :
    Calls Try.prog 38 #[.pointer (some ⟨p, 0, none⟩), .int .i64 x] w fun e w' => e = .returned (.tuple #[ent (S.nd x).a (S.nd x).s (S.nd x).v, .bool true]) ∧ Ext w w' := by
  have h' := h.ext ((Ext.refl w).alloc (.cells #[.int .u64 0, .int .u64 0, .int .i64 0] 49))
  have c0 := h'.c0
  have ca := h'.a hx
  have cs := h'.s hx
  have cv := h'.v hx
  clear h'
  obtain ⟨a, ea⟩ : ∃ a, a = (S.nd x).a := ⟨_, rfl⟩
  obtain ⟨s, es⟩ : ∃ s, s = (S.nd x).s := ⟨_, rfl⟩
  obtain ⟨v, ev⟩ : ∃ v, v = (S.nd x).v := ⟨_, rfl⟩
  obtain ⟨N, hN⟩ : ∃ N, N = S.n.length := ⟨_, rfl⟩
  rw [← ea] at ca
  rw [← es] at cs
  rw [← ev] at cv
  rw [← hN] at c0 hx
  rw [← ea, ← es, ← ev]
  have x1 : (x : Int) < N := by omega
  have x2 : ((x : Int) == 0) = false := by simp; omega
  have hp : p ≠ w.heap.size := by
    have := (Array.getElem?_eq_some_iff.1 h.obj).1
    omega
  have hg : g ≠ w.heap.size := by
    have := (h.row.lt g rfl).2
    omega
  have hp' := Ne.symm hp
  have hg' := Ne.symm hg
  clear ea es ev hN h hx0
  go_enter Try.func38, Try.ntmps38
  go_wp2_with fail
  go_region
  go_wp2_with fail
  exact bodyPost_ret (v := .tuple #[ent a s v, .bool true]) (by simp [results, Try.results38, go_sem]) rfl ⟨rfl, ((Ext.refl _).alloc _).drew⟩
theorem entry_any (h : TW p g cap fr many room S w) (h0 : S.nd 0 = Nd.zero) (x : Nat) (hx : x < S.n.length) :
    Calls Try.prog 38 #[.pointer (some ⟨p, 0, none⟩), .int .i64 x] w fun e w' => e = .returned (.tuple #[ent (S.nd x).a (S.nd x).s (S.nd x).v, .bool (!(x == 0))]) ∧ Ext w w' := by
  by_cases hx0 : x = 0
  · subst hx0
    rw [h0]
    exact entry_none p w
  · have e : (!(x == 0)) = true := by simp [hx0]
    rw [e]
    exact entry_some h x hx hx0
theorem get_any (h : TW p g cap fr many room S w) (hr : Rng S) (a s : Int) (z l : Nat) (hf : ∃ k, TreeP.find k S (a, s) S.root 0 = some (z, l)) (hz : z < S.n.length) :
    Calls Try.prog 48 #[.pointer (some ⟨p, 0, none⟩), .agg #[.int .u64 a, .int .u64 s]] w fun e w' => e = .returned (.tuple #[.int .i64 (if z = 0 then 0 else (S.nd z).v), .bool (!(z == 0))]) ∧ Ext w w' := by
  have e1 := (Ext.refl w).alloc (.cells #[.int .u64 a, .int .u64 s] 24)
  have HF := Lib.hid (find_any (h.ext e1) hr a s (z, l) hf)
  have HT := Lib.hid (h.ext e1)
  have E1 := Lib.hid e1
  obtain ⟨N, hN⟩ : ∃ N, N = S.n.length := ⟨_, rfl⟩
  by_cases hz0 : z = 0
  · subst hz0
    clear h e1 hf hN hz
    go_enter Try.func48, Try.ntmps48
    go_wp2_with (first
      | (go_at_call 36; refine (no_any HT.out).mono ?_; rintro e w' ⟨rfl, rfl⟩)
      | (go_at_call 40; refine (HF.out).mono ?_; rintro e w2 ⟨rfl, h2, hx2⟩))
    go_ret2
    exact ⟨by simp, E1.out.trans hx2⟩
  · have z2 : ((z : Int) == 0) = false := by simp; omega
    have e0 : (z == 0) = false := by simp [hz0]
    rw [← hN] at hz
    have z1 : (z : Int) < N := by omega
    have HN := Lib.hid hN
    have HZ := Lib.hid hz0
    rw [if_neg hz0, e0]
    obtain ⟨v, ev⟩ : ∃ v, v = (S.nd z).v := ⟨_, rfl⟩
    rw [← ev]
    have EV := Lib.hid ev
    clear h e1 hf hN ev hz0 e0
    go_enter Try.func48, Try.ntmps48
    go_wp2_with (first
      | (go_at_call 36; refine (no_any HT.out).mono ?_; rintro e w' ⟨rfl, rfl⟩)
      | (go_at_call 40; refine (HF.out).mono ?_; rintro e w2 ⟨rfl, h2, hx2⟩; have c0 := h2.c0; rw [← HN.out] at c0; have cv := h2.v (i := z) (by rw [← HN.out]; exact hz); rw [← EV.out] at cv; clear h2))
    go_ret2
    exact ⟨rfl, E1.out.trans hx2⟩
/-- a new block of three cells, and what lies behind -/
theorem three {w w2 : World} {a b c : Value} {t : TypeId} (k : Ext (w.alloc (.cells #[a, b, c] t)) w2) :
    w2.cell? ⟨w.heap.size, 0, none⟩ = some a ∧ w2.cell? ⟨w.heap.size, 1, none⟩ = some b ∧ w2.cell? ⟨w.heap.size, 2, none⟩ = some c ∧ w2.frozen? ⟨w.heap.size, 0, none⟩ = false ∧ w2.frozen? ⟨w.heap.size, 1, none⟩ = false ∧ w2.frozen? ⟨w.heap.size, 2, none⟩ = false := by
  have hb := k.heap (heap_alloc_new w (.cells #[a, b, c] t))
  simp [World.cell?, World.frozen?, hb]
def LMF (N : Nat) (S : TS) (yf : Nat) (y : Value) (k : Nat) : Prop := ∃ y' : Nat, y = .int .i64 (y' : Int) ∧ y' < N ∧ TreeP.leftmost k S y' = some yf
open Classical in
end
end Go.Proofs.Ytekdahppacghbab.Tr
