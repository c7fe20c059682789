/- DERIVED. Layer 7 (walk): keys that came in; Of of them; Take of no tree. -/
import Derived.Test.YtekdahppacghbabWkF
import Derived.Test.YtekdahppacghbabArgs
import Derived.Deep.Strs
import Derived.Lib.SmallJoins
set_option linter.unusedVariables false
set_option linter.unusedSimpArgs false
set_option maxRecDepth 100000
namespace Go.Proofs.Ytekdahppacghbab.Wk
open Go.RowKit Go.Proofs.Ytekdahppacghbab Go.Proofs.Ytekdahppacghbab.TreeP Go.Proofs.Ytekdahppacghbab.Tr Go.WideShapes Go.ChangeShapes Go.ChangeAt

def kc (k : Key) : Nat → Value
  | 0 => .int .u64 k.1
  | _ => .int .u64 k.2
def InK (k : Key) : Prop := (0 ≤ k.1 ∧ k.1 < 18446744073709551616) ∧ 0 ≤ k.2 ∧ k.2 < 18446744073709551616
/-- n keys -/
def KOps (W : World) (v : Value) (n : Nat) (f : Nat → Key) : Prop :=
  (∀ i, i < n → InK (f i)) ∧ ∃ a cap, v = .slice a n cap ∧ n ≤ cap ∧ cap ≤ maxLen ∧ (0 < n → ∃ b off, a = some ⟨b, off, none⟩ ∧ b < W.heap.size ∧ ∀ i c, i < n → c < 2 → W.cell? ⟨b, off + i * 2 + c, none⟩ = some (kc (f i) c))
def KOps2 (W : World) (v : Value) (x : Nat × (Nat → Key)) : Prop := KOps W v x.1 x.2
section
variable {H : Type} {enc : TypeId × Value → H} {w : World}
theorem keys_of {v : Value} {d : DataW H} {ps : List MemPlace} (hv : ∃ a len cap, v = .slice a len cap)
    (h : DataW.Trod enc Try.prog w 0 (fun _ => true) true 42 v d ps) : ∃ x, KOps2 w v x := by
  obtain ⟨n, C, ⟨a, cap, hv', h1, h2, h3⟩, h4⟩ := came_of (P := Try.prog) (sz := 2) Try.underlying42 (by kernel_rfl) (by omega) hv h
  have hz : ∀ i, i < n → ∃ k : Key, (C i 0 = .int .u64 k.1 ∧ C i 1 = .int .u64 k.2) ∧ InK k := by
    intro i hi
    obtain ⟨m, x, hx⟩ := h4 i hi
    obtain ⟨b0, b1, k', _, _, s0, s1⟩ := trod_struct2 Try.underlying24 hx
    have e30 : Try.prog.cellsOf 22 = 1 := by kernel_rfl
    simp only [e30, List.range_succ, List.range_zero, List.nil_append, List.cons_append, List.map_cons, List.map_nil, List.drop_zero, List.drop_succ_cons, List.take_succ_cons, List.take_zero] at s0 s1
    obtain ⟨z1, g1, _, w1⟩ := DataW.trod_int Try.underlying22 s0
    obtain ⟨z2, g2, _, w2⟩ := DataW.trod_int Try.underlying22 s1
    simp only [List.cons.injEq, and_true] at g1 g2
    have c1 := u64_bd w1
    have c2 := u64_bd w2
    exact ⟨(z1, z2), ⟨g1, g2⟩, ⟨c1.1, by simp only; omega⟩, c2.1, by simp only; omega⟩
  obtain ⟨f, hf⟩ := Deep.choose_lt (α := Key) (p := fun i k => (C i 0 = .int .u64 k.1 ∧ C i 1 = .int .u64 k.2) ∧ InK k) hz
  refine ⟨(n, f), fun i hi => (hf i hi).2, a, cap, hv', h1, h2, fun hp => ?_⟩
  obtain ⟨b, off, rfl, hb, hcell⟩ := h3 hp
  refine ⟨b, off, rfl, hb, fun i c hi hc => ?_⟩
  obtain ⟨k0, k1⟩ := (hf i hi).1
  have := hcell i c hi hc
  rcases c with _ | _ | c
  · rw [k0] at this; exact this
  · rw [k1] at this; exact this
  · omega
end
theorem nn_of {n : Nat} {f : Nat → Key} (h : ∀ i, i < n → InK (f i)) : ∀ k, k ≤ n → ∀ e ∈ ofP f k, InK e.1 ∧ 0 ≤ e.2 ∧ e.2 < (k : Int)
  | 0, _, e, he => by simp [ofP] at he
  | k + 1, hk, e, he => by
    have ih := nn_of h k (by omega)
    have hc : ∀ e ∈ ofP f k, InK e.1 ∧ 0 ≤ e.2 ∧ e.2 < ((k + 1 : Nat) : Int) := fun e he => by have := ih e he; exact ⟨this.1, this.2.1, by omega⟩
    rw [ofP] at he
    unfold Tr.putT at he
    split at he
    · exact hc e he
    · split at he
      · exact hc e he
      · unfold ins at he
        rw [List.mem_append, List.mem_cons] at he
        rcases he with he | rfl | he
        · exact hc e (List.mem_filter.1 he).1
        · exact ⟨h k (by omega), by simp only; omega, by simp only; omega⟩
        · exact hc e (List.mem_filter.1 he).1
theorem nn_ofP {n : Nat} {f : Nat → Key} (h : ∀ i, i < n → InK (f i)) {k : Nat} (hk : k ≤ n) : Nn (ofP f k) := fun e he => ⟨(nn_of h k hk e he).1.1.1, (nn_of h k hk e he).1.2.1⟩
/-- Of the keys that came in -/
theorem of_ops {l : List HP} {w W0 : World} {v : Value} {n : Nat} {f : Nat → Key} (ho : KOps W0 v n f) (h : Own l w) (hold : Old W0 ∈ l) :
    Calls Try.prog 9 #[v] w fun e w' => ∃ (p : Nat) (v' : Value), e = .returned (.tuple #[.pointer (some ⟨p, 0, none⟩), .agg #[v', .int .i64 60]]) ∧ Own (Tree p 60 (ofP f (min n 60)) :: RR v' (ofP f (min n 60)) :: l) w' := by
  obtain ⟨hs, a, cap, rfl, h1, h2, h3⟩ := ho
  refine of_any a cap n f h1 h2 (fun hp => ?_) h
  obtain ⟨b, off, rfl, hb, hcell⟩ := h3 hp
  refine ⟨b, off, rfl, fun X w' hw i hi => ?_⟩
  have hx := hw.ext (List.mem_append_right X hold)
  exact ⟨hx.cell (hcell i 0 hi (by omega)), hx.cell (hcell i 1 hi (by omega))⟩
end Go.Proofs.Ytekdahppacghbab.Wk
