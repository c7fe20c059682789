/- DERIVED. Layer 10 (store): packets that came in; the law StoreOnce. -/
import Derived.Test.YtekdgghekdajbaaStF
import Derived.Test.YtekdgghekdajbaaPkt
set_option linter.unusedVariables false
set_option linter.unusedSimpArgs false
set_option maxRecDepth 100000
namespace Go.Proofs.Ytekdgghekdajbaa.St
open Go.RowKit Go.Proofs.Ytekdgghekdajbaa Go.Proofs.Ytekdgghekdajbaa.Ar Go.WideShapes Go.ChangeShapes

/-- a packet that came in -/
structure Pk where
  k : Int
  c : Int
  len : Int
  pr : Int
  at_ : Int
instance : Inhabited Pk := ⟨⟨0, 0, 0, 0, 0⟩⟩
def pc (o : Pk) : Nat → Value
  | 0 => .int .u64 o.k
  | 1 => .int .u64 o.c
  | 2 => .int .i64 o.len
  | 3 => .int .u8 o.pr
  | _ => .int .u64 o.at_
def Pks (W : World) (v : Value) (x : Nat × (Nat → Pk)) : Prop :=
  ∃ a cap, v = .slice a x.1 cap ∧ x.1 ≤ cap ∧ cap ≤ maxLen ∧ (0 < x.1 → ∃ b off, a = some ⟨b, off, none⟩ ∧ b < W.heap.size ∧ ∀ i c, i < x.1 → c < 5 → W.cell? ⟨b, off + i * 5 + c, none⟩ = some (pc (x.2 i) c))
theorem trod_packet {H : Type} {enc : TypeId × Value → H} {w : World} {base n : Nat} {spare : Nat → Bool} {held : Bool} {C : Nat → Value} {y : DataW H × List MemPlace}
    (h : DataW.trod enc Try.prog w base spare held n 69 [C 0, C 1, C 2, C 3, C 4] = some y) :
    ∃ o : Pk, C 0 = .int .u64 o.k ∧ C 1 = .int .u64 o.c ∧ C 2 = .int .i64 o.len ∧ C 3 = .int .u8 o.pr ∧ C 4 = .int .u64 o.at_ := by
  obtain ⟨xs, n, _, hx, _, hlen, hg⟩ := DataW.trod_struct Try.underlying69 h
  obtain ⟨y0, y1, y2, y3, y4, rfl⟩ := fiveL (show xs.length = 5 from hlen)
  have q8 : Try.prog.cellsOf 30 = 1 := by kernel_rfl
  have q3 : Try.prog.cellsOf 3 = 1 := by kernel_rfl
  have q5 : Try.prog.cellsOf 5 = 1 := by kernel_rfl
  obtain ⟨a0, e0, _⟩ := int_at (c := C 0) Try.underlying30 (by simpa [q8] using hg 0 _ rfl)
  obtain ⟨a1, e1, _⟩ := int_at (c := C 1) Try.underlying30 (by simpa [q8] using hg 1 _ rfl)
  obtain ⟨a2, e2, _⟩ := int_at (c := C 2) Try.underlying3 (by simpa [q3] using hg 2 _ rfl)
  obtain ⟨a3, e3, _⟩ := int_at (c := C 3) Try.underlying5 (by simpa [q5] using hg 3 _ rfl)
  obtain ⟨a4, e4, _⟩ := int_at (c := C 4) Try.underlying30 (by simpa [q8] using hg 4 _ rfl)
  exact ⟨⟨a0, a1, a2, a3, a4⟩, e0, e1, e2, e3, e4⟩
theorem pks_of {H : Type} {enc : TypeId × Value → H} {w : World} {v : Value} {d : DataW H} {ps : List MemPlace} (hv : ∃ a len cap, v = .slice a len cap)
    (h : DataW.Trod enc Try.prog w 0 (fun _ => true) true 64 v d ps) : ∃ x, Pks w v x := by
  obtain ⟨n, C, ⟨a, cap, hv', h1, h2, h3⟩, h4⟩ := came_of (P := Try.prog) (sz := 5) Try.underlying64 (by kernel_rfl) (by omega) hv h
  have hz : ∀ i, i < n → ∃ o : Pk, C i 0 = .int .u64 o.k ∧ C i 1 = .int .u64 o.c ∧ C i 2 = .int .i64 o.len ∧ C i 3 = .int .u8 o.pr ∧ C i 4 = .int .u64 o.at_ := by
    intro i hi
    obtain ⟨m, x, hx⟩ := h4 i hi
    exact trod_packet hx
  obtain ⟨f, hf⟩ := Deep.choose_lt (α := Pk) (p := fun i o => C i 0 = .int .u64 o.k ∧ C i 1 = .int .u64 o.c ∧ C i 2 = .int .i64 o.len ∧ C i 3 = .int .u8 o.pr ∧ C i 4 = .int .u64 o.at_) hz
  refine ⟨(n, f), a, cap, hv', h1, h2, fun hp => ?_⟩
  obtain ⟨b, off, rfl, hb, hcell⟩ := h3 hp
  refine ⟨b, off, rfl, hb, fun i c hi hc => ?_⟩
  obtain ⟨k0, k1, k2, k3, k4⟩ := hf i hi
  have := hcell i c hi hc
  rcases c with _ | _ | _ | _ | _ | c
  · rw [k0] at this; exact this
  · rw [k1] at this; exact this
  · rw [k2] at this; exact this
  · rw [k3] at this; exact this
  · rw [k4] at this; exact this
  · omega
end Go.Proofs.Ytekdgghekdajbaa.St
