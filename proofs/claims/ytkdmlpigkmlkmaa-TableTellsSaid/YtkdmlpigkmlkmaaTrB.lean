/- DERIVED. Layer 6 (tree): contracts of less, side, hang, turn. -/
import Derived.Test.YtkdmlpigkmlkmaaTrA
import Derived.Deep.QuietTactic
import Derived.BigQuiet
import Derived.Deep.RegionHeld3
set_option linter.unusedVariables false
set_option linter.unusedSimpArgs false
set_option maxRecDepth 100000
namespace Go.Proofs.Ytkdmlpigkmlkmaa.Tr
open Go.RowKit Go.Proofs.Ytkdmlpigkmlkmaa Go.Proofs.Ytkdmlpigkmlkmaa.TreeP

section
variable {p g cap many room : Nat} {fr : Value} {S : TS} {w : World}
theorem TW.drewN (h : TW p g cap fr many room S w) (n : Nat) : TW p g cap fr many room S (w.drewN n) := ⟨h.obj, ownsRow_keep h.row (fun _ _ => rfl), h.ne⟩
theorem TW.drew (h : TW p g cap fr many room S w) : TW p g cap fr many room S w.drew := ⟨h.obj, ownsRow_keep h.row (fun _ _ => rfl), h.ne⟩
theorem TW.ext {w' : World} (h : TW p g cap fr many room S w) (k : Ext w w') : TW p g cap fr many room S w' := by
  refine ⟨k.heap h.obj, ownsRow_keep h.row (fun b hb => ?_), h.ne⟩
  exact Below.block k b ((h.row.lt b hb).2)
theorem less_any (a s b t : Int) (w : World) : Calls Try.prog 93 #[.agg #[.int .u64 a, .int .u64 s], .agg #[.int .u64 b, .int .u64 t]] w fun e w' => e = .returned (.bool (lt (a, s) (b, t))) ∧ Ext w w' := by
  by_cases h1 : a < b
  · have e1 : decide (a < b) = true := by simpa using h1
    have e : lt (a, s) (b, t) = true := by simp [lt, h1]
    rw [e]
    clear e
    go_enter Try.func93, Try.ntmps93
    go_wp2
    go_ret
    exact ⟨rfl, ((Ext.refl _).alloc _).alloc _⟩
  · have e1 : decide (a < b) = false := by simpa using h1
    by_cases h2 : a = b
    · subst h2
      have e : lt (a, s) (a, t) = decide (s < t) := by simp [lt]
      rw [e]
      clear e
      obtain ⟨B, hB⟩ : ∃ B, B = decide (s < t) := ⟨_, rfl⟩
      rw [← hB]
      have hB' := hB.symm
      clear hB
      go_enter Try.func93, Try.ntmps93
      go_wp2
      go_ret
      exact ⟨rfl, ((Ext.refl _).alloc _).alloc _⟩
    · have e2 : (a == b) = false := by simp [h2]
      have e : lt (a, s) (b, t) = false := by simp [lt, h1, h2]
      rw [e]
      clear e
      go_enter Try.func93, Try.ntmps93
      go_wp2
      go_ret
      exact ⟨rfl, ((Ext.refl _).alloc _).alloc _⟩
theorem side_any (h : TW p g cap fr many room S w) (x : Nat) (hx : x < S.n.length) (hu : (S.nd x).up < S.n.length) :
    Calls Try.prog 104 #[.pointer (some ⟨p, 0, none⟩), .int .i64 x] w fun e w' => e = .returned (.int .i64 ((dn (side S x) : Nat) : Int)) ∧ ∃ n, w' = w.drewN n := by
  have c0 := h.c0
  have cu := h.up hx
  have ck := h.k0 hu
  obtain ⟨u, hu'⟩ : ∃ u, u = (S.nd x).up := ⟨_, rfl⟩
  obtain ⟨k, hk⟩ : ∃ k, k = (S.nd u).k0 := ⟨_, rfl⟩
  have es : side S x = !(k == x) := by unfold side; rw [← hu', ← hk]
  rw [← hu'] at cu ck hu
  rw [← hk] at ck
  obtain ⟨N, hN⟩ : ∃ N, N = S.n.length := ⟨_, rfl⟩
  rw [← hN] at c0 hx hu
  have x1 : (x : Int) < N := by omega
  have u1 : (u : Int) < N := by omega
  have HN := Lib.hid hN
  have HU := Lib.hid hu'
  have HK := Lib.hid hk
  clear hN hu' hk
  by_cases e : k = x
  · subst e
    rw [show side S k = false from by rw [es]; simp]
    clear es
    go_enter Try.func104, Try.ntmps104
    go_wp2_with fail
    go_quiet (fail)
    go_wp2
    go_ret
    exact ⟨rfl, _, rfl⟩
  · rw [show side S x = true from by rw [es]; simp [e]]
    have e1 : ((k : Int) == (x : Int)) = false := by simp; omega
    clear es
    go_enter Try.func104, Try.ntmps104
    go_wp2_with fail
    go_quiet (fail)
    go_wp2
    go_ret
    exact ⟨rfl, _, rfl⟩
end
end Go.Proofs.Ytkdmlpigkmlkmaa.Tr
