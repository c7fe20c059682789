/- DERIVED. Layer 6 (tree): contracts of Next, order, All. -/
import Derived.Test.YtekdahppacghbabTrK
set_option linter.unusedVariables false
set_option linter.unusedSimpArgs false
set_option maxRecDepth 100000
namespace Go.Proofs.Ytekdahppacghbab.Tr
open Go.RowKit Go.Proofs.Ytekdahppacghbab Go.Proofs.Ytekdahppacghbab.TreeP

def NI (p g cap : Nat) (fr : Value) (many room N : Nat) (S : TS) (kb : Nat) (a s : Int) (w0 : World) (y : Nat) (best x : Value) (wr : World) (k : Nat) : Prop :=
  ∃ x' b' : Nat, x = .int .i64 (x' : Int) ∧ best = .int .i64 (b' : Int) ∧ TW p g cap fr many room S wr ∧ Ext ((w0.alloc (.cells #[.int .u64 a, .int .u64 s] 24)).alloc (.cells #[.int .u64 0, .int .u64 0, .int .i64 0] 49)) wr ∧ x' < N ∧
    wr.cell? ⟨kb, 0, none⟩ = some (.int .u64 a) ∧ wr.cell? ⟨kb, 1, none⟩ = some (.int .u64 s) ∧ TreeP.nextN k S (a, s) x' b' = some y ∧ kb = w0.heap.size
section
variable {p g cap many room : Nat} {fr : Value} {S : TS} {w : World}
set_option maxHeartbeats 2000000 in
theorem next_any (h : TW p g cap fr many room S w) (hr : Rng S) (hz : S.nd 0 = Nd.zero) (a s : Int) (y : Nat) (hy : y < S.n.length) (hf : ∃ k, TreeP.nextN k S (a, s) S.root 0 = some y) :
    Calls Try.prog 46 #[.pointer (some ⟨p, 0, none⟩), .agg #[.int .u64 a, .int .u64 s]] w fun e w' => e = .returned (.tuple #[ent (S.nd y).a (S.nd y).s (S.nd y).v, .bool (!(y == 0))]) ∧ Ext w w' := by
  obtain ⟨kb, ekb⟩ : ∃ kb, kb = w.heap.size := ⟨_, rfl⟩
  have e1 := (Ext.refl w).alloc (.cells #[.int .u64 a, .int .u64 s] 24)
  have e2 := e1.alloc (.cells #[.int .u64 0, .int .u64 0, .int .i64 0] 49)
  have h2 := h.ext e2
  obtain ⟨N, hN⟩ : ∃ N, N = S.n.length := ⟨_, rfl⟩
  obtain ⟨rt, ert⟩ : ∃ rt, rt = S.root := ⟨_, rfl⟩
  have hrt : rt < N := by rw [ert, hN]; exact hr.root
  have c2 := h2.c2
  rw [← ert] at c2 hf
  have hkr : ∀ x, (S.nd x).k0 < N ∧ (S.nd x).k1 < N := fun x => by rw [hN]; exact ⟨hr.k0 x, hr.k1 x⟩
  have HK := Lib.hid hkr
  have HN := Lib.hid hN
  have HZ := Lib.hid hz
  have HKB := Lib.hid ekb
  have E2 := Lib.hid e2
  have b0 : ((w.alloc (.cells #[.int .u64 a, .int .u64 s] 24)).alloc (.cells #[.int .u64 0, .int .u64 0, .int .i64 0] 49)).cell? ⟨w.heap.size, 0, none⟩ = some (.int .u64 a) := ((Ext.refl _).alloc _).cell (by simp [World.cell?_alloc_new])
  have b1 : ((w.alloc (.cells #[.int .u64 a, .int .u64 s] 24)).alloc (.cells #[.int .u64 0, .int .u64 0, .int .i64 0] 49)).cell? ⟨w.heap.size, 1, none⟩ = some (.int .u64 s) := ((Ext.refl _).alloc _).cell (by simp [World.cell?_alloc_new])
  have H0 : Hid (∃ k, NI p g cap fr many room N S kb a s w y (.int .i64 0) (.int .i64 rt) ((w.alloc (.cells #[.int .u64 a, .int .u64 s] 24)).alloc (.cells #[.int .u64 0, .int .u64 0, .int .i64 0] 49)) k) := Lib.hid (by
    obtain ⟨k, hk⟩ := hf
    exact ⟨k, rt, 0, rfl, rfl, h2, Ext.refl _, hrt, by rw [ekb]; exact b0, by rw [ekb]; exact b1, hk, ekb⟩)
  have H := Lib.hid h2
  have HR := Lib.hid hr
  obtain ⟨ya, eya⟩ : ∃ a, a = (S.nd y).a := ⟨_, rfl⟩
  obtain ⟨ys, eys⟩ : ∃ s, s = (S.nd y).s := ⟨_, rfl⟩
  obtain ⟨yv, eyv⟩ : ∃ v, v = (S.nd y).v := ⟨_, rfl⟩
  obtain ⟨yb, eyb⟩ : ∃ b, b = (!(y == 0)) := ⟨_, rfl⟩
  rw [← eya, ← eys, ← eyv, ← eyb]
  rw [← hN] at hy
  have EA := Lib.hid eya
  have ES := Lib.hid eys
  have EV := Lib.hid eyv
  have EB := Lib.hid eyb
  clear hf ert hkr hN h hr hrt e1 e2 h2 hz eya eys eyv eyb ekb b0 b1
  go_enter Try.func46, Try.ntmps46
  go_wp2_with (first
    | (go_at_call 36; refine (no_any H.out).mono ?_; rintro e w' ⟨rfl, rfl⟩))
  go_loopw [6, 7] (fun best x wr => ∃ k, NI p g cap fr many room N S kb a s w y best x wr k) (fun best x wr => least (NI p g cap fr many room N S kb a s w y best x wr))
  case atStart => exact H0.out
  case round =>
    clear H0 c2 H
    obtain ⟨hP, -⟩ := least_spec hrel
    clear hrel
    obtain ⟨j, ej⟩ : ∃ j, j = least (NI p g cap fr many room N S kb a s w y u6 u7 wr) := ⟨_, rfl⟩
    rw [← ej] at hP
    have EJ := Lib.hid ej
    clear ej
    obtain ⟨x, l, rfl, rfl, h, hx, hxN, k0, k1, hf, -⟩ := hP
    rw [← HKB.out]
    cases j with
    | zero => simp [TreeP.nextN] at hf
    | succ k =>
      unfold TreeP.nextN at hf
      have hN := HN.out
      have c0 := h.c0
      rw [← hN] at c0
      by_cases hx0 : x = 0
      · subst hx0
        rw [if_pos rfl] at hf
        injection hf with hf
        subst hf
        have hc := entry_any h HZ.out l (by omega)
        rw [← EA.out, ← ES.out, ← EV.out, ← EB.out] at hc
        have HC := Lib.hid hc
        have HX := Lib.hid hx
        have hsz : (w.alloc (.cells #[.int .u64 a, .int .u64 s] 24)).heap.size = kb + 1 := by rw [HKB.out]; simp
        have HSZ := Lib.hid hsz
        clear h hx hN hc hsz
        go_wp2_with fail
        refine (HC.out).mono ?_
        rintro e w3 ⟨rfl, hx3⟩
        have t := three (HX.out.trans hx3)
        rw [HSZ.out] at t
        obtain ⟨t0, t1, t2, t3, t4, t5⟩ := t
        have HX3 := Lib.hid hx3
        clear hx3
        go_wp2_with fail
        exact bodyPost_ret (v := .tuple #[ent ya ys yv, .bool yb]) (by simp [results, Try.results46, go_sem, t0, t1, t2]) rfl ⟨rfl, (((((((Ext.refl w).alloc _).alloc _).trans HX.out).trans HX3.out).setCell (by rw [HKB.out]; simp) _).setCell (by rw [HKB.out]; simp) _).setCell (by rw [HKB.out]; simp) _⟩
      · rw [if_neg hx0] at hf
        have x1 : (x : Int) < N := by omega
        have x2 : ((x : Int) != 0) = true := by simp; omega
        have ca := h.a (i := x) (by omega)
        have cs := h.s (i := x) (by omega)
        unfold TS.key at hf
        obtain ⟨ka, eka⟩ : ∃ ka, ka = (S.nd x).a := ⟨_, rfl⟩
        obtain ⟨ks, eks⟩ : ∃ ks, ks = (S.nd x).s := ⟨_, rfl⟩
        rw [← eka, ← eks] at hf
        rw [← eka] at ca
        rw [← eks] at cs
        by_cases hl1 : lt (a, s) (ka, ks) = true
        · rw [if_pos hl1] at hf
          have HL := Lib.hid (less_in h.drew (kb := kb) k0 k1 a s ka ks true hl1)
          have HF := Lib.hid hf
          have HX := Lib.hid hx
          have H := Lib.hid h
          clear hf hx h hl1 eka eks hN
          go_wp2_with fail
          go_region_held3 (fun w' => w'.cell? ⟨p, 0, none⟩ = some (.slice (some ⟨g, 0, none⟩) N cap) ∧ w'.cell? ⟨kb, 0, none⟩ = some (.int .u64 a) ∧ w'.cell? ⟨kb, 1, none⟩ = some (.int .u64 s) ∧ w'.cell? ⟨g, x * 7, none⟩ = some (.int .u64 ka) ∧ w'.cell? ⟨g, x * 7 + 1, none⟩ = some (.int .u64 ks))
            (first | go_keep | (go_split_ands; exact ⟨f0, f1, f2, f3, f4⟩))
            ((go_at_call 41; refine (HL.out).mono ?_; rintro e w2 ⟨rfl, h2, f0, f1, f2, hx2⟩; rw [← HN.out] at f0; have f3 := hx2.cell (p := ⟨g, x * 7, none⟩) ca; have f4 := hx2.cell (p := ⟨g, x * 7 + 1, none⟩) cs))
          clear c0 k0 k1 ca cs HL
          have kx := h2.k0 (i := x) (by rw [← HN.out]; exact hxN)
          have HP := Lib.hid (show ∀ n, NI p g cap fr many room N S kb a s w y (.int .i64 (x : Nat)) (.int .i64 ((S.nd x).k0 : Nat)) (w2.drewN n) k from fun n =>
            ⟨(S.nd x).k0, x, rfl, rfl, h2.drewN n, ((HX.out.trans (((Ext.refl _).drew).trans hx2)).drewN n), (HK.out x).1, f1, f2, HF.out, HKB.out⟩)
          obtain ⟨c, ec⟩ : ∃ c, c = (S.nd x).k0 := ⟨_, rfl⟩
          rw [← ec] at kx HP
          have HC := Lib.hid ec
          clear ec h2 hx2 f3 f4 HF
          go_wp2_with fail
          go_quiet (fail)
          go_wp2_with fail
          exact ⟨⟨_, HP.out _⟩, least_lt (HP.out _) (Nat.lt_succ_self k) EJ.out⟩
        · rw [if_neg hl1] at hf
          have hl1 : lt (a, s) (ka, ks) = false := by simpa using hl1
          have HL := Lib.hid (less_in h.drew (kb := kb) k0 k1 a s ka ks false hl1)
          have HF := Lib.hid hf
          have HX := Lib.hid hx
          have H := Lib.hid h
          clear hf hx h hl1 eka eks hN
          go_wp2_with fail
          go_region_held3 (fun w' => w'.cell? ⟨p, 0, none⟩ = some (.slice (some ⟨g, 0, none⟩) N cap) ∧ w'.cell? ⟨kb, 0, none⟩ = some (.int .u64 a) ∧ w'.cell? ⟨kb, 1, none⟩ = some (.int .u64 s) ∧ w'.cell? ⟨g, x * 7, none⟩ = some (.int .u64 ka) ∧ w'.cell? ⟨g, x * 7 + 1, none⟩ = some (.int .u64 ks))
            (first | go_keep | (go_split_ands; exact ⟨f0, f1, f2, f3, f4⟩))
            ((go_at_call 41; refine (HL.out).mono ?_; rintro e w2 ⟨rfl, h2, f0, f1, f2, hx2⟩; rw [← HN.out] at f0; have f3 := hx2.cell (p := ⟨g, x * 7, none⟩) ca; have f4 := hx2.cell (p := ⟨g, x * 7 + 1, none⟩) cs))
          clear c0 k0 k1 ca cs HL
          have kx := h2.k1 (i := x) (by rw [← HN.out]; exact hxN)
          have HP := Lib.hid (show ∀ n, NI p g cap fr many room N S kb a s w y (.int .i64 (l : Nat)) (.int .i64 ((S.nd x).k1 : Nat)) (w2.drewN n) k from fun n =>
            ⟨(S.nd x).k1, l, rfl, rfl, h2.drewN n, ((HX.out.trans (((Ext.refl _).drew).trans hx2)).drewN n), (HK.out x).2, f1, f2, HF.out, HKB.out⟩)
          obtain ⟨c, ec⟩ : ∃ c, c = (S.nd x).k1 := ⟨_, rfl⟩
          rw [← ec] at kx HP
          have HC := Lib.hid ec
          clear ec h2 hx2 f3 f4 HF
          go_wp2_with fail
          exact ⟨⟨_, HP.out 0⟩, least_lt (HP.out 0) (Nat.lt_succ_self k) EJ.out⟩
end
end Go.Proofs.Ytekdahppacghbab.Tr
