/- DERIVED. Layer 6 (tree): contracts of no, find. -/
import Derived.Test.YtkdmlpigkmlkmaaTrD
set_option linter.unusedVariables false
set_option linter.unusedSimpArgs false
set_option maxRecDepth 100000
namespace Go.Proofs.Ytkdmlpigkmlkmaa.Tr
open Go.RowKit Go.Proofs.Ytkdmlpigkmlkmaa Go.Proofs.Ytkdmlpigkmlkmaa.TreeP

section
variable {p g cap many room : Nat} {fr : Value} {S : TS} {w : World}
theorem no_any (h : TW p g cap fr many room S w) : Calls Try.prog 91 #[.pointer (some ⟨p, 0, none⟩)] w fun e w' => e = .returned (.bool false) ∧ w = w' := by
  have c0 := h.c0
  obtain ⟨N, hN⟩ : ∃ N, N = S.n.length := ⟨_, rfl⟩
  rw [← hN] at c0
  clear h hN
  have he : ∀ w : World, (binOp .eql 156 (.slice (some ⟨g, 0, none⟩) N cap) (.slice none 0 0)).run Try.prog w = .ok (.bool false) w := fun _ => rfl
  go_enter Try.func91, Try.ntmps91
  go_wp2
  go_ret
  exact ⟨rfl, rfl⟩
/-- what a call of less leaves: a tree, and the key in its box, as they were -/
theorem less_in (h : TW p g cap fr many room S w) {kb : Nat} {a s : Int} (k0 : w.cell? ⟨kb, 0, none⟩ = some (.int .u64 a)) (k1 : w.cell? ⟨kb, 1, none⟩ = some (.int .u64 s)) (a1 s1 b1 t1 : Int) (B : Bool) (hB : lt (a1, s1) (b1, t1) = B) :
    Calls Try.prog 93 #[.agg #[.int .u64 a1, .int .u64 s1], .agg #[.int .u64 b1, .int .u64 t1]] w fun e w' => e = .returned (.bool B) ∧ TW p g cap fr many room S w' ∧ w'.cell? ⟨p, 0, none⟩ = some (.slice (some ⟨g, 0, none⟩) S.n.length cap) ∧
      w'.cell? ⟨kb, 0, none⟩ = some (.int .u64 a) ∧ w'.cell? ⟨kb, 1, none⟩ = some (.int .u64 s) ∧ Ext w w' :=
  (less_any a1 s1 b1 t1 w).mono fun e w' ⟨he, hx⟩ => ⟨by rw [he, hB], h.ext hx, (h.ext hx).c0, hx.cell k0, hx.cell k1, hx⟩
def FI (p g cap : Nat) (fr : Value) (many room N : Nat) (S : TS) (kb : Nat) (a s : Int) (w0 : World) (r : Nat × Nat) (last x : Value) (wr : World) (k : Nat) : Prop :=
  ∃ x' l' : Nat, x = .int .i64 (x' : Int) ∧ last = .int .i64 (l' : Int) ∧ TW p g cap fr many room S wr ∧ Ext w0 wr ∧ x' < N ∧ wr.cell? ⟨kb, 0, none⟩ = some (.int .u64 a) ∧ wr.cell? ⟨kb, 1, none⟩ = some (.int .u64 s) ∧ TreeP.find k S (a, s) x' l' = some r
set_option maxHeartbeats 1000000 in
theorem find_any (h : TW p g cap fr many room S w) (hr : Rng S) (a s : Int) (r : Nat × Nat) (hf : ∃ k, TreeP.find k S (a, s) S.root 0 = some r) :
    Calls Try.prog 92 #[.pointer (some ⟨p, 0, none⟩), .agg #[.int .u64 a, .int .u64 s]] w fun e w' => e = .returned (.tuple #[.int .i64 ((r.1 : Nat) : Int), .int .i64 ((r.2 : Nat) : Int)]) ∧ TW p g cap fr many room S w' ∧ Ext w w' := by
  obtain ⟨N, hN⟩ : ∃ N, N = S.n.length := ⟨_, rfl⟩
  have hrt := hr.root
  rw [← hN] at hrt
  have hkr : ∀ x, (S.nd x).k0 < N ∧ (S.nd x).k1 < N := fun x => by rw [hN]; exact ⟨hr.k0 x, hr.k1 x⟩
  obtain ⟨rt, ert⟩ : ∃ rt, rt = S.root := ⟨_, rfl⟩
  have c2 := h.c2
  rw [← ert] at c2 hrt hf
  have c2' := ((Ext.refl w).alloc (.cells #[.int .u64 a, .int .u64 s] 130)).cell c2
  have HK := Lib.hid hkr
  have HN := Lib.hid hN
  have H0 : Hid (∃ k, FI p g cap fr many room N S w.heap.size a s w r (.int .i64 0) (.int .i64 rt) (w.alloc (.cells #[.int .u64 a, .int .u64 s] 130)) k) := Lib.hid (by
    obtain ⟨k, hk⟩ := hf
    have e := (Ext.refl w).alloc (.cells #[.int .u64 a, .int .u64 s] 130)
    exact ⟨k, rt, 0, rfl, rfl, h.ext e, e, hrt, by simp [World.cell?_alloc_new], by simp [World.cell?_alloc_new], hk⟩)
  have H := Lib.hid h
  clear hf ert hkr hN h hr hrt
  go_enter Try.func92, Try.ntmps92
  go_wp2
  go_loopw [6, 7] (fun last x wr => ∃ k, FI p g cap fr many room N S w.heap.size a s w r last x wr k) (fun last x wr => least (FI p g cap fr many room N S w.heap.size a s w r last x wr))
  case atStart => exact H0.out
  case round =>
    clear H0 c2 c2' H
    obtain ⟨hP, -⟩ := least_spec hrel
    clear hrel
    obtain ⟨j, ej⟩ : ∃ j, j = least (FI p g cap fr many room N S w.heap.size a s w r u6 u7 wr) := ⟨_, rfl⟩
    rw [← ej] at hP
    have EJ := Lib.hid ej
    clear ej
    obtain ⟨x, l, rfl, rfl, h, hx, hxN, k0, k1, hf⟩ := hP
    obtain ⟨kb, ekb⟩ : ∃ kb, kb = w.heap.size := ⟨_, rfl⟩
    rw [← ekb] at k0 k1 EJ
    rw [← ekb]
    have EB := Lib.hid ekb
    clear ekb
    cases j with
    | zero => simp [TreeP.find] at hf
    | succ k =>
      unfold TreeP.find at hf
      have hN := HN.out
      have c0 := h.c0
      rw [← hN] at c0
      by_cases hx0 : x = 0
      · subst hx0
        rw [if_pos rfl] at hf
        injection hf with hf
        subst hf
        have H := Lib.hid h
        have HX := Lib.hid hx
        clear h hx hN
        go_wp2
        go_ret2
        exact ⟨rfl, H.out, HX.out⟩
      · rw [if_neg hx0] at hf
        have x1 : (x : Int) < N := by omega
        have x2 : ((x : Int) != 0) = true := by simp; omega
        have ca := h.a (i := x) (by omega)
        have cs := h.s (i := x) (by omega)
        unfold TS.key at hf
        obtain ⟨ka, eka⟩ : ∃ ka, ka = (S.nd x).a := ⟨_, rfl⟩
        obtain ⟨ks, eks⟩ : ∃ ks, ks = (S.nd x).s := ⟨_, rfl⟩
        rw [← eka, ← eks] at hf
        rw [← eka] at ca
        rw [← eks] at cs
        by_cases hl1 : lt (a, s) (ka, ks) = true
        · rw [if_pos hl1] at hf
          have HL := Lib.hid (less_in h.drew (kb := kb) k0 k1 a s ka ks true hl1)
          have HF := Lib.hid hf
          have HX := Lib.hid hx
          have H := Lib.hid h
          clear hf hx h hl1 eka eks hN
          go_wp2_with fail
          go_region_held3 (fun w' => w'.cell? ⟨p, 0, none⟩ = some (.slice (some ⟨g, 0, none⟩) N cap) ∧ w'.cell? ⟨kb, 0, none⟩ = some (.int .u64 a) ∧ w'.cell? ⟨kb, 1, none⟩ = some (.int .u64 s) ∧ w'.cell? ⟨g, x * 7, none⟩ = some (.int .u64 ka) ∧ w'.cell? ⟨g, x * 7 + 1, none⟩ = some (.int .u64 ks))
            (first | go_keep | (go_split_ands; exact ⟨f0, f1, f2, f3, f4⟩))
            ((go_at_call 93; refine (HL.out).mono ?_; rintro e w2 ⟨rfl, h2, f0, f1, f2, hx2⟩; rw [← HN.out] at f0; have f3 := hx2.cell (p := ⟨g, x * 7, none⟩) ca; have f4 := hx2.cell (p := ⟨g, x * 7 + 1, none⟩) cs))
          clear c0 k0 k1 ca cs HL
          have kx := h2.k0 (i := x) (by rw [← HN.out]; exact hxN)
          have HP := Lib.hid (show FI p g cap fr many room N S kb a s w r (.int .i64 x) (.int .i64 ((S.nd x).k0 : Nat)) w2 k from
            ⟨(S.nd x).k0, x, rfl, rfl, h2, HX.out.trans (((Ext.refl _).drew).trans hx2), (HK.out x).1, f1, f2, HF.out⟩)
          obtain ⟨y, ey⟩ : ∃ y, y = (S.nd x).k0 := ⟨_, rfl⟩
          rw [← ey] at kx HP
          have HY := Lib.hid ey
          clear ey h2 hx2 f3 f4 HF
          go_wp2_with fail
          exact ⟨⟨_, HP.out⟩, least_lt HP.out (Nat.lt_succ_self k) EJ.out⟩
        · rw [if_neg hl1] at hf
          have hl1' : lt (a, s) (ka, ks) = false := by simpa using hl1
          have HL := Lib.hid (less_in h.drew (kb := kb) k0 k1 a s ka ks false hl1')
          have HF := Lib.hid hf
          have HX := Lib.hid hx
          have H := Lib.hid h
          clear hf hx h hl1 hl1' eka eks hN
          go_wp2_with fail
          go_region_held3 (fun w' => w'.cell? ⟨p, 0, none⟩ = some (.slice (some ⟨g, 0, none⟩) N cap) ∧ w'.cell? ⟨kb, 0, none⟩ = some (.int .u64 a) ∧ w'.cell? ⟨kb, 1, none⟩ = some (.int .u64 s) ∧ w'.cell? ⟨g, x * 7, none⟩ = some (.int .u64 ka) ∧ w'.cell? ⟨g, x * 7 + 1, none⟩ = some (.int .u64 ks))
            (first | go_keep | (go_split_ands; exact ⟨f0, f1, f2, f3, f4⟩))
            ((go_at_call 93; refine (HL.out).mono ?_; rintro e w2 ⟨rfl, h2, f0, f1, f2, hx2⟩; rw [← HN.out] at f0; have f3 := hx2.cell (p := ⟨g, x * 7, none⟩) ca; have f4 := hx2.cell (p := ⟨g, x * 7 + 1, none⟩) cs))
          clear c0 k0 k1 ca cs HL
          have c0 := f0
          have k0 := f1
          have k1 := f2
          have ca := f3
          have cs := f4
          have hf := HF.out
          have hx := HX.out.trans (((Ext.refl _).drew).trans hx2)
          have h := h2
          clear f0 f1 f2 f3 f4 HX h2 hx2 H HF
          by_cases hl2 : lt (ka, ks) (a, s) = true
          · rw [if_pos hl2] at hf
            have HL := Lib.hid (less_in h.drew (kb := kb) k0 k1 ka ks a s true hl2)
            have HF := Lib.hid hf
            have HX := Lib.hid hx
            have H := Lib.hid h
            clear hf hx h hl2
            go_wp2_with fail
            go_region_held3 (fun w' => w'.cell? ⟨p, 0, none⟩ = some (.slice (some ⟨g, 0, none⟩) N cap) ∧ w'.cell? ⟨kb, 0, none⟩ = some (.int .u64 a) ∧ w'.cell? ⟨kb, 1, none⟩ = some (.int .u64 s) ∧ w'.cell? ⟨g, x * 7, none⟩ = some (.int .u64 ka) ∧ w'.cell? ⟨g, x * 7 + 1, none⟩ = some (.int .u64 ks))
              (first | go_keep | (go_split_ands; exact ⟨f0, f1, f2, f3, f4⟩))
              ((go_at_call 93; refine (HL.out).mono ?_; rintro e w3 ⟨rfl, h3, f0, f1, f2, hx3⟩; rw [← HN.out] at f0; have f3 := hx3.cell (p := ⟨g, x * 7, none⟩) ca; have f4 := hx3.cell (p := ⟨g, x * 7 + 1, none⟩) cs))
            clear c0 k0 k1 ca cs HL
            have kx := h3.k1 (i := x) (by rw [← HN.out]; exact hxN)
            have HP := Lib.hid (show FI p g cap fr many room N S kb a s w r (.int .i64 x) (.int .i64 ((S.nd x).k1 : Nat)) w3 k from
              ⟨(S.nd x).k1, x, rfl, rfl, h3, HX.out.trans (((Ext.refl _).drew).trans hx3), (HK.out x).2, f1, f2, HF.out⟩)
            obtain ⟨y, ey⟩ : ∃ y, y = (S.nd x).k1 := ⟨_, rfl⟩
            rw [← ey] at kx HP
            have HY := Lib.hid ey
            clear ey h3 hx3 f3 f4 HF
            go_wp2_with fail
            exact ⟨⟨_, HP.out⟩, least_lt HP.out (Nat.lt_succ_self k) EJ.out⟩
          · rw [if_neg hl2] at hf
            injection hf with hf
            subst hf
            have hl2' : lt (ka, ks) (a, s) = false := by simpa using hl2
            have HL := Lib.hid (less_in h.drew (kb := kb) k0 k1 ka ks a s false hl2')
            have HX := Lib.hid hx
            have H := Lib.hid h
            clear hx h hl2 hl2'
            go_wp2_with fail
            go_region_held3 (fun w' => w'.cell? ⟨p, 0, none⟩ = some (.slice (some ⟨g, 0, none⟩) N cap) ∧ w'.cell? ⟨kb, 0, none⟩ = some (.int .u64 a) ∧ w'.cell? ⟨kb, 1, none⟩ = some (.int .u64 s) ∧ w'.cell? ⟨g, x * 7, none⟩ = some (.int .u64 ka) ∧ w'.cell? ⟨g, x * 7 + 1, none⟩ = some (.int .u64 ks))
              (first | go_keep | (go_split_ands; exact ⟨f0, f1, f2, f3, f4⟩))
              ((go_at_call 93; refine (HL.out).mono ?_; rintro e w3 ⟨rfl, h3, f0, f1, f2, hx3⟩; rw [← HN.out] at f0; have f3 := hx3.cell (p := ⟨g, x * 7, none⟩) ca; have f4 := hx3.cell (p := ⟨g, x * 7 + 1, none⟩) cs))
            have H3 := Lib.hid h3
            have HX3 := Lib.hid (HX.out.trans (((Ext.refl _).drew).trans hx3))
            clear c0 k0 k1 ca cs HL h3 hx3 f0 f1 f2 f3 f4 HX H
            go_wp2_with fail
            go_ret2
            exact ⟨rfl, H3.out, HX3.out⟩
end
end Go.Proofs.Ytkdmlpigkmlkmaa.Tr
