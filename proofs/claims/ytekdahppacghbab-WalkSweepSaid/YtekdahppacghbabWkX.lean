/- DERIVED. Layer 7 (walk): the law WalkSweep (the chapter's examples come as a hypothesis). Written by wip/mkwkx.py. -/
import Derived.Test.YtekdahppacghbabWkW
import Derived.Test.YtekdahppacghbabWkM
import Derived.BigQuiet
set_option linter.unusedVariables false
set_option linter.unusedSimpArgs false
set_option maxRecDepth 100000
namespace Go.Proofs.Ytekdahppacghbab.Wk
open Go.RowKit Go.Maps Go.WideMaps Go.Proofs.Ytekdahppacghbab Go.Proofs.Ytekdahppacghbab.TreeP Go.Proofs.Ytekdahppacghbab.Tr

theorem sw_entry {w : World} {E : List En} {a : Option Addr} {c n : Nat} {l : List HP} (h : Own (Row 49 3 (.slice a n c) n (Tr.ents E) :: l) w) {k : Nat} {e : En} (hk : k < n) (he : E[k]? = some e) :
    ∃ g, a = some ⟨g, 0, none⟩ ∧ w.cell? ⟨g, k * 3, none⟩ = some (.int .u64 e.1.1) ∧ w.cell? ⟨g, k * 3 + 1, none⟩ = some (.int .u64 e.1.2) ∧ w.cell? ⟨g, k * 3 + 2, none⟩ = some (.int .i64 e.2) := by
  obtain ⟨g, cap, ev, -, -⟩ := own_cap h.row (by omega)
  injection ev with e1 _ e3
  subst e1 e3
  exact ⟨g, rfl, rowEnt (ownsR_of h.row) he⟩
theorem sw_blk2g {l : List HP} {w : World} {b : Nat} {x y : Value} {t : TypeId} (h : Own (Go.Proofs.Ytekdahppacghbab.Blk b #[x, y] t :: l) w) :
    w.cell? ⟨b, 0, none⟩ = some x ∧ w.cell? ⟨b, 1, none⟩ = some y ∧ w.frozen? ⟨b, 0, none⟩ = false ∧ w.frozen? ⟨b, 1, none⟩ = false := by
  simp [World.cell?, World.frozen?, Go.Proofs.Ytekdahppacghbab.Own.blk h (.head _)]
theorem sw_blkSet2 {l : List HP} {w : World} {b : Nat} {x y : Value} {t : TypeId} (h : Own (Go.Proofs.Ytekdahppacghbab.Blk b #[x, y] t :: l) w) (a0 a1 : Value) :
    Own (Go.Proofs.Ytekdahppacghbab.Blk b #[a0, a1] t :: l) ((w.setCell ⟨b, 0, none⟩ a0).setCell ⟨b, 1, none⟩ a1) :=
  Go.Proofs.Ytekdahppacghbab.Own.blkSet (Go.Proofs.Ytekdahppacghbab.Own.blkSet h a0) a1
theorem zeroI (w : World) : (zeroValue 3).run Try.prog w = .ok (.int .i64 0) w := by kernel_rfl
theorem i64_mk {x : Int} (h : (Lit.int .i64 x).wf = true) : plainElem (H := Unit) Try.prog 3 (.int .i64 x) = some (il x, []) := plainElem_int Try.underlying3 h
theorem key_law : Go.WideMaps.KeyLaw Try.prog 24 := deep_law_laid key_laidOut (m := 2) (by omega) key_row (by kernel_rfl) key_wide
theorem i64_at {D : DataW Unit} {y : Lit} {x : Int} (h : D.atKey y (il 0) = il x) : ∀ u ps, plainElem Try.prog 3 u = some (D.atKey y (il 0), ps) → u = .int .i64 x := fun u ps hu => by
  rw [h] at hu
  obtain ⟨c, rfl, hc, _⟩ := plainElem_int_inv Try.underlying3 hu
  have := congrArg Prod.fst hc
  simp only at this
  injection this with this
  injection this with _ this
  rw [this]
theorem wf_i64 {n : Nat} (h : n ≤ 5000) : (Lit.int .i64 (n : Int)).wf = true := by
  simp [Lit.wf, IntKind.min, IntKind.max, IntKind.signed, IntKind.bits]
  omega
noncomputable abbrev MM (b m : Nat) (D : DataW Unit) : HP := MapD Try.prog 24 (plainElem Try.prog 3) b m D
/-- between two sweeps -/
def SwI (w : World) (p b11 b4 c0 L : Nat) (E : List En) (s12 : Value) (wr : World) : Prop :=
  ∃ (T mm : Nat) (kx ks : Int) (D : DataW Unit), s12 = .int .i64 (T : Int) ∧ T ≤ 3 * L ∧ mm ≤ T ∧ SwM D E c0 T ∧ (0 < L → plc7 L (lowL E (kx, ks)).length 0 = plc7 L c0 (T % L)) ∧ Own (MM b11 mm D :: BK b4 kx ks :: Tree p 60 E :: [Old w]) wr
/-- inside one -/
def SwJ (w : World) (p b11 b4 b14 c0 m T : Nat) (E M : List En) (kx ks lx ls : Int) (vs : Value) (s12 vi : Value) (wr : World) : Prop :=
  ∃ (j mm : Nat) (D : DataW Unit), vi = .int .i64 (j : Int) ∧ s12 = .int .i64 ((T + j : Nat) : Int) ∧ j ≤ m ∧ mm ≤ T + j ∧ SwM D E c0 (T + j) ∧ Own (MM b11 mm D :: Row 49 3 vs m (Tr.ents M) :: BK b14 lx ls :: BK b4 kx ks :: Tree p 60 E :: [Old w]) wr
set_option maxHeartbeats 8000000 in
theorem sweep_main (haw : Awake) (v : Value) (n : Nat) (f : Nat → Key) (x s ns : Int) (s0 : 0 ≤ ns) (s1 : ns ≤ 255) (w : World) (ho : KOps w v n f) :
    Calls Try.prog 5 #[v, .agg #[.int .u64 x, .int .u64 s], .int .u8 ns] w fun e w' => e = .returned (.bool true) ∧ Ext w w' := by
  have hmm := @run_makeMap Try.prog
  have h0 : Own [BK w.heap.size x s, Old w] (w.alloc (.cells #[.int .u64 x, .int .u64 s] 24)) := Go.Proofs.Ytekdahppacghbab.Own.blkNew (Own.start w) _ _
  have hof := of_ops ho h0 (.tail _ (.head _))
  have hn0 := nn_ofP ho.1 (Nat.min_le_left n 60)
  have hw0 : WfE (ofP f (min n 60)) := fun e he => by
    have h1 := (nn_of ho.1 _ (Nat.min_le_left n 60) e he).1
    unfold InK at h1
    constructor
    · simp [Lit.wf, IntKind.min, IntKind.max, IntKind.signed, IntKind.bits]; omega
    · simp [Lit.wf, IntKind.min, IntKind.max, IntKind.signed, IntKind.bits]; omega
  obtain ⟨b4, hb4⟩ : ∃ b, b = w.heap.size := ⟨_, rfl⟩
  rw [← hb4] at hof
  obtain ⟨E, hE⟩ : ∃ E, E = ofP f (min n 60) := ⟨_, rfl⟩
  rw [← hE] at hof hn0 hw0
  obtain ⟨st, hst⟩ : ∃ st : Nat, ns % 20 = (st : Int) := ⟨(ns % 20).toNat, by omega⟩
  have st19 : st ≤ 19 := by omega
  have HOF := Lib.hid hof
  have HNN := Lib.hid hn0
  have HWF := Lib.hid hw0
  unfold Awake at haw
  have HAW := Lib.hid haw
  have HB4 := Lib.hid hb4
  obtain ⟨hs, a, cap, rfl, -, -, -⟩ := ho
  clear hof hn0 hw0 hE haw hs h0 hb4
  go_enter Try.func5, Try.ntmps5
  go_wp2_with fail
  with_reducible refine (HOF.out).mono ?_
  rintro e w1 ⟨p, v', rfl, h1⟩
  rw [← HB4.out]
  have h2 : Own [Tree p 60 E, BK b4 x s, Old w] w1 := h1.swap.drop
  obtain ⟨hr, hl60⟩ := own_rising h2
  obtain ⟨va0, vc0, rfl⟩ : ∃ va vc, v' = .slice va E.length vc := h1.swap.rowR.slice
  have HR := Lib.hid hr
  have HAL := Lib.hid (own_all (h2.step ((Ext.refl w1).alloc (.cells #[.slice va0 E.length vc0, .int .i64 60] 28))))
  obtain ⟨L, hL⟩ : ∃ L, L = E.length := ⟨_, rfl⟩
  rw [← hL] at hl60
  have HL := Lib.hid hL
  clear h1 h2 hr hL HOF HB4
  go_wp2_with fail
  with_reducible refine (HAL.out).mono ?_
  rintro e w2 ⟨vw, rfl, h2⟩
  obtain ⟨aw, cw, rfl⟩ := own_slice h2.row
  rw [← HL.out]
  have h3 := (Own.mapDNew (P := Try.prog) 24 (plainElem Try.prog 3) h2.drop).tail OwnIn.swap
  obtain ⟨b11, hb11⟩ : ∃ b, b = w2.heap.size := ⟨_, rfl⟩
  rw [← hb11] at h3
  obtain ⟨c0, hc0⟩ : ∃ c, c = (lowL E (x, s)).length := ⟨_, rfl⟩
  have hc0L : c0 ≤ L := by rw [hc0, HL.out]; exact low_le _ _
  have H3 : Hid (SwI w p b11 b4 c0 L E (.int .i64 0) (w2.alloc (.map #[] 0))) := Lib.hid ⟨0, 0, x, s, _, rfl, Nat.zero_le _, Nat.le_refl _, sw_nil (by rw [← HL.out]; exact hc0L), fun _ => by rw [← hc0, Nat.zero_mod], h3⟩
  have HC0 := Lib.hid hc0L
  have HB11 := Lib.hid hb11
  clear h2 h3 HAL hb11 hc0 hc0L
  go_wp2_with fail
  try simp only [hst]
  rw [← HB11.out]
  clear HB11
  go_loopw [12] (fun s12 wr => SwI w p b11 b4 c0 L E s12 wr) (fun s12 _ => 2 * L - (intOf s12).toNat)
  case atStart => exact H3.out
  case round =>
    clear H3
    obtain ⟨T, mm, kx, ks, D, rfl, hT, hmT, hsw, hpl, h⟩ := hrel
    by_cases hlt : T < 2 * L
    · have hltI : (T : Int) < 2 * (L : Int) := by omega
      have hL0 : 0 < L := by omega
      obtain ⟨M, hM⟩ : ∃ M, M = sweepL E (kx, ks) (1 + st) := ⟨_, rfl⟩
      obtain ⟨c, hc⟩ : ∃ c, (lowL E (kx, ks)).length = c := ⟨_, rfl⟩
      obtain ⟨m, hm⟩ : ∃ m, min (1 + st) E.length = m := ⟨_, rfl⟩
      have hm0 : 0 < m := by have := HL.out; omega
      have hmL : m ≤ L := by have := HL.out; omega
      have hmst : m = min (1 + st) L := by rw [← hm, HL.out]
      obtain ⟨le, hle1, hle2, hle3, hle4⟩ := sweep_last HR.out (kx, ks) (n := 1 + st) hc hm hm0
      rw [← hM] at hle2 hle3
      rw [← HL.out] at hle1 hle4
      obtain ⟨⟨lx, ls⟩, lv⟩ := le
      have hMl : M.length = m := by rw [hM, sweep_len HR.out, hm]
      have hswp := own_sweep' (n := 1 + (st : Int)) (M := M) (kx := lx) (ks := ls) HR.out HNN.out (by rw [← HL.out]; omega) (by omega) (by omega) (by rw [show (1 + (st : Int)).toNat = 1 + st by omega]; exact hM.symm) (by rw [hle2]; rfl) (by rw [hle2]; rfl) h.third
      have hMat : ∀ t, t < m → M[t]? = E[plc7 L c t]? := fun t ht => by
        rw [hM, HL.out]
        exact sweep_at HR.out (kx, ks) hc (by omega)
      have hcL : c ≤ L := by rw [← hc, HL.out]; exact low_le _ _
      have hpl0 := hpl hL0
      rw [hc] at hpl0
      have hplc : ∀ t, t < m → plc7 L c t = plc7 L c0 ((T + t) % L) := fun t ht => plc_all hL0 hcL HC0.out hpl0 t (by omega)
      have hnext : plc7 L (lowL E (lx, ls)).length 0 = plc7 L c0 ((T + m) % L) := by
        rw [hle4]
        exact plc_next hL0 hcL HC0.out hpl0 hm0 hmL
      obtain ⟨k0, k1⟩ := bk_cells (b := b4) (x := kx) (s := ks) h (.tail _ (.head _))
      have HSW := Lib.hid hswp
      have HMAT := Lib.hid hMat
      have HPLC := Lib.hid hplc
      have HNX := Lib.hid hnext
      have HSM := Lib.hid hsw
      have HML := Lib.hid hMl
      have HM3 := Lib.hid hle3
      have hmI : (if L < 1 + st then (L : Int) else (1 : Int) + (st : Int)) = (m : Int) := by split <;> omega
      have hmJ : (if (L : Int) < 1 + (st : Int) then (L : Int) else (1 : Int) + (st : Int)) = (m : Int) := by split <;> omega
      clear hswp hMat hplc hnext hsw hMl hle1 hle2 hle3 hle4 hM hc hm hmst hpl hpl0 hcL h
      go_wp2_with fail
      with_reducible refine (HSW.out).mono ?_
      rintro e w5 ⟨vs, rfl, h5⟩
      obtain ⟨vas, vcs, rfl⟩ := own_slice h5.row
      have h6 := Go.Proofs.Ytekdahppacghbab.Own.blkNew h5 #[.int .u64 lx, .int .u64 ls] 24
      obtain ⟨b14, hb14⟩ : ∃ b, b = w5.heap.size := ⟨_, rfl⟩
      rw [← hb14] at h6
      unfold RE at h6
      rw [HML.out] at h6 ⊢
      obtain ⟨g, rfl, r0, r1, r2⟩ := sw_entry h6.swap (k := m - 1) (by omega) HM3.out
      simp only at r0 r1 r2
      obtain ⟨z0, z1⟩ := bk_cells (b := b14) (x := lx) (s := ls) h6 (.head _)
      have HB14 := Lib.hid hb14
      have H6 : Hid (∀ w', Ext (w5.alloc (.cells #[.int .u64 lx, .int .u64 ls] 24)) w' → SwJ w p b11 b4 b14 c0 m T E M kx ks lx ls (.slice (some ⟨g, 0, none⟩) m vcs) (.int .i64 (T : Int)) (.int .i64 0) w') := Lib.hid fun w' hx => ⟨0, mm, D, rfl, rfl, Nat.zero_le _, hmT, HSM.out, (h6.step hx).fourth.tail (fun h => h.swap.tail (fun h => h.tail (fun h => h.swap)))⟩
      have mz : ((m : Int) == 0) = false := by simp; omega
      have m1 : (m : Int) - 1 = ((m - 1 : Nat) : Int) := by omega
      have m2 : ((m - 1 : Nat) : Int) < (m : Int) := by omega
      have xx : (lx == lx) = true := by simp
      have ss : (ls == ls) = true := by simp
      have mmn : ((m : Int) != (m : Int)) = false := by simp
      clear h5 h6 hb14 HSW
      go_wp2_with fail
      try rw [← HB14.out]
      have wk1 : IntKind.i64.wrap ((m - 1 : Nat) : Int) = ((m - 1 : Nat) : Int) := by rw [IntKind.wrap_i64]; omega
      obtain ⟨k1, hk1⟩ : ∃ k, k = m - 1 := ⟨_, rfl⟩
      rw [← hk1] at m1 m2 wk1 r0 r1
      have hx0 := Ext.refl (w5.alloc (.cells #[.int .u64 lx, .int .u64 ls] 24))
      have HK1 := Lib.hid hk1
      clear hk1 r2
      refine wp_region_held_drew (S := fun w' => w'.cell? ⟨b14, 0, none⟩ = some (.int .u64 lx) ∧ w'.cell? ⟨b14, 1, none⟩ = some (.int .u64 ls) ∧ w'.cell? ⟨g, k1 * 3, none⟩ = some (.int .u64 lx) ∧ w'.cell? ⟨g, k1 * 3 + 1, none⟩ = some (.int .u64 ls)) (by kernel_rfl) ⟨(Ext.refl _).drew.cell z0, (Ext.refl _).drew.cell z1, (Ext.refl _).drew.cell r0, (Ext.refl _).drew.cell r1⟩ (fun hHeld => ?_)
      refine wpAnyH_take (i := 0) (v := ?_) rfl (by kernel_rfl) (by kernel_rfl) (by kernel_rfl) (fun _ _ _ h => h) (Or.inl ⟨by rfl, ?_⟩) (by assumption) ?_
      rotate_left
      · intro w' hSw
        try dsimp only at hSw
        go_split_ands
        go_simp
        try simp only [hLn, if_false]
        try with_reducible rfl
      try simp only [Act.put, List.setIfInBounds_toArray, List.set_cons_zero, List.set_cons_succ, List.getElem_toArray, List.getElem_cons_succ, List.getElem_cons_zero]
      refine wpAnyH_take (i := 1) (v := ?_) rfl (by kernel_rfl) (by kernel_rfl) (by kernel_rfl) (fun _ _ _ h => h) (Or.inl ⟨by rfl, ?_⟩) (by assumption) ?_
      rotate_left
      · intro w' hSw
        try dsimp only at hSw
        go_split_ands
        go_simp
        try simp only [hLn, if_false]
        try with_reducible rfl
      try simp only [Act.put, List.setIfInBounds_toArray, List.set_cons_zero, List.set_cons_succ, List.getElem_toArray, List.getElem_cons_succ, List.getElem_cons_zero]
      refine wpAnyH_take (i := 2) (v := ?_) rfl (by kernel_rfl) (by kernel_rfl) (by kernel_rfl) (fun _ _ _ h => h) (Or.inl ⟨by rfl, ?_⟩) (by assumption) ?_
      rotate_left
      · intro w' hSw
        try dsimp only at hSw
        go_split_ands
        go_simp
        try simp only [hLn, if_false]
        try with_reducible rfl
      try simp only [Act.put, List.setIfInBounds_toArray, List.set_cons_zero, List.set_cons_succ, List.getElem_toArray, List.getElem_cons_succ, List.getElem_cons_zero]
      refine wpAnyH_take (i := 3) (v := ?_) rfl (by kernel_rfl) (by kernel_rfl) (by kernel_rfl) (fun _ _ _ h => h) (Or.inl ⟨by rfl, ?_⟩) (by assumption) ?_
      rotate_left
      · intro w' hSw
        try dsimp only at hSw
        go_split_ands
        go_simp
        try simp only [hLn, if_false]
        try with_reducible rfl
      try simp only [Act.put, List.setIfInBounds_toArray, List.set_cons_zero, List.set_cons_succ, List.getElem_toArray, List.getElem_cons_succ, List.getElem_cons_zero]
      refine wpAnyH_take (i := 4) (v := ?_) rfl (by kernel_rfl) (by kernel_rfl) (by kernel_rfl) (fun _ _ _ h => h) (Or.inl ⟨by rfl, ?_⟩) (by assumption) ?_
      rotate_left
      · intro w' hSw
        try dsimp only at hSw
        go_split_ands
        go_simp
        try simp only [hLn, if_false]
        try with_reducible rfl
      try simp only [Act.put, List.setIfInBounds_toArray, List.set_cons_zero, List.set_cons_succ, List.getElem_toArray, List.getElem_cons_succ, List.getElem_cons_zero]
      refine wpAnyH_take (i := 5) (v := ?_) rfl (by kernel_rfl) (by kernel_rfl) (by kernel_rfl) (fun _ _ _ h => h) (Or.inl ⟨by rfl, ?_⟩) (by assumption) ?_
      rotate_left
      · intro w' hSw
        try dsimp only at hSw
        go_split_ands
        go_simp
        try simp only [hLn, if_false]
        try with_reducible rfl
      try simp only [Act.put, List.setIfInBounds_toArray, List.set_cons_zero, List.set_cons_succ, List.getElem_toArray, List.getElem_cons_succ, List.getElem_cons_zero]
      refine wpAnyH_take (i := 6) (v := ?_) rfl (by kernel_rfl) (by kernel_rfl) (by kernel_rfl) (fun _ _ _ h => h) (Or.inl ⟨by rfl, ?_⟩) (by assumption) ?_
      rotate_left
      · intro w' hSw
        try dsimp only at hSw
        go_split_ands
        go_simp
        try simp only [hLn, if_false]
        try with_reducible rfl
      try simp only [Act.put, List.setIfInBounds_toArray, List.set_cons_zero, List.set_cons_succ, List.getElem_toArray, List.getElem_cons_succ, List.getElem_cons_zero]
      refine wpAnyH_take (i := 7) (v := ?_) rfl (by kernel_rfl) (by kernel_rfl) (by kernel_rfl) (fun _ _ _ h => h) (Or.inl ⟨by rfl, ?_⟩) (by assumption) ?_
      rotate_left
      · intro w' hSw
        try dsimp only at hSw
        go_split_ands
        go_simp
        try simp only [hLn, if_false]
        try with_reducible rfl
      try simp only [Act.put, List.setIfInBounds_toArray, List.set_cons_zero, List.set_cons_succ, List.getElem_toArray, List.getElem_cons_succ, List.getElem_cons_zero]
      refine wpAnyH_take (i := 8) (v := ?_) rfl (by kernel_rfl) (by kernel_rfl) (by kernel_rfl) (fun _ _ _ h => h) (Or.inl ⟨by rfl, ?_⟩) (by assumption) ?_
      rotate_left
      · intro w' hSw
        try dsimp only at hSw
        go_split_ands
        go_simp
        try simp only [hLn, if_false]
        try with_reducible rfl
      try simp only [Act.put, List.setIfInBounds_toArray, List.set_cons_zero, List.set_cons_succ, List.getElem_toArray, List.getElem_cons_succ, List.getElem_cons_zero]
      refine wpAnyH_take (i := 9) (v := ?_) rfl (by kernel_rfl) (by kernel_rfl) (by kernel_rfl) (fun _ _ _ h => h) (Or.inl ⟨by rfl, ?_⟩) (by assumption) ?_
      rotate_left
      · intro w' hSw
        try dsimp only at hSw
        go_split_ands
        go_simp
        try simp only [hLn, if_false]
        try with_reducible rfl
      try simp only [Act.put, List.setIfInBounds_toArray, List.set_cons_zero, List.set_cons_succ, List.getElem_toArray, List.getElem_cons_succ, List.getElem_cons_zero]
      refine wpAnyH_take (i := 10) (v := ?_) rfl (by kernel_rfl) (by kernel_rfl) (by kernel_rfl) (fun _ _ _ h => h) (Or.inl ⟨by rfl, ?_⟩) (by assumption) ?_
      rotate_left
      · intro w' hSw
        try dsimp only at hSw
        go_split_ands
        go_simp
        try simp only [hLn, if_false]
        try with_reducible rfl
      try simp only [Act.put, List.setIfInBounds_toArray, List.set_cons_zero, List.set_cons_succ, List.getElem_toArray, List.getElem_cons_succ, List.getElem_cons_zero]
      refine wpAnyH_take (i := 11) (v := ?_) rfl (by kernel_rfl) (by kernel_rfl) (by kernel_rfl) (fun _ _ _ h => h) (Or.inl ⟨by rfl, ?_⟩) (by assumption) ?_
      rotate_left
      · intro w' hSw
        try dsimp only at hSw
        go_split_ands
        go_simp
        try simp only [hLn, if_false]
        try with_reducible rfl
      try simp only [Act.put, List.setIfInBounds_toArray, List.set_cons_zero, List.set_cons_succ, List.getElem_toArray, List.getElem_cons_succ, List.getElem_cons_zero]
      refine wpAnyH_take (i := 12) (v := ?_) rfl (by kernel_rfl) (by kernel_rfl) (by kernel_rfl) (fun _ _ _ h => h) (Or.inl ⟨by rfl, ?_⟩) (by assumption) ?_
      rotate_left
      · intro w' hSw
        try dsimp only at hSw
        go_split_ands
        go_simp
        try simp only [hLn, if_false]
        try with_reducible rfl
      try simp only [Act.put, List.setIfInBounds_toArray, List.set_cons_zero, List.set_cons_succ, List.getElem_toArray, List.getElem_cons_succ, List.getElem_cons_zero]
      refine wpAnyH_take (i := 13) (v := ?_) rfl (by kernel_rfl) (by kernel_rfl) (by kernel_rfl) (fun _ _ _ h => h) (Or.inl ⟨by rfl, ?_⟩) (by assumption) ?_
      rotate_left
      · intro w' hSw
        try dsimp only at hSw
        go_split_ands
        go_simp
        try simp only [hLn, if_false]
        try with_reducible rfl
      try simp only [Act.put, List.setIfInBounds_toArray, List.set_cons_zero, List.set_cons_succ, List.getElem_toArray, List.getElem_cons_succ, List.getElem_cons_zero]
      refine wpAnyH_take (i := 14) (v := ?_) rfl (by kernel_rfl) (by kernel_rfl) (by kernel_rfl) (fun _ _ _ h => h) (Or.inl ⟨by rfl, ?_⟩) (by assumption) ?_
      rotate_left
      · intro w' hSw
        try dsimp only at hSw
        go_split_ands
        go_simp
        try simp only [hLn, if_false]
        try with_reducible rfl
      try simp only [Act.put, List.setIfInBounds_toArray, List.set_cons_zero, List.set_cons_succ, List.getElem_toArray, List.getElem_cons_succ, List.getElem_cons_zero]
      refine wpAnyH_take (i := 15) (v := ?_) rfl (by kernel_rfl) (by kernel_rfl) (by kernel_rfl) (fun _ _ _ h => h) (Or.inl ⟨by rfl, ?_⟩) (by assumption) ?_
      rotate_left
      · intro w' hSw
        try dsimp only at hSw
        go_split_ands
        go_simp
        try simp only [hLn, if_false]
        try with_reducible rfl
      try simp only [Act.put, List.setIfInBounds_toArray, List.set_cons_zero, List.set_cons_succ, List.getElem_toArray, List.getElem_cons_succ, List.getElem_cons_zero]
      refine wpAnyH_take (i := 16) (v := ?_) rfl (by kernel_rfl) (by kernel_rfl) (by kernel_rfl) (fun _ _ _ h => h) (Or.inl ⟨by rfl, ?_⟩) (by assumption) ?_
      rotate_left
      · intro w' hSw
        try dsimp only at hSw
        go_split_ands
        go_simp
        try simp only [hLn, if_false]
        try with_reducible rfl
      try simp only [Act.put, List.setIfInBounds_toArray, List.set_cons_zero, List.set_cons_succ, List.getElem_toArray, List.getElem_cons_succ, List.getElem_cons_zero]
      refine wpAnyH_take (i := 17) (v := ?_) rfl (by kernel_rfl) (by kernel_rfl) (by kernel_rfl) (fun _ _ _ h => h) (Or.inl ⟨by rfl, ?_⟩) (by assumption) ?_
      rotate_left
      · intro w' hSw
        try dsimp only at hSw
        go_split_ands
        go_simp
        try simp only [hLn, if_false]
        try with_reducible rfl
      try simp only [Act.put, List.setIfInBounds_toArray, List.set_cons_zero, List.set_cons_succ, List.getElem_toArray, List.getElem_cons_succ, List.getElem_cons_zero]
      refine wpAnyH_take (i := 18) (v := ?_) rfl (by kernel_rfl) (by kernel_rfl) (by kernel_rfl) (fun _ _ _ h => h) (Or.inl ⟨by rfl, ?_⟩) (by assumption) ?_
      rotate_left
      · intro w' hSw
        try dsimp only at hSw
        go_split_ands
        go_simp
        try simp only [hLn, if_false]
        try with_reducible rfl
      try simp only [Act.put, List.setIfInBounds_toArray, List.set_cons_zero, List.set_cons_succ, List.getElem_toArray, List.getElem_cons_succ, List.getElem_cons_zero]
      refine wpAnyH_take (i := 19) (v := ?_) rfl (by kernel_rfl) (by kernel_rfl) (by kernel_rfl) (fun _ _ _ h => h) (Or.inl ⟨by rfl, ?_⟩) (by assumption) ?_
      rotate_left
      · intro w' hSw
        try dsimp only at hSw
        go_split_ands
        go_simp
        try simp only [hLn, if_false]
        try with_reducible rfl
      try simp only [Act.put, List.setIfInBounds_toArray, List.set_cons_zero, List.set_cons_succ, List.getElem_toArray, List.getElem_cons_succ, List.getElem_cons_zero]
      refine wpAnyH_take (i := 20) (v := ?_) rfl (by kernel_rfl) (by kernel_rfl) (by kernel_rfl) (fun _ _ _ h => h) (Or.inl ⟨by rfl, ?_⟩) (by assumption) ?_
      rotate_left
      · intro w' hSw
        try dsimp only at hSw
        go_split_ands
        go_simp
        try simp only [hLn, if_false]
        try with_reducible rfl
      try simp only [Act.put, List.setIfInBounds_toArray, List.set_cons_zero, List.set_cons_succ, List.getElem_toArray, List.getElem_cons_succ, List.getElem_cons_zero]
      refine wpAnyH_take (i := 21) (v := ?_) rfl (by kernel_rfl) (by kernel_rfl) (by kernel_rfl) (fun _ _ _ h => h) (Or.inl ⟨by rfl, ?_⟩) (by assumption) ?_
      rotate_left
      · intro w' hSw
        try dsimp only at hSw
        go_split_ands
        go_simp
        try simp only [hLn, if_false]
        try with_reducible rfl
      try simp only [Act.put, List.setIfInBounds_toArray, List.set_cons_zero, List.set_cons_succ, List.getElem_toArray, List.getElem_cons_succ, List.getElem_cons_zero]
      refine wpAnyH_take (i := 22) (v := ?_) rfl (by kernel_rfl) (by kernel_rfl) (by kernel_rfl) (fun _ _ _ h => h) (Or.inl ⟨by rfl, ?_⟩) (by assumption) ?_
      rotate_left
      · intro w' hSw
        try dsimp only at hSw
        go_split_ands
        go_simp
        try simp only [hLn, if_false]
        try with_reducible rfl
      try simp only [Act.put, List.setIfInBounds_toArray, List.set_cons_zero, List.set_cons_succ, List.getElem_toArray, List.getElem_cons_succ, List.getElem_cons_zero]
      refine wpAnyH_done (by kernel_rfl) ?_ _
      clear hHeld hmI hmJ m1 m2 wk1 mz
      go_wp2_with fail
      go_loopw [12, 68] (fun s12 vi wr2 => SwJ w p b11 b4 b14 c0 m T E M kx ks lx ls (.slice (some ⟨g, 0, none⟩) m vcs) s12 vi wr2) (fun _ vi _ => m - (intOf vi).toNat)
      case atStart => first | exact H6.out _ (Ext.refl _).drew | exact H6.out _ ((Ext.refl _).drewN _) | exact H6.out _ (Ext.refl _)
      case round =>
        clear H6 r0 r1 z0 z1
        obtain ⟨j, mj, D2, rfl, rfl, hj, hmj, hsw2, h⟩ := hrel
        rename World => w9
        obtain ⟨TJ, hTJ⟩ : ∃ t, t = T + j := ⟨_, rfl⟩
        rw [← hTJ] at hmj hsw2 ⊢
        by_cases hjm : j < m
        · have hjI : (j : Int) < (m : Int) := by omega
          have hjI : (j : Int) < (m : Int) := by omega
          obtain ⟨e, he⟩ : ∃ e, M[j]? = some e := ⟨_, List.getElem?_eq_getElem (by rw [HML.out]; exact hjm)⟩
          have hEi : E[plc7 L c j]? = some e := (HMAT.out j hjm).symm.trans he
          have hpj := HPLC.out j hjm
          rw [← hTJ] at hpj
          have hfar : far L c0 (plc7 L c j) = TJ % L := by rw [hpj]; exact far_plc (Nat.mod_lt _ hL0) HC0.out
          obtain ⟨ip, hip⟩ : ∃ i, i = plc7 L c j := ⟨_, rfl⟩
          rw [← hip] at hEi hfar
          have hipL : ip < L := by rw [HL.out]; exact (List.getElem?_eq_some_iff.1 hEi).1
          obtain ⟨mt, hmt⟩ : ∃ q, q = TJ / L := ⟨_, rfl⟩
          have hval := hsw2.val ip e hEi
          rw [← HL.out, (met_hit (far_lt hipL HC0.out) hfar.symm).1, ← hmt] at hval
          have hput := sw_put hsw2 HR.out HWF.out (by rw [← HL.out]; exact HC0.out) hEi (by rw [← HL.out]; exact hfar)
          rw [← HL.out, ← hmt] at hput
          have hwf := HWF.out e (List.mem_of_getElem? hEi)
          obtain ⟨g', eg, q0, q1, q2⟩ := sw_entry h.swap hjm he
          injection eg with eg
          injection eg with eg1 eg2 eg3
          subst eg1
          clear eg2 eg3
          have hmt2 : mt ≤ 4000 := by rw [hmt]; have := Nat.div_le_self TJ L; omega
          have hq : Int.tdiv (TJ : Int) (L : Int) = (mt : Int) := by rw [hmt]; rfl
          obtain ⟨⟨ea, es⟩, ev⟩ := e
          simp only at q0 q1 q2 hwf
          have HKO := Lib.hid (keyOf_key ea es hwf.1 hwf.2)
          have HV := Lib.hid (i64_at hval)
          have HPUT := Lib.hid hput
          have hA := Go.Proofs.Ytekdahppacghbab.Own.blkNew h #[.int .u64 ea, .int .u64 es, .int .i64 ev] 49
          obtain ⟨be, hbe⟩ : ∃ b, b = w9.heap.size := ⟨_, rfl⟩
          rw [← hbe] at hA
          have HB := Lib.hid hA.swap
          have HCB : Hid (∀ (P : HP) (l : List HP) (w' : World), Own (P :: Go.Proofs.Ytekdahppacghbab.Blk be #[.int .u64 ea, .int .u64 es, .int .i64 ev] 49 :: l) w' → w'.cell? ⟨be, 0, none⟩ = some (.int .u64 ea) ∧ w'.cell? ⟨be, 1, none⟩ = some (.int .u64 es)) := Lib.hid fun P l w' h' => by
            have hk := Go.Proofs.Ytekdahppacghbab.Own.blk h' (.tail _ (.head _))
            simp [World.cell?, hk]
          have HBE := Lib.hid hbe
          have hLz : ¬ (L : Int) = 0 := by omega
          have hLn : (L = 0) = False := by simp; omega
          have mmn : ((mt : Int) != (mt : Int)) = false := by simp
          have wm0 : IntKind.i64.wrap (mt : Int) = (mt : Int) := by rw [IntKind.wrap_i64]; omega
          have wm : IntKind.i64.wrap ((mt : Int) + 1) = (mt : Int) + 1 := by rw [IntKind.wrap_i64]; omega
          have HMJ := Lib.hid hmj
          have HTJ := Lib.hid hTJ
          have hTJ2 : TJ ≤ 4000 := by omega
          clear h he hEi hpj hfar hip hipL hval hput hwf hA hbe hsw2 hmt hmj hTJ
          go_upto_region 12 with fail
          rw [← HBE.out]
          have hz12 := HB.out.step (Ext.refl _).drew
          refine wp_region_held_drew (S := fun w' => (∃ l, Own (MM b11 mj D2 :: l) w') ∧ w'.cell? ⟨be, 0, none⟩ = some (.int .u64 ea) ∧ w'.cell? ⟨be, 1, none⟩ = some (.int .u64 es)) (by kernel_rfl) ⟨⟨_, hz12⟩, (HCB.out _ _ _ hz12).1, (HCB.out _ _ _ hz12).2⟩ (fun hHeld => ?_)
          refine wpAnyH_take (i := 0) (v := ?_) rfl (by kernel_rfl) (by kernel_rfl) (by kernel_rfl) (fun _ _ _ h => h) (Or.inl ⟨by rfl, ?_⟩) (by assumption) ?_
          rotate_left
          · intro w' hSw
            try dsimp only at hSw
            go_split_ands
            go_simp
            try simp only [hLn, if_false]
            try with_reducible rfl
          try simp only [Act.put, List.setIfInBounds_toArray, List.set_cons_zero, List.set_cons_succ, List.getElem_toArray, List.getElem_cons_succ, List.getElem_cons_zero]
          refine wpAnyH_take (i := 1) (v := ?_) rfl (by kernel_rfl) (by kernel_rfl) (by kernel_rfl) (fun _ _ _ h => h) (Or.inl ⟨by rfl, ?_⟩) (by assumption) ?_
          rotate_left
          · intro w' hSw
            try dsimp only at hSw
            go_split_ands
            go_simp
            try simp only [hLn, if_false]
            try with_reducible rfl
          try simp only [Act.put, List.setIfInBounds_toArray, List.set_cons_zero, List.set_cons_succ, List.getElem_toArray, List.getElem_cons_succ, List.getElem_cons_zero]
          refine wpAnyH_take (i := 2) (v := ?_) rfl (by kernel_rfl) (by kernel_rfl) (by kernel_rfl) (fun _ _ _ h => h) (Or.inl ⟨by rfl, ?_⟩) (by assumption) ?_
          rotate_left
          · intro w' hSw
            try dsimp only at hSw
            go_split_ands
            go_simp
            try simp only [hLn, if_false]
            try with_reducible rfl
          try simp only [Act.put, List.setIfInBounds_toArray, List.set_cons_zero, List.set_cons_succ, List.getElem_toArray, List.getElem_cons_succ, List.getElem_cons_zero]
          refine wpAnyH_take (i := 3) (v := .int .i64 (mt : Int)) rfl (by kernel_rfl) (by kernel_rfl) (by kernel_rfl) (fun _ _ _ h => h) (yields_look (by rfl) _ _ 53 rfl 24 3 key_keyed Try.underlying53 (plainElem Try.prog 3) zeroI (il 0) (i64_mk (by decide)) b11 mj D2 rfl (fun w hS => hS.1) (Tr.key ea es) (KL ea es) rfl HKO.out (.int .i64 (mt : Int)) HV.out) (by assumption) ?_
          try simp only [Act.put, List.setIfInBounds_toArray, List.set_cons_zero, List.set_cons_succ, List.getElem_toArray, List.getElem_cons_succ, List.getElem_cons_zero]
          refine wpAnyH_take (i := 4) (v := ?_) rfl (by kernel_rfl) (by kernel_rfl) (by kernel_rfl) (fun _ _ _ h => h) (Or.inl ⟨by rfl, ?_⟩) (by assumption) ?_
          rotate_left
          · intro w' hSw
            try dsimp only at hSw
            go_split_ands
            go_simp
            try simp only [hLn, if_false]
            try with_reducible rfl
          try simp only [Act.put, List.setIfInBounds_toArray, List.set_cons_zero, List.set_cons_succ, List.getElem_toArray, List.getElem_cons_succ, List.getElem_cons_zero]
          refine wpAnyH_take (i := 5) (v := ?_) rfl (by kernel_rfl) (by kernel_rfl) (by kernel_rfl) (fun _ _ _ h => h) (Or.inl ⟨by rfl, ?_⟩) (by assumption) ?_
          rotate_left
          · intro w' hSw
            try dsimp only at hSw
            go_split_ands
            go_simp
            try simp only [hLn, if_false]
            try with_reducible rfl
          try simp only [Act.put, List.setIfInBounds_toArray, List.set_cons_zero, List.set_cons_succ, List.getElem_toArray, List.getElem_cons_succ, List.getElem_cons_zero]
          refine wpAnyH_take (i := 6) (v := ?_) rfl (by kernel_rfl) (by kernel_rfl) (by kernel_rfl) (fun _ _ _ h => h) (Or.inl ⟨by rfl, ?_⟩) (by assumption) ?_
          rotate_left
          · intro w' hSw
            try dsimp only at hSw
            go_split_ands
            go_simp
            try simp only [hLn, if_false]
            try with_reducible rfl
          try simp only [Act.put, List.setIfInBounds_toArray, List.set_cons_zero, List.set_cons_succ, List.getElem_toArray, List.getElem_cons_succ, List.getElem_cons_zero]
          refine wpAnyH_take (i := 7) (v := ?_) rfl (by kernel_rfl) (by kernel_rfl) (by kernel_rfl) (fun _ _ _ h => h) (Or.inl ⟨by rfl, ?_⟩) (by assumption) ?_
          rotate_left
          · intro w' hSw
            try dsimp only at hSw
            go_split_ands
            go_simp
            try simp only [hLn, if_false]
            try with_reducible rfl
          try simp only [Act.put, List.setIfInBounds_toArray, List.set_cons_zero, List.set_cons_succ, List.getElem_toArray, List.getElem_cons_succ, List.getElem_cons_zero]
          refine wpAnyH_take (i := 8) (v := ?_) rfl (by kernel_rfl) (by kernel_rfl) (by kernel_rfl) (fun _ _ _ h => h) (Or.inl ⟨by rfl, ?_⟩) (by assumption) ?_
          rotate_left
          · intro w' hSw
            try dsimp only at hSw
            go_split_ands
            go_simp
            try simp only [hLn, if_false]
            try with_reducible rfl
          try simp only [Act.put, List.setIfInBounds_toArray, List.set_cons_zero, List.set_cons_succ, List.getElem_toArray, List.getElem_cons_succ, List.getElem_cons_zero]
          refine wpAnyH_done (by kernel_rfl) ?_ _
          clear hHeld
          go_upto_region 14 with fail
          have hz14 := hz12.step (Ext.refl _).drew
          have hc14 := HCB.out _ _ _ hz14
          refine wp_region_held_drew (S := fun w' => w'.cell? ⟨be, 0, none⟩ = some (.int .u64 ea) ∧ w'.cell? ⟨be, 1, none⟩ = some (.int .u64 es)) (by kernel_rfl) hc14 (fun hHeld => ?_)
          refine wpAnyH_take (i := 0) (v := ?_) rfl (by kernel_rfl) (by kernel_rfl) (by kernel_rfl) (fun _ _ _ h => h) (Or.inl ⟨by rfl, ?_⟩) (by assumption) ?_
          rotate_left
          · intro w' hSw
            try dsimp only at hSw
            go_split_ands
            go_simp
            try simp only [hLn, if_false]
            try with_reducible rfl
          try simp only [Act.put, List.setIfInBounds_toArray, List.set_cons_zero, List.set_cons_succ, List.getElem_toArray, List.getElem_cons_succ, List.getElem_cons_zero]
          refine wpAnyH_take (i := 1) (v := ?_) rfl (by kernel_rfl) (by kernel_rfl) (by kernel_rfl) (fun _ _ _ h => h) (Or.inl ⟨by rfl, ?_⟩) (by assumption) ?_
          rotate_left
          · intro w' hSw
            try dsimp only at hSw
            go_split_ands
            go_simp
            try simp only [hLn, if_false]
            try with_reducible rfl
          try simp only [Act.put, List.setIfInBounds_toArray, List.set_cons_zero, List.set_cons_succ, List.getElem_toArray, List.getElem_cons_succ, List.getElem_cons_zero]
          refine wpAnyH_take (i := 2) (v := ?_) rfl (by kernel_rfl) (by kernel_rfl) (by kernel_rfl) (fun _ _ _ h => h) (Or.inl ⟨by rfl, ?_⟩) (by assumption) ?_
          rotate_left
          · intro w' hSw
            try dsimp only at hSw
            go_split_ands
            go_simp
            try simp only [hLn, if_false]
            try with_reducible rfl
          try simp only [Act.put, List.setIfInBounds_toArray, List.set_cons_zero, List.set_cons_succ, List.getElem_toArray, List.getElem_cons_succ, List.getElem_cons_zero]
          obtain ⟨st2, es1, clk, w14, hrunE, hMB, hLK, hST⟩ := entry_all key_law Try.underlying53 zeroI (il 0) (i64_mk (by decide)) hz14 (by unfold maxLen; have := HMJ.out; omega) HKO.out (.int .i64 (mt : Int)) HV.out
          obtain ⟨w15, hrunS, h15⟩ := hST w14 _ (.int .i64 ((mt : Int) + 1)) (il ((mt : Int) + 1)) hMB (i64_mk (by have := wf_i64 (n := mt + 1) (by omega); rw [Int.natCast_add] at this; exact this))
          have HXJ : Hid (SwJ w p b11 b4 b14 c0 m T E M kx ks lx ls (.slice (some ⟨g, 0, none⟩) m vcs) (.int .i64 ((TJ : Int) + 1)) (.int .i64 ((j : Int) + 1)) w15) := Lib.hid ⟨j + 1, mj + 1, _, by go_num, by rw [show T + (j + 1) = TJ + 1 by have := HTJ.out; omega]; go_num, by omega, by have := HMJ.out; have := HTJ.out; omega, by rw [show T + (j + 1) = TJ + 1 by have := HTJ.out; omega]; exact HPUT.out, h15.swap.drop⟩
          have cMB := HCB.out _ _ _ hMB
          have c15 := HCB.out _ _ _ h15
          have HLK := Lib.hid hLK
          have HRE := Lib.hid hrunE
          have HRS := Lib.hid hrunS
          have HLR := Lib.hid (look_run key_keyed Try.underlying53 zeroI (il 0) (i64_mk (by decide)) hz14 HKO.out _ HV.out)
          have hmb := hMB.mb
          have HMB := Lib.hid hmb
          have HC1 := Lib.hid cMB
          have HC2 := Lib.hid c15
          clear hHeld hLK hST hrunE hrunS cMB c15 hmb hMB h15 hz12 hz14 q0 q1 q2
          have hHeld := hc14
          clear hc14
          refine wpAnyH_ready (rs := [3, 5]) (by kernel_rfl) (by simp) ?_
          refine AllReadyH.cons rfl (fun K hK => ?_) (AllReadyH.cons rfl (fun K hK => ?_) AllReadyH.nil)
          · refine held_lookM _ (by rfl) _ _ _ rfl b11 (Tr.key ea es) (.int .i64 (mt : Int)) rfl rfl HLR.out ?_
            refine hK.out _ _ hHeld (fun hHeld2 => ?_)
            clear hK K hHeld
            try simp only [Act.put, List.setIfInBounds_toArray, List.set_cons_zero, List.set_cons_succ, List.getElem_toArray, List.getElem_cons_succ, List.getElem_cons_zero]
            refine wpAnyH_take (i := 4) (v := ?_) rfl (by kernel_rfl) (by kernel_rfl) (by kernel_rfl) (fun _ _ _ h => h) (Or.inl ⟨by rfl, ?_⟩) (by assumption) ?_
            rotate_left
            · intro w' hSw
              try dsimp only at hSw
              go_split_ands
              go_simp
              try simp only [hLn, if_false]
              try with_reducible rfl
            try simp only [Act.put, List.setIfInBounds_toArray, List.set_cons_zero, List.set_cons_succ, List.getElem_toArray, List.getElem_cons_succ, List.getElem_cons_zero]
            refine wpAnyH_ready (rs := [5]) (by kernel_rfl) (by simp) ?_
            refine AllReadyH.cons rfl (fun K hK => ?_) AllReadyH.nil
            refine held_entryM _ w14 (by rfl) _ _ _ rfl b11 (Tr.key ea es) _ rfl rfl HRE.out ?_
            refine hK.out _ _ HC1.out (fun hHeld => ?_)
            clear hK K hHeld2
            try simp only [Act.put, List.setIfInBounds_toArray, List.set_cons_zero, List.set_cons_succ, List.getElem_toArray, List.getElem_cons_succ, List.getElem_cons_zero]
            refine wpAnyH_take (i := 6) (v := ?_) rfl (by kernel_rfl) (by kernel_rfl) (by kernel_rfl) (fun _ _ _ h => h) (Or.inl ⟨by rfl, ?_⟩) (by assumption) ?_
            rotate_left
            · intro w' hSw
              try dsimp only at hSw
              go_split_ands
              go_simp
              try simp only [hLn, if_false]
              try with_reducible rfl
            try simp only [Act.put, List.setIfInBounds_toArray, List.set_cons_zero, List.set_cons_succ, List.getElem_toArray, List.getElem_cons_succ, List.getElem_cons_zero]
            refine wpAnyH_ready (rs := [7]) (by kernel_rfl) (by simp) ?_
            refine AllReadyH.cons rfl (fun K hK => ?_) AllReadyH.nil
            refine held_estoreM _ w15 (by rfl) _ _ _ _ rfl b11 (goInt st2) (.int .i64 ((mt : Int) + 1)) rfl rfl rfl HRS.out ?_
            refine hK.out _ _ HC2.out (fun hHeld3 => ?_)
            clear hK K hHeld hHeld3
            try simp only [Act.put, List.setIfInBounds_toArray, List.set_cons_zero, List.set_cons_succ, List.getElem_toArray, List.getElem_cons_succ, List.getElem_cons_zero]
            refine wpAnyH_done (by kernel_rfl) ?_ _
            go_wp2_with fail
            exact ⟨HXJ.out, by simp [intOf]; omega⟩
          · refine held_entryM _ w14 (by rfl) _ _ _ rfl b11 (Tr.key ea es) _ rfl rfl HRE.out ?_
            refine hK.out _ _ HC1.out (fun hHeld2 => ?_)
            clear hK K hHeld
            try simp only [Act.put, List.setIfInBounds_toArray, List.set_cons_zero, List.set_cons_succ, List.getElem_toArray, List.getElem_cons_succ, List.getElem_cons_zero]
            refine wpAnyH_take (i := 6) (v := ?_) rfl (by kernel_rfl) (by kernel_rfl) (by kernel_rfl) (fun _ _ _ h => h) (Or.inl ⟨by rfl, ?_⟩) (by assumption) ?_
            rotate_left
            · intro w' hSw
              try dsimp only at hSw
              go_split_ands
              go_simp
              try simp only [hLn, if_false]
              try with_reducible rfl
            try simp only [Act.put, List.setIfInBounds_toArray, List.set_cons_zero, List.set_cons_succ, List.getElem_toArray, List.getElem_cons_succ, List.getElem_cons_zero]
            refine wpAnyH_ready (rs := [3]) (by kernel_rfl) (by simp) ?_
            refine AllReadyH.cons rfl (fun K hK => ?_) AllReadyH.nil
            refine held_lookM _ (by rfl) _ _ _ rfl b11 (Tr.key ea es) (.int .i64 (mt : Int)) rfl rfl (HLK.out _ HMB.out) ?_
            refine hK.out _ _ HC1.out (fun hHeld => ?_)
            clear hK K hHeld2
            try simp only [Act.put, List.setIfInBounds_toArray, List.set_cons_zero, List.set_cons_succ, List.getElem_toArray, List.getElem_cons_succ, List.getElem_cons_zero]
            refine wpAnyH_take (i := 4) (v := ?_) rfl (by kernel_rfl) (by kernel_rfl) (by kernel_rfl) (fun _ _ _ h => h) (Or.inl ⟨by rfl, ?_⟩) (by assumption) ?_
            rotate_left
            · intro w' hSw
              try dsimp only at hSw
              go_split_ands
              go_simp
              try simp only [hLn, if_false]
              try with_reducible rfl
            try simp only [Act.put, List.setIfInBounds_toArray, List.set_cons_zero, List.set_cons_succ, List.getElem_toArray, List.getElem_cons_succ, List.getElem_cons_zero]
            refine wpAnyH_ready (rs := [7]) (by kernel_rfl) (by simp) ?_
            refine AllReadyH.cons rfl (fun K hK => ?_) AllReadyH.nil
            refine held_estoreM _ w15 (by rfl) _ _ _ _ rfl b11 (goInt st2) (.int .i64 ((mt : Int) + 1)) rfl rfl rfl HRS.out ?_
            refine hK.out _ _ HC2.out (fun hHeld3 => ?_)
            clear hK K hHeld hHeld3
            try simp only [Act.put, List.setIfInBounds_toArray, List.set_cons_zero, List.set_cons_succ, List.getElem_toArray, List.getElem_cons_succ, List.getElem_cons_zero]
            refine wpAnyH_done (by kernel_rfl) ?_ _
            go_wp2_with fail
            exact ⟨HXJ.out, by simp [intOf]; omega⟩
        · obtain rfl : j = m := by omega
          obtain ⟨d0, d1⟩ := bk_cells (b := b14) (x := lx) (s := ls) h (.tail _ (.tail _ (.head _)))
          have hb4 := h.fourth
          obtain ⟨f0, f1, f2, f3⟩ := sw_blk2g hb4
          have h8 := sw_blkSet2 hb4 (.int .u64 lx) (.int .u64 ls)
          have HX : Hid (SwI w p b11 b4 c0 L E (.int .i64 (TJ : Int)) ((w9.setCell ⟨b4, 0, none⟩ (.int .u64 lx)).setCell ⟨b4, 1, none⟩ (.int .u64 ls))) := Lib.hid ⟨TJ, mj, lx, ls, D2, rfl, by omega, hmj, hsw2, fun _ => by rw [hTJ]; exact HNX.out, h8.third.drop.third.drop.swap⟩
          have hTI : TJ = T + j := hTJ
          have HTI := Lib.hid hTI
          clear h hb4 h8 hsw2 hmj hTJ hTI
          go_wp2_with fail
          go_roundw
          case rel => exact HX.out
          case measure => simp only [intOf]; have := HTI.out; omega
    · as_aux_lemma =>
      have hsw0 := own_sweep' (n := 0) (M := []) (kx := kx) (ks := ks) HR.out HNN.out (by rw [← HL.out]; omega) (by omega) (by omega) (by unfold sweepL; rfl) rfl rfl h.third
      obtain ⟨k0, k1⟩ := bk_cells (b := b4) (x := kx) (s := ks) h (.tail _ (.head _))
      have hsz : Maps.size D = L := by rw [hsw.size, ← HL.out]; omega
      have HSZ := Lib.hid hsz
      have HSW := Lib.hid hsw0
      have xx : (kx == kx) = true := by simp
      have ss : (ks == ks) = true := by simp
      have ll : ((L : Int) == (L : Int)) = true := by simp
      clear h hsw0 hsw hsz hpl
      go_wp2_with fail
      with_reducible refine (HSW.out).mono ?_
      rintro e w5 ⟨vs, rfl, h5⟩
      obtain ⟨vas, vcs, rfl⟩ := own_slice h5.row
      have h6 := Go.Proofs.Ytekdahppacghbab.Own.blkNew h5 #[.int .u64 kx, .int .u64 ks] 24
      obtain ⟨b18, hb18⟩ : ∃ b, b = w5.heap.size := ⟨_, rfl⟩
      rw [← hb18] at h6
      obtain ⟨z0, z1⟩ := bk_cells (b := b18) (x := kx) (s := ks) h6 (.head _)
      obtain ⟨y0, y1⟩ := bk_cells (b := b4) (x := kx) (s := ks) h6 (.tail _ (.tail _ (.tail _ (.tail _ (.head _)))))
      have hM := h6.fourth
      have HM := Lib.hid hM
      have HO : Hid (Own [Old w] (w5.alloc (.cells #[.int .u64 kx, .int .u64 ks] 24))) := Lib.hid h6.drop.drop.drop.drop.drop
      have HB18 := Lib.hid hb18
      clear h5 h6 hM hb18 HSW
      go_upto_region 19 with fail
      rw [← HB18.out]
      refine wp_region_lit ?_
      go_step
      go_step
      go_step
      at_len
      refine mapD_len _ rfl _ 53 rfl 24 3 Try.underlying53 (plainElem Try.prog 3) b11 mm D rfl HM.out ?_
      rw [HSZ.out]
      go_wp2_with fail
      with_reducible refine (HAW.out _ _ HO.out).mono ?_
      rintro e w10 ⟨rfl, h10⟩
      have H10 := Lib.hid h10
      clear h10 HO
      go_wp2_with fail
      go_ret
      exact ⟨rfl, H10.out.ext (by simp)⟩
end Go.Proofs.Ytekdahppacghbab.Wk
