/- DERIVED. Layer 6 (tree): contract of Drop. -/
import Derived.Test.YtkdmlpigkmlkmaaTrE
import Derived.Test.YtkdmlpigkmlkmaaTrH
import Derived.Deep.CutBlock
set_option linter.unusedVariables false
set_option linter.unusedSimpArgs false
set_option maxRecDepth 100000
namespace Go.Proofs.Ytkdmlpigkmlkmaa.Tr
open Go.RowKit Go.Proofs.Ytkdmlpigkmlkmaa Go.Proofs.Ytkdmlpigkmlkmaa.TreeP

theorem turn_len (S : TS) (x : Nat) (d : Bool) : (TreeP.turn S x d).n.length = S.n.length := by
  unfold TreeP.turn TreeP.hang
  simp only
  split <;> split <;> simp
theorem liftB_len {k : Nat} (ih : ∀ (S : TS) (x : Nat) (S' : TS), TreeP.lift k S x = some S' → S'.n.length = S.n.length) (S : TS) (p : Nat) (d : Bool) (S' : TS) (h : liftB k S p d = some S') : S'.n.length = S.n.length := by
  unfold liftB at h
  by_cases hb : (S.nd ((S.nd ((S.nd p).kid (!d))).kid false)).red = false ∧ (S.nd ((S.nd ((S.nd p).kid (!d))).kid true)).red = false
  · simp only [hb, and_self, ↓reduceIte] at h
    exact (ih _ _ _ h).trans (by rw [len_upd])
  · rw [if_neg hb] at h
    refine (ih _ _ _ h).trans ?_
    rw [turn_len, len_upd, len_upd, len_upd]
    split
    · rfl
    · rw [turn_len, len_upd, len_upd]
theorem lift_len : ∀ (k : Nat) (S : TS) (x : Nat) (S' : TS), TreeP.lift k S x = some S' → S'.n.length = S.n.length
  | 0, _, _, _, h => by simp [TreeP.lift] at h
  | k + 1, S, x, S', h => by
    by_cases hg : x ≠ S.root ∧ (S.nd x).red = false
    · rw [lift_succ k S x hg] at h
      refine (liftB_len (lift_len k) _ _ _ _ h).trans ?_
      split
      · rw [turn_len, len_upd, len_upd]
      · rfl
    · unfold TreeP.lift at h
      rw [if_neg hg] at h
      injection h with h
      rw [← h, len_upd]
section
variable {p g cap many room : Nat} {fr : Value} {free : List Nat} {S : TS} {w : World}
theorem drop_not (h : TL p g cap fr free many room S w) (hr : Rng S) (a s : Int) (l : Nat) (hf : ∃ k, TreeP.find k S (a, s) S.root 0 = some (0, l)) :
    Calls Try.prog 85 #[.pointer (some ⟨p, 0, none⟩), key a s] w fun e w' => e = .returned (.tuple #[.int .i64 0, .bool false]) ∧ TL p g cap fr free many room S w' ∧ Ext w w' := by
  have e1 := (Ext.refl w).alloc (.cells #[.int .u64 a, .int .u64 s] 130)
  have HF := Lib.hid (find_any (h.tw.ext e1) hr a s (0, l) hf)
  have HT := Lib.hid (h.tw.ext e1)
  have E1 := Lib.hid e1
  have H := Lib.hid h
  clear h e1 hf
  go_enter Try.func85, Try.ntmps85
  go_wp2_with (first
    | (go_at_call 91; refine (no_any HT.out).mono ?_; rintro e w' ⟨rfl, rfl⟩)
    | (go_at_call 92; refine (HF.out).mono ?_; rintro e w2 ⟨rfl, h2, hx2⟩))
  go_ret2
  exact ⟨rfl, (H.out.ext E1.out).ext hx2, E1.out.trans hx2⟩
/-- behind the taking out -/
def DM (p g cap : Nat) (fr : Value) (many room N : Nat) (w0 : World) (Sf : TS) (s9 s10 : Value) (wx : World) : Prop :=
  ∃ (red : Bool) (x : Nat) (T : TS) (k : Nat), s9 = .bool red ∧ s10 = .int .i64 (x : Int) ∧ x < N ∧ TW p g cap fr many room T wx ∧ Rng T ∧ T.n.length = N ∧ St p g w0 wx ∧
    (if red then some T else TreeP.lift k T x).map (fun S'' => S''.upd 0 (fun _ => Nd.zero)) = some Sf
def DL (p g cap : Nat) (fr : Value) (many room N : Nat) (w0 : World) (Sf : TS) (wx : World) : Prop :=
  ∃ (T : TS), TW p g cap fr many room T wx ∧ T.n.length = N ∧ St p g w0 wx ∧ T.upd 0 (fun _ => Nd.zero) = Sf
/-- node 0, cleared -/
theorem TW.wzero (h : TW p g cap fr many room S w) (hi : 0 < S.n.length) :
    ∃ w1, (((((((w.setCell ⟨g, 0, none⟩ (.int .u64 0)).setCell ⟨g, 1, none⟩ (.int .u64 0)).setCell ⟨g, 2, none⟩ (.int .i64 0)).setCell ⟨g, 3, none⟩ (.int .i64 0)).setCell ⟨g, 4, none⟩ (.int .i64 0)).setCell ⟨g, 5, none⟩ (.int .i64 0)).setCell ⟨g, 6, none⟩ (.bool false)) = w1 ∧
      TW p g cap fr many room (S.upd 0 (fun _ => Nd.zero)) w1 ∧ St p g w w1 := by
  obtain ⟨S1, w1, e1, q1, h1, s1⟩ := h.wr (i := 0) (c := 0) (f := fun x => { x with a := 0 }) (v := .int .u64 0) hi (by omega) rfl
  have l1 : S1.n.length = S.n.length := by rw [e1, len_upd]
  obtain ⟨S2, w2, e2, q2, h2, s2⟩ := h1.wr (i := 0) (c := 1) (f := fun x => { x with s := 0 }) (v := .int .u64 0) (by omega) (by omega) rfl
  have l2 : S2.n.length = S.n.length := by rw [e2, len_upd, l1]
  obtain ⟨S3, w3, e3, q3, h3, s3⟩ := h2.wr (i := 0) (c := 2) (f := fun x => { x with v := 0 }) (v := .int .i64 0) (by omega) (by omega) rfl
  have l3 : S3.n.length = S.n.length := by rw [e3, len_upd, l2]
  obtain ⟨S4, w4, e4, q4, h4, s4⟩ := h3.wr (i := 0) (c := 3) (f := fun x => { x with k0 := 0 }) (v := .int .i64 0) (by omega) (by omega) rfl
  have l4 : S4.n.length = S.n.length := by rw [e4, len_upd, l3]
  obtain ⟨S5, w5, e5, q5, h5, s5⟩ := h4.wr (i := 0) (c := 4) (f := fun x => { x with k1 := 0 }) (v := .int .i64 0) (by omega) (by omega) rfl
  have l5 : S5.n.length = S.n.length := by rw [e5, len_upd, l4]
  obtain ⟨S6, w6, e6, q6, h6, s6⟩ := h5.wr (i := 0) (c := 5) (f := fun x => { x with up := 0 }) (v := .int .i64 0) (by omega) (by omega) rfl
  have l6 : S6.n.length = S.n.length := by rw [e6, len_upd, l5]
  obtain ⟨S7, w7, e7, q7, h7, s7⟩ := h6.wr (i := 0) (c := 6) (f := fun x => { x with red := false }) (v := .bool false) (by omega) (by omega) rfl
  have e : S7 = S.upd 0 (fun _ => Nd.zero) := by
    rw [e7, e6, e5, e4, e3, e2, e1]
    rw [upd_upd _ _ _ _ hi, upd_upd _ _ _ _ hi, upd_upd _ _ _ _ hi, upd_upd _ _ _ _ hi, upd_upd _ _ _ _ hi, upd_upd _ _ _ _ hi]
    rfl
  refine ⟨w7, ?_, e ▸ h7, (((((s1.trans s2).trans s3).trans s4).trans s5).trans s6).trans s7⟩
  rw [show w.setCell ⟨g, 0, none⟩ (.int .u64 0) = w1 from q1, show w1.setCell ⟨g, 1, none⟩ (.int .u64 0) = w2 from q2, show w2.setCell ⟨g, 2, none⟩ (.int .i64 0) = w3 from q3, show w3.setCell ⟨g, 3, none⟩ (.int .i64 0) = w4 from q4,
    show w4.setCell ⟨g, 4, none⟩ (.int .i64 0) = w5 from q5, show w5.setCell ⟨g, 5, none⟩ (.int .i64 0) = w6 from q6, show w6.setCell ⟨g, 6, none⟩ (.bool false) = w7 from q7]
theorem infoInt : (Try.prog.info? 3).map (fun i => (i.zero, i.size, i.bytes)) = some (some (.int .i64 0), 1, 8) := by kernel_rfl
/-- behind an append of a free node -/
theorem TL.appF (h : TL p g cap fr free many room S w) {v1 : Value} {w1 : World} {z : Nat} (ho : w1.ownsRow 0 3 1 v1 (free.length + 1) (ints free ++ [.int .i64 z])) (hg : w.grownBy w1 fr.ownBlock) (hm : Moved w fr v1) :
    ∃ fg fcap, v1 = .slice (some ⟨fg, 0, none⟩) (free.length + 1) fcap ∧ w1.cell? ⟨p, 1, none⟩ = some fr ∧ w1.frozen? ⟨p, 1, none⟩ = false ∧
      TL p g cap v1 (free ++ [z]) many room S (w1.setCell ⟨p, 1, none⟩ v1) ∧ Step (foot p g fr) w (w1.setCell ⟨p, 1, none⟩ v1) ∧ ∀ b, v1.ownBlock = some b → fr.ownBlock = some b ∨ w.heap.size ≤ b := by
  obtain ⟨fg, fcap, rfl, hc, hcm⟩ := own_cap ho (by omega)
  have hp := (Array.getElem?_eq_some_iff.1 h.tw.obj).1
  have hgl := (h.tw.row.lt g rfl).2
  have hgg : fr.ownBlock = some fg ∨ w.heap.size ≤ fg := by
    rcases hm with e | ⟨b, e, hb⟩
    · exact .inl (e ▸ rfl)
    · injection e with e
      subst e
      exact .inr hb
  have hgp : fg ≠ p := by
    rcases hgg with e | e
    · intro e'; exact h.fp (e' ▸ e)
    · omega
  have hgg2 : fg ≠ g := by
    rcases hgg with e | e
    · intro e'; exact h.fg (e' ▸ e)
    · omega
  have hobj : w1.heap[p]? = w.heap[p]? := hg.block p hp (fun e => h.fp e.symm)
  refine ⟨fg, fcap, rfl, ?_, ?_, ⟨⟨?_, ?_, h.tw.ne⟩, ?_, by simpa [Value.ownBlock] using hgp, by simpa [Value.ownBlock] using hgg2⟩, ?_, fun b hb => ?_⟩
  · have := h.tw.c1
    simpa [World.cell?, hobj] using this
  · have := h.tw.pf 1
    simpa [World.frozen?, hobj] using this
  · rw [heap_set _ (hobj.trans h.tw.obj)]
    simp
  · refine ownsRow_keep h.tw.row (fun b hb => ?_)
    injection hb with hb
    subst hb
    rw [heap_other _ h.tw.ne]
    exact hg.block _ hgl (fun e => h.fg e.symm)
  · have e : ints (free ++ [z]) = ints free ++ [.int .i64 z] := by simp [ints]
    rw [List.length_append, List.length_cons, List.length_nil, e]
    refine ownsRow_keep ho (fun b hb => heap_other _ ?_)
    injection hb with hb
    subst hb
    exact hgp
  · exact Step.setCell ((Step.refl _ w).grown hg (fun k hk => .inl (.inr (.inr hk)))) _ (.inl (.inl rfl)) _
  · simp only [Value.ownBlock, Option.some.injEq] at hb
    exact hb ▸ hgg
def LMI (N : Nat) (S : TS) (yf : Nat) (y : Value) (k : Nat) : Prop := ∃ y' : Nat, y = .int .i64 (y' : Int) ∧ y' < N ∧ TreeP.leftmost k S y' = some yf
set_option maxHeartbeats 4000000 in

theorem drop_ok (h : TL p g cap fr free many room S w) (hr : Rng S) (a s : Int) (z : Nat) (hz : z ≠ 0) (hzl : z < S.n.length) (hroom : room ≤ 65536) (hm : 1 ≤ many) (hmr : many ≤ room) (hfree : free.length < room) (hf : ∃ k, TreeP.find k S (a, s) S.root 0 = some (z, z)) (Sf : TS) (hd : ∃ k, TreeP.dropS k S z = some Sf) :
    Calls Try.prog 85 #[.pointer (some ⟨p, 0, none⟩), key a s] w fun e w' => e = .returned (.tuple #[.int .i64 (S.nd z).v, .bool true]) ∧ Turned p g fr (free ++ [z]) (many - 1) room Sf w w' := by
  have e1 := (Ext.refl w).alloc (.cells #[.int .u64 a, .int .u64 s] 130)
  have HF := Lib.hid (find_any (h.tw.ext e1) hr a s (z, z) hf)
  have HT := Lib.hid (h.tw.ext e1)
  have E1 := Lib.hid e1
  have H := Lib.hid h
  have H0 := Lib.hid h
  have hne : g ≠ p := h.tw.ne
  have hne' : p ≠ g := Ne.symm h.tw.ne
  have z2 : ((z : Int) == 0) = false := by simp; omega
  obtain ⟨N, hN⟩ : ∃ N, N = S.n.length := ⟨_, rfl⟩
  rw [← hN] at hzl
  have z1 : (z : Int) < N := by omega
  obtain ⟨V, hV⟩ : ∃ V, V = (S.nd z).v := ⟨_, rfl⟩
  rw [← hV]
  have HN := Lib.hid hN
  have HV := Lib.hid hV
  have HD := Lib.hid hd
  have HR := Lib.hid hr
  clear h e1 hf hN hd hr hV
  go_enter Try.func85, Try.ntmps85
  go_upto_if 21 with (first
    | (go_at_call 91; refine (no_any HT.out).mono ?_; rintro e w' ⟨rfl, rfl⟩)
    | (go_at_call 92; refine (HF.out).mono ?_; rintro e w2 ⟨rfl, h2, hx2⟩))
  have h3 := (H.out.ext E1.out).ext hx2
  have s3 := E1.out.trans hx2
  have c0 := h3.tw.c0
  rw [← HN.out] at c0
  have hN := HN.out
  have cv := h3.tw.v (i := z) (by omega)
  rw [← HV.out] at cv
  have cr := h3.tw.red (i := z) (by omega)
  have k0 := h3.tw.k0 (i := z) (by omega)
  have k1 := h3.tw.k1 (i := z) (by omega)
  obtain ⟨rz, erz⟩ : ∃ rz, rz = (S.nd z).red := ⟨_, rfl⟩
  rw [← erz] at cr
  have ERZ := Lib.hid erz
  have H3 := Lib.hid h3
  have S3 := Lib.hid s3
  clear erz h3 s3 h2 hx2 HT HF E1 H hN
  go_upto_block 0 with fail
  go_cut [9, 10] from 11 (fun s9 s10 wx => DM p g cap fr many room N w Sf s9 s10 wx)
  case first =>
    as_aux_lemma =>
      obtain ⟨k, hd⟩ := HD.out
      clear HD
      have hN := HN.out
      have hr := HR.out
      have h3 := H3.out.tw
      obtain ⟨a0, ea0⟩ : ∃ a0, a0 = (S.nd z).k0 := ⟨_, rfl⟩
      obtain ⟨a1, ea1⟩ : ∃ a1, a1 = (S.nd z).k1 := ⟨_, rfl⟩
      have ha0 : a0 < N := by rw [ea0, hN]; exact hr.k0 z
      have ha1 : a1 < N := by rw [ea1, hN]; exact hr.k1 z
      have erz := ERZ.out
      unfold TreeP.dropS at hd
      simp only at hd
      rw [← ea0, ← ea1, ← erz] at hd
      rw [← ea0] at k0
      rw [← ea1] at k1
      by_cases h0 : a0 = 0
      · rw [if_pos h0] at hd
        simp only [Option.bind_some] at hd
        have b0 : ((a0 : Int) == 0) = true := by simp [h0]
        have r4 := hr.hang (x := a1) (q := z) (by omega)
        have HP : Hid (∀ w4, TW p g cap fr many room (TreeP.hang S a1 z) w4 → St p g w2 w4 → DM p g cap fr many room N w Sf (.bool rz) (.int .i64 a1) w4) := Lib.hid fun w4 h4 s4 =>
          ⟨rz, a1, _, k, rfl, rfl, ha1, h4, r4.1, by rw [r4.2, hN], (Step.of_ext S3.out).trans s4, hd⟩
        have HT := Lib.hid (hang_any h3 hr a1 z (by omega) (by omega))
        clear hd h0 hN hr h3 ea0 ea1 erz r4 H3 S3 HR HN HV cv
        go_wp2_with fail
        refine (HT.out).mono ?_
        rintro e w4 ⟨rfl, h4, s4⟩
        have hP := HP.out w4 h4 s4
        have HP2 := Lib.hid hP
        clear hP h4 s4 HP HT c0 cr k0 k1
        go_wp2_with fail
        go_meet
        case rel => exact HP2.out
      · rw [if_neg h0] at hd
        have b0 : ((a0 : Int) == 0) = false := by simp; omega
        by_cases h1 : a1 = 0
        · rw [if_pos h1] at hd
          simp only [Option.bind_some] at hd
          have b1 : ((a1 : Int) == 0) = true := by simp [h1]
          have r4 := hr.hang (x := a0) (q := z) (by omega)
          have HP : Hid (∀ w4, TW p g cap fr many room (TreeP.hang S a0 z) w4 → St p g w2 w4 → DM p g cap fr many room N w Sf (.bool rz) (.int .i64 a0) w4) := Lib.hid fun w4 h4 s4 =>
            ⟨rz, a0, _, k, rfl, rfl, ha0, h4, r4.1, by rw [r4.2, hN], (Step.of_ext S3.out).trans s4, hd⟩
          have HT := Lib.hid (hang_any h3 hr a0 z (by omega) (by omega))
          clear hd h0 h1 hN hr h3 ea0 ea1 erz r4 H3 S3 HR HN HV cv
          go_wp2_with fail
          refine (HT.out).mono ?_
          rintro e w4 ⟨rfl, h4, s4⟩
          have hP := HP.out w4 h4 s4
          have HP2 := Lib.hid hP
          clear hP h4 s4 HP HT c0 cr k0 k1
          go_wp2_with fail
          go_meet
          case rel => exact HP2.out
        · rw [if_neg h1] at hd
          have b1 : ((a1 : Int) == 0) = false := by simp; omega
          obtain ⟨yf, hyf⟩ : ∃ yf, TreeP.leftmost k S a1 = some yf := by
            cases hc : TreeP.leftmost k S a1 with
            | none => rw [hc] at hd; simp at hd
            | some y => exact ⟨y, rfl⟩
          rw [hyf] at hd
          simp only [Option.map_some, Option.bind_some] at hd
          have HL : Hid (∃ k, LMI N S yf (.int .i64 a1) k) := Lib.hid ⟨k, a1, rfl, ha1, hyf⟩
          have HD := Lib.hid hd
          have EA1 := Lib.hid ea1
          clear hd hyf h0 h1 hN hr h3 ea0 ea1 erz ha0 ha1 HV cv
          go_wp2_with fail
          go_loop [11] (fun y => ∃ k, LMI N S yf y k) (fun y => least (LMI N S yf y))
          case atStart => exact HL.out
          case round =>
            clear HL cr k0 k1 b0 b1
            obtain ⟨hP, -⟩ := least_spec hrel
            clear hrel
            obtain ⟨j, ej⟩ : ∃ j, j = least (LMI N S yf u11) := ⟨_, rfl⟩
            rw [← ej] at hP
            have EJ := Lib.hid ej
            clear ej
            obtain ⟨y, rfl, hy, hl⟩ := hP
            cases j with
            | zero => simp [TreeP.leftmost] at hl
            | succ j =>
              unfold TreeP.leftmost at hl
              have hN := HN.out
              have h3 := H3.out.tw
              have hr := HR.out
              have y1 : (y : Int) < N := by omega
              have ky := h3.k0 (i := y) (by omega)
              obtain ⟨yk, eyk⟩ : ∃ yk, yk = (S.nd y).k0 := ⟨_, rfl⟩
              have hyk : yk < N := by rw [eyk, hN]; exact hr.k0 y
              rw [← eyk] at ky hl
              by_cases hy0 : yk = 0
              · rw [if_neg (by simp [hy0])] at hl
                injection hl with hl
                subst hl
                have yb : ((yk : Int) != 0) = false := by simp [hy0]
                have k1 := h3.k1 (i := y) (by omega)
                have cr := h3.red (i := y) (by omega)
                have cu := h3.up (i := y) (by omega)
                obtain ⟨x, ex⟩ : ∃ x, x = (S.nd y).k1 := ⟨_, rfl⟩
                obtain ⟨ry, ery⟩ : ∃ ry, ry = (S.nd y).red := ⟨_, rfl⟩
                obtain ⟨u, eu⟩ : ∃ u, u = (S.nd y).up := ⟨_, rfl⟩
                have hd := HD.out
                rw [← ex, ← ery, ← eu] at hd
                rw [← ex] at k1
                rw [← ery] at cr
                rw [← eu] at cu
                have hx : x < N := by rw [ex, hN]; exact hr.k1 y
                have x1 : (x : Int) < N := by omega
                obtain ⟨S2, eS2⟩ : ∃ S2, S2 = (if u = z then S.upd x (Nd.setUp y) else (((TreeP.hang S x y).upd y (Nd.setKid true ((TreeP.hang S x y).nd z).k1)).upd (((TreeP.hang S x y).upd y (Nd.setKid true ((TreeP.hang S x y).nd z).k1)).nd y).k1 (Nd.setUp y))) := ⟨_, rfl⟩
                rw [← eS2] at hd
                have HD' := Lib.hid hd
                have H2 := Lib.hid eS2
                have R2 : Hid (Rng S2 ∧ S2.n.length = N) := Lib.hid (by
                  rw [eS2]
                  split
                  · exact ⟨hr.sup (by omega) (by omega), by simp [hN]⟩
                  · obtain ⟨q1, q2⟩ := hr.hang (x := x) (q := y) (by omega)
                    have q3 := q1.skid (i := y) (y := ((TreeP.hang S x y).nd z).k1) true (by omega) (q1.k1 z)
                    exact ⟨q3.sup (q3.k1 y) (by simp; omega), by simp [q2, hN]⟩)
                have hxc := hang_any (h3.drewN 1) hr x y (by omega) (by omega)
                have HX : Hid (∀ n, Calls Try.prog 95 #[.pointer (some ⟨p, 0, none⟩), .int .i64 x, .int .i64 y] (w2.drewN n) fun e w' => e = .returned (.tuple #[]) ∧ TW p g cap fr many room (TreeP.hang S x y) w' ∧ St p g (w2.drewN n) w') := Lib.hid fun n => hang_any (h3.drewN n) hr x y (by omega) (by omega)
                have HU : Hid (∀ n, ∃ S1 w1, S1 = S.upd x (Nd.setUp y) ∧ (w2.drewN n).setCell ⟨g, x * 7 + 5, none⟩ (.int .i64 y) = w1 ∧ TW p g cap fr many room S1 w1 ∧ St p g (w2.drewN n) w1) := Lib.hid fun n => (h3.drewN n).wup (by omega) y
                have cx := h3.up (i := x) (by omega)
                have fx := h3.gf hr.pos (x * 7 + 5)
                clear hxc hd eS2 eyk hy0 hyk HD ex ery eu h3 hr hN
                go_wp2_with fail
                go_quiet (fail)
                go_upto_if 92 with fail
                go_cut [10] from 12 (fun s10 wx => s10 = .int .i64 (x : Int) ∧ TW p g cap fr many room S2 wx ∧ St p g w2 wx)
                case first =>
                  as_aux_lemma =>
                    by_cases huz : u = z
                    · have ub : ((u : Int) == (z : Int)) = true := by simp [huz]
                      have e2 : S2 = S.upd x (Nd.setUp y) := by rw [H2.out, if_pos huz]
                      have E2 := Lib.hid e2
                      clear huz e2 H2 R2 HD'
                      go_wp2_with fail
                      go_meet
                      case rel =>
                        obtain ⟨S1, w1, q1, q2, q3, q4⟩ := HU.out nq
                        rw [q2]
                        exact ⟨rfl, by rw [E2.out, ← q1]; exact q3, ((Step.refl _ _).drewN nq).trans q4⟩
                    · have ub : ((u : Int) == (z : Int)) = false := by simp; omega
                      have e2 := H2.out
                      rw [if_neg huz] at e2
                      have E2 := Lib.hid e2
                      obtain ⟨T, eT⟩ : ∃ T, T = TreeP.hang S x y := ⟨_, rfl⟩
                      obtain ⟨rT, lT⟩ := HR.out.hang (x := x) (q := y) (by rw [← HN.out]; exact hx)
                      rw [← HN.out] at lT
                      rw [← eT] at rT lT
                      have RT := Lib.hid rT
                      have LT := Lib.hid lT
                      have ET := Lib.hid eT
                      clear huz e2 H2 R2 HD' HU eT rT lT
                      go_wp2_with fail
                      refine (HX.out _).mono ?_
                      rintro e w4 ⟨rfl, h4, s4⟩
                      rw [← ET.out] at h4
                      have s4' := ((Step.refl (fun b => b = p ∨ b = g) w2).drewN nq).trans s4
                      clear s4 HX c0 cr k1 cu cx fx ky
                      have lT := LT.out
                      have d0 := h4.c0
                      rw [lT] at d0
                      have kz := h4.k1 (i := z) (by omega)
                      obtain ⟨b, eb⟩ : ∃ b, b = (T.nd z).k1 := ⟨_, rfl⟩
                      rw [← eb] at kz
                      have hb : b < N := by rw [eb, ← lT]; exact RT.out.k1 z
                      have ky := h4.k1 (i := y) (by omega)
                      have fy := h4.gf (by omega) (y * 7 + 4)
                      obtain ⟨S5, w5, eS5, ew5, h5, s5⟩ := h4.drew.wkid (i := y) (by omega) true b
                      have ew5' : w4.drew.setCell ⟨g, y * 7 + 4, none⟩ (.int .i64 b) = w5 := ew5
                      have l5 : S5.n.length = N := by rw [eS5, len_upd]; exact lT
                      have r5 : Rng S5 := by rw [eS5]; exact RT.out.skid true (by omega) (by omega)
                      obtain ⟨e', ee⟩ : ∃ e', e' = (S5.nd y).k1 := ⟨_, rfl⟩
                      have he : e' < N := by rw [ee, ← l5]; exact r5.k1 y
                      have e1 : (e' : Int) < N := by omega
                      have m0 := h5.c0
                      rw [l5] at m0
                      have my := h5.k1 (i := y) (by omega)
                      rw [← ee] at my
                      have mu := h5.up (i := e') (by omega)
                      have mf := h5.gf (by omega) (e' * 7 + 5)
                      obtain ⟨S6, w6, eS6, ew6, h6, s6⟩ := h5.drew.wup (i := e') (by omega) y
                      have eS : S2 = S6 := by rw [E2.out, ← ET.out, ← eb, ← eS5, ← ee, eS6]
                      have HF : Hid (TW p g cap fr many room S2 w6 ∧ St p g w2 w6) := Lib.hid ⟨by rw [eS]; exact h6, ((s4'.drew.trans s5).drew.trans s6)⟩
                      clear eS eS6 h6 s6 h5 s5 h4 s4' eS5 ew5 l5 r5 ee he lT eb hb RT LT ET E2
                      go_wp2_with fail
                      go_region
                      go_wp2_with fail
                      go_region
                      go_wp2_with fail
                      go_meet
                      case rel => exact ⟨rfl, HF.out⟩
                case rest =>
                  as_aux_lemma =>
                    clear H2 HX HU c0 ky k1 cr cu cx fx
                    obtain ⟨rfl, h, s0⟩ := hcut
                    obtain ⟨r2, l2⟩ := R2.out
                    have hd := HD'.out
                    obtain ⟨T, eT⟩ : ∃ T, T = TreeP.hang S2 y z := ⟨_, rfl⟩
                    have hc := hang_any h r2 y z (by omega) (by omega)
                    obtain ⟨rT, lT⟩ := r2.hang (x := y) (q := z) (by omega)
                    rw [l2] at lT
                    rw [← eT] at rT lT hc
                    have HC := Lib.hid hc
                    have RT := Lib.hid rT
                    have LT := Lib.hid lT
                    have ET := Lib.hid eT
                    have HD := Lib.hid hd
                    have HS0 := Lib.hid s0
                    clear hd hc eT rT lT h s0 r2 l2 R2 HD'
                    go_wp2_with fail
                    refine (HC.out).mono ?_
                    rintro e w4 ⟨rfl, h4, s4⟩
                    clear HC
                    have lT := LT.out
                    have d0 := h4.c0
                    rw [lT] at d0
                    have kz := h4.k0 (i := z) (by omega)
                    obtain ⟨b, eb⟩ : ∃ b, b = (T.nd z).k0 := ⟨_, rfl⟩
                    rw [← eb] at kz
                    have hb : b < N := by rw [eb, ← lT]; exact RT.out.k0 z
                    have ky := h4.k0 (i := y) (by omega)
                    have fy := h4.gf (by omega) (y * 7 + 3)
                    obtain ⟨S5, w5, eS5, ew5, h5, s5⟩ := h4.drew.wkid (i := y) (by omega) false b
                    have ew5' : w4.drew.setCell ⟨g, y * 7 + 3, none⟩ (.int .i64 b) = w5 := ew5
                    have l5 : S5.n.length = N := by rw [eS5, len_upd]; exact lT
                    have r5 : Rng S5 := by rw [eS5]; exact RT.out.skid false (by omega) (by omega)
                    obtain ⟨e', ee⟩ : ∃ e', e' = (S5.nd y).k0 := ⟨_, rfl⟩
                    have he : e' < N := by rw [ee, ← l5]; exact r5.k0 y
                    have e1 : (e' : Int) < N := by omega
                    have m0 := h5.c0
                    rw [l5] at m0
                    have my := h5.k0 (i := y) (by omega)
                    rw [← ee] at my
                    have mu := h5.up (i := e') (by omega)
                    have mf := h5.gf (by omega) (e' * 7 + 5)
                    obtain ⟨S6, w6, eS6, ew6, h6, s6⟩ := h5.drew.wup (i := e') (by omega) y
                    have l6 : S6.n.length = N := by rw [eS6, len_upd]; exact l5
                    have r6 : Rng S6 := by rw [eS6]; exact r5.sup (by omega) (by omega)
                    obtain ⟨rr, er⟩ : ∃ rr, rr = (S6.nd z).red := ⟨_, rfl⟩
                    have n0 := h6.c0
                    rw [l6] at n0
                    have nz := h6.red (i := z) (by omega)
                    rw [← er] at nz
                    have ny := h6.red (i := y) (by omega)
                    have nf := h6.gf (by omega) (y * 7 + 6)
                    obtain ⟨S7, w7, eS7, ew7, h7, s7⟩ := h6.drew.wred (i := y) (by omega) rr
                    have l7 : S7.n.length = N := by rw [eS7, len_upd]; exact l6
                    have r7 : Rng S7 := by rw [eS7]; exact r6.sred rr (by omega)
                    have eS : TreeP.swapS S2 y z = S7 := by
                      unfold TreeP.swapS
                      simp only
                      rw [← ET.out, ← eb, ← eS5, ← ee, ← eS6, ← er, ← eS7]
                    have hd := HD.out
                    rw [eS] at hd
                    have HF : Hid (DM p g cap fr many room N w Sf (.bool ry) (.int .i64 x) w7) := Lib.hid ⟨ry, x, S7, k, rfl, rfl, hx, h7, r7, l7, (Step.of_ext S3.out).trans (((HS0.out.trans s4).drew.trans s5).drew.trans (s6.drew.trans s7)), hd⟩
                    clear eS eS6 h6 s6 h5 s5 h4 s4 eS5 ew5 l5 r5 ee he lT eb hb RT LT ET hd eS7 h7 s7 l7 r7 er l6 r6
                    go_wp2_with fail
                    go_region
                    go_wp2_with fail
                    go_region
                    go_wp2_with fail
                    go_region
                    go_wp2_with fail
                    go_meet
                    case rel => exact HF.out
              · rw [if_pos (by simpa using hy0)] at hl
                have yb : ((yk : Int) != 0) = true := by simp; omega
                have HP : Hid (LMI N S yf (.int .i64 yk) j) := Lib.hid ⟨yk, rfl, hyk, hl⟩
                clear hl h3 hr hN eyk hy0
                go_wp2_with fail
                go_round
                case rel => exact ⟨_, HP.out⟩
                case measure => exact least_lt HP.out (Nat.lt_succ_self j) EJ.out
  case rest =>
    as_aux_lemma =>
      clear c0 k0 k1 cr cv z2 ERZ
      obtain ⟨red, x, T, k, rfl, rfl, hx, h, hr, hN, s0, hd⟩ := hcut
      have x1 : (x : Int) < N := by omega
      have HL : Hid (red = false → ∃ T', Calls Try.prog 96 #[.pointer (some ⟨p, 0, none⟩), .int .i64 x] wc (fun e w' => e = .returned (.tuple #[]) ∧ TW p g cap fr many room T' w' ∧ St p g wc w') ∧ T'.n.length = N ∧ T'.upd 0 (fun _ => Nd.zero) = Sf) := Lib.hid fun hred => by
        subst hred
        simp only [Bool.false_eq_true, if_false] at hd
        cases hc : TreeP.lift k T x with
        | none => rw [hc] at hd; simp at hd
        | some T' =>
          rw [hc] at hd
          simp only [Option.map_some, Option.some.injEq] at hd
          exact ⟨T', lift_any h hr x (by omega) T' ⟨k, hc⟩, by rw [lift_len k T x T' hc]; exact hN, hd⟩
      have HT : Hid (red = true → T.upd 0 (fun _ => Nd.zero) = Sf) := Lib.hid fun hred => by
        subst hred
        simpa using hd
      have H := Lib.hid h
      have HS := Lib.hid s0
      have HN' := Lib.hid hN
      clear hd h hr s0 hN
      go_upto_if 239 with fail
      go_cut [8] from 12 (fun s8 wx => s8 = .int .i64 V ∧ DL p g cap fr many room N w Sf wx)
      case first =>
        as_aux_lemma =>
          cases red with
          | true =>
            have hp : DL p g cap fr many room N w Sf wc := ⟨T, H.out, HN'.out, HS.out, HT.out rfl⟩
            have HP := Lib.hid hp
            clear hp HT HL H HS HN'
            go_wp2_with fail
            go_meet
            case rel => exact ⟨rfl, HP.out⟩
          | false =>
            obtain ⟨T', hc, l', e'⟩ := HL.out rfl
            have HC := Lib.hid hc
            have hp : ∀ w', TW p g cap fr many room T' w' → St p g wc w' → DL p g cap fr many room N w Sf w' := fun w' h' s' => ⟨T', h', l', HS.out.trans s', e'⟩
            have HP := Lib.hid hp
            clear hp hc l' e' HT HL H HS HN'
            go_wp2_with fail
            refine (HC.out).mono ?_
            rintro e w4 ⟨rfl, h4, s4⟩
            have HP2 := Lib.hid (HP.out w4 h4 s4)
            clear h4 s4 HC HP
            go_wp2_with fail
            go_meet
            case rel => exact ⟨rfl, HP2.out⟩
      case rest =>
        as_aux_lemma =>
          clear HT HL H HS HN'
          obtain ⟨rfl, T', h, hN, s0, e'⟩ := hcut
          have h' := h
          have c0 := h.c0
          rw [hN] at c0
          have n1 : (0 : Int) < N := by omega
          have f0 := h.gf (by omega)
          have g0 := f0 0
          have g1 := f0 1
          have g2 := f0 2
          have g3 := f0 3
          have g4 := f0 4
          have g5 := f0 5
          have g6 := f0 6
          have t0 := h.a (i := 0) (by omega)
          have t1 := h.s (i := 0) (by omega)
          have t2 := h.v (i := 0) (by omega)
          have t3 := h.k0 (i := 0) (by omega)
          have t4 := h.k1 (i := 0) (by omega)
          have t5 := h.up (i := 0) (by omega)
          have t6 := h.red (i := 0) (by omega)
          simp only [Nat.zero_mul, Nat.zero_add] at t0 t1 t2 t3 t4 t5 t6
          obtain ⟨w4, ew4, h4, s4⟩ := h.wzero (by omega)
          rw [e'] at h4
          have q0 := h4.c1
          have q1 := h4.pf 1
          have hl4 := H0.out.st2 h4 (s0.trans s4)
          have H4 := Lib.hid hl4
          have HS := Lib.hid (s0.trans s4)
          clear f0 h h' hN s0 e' h4 s4 hl4
          go_wp2_with (first
            | (at_builtin; refine app_own (W := w4) rfl _ _ _ _ _ 1 8 rfl Try.underlying47 infoInt rfl (by omega) (by omega) fr free.length (ints free) [.int .i64 z] rfl _ (by simp) rfl rfl (by simp [Value.oneCell']) (by exact H4.out.fe) (by omega) ?_; intro v1 w5 hown hgrow hmv
               obtain ⟨fg, fcap, rfl, c5, p5, h5, s5, hfoot⟩ := H4.out.appF hown hgrow hmv
               have H5 := Lib.hid h5
               have S5 := Lib.hid s5
               have FT := Lib.hid hfoot
               have c3 := h5.tw.c3
               have p3 := h5.tw.pf 3
               clear hown hgrow hmv h5 s5 hfoot)
            | fail)
          go_ret2
          have h5 := H5.out
          obtain ⟨w7, ew7, h7, s7⟩ := h5.tw.wmany (many - 1)
          rw [show ((many : Int) - 1) = ((many - 1 : Nat) : Int) by omega, ew7]
          refine ⟨rfl, g, cap, _, h5.st2 h7 s7, ((HS.out.mono fun b hb => hb.elim .inl (fun e => .inr (.inl e))).trans S5.out).trans (s7.mono fun b hb => hb.elim .inl (fun e => .inr (.inl e))), fun b hb => ?_⟩
          rcases hb with e | e | e
          · exact .inl (.inl e)
          · exact .inl (.inr (.inl e))
          · rcases FT.out b e with e' | e'
            · exact .inl (.inr (.inr e'))
            · exact .inr (Nat.le_trans HS.out.size e')
end
end Go.Proofs.Ytkdmlpigkmlkmaa.Tr
