/- DERIVED. Layer 6 (tree): contract of Put, the way on which a key is put. -/
import Derived.Test.YtkdmlpigkmlkmaaTrG
import Derived.StillTailTactics
import Derived.BigRegion
set_option linter.unusedVariables false
set_option linter.unusedSimpArgs false
set_option maxRecDepth 100000
namespace Go.Proofs.Ytkdmlpigkmlkmaa.Tr
open Go.RowKit Go.Proofs.Ytkdmlpigkmlkmaa Go.Proofs.Ytkdmlpigkmlkmaa.TreeP

/-- the node that is taken, and the array behind it -/
def zOf (S : TS) (free : List Nat) : Nat := if free = [] then S.n.length else free.getLastD 0
def grow (S : TS) (free : List Nat) : TS := if free = [] then ⟨S.n ++ [Nd.zero], S.root⟩ else S
def PM (p g : Nat) (fr : Value) (free : List Nat) (many room : Nat) (S : TS) (kb : Nat) (a s : Int) (w0 : World) (s9 : Value) (wx : World) : Prop :=
  ∃ g1 cap1 fr1, s9 = .int .i64 ((zOf S free : Nat) : Int) ∧ TL p g1 cap1 fr1 free.dropLast many room (grow S free) wx ∧ wx.cell? ⟨kb, 0, none⟩ = some (.int .u64 a) ∧ wx.cell? ⟨kb, 1, none⟩ = some (.int .u64 s) ∧
    Step (foot p g fr) w0 wx ∧ (∀ b, foot p g1 fr1 b → foot p g fr b ∨ w0.heap.size ≤ b) ∧ g1 ≠ kb
theorem infoNode : (Try.prog.info? 155).map (fun i => (i.zero, i.size, i.bytes)) = some (some (.agg #[.int .u64 0, .int .u64 0, .int .i64 0, .int .i64 0, .int .i64 0, .int .i64 0, .bool false]), 7, 56) := by kernel_rfl
section
variable {p g cap many room : Nat} {fr : Value} {free : List Nat} {S : TS} {w : World}
/-- the last of the free ones, taken away -/
theorem TL.pop (h : TL p g cap fr free many room S w) (hf : free ≠ []) : ∃ fg fcap, fr = .slice (some ⟨fg, 0, none⟩) free.length fcap ∧ free.length ≤ fcap ∧ fcap ≤ maxLen ∧ w.cell? ⟨fg, free.length - 1, none⟩ = some (.int .i64 ((free.getLastD 0 : Nat) : Int)) ∧
    ∃ w1, w.setCell ⟨p, 1, none⟩ (.slice (some ⟨fg, 0, none⟩) (free.length - 1) fcap) = w1 ∧ TL p g cap (.slice (some ⟨fg, 0, none⟩) (free.length - 1) fcap) free.dropLast many room S w1 ∧ St p g w w1 := by
  have hl : 0 < free.length := List.length_pos_iff.2 hf
  obtain ⟨fg, fcap, e, h1, h2⟩ := own_cap h.fe hl
  obtain ⟨fg', fcap', e', _, hcs⟩ := own_form h.fe hl
  rw [e] at e'
  injection e' with e1 _ e3
  injection e1 with e1
  injection e1 with e1
  subst e1 e3
  have hfe := h.fe
  have hfp := h.fp
  have hfg := h.fg
  rw [e] at hfe hfp hfg
  refine ⟨fg, fcap, e, h1, h2, ?_, _, rfl, ⟨⟨?_, ?_, h.tw.ne⟩, ?_, by simpa [Value.ownBlock] using hfp, by simpa [Value.ownBlock] using hfg⟩, (Step.refl _ w).setCell _ (.inl (.inl rfl)) _⟩
  · have := (hcs (free.length - 1) _ (ints_at free _ (by omega))).1
    rw [this, List.getLastD_eq_getLast?, List.getLast?_eq_getElem?]
    simp [List.getD]
  · rw [heap_set _ h.tw.obj]; rfl
  · refine ownsRow_keep h.tw.row (fun b hb => heap_other _ ?_)
    injection hb with hb
    subst hb
    exact h.tw.ne
  · have := ownsRow_pop' hfe hl
    have e : ints free.dropLast = (ints free).dropLast := by simp [ints, List.map_dropLast]
    rw [List.length_dropLast, e]
    exact ownsRow_keep this (fun b hb => heap_other _ (fun e => by
      subst e
      exact hfp (by simpa [Value.ownBlock] using hb)))
theorem step_cell {s : Nat → Prop} {a w : World} (k : Step s a w) {b o : Nat} {u : Value} (hs : ¬ s b) (hc : a.cell? ⟨b, o, none⟩ = some u) : w.cell? ⟨b, o, none⟩ = some u := by
  have hb := World.block_lt_of_cell? a _ hc
  have := k.block b hb hs
  simpa [World.cell?, this] using hc
/-- behind an append of a zero node -/
theorem TL.app (h : TL p g cap fr free many room S w) {v1 : Value} {w1 : World} (ho : w1.ownsRow 0 155 7 v1 (S.n.length + 1) (flat S.n ++ cellsOf Nd.zero)) (hg : w.grownBy w1 (some g)) (hm : Moved w (.slice (some ⟨g, 0, none⟩) S.n.length cap) v1) :
    ∃ g1 cap1, v1 = .slice (some ⟨g1, 0, none⟩) (S.n.length + 1) cap1 ∧ w1.cell? ⟨p, 0, none⟩ = some (.slice (some ⟨g, 0, none⟩) S.n.length cap) ∧ w1.frozen? ⟨p, 0, none⟩ = false ∧
      TL p g1 cap1 fr free many room ⟨S.n ++ [Nd.zero], S.root⟩ (w1.setCell ⟨p, 0, none⟩ v1) ∧ Step (foot p g fr) w (w1.setCell ⟨p, 0, none⟩ v1) ∧ (g1 = g ∨ w.heap.size ≤ g1) := by
  obtain ⟨g1, cap1, rfl, hc, hcm⟩ := own_cap ho (by omega)
  have hp := (Array.getElem?_eq_some_iff.1 h.tw.obj).1
  have hgl := (h.tw.row.lt g rfl).2
  have hgg : g1 = g ∨ w.heap.size ≤ g1 := by
    rcases hm with e | ⟨b, e, hb⟩
    · injection e with e; exact .inl e
    · injection e with e
      subst e
      exact .inr hb
  have hgp : g1 ≠ p := by
    rcases hgg with e | e
    · exact e ▸ h.tw.ne
    · omega
  have hobj : w1.heap[p]? = w.heap[p]? := hg.block p hp (fun e => h.tw.ne (by injection e with e; exact e.symm))
  refine ⟨g1, cap1, rfl, ?_, ?_, ⟨⟨?_, ?_, hgp⟩, ?_, h.fp, ?_⟩, ?_, hgg⟩
  · have := h.tw.c0
    simpa [World.cell?, hobj] using this
  · have := h.tw.pf 0
    simpa [World.frozen?, hobj] using this
  · rw [heap_set _ (hobj.trans h.tw.obj)]
    simp
  · have e : flat (S.n ++ [Nd.zero]) = flat S.n ++ cellsOf Nd.zero := by rw [flat_append]; simp [flat]
    simp only [List.length_append, List.length_cons, List.length_nil, Nat.zero_add]
    rw [e]
    refine ownsRow_keep ho (fun b hb => heap_other _ ?_)
    injection hb with hb
    subst hb
    exact hgp
  · refine ownsRow_keep h.fe (fun b hb => ?_)
    have hbl := (h.fe.lt b hb).2
    have hbp : b ≠ p := fun e => h.fp (e ▸ hb)
    rw [heap_other _ hbp]
    exact hg.block b hbl (fun e => h.fg (by injection e with e; rw [← e]; exact hb))
  · intro e
    rcases hgg with rfl | hge
    · exact h.fg e
    · have := (h.fe.lt g1 e).2
      omega
  · exact Step.setCell ((Step.refl _ w).grown hg (fun k hk => .inl (by injection hk with hk; exact .inr (.inl hk.symm)))) _ (.inl (.inl rfl)) _
theorem TL.foot_lt (h : TL p g cap fr free many room S w) (b : Nat) (hb : foot p g fr b) : b < w.heap.size := by
  rcases hb with rfl | rfl | hb
  · exact (Array.getElem?_eq_some_iff.1 h.tw.obj).1
  · exact (h.tw.row.lt b rfl).2
  · exact (h.fe.lt b hb).2
theorem TL.st2 {S' : TS} {w' : World} {many' : Nat} (h : TL p g cap fr free many room S w) (t : TW p g cap fr many' room S' w') (k : St p g w w') : TL p g cap fr free many' room S' w' :=
  ⟨t, ownsRow_keep h.fe (fun b hb => k.block b (h.fe.lt b hb).2 (fun e => by
    rcases e with rfl | rfl
    · exact h.fp hb
    · exact h.fg hb)), h.fp, h.fg⟩
theorem upd_upd (S : TS) (i : Nat) (f f' : Nd → Nd) (h : i < S.n.length) : (S.upd i f).upd i f' = S.upd i (fun x => f' (f x)) := by
  unfold TS.upd TS.nd
  simp [List.getD, h]
/-- a whole node, written -/
theorem TW.wnode (h : TW p g cap fr many room S w) {i : Nat} (hi : i < S.n.length) (a s v : Int) (l : Nat) :
    ∃ S1 w1, S1 = S.upd i (fun _ => ⟨a, s, v, 0, 0, l, true⟩) ∧
      (((((((w.setCell ⟨g, i * 7, none⟩ (.int .u64 a)).setCell ⟨g, i * 7 + 1, none⟩ (.int .u64 s)).setCell ⟨g, i * 7 + 2, none⟩ (.int .i64 v)).setCell ⟨g, i * 7 + 3, none⟩ (.int .i64 0)).setCell ⟨g, i * 7 + 4, none⟩ (.int .i64 0)).setCell ⟨g, i * 7 + 5, none⟩ (.int .i64 l)).setCell ⟨g, i * 7 + 6, none⟩ (.bool true)).drew = w1 ∧
      TW p g cap fr many room S1 w1 ∧ St p g w w1 := by
  obtain ⟨S1, w1, e1, q1, h1, s1⟩ := h.wr (i := i) (c := 0) (f := fun x => { x with a := a }) (v := .int .u64 a) hi (by omega) rfl
  have l1 : S1.n.length = S.n.length := by rw [e1, len_upd]
  obtain ⟨S2, w2, e2, q2, h2, s2⟩ := h1.wr (i := i) (c := 1) (f := fun x => { x with s := s }) (v := .int .u64 s) (by omega) (by omega) rfl
  have l2 : S2.n.length = S.n.length := by rw [e2, len_upd, l1]
  obtain ⟨S3, w3, e3, q3, h3, s3⟩ := h2.wr (i := i) (c := 2) (f := fun x => { x with v := v }) (v := .int .i64 v) (by omega) (by omega) rfl
  have l3 : S3.n.length = S.n.length := by rw [e3, len_upd, l2]
  obtain ⟨S4, w4, e4, q4, h4, s4⟩ := h3.wr (i := i) (c := 3) (f := fun x => { x with k0 := 0 }) (v := .int .i64 0) (by omega) (by omega) rfl
  have l4 : S4.n.length = S.n.length := by rw [e4, len_upd, l3]
  obtain ⟨S5, w5, e5, q5, h5, s5⟩ := h4.wr (i := i) (c := 4) (f := fun x => { x with k1 := 0 }) (v := .int .i64 0) (by omega) (by omega) rfl
  have l5 : S5.n.length = S.n.length := by rw [e5, len_upd, l4]
  obtain ⟨S6, w6, e6, q6, h6, s6⟩ := h5.wr (i := i) (c := 5) (f := fun x => { x with up := l }) (v := .int .i64 l) (by omega) (by omega) rfl
  have l6 : S6.n.length = S.n.length := by rw [e6, len_upd, l5]
  obtain ⟨S7, w7, e7, q7, h7, s7⟩ := h6.wr (i := i) (c := 6) (f := fun x => { x with red := true }) (v := .bool true) (by omega) (by omega) rfl
  refine ⟨S7, w7.drew, ?_, ?_, h7.drew, ((((((s1.trans s2).trans s3).trans s4).trans s5).trans s6).trans s7).drew⟩
  · rw [e7, e6, e5, e4, e3, e2, e1]
    rw [upd_upd _ _ _ _ hi, upd_upd _ _ _ _ hi, upd_upd _ _ _ _ hi, upd_upd _ _ _ _ hi, upd_upd _ _ _ _ hi, upd_upd _ _ _ _ hi]
  · rw [show w.setCell ⟨g, i * 7, none⟩ (.int .u64 a) = w1 from q1, q2, q3, q4, q5, q6, q7]
theorem TW.wmany (h : TW p g cap fr many room S w) (m : Nat) : ∃ w1, w.setCell ⟨p, 3, none⟩ (.int .i64 m) = w1 ∧ TW p g cap fr m room S w1 ∧ St p g w w1 := by
  refine ⟨_, rfl, ⟨?_, ?_, h.ne⟩, (Step.refl _ w).setCell _ (.inl (.inl rfl)) _⟩
  · rw [heap_set _ h.obj]; rfl
  · refine ownsRow_keep h.row (fun b hb => heap_other _ ?_)
    injection hb with hb
    subst hb
    exact h.ne
theorem rng_grow (h : Rng S) (free : List Nat) : Rng (grow S free) := by
  unfold grow
  split
  · have hn : ∀ i, TS.nd ⟨S.n ++ [Nd.zero], S.root⟩ i = S.nd i ∨ TS.nd ⟨S.n ++ [Nd.zero], S.root⟩ i = Nd.zero := fun i => by
      unfold TS.nd
      by_cases hi : i < S.n.length
      · left; simp [List.getD, List.getElem?_append_left hi]
      · right
        by_cases e : i = S.n.length
        · subst e; simp [List.getD]
        · simp [List.getD, List.getElem?_append_right (show S.n.length ≤ i by omega), List.getElem?_eq_none (show [Nd.zero].length ≤ i - S.n.length by simp; omega)]
    refine ⟨by simp, by have := h.root; simp; omega, fun i d => ?_, fun i => ?_⟩
    · simp only [List.length_append, List.length_cons, List.length_nil]
      rcases hn i with e | e <;> rw [e]
      · have := h.kid i d; omega
      · cases d <;> simp [Nd.zero, Nd.kid]
    · simp only [List.length_append, List.length_cons, List.length_nil]
      rcases hn i with e | e <;> rw [e]
      · have := h.up i; omega
      · simp [Nd.zero]
  · exact h
theorem Rng.link {z l : Nat} {q : Key} (h : Rng S) (hz : z < S.n.length) (hl : l < S.n.length) : Rng (link S q z l) ∧ (TreeP.link S q z l).n.length = S.n.length := by
  unfold TreeP.link
  split
  · exact ⟨h.sroot hz, rfl⟩
  · split
    · exact ⟨h.skid _ hl hz, by simp⟩
    · exact ⟨h.skid _ hl hz, by simp⟩
/-- the tree behind a call; where it lies may have turned -/
def Turned (p g : Nat) (fr : Value) (free : List Nat) (many room : Nat) (S : TS) (w w' : World) : Prop :=
  ∃ g1 cap1 fr1, TL p g1 cap1 fr1 free many room S w' ∧ Step (foot p g fr) w w' ∧ ∀ b, foot p g1 fr1 b → foot p g fr b ∨ w.heap.size ≤ b
/-- the array with the new node in it -/
def laid (S : TS) (free : List Nat) (a s v : Int) (l : Nat) : TS := (grow S free).upd (zOf S free) (fun _ => ⟨a, s, v, 0, 0, l, true⟩)
set_option maxHeartbeats 4000000 in
theorem put_ok (h : TL p g cap fr free many room S w) (hr : Rng S) (a s v : Int) (l : Nat) (hm : many < room) (hroom : room ≤ 65536) (hlen : S.n.length ≤ room + 1) (hl : l < S.n.length) (hfree : free.length ≤ room) (hz : zOf S free < (grow S free).n.length) (hf : ∃ k, TreeP.find k S (a, s) S.root 0 = some (0, l)) (Sf : TS) (hset : ∃ k, TreeP.settle k (TreeP.link (laid S free a s v l) (a, s) (zOf S free) l) (zOf S free) = some Sf) :
    Calls Try.prog 84 #[.pointer (some ⟨p, 0, none⟩), key a s, .int .i64 v] w fun e w' => e = .returned (.int .i64 0) ∧ Turned p g fr free.dropLast (many + 1) room Sf w w' := by
  have e1 := (Ext.refl w).alloc (.cells #[.int .u64 a, .int .u64 s] 130)
  have HF := Lib.hid (find_any (h.tw.ext e1) hr a s (0, l) hf)
  have HT := Lib.hid (h.tw.ext e1)
  have b0 : (w.alloc (.cells #[.int .u64 a, .int .u64 s] 130)).cell? ⟨w.heap.size, 0, none⟩ = some (.int .u64 a) := by simp [World.cell?_alloc_new]
  have b1 : (w.alloc (.cells #[.int .u64 a, .int .u64 s] 130)).cell? ⟨w.heap.size, 1, none⟩ = some (.int .u64 s) := by simp [World.cell?_alloc_new]
  have gk : g ≠ w.heap.size := by
    have := (h.tw.row.lt g rfl).2
    omega
  have B0 := Lib.hid b0
  have B1 := Lib.hid b1
  have GK := Lib.hid gk
  have FT := Lib.hid h.foot_lt
  have HPK : Hid (p ≠ w.heap.size) := Lib.hid (by have := h.foot_lt p (.inl rfl); omega)
  have E1 := Lib.hid e1
  have H := Lib.hid h
  have m2 : ((many : Int) == (room : Int)) = false := by simp; omega
  obtain ⟨F, hF⟩ : ∃ F, F = free.length := ⟨_, rfl⟩
  obtain ⟨fa, fcap, hfr⟩ := own_slice h.fe
  obtain ⟨N, hN⟩ : ∃ N, N = S.n.length := ⟨_, rfl⟩
  rw [← hF] at hfr hfree
  rw [← hN] at hlen hl
  have HN := Lib.hid hN
  have HF' := Lib.hid hF
  have HFR := Lib.hid hfr
  have HSET := Lib.hid hset
  have HRS := Lib.hid hr
  clear h e1 hf b0 b1 gk hN hF hfr hset hr
  go_enter Try.func84, Try.ntmps84
  go_wp2_with (first
    | (go_at_call 91; refine (no_any HT.out).mono ?_; rintro e w' ⟨rfl, rfl⟩)
    | (go_at_call 92; refine (HF.out).mono ?_; rintro e w2 ⟨rfl, h2, hx2⟩; have c3 := h2.c3; have c4 := h2.c4))
  go_quiet (fail)
  have h3 := ((H.out.ext E1.out).ext hx2).drewN nq
  have k0 := ((Ext.refl w2).drewN nq).cell (hx2.cell B0.out)
  have k1 := ((Ext.refl w2).drewN nq).cell (hx2.cell B1.out)
  have s3 := (E1.out.trans hx2).drewN nq
  obtain ⟨w3, ew3⟩ : ∃ w3, w3 = w2.drewN nq := ⟨_, rfl⟩
  rw [← ew3]
  rw [← ew3] at h3 k0 k1 s3
  clear ew3 hx2 h2 c3 c4 HT HF B0 B1 E1 H
  have c0 := h3.tw.c0
  rw [← HN.out] at c0
  have c1 := h3.tw.c1
  rw [HFR.out] at c1
  have H3 := Lib.hid h3
  have S3 := Lib.hid s3
  clear h3 s3
  go_upto_if 41 with fail
  go_cut [9] from 10 (fun s9 wx => PM p g fr free many room S w.heap.size a s w s9 wx)
  case first =>
    by_cases hfn : free = []
    · have F0 : F = 0 := by rw [HF'.out, hfn]; rfl
      subst F0
      have HO : Hid (w3.ownsRow 0 155 7 (.slice (some ⟨g, 0, none⟩) N cap) N (flat S.n)) := Lib.hid (by rw [HN.out]; exact H3.out.tw.row)
      have f0 := H3.out.tw.pf 0
      have HFN := Lib.hid hfn
      clear hfn
      go_wp2_with (first
        | (at_builtin; refine app_own rfl _ _ _ _ _ 7 56 rfl Try.underlying156 infoNode rfl (by omega) (by omega) _ N (flat S.n) (cellsOf Nd.zero) rfl _ (by simp) rfl rfl (by simp [Value.oneCell', cellsOf]) (by exact HO.out) (by omega) ?_; intro v1 w4 hown hgrow hmv
           obtain ⟨g1, cap1, rfl, c4, f4, h4, s4, hgg⟩ := H3.out.app (v1 := v1) (w1 := w4) (by rw [← HN.out]; exact hown) hgrow (by rw [← HN.out]; exact hmv)
           rw [← HN.out] at c4
           have HH := Lib.hid h4
           have HS4 := Lib.hid s4
           have HG := Lib.hid hgg
           clear hown hgrow hmv h4 s4 hgg c0 c1 f0)
        | fail)
      have hp : PM p g fr free many room S w.heap.size a s w (.int .i64 N) (w4.setCell ⟨p, 0, none⟩ (.slice (some ⟨g1, 0, none⟩) (S.n.length + 1) cap1)) := by
        have eg : grow S free = ⟨S.n ++ [Nd.zero], S.root⟩ := by unfold grow; rw [if_pos HFN.out]
        have e9 : zOf S free = N := by unfold zOf; rw [if_pos HFN.out, HN.out]
        have ed : free.dropLast = free := by rw [HFN.out]; rfl
        have kl := World.block_lt_of_cell? w3 _ k0
        refine ⟨g1, cap1, fr, by rw [e9], by rw [eg, ed]; exact HH.out, ?_, ?_, ?_, ?_, ?_⟩
        · exact step_cell HS4.out (fun e => Nat.lt_irrefl _ (FT.out _ e)) k0
        · exact step_cell HS4.out (fun e => Nat.lt_irrefl _ (FT.out _ e)) k1
        · exact (Step.of_ext S3.out).trans HS4.out
        · intro b hb
          have hs := S3.out.size
          rcases hb with e | e | e
          · exact .inl (.inl e)
          · rcases HG.out with e' | e'
            · exact .inl (.inr (.inl (e.trans e')))
            · exact .inr (by omega)
          · exact .inl (.inr (.inr e))
        · rcases HG.out with e' | e'
          · rw [e']; exact GK.out
          · intro e
            simp only at kl
            omega
      have HP := Lib.hid hp
      clear hp HH HS4 HG
      go_meet
      case rel => exact HP.out
    · have F1 : 0 < F := by rw [HF'.out]; exact List.length_pos_iff.2 hfn
      obtain ⟨f, rfl⟩ : ∃ f, F = f + 1 := ⟨F - 1, by omega⟩
      obtain ⟨fg, fcap', hfr', q1, q2, q3, -⟩ := H3.out.pop hfn
      rw [← HF'.out] at q1 q3 hfr'
      rw [HFR.out] at hfr'
      injection hfr' with i1 _ i3
      subst i1 i3
      simp only [Nat.add_sub_cancel] at q3
      have HS : Hid (∀ n, ∃ w1, (w3.drewN n).setCell ⟨p, 1, none⟩ (.slice (some ⟨fg, 0, none⟩) f fcap) = w1 ∧ TL p g cap (.slice (some ⟨fg, 0, none⟩) f fcap) free.dropLast many room S w1 ∧ St p g (w3.drewN n) w1) := Lib.hid fun n => by
        obtain ⟨fg', fcap', hfr', _, _, _, w4, ew4, h4, s4⟩ := (H3.out.drewN n).pop hfn
        rw [← HF'.out] at ew4 h4 hfr'
        rw [HFR.out] at hfr'
        injection hfr' with i1 _ i3
        injection i1 with i1
        injection i1 with i1
        subst i1 i3
        simp only [Nat.add_sub_cancel] at ew4 h4
        exact ⟨w4, ew4, h4, s4⟩
      unfold maxLen at q2
      have f1 := H3.out.tw.pf 1
      have HN0 := Lib.hid hfn
      obtain ⟨z, ez⟩ : ∃ z, z = free.getLastD 0 := ⟨_, rfl⟩
      rw [← ez] at q3
      have EZ := Lib.hid ez
      clear hfn ez
      go_wp2_with fail
      go_quiet (fail)
      go_wp2_with fail
      go_region
      obtain ⟨w4, ew4, h4, s4⟩ := HS.out (nq + 1)
      rw [ew4]
      clear ew4
      have hp : PM p g fr free many room S w.heap.size a s w (.int .i64 z) w4 := by
        have eg : grow S free = S := by unfold grow; rw [if_neg HN0.out]
        have e9 : zOf S free = z := by unfold zOf; rw [if_neg HN0.out, EZ.out]
        refine ⟨g, cap, _, by rw [e9], by rw [eg]; exact h4, ?_, ?_, ?_, ?_, GK.out⟩
        · exact step_cell s4 (fun e => Nat.lt_irrefl _ (FT.out _ (e.elim .inl (fun e => .inr (.inl e))))) (((Ext.refl w3).drewN _).cell k0)
        · exact step_cell s4 (fun e => Nat.lt_irrefl _ (FT.out _ (e.elim .inl (fun e => .inr (.inl e))))) (((Ext.refl w3).drewN _).cell k1)
        · exact (Step.of_ext (S3.out.drewN _)).trans (s4.mono fun b hb => hb.elim .inl (fun e => .inr (.inl e)))
        · intro b hb
          rcases hb with e | e | e
          · exact .inl (.inl e)
          · exact .inl (.inr (.inl e))
          · exact .inl (.inr (.inr (by rw [HFR.out]; exact e)))
      have HP := Lib.hid hp
      clear hp h4 s4 HS
      go_wp2_with fail
      go_meet
      case rel => exact HP.out
  case rest =>
    clear H3 S3 k0 k1 c0 c1 FT HFR GK
    obtain ⟨g1, cap1, fr1, rfl, h, k0, k1, st, ft, hgk⟩ := hcut
    obtain ⟨z, ez⟩ : ∃ z, z = zOf S free := ⟨_, rfl⟩
    obtain ⟨G, eG⟩ : ∃ G, G = grow S free := ⟨_, rfl⟩
    rw [← ez]
    rw [← eG] at h
    rw [← ez, ← eG] at hz
    obtain ⟨M, hM⟩ : ∃ M, M = G.n.length := ⟨_, rfl⟩
    have c0 := h.tw.c0
    rw [← hM] at c0 hz
    have z1 : (z : Int) < M := by omega
    have hne : g1 ≠ p := h.tw.ne
    have hne' : p ≠ g1 := Ne.symm hne
    have hkg := Ne.symm hgk
    have H := Lib.hid h
    have ca := h.tw.a (i := z) (by omega)
    have cs := h.tw.s (i := z) (by omega)
    have cv := h.tw.v (i := z) (by omega)
    have ck0 := h.tw.k0 (i := z) (by omega)
    have ck1 := h.tw.k1 (i := z) (by omega)
    have cu := h.tw.up (i := z) (by omega)
    have cr := h.tw.red (i := z) (by omega)
    have cf := h.tw.gf (by omega)
    have f0 := cf (z * 7)
    have f1 := cf (z * 7 + 1)
    have f2 := cf (z * 7 + 2)
    have f3 := cf (z * 7 + 3)
    have f4 := cf (z * 7 + 4)
    have f5 := cf (z * 7 + 5)
    have f6 := cf (z * 7 + 6)
    have HM := Lib.hid hM
    have HGK := Lib.hid hgk
    have HST := Lib.hid st
    have HFT := Lib.hid ft
    have EZ := Lib.hid ez
    have EG := Lib.hid eG
    clear hM cf ez eG h st ft
    go_wp2_with fail
    go_region_held3 (fun w' => w'.cell? ⟨p, 0, none⟩ = some (.slice (some ⟨g1, 0, none⟩) M cap1) ∧ w'.cell? ⟨w.heap.size, 0, none⟩ = some (.int .u64 a) ∧ w'.cell? ⟨w.heap.size, 1, none⟩ = some (.int .u64 s))
      (first | go_keep | skip)
      (fail)
    have h := H.out
    have hM := HM.out
    obtain ⟨G2, w5, eG2, ew5, h5, s5⟩ := h.tw.wnode (i := z) (by omega) a s v l
    rw [ew5]
    have l2 : G2.n.length = M := by rw [eG2, len_upd]; exact hM.symm
    obtain ⟨w6, ew6, h6, s6⟩ := h5.wmany (many + 1)
    have ew6' : w5.setCell ⟨p, 3, none⟩ (.int .i64 ((many : Int) + 1)) = w6 := ew6
    have c3 := h5.c3
    have p3 := h5.pf 3
    have T6 := h.st h5 s5
    have hlt : ∀ b, (b = p ∨ b = g1) → b ≠ w.heap.size := fun b hb => by
      rcases hb with rfl | rfl
      · exact HPK.out
      · exact HGK.out
    have m0 := step_cell (s5.trans s6) (fun e => hlt _ e rfl) k0
    have m1 := step_cell (s5.trans s6) (fun e => hlt _ e rfl) k1
    have eL : laid S free a s v l = G2 := by unfold laid; rw [← EZ.out, ← EG.out, eG2]
    have hs := HSET.out
    rw [eL, ← EZ.out] at hs
    have hlM : l < M := by
      have : S.n.length ≤ (grow S free).n.length := by unfold grow; split <;> simp
      rw [← EG.out, ← HN.out, ← hM] at this
      omega
    have rG2 : Rng G2 := by
      have : Rng G := by rw [EG.out]; exact rng_grow HRS.out free
      rw [eG2]
      exact this.upd (by omega) (fun d => by cases d <;> exact this.pos) (by rw [← hM]; exact hlM)
    have ln1 : (l : Int) < M := by omega
    have d0 := h5.c0
    rw [l2] at d0
    have g0 := h6.c0
    rw [l2] at g0
    by_cases l0 : l = 0
    · have lb : ((l : Int) == 0) = true := by simp [l0]
      obtain ⟨G3, w7, eG3, ew7, h7, s7⟩ := h6.wroot z
      have e3 : TreeP.link G2 (a, s) z l = G3 := by unfold TreeP.link; rw [if_pos l0, eG3]
      have r3 := rG2.link (q := (a, s)) (z := z) (l := l) (by omega) (by omega)
      rw [e3] at r3 hs
      have HT := Lib.hid (settle_any h7 r3.1 z (by rw [r3.2]; omega) Sf hs)
      have HQ : Hid (∀ w9, TW p g1 cap1 fr1 (many + 1) room Sf w9 → St p g1 w7 w9 → Turned p g fr free.dropLast (many + 1) room Sf w w9) := Lib.hid fun w9 h9 s9 =>
        ⟨g1, cap1, fr1, h.st2 h9 (((s5.trans s6).trans s7).trans s9), HST.out.trans' (((s5.trans s6).trans s7).trans s9) (fun i hi e => by
          rcases e with e | e
          · exact .inl e
          · rcases HFT.out g1 (.inr (.inl rfl)) with e' | e'
            · exact e ▸ e'
            · omega), HFT.out⟩
      have c2 := h6.c2
      have p2 := h6.pf 2
      clear HSET hs eL rG2 eG3 h7 s7 e3 r3 l0 h6 s6 h5 s5 T6 eG2 h hM m0 m1 k0 k1 ew6 ew5 HRS
      go_wp2_with fail
      refine (HT.out).mono ?_
      rintro e w8 ⟨rfl, h8, s8⟩
      have hQ := HQ.out w8 h8 s8
      have HQ2 := Lib.hid hQ
      clear hQ h8 s8 HQ HT
      go_wp2_with fail
      go_ret
      exact ⟨rfl, HQ2.out⟩
    · have lb : ((l : Int) == 0) = false := by simp; omega
      have ka0 := h6.a (i := l) (by omega)
      have ks0 := h6.s (i := l) (by omega)
      obtain ⟨ka, eka⟩ : ∃ ka, ka = (G2.nd l).a := ⟨_, rfl⟩
      obtain ⟨ks, eks⟩ : ∃ ks, ks = (G2.nd l).s := ⟨_, rfl⟩
      rw [← eka] at ka0
      rw [← eks] at ks0
      have hkey : G2.key l = (ka, ks) := by unfold TS.key; rw [eka, eks]
      obtain ⟨B, eB⟩ : ∃ B, B = lt (a, s) (ka, ks) := ⟨_, rfl⟩
      have HL := Lib.hid (less_in h6.drew (kb := w.heap.size) m0 m1 a s ka ks B eB.symm)
      have HK := Lib.hid hkey
      have HB := Lib.hid eB
      have HR2 := Lib.hid rG2
      have HS2 := Lib.hid hs
      have H56 := Lib.hid (s5.trans s6)
      have HL0 := Lib.hid l0
      have L2 := Lib.hid l2
      have H' := Lib.hid h
      clear HSET hs eL rG2 h6 s6 h5 s5 T6 eG2 h hM k0 k1 ew6 ew5 HRS hkey eB eka eks l0 l2
      go_wp2_with fail
      go_region_held3 (fun w' => w'.cell? ⟨p, 0, none⟩ = some (.slice (some ⟨g1, 0, none⟩) M cap1) ∧ w'.cell? ⟨w.heap.size, 0, none⟩ = some (.int .u64 a) ∧ w'.cell? ⟨w.heap.size, 1, none⟩ = some (.int .u64 s) ∧ w'.cell? ⟨g1, l * 7, none⟩ = some (.int .u64 ka) ∧ w'.cell? ⟨g1, l * 7 + 1, none⟩ = some (.int .u64 ks))
        (first | go_keep | (go_split_ands; exact ⟨n0, n1, n2, n3, n4⟩))
        ((go_at_call 93; refine (HL.out).mono ?_; rintro e w7 ⟨rfl, h7, n0, n1, n2, hx7⟩; rw [L2.out] at n0; have n3 := hx7.cell (p := ⟨g1, l * 7, none⟩) ka0; have n4 := hx7.cell (p := ⟨g1, l * 7 + 1, none⟩) ks0))
      have r3 := HR2.out.link (q := (a, s)) (z := z) (l := l) (by rw [L2.out]; omega) (by rw [L2.out]; omega)
      have h := H'.out
      have hs := HS2.out
      cases B with
      | true =>
        obtain ⟨G3, w8, eG3, ew8, h8, s8⟩ := h7.wkid (i := l) (by rw [L2.out]; omega) false z
        have e3 : TreeP.link G2 (a, s) z l = G3 := by unfold TreeP.link; rw [if_neg HL0.out, if_pos (by rw [HK.out]; exact HB.out.symm), eG3]
        rw [e3] at r3 hs
        have HT := Lib.hid (settle_any h8 r3.1 z (by rw [r3.2, L2.out]; omega) Sf hs)
        have HQ : Hid (∀ w9, TW p g1 cap1 fr1 (many + 1) room Sf w9 → St p g1 w8 w9 → Turned p g fr free.dropLast (many + 1) room Sf w w9) := Lib.hid fun w9 h9 s9 =>
          ⟨g1, cap1, fr1, h.st2 h9 ((((H56.out).trans (((Step.refl _ _).drew).trans (Step.of_ext hx7))).trans s8).trans s9), HST.out.trans' ((((H56.out).trans (((Step.refl _ _).drew).trans (Step.of_ext hx7))).trans s8).trans s9) (fun i hi e => by
            rcases e with e | e
            · exact .inl e
            · rcases HFT.out g1 (.inr (.inl rfl)) with e' | e'
              · exact e ▸ e'
              · omega), HFT.out⟩
        have kx := h7.k0 (i := l) (by rw [L2.out]; omega)
        have kf := h7.gf (by rw [L2.out]; omega) (l * 7 + 3)
        have ew8' : w7.setCell ⟨g1, l * 7 + 3, none⟩ (.int .i64 z) = w8 := ew8
        clear hs eG3 h7 h8 s8 e3 r3 hx7 n1 n2 n3 n4 HL H' h H56 HS2 HR2 HL0 HK HB ew8 m0 m1 ka0 ks0 g0 d0
        go_wp2_with fail
        refine (HT.out).mono ?_
        rintro e w9 ⟨rfl, h9, s9⟩
        have hQ := HQ.out w9 h9 s9
        have HQ2 := Lib.hid hQ
        clear hQ h9 s9 HQ HT
        go_wp2_with fail
        go_ret
        exact ⟨rfl, HQ2.out⟩
      | false =>
        obtain ⟨G3, w8, eG3, ew8, h8, s8⟩ := h7.wkid (i := l) (by rw [L2.out]; omega) true z
        have e3 : TreeP.link G2 (a, s) z l = G3 := by unfold TreeP.link; rw [if_neg HL0.out, if_neg (by rw [HK.out, ← HB.out]; decide), eG3]
        rw [e3] at r3 hs
        have HT := Lib.hid (settle_any h8 r3.1 z (by rw [r3.2, L2.out]; omega) Sf hs)
        have HQ : Hid (∀ w9, TW p g1 cap1 fr1 (many + 1) room Sf w9 → St p g1 w8 w9 → Turned p g fr free.dropLast (many + 1) room Sf w w9) := Lib.hid fun w9 h9 s9 =>
          ⟨g1, cap1, fr1, h.st2 h9 ((((H56.out).trans (((Step.refl _ _).drew).trans (Step.of_ext hx7))).trans s8).trans s9), HST.out.trans' ((((H56.out).trans (((Step.refl _ _).drew).trans (Step.of_ext hx7))).trans s8).trans s9) (fun i hi e => by
            rcases e with e | e
            · exact .inl e
            · rcases HFT.out g1 (.inr (.inl rfl)) with e' | e'
              · exact e ▸ e'
              · omega), HFT.out⟩
        have kx := h7.k1 (i := l) (by rw [L2.out]; omega)
        have kf := h7.gf (by rw [L2.out]; omega) (l * 7 + 4)
        have ew8' : w7.setCell ⟨g1, l * 7 + 4, none⟩ (.int .i64 z) = w8 := ew8
        clear hs eG3 h7 h8 s8 e3 r3 hx7 n1 n2 n3 n4 HL H' h H56 HS2 HR2 HL0 HK HB ew8 m0 m1 ka0 ks0 g0 d0
        go_wp2_with fail
        refine (HT.out).mono ?_
        rintro e w9 ⟨rfl, h9, s9⟩
        have hQ := HQ.out w9 h9 s9
        have HQ2 := Lib.hid hQ
        clear hQ h9 s9 HQ HT
        go_wp2_with fail
        go_ret
        exact ⟨rfl, HQ2.out⟩
end
end Go.Proofs.Ytkdmlpigkmlkmaa.Tr
