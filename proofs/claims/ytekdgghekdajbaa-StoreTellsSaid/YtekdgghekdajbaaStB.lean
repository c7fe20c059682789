/- DERIVED. Layer 10 (store): contract of Put, the way on which a packet is put. -/
import Derived.Test.YtekdgghekdajbaaStA
set_option linter.unusedVariables false
set_option linter.unusedSimpArgs false
set_option maxRecDepth 100000
namespace Go.Proofs.Ytekdgghekdajbaa.St
open Go.RowKit Go.Proofs.Ytekdgghekdajbaa Go.Proofs.Ytekdgghekdajbaa.Ar

theorem Own.blk5 {l : List HP} {w : World} {b : Nat} {x y z u t' : Value} {t : TypeId} (h : Own l w) (hm : Blk b #[x, y, z, u, t'] t ∈ l) :
    w.cell? ⟨b, 0, none⟩ = some x ∧ w.cell? ⟨b, 1, none⟩ = some y ∧ w.cell? ⟨b, 2, none⟩ = some z ∧ w.cell? ⟨b, 3, none⟩ = some u ∧ w.cell? ⟨b, 4, none⟩ = some t' := by
  simp [World.cell?, Own.blk h hm]
theorem Own.rowSet7d {g cap i : Nat} {H : List Hd} {l : List HP} {w : World} (h : Own (Row 72 7 (.slice (some ⟨g, 0, none⟩) H.length cap) H.length (H.flatMap hc) :: l) w) (hi : i < H.length) (x : Hd) :
    ∃ w1, ((((((((w.setCell ⟨g, i * 7, none⟩ (.int .u64 x.k)).setCell ⟨g, i * 7 + 1, none⟩ (.int .u64 x.c)).setCell ⟨g, i * 7 + 2, none⟩ (.int .i64 x.len)).setCell ⟨g, i * 7 + 3, none⟩ (.int .u8 x.pr)).setCell ⟨g, i * 7 + 4, none⟩ (.int .u64 x.at_)).setCell ⟨g, i * 7 + 5, none⟩ (.int .u64 x.seq)).setCell ⟨g, i * 7 + 6, none⟩ (.int .u64 x.came)).drew) = w1 ∧
      Own (Row 72 7 (.slice (some ⟨g, 0, none⟩) H.length cap) (H.set i x).length ((H.set i x).flatMap hc) :: l) w1 := by
  have := Own.rowSet7 hc_len h hi x (.int .u64 x.k) (.int .u64 x.c) (.int .i64 x.len) (.int .u8 x.pr) (.int .u64 x.at_) (.int .u64 x.seq) (.int .u64 x.came) rfl
  refine ⟨_, rfl, ?_⟩
  have h2 := this.step ((Ext.refl _).drew)
  rw [List.length_set] at h2 ⊢
  exact h2
/-- the cells of one that is held -/
theorem row_hd {g cap i : Nat} {H : List Hd} {w : World} (h : w.ownsRow 0 72 7 (.slice (some ⟨g, 0, none⟩) H.length cap) H.length (H.flatMap hc)) {x : Hd} (hx : H[i]? = some x) :
    w.cell? ⟨g, i * 7, none⟩ = some (.int .u64 x.k) ∧ w.cell? ⟨g, i * 7 + 1, none⟩ = some (.int .u64 x.c) ∧ w.cell? ⟨g, i * 7 + 2, none⟩ = some (.int .i64 x.len) ∧ w.cell? ⟨g, i * 7 + 3, none⟩ = some (.int .u8 x.pr) ∧ w.cell? ⟨g, i * 7 + 4, none⟩ = some (.int .u64 x.at_) ∧
      w.cell? ⟨g, i * 7 + 5, none⟩ = some (.int .u64 x.seq) ∧ w.cell? ⟨g, i * 7 + 6, none⟩ = some (.int .u64 x.came) := by
  have hi := (List.getElem?_eq_some_iff.1 hx).1
  obtain ⟨g', cap', e, _, hcs⟩ := own_form h (by omega)
  injection e with e1 _ _
  injection e1 with e1
  injection e1 with e1
  subst e1
  have hh : ∀ c u, c < 7 → (hc x)[c]? = some u → w.cell? ⟨g, i * 7 + c, none⟩ = some u := fun c u h1 h2 => (hcs _ _ ((flat_at7 hc hc_len H i c x hx h1).trans h2)).1
  exact ⟨hh 0 _ (by omega) rfl, hh 1 _ (by omega) rfl, hh 2 _ (by omega) rfl, hh 3 _ (by omega) rfl, hh 4 _ (by omega) rfl, hh 5 _ (by omega) rfl, hh 6 _ (by omega) rfl⟩
def putH (H : List Hd) (q : Nat) (x : Hd) : List Hd := if q < H.length then H.set q x else H ++ [x]
section
variable {p pa N : Nat} {v : Value} {X : A} {H : List Hd} {bys nx : Int} {l : List HP} {w : World}
set_option maxHeartbeats 4000000 in
theorem put_ok (h : Sto p X H bys nx l w) (ho : Ok N X) (hN : N < 100000000) (hX : H.length = X.st.length) (hu : X.used < X.room) (k c len pr at_ now : Int) (hb : bad len pr = false) (b0 : 0 ≤ bys) (b1 : bys ≤ 100000000000) (n0 : 0 ≤ nx) (n1 : nx ≤ 100000000000) :
    Calls Try.prog 30 #[.pointer (some ⟨p, 0, none⟩), pk k c len pr at_, .int .u64 now] w fun e w' => e = .returned (.tuple #[.int .u64 ((hdl (tk X) (tq X) : Nat) : Int), .int .i64 0]) ∧ Sto p (tk X) (putH H (tq X) ⟨k, c, len, pr, at_, nx, now⟩) (bys + len) (nx + 1) l w' := by
  obtain ⟨pa, v, h⟩ := h
  have h1 := (Own.blkNew h #[.int .u64 k, .int .u64 c, .int .i64 len, .int .u8 pr, .int .u64 at_] 69).back4
  obtain ⟨c0, c1, c2, c3, f⟩ := Own.blk4 h1 (.head _)
  have HS := Lib.hid (snone_any (cs := #[]) h1 (.head _))
  unfold bad at hb
  simp only [Bool.or_eq_false_iff, decide_eq_false_iff_not] at hb
  obtain ⟨l1, l2, l3⟩ := hb
  have d1 : decide (len < 1) = false := by simpa using l1
  have d2 : decide (65536 < len) = false := by simpa using l2
  have d3 : decide (15 < pr) = false := by simpa using l3
  have hne : ¬ X.used = X.room := by omega
  have e1 : tkH X = hdl (tk X) (tq X) := by unfold tkH; rw [if_neg hne]
  have e2 : tkE X = 0 := by unfold tkE; rw [if_neg hne]
  have e3 : tkA X = tk X := by unfold tkA; rw [if_neg hne]
  obtain ⟨t, ho'⟩ := take_spec ho hu
  obtain ⟨hpb, hpv, hlt⟩ := take_place ho hu
  have HT := Lib.hid (own_take' h1.swap ho (by omega) e1 e2 e3)
  obtain ⟨q, eq⟩ : ∃ q, q = tq X := ⟨_, rfl⟩
  obtain ⟨hh, ehh⟩ : ∃ hh, hh = hdl (tk X) (tq X) := ⟨_, rfl⟩
  rw [← ehh] at HT hpb hpv hlt
  rw [← eq] at hpv
  rw [← ehh, ← eq]
  have hql : q ≤ H.length := by rw [eq, hX]; have := t.q; have := t.len; omega
  have hr := ho'.r2
  have hl65 := ho'.len
  have hn65 : H.length ≤ 65536 := by rw [hX]; have := t.old; omega
  have PB := Lib.hid hpb
  have PV := Lib.hid hpv
  have HO := Lib.hid ho'
  have HLT := Lib.hid hlt
  clear h h1 f e1 e2 e3 hu hne t ho' hpb hpv hlt eq ehh hX ho hr hl65
  go_enter Try.func30, Try.ntmps30
  go_wp2_with (first
    | (go_at_call 45; refine (HS.out).mono ?_; rintro e w' ⟨rfl, rfl⟩)
    | (go_at_call 19; refine (HT.out).mono ?_; rintro e w2 ⟨rfl, h2⟩; have H2 := Lib.hid h2; obtain ⟨m0, m1, m2, m3, mf⟩ := Own.blk4 h2 (.tail _ (.head _)); clear h2 c0 c1 c2 c3)
    | (go_at_call 14; refine (own_place' hh H2.out HO.out (by omega) (by have := HLT.out; omega) PV.out PB.out).mono ?_; rintro e w' ⟨rfl, rfl⟩))
  refine wp_loop_rounds 2 ?_
  rw [rounds_succ]
  obtain ⟨va, vc, rfl⟩ := own_slice H2.out.third.row
  by_cases hq : q < H.length
  · obtain ⟨g, cap', ev, hcap, _⟩ := own_cap H2.out.third.row (by omega)
    injection ev with ea _ ec
    subst ea ec
    have HR := Lib.hid H2.out.third
    obtain ⟨w3, e3⟩ : ∃ w3, w3 = w2 := ⟨_, rfl⟩
    subst e3
    have hqI : (q : Int) < (H.length : Int) := by omega
    clear H2
    go_wp2_with fail
    have hi : q < (H).length := by exact hq
    have hw := HR.out.row
    obtain ⟨k0, k1, k2, k3, k4⟩ := Own.blk5 HR.out (b := w.heap.size) (x := .int .u64 k) (y := .int .u64 c) (z := .int .i64 len) (u := .int .u8 pr) (t' := .int .u64 at_) (t := 69) (by simp)
    obtain ⟨s0, s1, s2, s3, s4, s5, s6⟩ := row_hd hw (List.getElem?_eq_getElem hi)
    have sf : ∀ o, w3.frozen? ⟨g, o, none⟩ = false := fun o => hw.frozen' rfl o
    have z0 := sf (q * 7)
    have z1 := sf (q * 7 + 1)
    have z2 := sf (q * 7 + 2)
    have z3 := sf (q * 7 + 3)
    have z4 := sf (q * 7 + 4)
    have z5 := sf (q * 7 + 5)
    have z6 := sf (q * 7 + 6)
    obtain ⟨w4, e4, h4⟩ := Own.rowSet7d HR.out hi ⟨k, c, len, pr, at_, nx, now⟩
    obtain ⟨b40, b41, b42, b43, b4f⟩ := Own.blk4 h4 (b := p) (x := .pointer (some ⟨pa, 0, none⟩)) (y := .slice (some ⟨g, 0, none⟩) (H).length vc) (z := .int .i64 bys) (u := .int .u64 nx) (t := 97) (by simp)
    have h5 := Own.blkSet (o := 3) h4.third (.int .u64 (nx + 1))
    obtain ⟨w5, e5⟩ : ∃ w5, w4.setCell ⟨p, 3, none⟩ (.int .u64 (nx + 1)) = w5 := ⟨_, rfl⟩
    rw [e5] at h5
    have q2 : w5.cell? ⟨p, 2, none⟩ = some (.int .i64 bys) := by simp [World.cell?, Own.blk h5 (.head _)]
    have qf : w5.frozen? ⟨p, 2, none⟩ = false := by simp [World.frozen?, Own.blk h5 (.head _)]
    have qk : w5.cell? ⟨w.heap.size, 2, none⟩ = some (.int .i64 len) := (Own.blk5 h5 (b := w.heap.size) (x := .int .u64 k) (y := .int .u64 c) (z := .int .i64 len) (u := .int .u8 pr) (t' := .int .u64 at_) (t := 69) (by simp)).2.2.1
    have h6 := Own.blkSet (o := 2) (h5.step ((Ext.refl _).drew)) (.int .i64 (bys + len))
    have q3 := b4f 3
    have i1 : (q : Int) < ((H).length : Int) := by omega
    have bl : 0 ≤ bys + len ∧ bys + len ≤ 200000000000 := by constructor <;> omega
    have fin : Sto p (tk X) (putH H q ⟨k, c, len, pr, at_, nx, now⟩) (bys + len) (nx + 1) l (w5.drew.setCell ⟨p, 2, none⟩ (.int .i64 (bys + len))) := by
      refine ⟨pa, .slice (some ⟨g, 0, none⟩) (H).length vc, ?_⟩
      have e7 : (H).set q ⟨k, c, len, pr, at_, nx, now⟩ = putH H q ⟨k, c, len, pr, at_, nx, now⟩ := by unfold putH; rw [if_pos hq]
      have h7 := h6
      rw [e7] at h7
      exact (((h7.tail OwnIn.swap).fourth).drop)
    have FIN := Lib.hid fin
    clear fin h4 h5 h6 hw b4f sf m0 m2 mf HR
    go_region
    go_wp2_with fail
    go_region
    go_wp2_with fail
    go_ret2
    exact ⟨rfl, FIN.out⟩
  · have hqe : q = H.length := by omega
    obtain ⟨H', eH⟩ : ∃ H', H' = H ++ [zeroH] := ⟨_, rfl⟩
    have hlen : H.length + 1 = H'.length := by rw [eH]; simp
    have hfl : H.flatMap hc ++ [.int .u64 0, .int .u64 0, .int .i64 0, .int .u8 0, .int .u64 0, .int .u64 0, .int .u64 0] = H'.flatMap hc := by rw [eH]; simp [List.flatMap_append, hc, zeroH]
    have HLE := Lib.hid hlen
    have HFL := Lib.hid hfl
    have HEQ := Lib.hid eH
    have HQE := Lib.hid hqe
    have hq1 : ((H.length : Nat) : Int) ≤ (q : Int) := by omega
    clear hlen hfl eH hqe
    go_wp2_with (first
      | (at_builtin; refine app_own (W := w2) rfl _ _ _ _ _ 7 56 rfl Try.underlying95 infoHeld rfl (by omega) (by omega) (.slice va H.length vc) H.length (H.flatMap hc) [.int .u64 0, .int .u64 0, .int .i64 0, .int .u8 0, .int .u64 0, .int .u64 0, .int .u64 0] rfl _ (by simp) rfl rfl (by simp [Value.oneCell']) (by exact H2.out.third.row) (by omega) ?_; intro v1 w4 hown hgrow hmv
         rw [HLE.out, HFL.out] at hown
         have hr2 := H2.out.third.rowApp hown hgrow hmv
         obtain ⟨g, cap, rfl, hcap, hcm⟩ := own_cap hown (by have := HLE.out; omega)
         obtain ⟨a0, a1, a2, a3, af⟩ := Own.blk4 hr2 (b := p) (x := .pointer (some ⟨pa, 0, none⟩)) (y := .slice va H.length vc) (z := .int .i64 bys) (u := .int .u64 nx) (t := 97) (by simp)
         have af1 := af 1
         have hb2 := Own.blkSet (o := 1) hr2.third (.slice (some ⟨g, 0, none⟩) H'.length cap)
         obtain ⟨w3, e3⟩ : ∃ w3, w4.setCell ⟨p, 1, none⟩ (.slice (some ⟨g, 0, none⟩) H'.length cap) = w3 := ⟨_, rfl⟩
         rw [e3] at hb2
         have HR := Lib.hid (show Own (Row 72 7 (.slice (some ⟨g, 0, none⟩) H'.length cap) H'.length (H'.flatMap hc) :: Arena pa (tk X) :: Blk p #[.pointer (some ⟨pa, 0, none⟩), .slice (some ⟨g, 0, none⟩) H'.length cap, .int .i64 bys, .int .u64 nx] 97 :: Blk w.heap.size #[.int .u64 k, .int .u64 c, .int .i64 len, .int .u8 pr, .int .u64 at_] 69 :: l) w3 from hb2.back3)
         clear hown hgrow hmv hr2 hb2 af m0 m2 mf)
      | fail)
    rw [rounds_succ]
    have hqn : ((H'.length : Nat) : Int) ≤ (q : Int) → False := by have := HLE.out; omega
    have hqI : (q : Int) < (H'.length : Int) := by have := HLE.out; omega
    obtain ⟨m0, m1, m2, m3, mf⟩ := Own.blk4 HR.out (b := p) (x := .pointer (some ⟨pa, 0, none⟩)) (y := .slice (some ⟨g, 0, none⟩) H'.length cap) (z := .int .i64 bys) (u := .int .u64 nx) (t := 97) (by simp)
    clear hqn H2
    go_wp2_with fail
    have hlen := HLE.out
    have eH := HEQ.out
    have hqe := HQE.out
    have hi : q < (H').length := by omega
    have hw := HR.out.row
    obtain ⟨k0, k1, k2, k3, k4⟩ := Own.blk5 HR.out (b := w.heap.size) (x := .int .u64 k) (y := .int .u64 c) (z := .int .i64 len) (u := .int .u8 pr) (t' := .int .u64 at_) (t := 69) (by simp)
    obtain ⟨s0, s1, s2, s3, s4, s5, s6⟩ := row_hd hw (List.getElem?_eq_getElem hi)
    have sf : ∀ o, w3.frozen? ⟨g, o, none⟩ = false := fun o => hw.frozen' rfl o
    have z0 := sf (q * 7)
    have z1 := sf (q * 7 + 1)
    have z2 := sf (q * 7 + 2)
    have z3 := sf (q * 7 + 3)
    have z4 := sf (q * 7 + 4)
    have z5 := sf (q * 7 + 5)
    have z6 := sf (q * 7 + 6)
    obtain ⟨w4, e4, h4⟩ := Own.rowSet7d HR.out hi ⟨k, c, len, pr, at_, nx, now⟩
    obtain ⟨b40, b41, b42, b43, b4f⟩ := Own.blk4 h4 (b := p) (x := .pointer (some ⟨pa, 0, none⟩)) (y := .slice (some ⟨g, 0, none⟩) (H').length cap) (z := .int .i64 bys) (u := .int .u64 nx) (t := 97) (by simp)
    have h5 := Own.blkSet (o := 3) h4.third (.int .u64 (nx + 1))
    obtain ⟨w5, e5⟩ : ∃ w5, w4.setCell ⟨p, 3, none⟩ (.int .u64 (nx + 1)) = w5 := ⟨_, rfl⟩
    rw [e5] at h5
    have q2 : w5.cell? ⟨p, 2, none⟩ = some (.int .i64 bys) := by simp [World.cell?, Own.blk h5 (.head _)]
    have qf : w5.frozen? ⟨p, 2, none⟩ = false := by simp [World.frozen?, Own.blk h5 (.head _)]
    have qk : w5.cell? ⟨w.heap.size, 2, none⟩ = some (.int .i64 len) := (Own.blk5 h5 (b := w.heap.size) (x := .int .u64 k) (y := .int .u64 c) (z := .int .i64 len) (u := .int .u8 pr) (t' := .int .u64 at_) (t := 69) (by simp)).2.2.1
    have h6 := Own.blkSet (o := 2) (h5.step ((Ext.refl _).drew)) (.int .i64 (bys + len))
    have q3 := b4f 3
    have i1 : (q : Int) < ((H').length : Int) := by omega
    have bl : 0 ≤ bys + len ∧ bys + len ≤ 200000000000 := by constructor <;> omega
    have fin : Sto p (tk X) (putH H q ⟨k, c, len, pr, at_, nx, now⟩) (bys + len) (nx + 1) l (w5.drew.setCell ⟨p, 2, none⟩ (.int .i64 (bys + len))) := by
      refine ⟨pa, .slice (some ⟨g, 0, none⟩) (H').length cap, ?_⟩
      have e7 : (H').set q ⟨k, c, len, pr, at_, nx, now⟩ = putH H q ⟨k, c, len, pr, at_, nx, now⟩ := by unfold putH; rw [if_neg hq, eH, hqe]; simp [List.set_append_right]
      have h7 := h6
      rw [e7] at h7
      exact (((h7.tail OwnIn.swap).fourth).drop)
    have FIN := Lib.hid fin
    clear fin h4 h5 h6 hw b4f sf m0 m2 mf HR eH hqe hlen
    go_region
    go_wp2_with fail
    go_region
    go_wp2_with fail
    go_ret2
    exact ⟨rfl, FIN.out⟩
end
end Go.Proofs.Ytekdgghekdajbaa.St
