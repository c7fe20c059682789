/- DERIVED. Layer 14 (table): the law TableTells. Written by wip/mktcj.py. -/
import Derived.Test.YtkdmlpigkmlkmaaTcI
import Derived.Test.YtkdmlpigkmlkmaaTbL
import Derived.Deep.CutBlock
set_option linter.unusedVariables false
set_option linter.unusedSimpArgs false
set_option maxRecDepth 100000
namespace Go.Proofs.Ytkdmlpigkmlkmaa.Tb
open Go.RowKit Go.Proofs.Ytkdmlpigkmlkmaa Go.Proofs.Ytkdmlpigkmlkmaa.TreeP Go.Proofs.Ytkdmlpigkmlkmaa.Tr Go.Proofs.Ytkdmlpigkmlkmaa.Bk

theorem doc_fresh (n : Nat) : docL 0 (freshT n).rows = [] := by
  have : ∀ (n j : Nat), docL j (List.replicate n none) = [] := fun n => by
    induction n with
    | zero => intro j; rfl
    | succ n ih => intro j; rw [List.replicate_succ, docL]; exact ih _
  exact this n 0
theorem own_kb {p n bits N : Nat} {keep : Int} {S : T} {l : List HP} {w : World} (h : Own (Tbl p n bits N keep S :: l) w) : TI n N S ∧ bits ≤ 10 ∧ 0 ≤ keep ∧ keep ≤ 18446744073709551615 := by
  obtain ⟨g, pb, pa, hx, -⟩ := tb_open h
  exact hx
/-- the table, and the document's in box b -/
abbrev TL (w0 : World) (p b n bits N : Nat) (keep : Int) (vL vG : Value) (S : T) : List HP := Tbl p n bits N keep S :: BD b n bits keep vL vG S.X.st.length :: Dc vL vG S [Old w0]
abbrev TLo (w0 : World) (p b bo n bits bitsR N : Nat) (keep keepR : Int) (uR : Nat) (vR vRG vL vG : Value) (o : TOp) (S SR : T) : List HP := Tbl p n bits N keep S :: BOp bo o :: BD b n bitsR keepR vR vRG uR :: Dc vL vG SR [Old w0]
def TT2 (w0 : World) (p b n N : Nat) (s15 s16 : Value) (wx : World) : Prop := ∃ (er : Int) (S : T) (bt : Nat) (kp : Int) (vL vG : Value), s15 = .int .i64 er ∧ s16 = .int .i64 er ∧ Own (TL w0 p b n bt N kp vL vG S) wx
def TTL (w0 : World) (p b n m : Nat) (s79 : Value) (wr : World) : Prop := ∃ (i : Nat) (S : T) (bt : Nat) (kp : Int) (vL vG : Value), s79 = .int .i64 (i : Int) ∧ i ≤ m ∧ Own (TL w0 p b n bt (9 * i) kp vL vG S) wr
section
variable {w0 : World} {p b bo n bits bitsR N : Nat} {keep keepR : Int} {uR : Nat} {vR vRG vL vG : Value} {o : TOp} {S SR : T} {w : World}
theorem tlo_t (h : Own (TLo w0 p b bo n bits bitsR N keep keepR uR vR vRG vL vG o S SR) w) :
    (w.cell? ⟨b, 0, none⟩ = some (.int .i64 (n : Int)) ∧ w.cell? ⟨b, 1, none⟩ = some (.int .i64 (bitsR : Int)) ∧ w.cell? ⟨b, 2, none⟩ = some (.int .u64 keepR) ∧ w.cell? ⟨b, 3, none⟩ = some vR ∧ w.cell? ⟨b, 4, none⟩ = some vRG ∧ w.cell? ⟨b, 5, none⟩ = some (.int .i64 (uR : Int))) ∧ OpC w bo o := by
  obtain ⟨c0, c1, c2, c3, c4, c5, -⟩ := bd_cells (b := b) (n := n) (bits := bitsR) (keep := keepR) (vL := vR) (vG := vRG) (u := uR) h (.tail _ (.tail _ (.head _)))
  exact ⟨⟨c0, c1, c2, c3, c4, c5⟩, op_c h (.tail _ (.head _))⟩
/-- the document's table written back into its box -/
theorem tlo_set (h : Own (TLo w0 p b bo n bits bitsR N keep keepR uR vR vRG vL vG o S S) w) : ∃ va vc ga gk, vL = .slice va (docL 0 S.rows).length vc ∧ vG = .slice ga S.X.bk.length gk ∧
    (w.cell? ⟨b, 0, none⟩ = some (.int .i64 (n : Int)) ∧ w.cell? ⟨b, 1, none⟩ = some (.int .i64 (bitsR : Int)) ∧ w.cell? ⟨b, 2, none⟩ = some (.int .u64 keepR) ∧ w.cell? ⟨b, 3, none⟩ = some vR ∧ w.cell? ⟨b, 4, none⟩ = some vRG ∧ w.cell? ⟨b, 5, none⟩ = some (.int .i64 (uR : Int))) ∧
    (w.frozen? ⟨b, 0, none⟩ = false ∧ w.frozen? ⟨b, 1, none⟩ = false ∧ w.frozen? ⟨b, 2, none⟩ = false ∧ w.frozen? ⟨b, 3, none⟩ = false ∧ w.frozen? ⟨b, 4, none⟩ = false ∧ w.frozen? ⟨b, 5, none⟩ = false) ∧
    ∃ w1, (((((w.setCell ⟨b, 0, none⟩ (.int .i64 (n : Int))).setCell ⟨b, 1, none⟩ (.int .i64 (bits : Int))).setCell ⟨b, 2, none⟩ (.int .u64 keep)).setCell ⟨b, 3, none⟩ (.slice va (docL 0 S.rows).length vc)).setCell ⟨b, 4, none⟩ (.slice ga S.X.bk.length gk)).setCell ⟨b, 5, none⟩ (.int .i64 (S.X.st.length : Int)) = w1 ∧ Own (TL w0 p b n bits N keep vL vG S) w1 := by
  have h2 : Own (Dc vL vG S (Tbl p n bits N keep S :: BOp bo o :: BD b n bitsR keepR vR vRG uR :: [Old w0])) w := h.fourth.tail OwnIn.fourth
  obtain ⟨va, vc, ga, gk, rfl, rfl⟩ := dslices h2
  obtain ⟨c0, c1, c2, c3, c4, c5, f0, f1, f2, f3, f4, f5⟩ := bd_cells (b := b) (n := n) (bits := bitsR) (keep := keepR) (vL := vR) (vG := vRG) (u := uR) h (.tail _ (.tail _ (.head _)))
  obtain ⟨w1, e1, h3⟩ := Own.bdSet (n' := n) (bits' := bits) (keep' := keep) (vL' := .slice va (docL 0 S.rows).length vc) (vG' := .slice ga S.X.bk.length gk) (u' := S.X.st.length) h.third
  exact ⟨va, vc, ga, gk, rfl, rfl, ⟨c0, c1, c2, c3, c4, c5⟩, ⟨f0, f1, f2, f3, f4, f5⟩, w1, e1, h3.swap.third.drop⟩
end
set_option maxHeartbeats 60000000 in
theorem tells_main (n bits : Nat) (keep : Int) (v : Value) (m : Nat) (f : Nat → TOp) (w : World) (ho : Ops w v m f) (n1 : 1 ≤ n) (n2 : n ≤ 20) (hb : bits ≤ 10) (k0 : 0 ≤ keep) (k1 : keep ≤ 18446744073709551615) (hm : m ≤ 60) :
    Calls Try.prog 8 #[.int .i64 (n : Int), .int .i64 (bits : Int), .int .u64 keep, v] w fun e w' => e = .returned (.bool true) ∧ Ext w w' := by
  obtain ⟨hs, a, cap, rfl, q1, q2, q3⟩ := ho
  have Q3 := Lib.hid q3
  have HS := Lib.hid hs
  unfold maxLen at q2
  have HNW := Lib.hid (own_new n bits keep n1 (by omega) hb k0 k1 (Own.start w))
  have HRN : Hid (∀ (p : Nat) (w1 : World), Own [Tbl p n bits 0 keep (freshT n), Old w] w1 → Calls Try.prog 30 #[.int .i64 (n : Int), .int .i64 (bits : Int), .int .u64 keep] w1 fun e w' => e = .returned (.tuple #[dv n bits keep nilv nilv 0, .bool true]) ∧ Own [Tbl p n bits 0 keep (freshT n), Old w] w') := Lib.hid fun p w1 h1 => rnew_ok n bits keep n1 (by omega) hb h1
  have g3 : (n : Int) ≤ 20 := by omega
  have g4 : (m : Int) ≤ 60 := by omega
  have g5 : (m : Int) ≤ (cap : Int) := by omega
  clear q3 hs
  go_enter Try.func8, Try.ntmps8
  go_wp2_with fail
  (with_reducible refine (HNW.out).mono ?_)
  rintro e w1 ⟨p, rfl, h1⟩
  have H1 := Lib.hid h1
  clear h1 HNW
  go_wp2_with fail
  (with_reducible refine (HRN.out _ _ H1.out).mono ?_)
  rintro e w2 ⟨rfl, h2⟩
  obtain ⟨b, hbb⟩ : ∃ b, w2.heap.size = b := ⟨_, rfl⟩
  obtain ⟨W3, hW3, -, h3⟩ := boxT h2 hbb n bits keep nilv nilv 0
  have h4 := ((h3.nilRowR 3 1).nilRowR 76 9)
  have h5 : Own (TL w p b n bits (9 * 0) keep nilv nilv (freshT n)) W3 := by
    have := h4.fourth.fourth
    unfold TL Dc
    rw [doc_fresh]
    exact this.swap
  have H5 : Hid (TTL w p b n m (.int .i64 0) W3) := Lib.hid ⟨0, freshT n, bits, keep, nilv, nilv, rfl, Nat.zero_le _, h5⟩
  have HB := Lib.hid hbb
  have HW3 := Lib.hid hW3
  clear h2 h3 h4 h5 hbb hW3 HRN H1
  go_upto_region 3 with fail
  rw [HB.out]
  have HW3' := HW3.out
  rw [show (w2.alloc (.cells #[.int .i64 (n : Int), .int .i64 (bits : Int), .int .u64 keep, .slice none 0 0, .slice none 0 0, .int .i64 0] 64)) = W3 from HW3']
  clear HB HW3 HW3'
  go_wp2_with fail
  go_loopw [79] (fun s79 wr => TTL w p b n m s79 wr) (fun s79 _ => m - (intOf s79).toNat)
  case atStart => exact H5.out
  case round =>
    clear H5
    obtain ⟨i, S, bt, kp, vL, vG, rfl, hi, h⟩ := hrel
    by_cases hlt : i < m
    · have hltI : (i : Int) < (m : Int) := by omega
      obtain ⟨b2, off, rfl, hb2, hcell⟩ := Q3.out (by omega)
      have hx := h.ext (w0 := w) (by simp)
      have HOK := Lib.hid (HS.out i hlt)
      obtain ⟨o, ho⟩ : ∃ o, o = f i := ⟨_, rfl⟩
      rw [← ho] at HOK
      have hcc : ∀ c, c < 12 → wr.cell? ⟨b2, off + i * 12 + c, none⟩ = some (oc o c) := fun c hc => by rw [ho]; exact hx.cell (hcell i c hlt hc)
      have x0 : wr.cell? ⟨b2, off + i * 12, none⟩ = some (.int .u8 o.kind) := hcc 0 (by omega)
      have x1 : wr.cell? ⟨b2, off + i * 12 + 1, none⟩ = some (.int .u64 o.sock) := hcc 1 (by omega)
      have x2 : wr.cell? ⟨b2, off + i * 12 + 2, none⟩ = some (.int .u64 o.cookie) := hcc 2 (by omega)
      have x3 : wr.cell? ⟨b2, off + i * 12 + 3, none⟩ = some (.int .u64 o.now) := hcc 3 (by omega)
      have x4 : wr.cell? ⟨b2, off + i * 12 + 4, none⟩ = some (.int .i64 o.f) := hcc 4 (by omega)
      have x5 : wr.cell? ⟨b2, off + i * 12 + 5, none⟩ = some (.int .u64 o.x.s) := hcc 5 (by omega)
      have x6 : wr.cell? ⟨b2, off + i * 12 + 6, none⟩ = some (.int .u64 o.x.c) := hcc 6 (by omega)
      have x7 : wr.cell? ⟨b2, off + i * 12 + 7, none⟩ = some (.int .u64 o.x.ra) := hcc 7 (by omega)
      have x8 : wr.cell? ⟨b2, off + i * 12 + 8, none⟩ = some (.int .i64 o.x.cr) := hcc 8 (by omega)
      have x9 : wr.cell? ⟨b2, off + i * 12 + 9, none⟩ = some (.int .u64 o.x.nx) := hcc 9 (by omega)
      have x10 : wr.cell? ⟨b2, off + i * 12 + 10, none⟩ = some (.int .u64 o.x.db) := hcc 10 (by omega)
      have x11 : wr.cell? ⟨b2, off + i * 12 + 11, none⟩ = some (.int .u64 o.x.ag) := hcc 11 (by omega)
      have h1 := Go.Proofs.Ytkdmlpigkmlkmaa.Own.blkNew h #[.int .u8 o.kind, .int .u64 o.sock, .int .u64 o.cookie, .int .u64 o.now, .int .i64 o.f, .int .u64 o.x.s, .int .u64 o.x.c, .int .u64 o.x.ra, .int .i64 o.x.cr, .int .u64 o.x.nx, .int .u64 o.x.db, .int .u64 o.x.ag] 60
      obtain ⟨bo, hbo⟩ : ∃ bo, bo = wr.heap.size := ⟨_, rfl⟩
      rw [← hbo] at h1
      obtain ⟨W, hW⟩ : ∃ W, W = wr.alloc (.cells #[.int .u8 o.kind, .int .u64 o.sock, .int .u64 o.cookie, .int .u64 o.now, .int .i64 o.f, .int .u64 o.x.s, .int .u64 o.x.c, .int .u64 o.x.ra, .int .i64 o.x.cr, .int .u64 o.x.nx, .int .u64 o.x.db, .int .u64 o.x.ag] 60) := ⟨_, rfl⟩
      rw [← hW] at h1
      have HA : Hid (Own (TLo w p b bo n bt bt (9 * i) kp kp S.X.st.length vL vG vL vG o S S) W) := Lib.hid h1.swap
      obtain ⟨hti, hbt, hkp0, hkp1⟩ := own_kb h
      have HTI := Lib.hid hti
      have HKP := Lib.hid (And.intro hbt (And.intro hkp0 hkp1))
      have HW := Lib.hid hW
      have HBO := Lib.hid hbo
      clear h h1 hx hcell hb2 ho hcc hW hbo hti hbt hkp0 hkp1
      go_upto_region 10 with fail
      rw [← HBO.out, ← HW.out]
      clear HBO HW x0 x1 x2 x3 x4 x5 x6 x7 x8 x9 x10 x11
      obtain ⟨⟨c0, c1, c2, c3, c4, c5⟩, d0, d1, d2, d3, d4, d5, d6, d7, d8, d9, d10, d11⟩ := tlo_t HA.out
      go_upto_block 2 with fail
      go_cut [15, 16] (fun s15 s16 wx => TT2 w p b n (9 * (i + 1)) s15 s16 wx)
      case first =>
        by_cases hk1 : o.kind = 1
        · have e1 : (o.kind == 1) = true := by simp [hk1]
          clear hk1
          as_aux_lemma =>
          obtain ⟨FF, hFF⟩ : ∃ FF, FF = (findT n bt kp o.sock o.cookie o.now 300 S) := ⟨_, rfl⟩
          obtain ⟨LA, hLA⟩ : ∃ LA, LA = (TLo w p b bo n bt bt (9 * i) kp kp S.X.st.length vL vG vL vG o S S) := ⟨_, rfl⟩
          obtain ⟨LB, hLB⟩ : ∃ LB, LB = (TLo w p b bo n bt bt (9 * (i + 1)) kp kp S.X.st.length vL vG vL vG o FF.S S) := ⟨_, rfl⟩
          have HOA : Hid (∀ w', Own LA w' → Own LA w' ∧ (w'.cell? ⟨bo, 1, none⟩ = some (.int .u64 o.sock) ∧ w'.cell? ⟨bo, 2, none⟩ = some (.int .u64 o.cookie) ∧ w'.cell? ⟨bo, 3, none⟩ = some (.int .u64 o.now))) := Lib.hid fun w' h' => by
            have h0 := h'
            rw [hLA] at h'
            obtain ⟨-, k⟩ := tlo_t h'
            exact ⟨h0, k.c1, k.c2, k.c3⟩
          have HOB : Hid (∀ w', Own LB w' → Own LB w' ∧ (w'.cell? ⟨bo, 1, none⟩ = some (.int .u64 o.sock) ∧ w'.cell? ⟨bo, 2, none⟩ = some (.int .u64 o.cookie) ∧ w'.cell? ⟨bo, 3, none⟩ = some (.int .u64 o.now)) ∧ w'.cell? ⟨b, 0, none⟩ = some (.int .i64 (n : Int)) ∧ w'.cell? ⟨b, 1, none⟩ = some (.int .i64 (bt : Int)) ∧ w'.cell? ⟨b, 2, none⟩ = some (.int .u64 kp) ∧ w'.cell? ⟨b, 3, none⟩ = some vL ∧ w'.cell? ⟨b, 4, none⟩ = some vG ∧ w'.cell? ⟨b, 5, none⟩ = some (.int .i64 (S.X.st.length : Int))) := Lib.hid fun w' h' => by
            have h0 := h'
            rw [hLB] at h'
            obtain ⟨⟨k0, k1, k2, k3, k4, k5⟩, k⟩ := tlo_t h'
            exact ⟨h0, ⟨k.c1, k.c2, k.c3⟩, k0, k1, k2, k3, k4, k5⟩
          have HX : Hid (∀ w', Own LA w' → Calls Try.prog 13 #[.pointer (some ⟨p, 0, none⟩), .int .u64 o.sock, .int .u64 o.cookie, .int .u64 o.now, pace] w' fun e w2 => e = .returned (.tuple #[.int .i64 FF.f, .int .u8 FF.kind, .int .i64 FF.err]) ∧ (w2.cell? ⟨bo, 1, none⟩ = some (.int .u64 o.sock) ∧ w2.cell? ⟨bo, 2, none⟩ = some (.int .u64 o.cookie) ∧ w2.cell? ⟨bo, 3, none⟩ = some (.int .u64 o.now)) ∧ Own LB w2) := Lib.hid fun w' h' => by
            rw [hLA] at h'
            refine (own_find h' (by omega) o.sock o.cookie o.now 100 300 0 0 0 HOK.out.s0 HOK.out.s1).mono ?_
            rintro e w2 ⟨he, h2⟩
            rw [← hFF] at he h2
            have h3 : Own LB w2 := by rw [hLB]; exact tb_mono h2 (by omega)
            exact ⟨he, (HOB.out w2 h3).2.1, h3⟩
          have HPA : Hid (∀ w', Own LA w' → Calls Try.prog 14 #[] w' fun e w2 => e = .returned pace ∧ Own LA w2 ∧ (w2.cell? ⟨bo, 1, none⟩ = some (.int .u64 o.sock) ∧ w2.cell? ⟨bo, 2, none⟩ = some (.int .u64 o.cookie) ∧ w2.cell? ⟨bo, 3, none⟩ = some (.int .u64 o.now))) := Lib.hid fun w' h' => (pace_own h').mono fun e w2 ⟨he, h2⟩ => ⟨he, HOA.out w2 h2⟩
          have HPB : Hid (∀ w', Own LB w' → Calls Try.prog 14 #[] w' fun e w2 => e = .returned pace ∧ Own LB w2 ∧ (w2.cell? ⟨bo, 1, none⟩ = some (.int .u64 o.sock) ∧ w2.cell? ⟨bo, 2, none⟩ = some (.int .u64 o.cookie) ∧ w2.cell? ⟨bo, 3, none⟩ = some (.int .u64 o.now)) ∧ w2.cell? ⟨b, 0, none⟩ = some (.int .i64 (n : Int)) ∧ w2.cell? ⟨b, 1, none⟩ = some (.int .i64 (bt : Int)) ∧ w2.cell? ⟨b, 2, none⟩ = some (.int .u64 kp) ∧ w2.cell? ⟨b, 3, none⟩ = some vL ∧ w2.cell? ⟨b, 4, none⟩ = some vG ∧ w2.cell? ⟨b, 5, none⟩ = some (.int .i64 (S.X.st.length : Int))) := Lib.hid fun w' h' => (pace_own h').mono fun e w2 ⟨he, h2⟩ => ⟨he, HOB.out w2 h2⟩
          obtain ⟨nq2, hnq⟩ : ∃ x, x = (docL 0 FF.S.rows).length := ⟨_, rfl⟩
          obtain ⟨ng, hng⟩ : ∃ x, x = FF.S.X.bk.length := ⟨_, rfl⟩
          obtain ⟨nu, hnu⟩ : ∃ x, x = FF.S.X.st.length := ⟨_, rfl⟩
          have HR : Hid (∀ w', Own LB w' → Calls Try.prog 31 #[dv n bt kp vL vG S.X.st.length, .int .u64 o.sock, .int .u64 o.cookie, .int .u64 o.now, pace] w' fun e w2 => ∃ va' vc' ga' gk', e = .returned (.tuple #[.agg #[.int .i64 (n : Int), .int .i64 (bt : Int), .int .u64 kp, .slice va' nq2 vc', .slice ga' ng gk', .int .i64 (nu : Int)], .int .i64 FF.f, .int .u8 FF.kind, .int .i64 FF.err]) ∧ Own (TLo w p b bo n bt bt (9 * (i + 1)) kp kp S.X.st.length vL vG (.slice va' nq2 vc') (.slice ga' ng gk') o FF.S FF.S) w2) := Lib.hid fun w' h' => by
            rw [hLB] at h'
            refine (rfind_any (M := 9 * i) HTI.out HKP.out.1 HKP.out.2 (h'.fourth.tail OwnIn.fourth) o.sock o.cookie o.now 100 300 0 0 0 HOK.out.s0 HOK.out.s1).mono ?_
            rintro e w2 ⟨v1, v2, he, h2⟩
            rw [← hFF] at he h2
            obtain ⟨va', vc', ga', gk', rfl, rfl⟩ := dslices h2
            rw [← hnq, ← hng] at h2 he
            rw [← hnu] at he
            exact ⟨va', vc', ga', gk', he, (h2.tail OwnIn.back4).back4⟩
          have HAA : Hid (Own LA W) := Lib.hid (by rw [hLA]; exact HA.out)
          have n1x : (FF.f != FF.f) = false := by simp
          have n2x : (FF.kind != FF.kind) = false := by simp
          have n3x : (FF.err != FF.err) = false := by simp
          have HEND : Hid (∀ X1 X2 w4, Own (TL w p b n bt (9 * (i + 1)) kp X1 X2 FF.S) w4 → TT2 w p b n (9 * (i + 1)) (.int .i64 0) (.int .i64 0) w4) := Lib.hid fun X1 X2 w4 h4 => ⟨0, FF.S, bt, kp, X1, X2, rfl, rfl, h4⟩
          have HNQ := Lib.hid (And.intro hnq (And.intro hng hnu))
          have HFF := Lib.hid hFF
          have HLB2 := Lib.hid hLB
          clear hFF hLA hLB hnq hng hnu
          go_upto_region 13 with fail
          have hg := HAA.out.step (Ext.refl _).drew
          go_region_held3 (fun w' => (w'.cell? ⟨bo, 1, none⟩ = some (.int .u64 o.sock) ∧ w'.cell? ⟨bo, 2, none⟩ = some (.int .u64 o.cookie) ∧ w'.cell? ⟨bo, 3, none⟩ = some (.int .u64 o.now)))
            (first | exact (HOA.out _ hg).2 | exact (HOA.out _ (by assumption)).2 | assumption | (refine ⟨?_, ?_, ?_⟩ <;> assumption))
            (first
              | (go_at_call 14; go_split_ands; (with_reducible refine (HPA.out _ (by assumption)).mono ?_); rintro e w8 ⟨rfl, hz, z1, z2, z3⟩)
              | (go_at_call 13; go_split_ands; (with_reducible refine (HX.out _ (by assumption)).mono ?_); rintro e w9 ⟨rfl, ⟨y1, y2, y3⟩, h9⟩))
          all_goals have HBB := Lib.hid (show Own LB _ by assumption)
          all_goals obtain ⟨-, ⟨y1, y2, y3⟩, c0, c1, c2, c3, c4, c5⟩ := HOB.out _ HBB.out
          have HPZ : Hid (∀ c w', Own (LB ++ [BD c 0 0 0 nilv nilv 0]) w' → Calls Try.prog 14 #[] w' fun e w2 => e = .returned pace ∧ Own (LB ++ [BD c 0 0 0 nilv nilv 0]) w2 ∧ (w2.cell? ⟨bo, 1, none⟩ = some (.int .u64 o.sock) ∧ w2.cell? ⟨bo, 2, none⟩ = some (.int .u64 o.cookie) ∧ w2.cell? ⟨bo, 3, none⟩ = some (.int .u64 o.now)) ∧ w2.cell? ⟨b, 0, none⟩ = some (.int .i64 (n : Int)) ∧ w2.cell? ⟨b, 1, none⟩ = some (.int .i64 (bt : Int)) ∧ w2.cell? ⟨b, 2, none⟩ = some (.int .u64 kp) ∧ w2.cell? ⟨b, 3, none⟩ = some vL ∧ w2.cell? ⟨b, 4, none⟩ = some vG ∧ w2.cell? ⟨b, 5, none⟩ = some (.int .i64 (S.X.st.length : Int))) := Lib.hid fun c w' h' => (pace_own h').mono fun e w2 ⟨he, h2⟩ => ⟨he, h2, (HOB.out w2 (h2.perm List.perm_append_comm).drop).2⟩
          have HRZ : Hid (∀ c w', Own (LB ++ [BD c 0 0 0 nilv nilv 0]) w' → Calls Try.prog 31 #[dv n bt kp vL vG S.X.st.length, .int .u64 o.sock, .int .u64 o.cookie, .int .u64 o.now, pace] w' fun e w2 => ∃ va' vc' ga' gk' v1 v2 v3 v4 v5 v6, e = .returned (.tuple #[.agg #[.int .i64 (n : Int), .int .i64 (bt : Int), .int .u64 kp, .slice va' nq2 vc', .slice ga' ng gk', .int .i64 (nu : Int)], .int .i64 FF.f, .int .u8 FF.kind, .int .i64 FF.err]) ∧ (Wr w2 ⟨c, 0, none⟩ (.int .i64 (n : Int)) v1 ∧ Wr v1 ⟨c, 1, none⟩ (.int .i64 (bt : Int)) v2 ∧ Wr v2 ⟨c, 2, none⟩ (.int .u64 kp) v3 ∧ Wr v3 ⟨c, 3, none⟩ (.slice va' nq2 vc') v4 ∧ Wr v4 ⟨c, 4, none⟩ (.slice ga' ng gk') v5 ∧ Wr v5 ⟨c, 5, none⟩ (.int .i64 (nu : Int)) v6) ∧ (v6.cell? ⟨c, 0, none⟩ = some (.int .i64 (n : Int)) ∧ v6.cell? ⟨c, 1, none⟩ = some (.int .i64 (bt : Int)) ∧ v6.cell? ⟨c, 2, none⟩ = some (.int .u64 kp) ∧ v6.cell? ⟨c, 3, none⟩ = some (.slice va' nq2 vc') ∧ v6.cell? ⟨c, 4, none⟩ = some (.slice ga' ng gk') ∧ v6.cell? ⟨c, 5, none⟩ = some (.int .i64 (nu : Int))) ∧ ((w2.cell? ⟨bo, 1, none⟩ = some (.int .u64 o.sock) ∧ w2.cell? ⟨bo, 2, none⟩ = some (.int .u64 o.cookie) ∧ w2.cell? ⟨bo, 3, none⟩ = some (.int .u64 o.now)) ∧ w2.cell? ⟨b, 0, none⟩ = some (.int .i64 (n : Int)) ∧ w2.cell? ⟨b, 1, none⟩ = some (.int .i64 (bt : Int)) ∧ w2.cell? ⟨b, 2, none⟩ = some (.int .u64 kp) ∧ w2.cell? ⟨b, 3, none⟩ = some vL ∧ w2.cell? ⟨b, 4, none⟩ = some vG ∧ w2.cell? ⟨b, 5, none⟩ = some (.int .i64 (S.X.st.length : Int))) ∧ Own (BD c n bt kp (.slice va' nq2 vc') (.slice ga' ng gk') nu :: (TLo w p b bo n bt bt (9 * (i + 1)) kp kp S.X.st.length vL vG (.slice va' nq2 vc') (.slice ga' ng gk') o FF.S FF.S)) v6) := Lib.hid fun c w' h' => by
            rw [HLB2.out] at h'
            refine (rfind_any (M := 9 * i) HTI.out HKP.out.1 HKP.out.2 (l := Tbl p n bt (9 * (i + 1)) kp FF.S :: BOp bo o :: BD b n bt kp vL vG S.X.st.length :: Old w :: [BD c 0 0 0 nilv nilv 0]) ((show Own (TLo w p b bo n bt bt (9 * (i + 1)) kp kp S.X.st.length vL vG vL vG o FF.S S ++ [BD c 0 0 0 nilv nilv 0]) w' from h').fourth.tail OwnIn.fourth) o.sock o.cookie o.now 100 300 0 0 0 HOK.out.s0 HOK.out.s1).mono ?_
            rintro e w2 ⟨u1, u2, he, h2⟩
            rw [← HFF.out] at he h2
            obtain ⟨va', vc', ga', gk', rfl, rfl⟩ := dslices h2
            rw [← HNQ.out.1, ← HNQ.out.2.1] at h2 he
            rw [← HNQ.out.2.2] at he
            have h3 : Own (BD c 0 0 0 nilv nilv 0 :: (TLo w p b bo n bt bt (9 * (i + 1)) kp kp S.X.st.length vL vG (.slice va' nq2 vc') (.slice ga' ng gk') o FF.S FF.S)) w2 := ((show Own ((TLo w p b bo n bt bt (9 * (i + 1)) kp kp S.X.st.length vL vG (.slice va' nq2 vc') (.slice ga' ng gk') o FF.S FF.S) ++ [BD c 0 0 0 nilv nilv 0]) w2 from (h2.tail OwnIn.back4).back4)).perm List.perm_append_comm
            obtain ⟨v1, v2, v3, v4, v5, v6, w1, w2', w3, w4, w5, w6, h6⟩ := bd_wr (n' := n) (bits' := bt) (keep' := kp) (vL' := .slice va' nq2 vc') (vG' := .slice ga' ng gk') (u' := nu) h3
            obtain ⟨q0, q1, q2, q3, q4, q5, -⟩ := bd_cells h6 (.head _)
            obtain ⟨⟨m0, m1, m2, m3, m4, m5⟩, mo⟩ := tlo_t h3.drop
            exact ⟨va', vc', ga', gk', v1, v2, v3, v4, v5, v6, he, ⟨w1, w2', w3, w4, w5, w6⟩, ⟨q0, q1, q2, q3, q4, q5⟩, ⟨⟨mo.c1, mo.c2, mo.c3⟩, m0, m1, m2, m3, m4, m5⟩, h6⟩
          have hgb := HBB.out.step (Ext.refl _).drew
          obtain ⟨PP, hPP⟩ : ∃ PP : Nat → World → Prop, PP = fun c wx => ∃ va' vc' ga' gk', Own (BD c n bt kp (.slice va' nq2 vc') (.slice ga' ng gk') nu :: (TLo w p b bo n bt bt (9 * (i + 1)) kp kp S.X.st.length vL vG (.slice va' nq2 vc') (.slice ga' ng gk') o FF.S FF.S)) wx := ⟨_, rfl⟩
          have HPP : Hid (∀ c va' vc' ga' gk' wx, Own (BD c n bt kp (.slice va' nq2 vc') (.slice ga' ng gk') nu :: (TLo w p b bo n bt bt (9 * (i + 1)) kp kp S.X.st.length vL vG (.slice va' nq2 vc') (.slice ga' ng gk') o FF.S FF.S)) wx → PP c wx) := Lib.hid fun c va' vc' ga' gk' wx h => by rw [hPP]; exact ⟨va', vc', ga', gk', h⟩
          have HPQ : Hid (∀ c wx, PP c wx → ∃ va' vc' ga' gk', Own (BD c n bt kp (.slice va' nq2 vc') (.slice ga' ng gk') nu :: (TLo w p b bo n bt bt (9 * (i + 1)) kp kp S.X.st.length vL vG (.slice va' nq2 vc') (.slice ga' ng gk') o FF.S FF.S)) wx) := Lib.hid fun c wx h => by rw [hPP] at h; exact h
          clear hPP
          go_upto_region 14 with fail
          go_cut [20, 21, 22, 23] (fun s20 s21 s22 s23 wx => ∃ c, s20 = .pointer (some ⟨c, 0, none⟩) ∧ s21 = .int .i64 FF.f ∧ s22 = .int .u8 FF.kind ∧ s23 = .int .i64 FF.err ∧ PP c wx)
          case first =>
            clear c0 c1 c2 c3 c4 c5 y1 y2 y3
            obtain ⟨-, ⟨y1, y2, y3⟩, c0, c1, c2, c3, c4, c5⟩ := HOB.out _ hgb
            obtain ⟨cz, hcz⟩ : ∃ cz, w9.heap.size = cz := ⟨_, rfl⟩
            have hzb : Own (LB ++ [BD cz 0 0 0 nilv nilv 0]) (w9.alloc (.cells #[.int .i64 0, .int .i64 0, .int .u64 0, .slice none 0 0, .slice none 0 0, .int .i64 0] 64)).drew := by
              obtain ⟨W, hW, -, h⟩ := boxZ HBB.out hcz
              rw [hW]
              exact (h.perm (List.perm_append_singleton _ _).symm).step (Ext.refl _).drew
            obtain ⟨-, ⟨s1, s2, s3⟩, b0, b1, b2, b3, b4, b5⟩ := HOB.out _ (hzb.perm List.perm_append_comm).drop
            go_region_held3 (fun w' => (w'.cell? ⟨bo, 1, none⟩ = some (.int .u64 o.sock) ∧ w'.cell? ⟨bo, 2, none⟩ = some (.int .u64 o.cookie) ∧ w'.cell? ⟨bo, 3, none⟩ = some (.int .u64 o.now)) ∧ w'.cell? ⟨b, 0, none⟩ = some (.int .i64 (n : Int)) ∧ w'.cell? ⟨b, 1, none⟩ = some (.int .i64 (bt : Int)) ∧ w'.cell? ⟨b, 2, none⟩ = some (.int .u64 kp) ∧ w'.cell? ⟨b, 3, none⟩ = some vL ∧ w'.cell? ⟨b, 4, none⟩ = some vG ∧ w'.cell? ⟨b, 5, none⟩ = some (.int .i64 (S.X.st.length : Int)))
              (first | exact (HOB.out _ hgb).2 | exact ⟨⟨by assumption, by assumption, by assumption⟩, by assumption, by assumption, by assumption, by assumption, by assumption, by assumption⟩ | exact (HOB.out _ (hzb.perm List.perm_append_comm).drop).2 | exact (HOB.out _ (hz.step ((Ext.refl _).alloc _))).2 | go_keep)
              (first
                | (go_at_call 14; go_split_ands; (with_reducible refine (HPB.out _ hgb).mono ?_); rintro e w8 ⟨rfl, hz, ⟨z1, z2, z3⟩, z4, z5, z6, z7, z8, z9⟩; obtain ⟨c8, hc8⟩ : ∃ c8, w8.heap.size = c8 := ⟨_, rfl⟩)
                | (go_at_call 14; go_split_ands; (with_reducible refine (HPZ.out _ _ hzb).mono ?_); rintro e w8 ⟨rfl, hz, ⟨z1, z2, z3⟩, z4, z5, z6, z7, z8, z9⟩)
                | (go_at_call 31; go_split_ands; (with_reducible refine (HR.out _ hz).mono ?_); rintro e w9 ⟨va', vc', ga', gk', rfl, h9⟩; obtain ⟨c9, hc9⟩ : ∃ c9, w9.heap.size = c9 := ⟨_, rfl⟩; obtain ⟨W10, hW10, -, h10⟩ := boxZ h9 hc9; obtain ⟨v1, v2, v3, v4, v5, v6, ⟨g1, ⟨x1, t1⟩, f1⟩, ⟨g2, ⟨x2, t2⟩, f2⟩, ⟨g3', ⟨x3, t3⟩, f3⟩, ⟨g4', ⟨x4, t4⟩, f4⟩, ⟨g5', ⟨x5, t5⟩, f5⟩, ⟨g6, ⟨x6, t6⟩, f6⟩, h11⟩ := bd_wr (n' := n) (bits' := bt) (keep' := kp) (vL' := .slice va' nq2 vc') (vG' := .slice ga' ng gk') (u' := nu) h10; obtain ⟨q0, q1, q2, q3, q4, q5, -⟩ := bd_cells h11 (.head _); subst hW10; obtain ⟨⟨m0, m1, m2, m3, m4, m5⟩, mo⟩ := tlo_t h9; have mo1 := mo.c1; have mo2 := mo.c2; have mo3 := mo.c3; clear mo; obtain ⟨⟨a0, a1, a2, a3, a4, a5⟩, ao⟩ := tlo_t h11.drop; have ao1 := ao.c1; have ao2 := ao.c2; have ao3 := ao.c3; clear ao; have h9 := h11; clear h11 h10)
                | (go_at_call 31; go_split_ands; (with_reducible refine (HRZ.out _ _ hz).mono ?_); rintro e w9 ⟨va', vc', ga', gk', v1, v2, v3, v4, v5, v6, rfl, ⟨⟨g1, ⟨x1, t1⟩, f1⟩, ⟨g2, ⟨x2, t2⟩, f2⟩, ⟨g3', ⟨x3, t3⟩, f3⟩, ⟨g4', ⟨x4, t4⟩, f4⟩, ⟨g5', ⟨x5, t5⟩, f5⟩, ⟨g6, ⟨x6, t6⟩, f6⟩⟩, ⟨q0, q1, q2, q3, q4, q5⟩, ⟨⟨mo1, mo2, mo3⟩, m0, m1, m2, m3, m4, m5⟩, h9⟩; obtain ⟨⟨a0, a1, a2, a3, a4, a5⟩, ao⟩ := tlo_t h9.drop; have ao1 := ao.c1; have ao2 := ao.c2; have ao3 := ao.c3; clear ao)
                | (go_at_call 31; go_split_ands; (obtain ⟨W8, hW8, -, hz8⟩ := boxZ hz hc8); (with_reducible refine (HRZ.out c8 _ (by rw [hW8]; exact hz8.perm (List.perm_append_singleton _ _).symm)).mono ?_); rintro e w9 ⟨va', vc', ga', gk', v1, v2, v3, v4, v5, v6, rfl, ⟨⟨g1, ⟨x1, t1⟩, f1⟩, ⟨g2, ⟨x2, t2⟩, f2⟩, ⟨g3', ⟨x3, t3⟩, f3⟩, ⟨g4', ⟨x4, t4⟩, f4⟩, ⟨g5', ⟨x5, t5⟩, f5⟩, ⟨g6, ⟨x6, t6⟩, f6⟩⟩, ⟨q0, q1, q2, q3, q4, q5⟩, ⟨⟨mo1, mo2, mo3⟩, m0, m1, m2, m3, m4, m5⟩, h9⟩; obtain ⟨⟨a0, a1, a2, a3, a4, a5⟩, ao⟩ := tlo_t h9.drop; have ao1 := ao.c1; have ao2 := ao.c2; have ao3 := ao.c3; clear ao))
            all_goals have HP9 := Lib.hid (HPP.out _ _ _ _ _ _ h9)
            all_goals clear h9
            all_goals try clear g1
            all_goals try clear g2
            all_goals try clear g3'
            all_goals try clear g4'
            all_goals try clear g5'
            all_goals try clear g6
            all_goals try clear t1
            all_goals try clear t2
            all_goals try clear t3
            all_goals try clear t4
            all_goals try clear t5
            all_goals try clear t6
            all_goals try clear f1
            all_goals try clear f2
            all_goals try clear f3
            all_goals try clear f4
            all_goals try clear f5
            all_goals try clear f6
            all_goals try clear z1
            all_goals try clear z2
            all_goals try clear z3
            all_goals try clear z4
            all_goals try clear z5
            all_goals try clear z6
            all_goals try clear z7
            all_goals try clear z8
            all_goals try clear z9
            all_goals try clear mo1
            all_goals try clear mo2
            all_goals try clear mo3
            all_goals try clear m0
            all_goals try clear m1
            all_goals try clear m2
            all_goals try clear m3
            all_goals try clear m4
            all_goals try clear m5
            all_goals try clear ao1
            all_goals try clear ao2
            all_goals try clear ao3
            all_goals try clear a0
            all_goals try clear a1
            all_goals try clear a2
            all_goals try clear a3
            all_goals try clear a4
            all_goals try clear a5
            all_goals try clear s1
            all_goals try clear s2
            all_goals try clear s3
            all_goals try clear b0
            all_goals try clear b1
            all_goals try clear b2
            all_goals try clear b3
            all_goals try clear b4
            all_goals try clear b5
            all_goals try clear y1
            all_goals try clear y2
            all_goals try clear y3
            all_goals try clear c0
            all_goals try clear c1
            all_goals try clear c2
            all_goals try clear c3
            all_goals try clear c4
            all_goals try clear c5
            all_goals try clear d0
            all_goals try clear d1
            all_goals try clear d2
            all_goals try clear d3
            all_goals try clear d4
            all_goals try clear d5
            all_goals try clear d6
            all_goals try clear d7
            all_goals try clear d8
            all_goals try clear d9
            all_goals try clear d10
            all_goals try clear d11
            all_goals try clear hz
            all_goals try clear hzb
            all_goals try clear hgb
            all_goals try clear q0
            all_goals try clear q1
            all_goals try clear q2
            all_goals try clear q3
            all_goals try clear q4
            all_goals try clear q5
            all_goals go_step
            all_goals go_step
            all_goals go_meet
            all_goals first | exact ⟨c9, rfl, rfl, rfl, rfl, HP9.out⟩ | exact ⟨c8, rfl, rfl, rfl, rfl, HP9.out⟩ | exact ⟨cz, rfl, rfl, rfl, rfl, HP9.out⟩
          case rest =>
            obtain ⟨cc, rfl, rfl, rfl, rfl, hpp⟩ := hcut
            obtain ⟨va', vc', ga', gk', h9⟩ := HPQ.out _ _ hpp
            clear hpp c0 c1 c2 c3 c4 c5 y1 y2 y3 d0 d1 d2 d3 d4 d5 d6 d7 d8 d9 d10 d11 hgb
            obtain ⟨q0, q1, q2, q3, q4, q5, -⟩ := bd_cells h9 (.head _)
            have h9d := h9.drop
            obtain ⟨va2, vc2, ga2, gk2, e1', e2', ⟨u0, u1, u2, u3, u4, u5⟩, ⟨k0, k1, k2, k3, k4, k5⟩, w4, e4, h4⟩ := tlo_set h9d
            injection e1' with l1 lx1 l3
            injection e2' with l4 lx2 l6
            clear lx1 lx2
            subst l1 l3 l4 l6
            rw [← HNQ.out.1, ← HNQ.out.2.1, ← HNQ.out.2.2] at e4
            have HZ := Lib.hid (HEND.out _ _ _ h4)
            clear h9 h9d h4
            go_wp2_with fail
            go_meet
            case rel => exact HZ.out
        · have e1 : (o.kind == 1) = false := by simp [hk1]
          by_cases hk2 : o.kind = 2
          · have e2 : (o.kind == 2) = true := by simp [hk2]
            clear hk1 hk2
            as_aux_lemma =>
            obtain ⟨S2, hS2⟩ : ∃ S2, S2 = onT S o.f (rest o.now) := ⟨_, rfl⟩
            obtain ⟨ER, hER⟩ : ∃ ER, ER = doneE S o.f := ⟨_, rfl⟩
            have HX : Hid (∀ w', Own (TLo w p b bo n bt bt (9 * i) kp kp S.X.st.length vL vG vL vG o S S) w' → Calls Try.prog 15 #[.pointer (some ⟨p, 0, none⟩), .int .i64 o.f, .int .u64 o.now] w' fun e w2 => e = .returned (.int .i64 ER) ∧ Own (TLo w p b bo n bt bt (9 * (i + 1)) kp kp S.X.st.length vL vG vL vG o S2 S) w2) := Lib.hid fun w' h' => by
              rw [hS2, hER]
              exact (own_rest h' o.f o.now HOK.out.n0 HOK.out.n1).mono fun e w2 ⟨he, h2⟩ => ⟨he, tb_mono h2 (by omega)⟩
            have HR : Hid (∀ w', Own (TLo w p b bo n bt bt (9 * (i + 1)) kp kp S.X.st.length vL vG vL vG o S2 S) w' → Calls Try.prog 32 #[dv n bt kp vL vG S.X.st.length, .int .i64 o.f, .int .u64 o.now] w' fun e w2 => ∃ vL' vG', e = .returned (.tuple #[dv n bt kp vL' vG' S2.X.st.length, .int .i64 ER]) ∧ Own (TLo w p b bo n bt bt (9 * (i + 1)) kp kp S.X.st.length vL vG vL' vG' o S2 S2) w2) := Lib.hid fun w' h' => by
              have hh := drest (n := n) (bits := bt) (keep := kp) HTI.out (h'.fourth.tail OwnIn.fourth) o.f o.now
              rw [← hS2, ← hER] at hh
              exact hh.mono fun e w2 ⟨v', he, h2⟩ => ⟨v', vG, he, (h2.tail OwnIn.back4).back4⟩
            clear hS2 hER
            go_wp2_with fail
            (with_reducible refine (HX.out _ HA.out).mono ?_)
            rintro e w2 ⟨rfl, h2⟩
            clear c0 c1 c2 c3 c4 c5 d0 d1 d2 d3 d4 d5 d6 d7 d8 d9 d10 d11
            obtain ⟨⟨c0, c1, c2, c3, c4, c5⟩, d0, d1, d2, d3, d4, d5, d6, d7, d8, d9, d10, d11⟩ := tlo_t h2
            have H2 := Lib.hid h2
            clear h2
            go_wp2_with fail
            (with_reducible refine (HR.out _ H2.out).mono ?_)
            rintro e w3 ⟨v', vg', rfl, h3⟩
            clear c0 c1 c2 c3 c4 c5 d0 d1 d2 d3 d4 d5 d6 d7 d8 d9 d10 d11
            obtain ⟨va', vc', ga', gk', e1', e2', ⟨y0, y1, y2, y3, y4, y5⟩, ⟨f0, f1, f2, f3, f4, f5⟩, w4, e4, h4⟩ := tlo_set h3
            subst e1' e2'
            have HF : Hid (TT2 w p b n (9 * (i + 1)) (.int .i64 ER) (.int .i64 ER) w4) := Lib.hid ⟨ER, S2, bt, kp, _, _, rfl, rfl, h4⟩
            clear h3 h4 HX HR
            go_wp2_with fail
            go_meet
            case rel => exact HF.out
          · have e2 : (o.kind == 2) = false := by simp [hk2]
            by_cases hk3 : o.kind = 3
            · have e3 : (o.kind == 3) = true := by simp [hk3]
              clear hk1 hk2 hk3
              as_aux_lemma =>
              obtain ⟨S2, hS2⟩ : ∃ S2, S2 = onT S o.f busy := ⟨_, rfl⟩
              obtain ⟨ER, hER⟩ : ∃ ER, ER = doneE S o.f := ⟨_, rfl⟩
              have HX : Hid (∀ w', Own (TLo w p b bo n bt bt (9 * i) kp kp S.X.st.length vL vG vL vG o S S) w' → Calls Try.prog 26 #[.pointer (some ⟨p, 0, none⟩), .int .i64 o.f] w' fun e w2 => e = .returned (.int .i64 ER) ∧ Own (TLo w p b bo n bt bt (9 * (i + 1)) kp kp S.X.st.length vL vG vL vG o S2 S) w2) := Lib.hid fun w' h' => by
                rw [hS2, hER]
                exact (own_busy h' o.f).mono fun e w2 ⟨he, h2⟩ => ⟨he, tb_mono h2 (by omega)⟩
              have HR : Hid (∀ w', Own (TLo w p b bo n bt bt (9 * (i + 1)) kp kp S.X.st.length vL vG vL vG o S2 S) w' → Calls Try.prog 33 #[dv n bt kp vL vG S.X.st.length, .int .i64 o.f] w' fun e w2 => ∃ vL' vG', e = .returned (.tuple #[dv n bt kp vL' vG' S2.X.st.length, .int .i64 ER]) ∧ Own (TLo w p b bo n bt bt (9 * (i + 1)) kp kp S.X.st.length vL vG vL' vG' o S2 S2) w2) := Lib.hid fun w' h' => by
                have hh := dbusy (n := n) (bits := bt) (keep := kp) HTI.out (h'.fourth.tail OwnIn.fourth) o.f
                rw [← hS2, ← hER] at hh
                exact hh.mono fun e w2 ⟨v', he, h2⟩ => ⟨v', vG, he, (h2.tail OwnIn.back4).back4⟩
              clear hS2 hER
              go_wp2_with fail
              (with_reducible refine (HX.out _ HA.out).mono ?_)
              rintro e w2 ⟨rfl, h2⟩
              clear c0 c1 c2 c3 c4 c5 d0 d1 d2 d3 d4 d5 d6 d7 d8 d9 d10 d11
              obtain ⟨⟨c0, c1, c2, c3, c4, c5⟩, d0, d1, d2, d3, d4, d5, d6, d7, d8, d9, d10, d11⟩ := tlo_t h2
              have H2 := Lib.hid h2
              clear h2
              go_wp2_with fail
              (with_reducible refine (HR.out _ H2.out).mono ?_)
              rintro e w3 ⟨v', vg', rfl, h3⟩
              clear c0 c1 c2 c3 c4 c5 d0 d1 d2 d3 d4 d5 d6 d7 d8 d9 d10 d11
              obtain ⟨va', vc', ga', gk', e1', e2', ⟨y0, y1, y2, y3, y4, y5⟩, ⟨f0, f1, f2, f3, f4, f5⟩, w4, e4, h4⟩ := tlo_set h3
              subst e1' e2'
              have HF : Hid (TT2 w p b n (9 * (i + 1)) (.int .i64 ER) (.int .i64 ER) w4) := Lib.hid ⟨ER, S2, bt, kp, _, _, rfl, rfl, h4⟩
              clear h3 h4 HX HR
              go_wp2_with fail
              go_meet
              case rel => exact HF.out
            · have e3 : (o.kind == 3) = false := by simp [hk3]
              by_cases hk4 : o.kind = 4
              · have e4 : (o.kind == 4) = true := by simp [hk4]
                clear hk1 hk2 hk3 hk4
                as_aux_lemma =>
                obtain ⟨S2, hS2⟩ : ∃ S2, S2 = dropF S o.f := ⟨_, rfl⟩
                obtain ⟨ER, hER⟩ : ∃ ER, ER = (atF S o.f).isSome := ⟨_, rfl⟩
                have HX : Hid (∀ w', Own (TLo w p b bo n bt bt (9 * i) kp kp S.X.st.length vL vG vL vG o S S) w' → Calls Try.prog 17 #[.pointer (some ⟨p, 0, none⟩), .int .i64 o.f] w' fun e w2 => e = .returned (.bool ER) ∧ Own (TLo w p b bo n bt bt (9 * (i + 1)) kp kp S.X.st.length vL vG vL vG o S2 S) w2) := Lib.hid fun w' h' => by
                  rw [hS2, hER]
                  exact (own_drop h' (by omega) o.f).mono fun e w2 ⟨he, h2⟩ => ⟨he, tb_mono h2 (by omega)⟩
                have HR : Hid (∀ w', Own (TLo w p b bo n bt bt (9 * (i + 1)) kp kp S.X.st.length vL vG vL vG o S2 S) w' → Calls Try.prog 34 #[dv n bt kp vL vG S.X.st.length, .int .i64 o.f] w' fun e w2 => ∃ vL' vG', e = .returned (.tuple #[dv n bt kp vL' vG' S2.X.st.length, .bool ER]) ∧ Own (TLo w p b bo n bt bt (9 * (i + 1)) kp kp S.X.st.length vL vG vL' vG' o S2 S2) w2) := Lib.hid fun w' h' => by
                  have hh := ddrop (n := n) (bits := bt) (keep := kp) HTI.out (h'.fourth.tail OwnIn.fourth) o.f
                  rw [← hS2, ← hER] at hh
                  exact hh.mono fun e w2 ⟨v', vg', he, h2⟩ => ⟨v', vg', he, (h2.tail OwnIn.back4).back4⟩
                clear hS2 hER
                have xx : (ER != ER) = false := by simp
                go_wp2_with fail
                (with_reducible refine (HX.out _ HA.out).mono ?_)
                rintro e w2 ⟨rfl, h2⟩
                clear c0 c1 c2 c3 c4 c5 d0 d1 d2 d3 d4 d5 d6 d7 d8 d9 d10 d11
                obtain ⟨⟨c0, c1, c2, c3, c4, c5⟩, d0, d1, d2, d3, d4, d5, d6, d7, d8, d9, d10, d11⟩ := tlo_t h2
                have H2 := Lib.hid h2
                clear h2
                go_wp2_with fail
                (with_reducible refine (HR.out _ H2.out).mono ?_)
                rintro e w3 ⟨v', vg', rfl, h3⟩
                clear c0 c1 c2 c3 c4 c5 d0 d1 d2 d3 d4 d5 d6 d7 d8 d9 d10 d11
                obtain ⟨va', vc', ga', gk', e1', e2', -⟩ := tlo_set h3
                subst e1' e2'
                have h3 := h3.step ((Ext.refl w3).alloc (.cells #[.int .i64 (n : Int), .int .i64 (bt : Int), .int .u64 kp, .slice va' (docL 0 S2.rows).length vc', .slice ga' S2.X.bk.length gk', .int .i64 (S2.X.st.length : Int)] 64))
                obtain ⟨va2, vc2, ga2, gk2, e1', e2', ⟨y0, y1, y2, y3, y4, y5⟩, ⟨f0, f1, f2, f3, f4, f5⟩, w4, e4, h4⟩ := tlo_set h3
                injection e1' with e1' _ e3'
                injection e2' with e2' _ e5'
                subst e1' e3' e2' e5'
                have HF : Hid (TT2 w p b n (9 * (i + 1)) (.int .i64 0) (.int .i64 0) w4) := Lib.hid ⟨0, S2, bt, kp, _, _, rfl, rfl, h4⟩
                clear h3 h4 HX HR
                go_wp2_with fail
                go_meet
                case rel => exact HF.out
              · have e4 : (o.kind == 4) = false := by simp [hk4]
                by_cases hk5 : o.kind = 5
                · have e5 : (o.kind == 5) = true := by simp [hk5]
                  clear hk1 hk2 hk3 hk4 hk5
                  as_aux_lemma =>
                  obtain ⟨S2, hS2⟩ : ∃ S2, S2 = onT S o.f (put o.x) := ⟨_, rfl⟩
                  obtain ⟨ER, hER⟩ : ∃ ER, ER = putE S o.f o.x := ⟨_, rfl⟩
                  have HX : Hid (∀ w', Own (TLo w p b bo n bt bt (9 * i) kp kp S.X.st.length vL vG vL vG o S S) w' → Calls Try.prog 27 #[.pointer (some ⟨p, 0, none⟩), .int .i64 o.f, fagg o.x] w' fun e w2 => e = .returned (.int .i64 ER) ∧ Own (TLo w p b bo n bt bt (9 * (i + 1)) kp kp S.X.st.length vL vG vL vG o S2 S) w2) := Lib.hid fun w' h' => by
                    rw [hS2, hER]
                    exact (own_set h' o.f o.x ⟨HOK.out.a0, HOK.out.a1⟩).mono fun e w2 ⟨he, h2⟩ => ⟨he, tb_mono h2 (by omega)⟩
                  have HR : Hid (∀ w', Own (TLo w p b bo n bt bt (9 * (i + 1)) kp kp S.X.st.length vL vG vL vG o S2 S) w' → Calls Try.prog 35 #[dv n bt kp vL vG S.X.st.length, .int .i64 o.f, fagg o.x] w' fun e w2 => ∃ vL' vG', e = .returned (.tuple #[dv n bt kp vL' vG' S2.X.st.length, .int .i64 ER]) ∧ Own (TLo w p b bo n bt bt (9 * (i + 1)) kp kp S.X.st.length vL vG vL' vG' o S2 S2) w2) := Lib.hid fun w' h' => by
                    have hh := dset (n := n) (bits := bt) (keep := kp) HTI.out (h'.fourth.tail OwnIn.fourth) o.f o.x
                    rw [← hS2, ← hER] at hh
                    exact hh.mono fun e w2 ⟨v', he, h2⟩ => ⟨v', vG, he, (h2.tail OwnIn.back4).back4⟩
                  clear hS2 hER
                  go_wp2_with fail
                  (with_reducible refine (HX.out _ HA.out).mono ?_)
                  rintro e w2 ⟨rfl, h2⟩
                  clear c0 c1 c2 c3 c4 c5 d0 d1 d2 d3 d4 d5 d6 d7 d8 d9 d10 d11
                  obtain ⟨⟨c0, c1, c2, c3, c4, c5⟩, d0, d1, d2, d3, d4, d5, d6, d7, d8, d9, d10, d11⟩ := tlo_t h2
                  have H2 := Lib.hid h2
                  clear h2
                  go_wp2_with fail
                  (with_reducible refine (HR.out _ H2.out).mono ?_)
                  rintro e w3 ⟨v', vg', rfl, h3⟩
                  clear c0 c1 c2 c3 c4 c5 d0 d1 d2 d3 d4 d5 d6 d7 d8 d9 d10 d11
                  obtain ⟨va', vc', ga', gk', e1', e2', ⟨y0, y1, y2, y3, y4, y5⟩, ⟨f0, f1, f2, f3, f4, f5⟩, w4, e4, h4⟩ := tlo_set h3
                  subst e1' e2'
                  have HF : Hid (TT2 w p b n (9 * (i + 1)) (.int .i64 ER) (.int .i64 ER) w4) := Lib.hid ⟨ER, S2, bt, kp, _, _, rfl, rfl, h4⟩
                  clear h3 h4 HX HR
                  go_wp2_with fail
                  go_meet
                  case rel => exact HF.out
                · have e5 : (o.kind == 5) = false := by simp [hk5]
                  by_cases hk6 : o.kind = 6
                  · have e6 : (o.kind == 6) = true := by simp [hk6]
                    clear hk1 hk2 hk3 hk4 hk5 hk6
                    as_aux_lemma =>
                    have hkp := (⟨HOK.out.n0, by have := HOK.out.n1; omega⟩ : 0 ≤ o.now ∧ o.now ≤ 18446744073709551615)
                    have HX : Hid (∀ w', Own (TLo w p b bo n bt bt (9 * i) kp kp S.X.st.length vL vG vL vG o S S) w' → Calls Try.prog 36 #[.pointer (some ⟨p, 0, none⟩), .int .u64 o.now] w' fun e w2 => e = .returned (.int .i64 0) ∧ Own (TLo w p b bo n bt bt (9 * (i + 1)) o.now kp S.X.st.length vL vG vL vG o S S) w2) := Lib.hid fun w' h' => (own_keep h' o.now hkp.1 hkp.2).mono fun e w2 ⟨he, h2⟩ => ⟨he, tb_mono h2 (by omega)⟩
                    clear hkp
                    go_wp2_with fail
                    (with_reducible refine (HX.out _ HA.out).mono ?_)
                    rintro e w2 ⟨rfl, h2⟩
                    clear c0 c1 c2 c3 c4 c5 d0 d1 d2 d3 d4 d5 d6 d7 d8 d9 d10 d11
                    obtain ⟨⟨c0, c1, c2, c3, c4, c5⟩, d0, d1, d2, d3, d4, d5, d6, d7, d8, d9, d10, d11⟩ := tlo_t h2
                    obtain ⟨-, -, -, -, -, -, -, -, f2, -⟩ := bd_cells (b := b) (n := n) (bits := bt) (keep := kp) (vL := vL) (vG := vG) (u := S.X.st.length) h2 (.tail _ (.tail _ (.head _)))
                    obtain ⟨w4, e4, h4⟩ := Own.bdK (keep' := o.now) h2.third
                    have HF : Hid (TT2 w p b n (9 * (i + 1)) (.int .i64 0) (.int .i64 0) w4) := Lib.hid ⟨0, S, bt, o.now, vL, vG, rfl, rfl, h4.swap.third.drop⟩
                    clear h2 h4 HX
                    go_wp2_with fail
                    go_meet
                    case rel => exact HF.out
                  · have e6 : (o.kind == 6) = false := by simp [hk6]
                    by_cases hk7 : o.kind = 7
                    · have e7 : (o.kind == 7) = true := by simp [hk7]
                      clear hk1 hk2 hk3 hk4 hk5 hk6 hk7
                      by_cases hf7 : 0 ≤ o.f ∧ o.f ≤ 10
                      · as_aux_lemma =>
                        obtain ⟨B, hB⟩ := Int.eq_ofNat_of_zero_le hf7.1
                        have hB10 : B ≤ 10 := by omega
                        have HX : Hid (∀ w', Own (TLo w p b bo n bt bt (9 * i) kp kp S.X.st.length vL vG vL vG o S S) w' → Calls Try.prog 28 #[.pointer (some ⟨p, 0, none⟩), .int .i64 o.f] w' fun e w2 => e = .returned (.int .i64 0) ∧ Own (TLo w p b bo n B bt (9 * (i + 1)) kp kp S.X.st.length vL vG vL vG o S S) w2) := Lib.hid fun w' h' => by
                          rw [hB]
                          exact (rebuild_ok h' B hB10).mono fun e w2 ⟨he, h2⟩ => ⟨he, tb_mono h2 (by omega)⟩
                        have HR : Hid (∀ w', Own (TLo w p b bo n B bt (9 * (i + 1)) kp kp S.X.st.length vL vG vL vG o S S) w' → Calls Try.prog 37 #[dv n bt kp vL vG S.X.st.length, .int .i64 o.f] w' fun e w2 => e = .returned (.tuple #[dv n B kp vL vG S.X.st.length, .int .i64 0]) ∧ Own (TLo w p b bo n B bt (9 * (i + 1)) kp kp S.X.st.length vL vG vL vG o S S) w2) := Lib.hid fun w' h' => by
                          obtain ⟨va, vc, ga, gk, hl, hg, -⟩ := tlo_set h'
                          rw [hB, hl, hg]
                          rw [hl, hg] at h'
                          exact rrebuild_yes h' B hB10
                        clear hf7
                        clear hB
                        go_wp2_with fail
                        (with_reducible refine (HX.out _ HA.out).mono ?_)
                        rintro e w2 ⟨rfl, h2⟩
                        clear c0 c1 c2 c3 c4 c5 d0 d1 d2 d3 d4 d5 d6 d7 d8 d9 d10 d11
                        obtain ⟨⟨c0, c1, c2, c3, c4, c5⟩, d0, d1, d2, d3, d4, d5, d6, d7, d8, d9, d10, d11⟩ := tlo_t h2
                        have H2 := Lib.hid h2
                        clear h2
                        go_wp2_with fail
                        (with_reducible refine (HR.out _ H2.out).mono ?_)
                        rintro e w3 ⟨rfl, h3⟩
                        clear c0 c1 c2 c3 c4 c5 d0 d1 d2 d3 d4 d5 d6 d7 d8 d9 d10 d11
                        obtain ⟨va', vc', ga', gk', e1', e2', ⟨y0, y1, y2, y3, y4, y5⟩, ⟨f0, f1, f2, f3, f4, f5⟩, w4, e4, h4⟩ := tlo_set h3
                        subst e1' e2'
                        have HF : Hid (TT2 w p b n (9 * (i + 1)) (.int .i64 0) (.int .i64 0) w4) := Lib.hid ⟨0, S, B, kp, _, _, rfl, rfl, h4⟩
                        clear h3 h4 HX HR
                        go_wp2_with fail
                        go_meet
                        case rel => exact HF.out
                      · as_aux_lemma =>
                        have HX : Hid (∀ w', Own (TLo w p b bo n bt bt (9 * i) kp kp S.X.st.length vL vG vL vG o S S) w' → Calls Try.prog 28 #[.pointer (some ⟨p, 0, none⟩), .int .i64 o.f] w' fun e w2 => e = .returned (.int .i64 2) ∧ Own (TLo w p b bo n bt bt (9 * (i + 1)) kp kp S.X.st.length vL vG vL vG o S S) w2) := Lib.hid fun w' h' => by
                          exact (rebuild_bad h' o.f (by omega)).mono fun e w2 ⟨he, h2⟩ => ⟨he, tb_mono h2 (by omega)⟩
                        have HR : Hid (∀ w', Own (TLo w p b bo n bt bt (9 * (i + 1)) kp kp S.X.st.length vL vG vL vG o S S) w' → Calls Try.prog 37 #[dv n bt kp vL vG S.X.st.length, .int .i64 o.f] w' fun e w2 => e = .returned (.tuple #[dv n bt kp vL vG S.X.st.length, .int .i64 2]) ∧ Own (TLo w p b bo n bt bt (9 * (i + 1)) kp kp S.X.st.length vL vG vL vG o S S) w2) := Lib.hid fun w' h' => by
                          obtain ⟨va, vc, ga, gk, hl, hg, -⟩ := tlo_set h'
                          rw [hl, hg]
                          rw [hl, hg] at h'
                          exact rrebuild_no h' o.f (by omega)
                        clear hf7
                        go_wp2_with fail
                        (with_reducible refine (HX.out _ HA.out).mono ?_)
                        rintro e w2 ⟨rfl, h2⟩
                        clear c0 c1 c2 c3 c4 c5 d0 d1 d2 d3 d4 d5 d6 d7 d8 d9 d10 d11
                        obtain ⟨⟨c0, c1, c2, c3, c4, c5⟩, d0, d1, d2, d3, d4, d5, d6, d7, d8, d9, d10, d11⟩ := tlo_t h2
                        have H2 := Lib.hid h2
                        clear h2
                        go_wp2_with fail
                        (with_reducible refine (HR.out _ H2.out).mono ?_)
                        rintro e w3 ⟨rfl, h3⟩
                        clear c0 c1 c2 c3 c4 c5 d0 d1 d2 d3 d4 d5 d6 d7 d8 d9 d10 d11
                        obtain ⟨va', vc', ga', gk', e1', e2', ⟨y0, y1, y2, y3, y4, y5⟩, ⟨f0, f1, f2, f3, f4, f5⟩, w4, e4, h4⟩ := tlo_set h3
                        subst e1' e2'
                        have HF : Hid (TT2 w p b n (9 * (i + 1)) (.int .i64 2) (.int .i64 2) w4) := Lib.hid ⟨2, S, bt, kp, _, _, rfl, rfl, h4⟩
                        clear h3 h4 HX HR
                        go_wp2_with fail
                        go_meet
                        case rel => exact HF.out
                    · have e7 : (o.kind == 7) = false := by simp [hk7]
                      clear hk1 hk2 hk3 hk4 hk5 hk6 hk7
                      have HF : Hid (TT2 w p b n (9 * (i + 1)) (.int .i64 0) (.int .i64 0) W) := Lib.hid ⟨0, S, bt, kp, vL, vG, rfl, rfl, (tb_mono HA.out (by omega)).swap.drop⟩
                      as_aux_lemma =>
                      go_wp2_with fail
                      go_meet
                      case rel => exact HF.out
      case rest =>
        obtain ⟨er, S2, bt2, kp2, vL2, vG2, rfl, rfl, h⟩ := hcut
        clear c0 c1 c2 c3 c4 c5 d0 d1 d2 d3 d4 d5 d6 d7 d8 d9 d10 d11 HA HTI HKP HOK
        obtain ⟨hti, -⟩ := own_kb h
        have h2' : Own (Dc vL2 vG2 S2 (Tbl p n bt2 (9 * (i + 1)) kp2 S2 :: BD b n bt2 kp2 vL2 vG2 S2.X.st.length :: [Old w])) wc := h.third.tail OwnIn.third
        obtain ⟨va, vc, ga, gk, rfl, rfl⟩ := dslices h2'
        have hdl := dlen hti
        obtain ⟨q, hq⟩ : ∃ q, q = (docL 0 S2.rows).length := ⟨_, rfl⟩
        obtain ⟨z, hz⟩ : ∃ z, z = S2.X.bk.length := ⟨_, rfl⟩
        obtain ⟨u, hu⟩ : ∃ u, u = S2.X.st.length := ⟨_, rfl⟩
        have hqn : q ≤ n := by rw [hq]; exact hdl.1
        have hqR : S2.R.length = q := by rw [hq]; exact (doc_len hti).symm
        have hA := doc_all S2
        obtain ⟨A, hAA⟩ : ∃ A, A = allL S2 := ⟨_, rfl⟩
        rw [← hAA] at hA
        have hAq : A.length = q := by rw [← hA, List.length_map, hq]
        obtain ⟨LD, hLD⟩ : ∃ LD, LD = docL 0 S2.rows := ⟨_, rfl⟩
        obtain ⟨LL, hLL⟩ : ∃ LL, LL = TL w p b n bt2 (9 * (i + 1)) kp2 (.slice va q vc) (.slice ga z gk) S2 := ⟨_, rfl⟩
        replace h : Own LL wc := by rw [hLL, hq, hz]; exact h
        have HLL := Lib.hid hLL
        have HT : Hid (∀ w', Own LL w' → w'.cell? ⟨b, 0, none⟩ = some (.int .i64 (n : Int)) ∧ w'.cell? ⟨b, 1, none⟩ = some (.int .i64 (bt2 : Int)) ∧ w'.cell? ⟨b, 2, none⟩ = some (.int .u64 kp2) ∧ w'.cell? ⟨b, 3, none⟩ = some (.slice va q vc) ∧ w'.cell? ⟨b, 4, none⟩ = some (.slice ga z gk) ∧ w'.cell? ⟨b, 5, none⟩ = some (.int .i64 (u : Int))) := Lib.hid fun w' h' => by
          rw [hLL] at h'
          obtain ⟨c0, c1, c2, c3, c4, c5, -⟩ := bd_cells (b := b) (n := n) (bits := bt2) (keep := kp2) (vL := .slice va q vc) (vG := .slice ga z gk) (u := S2.X.st.length) h' (.tail _ (.head _))
          rw [hu]
          exact ⟨c0, c1, c2, c3, c4, c5⟩
        have HAL : Hid (Calls Try.prog 23 #[.pointer (some ⟨p, 0, none⟩)] wc fun e w2 => ∃ aa ac, e = .returned (.slice aa q ac) ∧ Own (RN (.slice aa q ac) A :: LL) w2) := Lib.hid (by
          have h' := h
          rw [hLL] at h'
          refine (own_all h').mono fun e w2 ⟨v, he, h2⟩ => ?_
          rw [← hAA] at h2
          obtain ⟨aa, ac, rfl⟩ := dr_slice h2.row
          rw [hAq] at he h2
          exact ⟨aa, ac, he, by rw [hLL]; exact h2⟩)
        have HBI : Hid (∀ w', Own LL w' → Calls Try.prog 29 #[.pointer (some ⟨p, 0, none⟩)] w' fun e w2 => e = .returned (.int .i64 (bt2 : Int)) ∧ w' = w2) := Lib.hid fun w' h' => by rw [hLL] at h'; exact own_bits h'
        have HLE : Hid (∀ w', Own LL w' → Calls Try.prog 16 #[.pointer (some ⟨p, 0, none⟩)] w' fun e w2 => e = .returned (.int .i64 (q : Int)) ∧ w' = w2) := Lib.hid fun w' h' => by rw [hLL] at h'; rw [← hqR]; exact own_len h'
        have HGT : Hid (∀ w' (x : Int), Own LL w' → Calls Try.prog 20 #[.pointer (some ⟨p, 0, none⟩), .int .i64 x] w' fun e w2 => e = .returned (.tuple #[fagg (getF S2 x), .bool (atF S2 x).isSome]) ∧ Own LL w2) := Lib.hid fun w' x h' => by rw [hLL] at h' ⊢; exact own_get h' x
        have HTI := Lib.hid hti
        have HDG : Hid (∀ l w' (x : Int), Own (LL ++ l) w' → Calls Try.prog 38 #[.agg #[.int .i64 (n : Int), .int .i64 (bt2 : Int), .int .u64 kp2, .slice va q vc, .slice ga z gk, .int .i64 (u : Int)], .int .i64 x] w' fun e w2 => e = .returned (.tuple #[fagg (getF S2 x), .bool (atF S2 x).isSome]) ∧ Own (LL ++ l) w2) := Lib.hid fun l w' x h' => by
          rw [hLL] at h' ⊢
          have h3 : Own (Dc (.slice va q vc) (.slice ga z gk) S2 (Tbl p n bt2 (9 * (i + 1)) kp2 S2 :: BD b n bt2 kp2 (.slice va q vc) (.slice ga z gk) S2.X.st.length :: Old w :: l)) w' := h'.third.tail OwnIn.third
          rw [hu]
          exact (dget HTI.out h3 x).mono fun e w2 ⟨he, h2⟩ => ⟨he, (h2.tail OwnIn.back3).back3⟩
        have HRS : Hid (∀ l w' (x : Int), Own (LL ++ l) w' → Calls Try.prog 21 #[.pointer (some ⟨p, 0, none⟩), .int .i64 x] w' fun e w2 => e = .returned (.bool (((atF S2 x).map (·.q)).getD false)) ∧ Own (LL ++ l) w2) := Lib.hid fun l w' x h' => by
          have h0 := h'
          rw [hLL] at h'
          exact (own_rests h' x).mono fun e w2 ⟨he, h2⟩ => ⟨he, h2 ▸ h0⟩
        have HDR : Hid (∀ l w' (x : Int), Own (LL ++ l) w' → Calls Try.prog 39 #[.agg #[.int .i64 (n : Int), .int .i64 (bt2 : Int), .int .u64 kp2, .slice va q vc, .slice ga z gk, .int .i64 (u : Int)], .int .i64 x] w' fun e w2 => e = .returned (.bool (((atF S2 x).map (·.q)).getD false)) ∧ Own (LL ++ l) w2) := Lib.hid fun l w' x h' => by
          rw [hLL] at h' ⊢
          have h3 : Own (Dc (.slice va q vc) (.slice ga z gk) S2 (Tbl p n bt2 (9 * (i + 1)) kp2 S2 :: BD b n bt2 kp2 (.slice va q vc) (.slice ga z gk) S2.X.st.length :: Old w :: l)) w' := h'.third.tail OwnIn.third
          rw [hu]
          exact (drests HTI.out h3 x).mono fun e w2 ⟨he, h2⟩ => ⟨he, (h2.tail OwnIn.back3).back3⟩
        have HNX : Hid (∀ w', Own LL w' → TTL w p b n m (.int .i64 ((i : Int) + 1)) w') := Lib.hid fun w' h' => ⟨i + 1, S2, bt2, kp2, _, _, by go_num, by omega, by rw [hLL] at h'; exact h'⟩
        have HAK : Hid (∀ (k : Nat), k < q → ∃ d, LD[k]? = some d ∧ A[k]? = some d.k) := Lib.hid fun k hk => by
          obtain ⟨d, hd⟩ : ∃ d, LD[k]? = some d := ⟨_, List.getElem?_eq_getElem (by rw [hLD, ← hq]; exact hk)⟩
          exact ⟨d, hd, by rw [← hA, List.getElem?_map, ← hLD, hd]; rfl⟩
        have HDO : Hid (∀ w', Own LL w' → Own (DRR (.slice va q vc) q LD :: [Old w]) w') := Lib.hid fun w' h' => by
          rw [hLL] at h'
          have := h'.drop.drop.swap.drop
          rw [hLD]
          rw [← hq] at this
          exact this
        have HAq := Lib.hid hAq
        clear h2' hdl hq hz hu hqR hA hAA hAq hLD hLL h hti
        have xx : (er != er) = false := by simp
        go_wp2_with fail
        (with_reducible refine (HAL.out).mono ?_)
        rintro e w2 ⟨aa, ac, rfl, h⟩
        obtain ⟨c0, c1, c2, c3, c4, c5⟩ := HT.out _ h.drop
        have H := Lib.hid h
        clear h HAL
        go_upto_region 40 with fail
        go_quiet (first
          | (go_at_call 29; with_reducible exact Calls.quiet_of_same ((HBI.out _ (by first | exact H.out.drop | exact H.out.drop.step ((Ext.refl _).drewN _))).mono (fun _ _ h => ⟨h.1, h.2.symm⟩)))
          | (go_at_call 16; with_reducible exact Calls.quiet_of_same ((HLE.out _ (by first | exact H.out.drop | exact H.out.drop.step ((Ext.refl _).drewN _))).mono (fun _ _ h => ⟨h.1, h.2.symm⟩))))
        have h := H.out.step ((Ext.refl w2).drewN nq)
        generalize World.drewN _ nq = W2 at h ⊢
        clear H c0 c1 c2 c3 c4 c5
        obtain ⟨c0, c1, c2, c3, c4, c5⟩ := HT.out _ h.drop
        have H := Lib.hid h
        clear h
        go_wp2_with fail
        go_loopw [244] (fun s wr => (∃ k : Nat, s = .int .i64 (k : Int) ∧ k ≤ q) ∧ wr = W2) (fun s _ => q - (intOf s).toNat)
        case atStart => exact ⟨⟨0, rfl, Nat.zero_le _⟩, rfl⟩
        case round =>
          obtain ⟨⟨k, rfl, hk⟩, hwr⟩ := hrel
          obtain rfl : W2 = wr := hwr.symm
          by_cases hkq : k < q
          · have hkqI : (k : Int) < (q : Int) := by omega
            obtain ⟨d, hd, ha⟩ := HAK.out k hkq
            have h := H.out
            obtain ⟨g, rfl, gc, r0, r1, r2, r3, r4, r5, r6, r7, r8⟩ := drow (HDO.out _ h.drop) hkq hd
            obtain ⟨ag, acap, hav, hac1, -⟩ := own_cap h.row (by rw [HAq.out]; omega)
            injection hav with ea _ ec
            subst ea ec
            have ha0 : W2.cell? ⟨ag, k, none⟩ = some (.int .i64 (d.k : Int)) := by
              have := h.row.cells (g := ag) rfl k (.int .i64 (d.k : Int)) (by unfold Tr.ints; rw [List.getElem?_map, ha]; rfl)
              rw [add_plain] at this
              exact this
            have hacq : q ≤ ac := by rw [← HAq.out]; exact hac1
            have dd : ((d.k : Int) != (d.k : Int)) = false := by simp
            clear h hd ha hac1
            go_wp2_with fail
            exact ⟨⟨⟨k + 1, by go_num, by omega⟩, trivial⟩, by simp [intOf]; omega⟩
          · obtain rfl : q = k := by omega
            have H3 := Lib.hid H.out.drop
            clear H c0 c1 c2 c3 c4 c5
            go_wp2_with fail
            go_loopw [30] (fun s wr => (∃ (j : Nat) (I : Int), s = .int .i64 I ∧ I = (j : Int) - 1 ∧ j ≤ n + 2) ∧ Own LL wr) (fun s _ => (n + 1 - intOf s).toNat)
            case atStart => exact ⟨⟨0, -1, rfl, rfl, by omega⟩, H3.out⟩
            case round =>
              clear H3
              obtain ⟨⟨j, I, rfl, hI, hj⟩, h⟩ := hrel
              by_cases hIn : I ≤ (n : Int)
              · have HI := Lib.hid hI
                have i1 : -1 ≤ I := by omega
                have i2 : I ≤ 20 := by omega
                have HG := Lib.hid (HGT.out _ I h)
                obtain ⟨F, hF⟩ : ∃ F, F = getF S2 I := ⟨_, rfl⟩
                obtain ⟨B, hB⟩ : ∃ B, B = (atF S2 I).isSome := ⟨_, rfl⟩
                obtain ⟨Q, hQ⟩ : ∃ Q, Q = ((atF S2 I).map (·.q)).getD false := ⟨_, rfl⟩
                rw [← hF, ← hB] at HG
                have HDG2 := Lib.hid (fun l w' h' => HDG.out l w' I h')
                have HRS2 := Lib.hid (fun l w' h' => HRS.out l w' I h')
                have HDR2 := Lib.hid (fun l w' h' => HDR.out l w' I h')
                rw [← hF, ← hB] at HDG2
                rw [← hQ] at HRS2 HDR2
                clear hF hB hQ h hI
                go_wp2_with fail
                (with_reducible refine (HG.out).mono ?_)
                rintro e w3 ⟨rfl, h3⟩
                obtain ⟨c31, hc31⟩ : ∃ c31, w3.heap.size = c31 := ⟨_, rfl⟩
                obtain ⟨W4, hW4, -, h4⟩ := boxF h3 hc31 F
                obtain ⟨d0, d1, d2, d3, d4, d5⟩ := HT.out _ h4.drop
                have h5 : Own (LL ++ [BF c31 F]) W4 := h4.perm (List.perm_append_singleton _ _).symm
                have HC31 := Lib.hid hc31
                have HW4 := Lib.hid hW4
                have H5 := Lib.hid h5
                clear h3 h4 h5 hc31 hW4 HG
                go_upto_region 52 with fail
                rw [HC31.out, HW4.out]
                clear HC31 HW4
                go_wp2_with fail
                (with_reducible refine (HDG2.out _ _ H5.out).mono ?_)
                rintro e w5 ⟨rfl, h6⟩
                obtain ⟨c33, hc33⟩ : ∃ c33, w5.heap.size = c33 := ⟨_, rfl⟩
                obtain ⟨W6, hW6, -, h7⟩ := boxF h6 hc33 F
                obtain ⟨LLz, hLLz⟩ : ∃ LLz, LLz = LL ++ [BF c31 F, BF c33 F] := ⟨_, rfl⟩
                have h8 : Own LLz W6 := by
                  rw [hLLz, show LL ++ [BF c31 F, BF c33 F] = (LL ++ [BF c31 F]) ++ [BF c33 F] by simp]
                  exact h7.perm (List.perm_append_singleton _ _).symm
                have HLZ : Hid (∀ w', Own LLz w' → Own LL w' ∧ Own (BF c31 F :: BF c33 F :: LL) w') := Lib.hid fun w' h' => by
                  rw [hLLz] at h'
                  have := h'.perm List.perm_append_comm
                  exact ⟨this.drop.drop, this⟩
                have HALL : Hid (∀ w', Own LLz w' → Own LLz w' ∧ w'.cell? ⟨b, 0, none⟩ = some (.int .i64 (n : Int)) ∧ w'.cell? ⟨b, 1, none⟩ = some (.int .i64 (bt2 : Int)) ∧ w'.cell? ⟨b, 2, none⟩ = some (.int .u64 kp2) ∧ w'.cell? ⟨b, 3, none⟩ = some (.slice va q vc) ∧ w'.cell? ⟨b, 4, none⟩ = some (.slice ga z gk) ∧ w'.cell? ⟨b, 5, none⟩ = some (.int .i64 (u : Int)) ∧ w'.cell? ⟨c31, 0, none⟩ = some (.int .u64 F.s) ∧ w'.cell? ⟨c31, 1, none⟩ = some (.int .u64 F.c) ∧ w'.cell? ⟨c31, 2, none⟩ = some (.int .u64 F.ra) ∧ w'.cell? ⟨c31, 3, none⟩ = some (.int .i64 F.cr) ∧ w'.cell? ⟨c31, 4, none⟩ = some (.int .u64 F.nx) ∧ w'.cell? ⟨c31, 5, none⟩ = some (.int .u64 F.db) ∧ w'.cell? ⟨c31, 6, none⟩ = some (.int .u64 F.ag) ∧ w'.cell? ⟨c33, 0, none⟩ = some (.int .u64 F.s) ∧ w'.cell? ⟨c33, 1, none⟩ = some (.int .u64 F.c) ∧ w'.cell? ⟨c33, 2, none⟩ = some (.int .u64 F.ra) ∧ w'.cell? ⟨c33, 3, none⟩ = some (.int .i64 F.cr) ∧ w'.cell? ⟨c33, 4, none⟩ = some (.int .u64 F.nx) ∧ w'.cell? ⟨c33, 5, none⟩ = some (.int .u64 F.db) ∧ w'.cell? ⟨c33, 6, none⟩ = some (.int .u64 F.ag)) := Lib.hid fun w' h' => by
                  obtain ⟨k1, k2⟩ := HLZ.out w' h'
                  obtain ⟨d0, d1, d2, d3, d4, d5⟩ := HT.out _ k1
                  obtain ⟨m0, m1, m2, m3, m4, m5, m6⟩ := bf_cells k2 (.head _)
                  obtain ⟨p0, p1, p2, p3, p4, p5, p6⟩ := bf_cells k2 (.tail _ (.head _))
                  exact ⟨h', d0, d1, d2, d3, d4, d5, m0, m1, m2, m3, m4, m5, m6, p0, p1, p2, p3, p4, p5, p6⟩
                have HR1 : Hid (∀ w', Own LLz w' → Calls Try.prog 21 #[.pointer (some ⟨p, 0, none⟩), .int .i64 I] w' fun e w2 => e = .returned (.bool Q) ∧ Own LLz w2 ∧ w2.cell? ⟨b, 0, none⟩ = some (.int .i64 (n : Int)) ∧ w2.cell? ⟨b, 1, none⟩ = some (.int .i64 (bt2 : Int)) ∧ w2.cell? ⟨b, 2, none⟩ = some (.int .u64 kp2) ∧ w2.cell? ⟨b, 3, none⟩ = some (.slice va q vc) ∧ w2.cell? ⟨b, 4, none⟩ = some (.slice ga z gk) ∧ w2.cell? ⟨b, 5, none⟩ = some (.int .i64 (u : Int)) ∧ w2.cell? ⟨c31, 0, none⟩ = some (.int .u64 F.s) ∧ w2.cell? ⟨c31, 1, none⟩ = some (.int .u64 F.c) ∧ w2.cell? ⟨c31, 2, none⟩ = some (.int .u64 F.ra) ∧ w2.cell? ⟨c31, 3, none⟩ = some (.int .i64 F.cr) ∧ w2.cell? ⟨c31, 4, none⟩ = some (.int .u64 F.nx) ∧ w2.cell? ⟨c31, 5, none⟩ = some (.int .u64 F.db) ∧ w2.cell? ⟨c31, 6, none⟩ = some (.int .u64 F.ag) ∧ w2.cell? ⟨c33, 0, none⟩ = some (.int .u64 F.s) ∧ w2.cell? ⟨c33, 1, none⟩ = some (.int .u64 F.c) ∧ w2.cell? ⟨c33, 2, none⟩ = some (.int .u64 F.ra) ∧ w2.cell? ⟨c33, 3, none⟩ = some (.int .i64 F.cr) ∧ w2.cell? ⟨c33, 4, none⟩ = some (.int .u64 F.nx) ∧ w2.cell? ⟨c33, 5, none⟩ = some (.int .u64 F.db) ∧ w2.cell? ⟨c33, 6, none⟩ = some (.int .u64 F.ag)) := Lib.hid fun w' h' => by
                  have h0 := h'
                  rw [hLLz] at h0
                  refine Calls.mono (HRS2.out [BF c31 F, BF c33 F] w' h0) ?_
                  rintro e w2 ⟨he, h2⟩
                  rw [← hLLz] at h2
                  exact ⟨he, HALL.out w2 h2⟩
                have HR2 : Hid (∀ w', Own LLz w' → Calls Try.prog 39 #[.agg #[.int .i64 (n : Int), .int .i64 (bt2 : Int), .int .u64 kp2, .slice va q vc, .slice ga z gk, .int .i64 (u : Int)], .int .i64 I] w' fun e w2 => e = .returned (.bool Q) ∧ Own LLz w2 ∧ w2.cell? ⟨b, 0, none⟩ = some (.int .i64 (n : Int)) ∧ w2.cell? ⟨b, 1, none⟩ = some (.int .i64 (bt2 : Int)) ∧ w2.cell? ⟨b, 2, none⟩ = some (.int .u64 kp2) ∧ w2.cell? ⟨b, 3, none⟩ = some (.slice va q vc) ∧ w2.cell? ⟨b, 4, none⟩ = some (.slice ga z gk) ∧ w2.cell? ⟨b, 5, none⟩ = some (.int .i64 (u : Int)) ∧ w2.cell? ⟨c31, 0, none⟩ = some (.int .u64 F.s) ∧ w2.cell? ⟨c31, 1, none⟩ = some (.int .u64 F.c) ∧ w2.cell? ⟨c31, 2, none⟩ = some (.int .u64 F.ra) ∧ w2.cell? ⟨c31, 3, none⟩ = some (.int .i64 F.cr) ∧ w2.cell? ⟨c31, 4, none⟩ = some (.int .u64 F.nx) ∧ w2.cell? ⟨c31, 5, none⟩ = some (.int .u64 F.db) ∧ w2.cell? ⟨c31, 6, none⟩ = some (.int .u64 F.ag) ∧ w2.cell? ⟨c33, 0, none⟩ = some (.int .u64 F.s) ∧ w2.cell? ⟨c33, 1, none⟩ = some (.int .u64 F.c) ∧ w2.cell? ⟨c33, 2, none⟩ = some (.int .u64 F.ra) ∧ w2.cell? ⟨c33, 3, none⟩ = some (.int .i64 F.cr) ∧ w2.cell? ⟨c33, 4, none⟩ = some (.int .u64 F.nx) ∧ w2.cell? ⟨c33, 5, none⟩ = some (.int .u64 F.db) ∧ w2.cell? ⟨c33, 6, none⟩ = some (.int .u64 F.ag)) := Lib.hid fun w' h' => by
                  have h0 := h'
                  rw [hLLz] at h0
                  refine Calls.mono (HDR2.out [BF c31 F, BF c33 F] w' h0) ?_
                  rintro e w2 ⟨he, h2⟩
                  rw [← hLLz] at h2
                  exact ⟨he, HALL.out w2 h2⟩
                have HC33 := Lib.hid hc33
                have HW6 := Lib.hid hW6
                have H8 := Lib.hid h8
                clear h6 h7 h8 hc33 hW6 hLLz d0 d1 d2 d3 d4 d5 HDG2 HRS2 HDR2
                go_upto_region 53 with fail
                rw [HC33.out, HW6.out]
                clear HC33 HW6
                obtain ⟨-, z0, z1, z2, z3, z4, z5, z6, z7, z8, z9, z10, z11, z12, z13, z14, z15, z16, z17, z18, z19⟩ := HALL.out _ H8.out
                have bb : (B != B) = false := by simp
                have qq : (Q != Q) = false := by simp
                go_region_held3 (fun w' => Own LLz w' ∧ w'.cell? ⟨b, 0, none⟩ = some (.int .i64 (n : Int)) ∧ w'.cell? ⟨b, 1, none⟩ = some (.int .i64 (bt2 : Int)) ∧ w'.cell? ⟨b, 2, none⟩ = some (.int .u64 kp2) ∧ w'.cell? ⟨b, 3, none⟩ = some (.slice va q vc) ∧ w'.cell? ⟨b, 4, none⟩ = some (.slice ga z gk) ∧ w'.cell? ⟨b, 5, none⟩ = some (.int .i64 (u : Int)) ∧ w'.cell? ⟨c31, 0, none⟩ = some (.int .u64 F.s) ∧ w'.cell? ⟨c31, 1, none⟩ = some (.int .u64 F.c) ∧ w'.cell? ⟨c31, 2, none⟩ = some (.int .u64 F.ra) ∧ w'.cell? ⟨c31, 3, none⟩ = some (.int .i64 F.cr) ∧ w'.cell? ⟨c31, 4, none⟩ = some (.int .u64 F.nx) ∧ w'.cell? ⟨c31, 5, none⟩ = some (.int .u64 F.db) ∧ w'.cell? ⟨c31, 6, none⟩ = some (.int .u64 F.ag) ∧ w'.cell? ⟨c33, 0, none⟩ = some (.int .u64 F.s) ∧ w'.cell? ⟨c33, 1, none⟩ = some (.int .u64 F.c) ∧ w'.cell? ⟨c33, 2, none⟩ = some (.int .u64 F.ra) ∧ w'.cell? ⟨c33, 3, none⟩ = some (.int .i64 F.cr) ∧ w'.cell? ⟨c33, 4, none⟩ = some (.int .u64 F.nx) ∧ w'.cell? ⟨c33, 5, none⟩ = some (.int .u64 F.db) ∧ w'.cell? ⟨c33, 6, none⟩ = some (.int .u64 F.ag))
                  (first | exact HALL.out _ (H8.out.step (Ext.refl _).drew) | (refine ⟨?_, ?_, ?_, ?_, ?_, ?_, ?_, ?_, ?_, ?_, ?_, ?_, ?_, ?_, ?_, ?_, ?_, ?_, ?_, ?_, ?_⟩ <;> assumption))
                  (first
                    | (go_at_call 21; go_split_ands; (with_reducible refine (HR1.out _ (by assumption)).mono ?_); rintro x w4 ⟨rfl, hz, z0, z1, z2, z3, z4, z5, z6, z7, z8, z9, z10, z11, z12, z13, z14, z15, z16, z17, z18, z19⟩)
                    | (go_at_call 39; go_split_ands; (with_reducible refine (HR2.out _ (by assumption)).mono ?_); rintro x w4 ⟨rfl, hz, z0, z1, z2, z3, z4, z5, z6, z7, z8, z9, z10, z11, z12, z13, z14, z15, z16, z17, z18, z19⟩))
                all_goals go_split_ands
                all_goals have HZ := Lib.hid (show Own LLz _ by assumption)
                all_goals go_wp2_with fail
                all_goals exact ⟨⟨⟨j + 1, I + 1, by go_num, by rw [HI.out]; omega, by have := HI.out; omega⟩, (HLZ.out _ HZ.out).1⟩, by simp [intOf]; omega⟩
              · have hIn2 : (n : Int) < I := by omega
                have HX := Lib.hid (HNX.out _ h)
                clear h hI
                go_wp2_with fail
                exact ⟨HX.out, by simp [intOf]; omega⟩
    · obtain rfl : i = m := by omega
      have HE := Lib.hid (awake_any h)
      clear h hlt hi
      go_wp2_with fail
      (with_reducible refine (HE.out).mono ?_)
      rintro e w8 ⟨rfl, h8⟩
      have H8 := Lib.hid h8
      clear h8 HE
      go_wp2_with fail
      go_ret
      exact ⟨rfl, H8.out.ext (by simp)⟩
end Go.Proofs.Ytkdmlpigkmlkmaa.Tb
