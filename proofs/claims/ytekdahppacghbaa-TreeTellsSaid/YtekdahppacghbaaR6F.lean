/- DERIVED. Layer 6 (tree): the law TreeTells. -/
import Derived.Test.YtekdahppacghbaaR6E
import Derived.Test.YtekdahppacghbaaTrV
import Derived.BigQuiet
import Derived.Deep.DeepCutAuto
import Derived.Deep.CutBlock
set_option linter.unusedVariables false
set_option linter.unusedSimpArgs false
set_option maxRecDepth 100000
namespace Go.Proofs.Ytekdahppacghbaa.Tr
open Go.RowKit Go.Proofs.Ytekdahppacghbaa Go.Proofs.Ytekdahppacghbaa.TreeP

abbrev BK (b : Nat) (cs : Array Value) (t : TypeId) : HP := Go.Proofs.Ytekdahppacghbaa.Blk b cs t
/-- the tree, and the document's, in block b7 -/
def TI (w0 : World) (p room b7 : Nat) (E : List En) (wx : World) : Prop :=
  ∃ v, Own [Tree p room E, RowR 31 3 v E.length (ents E), BK b7 #[v, .int .i64 (room : Int)] 50, Old w0] wx
theorem ti_set {w0 w : World} {p room b7 b9 : Nat} {v v' : Value} {c9 : Array Value} {t9 : TypeId} {E : List En}
    (h : Own [RowR 31 3 v' E.length (ents E), Tree p room E, BK b9 c9 t9, BK b7 #[v, .int .i64 (room : Int)] 50, Old w0] w) :
    TI w0 p room b7 E ((w.setCell ⟨b7, 0, none⟩ v').setCell ⟨b7, 1, none⟩ (.int .i64 (room : Int))) :=
  ⟨v', (((Go.Proofs.Ytekdahppacghbaa.Own.blkSet (o := 1) (Go.Proofs.Ytekdahppacghbaa.Own.blkSet (o := 0) h.fourth v') (.int .i64 (room : Int))).fourth.drop).third).tail OwnIn.swap⟩
theorem ti_cells {w : World} {room b7 : Nat} {v : Value} {l : List HP} (h : Own l w) (hm : BK b7 #[v, .int .i64 (room : Int)] 50 ∈ l) :
    w.cell? ⟨b7, 0, none⟩ = some v ∧ w.cell? ⟨b7, 1, none⟩ = some (.int .i64 (room : Int)) ∧ w.frozen? ⟨b7, 0, none⟩ = false ∧ w.frozen? ⟨b7, 1, none⟩ = false := by
  have g := Go.Proofs.Ytekdahppacghbaa.Own.blk h hm
  exact ⟨(cell_at (o := 0) g rfl).1, (cell_at (o := 1) g rfl).1, (cell_at (o := 0) g rfl).2, (cell_at (o := 1) g rfl).2⟩
theorem op_cells {w : World} {b : Nat} {a0 a1 a2 a3 : Value} {t : TypeId} {l : List HP} (h : Own l w) (hm : BK b #[a0, a1, a2, a3] t ∈ l) :
    w.cell? ⟨b, 0, none⟩ = some a0 ∧ w.cell? ⟨b, 1, none⟩ = some a1 ∧ w.cell? ⟨b, 2, none⟩ = some a2 ∧ w.cell? ⟨b, 3, none⟩ = some a3 := by
  have g := Go.Proofs.Ytekdahppacghbaa.Own.blk h hm
  exact ⟨(cell_at (o := 0) g rfl).1, (cell_at (o := 1) g rfl).1, (cell_at (o := 2) g rfl).1, (cell_at (o := 3) g rfl).1⟩
theorem ent_cells {w : World} {b : Nat} {a0 a1 a2 : Value} {t : TypeId} {l : List HP} (h : Own l w) (hm : BK b #[a0, a1, a2] t ∈ l) :
    w.cell? ⟨b, 0, none⟩ = some a0 ∧ w.cell? ⟨b, 1, none⟩ = some a1 ∧ w.cell? ⟨b, 2, none⟩ = some a2 := by
  have g := Go.Proofs.Ytekdahppacghbaa.Own.blk h hm
  exact ⟨(cell_at (o := 0) g rfl).1, (cell_at (o := 1) g rfl).1, (cell_at (o := 2) g rfl).1⟩
theorem ents_setV : ∀ (F : List En) (k : Nat) (x : Int) (e : En), F[k]? = some e → ents (F.set k (e.1, x)) = (ents F).set (k * 3 + 2) (.int .i64 x)
  | [], k, x, e, h => by simp at h
  | y :: F, 0, x, e, h => by
    obtain rfl : y = e := by simpa using h
    simp [ents, ec]
  | y :: F, k + 1, x, e, h => by
    rw [List.set_cons_succ, ents, ents, ents_setV F k x e (by simpa using h), List.set_append_right _ _ (by simp [ec]; omega)]
    congr 2
    simp [ec]
    omega
/-- the law's round -/
def TLI (w0 : World) (p room b7 N : Nat) (vi : Value) (wr : World) : Prop := ∃ (k : Nat) (E : List En), vi = .int .i64 (k : Int) ∧ k ≤ N ∧ TI w0 p room b7 E wr
set_option maxHeartbeats 1000000 in
theorem tells_main (r : Nat) (v : Value) (n : Nat) (f : Nat → Op) (w : World) (ho : Ops w v n f) (r1 : 1 ≤ r) (r2 : r ≤ 40) (hn : n ≤ 80) :
    Calls Try.prog 5 #[.int .i64 (r : Int), v] w fun e w' => e = .returned (.bool true) ∧ Ext w w' := by
  obtain ⟨a, cap, rfl, q1, q2, q3⟩ := ho
  have Q3 := Lib.hid q3
  unfold maxLen at q2
  have H0 := Lib.hid (Own.start w)
  have g1 : (1 : Int) ≤ (r : Int) := by omega
  have g2 : (r : Int) ≤ 65536 := by omega
  have g3 : (r : Int) ≤ 40 := by omega
  have g4 : (n : Int) ≤ 80 := by omega
  have g5 : (n : Int) ≤ (cap : Int) := by omega
  clear q3
  go_enter Try.func5, Try.ntmps5
  go_wp2_with fail
  refine (own_new r r1 (by omega) H0.out).mono ?_
  rintro e w1 ⟨p, rfl, h1⟩
  have h2 := (Go.Proofs.Ytekdahppacghbaa.Own.blkNew h1 #[.slice none 0 0, .int .i64 (r : Int)] 50).nilRowR 31 3
  have HT : Hid (TI w p r w1.heap.size [] (w1.alloc (.cells #[.slice none 0 0, .int .i64 (r : Int)] 50))) := Lib.hid ⟨_, h2.third⟩
  obtain ⟨b7, hb7⟩ : ∃ b, b = w1.heap.size := ⟨_, rfl⟩
  have HB7 := Lib.hid hb7
  rw [← hb7] at HT
  clear h1 h2 H0 hb7
  go_wp2_with fail
  rw [← HB7.out]
  clear HB7
  go_loopw [72] (fun vi wr => TLI w p r b7 n vi wr) (fun vi _ => n - (intOf vi).toNat)
  case atStart => exact ⟨0, [], rfl, Nat.zero_le _, HT.out⟩
  case round =>
    clear HT
    obtain ⟨k, E, rfl, hk, v7, h⟩ := hrel
    by_cases hlt : k < n
    · have hltI : (k : Int) < (n : Int) := by omega
      obtain ⟨b, off, rfl, hb, hcell⟩ := Q3.out (by omega)
      have hx := h.ext (w0 := w) (by simp)
      have d0 : wr.cell? ⟨b, off + k * 4, none⟩ = some (.int .u8 (f k).kind) := hx.cell (hcell k 0 (by omega) (by omega))
      have d1 : wr.cell? ⟨b, off + k * 4 + 1, none⟩ = some (.int .u64 (f k).a) := hx.cell (hcell k 1 (by omega) (by omega))
      have d2 : wr.cell? ⟨b, off + k * 4 + 2, none⟩ = some (.int .u64 (f k).s) := hx.cell (hcell k 2 (by omega) (by omega))
      have d3 : wr.cell? ⟨b, off + k * 4 + 3, none⟩ = some (.int .i64 (f k).v) := hx.cell (hcell k 3 (by omega) (by omega))
      obtain ⟨kd, ekd⟩ : ∃ x, x = (f k).kind := ⟨_, rfl⟩
      obtain ⟨ka, eka⟩ : ∃ x, x = (f k).a := ⟨_, rfl⟩
      obtain ⟨ks, eks⟩ : ∃ x, x = (f k).s := ⟨_, rfl⟩
      obtain ⟨kv, ekv⟩ : ∃ x, x = (f k).v := ⟨_, rfl⟩
      rw [← ekd] at d0
      rw [← eka] at d1
      rw [← eks] at d2
      rw [← ekv] at d3
      have hA := (Go.Proofs.Ytekdahppacghbaa.Own.blkNew h #[.int .u8 kd, .int .u64 ka, .int .u64 ks, .int .i64 kv] 52).swap
      have HR := Lib.hid (rising_of hA)
      obtain ⟨b9, hb9⟩ : ∃ b, b = wr.heap.size := ⟨_, rfl⟩
      rw [← hb9] at hA
      obtain ⟨va, vc, rfl⟩ := h.second.rowR.slice
      obtain ⟨wA, hwA⟩ : ∃ wA, wA = wr.alloc (.cells #[.int .u8 kd, .int .u64 ka, .int .u64 ks, .int .i64 kv] 52) := ⟨_, rfl⟩
      rw [← hwA] at hA
      have HWA := Lib.hid hwA
      have HB9 := Lib.hid hb9
      have HA := Lib.hid hA
      obtain ⟨m, hm⟩ : ∃ m, m = E.length := ⟨_, rfl⟩
      have HM := Lib.hid hm
      rw [← hm] at HA
      obtain ⟨o0, o1, o2, o3⟩ := op_cells (b := b9) hA (.tail _ (.head _))
      obtain ⟨zc0, zc1, zf0, zf1⟩ := ti_cells (b7 := b7) hA (.tail _ (.tail _ (.tail _ (.head _))))
      clear h hA hx hcell hb ekd eka eks ekv hwA hb9 hm
      go_upto_block 2 with fail
      rw [← HB9.out, ← HWA.out]
      clear HB9 HWA d0 d1 d2 d3
      go_cut [9] (fun s9 wx => s9 = .pointer (some ⟨b9, 0, none⟩) ∧ ∃ E', TI w p r b7 E' wx)
      case first =>
        by_cases k1 : kd = 1
        · have e1 : (kd == 1) = true := by simp [k1]
          clear k1
          as_aux_lemma =>
          go_wp2_with fail
          refine (own_put HA.out ka ks kv).mono ?_
          rintro e w2 ⟨rfl, h2⟩
          obtain ⟨x, hx⟩ : ∃ x, x = putE r E (ka, ks) := ⟨_, rfl⟩
          obtain ⟨E2, hE2⟩ : ∃ E2, E2 = putT r E (ka, ks) kv := ⟨_, rfl⟩
          obtain ⟨o0, o1, o2, o3⟩ := op_cells (b := b9) h2 (.tail _ (.head _))
          obtain ⟨zc0, zc1, zf0, zf1⟩ := ti_cells (b7 := b7) h2 (.tail _ (.tail _ (.tail _ (.head _))))
          have hp := rput_any (room := r) h2.third HM.out.symm (by have := HR.out.2; have := HM.out; omega) HR.out.1 (by have := HR.out.2; have := HM.out; omega) r1 ka ks kv
          rw [← hx, ← hE2] at hp
          rw [← hx]
          have xx : (x != x) = false := by simp
          have HP := Lib.hid hp
          clear hp h2 hx hE2
          go_wp2_with fail
          refine (HP.out).mono ?_
          rintro e w3 ⟨v', rfl, h3⟩
          obtain ⟨va', vc', rfl⟩ := h3.rowR.slice
          have h4 := h3.step ((Ext.refl w3).alloc (.cells #[.slice va' E2.length vc', .int .i64 (r : Int)] 50))
          obtain ⟨zc0, zc1, zf0, zf1⟩ := ti_cells (b7 := b7) h4 (.tail _ (.tail _ (.tail _ (.head _))))
          have HF := Lib.hid (ti_set h4)
          clear h3 h4 o0 o1 o2 o3 HP
          go_wp2_with fail
          go_meet
          case rel => exact ⟨rfl, _, HF.out⟩
        · have e1 : (kd == 1) = false := by simp [k1]
          by_cases k2 : kd = 2
          · have e2 : (kd == 2) = true := by simp [k2]
            clear k1 k2
            as_aux_lemma =>
            go_wp2_with fail
            refine (own_drop HA.out ka ks).mono ?_
            rintro e w2 ⟨rfl, h2⟩
            obtain ⟨x, hx⟩ : ∃ x, x = (look E (ka, ks)).getD 0 := ⟨_, rfl⟩
            obtain ⟨y, hy⟩ : ∃ y, y = (look E (ka, ks)).isSome := ⟨_, rfl⟩
            obtain ⟨E2, hE2⟩ : ∃ E2, E2 = del E (ka, ks) := ⟨_, rfl⟩
            obtain ⟨o0, o1, o2, o3⟩ := op_cells (b := b9) h2 (.tail _ (.head _))
            obtain ⟨zc0, zc1, zf0, zf1⟩ := ti_cells (b7 := b7) h2 (.tail _ (.tail _ (.tail _ (.head _))))
            have hp := rdrop_any (room := r) h2.third HM.out.symm (by have := HR.out.2; have := HM.out; omega) HR.out.1 ka ks
            rw [← hx, ← hy, ← hE2] at hp
            rw [← hx, ← hy]
            have xx : (x != x) = false := by simp
            have yy : (y != y) = false := by simp
            have HP := Lib.hid hp
            rw [← hE2] at h2
            clear hp h2 hx hy hE2
            go_wp2_with fail
            refine (HP.out).mono ?_
            rintro e w3 ⟨v', rfl, h3⟩
            obtain ⟨va', vc', rfl⟩ := h3.rowR.slice
            have h4 := h3.step ((Ext.refl w3).alloc (.cells #[.slice va' E2.length vc', .int .i64 (r : Int)] 50))
            obtain ⟨zc0, zc1, zf0, zf1⟩ := ti_cells (b7 := b7) h4 (.tail _ (.tail _ (.tail _ (.head _))))
            have HF := Lib.hid (ti_set h4)
            clear h3 h4 o0 o1 o2 o3 HP
            go_wp2_with fail
            go_meet
            case rel => exact ⟨rfl, _, HF.out⟩
          · have e2 : (kd == 2) = false := by simp [k2]
            by_cases k3 : kd = 3
            · have e3 : (kd == 3) = true := by simp [k3]
              clear k1 k2 k3
              as_aux_lemma =>
              go_wp2_with fail
              refine (own_get HA.out ka ks).mono ?_
              rintro e w2 ⟨rfl, h2⟩
              obtain ⟨x, hx⟩ : ∃ x, x = (look E (ka, ks)).getD 0 := ⟨_, rfl⟩
              obtain ⟨y, hy⟩ : ∃ y, y = (look E (ka, ks)).isSome := ⟨_, rfl⟩
              obtain ⟨o0, o1, o2, o3⟩ := op_cells (b := b9) h2 (.tail _ (.head _))
              obtain ⟨zc0, zc1, zf0, zf1⟩ := ti_cells (b7 := b7) h2 (.tail _ (.tail _ (.tail _ (.head _))))
              have hp := rget_any (room := r) h2.third.rowR HM.out.symm (by have := HR.out.2; have := HM.out; omega) HR.out.1 ka ks
              rw [← hx, ← hy] at hp
              rw [← hx, ← hy]
              have xx : (x != x) = false := by simp
              have yy : (y != y) = false := by simp
              have HP := Lib.hid hp
              have H2 := Lib.hid h2
              clear hp h2 hx hy
              go_wp2_with fail
              refine (HP.out).mono ?_
              rintro e w3 ⟨rfl, hx3⟩
              have HF : Hid (TI w p r b7 E w3) := Lib.hid ⟨_, by rw [← HM.out]; exact (H2.out.step hx3).swap.drop⟩
              clear hx3 o0 o1 o2 o3 HP
              go_wp2_with fail
              go_meet
              case rel => exact ⟨rfl, _, HF.out⟩
            · have e3 : (kd == 3) = false := by simp [k3]
              by_cases k4 : kd = 4
              · have e4 : (kd == 4) = true := by simp [k4]
                clear k1 k2 k3 k4
                as_aux_lemma =>
                go_wp2_with fail
                refine (own_next HA.out ka ks).mono ?_
                rintro e w2 ⟨rfl, h2⟩
                obtain ⟨c, hc⟩ : ∃ c, c = (nextE E (ka, ks)).getD z0 := ⟨_, rfl⟩
                obtain ⟨y, hy⟩ : ∃ y, y = (nextE E (ka, ks)).isSome := ⟨_, rfl⟩
                obtain ⟨o0, o1, o2, o3⟩ := op_cells (b := b9) h2 (.tail _ (.head _))
                have hp := rnext_any (room := r) (ownsR_keep h2.third.rowR ((Ext.refl w2).alloc (.cells #[.int .u64 c.1.1, .int .u64 c.1.2, .int .i64 c.2] 31))) HM.out.symm (by have := HR.out.2; have := HM.out; omega) ka ks
                rw [entO_getD, ← hc, ← hy] at hp
                rw [entO_getD, ← hc, ← hy]
                have h3 := (Go.Proofs.Ytekdahppacghbaa.Own.blkNew h2 #[.int .u64 c.1.1, .int .u64 c.1.2, .int .i64 c.2] 31)
                obtain ⟨zc0, zc1, zf0, zf1⟩ := ti_cells (b7 := b7) h3 (.tail _ (.tail _ (.tail _ (.tail _ (.head _)))))
                obtain ⟨o0, o1, o2, o3⟩ := op_cells (b := b9) h3 (.tail _ (.tail _ (.head _)))
                have yy : (y != y) = false := by simp
                have x1 : (c.1.1 == c.1.1) = true := by simp
                have x2 : (c.1.2 == c.1.2) = true := by simp
                have x3 : (c.2 == c.2) = true := by simp
                have HP := Lib.hid hp
                have H3 := Lib.hid h3
                clear hp h2 h3 hc hy
                go_wp2_with fail
                refine (HP.out).mono ?_
                rintro e w4 ⟨rfl, hx4⟩
                have h4 := (H3.out.step hx4).step ((Ext.refl w4).alloc (.cells #[.int .u64 c.1.1, .int .u64 c.1.2, .int .i64 c.2] 31))
                obtain ⟨c0, c1, c2⟩ := ent_cells (b := w2.heap.size) h4 (.head _)
                have HF : Hid (TI w p r b7 E (w4.alloc (.cells #[.int .u64 c.1.1, .int .u64 c.1.2, .int .i64 c.2] 31))) := Lib.hid ⟨_, by rw [← HM.out]; exact h4.drop.swap.drop⟩
                clear hx4 h4 o0 o1 o2 o3 HP H3 zc0 zc1 zf0 zf1
                go_wp2_with fail
                go_meet
                case rel => exact ⟨rfl, _, HF.out⟩
              · have e4 : (kd == 4) = false := by simp [k4]
                have HF : Hid (TI w p r b7 E wA) := Lib.hid ⟨_, by rw [← HM.out]; exact HA.out.swap.drop⟩
                clear k1 k2 k3 k4
                as_aux_lemma =>
                go_wp2_with fail
                go_meet
                case rel => exact ⟨rfl, _, HF.out⟩
      case rest =>
        obtain ⟨rfl, E', v8, h⟩ := hcut
        clear o0 o1 o2 o3 zc0 zc1 zf0 zf1 HA HR HM
        have HR := Lib.hid (rising_of h)
        obtain ⟨va8, vc8, rfl⟩ := h.second.rowR.slice
        obtain ⟨m8, hm8⟩ : ∃ m, m = E'.length := ⟨_, rfl⟩
        rw [← hm8] at h
        have HM := Lib.hid hm8
        have hm40 : m8 ≤ 40 := by have := HR.out.2; omega
        have H := Lib.hid h
        clear h hm8
        go_wp2_with fail
        refine (own_all H.out).mono ?_
        rintro e w2 ⟨vl, rfl, h2⟩
        rw [← HM.out] at h2
        obtain ⟨al, cl, rfl⟩ := own_slice h2.row
        have H2 := Lib.hid h2.swap
        clear h2 H
        go_wp2_with fail
        have hf := own_first H2.out
        rw [entO_getD] at hf
        obtain ⟨c, hc⟩ : ∃ c, c = E'.head?.getD z0 := ⟨_, rfl⟩
        obtain ⟨y, hy⟩ : ∃ y, y = E'.head?.isSome := ⟨_, rfl⟩
        rw [← hc, ← hy] at hf
        have HFI := Lib.hid hf
        clear hf H2
        refine (HFI.out).mono ?_
        rintro e w3 ⟨rfl, h3⟩
        have h4 := (Go.Proofs.Ytekdahppacghbaa.Own.blkNew h3 #[.int .u64 c.1.1, .int .u64 c.1.2, .int .i64 c.2] 31).swap
        obtain ⟨w4, hw4⟩ : ∃ w4, w4 = w3.alloc (.cells #[.int .u64 c.1.1, .int .u64 c.1.2, .int .i64 c.2] 31) := ⟨_, rfl⟩
        obtain ⟨b27, hb27⟩ : ∃ b, b = w3.heap.size := ⟨_, rfl⟩
        rw [← hw4, ← hb27] at h4
        have HW4 := Lib.hid hw4
        have HB27 := Lib.hid hb27
        have H4 := Lib.hid h4
        obtain ⟨cc0, cc1, cc2⟩ := ent_cells (b := b27) h4 (.tail _ (.head _))
        obtain ⟨zc0, zc1, -, -⟩ := ti_cells (b7 := b7) h4 (.tail _ (.tail _ (.tail _ (.tail _ (.head _)))))
        have HSA : Hid (∀ W, Own [Tree p r E', BK b27 #[.int .u64 c.1.1, .int .u64 c.1.2, .int .i64 c.2] 31, Row 31 3 (.slice al m8 cl) m8 (ents E'), RowR 31 3 (.slice va8 m8 vc8) m8 (ents E'), BK b7 #[.slice va8 m8 vc8, .int .i64 (r : Int)] 50, Old w] W → Calls Try.prog 18 #[.slice al m8 cl, .slice va8 m8 vc8] W fun e w' => e = .returned (.bool true) ∧ ∃ m, w' = W.drewN m) := Lib.hid (fun W hW => by
          have := same_quiet _ _ m8 m8 E' E' W HM.out.symm HM.out.symm (ownsR_of hW.third.row) hW.fourth.rowR (by omega) (by omega)
          rw [decide_eq_true rfl] at this
          exact this)
        have HLE : Hid (∀ (W : World) (l : List HP), Own (Tree p r E' :: l) W → Calls Try.prog 24 #[.pointer (some ⟨p, 0, none⟩)] W fun e w' => e = .returned (.int .i64 (m8 : Nat)) ∧ W = w') := Lib.hid (fun W l hW => by
          have := own_len hW
          rw [← HM.out] at this
          exact this)
        have HCC := Lib.hid hc
        have HYY := Lib.hid hy
        clear h3 h4 hw4 hb27 HFI hc hy
        go_wp2_with fail
        rw [← HB27.out, ← HW4.out]
        clear HB27 HW4
        cases hE' : E' with
        | nil =>
          have hm0 : m8 = 0 := by rw [HM.out, hE']; rfl
          have hce : c = z0 := by rw [HCC.out, hE']; rfl
          have hye : y = false := by rw [HYY.out, hE']; rfl
          subst hye
          have c1 : c.1.1 = 0 := by rw [hce]; rfl
          have c2 : c.1.2 = 0 := by rw [hce]; rfl
          have c3 : c.2 = 0 := by rw [hce]; rfl
          rw [c1] at cc0
          rw [c2] at cc1
          rw [c3] at cc2
          subst hm0
          clear HCC HYY hce c1 c2 c3
          go_quiet (first
              | (go_at_call 18; refine Calls.quiet_of (HSA.out _ (H4.out.step ((Ext.refl _).drewN _))))
              | (go_at_call 24; refine Calls.quiet_of_same ((HLE.out _ _ (H4.out.step ((Ext.refl _).drewN _))).mono (fun _ _ h => ⟨h.1, h.2.symm⟩)))
              | (go_at_call 25; refine Calls.quiet_of_same ((own_room (H4.out.step ((Ext.refl _).drewN _))).mono (fun _ _ h => ⟨h.1, h.2.symm⟩))))
          have HQ : Hid (∀ N, TI w p r b7 E' (w4.drewN N)) := Lib.hid (fun N => ⟨_, by rw [← HM.out]; exact (H4.out.step ((Ext.refl w4).drewN N)).swap.drop.swap.drop⟩)
          clear cc0 cc1 cc2 zc0 zc1 H4
          go_wp2_with fail
          go_loopw [229] (fun vj wr2 => vj = .int .i64 0 ∧ TI w p r b7 E' wr2) (fun _ _ => 0)
          case atStart => exact ⟨rfl, HQ.out _⟩
          case round =>
            clear HQ
            obtain ⟨rfl, hO⟩ := hrel
            have HF2 := Lib.hid hO
            clear hO
            go_wp2_with fail
            exact ⟨⟨k + 1, E', by go_num, by omega, HF2.out⟩, by simp [intOf]; omega⟩
        | cons e0 E0 =>
          have hm1 : 0 < m8 := by rw [HM.out, hE']; simp
          obtain ⟨g8, cp8, ev, -, -⟩ := H4.out.fourth.rowR.form hm1
          injection ev with e1 _ e3
          subst e1 e3
          have hrc := fun W (hW : ownsR W 31 3 (.slice (some ⟨g8, 0, none⟩) m8 vc8) m8 (ents E')) => rowEnt hW (i := 0) (show E'[0]? = some e0 by rw [hE']; rfl)
          have hce : c = e0 := by rw [HCC.out, hE']; rfl
          have hye : y = true := by rw [HYY.out, hE']; rfl
          subst hce hye
          have HRC := Lib.hid hrc
          have hrc4 := HRC.out _ H4.out.fourth.rowR
          simp only [Nat.zero_mul, Nat.zero_add] at hrc4
          obtain ⟨rc0, rc1, rc2⟩ := hrc4
          have x1 : (c.1.1 == c.1.1) = true := by simp
          have x2 : (c.1.2 == c.1.2) = true := by simp
          have x3 : (c.2 == c.2) = true := by simp
          have hmI : (0 : Int) < (m8 : Int) := by omega
          clear hrc HCC HYY hE'
          go_quiet (first
              | (go_at_call 18; refine Calls.quiet_of (HSA.out _ (H4.out.step ((Ext.refl _).drewN _))))
              | (go_at_call 24; refine Calls.quiet_of_same ((HLE.out _ _ (H4.out.step ((Ext.refl _).drewN _))).mono (fun _ _ h => ⟨h.1, h.2.symm⟩)))
              | (go_at_call 25; refine Calls.quiet_of_same ((own_room (H4.out.step ((Ext.refl _).drewN _))).mono (fun _ _ h => ⟨h.1, h.2.symm⟩))))
          have HQ := Lib.hid (fun N => H4.out.step ((Ext.refl w4).drewN N))
          clear rc0 rc1 rc2 cc0 cc1 cc2 zc0 zc1 x1 x2 x3
          go_wp2_with fail
          go_loopw [229] (fun vj wr2 => ∃ (j : Nat) (F : List En), vj = .int .i64 (j : Int) ∧ j ≤ m8 ∧ F.length = m8 ∧ Own [Row 31 3 (.slice al m8 cl) m8 (ents F), Tree p r E', RowR 31 3 (.slice (some ⟨g8, 0, none⟩) m8 vc8) m8 (ents E'), BK b7 #[.slice (some ⟨g8, 0, none⟩) m8 vc8, .int .i64 (r : Int)] 50, Old w] wr2) (fun vj _ => m8 - (intOf vj).toNat)
          case atStart => exact ⟨0, E', rfl, Nat.zero_le _, HM.out.symm, (HQ.out _).swap.drop.swap⟩
          case round =>
            clear HQ
            obtain ⟨j, F, rfl, hj, hF, hO⟩ := hrel
            by_cases hjt : j < m8
            · obtain ⟨ga, ca, ev, -, -⟩ := own_cap hO.row (by omega)
              injection ev with e1 _ e3
              subst e1 e3
              obtain ⟨e, he⟩ : ∃ e, F[j]? = some e := ⟨_, List.getElem?_eq_getElem (by rw [hF]; exact hjt)⟩
              have rv := (rowEnt (ownsR_of hO.row) he).2.2
              have rf := hO.row.frozen' rfl (j * 3 + 2)
              have hset := hO.rowSet (o := j * 3 + 2) (by omega) (.int .i64 (wrap64 (e.2 + 1)))
              rw [← ents_setV F j _ e he] at hset
              have HS := Lib.hid hset
              have HFL := Lib.hid (show (F.set j (e.1, wrap64 (e.2 + 1))).length = m8 by rw [List.length_set]; exact hF)
              have hjI : (j : Int) < (m8 : Int) := by omega
              obtain ⟨u, hu⟩ : ∃ u, u = e.2 := ⟨_, rfl⟩
              rw [← hu] at rv HS HFL
              clear hO hset he hF hu
              go_wp2_with fail
              go_roundw
              case rel => exact ⟨j + 1, _, by go_num, by omega, HFL.out, HS.out⟩
              case measure => simp only [intOf]; omega
            · have HF2 : Hid (TI w p r b7 E' wr) := Lib.hid ⟨_, by rw [← HM.out]; exact hO.drop⟩
              obtain rfl : j = m8 := by omega
              clear hO hF
              go_wp2_with fail
              exact ⟨⟨k + 1, E', by go_num, by omega, HF2.out⟩, by simp [intOf]; omega⟩
    · have H := Lib.hid h
      obtain rfl : k = n := by omega
      clear h hlt hk
      go_wp2_with fail
      refine (awake_any H.out).mono ?_
      rintro e w8 ⟨rfl, h8⟩
      have H8 := Lib.hid h8
      clear h8 H
      go_wp2_with fail
      go_ret
      exact ⟨rfl, H8.out.ext (by simp)⟩
set_option maxHeartbeats 1000000 in
theorem tells_of (room : Int) (v : Value) (n : Nat) (f : Nat → Op) (wf : (Lit.int .i64 room).wf = true) (w : World) (ho : Ops w v n f) :
    Calls Try.prog 5 #[.int .i64 room, v] w fun e w' => e = .returned (.bool true) ∧ Ext w w' := by
  obtain ⟨i0, i1⟩ := i64_bd wf
  by_cases hb : room < 1 ∨ 65536 < room
  · have HN := Lib.hid (new_not room hb w)
    have H0 := Lib.hid (Own.start w)
    obtain ⟨a, cap, rfl, q1, q2, q3⟩ := ho
    clear q3 q1 q2 wf
    by_cases h1 : room < 1
    · have g1 : decide ((1 : Int) ≤ room) = false := by simp; omega
      clear hb h1
      go_enter Try.func5, Try.ntmps5
      go_wp2_with fail
      refine (HN.out).mono ?_
      rintro e w1 ⟨rfl, rfl⟩
      go_wp2_with fail
      refine (awake_any H0.out).mono ?_
      rintro e w8 ⟨rfl, h8⟩
      have H8 := Lib.hid h8
      clear h8 H0
      go_wp2_with fail
      go_ret
      exact ⟨rfl, H8.out.ext (by simp)⟩
    · have g1 : decide ((1 : Int) ≤ room) = true := by simp; omega
      have g2 : decide (room ≤ (65536 : Int)) = false := by simp; omega
      clear hb h1
      go_enter Try.func5, Try.ntmps5
      go_wp2_with fail
      refine (HN.out).mono ?_
      rintro e w1 ⟨rfl, rfl⟩
      go_wp2_with fail
      refine (awake_any H0.out).mono ?_
      rintro e w8 ⟨rfl, h8⟩
      have H8 := Lib.hid h8
      clear h8 H0
      go_wp2_with fail
      go_ret
      exact ⟨rfl, H8.out.ext (by simp)⟩
  · obtain ⟨r, rfl⟩ := Int.eq_ofNat_of_zero_le (show 0 ≤ room by omega)
    by_cases hbig : 40 < r ∨ 80 < n
    · have H0 := Lib.hid (Own.start w)
      obtain ⟨a, cap, rfl, q1, q2, q3⟩ := ho
      have g1 : (1 : Int) ≤ (r : Int) := by omega
      have g2 : (r : Int) ≤ 65536 := by omega
      clear q3 q1 q2 wf
      by_cases h1 : 40 < r
      · have g3 : (40 : Int) < (r : Int) := by omega
        clear hbig
        go_enter Try.func5, Try.ntmps5
        go_wp2_with fail
        refine (own_new r (by omega) (by omega) H0.out).mono ?_
        rintro e w1 ⟨p, rfl, h1⟩
        have H1 := Lib.hid h1
        clear h1 H0
        go_wp2_with fail
        refine (awake_any H1.out).mono ?_
        rintro e w8 ⟨rfl, h8⟩
        have H8 := Lib.hid h8
        clear h8 H1
        go_wp2_with fail
        go_ret
        exact ⟨rfl, H8.out.ext (by simp)⟩
      · have g3 : (r : Int) ≤ 40 := by omega
        have g4 : (80 : Int) < (n : Int) := by omega
        clear hbig
        go_enter Try.func5, Try.ntmps5
        go_wp2_with fail
        refine (own_new r (by omega) (by omega) H0.out).mono ?_
        rintro e w1 ⟨p, rfl, h1⟩
        have H1 := Lib.hid h1
        clear h1 H0
        go_wp2_with fail
        refine (awake_any H1.out).mono ?_
        rintro e w8 ⟨rfl, h8⟩
        have H8 := Lib.hid h8
        clear h8 H1
        go_wp2_with fail
        go_ret
        exact ⟨rfl, H8.out.ext (by simp)⟩
    · exact tells_main r v n f w ho (by omega) (by omega) (by omega)
theorem tells_row (room : Int) (v : Value) (x : Nat × (Nat → Op)) (wf : (Lit.int .i64 room).wf = true) (w : World) (ho : Ops w v x.1 x.2) :
    Calls Try.prog 5 #[.int .i64 room, v] w fun e w' => e = .returned (.bool true) ∧ Ext w w' := tells_of room v x.1 x.2 wf w ho
end Go.Proofs.Ytekdahppacghbaa.Tr
