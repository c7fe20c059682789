/- DERIVED. Layer 7 (walk): the law WalkNone (the chapter's examples come as a hypothesis; XWkG proves them). -/
import Derived.Test.YtekdahppacghbabWkK
import Derived.Deep.RegionHeld3
set_option linter.unusedVariables false
set_option linter.unusedSimpArgs false
set_option maxRecDepth 100000
namespace Go.Proofs.Ytekdahppacghbab.Wk
open Go.RowKit Go.Proofs.Ytekdahppacghbab Go.Proofs.Ytekdahppacghbab.TreeP Go.Proofs.Ytekdahppacghbab.Tr

/-- the chapter's examples are awake -/
def Awake : Prop := ∀ (l : List HP) (w : World), Own l w → Calls Try.prog 14 #[] w fun e w' => e = .returned (.bool true) ∧ Own l w'
theorem key_cells {l : List HP} {w : World} {b : Nat} {x s : Int} (h : Own l w) (hm : BK b x s ∈ l) : w.cell? ⟨b, 0, none⟩ = some (.int .u64 x) ∧ w.cell? ⟨b, 1, none⟩ = some (.int .u64 s) := by
  have := Go.Proofs.Ytekdahppacghbab.Own.blk h hm
  simp [World.cell?, this]
set_option maxHeartbeats 4000000 in
theorem none_main (haw : Awake) (x s n : Int) (hn0 : -9223372036854775808 ≤ n) (hn : n < 9223372036854775808) (w : World) :
    Calls Try.prog 3 #[.agg #[.int .u64 x, .int .u64 s], .int .i64 n] w fun e w' => e = .returned (.bool true) ∧ Ext w w' := by
  have h1 : Own [BK w.heap.size x s, Old w] (w.alloc (.cells #[.int .u64 x, .int .u64 s] 24)) := Go.Proofs.Ytekdahppacghbab.Own.blkNew (Own.start w) _ _
  have ho := of_any none 0 0 (fun _ => (0, 0)) (Nat.le_refl _) (by unfold maxLen; omega) (fun hp => absurd hp (by omega)) h1
  obtain ⟨bk, hbk⟩ : ∃ b, b = w.heap.size := ⟨_, rfl⟩
  rw [← hbk] at ho
  have HO := Lib.hid ho
  have HBK := Lib.hid hbk
  have HAW := Lib.hid haw
  have HN := Lib.hid (And.intro hn0 hn)
  clear h1 ho hbk haw hn0 hn
  go_enter Try.func3, Try.ntmps3
  go_wp2_with fail
  refine (HO.out).mono ?_
  rintro e w1 ⟨p, v', rfl, h1⟩
  rw [← HBK.out]
  obtain ⟨va0, vc0, rfl⟩ : ∃ va vc, v' = .slice va 0 vc := h1.swap.rowR.slice
  have h2 : Own [Tree p 60 [], BK bk x s, Old w] w1 := h1.swap.drop
  have h3 := Go.Proofs.Ytekdahppacghbab.Own.blkNew (Go.Proofs.Ytekdahppacghbab.Own.blkNew (Go.Proofs.Ytekdahppacghbab.Own.blkNew h2 #[.slice va0 0 vc0, .int .i64 60] 28).drop zeroT 34) #[.pointer none, .pointer (some ⟨w1.heap.size + 1, 0, none⟩), .pointer (some ⟨p, 0, none⟩)] 25
  simp only [World.size_alloc] at h3
  obtain ⟨W, hW⟩ : ∃ W, ((w1.alloc (.cells #[.slice va0 0 vc0, .int .i64 60] 28)).alloc (.cells zeroT 34)).alloc (.cells #[.pointer none, .pointer (some ⟨w1.heap.size + 1, 0, none⟩), .pointer (some ⟨p, 0, none⟩)] 25) = W := ⟨_, rfl⟩
  rw [hW] at h3
  obtain ⟨bz, hbz⟩ : ∃ b, b = w1.heap.size + 1 := ⟨_, rfl⟩
  rw [← hbz] at h3
  obtain ⟨LL, hLL⟩ : ∃ LL, LL = [Blk (bz + 1) #[.pointer none, .pointer (some ⟨bz, 0, none⟩), .pointer (some ⟨p, 0, none⟩)] 25, Blk bz zeroT 34, Tree p 60 [], BK bk x s, Old w] := ⟨_, rfl⟩
  rw [← hLL] at h3
  have HP : Hid (∀ w', Own LL w' → ∀ i, i < 3 → ∃ a, w'.cell? ⟨bz + 1, i, none⟩ = some (.pointer a) ∧ Emp LL a) := Lib.hid fun w' h' i hi => by
    have hE0 : Emp LL none := ⟨LL, [], by rw [List.append_nil], lk_nil fun l => nilIn_none _⟩
    have hE1 : Emp LL (some ⟨bz, 0, none⟩) := ⟨LL, [], by rw [List.append_nil], lk_nil fun l => nilIn_zero _ bz (by rw [hLL]; exact .tail _ (.head _))⟩
    have hE2 : Emp LL (some ⟨p, 0, none⟩) := ⟨[Tree p 60 []], [Blk (bz + 1) #[.pointer none, .pointer (some ⟨bz, 0, none⟩), .pointer (some ⟨p, 0, none⟩)] 25, Blk bz zeroT 34, BK bk x s, Old w], by rw [hLL]; exact List.perm_middle (l₁ := [_, _]), lk_tree p 60 [] List.Pairwise.nil⟩
    have h2 := h'
    rw [hLL] at h2
    have hb := Go.Proofs.Ytekdahppacghbab.Own.blk h2 (.head _)
    rcases i with _ | _ | _ | i
    · exact ⟨none, by simp [World.cell?, hb], hE0⟩
    · exact ⟨some ⟨bz, 0, none⟩, by simp [World.cell?, hb], hE1⟩
    · exact ⟨some ⟨p, 0, none⟩, by simp [World.cell?, hb], hE2⟩
    · omega
  have HK : Hid (∀ w', Own LL w' → w'.cell? ⟨bk, 0, none⟩ = some (.int .u64 x) ∧ w'.cell? ⟨bk, 1, none⟩ = some (.int .u64 s)) := Lib.hid fun w' h' => by
    rw [hLL] at h'
    exact key_cells h' (.tail _ (.tail _ (.tail _ (.head _))))
  have HOLD : Hid (∀ w', Own LL w' → Ext w w') := Lib.hid fun w' h' => by
    rw [hLL] at h'
    exact h'.ext (by simp)
  have H3 := Lib.hid h3
  have HW := Lib.hid hW
  have HBZ := Lib.hid hbz
  clear h1 h2 h3 hW hbz hLL HO HBK
  go_wp2_with fail
  rw [HW.out, ← HBZ.out]
  clear HW HBZ
  go_loopw [20] (fun vi wr => ∃ i : Nat, vi = .int .i64 (i : Int) ∧ i ≤ 3 ∧ Own LL wr) (fun vi _ => 3 - (intOf vi).toNat)
  case atStart => exact ⟨0, rfl, by omega, H3.out⟩
  case round =>
    clear H3
    obtain ⟨i, rfl, hi, h⟩ := hrel
    by_cases hlt : i < 3
    · have hltI : (i : Int) < 3 := by omega
      obtain ⟨a, ca, hEa⟩ := HP.out wr h i hlt
      obtain ⟨k0, k1⟩ := HK.out wr h
      have HE := Lib.hid hEa
      have H := Lib.hid h
      clear h hEa
      go_wp2_with fail
      refine (emp_sweep HE.out x s n HN.out.1 HN.out.2 H.out).mono ?_
      rintro e w3 ⟨va9, vc9, rfl, h3⟩
      have h4 := Go.Proofs.Ytekdahppacghbab.Own.blkNew h3 #[.int .u64 x, .int .u64 s] 24
      obtain ⟨be, hbe⟩ : ∃ b, b = w3.heap.size := ⟨_, rfl⟩
      obtain ⟨w4, hw4⟩ : ∃ w4, w3.alloc (.cells #[.int .u64 x, .int .u64 s] 24) = w4 := ⟨_, rfl⟩
      rw [hw4, ← hbe] at h4
      obtain ⟨L2, hL2⟩ : ∃ L2, L2 = BK be x s :: LL := ⟨_, rfl⟩
      have h4 : Own L2 w4 := by rw [hL2]; exact h4
      have HE2 : Hid (Emp L2 a) := Lib.hid (by rw [hL2]; exact HE.out.more _)
      have HC : ∀ w', Own L2 w' → w'.cell? ⟨bk, 0, none⟩ = some (.int .u64 x) ∧ w'.cell? ⟨bk, 1, none⟩ = some (.int .u64 s) ∧ w'.cell? ⟨be, 0, none⟩ = some (.int .u64 x) ∧ w'.cell? ⟨be, 1, none⟩ = some (.int .u64 s) := fun w' h' => by
        rw [hL2] at h'
        obtain ⟨e0, e1⟩ := key_cells h' (.head _)
        obtain ⟨k0, k1⟩ := HK.out w' h'.drop
        exact ⟨k0, k1, e0, e1⟩
      have HFR : Hid (∀ w', Own L2 w' → Calls Try.prog 11 #[.pointer a, Tr.key x s, .int .i64 n] w' fun e w2 => ∃ va vc, e = .returned (.slice va 0 vc) ∧ Own L2 w2 ∧ w2.cell? ⟨bk, 0, none⟩ = some (.int .u64 x) ∧ w2.cell? ⟨bk, 1, none⟩ = some (.int .u64 s) ∧ w2.cell? ⟨be, 0, none⟩ = some (.int .u64 x) ∧ w2.cell? ⟨be, 1, none⟩ = some (.int .u64 s)) := Lib.hid fun w' h' => (emp_from HE2.out x s n HN.out.2 h').mono fun e w2 ⟨va, vc, he, hx⟩ => ⟨va, vc, he, hx, HC w2 hx⟩
      have HUP : Hid (∀ w', Own L2 w' → Calls Try.prog 12 #[.pointer a, .int .u64 x, .int .i64 n] w' fun e w2 => ∃ va vc, e = .returned (.slice va 0 vc) ∧ Own L2 w2 ∧ w2.cell? ⟨bk, 0, none⟩ = some (.int .u64 x) ∧ w2.cell? ⟨bk, 1, none⟩ = some (.int .u64 s) ∧ w2.cell? ⟨be, 0, none⟩ = some (.int .u64 x) ∧ w2.cell? ⟨be, 1, none⟩ = some (.int .u64 s)) := Lib.hid fun w' h' => (emp_upto HE2.out x n HN.out.2 h').mono fun e w2 ⟨va, vc, he, hx⟩ => ⟨va, vc, he, hx, HC w2 hx⟩
      have HTK : Hid (∀ w', Own L2 w' → Calls Try.prog 13 #[.pointer a, .int .u64 x, .int .i64 n] w' fun e w2 => ∃ va vc, e = .returned (.slice va 0 vc) ∧ Own L2 w2 ∧ w2.cell? ⟨bk, 0, none⟩ = some (.int .u64 x) ∧ w2.cell? ⟨bk, 1, none⟩ = some (.int .u64 s) ∧ w2.cell? ⟨be, 0, none⟩ = some (.int .u64 x) ∧ w2.cell? ⟨be, 1, none⟩ = some (.int .u64 s)) := Lib.hid fun w' h' => (emp_take HE2.out x n HN.out.2 h').mono fun e w2 ⟨va, vc, he, hx⟩ => ⟨va, vc, he, hx, HC w2 hx⟩
      have xx : (x == x) = true := by simp
      have ss : (s == s) = true := by simp
      obtain ⟨k0, k1, e0, e1⟩ := HC w4 h4
      have H4 := Lib.hid h4
      have HL2 := Lib.hid hL2
      have HW4 := Lib.hid hw4
      have HBE := Lib.hid hbe
      clear h3 h4 hw4 hbe hL2 HC H
      go_upto_region 6 with fail
      rw [HW4.out, ← HBE.out]
      clear HW4 HBE
      go_region_held3 (fun w' => Own L2 w' ∧ w'.cell? ⟨bk, 0, none⟩ = some (.int .u64 x) ∧ w'.cell? ⟨bk, 1, none⟩ = some (.int .u64 s) ∧ w'.cell? ⟨be, 0, none⟩ = some (.int .u64 x) ∧ w'.cell? ⟨be, 1, none⟩ = some (.int .u64 s))
        (first | exact ⟨(H4.out).step (Ext.refl _).drew, (Ext.refl _).drew.cell k0, (Ext.refl _).drew.cell k1, (Ext.refl _).drew.cell e0, (Ext.refl _).drew.cell e1⟩ | (refine ⟨?_, ?_, ?_, ?_, ?_⟩ <;> assumption))
        (first
          | (go_at_call 11; go_split_ands; refine (HFR.out _ (by assumption)).mono ?_; rintro e w5 ⟨va, vc, rfl, hz, z0, z1, z2, z3⟩)
          | (go_at_call 12; go_split_ands; refine (HUP.out _ (by assumption)).mono ?_; rintro e w5 ⟨va, vc, rfl, hz, z0, z1, z2, z3⟩)
          | (go_at_call 13; go_split_ands; refine (HTK.out _ (by assumption)).mono ?_; rintro e w5 ⟨va, vc, rfl, hz, z0, z1, z2, z3⟩))
      all_goals go_split_ands
      all_goals have HZ := Lib.hid (show Own L2 _ by assumption)
      all_goals have HX : Hid (Own LL _) := Lib.hid (by have h := HZ.out; rw [HL2.out] at h; exact h.drop)
      all_goals clear HFR HUP HTK
      all_goals go_wp2_with fail
      all_goals exact ⟨⟨i + 1, by go_num, by omega, HX.out⟩, by simp [intOf]; omega⟩
    · obtain rfl : i = 3 := by omega
      have H := Lib.hid h
      clear h
      go_wp2_with fail
      refine (HAW.out _ _ H.out).mono ?_
      rintro e w8 ⟨rfl, h8⟩
      have H8 := Lib.hid h8
      clear h8 H
      go_wp2_with fail
      go_ret
      exact ⟨rfl, HOLD.out _ H8.out⟩
end Go.Proofs.Ytekdahppacghbab.Wk
