/- DERIVED. Layer 13 (bucket): contracts of In, Put and its inner function, over whatever is owned. -/
import Derived.Test.YtlficiohenpghaaBkB
set_option linter.unusedVariables false
set_option linter.unusedSimpArgs false
set_option maxRecDepth 100000
namespace Go.Proofs.Ytlficiohenpghaa.Bk
open Go.RowKit Go.Proofs.Ytlficiohenpghaa Go.Proofs.Ytlficiohenpghaa.TreeP Go.Proofs.Ytlficiohenpghaa.Tr

section
variable {p : Nat} {w : World}
theorem in_walk {LL : List HP} {a : Option Addr} {g N : Nat} (i : Int) (E : List En) (k : Nat) (hk : i = (k : Int)) (hi : k < N)
    (HN : ∀ w', Own LL w' → Calls Try.prog 27 #[.pointer (some ⟨p, 0, none⟩)] w' fun e w2 => e = .returned (.bool false) ∧ w' = w2)
    (HC : ∀ w', Own LL w' → w'.cell? ⟨p, 0, none⟩ = some (.slice (some ⟨g, 0, none⟩) N N) ∧ w'.cell? ⟨g, k, none⟩ = some (.pointer a))
    (HG : ∀ w', Own LL w' → Calls Try.prog 28 #[.pointer a] w' fun e w2 => ∃ v, e = .returned v ∧ Own (Row 32 3 v E.length (Tr.ents E) :: LL) w2)
    (h : Own LL w) : Calls Try.prog 10 #[.pointer (some ⟨p, 0, none⟩), .int .i64 i] w fun e w' => ∃ v, e = .returned v ∧ Own (Row 32 3 v E.length (Tr.ents E) :: LL) w' := by
  subst hk
  obtain ⟨c0, c1⟩ := HC w h
  have HNN := Lib.hid HN
  have HGG := Lib.hid HG
  have H := Lib.hid h
  have hi' : (k : Int) < (N : Int) := by omega
  clear HN HC HG h
  go_enter Try.func10, Try.ntmps10
  go_wp2_with (go_at_call 27; refine (HNN.out _ H.out).mono ?_; rintro e w' ⟨rfl, rfl⟩)
  refine (HGG.out _ H.out).mono ?_
  rintro e w2 ⟨v, rfl, h2⟩
  have H2 := Lib.hid h2
  clear h2 HNN HGG H
  go_wp2_with fail
  go_ret
  exact ⟨_, rfl, H2.out⟩
theorem in_out {LL : List HP} {g N : Nat} (i : Int) (hi : i < 0 ∨ (N : Int) ≤ i)
    (HN : ∀ w', Own LL w' → Calls Try.prog 27 #[.pointer (some ⟨p, 0, none⟩)] w' fun e w2 => e = .returned (.bool false) ∧ w' = w2)
    (HC : ∀ w', Own LL w' → w'.cell? ⟨p, 0, none⟩ = some (.slice (some ⟨g, 0, none⟩) N N))
    (h : Own LL w) : Calls Try.prog 10 #[.pointer (some ⟨p, 0, none⟩), .int .i64 i] w fun e w' => e = .returned (.slice none 0 0) ∧ w = w' := by
  have c0 := HC w h
  have HNN := Lib.hid HN
  have H := Lib.hid h
  clear HN HC h
  by_cases h1 : i < 0
  · have d1 : decide (i < 0) = true := by simpa using h1
    clear hi
    go_enter Try.func10, Try.ntmps10
    go_wp2_with (go_at_call 27; refine (HNN.out _ H.out).mono ?_; rintro e w' ⟨rfl, rfl⟩)
    go_ret
    exact ⟨rfl, rfl⟩
  · have d1 : decide (i < 0) = false := by simpa using h1
    have d2 : (N : Int) ≤ i := by omega
    have d3 : decide ((N : Int) ≤ i) = true := by simpa using d2
    clear hi h1
    go_enter Try.func10, Try.ntmps10
    go_wp2_with (go_at_call 27; refine (HNN.out _ H.out).mono ?_; rintro e w' ⟨rfl, rfl⟩)
    go_ret
    exact ⟨rfl, rfl⟩
/-- Put's inner function, where there is a tree -/
theorem own1_some {g i bx q : Nat} (c : w.cell? ⟨g, i, none⟩ = some (.pointer (some ⟨q, 0, none⟩))) :
    Calls Try.prog 33 #[.pointer (some ⟨g, i, none⟩), .pointer (some ⟨bx, 0, none⟩)] w fun e w' => e = .returned (.pointer (some ⟨q, 0, none⟩)) ∧ w = w' := by
  go_enter Try.func33, Try.ntmps33
  go_wp2
  go_ret
  exact ⟨rfl, rfl⟩
/-- Put's inner function, where there is none -/
theorem own1_none {LL : List HP} {L2 : Nat → List HP} {g i bx room : Nat} (r1 : 1 ≤ room) (r2 : room ≤ 65536)
    (HC : ∀ w' q, Own (Tr.Tree q room [] :: LL) w' → w'.cell? ⟨g, i, none⟩ = some (.pointer none) ∧ w'.frozen? ⟨g, i, none⟩ = false ∧ Own (L2 q) (w'.setCell ⟨g, i, none⟩ (.pointer (some ⟨q, 0, none⟩))))
    (c : w.cell? ⟨g, i, none⟩ = some (.pointer none)) (cb : w.cell? ⟨bx, 0, none⟩ = some (.pointer (some ⟨p, 0, none⟩))) (cr : w.cell? ⟨p, 2, none⟩ = some (.int .i64 (room : Int)))
    (h : Own LL w) : Calls Try.prog 33 #[.pointer (some ⟨g, i, none⟩), .pointer (some ⟨bx, 0, none⟩)] w fun e w' => ∃ q, e = .returned (.pointer (some ⟨q, 0, none⟩)) ∧ Own (L2 q) w' := by
  have HCC := Lib.hid HC
  have HNW := Lib.hid (Tr.own_new room r1 r2 h)
  clear HC h
  go_enter Try.func33, Try.ntmps33
  go_wp2_with fail
  refine (HNW.out).mono ?_
  rintro e w2 ⟨q, rfl, h2⟩
  obtain ⟨d, f, h3⟩ := HCC.out _ _ h2
  obtain ⟨w3, e3⟩ : ∃ w3, w2.setCell ⟨g, i, none⟩ (.pointer (some ⟨q, 0, none⟩)) = w3 := ⟨_, rfl⟩
  have d3 : w3.cell? ⟨g, i, none⟩ = some (.pointer (some ⟨q, 0, none⟩)) := by rw [← e3]; exact World.cell?_setCell_same' _ _ _ (by rw [d]; rfl)
  rw [e3] at h3
  have H3 := Lib.hid h3
  clear h3 h2 HCC HNW c cb cr
  go_wp2_with fail
  go_ret
  exact ⟨q, rfl, H3.out⟩
end
section
variable {p : Nat} {w : World}
theorem put_have {LA : List HP} {s v x : Int}
    (HN : ∀ w', Own LA w' → Calls Try.prog 27 #[.pointer (some ⟨p, 0, none⟩)] w' fun e w2 => e = .returned (.bool false) ∧ w' = w2)
    (HG : ∀ w', Own LA w' → Calls Try.prog 11 #[.pointer (some ⟨p, 0, none⟩), .int .u64 s] w' fun e w2 => e = .returned (.tuple #[.int .i64 x, .bool true]) ∧ Own LA w2)
    (h1 : Own LA (w.alloc (.cells #[.pointer (some ⟨p, 0, none⟩)] 23))) : Calls Try.prog 17 #[.pointer (some ⟨p, 0, none⟩), .int .u64 s, .int .i64 v] w fun e w' => e = .returned (.int .i64 60) ∧ Own LA w' := by
  have H1 := Lib.hid h1
  have HNN := Lib.hid HN
  have HGG := Lib.hid HG
  clear HN HG h1
  go_enter Try.func17, Try.ntmps17
  go_wp2_with (go_at_call 27; refine (HNN.out _ H1.out).mono ?_; rintro e w' ⟨rfl, rfl⟩)
  refine (HGG.out _ H1.out).mono ?_
  rintro e w2 ⟨rfl, h2⟩
  have H2 := Lib.hid h2
  clear h2 HNN HGG H1
  go_wp2_with fail
  go_ret
  exact ⟨rfl, H2.out⟩
theorem put_full {LA : List HP} {s v x : Int} {room : Nat}
    (HC : ∀ w', Own LA w' → w'.cell? ⟨w.heap.size, 0, none⟩ = some (.pointer (some ⟨p, 0, none⟩)) ∧ w'.cell? ⟨p, 2, none⟩ = some (.int .i64 (room : Int)) ∧ w'.cell? ⟨p, 3, none⟩ = some (.int .i64 (room : Int)))
    (HN : ∀ w', Own LA w' → Calls Try.prog 27 #[.pointer (some ⟨p, 0, none⟩)] w' fun e w2 => e = .returned (.bool false) ∧ w' = w2)
    (HG : ∀ w', Own LA w' → Calls Try.prog 11 #[.pointer (some ⟨p, 0, none⟩), .int .u64 s] w' fun e w2 => e = .returned (.tuple #[.int .i64 x, .bool false]) ∧ Own LA w2)
    (h1 : Own LA (w.alloc (.cells #[.pointer (some ⟨p, 0, none⟩)] 23))) : Calls Try.prog 17 #[.pointer (some ⟨p, 0, none⟩), .int .u64 s, .int .i64 v] w fun e w' => e = .returned (.int .i64 4) ∧ Own LA w' := by
  have H1 := Lib.hid h1
  have HNN := Lib.hid HN
  have HGG := Lib.hid HG
  have HCC := Lib.hid HC
  clear HN HG h1 HC
  go_enter Try.func17, Try.ntmps17
  go_wp2_with (go_at_call 27; refine (HNN.out _ H1.out).mono ?_; rintro e w' ⟨rfl, rfl⟩)
  refine (HGG.out _ H1.out).mono ?_
  rintro e w2 ⟨rfl, h2⟩
  obtain ⟨c0, c2, c3⟩ := HCC.out _ h2
  have H2 := Lib.hid h2
  have hr : ((room : Int) == (room : Int)) = true := by simp
  clear h2 HNN HGG H1 HCC
  go_wp2_with fail
  go_quiet (fail)
  go_wp2_with fail
  go_ret
  exact ⟨rfl, (H2.out).step ((Ext.refl _).drewN _)⟩
theorem put_ok {LA LB : List HP} {LC LD : Nat → List HP} {s v x : Int} {room many g N i : Nat} (hm : many < room) (hr : room ≤ 4096) (hi : i < N)
    (HC : ∀ w', Own LA w' → w'.cell? ⟨w.heap.size, 0, none⟩ = some (.pointer (some ⟨p, 0, none⟩)) ∧ w'.cell? ⟨p, 2, none⟩ = some (.int .i64 (room : Int)) ∧ w'.cell? ⟨p, 3, none⟩ = some (.int .i64 (many : Int)) ∧ w'.frozen? ⟨p, 3, none⟩ = false)
    (HN : ∀ w', Own LA w' → Calls Try.prog 27 #[.pointer (some ⟨p, 0, none⟩)] w' fun e w2 => e = .returned (.bool false) ∧ w' = w2)
    (HG : ∀ w', Own LA w' → Calls Try.prog 11 #[.pointer (some ⟨p, 0, none⟩), .int .u64 s] w' fun e w2 => e = .returned (.tuple #[.int .i64 x, .bool false]) ∧ Own LA w2)
    (HS : ∀ w', Own LA w' → Own LB (w'.setCell ⟨p, 3, none⟩ (.int .i64 ((many : Int) + 1))))
    (HCB : ∀ w', Own LB w' → w'.cell? ⟨w.heap.size, 0, none⟩ = some (.pointer (some ⟨p, 0, none⟩)) ∧ w'.cell? ⟨p, 0, none⟩ = some (.slice (some ⟨g, 0, none⟩) N N))
    (HO : ∀ w', Own LB w' → Calls Try.prog 12 #[.pointer (some ⟨p, 0, none⟩), .int .u64 s] w' fun e w2 => e = .returned (.int .i64 (i : Int)) ∧ Own LB w2)
    (HF : ∀ w', Own LB w' → Calls Try.prog 33 #[.pointer (some ⟨g, i, none⟩), .pointer (some ⟨w.heap.size, 0, none⟩)] w' fun e w2 => ∃ q, e = .returned (.pointer (some ⟨q, 0, none⟩)) ∧ Own (LC q) w2)
    (HCC : ∀ w' q, Own (LC q) w' → w'.cell? ⟨w.heap.size, 0, none⟩ = some (.pointer (some ⟨p, 0, none⟩)) ∧ w'.cell? ⟨p, 0, none⟩ = some (.slice (some ⟨g, 0, none⟩) N N))
    (HP : ∀ w' q, Own (LC q) w' → Calls Try.prog 35 #[.pointer (some ⟨q, 0, none⟩), Tr.key s 0, .int .i64 v] w' fun e w2 => e = .returned (.int .i64 0) ∧ Own (LD q) w2)
    (HCD : ∀ w' q, Own (LD q) w' → w'.cell? ⟨w.heap.size, 0, none⟩ = some (.pointer (some ⟨p, 0, none⟩)) ∧ w'.cell? ⟨p, 0, none⟩ = some (.slice (some ⟨g, 0, none⟩) N N))
    (h1 : Own LA (w.alloc (.cells #[.pointer (some ⟨p, 0, none⟩)] 23))) : Calls Try.prog 17 #[.pointer (some ⟨p, 0, none⟩), .int .u64 s, .int .i64 v] w fun e w' => e = .returned (.int .i64 0) ∧ ∃ q, Own (LD q) w' := by
  have H1 := Lib.hid h1
  have HNN := Lib.hid HN
  have HGG := Lib.hid HG
  have HCA := Lib.hid HC
  have HSS := Lib.hid HS
  have HCB' := Lib.hid HCB
  obtain ⟨bx, hbx⟩ : ∃ bx, bx = w.heap.size := ⟨_, rfl⟩
  rw [← hbx] at HCB HF HCC HCD
  have HOO : Hid (∀ w', Own LB w' → Calls Try.prog 12 #[.pointer (some ⟨p, 0, none⟩), .int .u64 s] w' fun e w2 => e = .returned (.int .i64 (i : Int)) ∧ Own LB w2 ∧ w2.cell? ⟨bx, 0, none⟩ = some (.pointer (some ⟨p, 0, none⟩)) ∧ w2.cell? ⟨p, 0, none⟩ = some (.slice (some ⟨g, 0, none⟩) N N)) := Lib.hid fun w' h' => (HO w' h').mono fun e w2 ⟨he, hw⟩ => ⟨he, hw, HCB w2 hw⟩
  have HFF : Hid (∀ w', Own LB w' → Calls Try.prog 33 #[.pointer (some ⟨g, i, none⟩), .pointer (some ⟨bx, 0, none⟩)] w' fun e w2 => ∃ q, e = .returned (.pointer (some ⟨q, 0, none⟩)) ∧ Own (LC q) w2 ∧ w2.cell? ⟨bx, 0, none⟩ = some (.pointer (some ⟨p, 0, none⟩)) ∧ w2.cell? ⟨p, 0, none⟩ = some (.slice (some ⟨g, 0, none⟩) N N)) := Lib.hid fun w' h' => (HF w' h').mono fun e w2 ⟨q, he, hw⟩ => ⟨q, he, hw, HCC w2 q hw⟩
  have HPP : Hid (∀ w' q, Own (LC q) w' → Calls Try.prog 35 #[.pointer (some ⟨q, 0, none⟩), Tr.key s 0, .int .i64 v] w' fun e w2 => e = .returned (.int .i64 0) ∧ Own (LD q) w2 ∧ w2.cell? ⟨bx, 0, none⟩ = some (.pointer (some ⟨p, 0, none⟩)) ∧ w2.cell? ⟨p, 0, none⟩ = some (.slice (some ⟨g, 0, none⟩) N N)) := Lib.hid fun w' q h' => (HP w' q h').mono fun e w2 ⟨he, hw⟩ => ⟨he, hw, HCD w2 q hw⟩
  have HKB : Hid (∀ w', Own LB w' → Calls Try.prog 30 #[.int .u64 s] w' fun e w2 => e = .returned (Tr.key s 0) ∧ Own LB w2 ∧ w2.cell? ⟨bx, 0, none⟩ = some (.pointer (some ⟨p, 0, none⟩)) ∧ w2.cell? ⟨p, 0, none⟩ = some (.slice (some ⟨g, 0, none⟩) N N)) := Lib.hid fun w' h' => (key_any s w').mono fun e w2 ⟨he, hw⟩ => ⟨he, h'.step hw, HCB w2 (h'.step hw)⟩
  have HKC : Hid (∀ w' q, Own (LC q) w' → Calls Try.prog 30 #[.int .u64 s] w' fun e w2 => e = .returned (Tr.key s 0) ∧ Own (LC q) w2 ∧ w2.cell? ⟨bx, 0, none⟩ = some (.pointer (some ⟨p, 0, none⟩)) ∧ w2.cell? ⟨p, 0, none⟩ = some (.slice (some ⟨g, 0, none⟩) N N)) := Lib.hid fun w' q h' => (key_any s w').mono fun e w2 ⟨he, hw⟩ => ⟨he, h'.step hw, HCC w2 q (h'.step hw)⟩
  have HBX := Lib.hid hbx
  have hi' : (i : Int) < (N : Int) := by omega
  have m1 : ((many : Int) == (room : Int)) = false := by simp; omega
  have m2 : (many : Int) ≤ 4096 := by omega
  clear HN HG h1 HC HS HCB HO HF HCC HP HCD hbx hm
  go_enter Try.func17, Try.ntmps17
  go_wp2_with (go_at_call 27; refine (HNN.out _ H1.out).mono ?_; rintro e w' ⟨rfl, rfl⟩)
  refine (HGG.out _ H1.out).mono ?_
  rintro e w2 ⟨rfl, h2⟩
  obtain ⟨c0, c2, c3, f3⟩ := HCA.out _ h2
  have H2 := Lib.hid h2
  rw [← HBX.out] at c0
  clear h2 HNN HGG H1 HCA
  rw [← HBX.out]
  go_wp2_with fail
  go_quiet (fail)
  have h3 := HSS.out _ ((H2.out).step ((Ext.refl w2).drewN nq))
  obtain ⟨w3, e3⟩ : ∃ w3, (w2.drewN nq).setCell ⟨p, 3, none⟩ (.int .i64 ((many : Int) + 1)) = w3 := ⟨_, rfl⟩
  rw [e3] at h3
  obtain ⟨d0, d1⟩ := HCB'.out _ h3
  rw [← HBX.out] at d0
  have H3 := Lib.hid h3
  clear h3 HSS HCB' H2
  go_wp2_with fail
  have hown := H3.out
  go_region_held3 (fun w' => w'.cell? ⟨bx, 0, none⟩ = some (.pointer (some ⟨p, 0, none⟩)) ∧ w'.cell? ⟨p, 0, none⟩ = some (.slice (some ⟨g, 0, none⟩) N N))
    (first | (refine ⟨?_, ?_⟩ <;> assumption) | exact ⟨(Ext.refl w3).drew.cell d0, (Ext.refl w3).drew.cell d1⟩ | go_keep)
    (first
      | (go_at_call 12; go_split_ands; refine (HOO.out _ (by first | assumption | exact (H3.out).step (Ext.refl _).drew)).mono ?_; rintro e w2 ⟨rfl, hz, z0, z1⟩)
      | (go_at_call 33; go_split_ands; refine (HFF.out _ (by first | assumption | exact (H3.out).step (Ext.refl _).drew)).mono ?_; rintro e w2 ⟨q, rfl, hz, z0, z1⟩)
      | (go_at_call 30; go_split_ands; refine (HKB.out _ (by first | assumption | exact (H3.out).step (Ext.refl _).drew)).mono ?_; rintro e w2 ⟨rfl, hz, z0, z1⟩)
      | (go_at_call 30; go_split_ands; refine (HKC.out _ _ (by assumption)).mono ?_; rintro e w2 ⟨rfl, hz, z0, z1⟩)
      | (go_at_call 35; go_split_ands; refine (HPP.out _ _ (by assumption)).mono ?_; rintro e w2 ⟨rfl, hz, z0, z1⟩))
  all_goals go_split_ands
  all_goals go_wp2_with fail
  all_goals go_ret
  all_goals exact ⟨rfl, _, by assumption⟩
end
end Go.Proofs.Ytlficiohenpghaa.Bk
