/- DERIVED. Layer 13 (bucket): contracts of Get, Drop, In. -/
import Derived.Test.YtlficiohenpghaaBkA
set_option linter.unusedVariables false
set_option linter.unusedSimpArgs false
set_option maxRecDepth 100000
namespace Go.Proofs.Ytlficiohenpghaa.Bk
open Go.RowKit Go.Proofs.Ytlficiohenpghaa Go.Proofs.Ytlficiohenpghaa.TreeP

section
variable {p g bits room many : Nat} {L : List Slot} {l : List HP} {w : World}
/-- the walk of Get, over whatever is owned -/
theorem get_walk {LL : List HP} {a : Option Addr} {g i N : Nat} (s x : Int) (b : Bool) (hi : i < N)
    (HN : ∀ w', Own LL w' → Calls Try.prog 27 #[.pointer (some ⟨p, 0, none⟩)] w' fun e w2 => e = .returned (.bool false) ∧ w' = w2)
    (HC : ∀ w', Own LL w' → w'.cell? ⟨p, 0, none⟩ = some (.slice (some ⟨g, 0, none⟩) N N) ∧ w'.cell? ⟨g, i, none⟩ = some (.pointer a))
    (HO : ∀ w', Own LL w' → Calls Try.prog 12 #[.pointer (some ⟨p, 0, none⟩), .int .u64 s] w' fun e w2 => e = .returned (.int .i64 (i : Int)) ∧ Own LL w2)
    (HG : ∀ w', Own LL w' → Calls Try.prog 29 #[.pointer a, Tr.key s 0] w' fun e w2 => e = .returned (.tuple #[.int .i64 x, .bool b]) ∧ Own LL w2)
    (h : Own LL w) : Calls Try.prog 11 #[.pointer (some ⟨p, 0, none⟩), .int .u64 s] w fun e w' => e = .returned (.tuple #[.int .i64 x, .bool b]) ∧ Own LL w' := by
  have HNN := Lib.hid HN
  have HCC := Lib.hid HC
  have HOO : Hid (∀ w', Own LL w' → Calls Try.prog 12 #[.pointer (some ⟨p, 0, none⟩), .int .u64 s] w' fun e w2 => e = .returned (.int .i64 (i : Int)) ∧ Own LL w2 ∧ w2.cell? ⟨p, 0, none⟩ = some (.slice (some ⟨g, 0, none⟩) N N) ∧ w2.cell? ⟨g, i, none⟩ = some (.pointer a)) := Lib.hid fun w' h' => (HO w' h').mono fun e w2 ⟨he, hw⟩ => ⟨he, hw, HC w2 hw⟩
  have HGG : Hid (∀ w', Own LL w' → Calls Try.prog 29 #[.pointer a, Tr.key s 0] w' fun e w2 => e = .returned (.tuple #[.int .i64 x, .bool b]) ∧ Own LL w2 ∧ w2.cell? ⟨p, 0, none⟩ = some (.slice (some ⟨g, 0, none⟩) N N) ∧ w2.cell? ⟨g, i, none⟩ = some (.pointer a)) := Lib.hid fun w' h' => (HG w' h').mono fun e w2 ⟨he, hw⟩ => ⟨he, hw, HC w2 hw⟩
  have HKK : Hid (∀ w', Own LL w' → Calls Try.prog 30 #[.int .u64 s] w' fun e w2 => e = .returned (Tr.key s 0) ∧ Own LL w2 ∧ w2.cell? ⟨p, 0, none⟩ = some (.slice (some ⟨g, 0, none⟩) N N) ∧ w2.cell? ⟨g, i, none⟩ = some (.pointer a)) := Lib.hid fun w' h' => (key_any s w').mono fun e w2 ⟨he, hw⟩ => ⟨he, h'.step hw, HC w2 (h'.step hw)⟩
  obtain ⟨c0, c1⟩ := HC w h
  have H := Lib.hid h
  have hi' : (i : Int) < (N : Int) := by omega
  clear HN HC HO HG h
  go_enter Try.func11, Try.ntmps11
  go_wp2_with (go_at_call 27; refine (HNN.out _ H.out).mono ?_; rintro e w' ⟨rfl, rfl⟩)
  have hown := H.out
  go_region_held3 (fun w' => Own LL w' ∧ w'.cell? ⟨p, 0, none⟩ = some (.slice (some ⟨g, 0, none⟩) N N) ∧ w'.cell? ⟨g, i, none⟩ = some (.pointer a))
    (first | exact ⟨(H.out).step (Ext.refl _).drew, (Ext.refl _).drew.cell c0, (Ext.refl _).drew.cell c1⟩ | (refine ⟨?_, ?_, ?_⟩ <;> assumption))
    (first
      | (go_at_call 12; go_split_ands; refine (HOO.out _ (by assumption)).mono ?_; rintro e w2 ⟨rfl, hz, z0, z1⟩)
      | (go_at_call 30; go_split_ands; refine (HKK.out _ (by assumption)).mono ?_; rintro e w2 ⟨rfl, hz, z0, z1⟩)
      | (go_at_call 29; go_split_ands; refine (HGG.out _ (by assumption)).mono ?_; rintro e w2 ⟨rfl, hz, z0, z1⟩))
  all_goals go_split_ands
  all_goals have HZ := Lib.hid (show Own LL _ by assumption)
  all_goals go_wp2_with fail
  all_goals go_ret2
  all_goals exact ⟨rfl, HZ.out⟩
/-- the walk of Drop, over whatever is owned -/
theorem drop_walk {LL L2 L3 : List HP} {a : Option Addr} {g i N many : Nat} (s x : Int) (b : Bool) (hi : i < N) (hm : b = true → 1 ≤ many) (hm2 : many ≤ 4096)
    (HN : ∀ w', Own LL w' → Calls Try.prog 27 #[.pointer (some ⟨p, 0, none⟩)] w' fun e w2 => e = .returned (.bool false) ∧ w' = w2)
    (HC : ∀ w', Own LL w' → w'.cell? ⟨p, 0, none⟩ = some (.slice (some ⟨g, 0, none⟩) N N) ∧ w'.cell? ⟨g, i, none⟩ = some (.pointer a))
    (HC2 : ∀ w', Own L2 w' → w'.cell? ⟨p, 0, none⟩ = some (.slice (some ⟨g, 0, none⟩) N N) ∧ w'.cell? ⟨g, i, none⟩ = some (.pointer a) ∧ w'.cell? ⟨p, 3, none⟩ = some (.int .i64 (many : Int)) ∧ w'.frozen? ⟨p, 3, none⟩ = false)
    (HO : ∀ w', Own LL w' → Calls Try.prog 12 #[.pointer (some ⟨p, 0, none⟩), .int .u64 s] w' fun e w2 => e = .returned (.int .i64 (i : Int)) ∧ Own LL w2)
    (HG : ∀ w', Own LL w' → Calls Try.prog 32 #[.pointer a, Tr.key s 0] w' fun e w2 => e = .returned (.tuple #[.int .i64 x, .bool b]) ∧ Own L2 w2)
    (HS : ∀ w', Own L2 w' → if b then Own L3 (w'.setCell ⟨p, 3, none⟩ (.int .i64 ((many : Int) - 1))) else Own L3 w')
    (h : Own LL w) : Calls Try.prog 16 #[.pointer (some ⟨p, 0, none⟩), .int .u64 s] w fun e w' => e = .returned (.tuple #[.int .i64 x, .bool b]) ∧ Own L3 w' := by
  have HNN := Lib.hid HN
  have HOO : Hid (∀ w', Own LL w' → Calls Try.prog 12 #[.pointer (some ⟨p, 0, none⟩), .int .u64 s] w' fun e w2 => e = .returned (.int .i64 (i : Int)) ∧ Own LL w2 ∧ w2.cell? ⟨p, 0, none⟩ = some (.slice (some ⟨g, 0, none⟩) N N) ∧ w2.cell? ⟨g, i, none⟩ = some (.pointer a)) := Lib.hid fun w' h' => (HO w' h').mono fun e w2 ⟨he, hw⟩ => ⟨he, hw, HC w2 hw⟩
  have HGG : Hid (∀ w', Own LL w' → Calls Try.prog 32 #[.pointer a, Tr.key s 0] w' fun e w2 => e = .returned (.tuple #[.int .i64 x, .bool b]) ∧ Own L2 w2 ∧ w2.cell? ⟨p, 0, none⟩ = some (.slice (some ⟨g, 0, none⟩) N N) ∧ w2.cell? ⟨g, i, none⟩ = some (.pointer a)) := Lib.hid fun w' h' => (HG w' h').mono fun e w2 ⟨he, hw⟩ => ⟨he, hw, (HC2 w2 hw).1, (HC2 w2 hw).2.1⟩
  have HKK : Hid (∀ w', Own LL w' → Calls Try.prog 30 #[.int .u64 s] w' fun e w2 => e = .returned (Tr.key s 0) ∧ Own LL w2 ∧ w2.cell? ⟨p, 0, none⟩ = some (.slice (some ⟨g, 0, none⟩) N N) ∧ w2.cell? ⟨g, i, none⟩ = some (.pointer a)) := Lib.hid fun w' h' => (key_any s w').mono fun e w2 ⟨he, hw⟩ => ⟨he, h'.step hw, HC w2 (h'.step hw)⟩
  have HC3 := Lib.hid HC2
  have HSS := Lib.hid HS
  have HM := Lib.hid hm
  obtain ⟨c0, c1⟩ := HC w h
  have H := Lib.hid h
  have hi' : (i : Int) < (N : Int) := by omega
  clear HN HC HO HG h HC2 HS hm
  go_enter Try.func16, Try.ntmps16
  go_wp2_with (go_at_call 27; refine (HNN.out _ H.out).mono ?_; rintro e w' ⟨rfl, rfl⟩)
  have hown := H.out
  go_region_held3 (fun w' => w'.cell? ⟨p, 0, none⟩ = some (.slice (some ⟨g, 0, none⟩) N N) ∧ w'.cell? ⟨g, i, none⟩ = some (.pointer a))
    (first | exact ⟨(Ext.refl _).drew.cell c0, (Ext.refl _).drew.cell c1⟩ | (refine ⟨?_, ?_⟩ <;> assumption))
    (first
      | (go_at_call 12; go_split_ands; refine (HOO.out _ (by first | assumption | exact (H.out).step (Ext.refl _).drew)).mono ?_; rintro e w2 ⟨rfl, hz, z0, z1⟩)
      | (go_at_call 30; go_split_ands; refine (HKK.out _ (by first | assumption | exact (H.out).step (Ext.refl _).drew)).mono ?_; rintro e w2 ⟨rfl, hz, z0, z1⟩)
      | (go_at_call 32; go_split_ands; refine (HGG.out _ (by assumption)).mono ?_; rintro e w2 ⟨rfl, hz, z0, z1⟩))
  all_goals go_split_ands
  all_goals have HZ := Lib.hid (show Own L2 _ by assumption)
  all_goals obtain ⟨y0, y1, y2, y3⟩ := HC3.out _ HZ.out
  all_goals have HW := Lib.hid (HSS.out _ HZ.out)
  all_goals clear HNN HOO HGG HKK HC3 HSS
  all_goals cases b
  all_goals (try have hm1 := HM.out rfl)
  all_goals clear HM
  all_goals go_wp2_with fail
  all_goals go_ret2
  all_goals exact ⟨rfl, HW.out⟩
end
end Go.Proofs.Ytlficiohenpghaa.Bk
