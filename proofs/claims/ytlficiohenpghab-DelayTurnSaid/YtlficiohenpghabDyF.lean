/- DERIVED. Layer 19 (delay): the chapter's examples. -/
import Derived.Test.YtlficiohenpghabDyE
set_option linter.unusedVariables false
set_option linter.unusedSimpArgs false
set_option maxRecDepth 100000
namespace Go.Proofs.Ytlficiohenpghab.Dy
open Go.RowKit Go.Maps Go.Proofs.Ytlficiohenpghab Go.Proofs.Ytlficiohenpghab.TreeP Go.Proofs.Ytlficiohenpghab.Tr Go.Proofs.Ytlficiohenpghab.Wk

section
variable {p n q : Nat} {E E' : List En} {l : List HP} {w : World}
theorem put_ok' {f at' : Int} {q' : Nat} (h : DO p n q E l w) (hf : (Lit.int .i64 f).wf = true) (f0 : 0 ≤ f) (fn : f < (n : Int)) (a0 : 0 ≤ at') (a1 : at' < 18446744073709551616) (hw : who E f = none) (hq : q < 5000) (hlen : E.length ≠ n) (hq' : q + 1 = q') (hE : ins E (at', (q : Int)) f = E') :
    Calls Try.prog 12 #[.pointer (some ⟨p, 0, none⟩), .int .i64 f, .int .u64 at'] w fun e w' => e = .returned (.int .i64 0) ∧ DO p n q' E' l w' := by
  subst hE hq'
  exact own_put_ok h f at' hf f0 fn a0 a1 hw hq hlen
theorem wake' {now most : Int} {M : List En} (h : DO p n q E l w) (hm1 : most < 9223372036854775808) (hM : (uptoL E now).take most.toNat = M) (hE : E.drop M.length = E') :
    Calls Try.prog 16 #[.pointer (some ⟨p, 0, none⟩), .int .u64 now, .int .i64 most] w fun e w' => ∃ a c, e = .returned (.slice a M.length c) ∧ DO p n q E' (RI (.slice a M.length c) M :: l) w' := by
  subst hE
  refine (own_wake h now most hm1 M hM).mono ?_
  rintro e w' ⟨v, rfl, h'⟩
  obtain ⟨a, c, rfl⟩ := h'.rest.rowR.slice
  exact ⟨a, c, rfl, h'⟩
theorem next' {x : Int} {b : Bool} (h : DO p n q E l w) (h1 : (E.head?.map (·.1.1)).getD 0 = x) (h2 : E.head?.isSome = b) :
    Calls Try.prog 21 #[.pointer (some ⟨p, 0, none⟩)] w fun e w' => e = .returned (.tuple #[.int .u64 x, .bool b]) ∧ DO p n q E l w' := by
  subst h1 h2
  exact own_next h
end
theorem cell_new (w : World) (cs : Array Value) (t : TypeId) (i : Nat) (v : Value) (h : cs[i]? = some v) : (w.alloc (.cells cs t)).cell? ⟨w.heap.size, 0 + i, none⟩ = some v := by
  have hb := heap_alloc_new w (.cells cs t)
  rw [Nat.zero_add]
  unfold World.cell?
  simp only [hb]
  exact h
set_option maxHeartbeats 4000000 in
theorem awake_any {l : List HP} {w : World} (h : Own l w) :
    Calls Try.prog 11 #[] w fun e w' => e = .returned (.bool true) ∧ Own l w' := by
  have HN := Lib.hid (own_new 3 (by omega) (by omega) h)
  clear h
  go_enter Try.func11, Try.ntmps11
  go_wp2_with fail
  refine (HN.out).mono ?_
  rintro e w1 ⟨p, rfl, h1⟩
  have HP := Lib.hid (put_ok' (f := 2) (at' := 9) (q' := 1) (E' := [((9, 0), 2)]) h1 (by decide) (by decide) (by decide) (by decide) (by decide) (by decide) (by decide) (by decide) rfl (by decide))
  clear h1 HN
  go_wp2_with fail
  refine (HP.out).mono ?_
  rintro e w2 ⟨rfl, h2⟩
  have HP := Lib.hid (put_ok' (f := 0) (at' := 5) (q' := 2) (E' := [((5, 1), 0), ((9, 0), 2)]) h2 (by decide) (by decide) (by decide) (by decide) (by decide) (by decide) (by decide) (by decide) rfl (by decide))
  clear h2
  go_wp2_with fail
  refine (HP.out).mono ?_
  rintro e w3 ⟨rfl, h3⟩
  have HP := Lib.hid (put_ok' (f := 1) (at' := 5) (q' := 3) (E' := [((5, 1), 0), ((5, 2), 1), ((9, 0), 2)]) h3 (by decide) (by decide) (by decide) (by decide) (by decide) (by decide) (by decide) (by decide) rfl (by decide))
  clear h3
  go_wp2_with fail
  refine (HP.out).mono ?_
  rintro e w4 ⟨rfl, h4⟩
  have HP := Lib.hid (next' (x := 5) (b := true) h4 rfl rfl)
  clear h4
  go_wp2_with fail
  refine (HP.out).mono ?_
  rintro e w5 ⟨rfl, h5⟩
  have HP := Lib.hid (wake' (now := 4) (most := 9) (M := []) (E' := [((5, 1), 0), ((5, 2), 1), ((9, 0), 2)]) h5 (by decide) (by decide) rfl)
  clear h5
  go_wp2_with fail
  refine (HP.out).mono ?_
  rintro e w6 ⟨a5, c5, rfl, h6⟩
  have HP := Lib.hid (wake' (now := 5) (most := 1) (M := [((5, 1), 0)]) (E' := [((5, 2), 1), ((9, 0), 2)]) h6 (by decide) (by decide) rfl)
  clear h6
  go_wp2_with fail
  refine (HP.out).mono ?_
  rintro e w7 ⟨a6, c6, rfl, h7⟩
  have HP := Lib.hid (wake' (now := 20) (most := 9) (M := [((5, 2), 1), ((9, 0), 2)]) (E' := []) h7 (by decide) (by decide) rfl)
  clear h7
  go_wp2_with fail
  refine (HP.out).mono ?_
  rintro e w8 ⟨a7, c7, rfl, h8⟩
  have HP := Lib.hid (put_ok' (f := 0) (at' := 1) (q' := 4) (E' := [((1, 3), 0)]) h8 (by decide) (by decide) (by decide) (by decide) (by decide) (by decide) (by decide) (by decide) rfl (by decide))
  clear h8
  go_wp2_with fail
  refine (HP.out).mono ?_
  rintro e w9 ⟨rfl, h9⟩
  have HP := Lib.hid (own_put_in h9 0 2 (by decide) (by decide) (by decide) (1, 3) (by decide))
  clear h9
  go_wp2_with fail
  refine (HP.out).mono ?_
  rintro e w10 ⟨rfl, h10⟩
  have H10 := Lib.hid h10
  clear h10 HP
  go_wp2_with fail
  refine (new_bad 0 (.inl (by decide))).mono ?_
  rintro e w11 ⟨rfl, rfl⟩
  have hr := H10.out.rest
  have HI1 : Hid (∀ c, Calls Try.prog 18 #[.slice a6 1 c6, .slice (some ⟨w10.heap.size, 0, none⟩) 1 c] (w10.alloc (.cells #[.int .i64 0] 3)) fun e w' => e = .returned (.bool true) ∧ Ext (w10.alloc (.cells #[.int .i64 0] 3)) w') := Lib.hid fun c => by
    have h1 := hr.swap.step ((Ext.refl w10).alloc (.cells #[.int .i64 0] 3))
    exact ints_any (X := [0]) (Y := [0]) rfl rfl (ri_is h1.rowR) ⟨_, _, rfl, fun _ => ⟨_, _, rfl, fun i x hi => by
      rcases i with _ | i
      · simp at hi
        subst hi
        exact cell_new _ _ _ _ _ rfl
      · simp at hi⟩⟩ (by decide) (by decide) (by decide)
  have HI2 : Hid (∀ (c : Nat) (w' : World), Ext w10 w' → Calls Try.prog 18 #[.slice a7 2 c7, .slice (some ⟨w'.heap.size, 0, none⟩) 2 c] (w'.alloc (.cells #[.int .i64 1, .int .i64 2] 3)) fun e w2 => e = .returned (.bool true) ∧ Ext (w'.alloc (.cells #[.int .i64 1, .int .i64 2] 3)) w2) := Lib.hid fun c w' hx => by
    have h1 := (hr.step hx).step ((Ext.refl w').alloc (.cells #[.int .i64 1, .int .i64 2] 3))
    exact ints_any (X := [1, 2]) (Y := [1, 2]) rfl rfl (ri_is h1.rowR) ⟨_, _, rfl, fun _ => ⟨_, _, rfl, fun i x hi => by
      rcases i with _ | _ | i
      · simp at hi
        subst hi
        exact cell_new _ _ _ _ _ rfl
      · simp at hi
        subst hi
        exact cell_new _ _ _ _ _ rfl
      · simp at hi⟩⟩ (by decide) (by decide) (by decide)
  clear hr
  go_wp2_with fail
  refine (HI1.out _).mono ?_
  rintro e w12 ⟨rfl, hx⟩
  have hx2 : Ext w10 w12 := ((Ext.refl w10).alloc _).trans hx
  have HX2 := Lib.hid hx2
  clear hx hx2 HI1
  go_wp2_with fail
  refine (HI2.out _ _ HX2.out).mono ?_
  rintro e w13 ⟨rfl, hx⟩
  have hx3 : Ext w10 w13 := (HX2.out.trans ((Ext.refl w12).alloc _)).trans hx
  have HP := Lib.hid (own_put_arg (H10.out.step hx3) 3 1 (by decide) (.inr (by decide)))
  clear hx hx3 HI2 HX2
  go_wp2_with fail
  refine (HP.out).mono ?_
  rintro e w14 ⟨rfl, h14⟩
  have H14 := Lib.hid h14.rest
  clear h14 HP H10
  go_wp2_with fail
  go_ret
  exact ⟨rfl, H14.out.drop.drop.drop⟩
end Go.Proofs.Ytlficiohenpghab.Dy
