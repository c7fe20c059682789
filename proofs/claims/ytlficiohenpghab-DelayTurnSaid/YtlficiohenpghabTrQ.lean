/- DERIVED. Layer 6 (tree): a tree that is none; the law TreeNone. -/
import Derived.Test.YtlficiohenpghabTrP
import Derived.LoopN
set_option linter.unusedVariables false
set_option linter.unusedSimpArgs false
set_option maxRecDepth 100000
namespace Go.Proofs.Ytlficiohenpghab.Tr
open Go.RowKit Go.Proofs.Ytlficiohenpghab Go.Proofs.Ytlficiohenpghab.TreeP

/-- a tree that is none, as long as these assertions hold -/
def NilIn (l : List HP) (a : Option Addr) : Prop := ∀ w, Own l w → Calls Try.prog 35 #[.pointer a] w fun e w' => e = .returned (.bool true) ∧ w = w'
theorem nilIn_none (l : List HP) : NilIn l none := by
  intro w h
  clear h
  go_enter Try.func35, Try.ntmps35
  go_wp2
  go_ret
  exact ⟨rfl, rfl⟩
abbrev zeroT : Array Value := #[.slice none 0 0, .slice none 0 0, .int .i64 0, .int .i64 0, .int .i64 0]
theorem nilIn_zero (l : List HP) (b : Nat) (hm : Blk b zeroT 83 ∈ l) : NilIn l (some ⟨b, 0, none⟩) := by
  intro w h
  have hb := Own.blk h hm
  have c0 : w.cell? ⟨b, 0, none⟩ = some (.slice none 0 0) := by simp [World.cell?, hb]
  have he : ∀ w : World, (binOp .eql 81 (.slice none 0 0) (.slice none 0 0)).run Try.prog w = .ok (.bool true) w := fun _ => rfl
  clear h hb
  go_enter Try.func35, Try.ntmps35
  go_wp2
  go_ret
  exact ⟨rfl, rfl⟩
section
variable {l : List HP} {a : Option Addr} {w : World}
theorem nil_put (hn : NilIn l a) (h : Own l w) (x s v : Int) :
    Calls Try.prog 29 #[.pointer a, .agg #[.int .u64 x, .int .u64 s], .int .i64 v] w fun e w' => e = .returned (.int .i64 1) ∧ Own l w' := by
  have H := Lib.hid (h.step ((Ext.refl w).alloc (.cells #[.int .u64 x, .int .u64 s] 68)))
  have HN := Lib.hid hn
  clear h hn
  go_enter Try.func29, Try.ntmps29
  go_wp2_with (go_at_call 35; refine (HN.out _ H.out).mono ?_; rintro e w' ⟨rfl, rfl⟩)
  go_ret
  exact ⟨rfl, H.out⟩
theorem nil_drop (hn : NilIn l a) (h : Own l w) (x s : Int) :
    Calls Try.prog 30 #[.pointer a, .agg #[.int .u64 x, .int .u64 s]] w fun e w' => e = .returned (.tuple #[.int .i64 0, .bool false]) ∧ Own l w' := by
  have H := Lib.hid (h.step ((Ext.refl w).alloc (.cells #[.int .u64 x, .int .u64 s] 68)))
  have HN := Lib.hid hn
  clear h hn
  go_enter Try.func30, Try.ntmps30
  go_wp2_with (go_at_call 35; refine (HN.out _ H.out).mono ?_; rintro e w' ⟨rfl, rfl⟩)
  go_ret2
  exact ⟨rfl, H.out⟩
theorem nil_get (hn : NilIn l a) (h : Own l w) (x s : Int) :
    Calls Try.prog 49 #[.pointer a, .agg #[.int .u64 x, .int .u64 s]] w fun e w' => e = .returned (.tuple #[.int .i64 0, .bool false]) ∧ Own l w' := by
  have H := Lib.hid (h.step ((Ext.refl w).alloc (.cells #[.int .u64 x, .int .u64 s] 68)))
  have HN := Lib.hid hn
  clear h hn
  go_enter Try.func49, Try.ntmps49
  go_wp2_with (go_at_call 35; refine (HN.out _ H.out).mono ?_; rintro e w' ⟨rfl, rfl⟩)
  go_ret2
  exact ⟨rfl, H.out⟩
theorem nil_len (hn : NilIn l a) (h : Own l w) :
    Calls Try.prog 34 #[.pointer a] w fun e w' => e = .returned (.int .i64 0) ∧ Own l w' := by
  have H := Lib.hid h
  have HN := Lib.hid hn
  clear h hn
  go_enter Try.func34, Try.ntmps34
  go_wp2_with (go_at_call 35; refine (HN.out _ H.out).mono ?_; rintro e w' ⟨rfl, rfl⟩)
  go_ret
  exact ⟨rfl, H.out⟩
theorem nil_first (hn : NilIn l a) (h : Own l w) :
    Calls Try.prog 33 #[.pointer a] w fun e w' => e = .returned (.tuple #[.agg #[.int .u64 0, .int .u64 0, .int .i64 0], .bool false]) ∧ Own l w' := by
  have H := Lib.hid (h.step ((Ext.refl w).alloc (.cells #[.int .u64 0, .int .u64 0, .int .i64 0] 78)))
  have HN := Lib.hid hn
  clear h hn
  go_enter Try.func33, Try.ntmps33
  go_wp2_with (go_at_call 35; refine (HN.out _ H.out).mono ?_; rintro e w' ⟨rfl, rfl⟩)
  exact bodyPost_ret (v := .tuple #[ent 0 0 0, .bool false]) (by simp [results, Try.results33, go_sem]) rfl ⟨rfl, H.out⟩
theorem nil_next (hn : NilIn l a) (h : Own l w) (x s : Int) :
    Calls Try.prog 52 #[.pointer a, .agg #[.int .u64 x, .int .u64 s]] w fun e w' => e = .returned (.tuple #[.agg #[.int .u64 0, .int .u64 0, .int .i64 0], .bool false]) ∧ Own l w' := by
  have H := Lib.hid (h.step (((Ext.refl w).alloc (.cells #[.int .u64 x, .int .u64 s] 68)).alloc (.cells #[.int .u64 0, .int .u64 0, .int .i64 0] 78)))
  have HN := Lib.hid hn
  clear h hn
  go_enter Try.func52, Try.ntmps52
  go_wp2_with (go_at_call 35; refine (HN.out _ H.out).mono ?_; rintro e w' ⟨rfl, rfl⟩)
  exact bodyPost_ret (v := .tuple #[ent 0 0 0, .bool false]) (by simp [results, Try.results52, go_sem]) rfl ⟨rfl, H.out⟩
end
theorem Own.blk2 {l : List HP} {w : World} {b : Nat} {x y : Value} {t : TypeId} (h : Own l w) (hm : Blk b #[x, y] t ∈ l) :
    w.cell? ⟨b, 0, none⟩ = some x ∧ w.cell? ⟨b, 1, none⟩ = some y := by
  simp [World.cell?, Own.blk h hm]
end Go.Proofs.Ytlficiohenpghab.Tr
