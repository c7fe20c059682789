/- DERIVED. Layer 6 (tree): a tree that is none; the law TreeNone. -/
import Derived.Test.YtekdahppacghbabTrP
import Derived.LoopN
set_option linter.unusedVariables false
set_option linter.unusedSimpArgs false
set_option maxRecDepth 100000
namespace Go.Proofs.Ytekdahppacghbab.Tr
open Go.RowKit Go.Proofs.Ytekdahppacghbab Go.Proofs.Ytekdahppacghbab.TreeP

/-- a tree that is none, as long as these assertions hold -/
def NilIn (l : List HP) (a : Option Addr) : Prop := ∀ w, Own l w → Calls Try.prog 36 #[.pointer a] w fun e w' => e = .returned (.bool true) ∧ w = w'
theorem nilIn_none (l : List HP) : NilIn l none := by
  intro w h
  clear h
  go_enter Try.func36, Try.ntmps36
  go_wp2
  go_ret
  exact ⟨rfl, rfl⟩
abbrev zeroT : Array Value := #[.slice none 0 0, .slice none 0 0, .int .i64 0, .int .i64 0, .int .i64 0]
theorem nilIn_zero (l : List HP) (b : Nat) (hm : Blk b zeroT 34 ∈ l) : NilIn l (some ⟨b, 0, none⟩) := by
  intro w h
  have hb := Own.blk h hm
  have c0 : w.cell? ⟨b, 0, none⟩ = some (.slice none 0 0) := by simp [World.cell?, hb]
  have he : ∀ w : World, (binOp .eql 31 (.slice none 0 0) (.slice none 0 0)).run Try.prog w = .ok (.bool true) w := fun _ => rfl
  clear h hb
  go_enter Try.func36, Try.ntmps36
  go_wp2
  go_ret
  exact ⟨rfl, rfl⟩
section
variable {l : List HP} {a : Option Addr} {w : World}
theorem nil_put (hn : NilIn l a) (h : Own l w) (x s v : Int) :
    Calls Try.prog 21 #[.pointer a, .agg #[.int .u64 x, .int .u64 s], .int .i64 v] w fun e w' => e = .returned (.int .i64 1) ∧ Own l w' := by
  have H := Lib.hid (h.step ((Ext.refl w).alloc (.cells #[.int .u64 x, .int .u64 s] 24)))
  have HN := Lib.hid hn
  clear h hn
  go_enter Try.func21, Try.ntmps21
  go_wp2_with (go_at_call 36; refine (HN.out _ H.out).mono ?_; rintro e w' ⟨rfl, rfl⟩)
  go_ret
  exact ⟨rfl, H.out⟩
theorem nil_drop (hn : NilIn l a) (h : Own l w) (x s : Int) :
    Calls Try.prog 22 #[.pointer a, .agg #[.int .u64 x, .int .u64 s]] w fun e w' => e = .returned (.tuple #[.int .i64 0, .bool false]) ∧ Own l w' := by
  have H := Lib.hid (h.step ((Ext.refl w).alloc (.cells #[.int .u64 x, .int .u64 s] 24)))
  have HN := Lib.hid hn
  clear h hn
  go_enter Try.func22, Try.ntmps22
  go_wp2_with (go_at_call 36; refine (HN.out _ H.out).mono ?_; rintro e w' ⟨rfl, rfl⟩)
  go_ret2
  exact ⟨rfl, H.out⟩
theorem nil_get (hn : NilIn l a) (h : Own l w) (x s : Int) :
    Calls Try.prog 48 #[.pointer a, .agg #[.int .u64 x, .int .u64 s]] w fun e w' => e = .returned (.tuple #[.int .i64 0, .bool false]) ∧ Own l w' := by
  have H := Lib.hid (h.step ((Ext.refl w).alloc (.cells #[.int .u64 x, .int .u64 s] 24)))
  have HN := Lib.hid hn
  clear h hn
  go_enter Try.func48, Try.ntmps48
  go_wp2_with (go_at_call 36; refine (HN.out _ H.out).mono ?_; rintro e w' ⟨rfl, rfl⟩)
  go_ret2
  exact ⟨rfl, H.out⟩
theorem nil_len (hn : NilIn l a) (h : Own l w) :
    Calls Try.prog 33 #[.pointer a] w fun e w' => e = .returned (.int .i64 0) ∧ Own l w' := by
  have H := Lib.hid h
  have HN := Lib.hid hn
  clear h hn
  go_enter Try.func33, Try.ntmps33
  go_wp2_with (go_at_call 36; refine (HN.out _ H.out).mono ?_; rintro e w' ⟨rfl, rfl⟩)
  go_ret
  exact ⟨rfl, H.out⟩
theorem nil_all (hn : NilIn l a) (h : Own l w) :
    Calls Try.prog 19 #[.pointer a] w fun e w' => e = .returned (.slice none 0 0) ∧ Own l w' := by
  have H := Lib.hid h
  have HN := Lib.hid hn
  clear h hn
  go_enter Try.func19, Try.ntmps19
  go_wp2_with (go_at_call 36; refine (HN.out _ H.out).mono ?_; rintro e w' ⟨rfl, rfl⟩)
  go_ret
  exact ⟨rfl, H.out⟩
theorem nil_next (hn : NilIn l a) (h : Own l w) (x s : Int) :
    Calls Try.prog 46 #[.pointer a, .agg #[.int .u64 x, .int .u64 s]] w fun e w' => e = .returned (.tuple #[.agg #[.int .u64 0, .int .u64 0, .int .i64 0], .bool false]) ∧ Own l w' := by
  have H := Lib.hid (h.step (((Ext.refl w).alloc (.cells #[.int .u64 x, .int .u64 s] 24)).alloc (.cells #[.int .u64 0, .int .u64 0, .int .i64 0] 49)))
  have HN := Lib.hid hn
  clear h hn
  go_enter Try.func46, Try.ntmps46
  go_wp2_with (go_at_call 36; refine (HN.out _ H.out).mono ?_; rintro e w' ⟨rfl, rfl⟩)
  exact bodyPost_ret (v := .tuple #[ent 0 0 0, .bool false]) (by simp [results, Try.results46, go_sem]) rfl ⟨rfl, H.out⟩
end
theorem Own.blk2 {l : List HP} {w : World} {b : Nat} {x y : Value} {t : TypeId} (h : Own l w) (hm : Blk b #[x, y] t ∈ l) :
    w.cell? ⟨b, 0, none⟩ = some x ∧ w.cell? ⟨b, 1, none⟩ = some y := by
  simp [World.cell?, Own.blk h hm]
end Go.Proofs.Ytekdahppacghbab.Tr
