/- DERIVED. Layer 6 (tree): a tree with those of its nodes that are free; contract of Put, the ways on which nothing is put. -/
import Derived.Test.YtkdmlpigkmlkmaaTrF
import Derived.Test.YtkdmlpigkmlkmaaOwn
import Derived.Deep.CutRange
set_option linter.unusedVariables false
set_option linter.unusedSimpArgs false
set_option maxRecDepth 100000
namespace Go.Proofs.Ytkdmlpigkmlkmaa.Tr
open Go.RowKit Go.Proofs.Ytkdmlpigkmlkmaa Go.Proofs.Ytkdmlpigkmlkmaa.TreeP

def ints (l : List Nat) : List Value := l.map fun (n : Nat) => .int .i64 n
theorem ints_len (l : List Nat) : (ints l).length = l.length := by simp [ints]
theorem ints_at (l : List Nat) (j : Nat) (h : j < l.length) : (ints l)[j]? = some (.int .i64 ((l.getD j 0 : Nat) : Int)) := by simp [ints, h, List.getD]
/-- a tree, and its free nodes -/
structure TL (p g cap : Nat) (fr : Value) (free : List Nat) (many room : Nat) (S : TS) (w : World) : Prop where
  tw : TW p g cap fr many room S w
  fe : w.ownsRow 0 3 1 fr free.length (ints free)
  fp : fr.ownBlock ≠ some p
  fg : fr.ownBlock ≠ some g
def foot (p g : Nat) (fr : Value) (b : Nat) : Prop := b = p ∨ b = g ∨ fr.ownBlock = some b
abbrev key (a s : Int) : Value := .agg #[.int .u64 a, .int .u64 s]
section
variable {p g cap many room : Nat} {fr : Value} {free : List Nat} {S : TS} {w : World}
theorem TL.st {S' : TS} {w' : World} (h : TL p g cap fr free many room S w) (t : TW p g cap fr many room S' w') (k : St p g w w') : TL p g cap fr free many room S' w' :=
  ⟨t, ownsRow_keep h.fe (fun b hb => k.block b (h.fe.lt b hb).2 (fun e => by
    rcases e with rfl | rfl
    · exact h.fp hb
    · exact h.fg hb)), h.fp, h.fg⟩
theorem TL.ext {w' : World} (h : TL p g cap fr free many room S w) (k : Ext w w') : TL p g cap fr free many room S w' :=
  ⟨h.tw.ext k, ownsRow_keep h.fe (fun b hb => k.block b (h.fe.lt b hb).2), h.fp, h.fg⟩
theorem TL.drewN (h : TL p g cap fr free many room S w) (n : Nat) : TL p g cap fr free many room S (w.drewN n) := h.ext ((Ext.refl w).drewN n)
theorem put_have (h : TL p g cap fr free many room S w) (hr : Rng S) (a s v : Int) (x l : Nat) (hx : x ≠ 0) (hf : ∃ k, TreeP.find k S (a, s) S.root 0 = some (x, l)) :
    Calls Try.prog 84 #[.pointer (some ⟨p, 0, none⟩), key a s, .int .i64 v] w fun e w' => e = .returned (.int .i64 60) ∧ TL p g cap fr free many room S w' ∧ Ext w w' := by
  have e1 := (Ext.refl w).alloc (.cells #[.int .u64 a, .int .u64 s] 130)
  have HF := Lib.hid (find_any (h.tw.ext e1) hr a s (x, l) hf)
  have HT := Lib.hid (h.tw.ext e1)
  have E1 := Lib.hid e1
  have H := Lib.hid h
  have x2 : ((x : Int) != 0) = true := by simp; omega
  clear h e1 hf
  go_enter Try.func84, Try.ntmps84
  go_wp2_with (first
    | (go_at_call 91; refine (no_any HT.out).mono ?_; rintro e w' ⟨rfl, rfl⟩)
    | (go_at_call 92; refine (HF.out).mono ?_; rintro e w2 ⟨rfl, h2, hx2⟩))
  go_ret
  exact ⟨rfl, (H.out.ext E1.out).ext hx2, E1.out.trans hx2⟩
theorem put_full (h : TL p g cap fr free many room S w) (hr : Rng S) (a s v : Int) (l : Nat) (hm : many = room) (hf : ∃ k, TreeP.find k S (a, s) S.root 0 = some (0, l)) :
    Calls Try.prog 84 #[.pointer (some ⟨p, 0, none⟩), key a s, .int .i64 v] w fun e w' => e = .returned (.int .i64 4) ∧ TL p g cap fr free many room S w' ∧ Ext w w' := by
  subst hm
  have e1 := (Ext.refl w).alloc (.cells #[.int .u64 a, .int .u64 s] 130)
  have HF := Lib.hid (find_any (h.tw.ext e1) hr a s (0, l) hf)
  have HT := Lib.hid (h.tw.ext e1)
  have E1 := Lib.hid e1
  have H := Lib.hid h
  clear h e1 hf
  go_enter Try.func84, Try.ntmps84
  go_wp2_with (first
    | (go_at_call 91; refine (no_any HT.out).mono ?_; rintro e w' ⟨rfl, rfl⟩)
    | (go_at_call 92; refine (HF.out).mono ?_; rintro e w2 ⟨rfl, h2, hx2⟩; have c3 := h2.c3; have c4 := h2.c4))
  go_quiet (fail)
  go_wp2_with fail
  go_ret
  exact ⟨rfl, ((H.out.ext E1.out).ext hx2).drewN _, (E1.out.trans hx2).drewN _⟩
end
end Go.Proofs.Ytkdmlpigkmlkmaa.Tr
