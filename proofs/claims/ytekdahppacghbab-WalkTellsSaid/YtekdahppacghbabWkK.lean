/- DERIVED. Layer 7 (walk): the law WalkNone (the chapter's examples come as a hypothesis; XWkG proves them). -/
import Derived.Test.YtekdahppacghbabWkJ
import Derived.Test.YtekdahppacghbabWkH
import Derived.Test.YtekdahppacghbabTrQ
set_option linter.unusedVariables false
set_option linter.unusedSimpArgs false
set_option maxRecDepth 100000
namespace Go.Proofs.Ytekdahppacghbab.Wk
open Go.RowKit Go.Proofs.Ytekdahppacghbab Go.Proofs.Ytekdahppacghbab.TreeP Go.Proofs.Ytekdahppacghbab.Tr

/-- Take of a tree that has nothing -/
theorem take_nil {a : Option Addr} {TL l : List HP} {w : World} (hL : Lk a TL []) (at' n : Int) (hn : n < 9223372036854775808) (h : Own (TL ++ l) w) :
    Calls Try.prog 13 #[.pointer a, .int .u64 at', .int .i64 n] w fun e w' => ∃ v, e = .returned v ∧ Own (RE v [] :: (TL ++ l)) w' := by
  have hu := own_upto hL (by simp) at' n hn h
  have e0 : someL (fromL [] (0, 0)) n.toNat (fun q => decide (q.1 ≤ at')) = [] := by simp [someL, fromL, above, Tr.look]
  rw [e0] at hu
  have HU := Lib.hid hu
  clear hu h e0 hL hn
  go_enter Try.func13, Try.ntmps13
  go_wp2_with fail
  refine (HU.out).mono ?_
  rintro e w2 ⟨v, rfl, h2⟩
  obtain ⟨va, vc, rfl⟩ := own_slice h2.row
  have H2 := Lib.hid h2
  rw [show ([] : List En).length = 0 from rfl]
  clear h2 HU
  go_wp2_with fail
  go_loopw [16] (fun vi wr => vi = .int .i64 0 ∧ Own (RE (.slice va 0 vc) [] :: (TL ++ l)) wr) (fun vi _ => 0)
  case atStart => exact ⟨rfl, H2.out⟩
  case round =>
    clear H2
    obtain ⟨rfl, h⟩ := hrel
    have H := Lib.hid h
    clear h
    go_wp2_with fail
    go_ret
    exact ⟨_, rfl, H.out⟩
/-- a tree that has nothing, among what is owned -/
def Emp (LL : List HP) (a : Option Addr) : Prop := ∃ TL rest, LL.Perm (TL ++ rest) ∧ Lk a TL []
theorem Emp.more {LL : List HP} {a : Option Addr} (h : Emp LL a) (P : HP) : Emp (P :: LL) a := by
  obtain ⟨TL, rest, hp, hL⟩ := h
  exact ⟨TL, P :: rest, (hp.cons P).trans List.perm_middle.symm, hL⟩
section
variable {LL : List HP} {a : Option Addr} {w : World}
theorem emp_from (hE : Emp LL a) (x s n : Int) (hn : n < 9223372036854775808) (h : Own LL w) :
    Calls Try.prog 11 #[.pointer a, Tr.key x s, .int .i64 n] w fun e w' => ∃ va vc, e = .returned (.slice va 0 vc) ∧ Own LL w' := by
  obtain ⟨TL, rest, hp, hL⟩ := hE
  refine (own_from hL (by simp) x s n hn (h.perm hp)).mono fun e w' ⟨v, he, hx⟩ => ?_
  have e0 : (fromL [] (x, s)).take n.toNat = [] := by simp [fromL, above, Tr.look]
  rw [e0] at hx
  obtain ⟨va, vc, rfl⟩ := own_slice hx.row
  exact ⟨va, vc, he, hx.drop.perm hp.symm⟩
theorem emp_upto (hE : Emp LL a) (at' n : Int) (hn : n < 9223372036854775808) (h : Own LL w) :
    Calls Try.prog 12 #[.pointer a, .int .u64 at', .int .i64 n] w fun e w' => ∃ va vc, e = .returned (.slice va 0 vc) ∧ Own LL w' := by
  obtain ⟨TL, rest, hp, hL⟩ := hE
  refine (own_upto hL (by simp) at' n hn (h.perm hp)).mono fun e w' ⟨v, he, hx⟩ => ?_
  have e0 : someL (fromL [] (0, 0)) n.toNat (fun q => decide (q.1 ≤ at')) = [] := by simp [someL, fromL, above, Tr.look]
  rw [e0] at hx
  obtain ⟨va, vc, rfl⟩ := own_slice hx.row
  exact ⟨va, vc, he, hx.drop.perm hp.symm⟩
theorem emp_take (hE : Emp LL a) (at' n : Int) (hn : n < 9223372036854775808) (h : Own LL w) :
    Calls Try.prog 13 #[.pointer a, .int .u64 at', .int .i64 n] w fun e w' => ∃ va vc, e = .returned (.slice va 0 vc) ∧ Own LL w' := by
  obtain ⟨TL, rest, hp, hL⟩ := hE
  refine (take_nil hL at' n hn (h.perm hp)).mono fun e w' ⟨v, he, hx⟩ => ?_
  obtain ⟨va, vc, rfl⟩ := own_slice hx.row
  exact ⟨va, vc, he, hx.drop.perm hp.symm⟩
theorem emp_sweep (hE : Emp LL a) (x s n : Int) (hn0 : -9223372036854775808 ≤ n) (hn : n < 9223372036854775808) (h : Own LL w) :
    Calls Try.prog 10 #[.pointer a, Tr.key x s, .int .i64 n] w fun e w' => ∃ va vc, e = .returned (.tuple #[.slice va 0 vc, Tr.key x s]) ∧ Own LL w' := by
  obtain ⟨TL, rest, hp, hL⟩ := hE
  refine (own_sweep hL (by intro e he; simp at he) (by simp) x s n hn0 hn (h.perm hp)).mono fun e w' ⟨v, he, hx⟩ => ?_
  have e0 : sweepL [] (x, s) n.toNat = [] := by simp [sweepL, lowL, above]
  rw [e0] at hx he
  obtain ⟨va, vc, rfl⟩ := own_slice hx.row
  exact ⟨va, vc, he, hx.drop.perm hp.symm⟩
end
end Go.Proofs.Ytekdahppacghbab.Wk
