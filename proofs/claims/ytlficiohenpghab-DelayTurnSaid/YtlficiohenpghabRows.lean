/-
  No cell of these rows narrows 'for every input' (looked for: loops, veiled, ifaces, maps, wideKeys, modest, calm, conditions, laid).
  DERIVED. THE GIVEN ROWS OF THIS SEAT. 6 by the template 'for every input the law returns true; each argument reads behind the call as it read before'; 0 by the template 'total and deterministic' (their statements: YtlficiohenpghabTotals.lean).
  GIVEN WITH THE SEED: the statements are not yours to turn. If you find one false, say at which input.
  Laid BY PROGRAM, IN A SANDBOX (cutbox-rows.mjs): the forced cells as the released guide's own fill.sh prints them over the translation 5d4aa216db200ec4… (all of the seat's roots in one cut). By AI agents, Wed Nov 11 2026. No macro, syntax, notation, axiom, sorry.
-/
import Derived.Test.YtlficiohenpghabChecked
import GoSem.Claim
import GoSem.ClaimJoined
import GoSem.ClaimMapViews
import Derived.JoinedTies
import Derived.KernelRfl
namespace Go.Proofs.Ytlficiohenpghab
/- THE CELL 'sum', in the pinned program and in every row, IS THE sha256 OF THE DUMP (.gsa) THAT YtlficiohenpghabProg.lean LOADS. Nothing in Lean hashes anything: it is a label: what it is worth is what the hold of that sum in a sandbox is worth. -/
noncomputable def Try.pinned : Pinned := { name := "ytlficiohenpghab", sum := "5d4aa216db200ec4921b12b2b05e0f24ca7bd48a6433ef7d5d665eee84e0983b", checked := Try.checked }
namespace Rows
def none {H : Type} : Left H := { results := [], args := [] }

/-- 'sandglasslaw19.DelayTells': WHATEVER THE INPUT: true; the input reads as it did. -/
def delayTellsSpec : ChangeSpec := { name := "delayTells", fn := fun _ => fun
  | [d1, d2] => { results := [.lit (.bool true)], args := [d1, d2] }
  | _ => none }
def delayTellsRow : OpenClaim := { program := "ytlficiohenpghab", sum := "5d4aa216db200ec4921b12b2b05e0f24ca7bd48a6433ef7d5d665eee84e0983b", func := "sandglass/sandglasslaw19.DelayTells", spec := "delayTells", unfollowed := true, recurses := true, apart := false }
def DelayTellsSaid : Prop := delayTellsRow.holds Try.pinned (OpenSpec.ofChange delayTellsSpec)

/-- ITS FALSE NEIGHBOUR: 'it returns false'. Refute it at one input. -/
def delayTellsWrong : ChangeSpec := { name := "delayTells", fn := fun _ => fun
  | [d1, d2] => { results := [.lit (.bool false)], args := [d1, d2] }
  | _ => none }
def DelayTellsWrongFalsely : Prop := delayTellsRow.holds Try.pinned (OpenSpec.ofChange delayTellsWrong)

/-- 'sandglasslaw19.DelayOrder': WHATEVER THE INPUT: true; the input reads as it did. -/
def delayOrderSpec : ChangeSpec := { name := "delayOrder", fn := fun _ => fun
  | [d1, d2, d3] => { results := [.lit (.bool true)], args := [d1, d2, d3] }
  | _ => none }
def delayOrderRow : OpenClaim := { program := "ytlficiohenpghab", sum := "5d4aa216db200ec4921b12b2b05e0f24ca7bd48a6433ef7d5d665eee84e0983b", func := "sandglass/sandglasslaw19.DelayOrder", spec := "delayOrder", unfollowed := true, recurses := true, apart := false }
def DelayOrderSaid : Prop := delayOrderRow.holds Try.pinned (OpenSpec.ofChange delayOrderSpec)

/-- ITS FALSE NEIGHBOUR: 'it returns false'. Refute it at one input. -/
def delayOrderWrong : ChangeSpec := { name := "delayOrder", fn := fun _ => fun
  | [d1, d2, d3] => { results := [.lit (.bool false)], args := [d1, d2, d3] }
  | _ => none }
def DelayOrderWrongFalsely : Prop := delayOrderRow.holds Try.pinned (OpenSpec.ofChange delayOrderWrong)

/-- 'sandglasslaw19.DelayTurn': WHATEVER THE INPUT: true; the input reads as it did. -/
def delayTurnSpec : ChangeSpec := { name := "delayTurn", fn := fun _ => fun
  | [d1, d2, d3] => { results := [.lit (.bool true)], args := [d1, d2, d3] }
  | _ => none }
def delayTurnRow : OpenClaim := { program := "ytlficiohenpghab", sum := "5d4aa216db200ec4921b12b2b05e0f24ca7bd48a6433ef7d5d665eee84e0983b", func := "sandglass/sandglasslaw19.DelayTurn", spec := "delayTurn", unfollowed := true, recurses := true, apart := false }
def DelayTurnSaid : Prop := delayTurnRow.holds Try.pinned (OpenSpec.ofChange delayTurnSpec)

/-- ITS FALSE NEIGHBOUR: 'it returns false'. Refute it at one input. -/
def delayTurnWrong : ChangeSpec := { name := "delayTurn", fn := fun _ => fun
  | [d1, d2, d3] => { results := [.lit (.bool false)], args := [d1, d2, d3] }
  | _ => none }
def DelayTurnWrongFalsely : Prop := delayTurnRow.holds Try.pinned (OpenSpec.ofChange delayTurnWrong)

/-- 'sandglasslaw19.DelayBack': WHATEVER THE INPUT: true; the input reads as it did. -/
def delayBackSpec : ChangeSpec := { name := "delayBack", fn := fun _ => fun
  | [d1, d2, d3] => { results := [.lit (.bool true)], args := [d1, d2, d3] }
  | _ => none }
def delayBackRow : OpenClaim := { program := "ytlficiohenpghab", sum := "5d4aa216db200ec4921b12b2b05e0f24ca7bd48a6433ef7d5d665eee84e0983b", func := "sandglass/sandglasslaw19.DelayBack", spec := "delayBack", unfollowed := true, recurses := true, apart := false }
def DelayBackSaid : Prop := delayBackRow.holds Try.pinned (OpenSpec.ofChange delayBackSpec)

/-- ITS FALSE NEIGHBOUR: 'it returns false'. Refute it at one input. -/
def delayBackWrong : ChangeSpec := { name := "delayBack", fn := fun _ => fun
  | [d1, d2, d3] => { results := [.lit (.bool false)], args := [d1, d2, d3] }
  | _ => none }
def DelayBackWrongFalsely : Prop := delayBackRow.holds Try.pinned (OpenSpec.ofChange delayBackWrong)

/-- 'sandglasslaw19.DelayNext': WHATEVER THE INPUT: true; the input reads as it did. -/
def delayNextSpec : ChangeSpec := { name := "delayNext", fn := fun _ => fun
  | [d1, d2] => { results := [.lit (.bool true)], args := [d1, d2] }
  | _ => none }
def delayNextRow : OpenClaim := { program := "ytlficiohenpghab", sum := "5d4aa216db200ec4921b12b2b05e0f24ca7bd48a6433ef7d5d665eee84e0983b", func := "sandglass/sandglasslaw19.DelayNext", spec := "delayNext", unfollowed := true, recurses := true, apart := false }
def DelayNextSaid : Prop := delayNextRow.holds Try.pinned (OpenSpec.ofChange delayNextSpec)

/-- ITS FALSE NEIGHBOUR: 'it returns false'. Refute it at one input. -/
def delayNextWrong : ChangeSpec := { name := "delayNext", fn := fun _ => fun
  | [d1, d2] => { results := [.lit (.bool false)], args := [d1, d2] }
  | _ => none }
def DelayNextWrongFalsely : Prop := delayNextRow.holds Try.pinned (OpenSpec.ofChange delayNextWrong)

/-- 'sandglasslaw19.DelayNone': WHATEVER THE INPUT: true; the input reads as it did. -/
def delayNoneSpec : ChangeSpec := { name := "delayNone", fn := fun _ => fun
  | [d1, d2] => { results := [.lit (.bool true)], args := [d1, d2] }
  | _ => none }
def delayNoneRow : OpenClaim := { program := "ytlficiohenpghab", sum := "5d4aa216db200ec4921b12b2b05e0f24ca7bd48a6433ef7d5d665eee84e0983b", func := "sandglass/sandglasslaw19.DelayNone", spec := "delayNone", unfollowed := true, recurses := true, apart := false }
def DelayNoneSaid : Prop := delayNoneRow.holds Try.pinned (OpenSpec.ofChange delayNoneSpec)

/-- ITS FALSE NEIGHBOUR: 'it returns false'. Refute it at one input. -/
def delayNoneWrong : ChangeSpec := { name := "delayNone", fn := fun _ => fun
  | [d1, d2] => { results := [.lit (.bool false)], args := [d1, d2] }
  | _ => none }
def DelayNoneWrongFalsely : Prop := delayNoneRow.holds Try.pinned (OpenSpec.ofChange delayNoneWrong)

/- THE SECOND FORM. 'bulk': how many values and letters a reading holds, each counted each time it is reached (what is shared counts as often as it is met; a slice's spare places count too). A statement '..UptoSaid' is the law's where the arguments, and the package variables that the reading takes, are together of bulk at most 1048576: NARROWER than '..Said'. Prove '..Said' where nothing that the law and all that it calls make is longer than what came in: it says more and counts as full. Else prove '..UptoSaid'. A law counts once. -/
mutual
def uptoBulk {H : Type} : DataW H → Nat
  | .lit (.string bytes) => bytes.length + 1
  | .lit _ => 1
  | .nil => 1
  | .ptr d => uptoBulk d + 1
  | .slice elems spare => uptoBulkAll elems + uptoBulkAll spare + 1
  | .agg parts => uptoBulkAll parts + 1
  | .iface _ d => uptoBulk d + 1
  | .map entries => uptoBulkEntries entries + 1
  | .held _ => 1
def uptoBulkAll {H : Type} : List (DataW H) → Nat
  | [] => 0
  | d :: r => uptoBulk d + uptoBulkAll r
def uptoBulkEntries {H : Type} : List (Lit × DataW H) → Nat
  | [] => 0
  | x :: r => uptoBulkEntry x + uptoBulkEntries r
def uptoBulkEntry {H : Type} : Lit × DataW H → Nat
  | (.string bytes, d) => bytes.length + uptoBulk d + 1
  | (_, d) => uptoBulk d + 1
 end
def uptoSmall : (H : Type) → List (DataW H) → Bool := fun _ ds => decide (uptoBulkAll ds ≤ 1048576)
def OpenSpec.upto (s : _root_.Go.ChangeSpec) : _root_.Go.OpenSpec := { _root_.Go.OpenSpec.ofChange s with cond := some uptoSmall }

/-- 'sandglasslaw19.DelayTells', WHERE WHAT IT READS IS OF BULK AT MOST 1048576: true; the input reads as it did. -/
def delayTellsUptoRow : OpenClaim := { program := "ytlficiohenpghab", sum := "5d4aa216db200ec4921b12b2b05e0f24ca7bd48a6433ef7d5d665eee84e0983b", func := "sandglass/sandglasslaw19.DelayTells", spec := "delayTells", unfollowed := true, recurses := true, apart := false, narrowed := true }
def DelayTellsUptoSaid : Prop := delayTellsUptoRow.holds Try.pinned (OpenSpec.upto delayTellsSpec)

/-- 'sandglasslaw19.DelayOrder', WHERE WHAT IT READS IS OF BULK AT MOST 1048576: true; the input reads as it did. -/
def delayOrderUptoRow : OpenClaim := { program := "ytlficiohenpghab", sum := "5d4aa216db200ec4921b12b2b05e0f24ca7bd48a6433ef7d5d665eee84e0983b", func := "sandglass/sandglasslaw19.DelayOrder", spec := "delayOrder", unfollowed := true, recurses := true, apart := false, narrowed := true }
def DelayOrderUptoSaid : Prop := delayOrderUptoRow.holds Try.pinned (OpenSpec.upto delayOrderSpec)

/-- 'sandglasslaw19.DelayTurn', WHERE WHAT IT READS IS OF BULK AT MOST 1048576: true; the input reads as it did. -/
def delayTurnUptoRow : OpenClaim := { program := "ytlficiohenpghab", sum := "5d4aa216db200ec4921b12b2b05e0f24ca7bd48a6433ef7d5d665eee84e0983b", func := "sandglass/sandglasslaw19.DelayTurn", spec := "delayTurn", unfollowed := true, recurses := true, apart := false, narrowed := true }
def DelayTurnUptoSaid : Prop := delayTurnUptoRow.holds Try.pinned (OpenSpec.upto delayTurnSpec)

/-- 'sandglasslaw19.DelayBack', WHERE WHAT IT READS IS OF BULK AT MOST 1048576: true; the input reads as it did. -/
def delayBackUptoRow : OpenClaim := { program := "ytlficiohenpghab", sum := "5d4aa216db200ec4921b12b2b05e0f24ca7bd48a6433ef7d5d665eee84e0983b", func := "sandglass/sandglasslaw19.DelayBack", spec := "delayBack", unfollowed := true, recurses := true, apart := false, narrowed := true }
def DelayBackUptoSaid : Prop := delayBackUptoRow.holds Try.pinned (OpenSpec.upto delayBackSpec)

/-- 'sandglasslaw19.DelayNext', WHERE WHAT IT READS IS OF BULK AT MOST 1048576: true; the input reads as it did. -/
def delayNextUptoRow : OpenClaim := { program := "ytlficiohenpghab", sum := "5d4aa216db200ec4921b12b2b05e0f24ca7bd48a6433ef7d5d665eee84e0983b", func := "sandglass/sandglasslaw19.DelayNext", spec := "delayNext", unfollowed := true, recurses := true, apart := false, narrowed := true }
def DelayNextUptoSaid : Prop := delayNextUptoRow.holds Try.pinned (OpenSpec.upto delayNextSpec)

/-- 'sandglasslaw19.DelayNone', WHERE WHAT IT READS IS OF BULK AT MOST 1048576: true; the input reads as it did. -/
def delayNoneUptoRow : OpenClaim := { program := "ytlficiohenpghab", sum := "5d4aa216db200ec4921b12b2b05e0f24ca7bd48a6433ef7d5d665eee84e0983b", func := "sandglass/sandglasslaw19.DelayNone", spec := "delayNone", unfollowed := true, recurses := true, apart := false, narrowed := true }
def DelayNoneUptoSaid : Prop := delayNoneUptoRow.holds Try.pinned (OpenSpec.upto delayNoneSpec)

end Rows
end Go.Proofs.Ytlficiohenpghab
