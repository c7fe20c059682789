/-
  No cell of these rows narrows 'for every input' (looked for: loops, veiled, ifaces, maps, wideKeys, modest, calm, conditions, laid).
  DERIVED. THE GIVEN ROWS OF THIS SEAT. 6 by the template 'for every input the law returns true; each argument reads behind the call as it read before'; 0 by the template 'total and deterministic' (their statements: YtekdahppacghbabTotals.lean).
  GIVEN WITH THE SEED: the statements are not yours to turn. If you find one false, say at which input.
  Laid BY PROGRAM, IN A SANDBOX (cutbox-rows.mjs): the forced cells as the released guide's own fill.sh prints them over the translation 1b140ff7d997a44d… (all of the seat's roots in one cut). By AI agents, Wed Nov 11 2026. No macro, syntax, notation, axiom, sorry.
-/
import Derived.Test.YtekdahppacghbabChecked
import GoSem.Claim
import GoSem.ClaimJoined
import GoSem.ClaimMapViews
import Derived.JoinedTies
import Derived.KernelRfl
namespace Go.Proofs.Ytekdahppacghbab
/- THE CELL 'sum', in the pinned program and in every row, IS THE sha256 OF THE DUMP (.gsa) THAT YtekdahppacghbabProg.lean LOADS. Nothing in Lean hashes anything: it is a label: what it is worth is what the hold of that sum in a sandbox is worth. -/
noncomputable def Try.pinned : Pinned := { name := "ytekdahppacghbab", sum := "1b140ff7d997a44db99bf863824c727a8313cb86829481451a6ef39fe789c5a9", checked := Try.checked }
namespace Rows
def none {H : Type} : Left H := { results := [], args := [] }

/-- 'sandglasslaw07.WalkNone': WHATEVER THE INPUT: true; the input reads as it did. -/
def walkNoneSpec : ChangeSpec := { name := "walkNone", fn := fun _ => fun
  | [d1, d2] => { results := [.lit (.bool true)], args := [d1, d2] }
  | _ => none }
def walkNoneRow : OpenClaim := { program := "ytekdahppacghbab", sum := "1b140ff7d997a44db99bf863824c727a8313cb86829481451a6ef39fe789c5a9", func := "sandglass/sandglasslaw07.WalkNone", spec := "walkNone", unfollowed := true, recurses := true, plainKeys := false, apart := false }
def WalkNoneSaid : Prop := walkNoneRow.holds Try.pinned (OpenSpec.ofChange walkNoneSpec)

/-- ITS FALSE NEIGHBOUR: 'it returns false'. Refute it at one input. -/
def walkNoneWrong : ChangeSpec := { name := "walkNone", fn := fun _ => fun
  | [d1, d2] => { results := [.lit (.bool false)], args := [d1, d2] }
  | _ => none }
def WalkNoneWrongFalsely : Prop := walkNoneRow.holds Try.pinned (OpenSpec.ofChange walkNoneWrong)

/-- 'sandglasslaw07.WalkTells': WHATEVER THE INPUT: true; the input reads as it did. -/
def walkTellsSpec : ChangeSpec := { name := "walkTells", fn := fun _ => fun
  | [d1, d2, d3, d4] => { results := [.lit (.bool true)], args := [d1, d2, d3, d4] }
  | _ => none }
def walkTellsRow : OpenClaim := { program := "ytekdahppacghbab", sum := "1b140ff7d997a44db99bf863824c727a8313cb86829481451a6ef39fe789c5a9", func := "sandglass/sandglasslaw07.WalkTells", spec := "walkTells", unfollowed := true, recurses := true, plainKeys := false, apart := false }
def WalkTellsSaid : Prop := walkTellsRow.holds Try.pinned (OpenSpec.ofChange walkTellsSpec)

/-- ITS FALSE NEIGHBOUR: 'it returns false'. Refute it at one input. -/
def walkTellsWrong : ChangeSpec := { name := "walkTells", fn := fun _ => fun
  | [d1, d2, d3, d4] => { results := [.lit (.bool false)], args := [d1, d2, d3, d4] }
  | _ => none }
def WalkTellsWrongFalsely : Prop := walkTellsRow.holds Try.pinned (OpenSpec.ofChange walkTellsWrong)

/-- 'sandglasslaw07.WalkSweep': WHATEVER THE INPUT: true; the input reads as it did. -/
def walkSweepSpec : ChangeSpec := { name := "walkSweep", fn := fun _ => fun
  | [d1, d2, d3] => { results := [.lit (.bool true)], args := [d1, d2, d3] }
  | _ => none }
def walkSweepRow : OpenClaim := { program := "ytekdahppacghbab", sum := "1b140ff7d997a44db99bf863824c727a8313cb86829481451a6ef39fe789c5a9", func := "sandglass/sandglasslaw07.WalkSweep", spec := "walkSweep", unfollowed := true, recurses := true, plainKeys := false, apart := false }
def WalkSweepSaid : Prop := walkSweepRow.holds Try.pinned (OpenSpec.ofChange walkSweepSpec)

/-- ITS FALSE NEIGHBOUR: 'it returns false'. Refute it at one input. -/
def walkSweepWrong : ChangeSpec := { name := "walkSweep", fn := fun _ => fun
  | [d1, d2, d3] => { results := [.lit (.bool false)], args := [d1, d2, d3] }
  | _ => none }
def WalkSweepWrongFalsely : Prop := walkSweepRow.holds Try.pinned (OpenSpec.ofChange walkSweepWrong)

/-- 'sandglasslaw07.WalkThrough': WHATEVER THE INPUT: true; the input reads as it did. -/
def walkThroughSpec : ChangeSpec := { name := "walkThrough", fn := fun _ => fun
  | [d1, d2, d3, d4] => { results := [.lit (.bool true)], args := [d1, d2, d3, d4] }
  | _ => none }
def walkThroughRow : OpenClaim := { program := "ytekdahppacghbab", sum := "1b140ff7d997a44db99bf863824c727a8313cb86829481451a6ef39fe789c5a9", func := "sandglass/sandglasslaw07.WalkThrough", spec := "walkThrough", unfollowed := true, recurses := true, plainKeys := false, apart := false }
def WalkThroughSaid : Prop := walkThroughRow.holds Try.pinned (OpenSpec.ofChange walkThroughSpec)

/-- ITS FALSE NEIGHBOUR: 'it returns false'. Refute it at one input. -/
def walkThroughWrong : ChangeSpec := { name := "walkThrough", fn := fun _ => fun
  | [d1, d2, d3, d4] => { results := [.lit (.bool false)], args := [d1, d2, d3, d4] }
  | _ => none }
def WalkThroughWrongFalsely : Prop := walkThroughRow.holds Try.pinned (OpenSpec.ofChange walkThroughWrong)

/-- 'sandglasslaw07.WalkTake': WHATEVER THE INPUT: true; the input reads as it did. -/
def walkTakeSpec : ChangeSpec := { name := "walkTake", fn := fun _ => fun
  | [d1, d2, d3] => { results := [.lit (.bool true)], args := [d1, d2, d3] }
  | _ => none }
def walkTakeRow : OpenClaim := { program := "ytekdahppacghbab", sum := "1b140ff7d997a44db99bf863824c727a8313cb86829481451a6ef39fe789c5a9", func := "sandglass/sandglasslaw07.WalkTake", spec := "walkTake", unfollowed := true, recurses := true, plainKeys := false, apart := false }
def WalkTakeSaid : Prop := walkTakeRow.holds Try.pinned (OpenSpec.ofChange walkTakeSpec)

/-- ITS FALSE NEIGHBOUR: 'it returns false'. Refute it at one input. -/
def walkTakeWrong : ChangeSpec := { name := "walkTake", fn := fun _ => fun
  | [d1, d2, d3] => { results := [.lit (.bool false)], args := [d1, d2, d3] }
  | _ => none }
def WalkTakeWrongFalsely : Prop := walkTakeRow.holds Try.pinned (OpenSpec.ofChange walkTakeWrong)

/-- 'sandglasslaw07.WalkFrom': WHATEVER THE INPUT: true; the input reads as it did. -/
def walkFromSpec : ChangeSpec := { name := "walkFrom", fn := fun _ => fun
  | [d1, d2, d3, d4] => { results := [.lit (.bool true)], args := [d1, d2, d3, d4] }
  | _ => none }
def walkFromRow : OpenClaim := { program := "ytekdahppacghbab", sum := "1b140ff7d997a44db99bf863824c727a8313cb86829481451a6ef39fe789c5a9", func := "sandglass/sandglasslaw07.WalkFrom", spec := "walkFrom", unfollowed := true, recurses := true, plainKeys := false, apart := false }
def WalkFromSaid : Prop := walkFromRow.holds Try.pinned (OpenSpec.ofChange walkFromSpec)

/-- ITS FALSE NEIGHBOUR: 'it returns false'. Refute it at one input. -/
def walkFromWrong : ChangeSpec := { name := "walkFrom", fn := fun _ => fun
  | [d1, d2, d3, d4] => { results := [.lit (.bool false)], args := [d1, d2, d3, d4] }
  | _ => none }
def WalkFromWrongFalsely : Prop := walkFromRow.holds Try.pinned (OpenSpec.ofChange walkFromWrong)

/- THE SECOND FORM. 'bulk': how many values and letters a reading holds, each counted each time it is reached (what is shared counts as often as it is met; a slice's spare places count too). A statement '..UptoSaid' is the law's where the arguments, and the package variables that the reading takes, are together of bulk at most 1048576: NARROWER than '..Said'. Prove '..Said' where nothing that the law and all that it calls make is longer than what came in: it says more and counts as full. Else prove '..UptoSaid'. A law counts once. -/
mutual
def uptoBulk {H : Type} : DataW H → Nat
  | .lit (.string bytes) => bytes.length + 1
  | .lit _ => 1
  | .nil => 1
  | .ptr d => uptoBulk d + 1
  | .slice elems spare => uptoBulkAll elems + uptoBulkAll spare + 1
  | .agg parts => uptoBulkAll parts + 1
  | .iface _ d => uptoBulk d + 1
  | .map entries => uptoBulkEntries entries + 1
  | .held _ => 1
def uptoBulkAll {H : Type} : List (DataW H) → Nat
  | [] => 0
  | d :: r => uptoBulk d + uptoBulkAll r
def uptoBulkEntries {H : Type} : List (Lit × DataW H) → Nat
  | [] => 0
  | x :: r => uptoBulkEntry x + uptoBulkEntries r
def uptoBulkEntry {H : Type} : Lit × DataW H → Nat
  | (.string bytes, d) => bytes.length + uptoBulk d + 1
  | (_, d) => uptoBulk d + 1
 end
def uptoSmall : (H : Type) → List (DataW H) → Bool := fun _ ds => decide (uptoBulkAll ds ≤ 1048576)
def OpenSpec.upto (s : _root_.Go.ChangeSpec) : _root_.Go.OpenSpec := { _root_.Go.OpenSpec.ofChange s with cond := some uptoSmall }

/-- 'sandglasslaw07.WalkNone', WHERE WHAT IT READS IS OF BULK AT MOST 1048576: true; the input reads as it did. -/
def walkNoneUptoRow : OpenClaim := { program := "ytekdahppacghbab", sum := "1b140ff7d997a44db99bf863824c727a8313cb86829481451a6ef39fe789c5a9", func := "sandglass/sandglasslaw07.WalkNone", spec := "walkNone", unfollowed := true, recurses := true, plainKeys := false, apart := false, narrowed := true }
def WalkNoneUptoSaid : Prop := walkNoneUptoRow.holds Try.pinned (OpenSpec.upto walkNoneSpec)

/-- 'sandglasslaw07.WalkTells', WHERE WHAT IT READS IS OF BULK AT MOST 1048576: true; the input reads as it did. -/
def walkTellsUptoRow : OpenClaim := { program := "ytekdahppacghbab", sum := "1b140ff7d997a44db99bf863824c727a8313cb86829481451a6ef39fe789c5a9", func := "sandglass/sandglasslaw07.WalkTells", spec := "walkTells", unfollowed := true, recurses := true, plainKeys := false, apart := false, narrowed := true }
def WalkTellsUptoSaid : Prop := walkTellsUptoRow.holds Try.pinned (OpenSpec.upto walkTellsSpec)

/-- 'sandglasslaw07.WalkSweep', WHERE WHAT IT READS IS OF BULK AT MOST 1048576: true; the input reads as it did. -/
def walkSweepUptoRow : OpenClaim := { program := "ytekdahppacghbab", sum := "1b140ff7d997a44db99bf863824c727a8313cb86829481451a6ef39fe789c5a9", func := "sandglass/sandglasslaw07.WalkSweep", spec := "walkSweep", unfollowed := true, recurses := true, plainKeys := false, apart := false, narrowed := true }
def WalkSweepUptoSaid : Prop := walkSweepUptoRow.holds Try.pinned (OpenSpec.upto walkSweepSpec)

/-- 'sandglasslaw07.WalkThrough', WHERE WHAT IT READS IS OF BULK AT MOST 1048576: true; the input reads as it did. -/
def walkThroughUptoRow : OpenClaim := { program := "ytekdahppacghbab", sum := "1b140ff7d997a44db99bf863824c727a8313cb86829481451a6ef39fe789c5a9", func := "sandglass/sandglasslaw07.WalkThrough", spec := "walkThrough", unfollowed := true, recurses := true, plainKeys := false, apart := false, narrowed := true }
def WalkThroughUptoSaid : Prop := walkThroughUptoRow.holds Try.pinned (OpenSpec.upto walkThroughSpec)

/-- 'sandglasslaw07.WalkTake', WHERE WHAT IT READS IS OF BULK AT MOST 1048576: true; the input reads as it did. -/
def walkTakeUptoRow : OpenClaim := { program := "ytekdahppacghbab", sum := "1b140ff7d997a44db99bf863824c727a8313cb86829481451a6ef39fe789c5a9", func := "sandglass/sandglasslaw07.WalkTake", spec := "walkTake", unfollowed := true, recurses := true, plainKeys := false, apart := false, narrowed := true }
def WalkTakeUptoSaid : Prop := walkTakeUptoRow.holds Try.pinned (OpenSpec.upto walkTakeSpec)

/-- 'sandglasslaw07.WalkFrom', WHERE WHAT IT READS IS OF BULK AT MOST 1048576: true; the input reads as it did. -/
def walkFromUptoRow : OpenClaim := { program := "ytekdahppacghbab", sum := "1b140ff7d997a44db99bf863824c727a8313cb86829481451a6ef39fe789c5a9", func := "sandglass/sandglasslaw07.WalkFrom", spec := "walkFrom", unfollowed := true, recurses := true, plainKeys := false, apart := false, narrowed := true }
def WalkFromUptoSaid : Prop := walkFromUptoRow.holds Try.pinned (OpenSpec.upto walkFromSpec)

end Rows
end Go.Proofs.Ytekdahppacghbab
