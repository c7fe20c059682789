/-
  No cell of these rows narrows 'for every input' (looked for: loops, veiled, ifaces, maps, wideKeys, modest, calm, conditions, laid).
  DERIVED. THE GIVEN ROWS OF THIS SEAT. 6 by the template 'for every input the law returns true; each argument reads behind the call as it read before'; 0 by the template 'total and deterministic' (their statements: YtlficiohenpghaaTotals.lean).
  GIVEN WITH THE SEED: the statements are not yours to turn. If you find one false, say at which input.
  Laid BY PROGRAM, IN A SANDBOX (cutbox-rows.mjs): the forced cells as the released guide's own fill.sh prints them over the translation 9a60a11f29fdfe9e… (all of the seat's roots in one cut). By AI agents, Wed Nov 11 2026. No macro, syntax, notation, axiom, sorry.
-/
import Derived.Test.YtlficiohenpghaaChecked
import GoSem.Claim
import GoSem.ClaimJoined
import GoSem.ClaimMapViews
import Derived.JoinedTies
import Derived.KernelRfl
namespace Go.Proofs.Ytlficiohenpghaa
/- THE CELL 'sum', in the pinned program and in every row, IS THE sha256 OF THE DUMP (.gsa) THAT YtlficiohenpghaaProg.lean LOADS. Nothing in Lean hashes anything: it is a label: what it is worth is what the hold of that sum in a sandbox is worth. -/
noncomputable def Try.pinned : Pinned := { name := "ytlficiohenpghaa", sum := "9a60a11f29fdfe9ebdd7d0350a4e6ef5810c5c60bf8fe895393fd85680b2e0cb", checked := Try.checked }
namespace Rows
def none {H : Type} : Left H := { results := [], args := [] }

/-- 'sandglasslaw13.BucketOnce': WHATEVER THE INPUT: true; the input reads as it did. -/
def bucketOnceSpec : ChangeSpec := { name := "bucketOnce", fn := fun _ => fun
  | [d1, d2] => { results := [.lit (.bool true)], args := [d1, d2] }
  | _ => none }
def bucketOnceRow : OpenClaim := { program := "ytlficiohenpghaa", sum := "9a60a11f29fdfe9ebdd7d0350a4e6ef5810c5c60bf8fe895393fd85680b2e0cb", func := "sandglass/sandglasslaw13.BucketOnce", spec := "bucketOnce", unfollowed := true, recurses := true, apart := false }
def BucketOnceSaid : Prop := bucketOnceRow.holds Try.pinned (OpenSpec.ofChange bucketOnceSpec)

/-- ITS FALSE NEIGHBOUR: 'it returns false'. Refute it at one input. -/
def bucketOnceWrong : ChangeSpec := { name := "bucketOnce", fn := fun _ => fun
  | [d1, d2] => { results := [.lit (.bool false)], args := [d1, d2] }
  | _ => none }
def BucketOnceWrongFalsely : Prop := bucketOnceRow.holds Try.pinned (OpenSpec.ofChange bucketOnceWrong)

/-- 'sandglasslaw13.BucketBits': WHATEVER THE INPUT: true; the input reads as it did. -/
def bucketBitsSpec : ChangeSpec := { name := "bucketBits", fn := fun _ => fun
  | [d1, d2, d3, d4] => { results := [.lit (.bool true)], args := [d1, d2, d3, d4] }
  | _ => none }
def bucketBitsRow : OpenClaim := { program := "ytlficiohenpghaa", sum := "9a60a11f29fdfe9ebdd7d0350a4e6ef5810c5c60bf8fe895393fd85680b2e0cb", func := "sandglass/sandglasslaw13.BucketBits", spec := "bucketBits", unfollowed := true, recurses := true, apart := false }
def BucketBitsSaid : Prop := bucketBitsRow.holds Try.pinned (OpenSpec.ofChange bucketBitsSpec)

/-- ITS FALSE NEIGHBOUR: 'it returns false'. Refute it at one input. -/
def bucketBitsWrong : ChangeSpec := { name := "bucketBits", fn := fun _ => fun
  | [d1, d2, d3, d4] => { results := [.lit (.bool false)], args := [d1, d2, d3, d4] }
  | _ => none }
def BucketBitsWrongFalsely : Prop := bucketBitsRow.holds Try.pinned (OpenSpec.ofChange bucketBitsWrong)

/-- 'sandglasslaw13.BucketBack': WHATEVER THE INPUT: true; the input reads as it did. -/
def bucketBackSpec : ChangeSpec := { name := "bucketBack", fn := fun _ => fun
  | [d1, d2, d3, d4] => { results := [.lit (.bool true)], args := [d1, d2, d3, d4] }
  | _ => none }
def bucketBackRow : OpenClaim := { program := "ytlficiohenpghaa", sum := "9a60a11f29fdfe9ebdd7d0350a4e6ef5810c5c60bf8fe895393fd85680b2e0cb", func := "sandglass/sandglasslaw13.BucketBack", spec := "bucketBack", unfollowed := true, recurses := true, apart := false }
def BucketBackSaid : Prop := bucketBackRow.holds Try.pinned (OpenSpec.ofChange bucketBackSpec)

/-- ITS FALSE NEIGHBOUR: 'it returns false'. Refute it at one input. -/
def bucketBackWrong : ChangeSpec := { name := "bucketBack", fn := fun _ => fun
  | [d1, d2, d3, d4] => { results := [.lit (.bool false)], args := [d1, d2, d3, d4] }
  | _ => none }
def BucketBackWrongFalsely : Prop := bucketBackRow.holds Try.pinned (OpenSpec.ofChange bucketBackWrong)

/-- 'sandglasslaw13.BucketRoom': WHATEVER THE INPUT: true; the input reads as it did. -/
def bucketRoomSpec : ChangeSpec := { name := "bucketRoom", fn := fun _ => fun
  | [d1, d2, d3] => { results := [.lit (.bool true)], args := [d1, d2, d3] }
  | _ => none }
def bucketRoomRow : OpenClaim := { program := "ytlficiohenpghaa", sum := "9a60a11f29fdfe9ebdd7d0350a4e6ef5810c5c60bf8fe895393fd85680b2e0cb", func := "sandglass/sandglasslaw13.BucketRoom", spec := "bucketRoom", unfollowed := true, recurses := true, apart := false }
def BucketRoomSaid : Prop := bucketRoomRow.holds Try.pinned (OpenSpec.ofChange bucketRoomSpec)

/-- ITS FALSE NEIGHBOUR: 'it returns false'. Refute it at one input. -/
def bucketRoomWrong : ChangeSpec := { name := "bucketRoom", fn := fun _ => fun
  | [d1, d2, d3] => { results := [.lit (.bool false)], args := [d1, d2, d3] }
  | _ => none }
def BucketRoomWrongFalsely : Prop := bucketRoomRow.holds Try.pinned (OpenSpec.ofChange bucketRoomWrong)

/-- 'sandglasslaw13.BucketTells': WHATEVER THE INPUT: true; the input reads as it did. -/
def bucketTellsSpec : ChangeSpec := { name := "bucketTells", fn := fun _ => fun
  | [d1, d2, d3] => { results := [.lit (.bool true)], args := [d1, d2, d3] }
  | _ => none }
def bucketTellsRow : OpenClaim := { program := "ytlficiohenpghaa", sum := "9a60a11f29fdfe9ebdd7d0350a4e6ef5810c5c60bf8fe895393fd85680b2e0cb", func := "sandglass/sandglasslaw13.BucketTells", spec := "bucketTells", unfollowed := true, recurses := true, apart := false }
def BucketTellsSaid : Prop := bucketTellsRow.holds Try.pinned (OpenSpec.ofChange bucketTellsSpec)

/-- ITS FALSE NEIGHBOUR: 'it returns false'. Refute it at one input. -/
def bucketTellsWrong : ChangeSpec := { name := "bucketTells", fn := fun _ => fun
  | [d1, d2, d3] => { results := [.lit (.bool false)], args := [d1, d2, d3] }
  | _ => none }
def BucketTellsWrongFalsely : Prop := bucketTellsRow.holds Try.pinned (OpenSpec.ofChange bucketTellsWrong)

/-- 'sandglasslaw13.BucketNone': WHATEVER THE INPUT: true; the input reads as it did. -/
def bucketNoneSpec : ChangeSpec := { name := "bucketNone", fn := fun _ => fun
  | [d1, d2] => { results := [.lit (.bool true)], args := [d1, d2] }
  | _ => none }
def bucketNoneRow : OpenClaim := { program := "ytlficiohenpghaa", sum := "9a60a11f29fdfe9ebdd7d0350a4e6ef5810c5c60bf8fe895393fd85680b2e0cb", func := "sandglass/sandglasslaw13.BucketNone", spec := "bucketNone", unfollowed := true, recurses := true, apart := false }
def BucketNoneSaid : Prop := bucketNoneRow.holds Try.pinned (OpenSpec.ofChange bucketNoneSpec)

/-- ITS FALSE NEIGHBOUR: 'it returns false'. Refute it at one input. -/
def bucketNoneWrong : ChangeSpec := { name := "bucketNone", fn := fun _ => fun
  | [d1, d2] => { results := [.lit (.bool false)], args := [d1, d2] }
  | _ => none }
def BucketNoneWrongFalsely : Prop := bucketNoneRow.holds Try.pinned (OpenSpec.ofChange bucketNoneWrong)

/- THE SECOND FORM. 'bulk': how many values and letters a reading holds, each counted each time it is reached (what is shared counts as often as it is met; a slice's spare places count too). A statement '..UptoSaid' is the law's where the arguments, and the package variables that the reading takes, are together of bulk at most 1048576: NARROWER than '..Said'. Prove '..Said' where nothing that the law and all that it calls make is longer than what came in: it says more and counts as full. Else prove '..UptoSaid'. A law counts once. -/
mutual
def uptoBulk {H : Type} : DataW H → Nat
  | .lit (.string bytes) => bytes.length + 1
  | .lit _ => 1
  | .nil => 1
  | .ptr d => uptoBulk d + 1
  | .slice elems spare => uptoBulkAll elems + uptoBulkAll spare + 1
  | .agg parts => uptoBulkAll parts + 1
  | .iface _ d => uptoBulk d + 1
  | .map entries => uptoBulkEntries entries + 1
  | .held _ => 1
def uptoBulkAll {H : Type} : List (DataW H) → Nat
  | [] => 0
  | d :: r => uptoBulk d + uptoBulkAll r
def uptoBulkEntries {H : Type} : List (Lit × DataW H) → Nat
  | [] => 0
  | x :: r => uptoBulkEntry x + uptoBulkEntries r
def uptoBulkEntry {H : Type} : Lit × DataW H → Nat
  | (.string bytes, d) => bytes.length + uptoBulk d + 1
  | (_, d) => uptoBulk d + 1
 end
def uptoSmall : (H : Type) → List (DataW H) → Bool := fun _ ds => decide (uptoBulkAll ds ≤ 1048576)
def OpenSpec.upto (s : _root_.Go.ChangeSpec) : _root_.Go.OpenSpec := { _root_.Go.OpenSpec.ofChange s with cond := some uptoSmall }

/-- 'sandglasslaw13.BucketOnce', WHERE WHAT IT READS IS OF BULK AT MOST 1048576: true; the input reads as it did. -/
def bucketOnceUptoRow : OpenClaim := { program := "ytlficiohenpghaa", sum := "9a60a11f29fdfe9ebdd7d0350a4e6ef5810c5c60bf8fe895393fd85680b2e0cb", func := "sandglass/sandglasslaw13.BucketOnce", spec := "bucketOnce", unfollowed := true, recurses := true, apart := false, narrowed := true }
def BucketOnceUptoSaid : Prop := bucketOnceUptoRow.holds Try.pinned (OpenSpec.upto bucketOnceSpec)

/-- 'sandglasslaw13.BucketBits', WHERE WHAT IT READS IS OF BULK AT MOST 1048576: true; the input reads as it did. -/
def bucketBitsUptoRow : OpenClaim := { program := "ytlficiohenpghaa", sum := "9a60a11f29fdfe9ebdd7d0350a4e6ef5810c5c60bf8fe895393fd85680b2e0cb", func := "sandglass/sandglasslaw13.BucketBits", spec := "bucketBits", unfollowed := true, recurses := true, apart := false, narrowed := true }
def BucketBitsUptoSaid : Prop := bucketBitsUptoRow.holds Try.pinned (OpenSpec.upto bucketBitsSpec)

/-- 'sandglasslaw13.BucketBack', WHERE WHAT IT READS IS OF BULK AT MOST 1048576: true; the input reads as it did. -/
def bucketBackUptoRow : OpenClaim := { program := "ytlficiohenpghaa", sum := "9a60a11f29fdfe9ebdd7d0350a4e6ef5810c5c60bf8fe895393fd85680b2e0cb", func := "sandglass/sandglasslaw13.BucketBack", spec := "bucketBack", unfollowed := true, recurses := true, apart := false, narrowed := true }
def BucketBackUptoSaid : Prop := bucketBackUptoRow.holds Try.pinned (OpenSpec.upto bucketBackSpec)

/-- 'sandglasslaw13.BucketRoom', WHERE WHAT IT READS IS OF BULK AT MOST 1048576: true; the input reads as it did. -/
def bucketRoomUptoRow : OpenClaim := { program := "ytlficiohenpghaa", sum := "9a60a11f29fdfe9ebdd7d0350a4e6ef5810c5c60bf8fe895393fd85680b2e0cb", func := "sandglass/sandglasslaw13.BucketRoom", spec := "bucketRoom", unfollowed := true, recurses := true, apart := false, narrowed := true }
def BucketRoomUptoSaid : Prop := bucketRoomUptoRow.holds Try.pinned (OpenSpec.upto bucketRoomSpec)

/-- 'sandglasslaw13.BucketTells', WHERE WHAT IT READS IS OF BULK AT MOST 1048576: true; the input reads as it did. -/
def bucketTellsUptoRow : OpenClaim := { program := "ytlficiohenpghaa", sum := "9a60a11f29fdfe9ebdd7d0350a4e6ef5810c5c60bf8fe895393fd85680b2e0cb", func := "sandglass/sandglasslaw13.BucketTells", spec := "bucketTells", unfollowed := true, recurses := true, apart := false, narrowed := true }
def BucketTellsUptoSaid : Prop := bucketTellsUptoRow.holds Try.pinned (OpenSpec.upto bucketTellsSpec)

/-- 'sandglasslaw13.BucketNone', WHERE WHAT IT READS IS OF BULK AT MOST 1048576: true; the input reads as it did. -/
def bucketNoneUptoRow : OpenClaim := { program := "ytlficiohenpghaa", sum := "9a60a11f29fdfe9ebdd7d0350a4e6ef5810c5c60bf8fe895393fd85680b2e0cb", func := "sandglass/sandglasslaw13.BucketNone", spec := "bucketNone", unfollowed := true, recurses := true, apart := false, narrowed := true }
def BucketNoneUptoSaid : Prop := bucketNoneUptoRow.holds Try.pinned (OpenSpec.upto bucketNoneSpec)

end Rows
end Go.Proofs.Ytlficiohenpghaa
