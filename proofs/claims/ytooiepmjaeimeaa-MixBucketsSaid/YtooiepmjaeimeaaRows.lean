/-
  No cell of these rows narrows 'for every input' (looked for: loops, veiled, ifaces, maps, wideKeys, modest, calm, conditions, laid).
  DERIVED. THE GIVEN ROWS OF THIS SEAT. 10 by the template 'for every input the law returns true; each argument reads behind the call as it read before'; 0 by the template 'total and deterministic' (their statements: YtooiepmjaeimeaaTotals.lean).
  GIVEN WITH THE SEED: the statements are not yours to turn. If you find one false, say at which input.
  Laid BY PROGRAM, IN A SANDBOX (cutbox-rows.mjs): the forced cells as the released guide's own fill.sh prints them over the translation c382ce16a0da90ad… (all of the seat's roots in one cut). By AI agents, Wed Nov 11 2026. No macro, syntax, notation, axiom, sorry.
-/
import Derived.Test.YtooiepmjaeimeaaChecked
import GoSem.Claim
import GoSem.ClaimJoined
import GoSem.ClaimMapViews
import Derived.JoinedTies
import Derived.KernelRfl
namespace Go.Proofs.Ytooiepmjaeimeaa
/- THE CELL 'sum', in the pinned program and in every row, IS THE sha256 OF THE DUMP (.gsa) THAT YtooiepmjaeimeaaProg.lean LOADS. Nothing in Lean hashes anything: it is a label: what it is worth is what the hold of that sum in a sandbox is worth. -/
noncomputable def Try.pinned : Pinned := { name := "ytooiepmjaeimeaa", sum := "c382ce16a0da90adb46da222f9122b411073117d2a592efa4a49612e494595d3", checked := Try.checked }
namespace Rows
def none {H : Type} : Left H := { results := [], args := [] }

/-- 'sandglasslaw20.HorizonTells': WHATEVER THE INPUT: true; the input reads as it did. -/
def horizonTellsSpec : ChangeSpec := { name := "horizonTells", fn := fun _ => fun
  | [d1, d2, d3, d4, d5] => { results := [.lit (.bool true)], args := [d1, d2, d3, d4, d5] }
  | _ => none }
def horizonTellsRow : OpenClaim := { program := "ytooiepmjaeimeaa", sum := "c382ce16a0da90adb46da222f9122b411073117d2a592efa4a49612e494595d3", func := "sandglass/sandglasslaw20.HorizonTells", spec := "horizonTells", inPlace := ["math/bits.Add64"], apart := false }
def HorizonTellsSaid : Prop := horizonTellsRow.holds Try.pinned (OpenSpec.ofChange horizonTellsSpec)

/-- ITS FALSE NEIGHBOUR: 'it returns false'. Refute it at one input. -/
def horizonTellsWrong : ChangeSpec := { name := "horizonTells", fn := fun _ => fun
  | [d1, d2, d3, d4, d5] => { results := [.lit (.bool false)], args := [d1, d2, d3, d4, d5] }
  | _ => none }
def HorizonTellsWrongFalsely : Prop := horizonTellsRow.holds Try.pinned (OpenSpec.ofChange horizonTellsWrong)

/-- 'sandglasslaw20.HorizonAdmits': WHATEVER THE INPUT: true; the input reads as it did. -/
def horizonAdmitsSpec : ChangeSpec := { name := "horizonAdmits", fn := fun _ => fun
  | [d1, d2, d3, d4] => { results := [.lit (.bool true)], args := [d1, d2, d3, d4] }
  | _ => none }
def horizonAdmitsRow : OpenClaim := { program := "ytooiepmjaeimeaa", sum := "c382ce16a0da90adb46da222f9122b411073117d2a592efa4a49612e494595d3", func := "sandglass/sandglasslaw20.HorizonAdmits", spec := "horizonAdmits", inPlace := ["math/bits.Add64"], apart := false }
def HorizonAdmitsSaid : Prop := horizonAdmitsRow.holds Try.pinned (OpenSpec.ofChange horizonAdmitsSpec)

/-- ITS FALSE NEIGHBOUR: 'it returns false'. Refute it at one input. -/
def horizonAdmitsWrong : ChangeSpec := { name := "horizonAdmits", fn := fun _ => fun
  | [d1, d2, d3, d4] => { results := [.lit (.bool false)], args := [d1, d2, d3, d4] }
  | _ => none }
def HorizonAdmitsWrongFalsely : Prop := horizonAdmitsRow.holds Try.pinned (OpenSpec.ofChange horizonAdmitsWrong)

/-- 'sandglasslaw20.HorizonAgain': WHATEVER THE INPUT: true; the input reads as it did. -/
def horizonAgainSpec : ChangeSpec := { name := "horizonAgain", fn := fun _ => fun
  | [d1, d2, d3, d4, d5, d6] => { results := [.lit (.bool true)], args := [d1, d2, d3, d4, d5, d6] }
  | _ => none }
def horizonAgainRow : OpenClaim := { program := "ytooiepmjaeimeaa", sum := "c382ce16a0da90adb46da222f9122b411073117d2a592efa4a49612e494595d3", func := "sandglass/sandglasslaw20.HorizonAgain", spec := "horizonAgain", inPlace := ["math/bits.Add64"], apart := false }
def HorizonAgainSaid : Prop := horizonAgainRow.holds Try.pinned (OpenSpec.ofChange horizonAgainSpec)

/-- ITS FALSE NEIGHBOUR: 'it returns false'. Refute it at one input. -/
def horizonAgainWrong : ChangeSpec := { name := "horizonAgain", fn := fun _ => fun
  | [d1, d2, d3, d4, d5, d6] => { results := [.lit (.bool false)], args := [d1, d2, d3, d4, d5, d6] }
  | _ => none }
def HorizonAgainWrongFalsely : Prop := horizonAgainRow.holds Try.pinned (OpenSpec.ofChange horizonAgainWrong)

/-- 'sandglasslaw20.HorizonOrder': WHATEVER THE INPUT: true; the input reads as it did. -/
def horizonOrderSpec : ChangeSpec := { name := "horizonOrder", fn := fun _ => fun
  | [d1, d2, d3, d4, d5, d6] => { results := [.lit (.bool true)], args := [d1, d2, d3, d4, d5, d6] }
  | _ => none }
def horizonOrderRow : OpenClaim := { program := "ytooiepmjaeimeaa", sum := "c382ce16a0da90adb46da222f9122b411073117d2a592efa4a49612e494595d3", func := "sandglass/sandglasslaw20.HorizonOrder", spec := "horizonOrder", inPlace := ["math/bits.Add64"], apart := false }
def HorizonOrderSaid : Prop := horizonOrderRow.holds Try.pinned (OpenSpec.ofChange horizonOrderSpec)

/-- ITS FALSE NEIGHBOUR: 'it returns false'. Refute it at one input. -/
def horizonOrderWrong : ChangeSpec := { name := "horizonOrder", fn := fun _ => fun
  | [d1, d2, d3, d4, d5, d6] => { results := [.lit (.bool false)], args := [d1, d2, d3, d4, d5, d6] }
  | _ => none }
def HorizonOrderWrongFalsely : Prop := horizonOrderRow.holds Try.pinned (OpenSpec.ofChange horizonOrderWrong)

/-- 'sandglasslaw20.HorizonLeaves': WHATEVER THE INPUT: true; the input reads as it did. -/
def horizonLeavesSpec : ChangeSpec := { name := "horizonLeaves", fn := fun _ => fun
  | [d1, d2, d3, d4] => { results := [.lit (.bool true)], args := [d1, d2, d3, d4] }
  | _ => none }
def horizonLeavesRow : OpenClaim := { program := "ytooiepmjaeimeaa", sum := "c382ce16a0da90adb46da222f9122b411073117d2a592efa4a49612e494595d3", func := "sandglass/sandglasslaw20.HorizonLeaves", spec := "horizonLeaves", inPlace := ["math/bits.Add64"], apart := false }
def HorizonLeavesSaid : Prop := horizonLeavesRow.holds Try.pinned (OpenSpec.ofChange horizonLeavesSpec)

/-- ITS FALSE NEIGHBOUR: 'it returns false'. Refute it at one input. -/
def horizonLeavesWrong : ChangeSpec := { name := "horizonLeaves", fn := fun _ => fun
  | [d1, d2, d3, d4] => { results := [.lit (.bool false)], args := [d1, d2, d3, d4] }
  | _ => none }
def HorizonLeavesWrongFalsely : Prop := horizonLeavesRow.holds Try.pinned (OpenSpec.ofChange horizonLeavesWrong)

/-- 'sandglasslaw03.MixTells': WHATEVER THE INPUT: true; the input reads as it did. -/
def mixTellsSpec : ChangeSpec := { name := "mixTells", fn := fun _ => fun
  | [d1, d2] => { results := [.lit (.bool true)], args := [d1, d2] }
  | _ => none }
def mixTellsRow : OpenClaim := { program := "ytooiepmjaeimeaa", sum := "c382ce16a0da90adb46da222f9122b411073117d2a592efa4a49612e494595d3", func := "sandglass/sandglasslaw03.MixTells", spec := "mixTells", unfollowed := true, recurses := true, apart := false }
def MixTellsSaid : Prop := mixTellsRow.holds Try.pinned (OpenSpec.ofChange mixTellsSpec)

/-- ITS FALSE NEIGHBOUR: 'it returns false'. Refute it at one input. -/
def mixTellsWrong : ChangeSpec := { name := "mixTells", fn := fun _ => fun
  | [d1, d2] => { results := [.lit (.bool false)], args := [d1, d2] }
  | _ => none }
def MixTellsWrongFalsely : Prop := mixTellsRow.holds Try.pinned (OpenSpec.ofChange mixTellsWrong)

/-- 'sandglasslaw03.MixBack': WHATEVER THE INPUT: true; the input reads as it did. -/
def mixBackSpec : ChangeSpec := { name := "mixBack", fn := fun _ => fun
  | [d1, d2] => { results := [.lit (.bool true)], args := [d1, d2] }
  | _ => none }
def mixBackRow : OpenClaim := { program := "ytooiepmjaeimeaa", sum := "c382ce16a0da90adb46da222f9122b411073117d2a592efa4a49612e494595d3", func := "sandglass/sandglasslaw03.MixBack", spec := "mixBack", unfollowed := true, recurses := true, apart := false }
def MixBackSaid : Prop := mixBackRow.holds Try.pinned (OpenSpec.ofChange mixBackSpec)

/-- ITS FALSE NEIGHBOUR: 'it returns false'. Refute it at one input. -/
def mixBackWrong : ChangeSpec := { name := "mixBack", fn := fun _ => fun
  | [d1, d2] => { results := [.lit (.bool false)], args := [d1, d2] }
  | _ => none }
def MixBackWrongFalsely : Prop := mixBackRow.holds Try.pinned (OpenSpec.ofChange mixBackWrong)

/-- 'sandglasslaw03.MixFiner': WHATEVER THE INPUT: true; the input reads as it did. -/
def mixFinerSpec : ChangeSpec := { name := "mixFiner", fn := fun _ => fun
  | [d1, d2, d3] => { results := [.lit (.bool true)], args := [d1, d2, d3] }
  | _ => none }
def mixFinerRow : OpenClaim := { program := "ytooiepmjaeimeaa", sum := "c382ce16a0da90adb46da222f9122b411073117d2a592efa4a49612e494595d3", func := "sandglass/sandglasslaw03.MixFiner", spec := "mixFiner", unfollowed := true, recurses := true, apart := false }
def MixFinerSaid : Prop := mixFinerRow.holds Try.pinned (OpenSpec.ofChange mixFinerSpec)

/-- ITS FALSE NEIGHBOUR: 'it returns false'. Refute it at one input. -/
def mixFinerWrong : ChangeSpec := { name := "mixFiner", fn := fun _ => fun
  | [d1, d2, d3] => { results := [.lit (.bool false)], args := [d1, d2, d3] }
  | _ => none }
def MixFinerWrongFalsely : Prop := mixFinerRow.holds Try.pinned (OpenSpec.ofChange mixFinerWrong)

/-- 'sandglasslaw03.MixBuckets': WHATEVER THE INPUT: true; the input reads as it did. -/
def mixBucketsSpec : ChangeSpec := { name := "mixBuckets", fn := fun _ => fun
  | [d1, d2, d3] => { results := [.lit (.bool true)], args := [d1, d2, d3] }
  | _ => none }
def mixBucketsRow : OpenClaim := { program := "ytooiepmjaeimeaa", sum := "c382ce16a0da90adb46da222f9122b411073117d2a592efa4a49612e494595d3", func := "sandglass/sandglasslaw03.MixBuckets", spec := "mixBuckets", unfollowed := true, recurses := true, apart := false }
def MixBucketsSaid : Prop := mixBucketsRow.holds Try.pinned (OpenSpec.ofChange mixBucketsSpec)

/-- ITS FALSE NEIGHBOUR: 'it returns false'. Refute it at one input. -/
def mixBucketsWrong : ChangeSpec := { name := "mixBuckets", fn := fun _ => fun
  | [d1, d2, d3] => { results := [.lit (.bool false)], args := [d1, d2, d3] }
  | _ => none }
def MixBucketsWrongFalsely : Prop := mixBucketsRow.holds Try.pinned (OpenSpec.ofChange mixBucketsWrong)

/-- 'sandglasslaw03.MixFar': WHATEVER THE INPUT: true; the input reads as it did. -/
def mixFarSpec : ChangeSpec := { name := "mixFar", fn := fun _ => fun
  | [d] => { results := [.lit (.bool true)], args := [d] }
  | _ => none }
def mixFarRow : OpenClaim := { program := "ytooiepmjaeimeaa", sum := "c382ce16a0da90adb46da222f9122b411073117d2a592efa4a49612e494595d3", func := "sandglass/sandglasslaw03.MixFar", spec := "mixFar", unfollowed := true, recurses := true, apart := false }
def MixFarSaid : Prop := mixFarRow.holds Try.pinned (OpenSpec.ofChange mixFarSpec)

/-- ITS FALSE NEIGHBOUR: 'it returns false'. Refute it at one input. -/
def mixFarWrong : ChangeSpec := { name := "mixFar", fn := fun _ => fun
  | [d] => { results := [.lit (.bool false)], args := [d] }
  | _ => none }
def MixFarWrongFalsely : Prop := mixFarRow.holds Try.pinned (OpenSpec.ofChange mixFarWrong)

/- THE SECOND FORM. 'bulk': how many values and letters a reading holds, each counted each time it is reached (what is shared counts as often as it is met; a slice's spare places count too). A statement '..UptoSaid' is the law's where the arguments, and the package variables that the reading takes, are together of bulk at most 1048576: NARROWER than '..Said'. Prove '..Said' where nothing that the law and all that it calls make is longer than what came in: it says more and counts as full. Else prove '..UptoSaid'. A law counts once. -/
mutual
def uptoBulk {H : Type} : DataW H → Nat
  | .lit (.string bytes) => bytes.length + 1
  | .lit _ => 1
  | .nil => 1
  | .ptr d => uptoBulk d + 1
  | .slice elems spare => uptoBulkAll elems + uptoBulkAll spare + 1
  | .agg parts => uptoBulkAll parts + 1
  | .iface _ d => uptoBulk d + 1
  | .map entries => uptoBulkEntries entries + 1
  | .held _ => 1
def uptoBulkAll {H : Type} : List (DataW H) → Nat
  | [] => 0
  | d :: r => uptoBulk d + uptoBulkAll r
def uptoBulkEntries {H : Type} : List (Lit × DataW H) → Nat
  | [] => 0
  | x :: r => uptoBulkEntry x + uptoBulkEntries r
def uptoBulkEntry {H : Type} : Lit × DataW H → Nat
  | (.string bytes, d) => bytes.length + uptoBulk d + 1
  | (_, d) => uptoBulk d + 1
 end
def uptoSmall : (H : Type) → List (DataW H) → Bool := fun _ ds => decide (uptoBulkAll ds ≤ 1048576)
def OpenSpec.upto (s : _root_.Go.ChangeSpec) : _root_.Go.OpenSpec := { _root_.Go.OpenSpec.ofChange s with cond := some uptoSmall }

/-- 'sandglasslaw20.HorizonTells', WHERE WHAT IT READS IS OF BULK AT MOST 1048576: true; the input reads as it did. -/
def horizonTellsUptoRow : OpenClaim := { program := "ytooiepmjaeimeaa", sum := "c382ce16a0da90adb46da222f9122b411073117d2a592efa4a49612e494595d3", func := "sandglass/sandglasslaw20.HorizonTells", spec := "horizonTells", inPlace := ["math/bits.Add64"], apart := false, narrowed := true }
def HorizonTellsUptoSaid : Prop := horizonTellsUptoRow.holds Try.pinned (OpenSpec.upto horizonTellsSpec)

/-- 'sandglasslaw20.HorizonAdmits', WHERE WHAT IT READS IS OF BULK AT MOST 1048576: true; the input reads as it did. -/
def horizonAdmitsUptoRow : OpenClaim := { program := "ytooiepmjaeimeaa", sum := "c382ce16a0da90adb46da222f9122b411073117d2a592efa4a49612e494595d3", func := "sandglass/sandglasslaw20.HorizonAdmits", spec := "horizonAdmits", inPlace := ["math/bits.Add64"], apart := false, narrowed := true }
def HorizonAdmitsUptoSaid : Prop := horizonAdmitsUptoRow.holds Try.pinned (OpenSpec.upto horizonAdmitsSpec)

/-- 'sandglasslaw20.HorizonAgain', WHERE WHAT IT READS IS OF BULK AT MOST 1048576: true; the input reads as it did. -/
def horizonAgainUptoRow : OpenClaim := { program := "ytooiepmjaeimeaa", sum := "c382ce16a0da90adb46da222f9122b411073117d2a592efa4a49612e494595d3", func := "sandglass/sandglasslaw20.HorizonAgain", spec := "horizonAgain", inPlace := ["math/bits.Add64"], apart := false, narrowed := true }
def HorizonAgainUptoSaid : Prop := horizonAgainUptoRow.holds Try.pinned (OpenSpec.upto horizonAgainSpec)

/-- 'sandglasslaw20.HorizonOrder', WHERE WHAT IT READS IS OF BULK AT MOST 1048576: true; the input reads as it did. -/
def horizonOrderUptoRow : OpenClaim := { program := "ytooiepmjaeimeaa", sum := "c382ce16a0da90adb46da222f9122b411073117d2a592efa4a49612e494595d3", func := "sandglass/sandglasslaw20.HorizonOrder", spec := "horizonOrder", inPlace := ["math/bits.Add64"], apart := false, narrowed := true }
def HorizonOrderUptoSaid : Prop := horizonOrderUptoRow.holds Try.pinned (OpenSpec.upto horizonOrderSpec)

/-- 'sandglasslaw20.HorizonLeaves', WHERE WHAT IT READS IS OF BULK AT MOST 1048576: true; the input reads as it did. -/
def horizonLeavesUptoRow : OpenClaim := { program := "ytooiepmjaeimeaa", sum := "c382ce16a0da90adb46da222f9122b411073117d2a592efa4a49612e494595d3", func := "sandglass/sandglasslaw20.HorizonLeaves", spec := "horizonLeaves", inPlace := ["math/bits.Add64"], apart := false, narrowed := true }
def HorizonLeavesUptoSaid : Prop := horizonLeavesUptoRow.holds Try.pinned (OpenSpec.upto horizonLeavesSpec)

/-- 'sandglasslaw03.MixTells', WHERE WHAT IT READS IS OF BULK AT MOST 1048576: true; the input reads as it did. -/
def mixTellsUptoRow : OpenClaim := { program := "ytooiepmjaeimeaa", sum := "c382ce16a0da90adb46da222f9122b411073117d2a592efa4a49612e494595d3", func := "sandglass/sandglasslaw03.MixTells", spec := "mixTells", unfollowed := true, recurses := true, apart := false, narrowed := true }
def MixTellsUptoSaid : Prop := mixTellsUptoRow.holds Try.pinned (OpenSpec.upto mixTellsSpec)

/-- 'sandglasslaw03.MixBack', WHERE WHAT IT READS IS OF BULK AT MOST 1048576: true; the input reads as it did. -/
def mixBackUptoRow : OpenClaim := { program := "ytooiepmjaeimeaa", sum := "c382ce16a0da90adb46da222f9122b411073117d2a592efa4a49612e494595d3", func := "sandglass/sandglasslaw03.MixBack", spec := "mixBack", unfollowed := true, recurses := true, apart := false, narrowed := true }
def MixBackUptoSaid : Prop := mixBackUptoRow.holds Try.pinned (OpenSpec.upto mixBackSpec)

/-- 'sandglasslaw03.MixFiner', WHERE WHAT IT READS IS OF BULK AT MOST 1048576: true; the input reads as it did. -/
def mixFinerUptoRow : OpenClaim := { program := "ytooiepmjaeimeaa", sum := "c382ce16a0da90adb46da222f9122b411073117d2a592efa4a49612e494595d3", func := "sandglass/sandglasslaw03.MixFiner", spec := "mixFiner", unfollowed := true, recurses := true, apart := false, narrowed := true }
def MixFinerUptoSaid : Prop := mixFinerUptoRow.holds Try.pinned (OpenSpec.upto mixFinerSpec)

/-- 'sandglasslaw03.MixBuckets', WHERE WHAT IT READS IS OF BULK AT MOST 1048576: true; the input reads as it did. -/
def mixBucketsUptoRow : OpenClaim := { program := "ytooiepmjaeimeaa", sum := "c382ce16a0da90adb46da222f9122b411073117d2a592efa4a49612e494595d3", func := "sandglass/sandglasslaw03.MixBuckets", spec := "mixBuckets", unfollowed := true, recurses := true, apart := false, narrowed := true }
def MixBucketsUptoSaid : Prop := mixBucketsUptoRow.holds Try.pinned (OpenSpec.upto mixBucketsSpec)

/-- 'sandglasslaw03.MixFar', WHERE WHAT IT READS IS OF BULK AT MOST 1048576: true; the input reads as it did. -/
def mixFarUptoRow : OpenClaim := { program := "ytooiepmjaeimeaa", sum := "c382ce16a0da90adb46da222f9122b411073117d2a592efa4a49612e494595d3", func := "sandglass/sandglasslaw03.MixFar", spec := "mixFar", unfollowed := true, recurses := true, apart := false, narrowed := true }
def MixFarUptoSaid : Prop := mixFarUptoRow.holds Try.pinned (OpenSpec.upto mixFarSpec)

end Rows
end Go.Proofs.Ytooiepmjaeimeaa
