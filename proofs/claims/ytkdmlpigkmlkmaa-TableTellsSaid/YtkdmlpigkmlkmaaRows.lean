/-
  No cell of these rows narrows 'for every input' (looked for: loops, veiled, ifaces, maps, wideKeys, modest, calm, conditions, laid).
  DERIVED. THE GIVEN ROWS OF THIS SEAT. 9 by the template 'for every input the law returns true; each argument reads behind the call as it read before'; 0 by the template 'total and deterministic' (their statements: YtkdmlpigkmlkmaaTotals.lean).
  GIVEN WITH THE SEED: the statements are not yours to turn. If you find one false, say at which input.
  Laid BY PROGRAM, IN A SANDBOX (cutbox-rows.mjs): the forced cells as the released guide's own fill.sh prints them over the translation 26f9842d16f2ceae… (all of the seat's roots in one cut). By AI agents, Wed Nov 11 2026. No macro, syntax, notation, axiom, sorry.
-/
import Derived.Test.YtkdmlpigkmlkmaaChecked
import GoSem.Claim
import GoSem.ClaimJoined
import GoSem.ClaimMapViews
import Derived.JoinedTies
import Derived.KernelRfl
namespace Go.Proofs.Ytkdmlpigkmlkmaa
/- THE CELL 'sum', in the pinned program and in every row, IS THE sha256 OF THE DUMP (.gsa) THAT YtkdmlpigkmlkmaaProg.lean LOADS. Nothing in Lean hashes anything: it is a label: what it is worth is what the hold of that sum in a sandbox is worth. -/
noncomputable def Try.pinned : Pinned := { name := "ytkdmlpigkmlkmaa", sum := "26f9842d16f2ceaeb2349627aafc0faadeddace27633edb1de8ac916eb7f1572", checked := Try.checked }
namespace Rows
def none {H : Type} : Left H := { results := [], args := [] }

/-- 'sandglasslaw14.TableGoes': WHATEVER THE INPUT: true; the input reads as it did. -/
def tableGoesSpec : ChangeSpec := { name := "tableGoes", fn := fun _ => fun
  | [d1, d2, d3] => { results := [.lit (.bool true)], args := [d1, d2, d3] }
  | _ => none }
def tableGoesRow : OpenClaim := { program := "ytkdmlpigkmlkmaa", sum := "26f9842d16f2ceaeb2349627aafc0faadeddace27633edb1de8ac916eb7f1572", func := "sandglass/sandglasslaw14.TableGoes", spec := "tableGoes", inPlace := ["math/bits.Add64"], unfollowed := true, recurses := true, apart := false }
def TableGoesSaid : Prop := tableGoesRow.holds Try.pinned (OpenSpec.ofChange tableGoesSpec)

/-- ITS FALSE NEIGHBOUR: 'it returns false'. Refute it at one input. -/
def tableGoesWrong : ChangeSpec := { name := "tableGoes", fn := fun _ => fun
  | [d1, d2, d3] => { results := [.lit (.bool false)], args := [d1, d2, d3] }
  | _ => none }
def TableGoesWrongFalsely : Prop := tableGoesRow.holds Try.pinned (OpenSpec.ofChange tableGoesWrong)

/-- 'sandglasslaw14.TableFinds': WHATEVER THE INPUT: true; the input reads as it did. -/
def tableFindsSpec : ChangeSpec := { name := "tableFinds", fn := fun _ => fun
  | [d1, d2, d3, d4, d5, d6, d7] => { results := [.lit (.bool true)], args := [d1, d2, d3, d4, d5, d6, d7] }
  | _ => none }
def tableFindsRow : OpenClaim := { program := "ytkdmlpigkmlkmaa", sum := "26f9842d16f2ceaeb2349627aafc0faadeddace27633edb1de8ac916eb7f1572", func := "sandglass/sandglasslaw14.TableFinds", spec := "tableFinds", inPlace := ["math/bits.Add64"], unfollowed := true, recurses := true, apart := false }
def TableFindsSaid : Prop := tableFindsRow.holds Try.pinned (OpenSpec.ofChange tableFindsSpec)

/-- ITS FALSE NEIGHBOUR: 'it returns false'. Refute it at one input. -/
def tableFindsWrong : ChangeSpec := { name := "tableFinds", fn := fun _ => fun
  | [d1, d2, d3, d4, d5, d6, d7] => { results := [.lit (.bool false)], args := [d1, d2, d3, d4, d5, d6, d7] }
  | _ => none }
def TableFindsWrongFalsely : Prop := tableFindsRow.holds Try.pinned (OpenSpec.ofChange tableFindsWrong)

/-- 'sandglasslaw14.TableKeeps': WHATEVER THE INPUT: true; the input reads as it did. -/
def tableKeepsSpec : ChangeSpec := { name := "tableKeeps", fn := fun _ => fun
  | [d1, d2, d3, d4, d5, d6] => { results := [.lit (.bool true)], args := [d1, d2, d3, d4, d5, d6] }
  | _ => none }
def tableKeepsRow : OpenClaim := { program := "ytkdmlpigkmlkmaa", sum := "26f9842d16f2ceaeb2349627aafc0faadeddace27633edb1de8ac916eb7f1572", func := "sandglass/sandglasslaw14.TableKeeps", spec := "tableKeeps", inPlace := ["math/bits.Add64"], unfollowed := true, recurses := true, apart := false }
def TableKeepsSaid : Prop := tableKeepsRow.holds Try.pinned (OpenSpec.ofChange tableKeepsSpec)

/-- ITS FALSE NEIGHBOUR: 'it returns false'. Refute it at one input. -/
def tableKeepsWrong : ChangeSpec := { name := "tableKeeps", fn := fun _ => fun
  | [d1, d2, d3, d4, d5, d6] => { results := [.lit (.bool false)], args := [d1, d2, d3, d4, d5, d6] }
  | _ => none }
def TableKeepsWrongFalsely : Prop := tableKeepsRow.holds Try.pinned (OpenSpec.ofChange tableKeepsWrong)

/-- 'sandglasslaw14.TableOnce': WHATEVER THE INPUT: true; the input reads as it did. -/
def tableOnceSpec : ChangeSpec := { name := "tableOnce", fn := fun _ => fun
  | [d1, d2] => { results := [.lit (.bool true)], args := [d1, d2] }
  | _ => none }
def tableOnceRow : OpenClaim := { program := "ytkdmlpigkmlkmaa", sum := "26f9842d16f2ceaeb2349627aafc0faadeddace27633edb1de8ac916eb7f1572", func := "sandglass/sandglasslaw14.TableOnce", spec := "tableOnce", inPlace := ["math/bits.Add64"], unfollowed := true, recurses := true, apart := false }
def TableOnceSaid : Prop := tableOnceRow.holds Try.pinned (OpenSpec.ofChange tableOnceSpec)

/-- ITS FALSE NEIGHBOUR: 'it returns false'. Refute it at one input. -/
def tableOnceWrong : ChangeSpec := { name := "tableOnce", fn := fun _ => fun
  | [d1, d2] => { results := [.lit (.bool false)], args := [d1, d2] }
  | _ => none }
def TableOnceWrongFalsely : Prop := tableOnceRow.holds Try.pinned (OpenSpec.ofChange tableOnceWrong)

/-- 'sandglasslaw14.TableBits': WHATEVER THE INPUT: true; the input reads as it did. -/
def tableBitsSpec : ChangeSpec := { name := "tableBits", fn := fun _ => fun
  | [d1, d2, d3, d4] => { results := [.lit (.bool true)], args := [d1, d2, d3, d4] }
  | _ => none }
def tableBitsRow : OpenClaim := { program := "ytkdmlpigkmlkmaa", sum := "26f9842d16f2ceaeb2349627aafc0faadeddace27633edb1de8ac916eb7f1572", func := "sandglass/sandglasslaw14.TableBits", spec := "tableBits", inPlace := ["math/bits.Add64"], unfollowed := true, recurses := true, apart := false }
def TableBitsSaid : Prop := tableBitsRow.holds Try.pinned (OpenSpec.ofChange tableBitsSpec)

/-- ITS FALSE NEIGHBOUR: 'it returns false'. Refute it at one input. -/
def tableBitsWrong : ChangeSpec := { name := "tableBits", fn := fun _ => fun
  | [d1, d2, d3, d4] => { results := [.lit (.bool false)], args := [d1, d2, d3, d4] }
  | _ => none }
def TableBitsWrongFalsely : Prop := tableBitsRow.holds Try.pinned (OpenSpec.ofChange tableBitsWrong)

/-- 'sandglasslaw14.TableTells': WHATEVER THE INPUT: true; the input reads as it did. -/
def tableTellsSpec : ChangeSpec := { name := "tableTells", fn := fun _ => fun
  | [d1, d2, d3, d4] => { results := [.lit (.bool true)], args := [d1, d2, d3, d4] }
  | _ => none }
def tableTellsRow : OpenClaim := { program := "ytkdmlpigkmlkmaa", sum := "26f9842d16f2ceaeb2349627aafc0faadeddace27633edb1de8ac916eb7f1572", func := "sandglass/sandglasslaw14.TableTells", spec := "tableTells", inPlace := ["math/bits.Add64"], unfollowed := true, recurses := true, apart := false }
def TableTellsSaid : Prop := tableTellsRow.holds Try.pinned (OpenSpec.ofChange tableTellsSpec)

/-- ITS FALSE NEIGHBOUR: 'it returns false'. Refute it at one input. -/
def tableTellsWrong : ChangeSpec := { name := "tableTells", fn := fun _ => fun
  | [d1, d2, d3, d4] => { results := [.lit (.bool false)], args := [d1, d2, d3, d4] }
  | _ => none }
def TableTellsWrongFalsely : Prop := tableTellsRow.holds Try.pinned (OpenSpec.ofChange tableTellsWrong)

/-- 'sandglasslaw14.TableNone': WHATEVER THE INPUT: true; the input reads as it did. -/
def tableNoneSpec : ChangeSpec := { name := "tableNone", fn := fun _ => fun
  | [d1, d2] => { results := [.lit (.bool true)], args := [d1, d2] }
  | _ => none }
def tableNoneRow : OpenClaim := { program := "ytkdmlpigkmlkmaa", sum := "26f9842d16f2ceaeb2349627aafc0faadeddace27633edb1de8ac916eb7f1572", func := "sandglass/sandglasslaw14.TableNone", spec := "tableNone", inPlace := ["math/bits.Add64"], unfollowed := true, recurses := true, apart := false }
def TableNoneSaid : Prop := tableNoneRow.holds Try.pinned (OpenSpec.ofChange tableNoneSpec)

/-- ITS FALSE NEIGHBOUR: 'it returns false'. Refute it at one input. -/
def tableNoneWrong : ChangeSpec := { name := "tableNone", fn := fun _ => fun
  | [d1, d2] => { results := [.lit (.bool false)], args := [d1, d2] }
  | _ => none }
def TableNoneWrongFalsely : Prop := tableNoneRow.holds Try.pinned (OpenSpec.ofChange tableNoneWrong)

/-- 'sandglasslaw15.RehashSpread': WHATEVER THE INPUT: true; the input reads as it did. -/
def rehashSpreadSpec : ChangeSpec := { name := "rehashSpread", fn := fun _ => fun
  | [d1, d2, d3] => { results := [.lit (.bool true)], args := [d1, d2, d3] }
  | _ => none }
def rehashSpreadRow : OpenClaim := { program := "ytkdmlpigkmlkmaa", sum := "26f9842d16f2ceaeb2349627aafc0faadeddace27633edb1de8ac916eb7f1572", func := "sandglass/sandglasslaw15.RehashSpread", spec := "rehashSpread", inPlace := ["math/bits.Add64"], unfollowed := true, recurses := true, apart := false }
def RehashSpreadSaid : Prop := rehashSpreadRow.holds Try.pinned (OpenSpec.ofChange rehashSpreadSpec)

/-- ITS FALSE NEIGHBOUR: 'it returns false'. Refute it at one input. -/
def rehashSpreadWrong : ChangeSpec := { name := "rehashSpread", fn := fun _ => fun
  | [d1, d2, d3] => { results := [.lit (.bool false)], args := [d1, d2, d3] }
  | _ => none }
def RehashSpreadWrongFalsely : Prop := rehashSpreadRow.holds Try.pinned (OpenSpec.ofChange rehashSpreadWrong)

/-- 'sandglasslaw15.RehashStays': WHATEVER THE INPUT: true; the input reads as it did. -/
def rehashStaysSpec : ChangeSpec := { name := "rehashStays", fn := fun _ => fun
  | [d1, d2, d3, d4] => { results := [.lit (.bool true)], args := [d1, d2, d3, d4] }
  | _ => none }
def rehashStaysRow : OpenClaim := { program := "ytkdmlpigkmlkmaa", sum := "26f9842d16f2ceaeb2349627aafc0faadeddace27633edb1de8ac916eb7f1572", func := "sandglass/sandglasslaw15.RehashStays", spec := "rehashStays", inPlace := ["math/bits.Add64"], unfollowed := true, recurses := true, apart := false }
def RehashStaysSaid : Prop := rehashStaysRow.holds Try.pinned (OpenSpec.ofChange rehashStaysSpec)

/-- ITS FALSE NEIGHBOUR: 'it returns false'. Refute it at one input. -/
def rehashStaysWrong : ChangeSpec := { name := "rehashStays", fn := fun _ => fun
  | [d1, d2, d3, d4] => { results := [.lit (.bool false)], args := [d1, d2, d3, d4] }
  | _ => none }
def RehashStaysWrongFalsely : Prop := rehashStaysRow.holds Try.pinned (OpenSpec.ofChange rehashStaysWrong)

/- THE SECOND FORM. 'bulk': how many values and letters a reading holds, each counted each time it is reached (what is shared counts as often as it is met; a slice's spare places count too). A statement '..UptoSaid' is the law's where the arguments, and the package variables that the reading takes, are together of bulk at most 1048576: NARROWER than '..Said'. Prove '..Said' where nothing that the law and all that it calls make is longer than what came in: it says more and counts as full. Else prove '..UptoSaid'. A law counts once. -/
mutual
def uptoBulk {H : Type} : DataW H → Nat
  | .lit (.string bytes) => bytes.length + 1
  | .lit _ => 1
  | .nil => 1
  | .ptr d => uptoBulk d + 1
  | .slice elems spare => uptoBulkAll elems + uptoBulkAll spare + 1
  | .agg parts => uptoBulkAll parts + 1
  | .iface _ d => uptoBulk d + 1
  | .map entries => uptoBulkEntries entries + 1
  | .held _ => 1
def uptoBulkAll {H : Type} : List (DataW H) → Nat
  | [] => 0
  | d :: r => uptoBulk d + uptoBulkAll r
def uptoBulkEntries {H : Type} : List (Lit × DataW H) → Nat
  | [] => 0
  | x :: r => uptoBulkEntry x + uptoBulkEntries r
def uptoBulkEntry {H : Type} : Lit × DataW H → Nat
  | (.string bytes, d) => bytes.length + uptoBulk d + 1
  | (_, d) => uptoBulk d + 1
 end
def uptoSmall : (H : Type) → List (DataW H) → Bool := fun _ ds => decide (uptoBulkAll ds ≤ 1048576)
def OpenSpec.upto (s : _root_.Go.ChangeSpec) : _root_.Go.OpenSpec := { _root_.Go.OpenSpec.ofChange s with cond := some uptoSmall }

/-- 'sandglasslaw14.TableGoes', WHERE WHAT IT READS IS OF BULK AT MOST 1048576: true; the input reads as it did. -/
def tableGoesUptoRow : OpenClaim := { program := "ytkdmlpigkmlkmaa", sum := "26f9842d16f2ceaeb2349627aafc0faadeddace27633edb1de8ac916eb7f1572", func := "sandglass/sandglasslaw14.TableGoes", spec := "tableGoes", inPlace := ["math/bits.Add64"], unfollowed := true, recurses := true, apart := false, narrowed := true }
def TableGoesUptoSaid : Prop := tableGoesUptoRow.holds Try.pinned (OpenSpec.upto tableGoesSpec)

/-- 'sandglasslaw14.TableFinds', WHERE WHAT IT READS IS OF BULK AT MOST 1048576: true; the input reads as it did. -/
def tableFindsUptoRow : OpenClaim := { program := "ytkdmlpigkmlkmaa", sum := "26f9842d16f2ceaeb2349627aafc0faadeddace27633edb1de8ac916eb7f1572", func := "sandglass/sandglasslaw14.TableFinds", spec := "tableFinds", inPlace := ["math/bits.Add64"], unfollowed := true, recurses := true, apart := false, narrowed := true }
def TableFindsUptoSaid : Prop := tableFindsUptoRow.holds Try.pinned (OpenSpec.upto tableFindsSpec)

/-- 'sandglasslaw14.TableKeeps', WHERE WHAT IT READS IS OF BULK AT MOST 1048576: true; the input reads as it did. -/
def tableKeepsUptoRow : OpenClaim := { program := "ytkdmlpigkmlkmaa", sum := "26f9842d16f2ceaeb2349627aafc0faadeddace27633edb1de8ac916eb7f1572", func := "sandglass/sandglasslaw14.TableKeeps", spec := "tableKeeps", inPlace := ["math/bits.Add64"], unfollowed := true, recurses := true, apart := false, narrowed := true }
def TableKeepsUptoSaid : Prop := tableKeepsUptoRow.holds Try.pinned (OpenSpec.upto tableKeepsSpec)

/-- 'sandglasslaw14.TableOnce', WHERE WHAT IT READS IS OF BULK AT MOST 1048576: true; the input reads as it did. -/
def tableOnceUptoRow : OpenClaim := { program := "ytkdmlpigkmlkmaa", sum := "26f9842d16f2ceaeb2349627aafc0faadeddace27633edb1de8ac916eb7f1572", func := "sandglass/sandglasslaw14.TableOnce", spec := "tableOnce", inPlace := ["math/bits.Add64"], unfollowed := true, recurses := true, apart := false, narrowed := true }
def TableOnceUptoSaid : Prop := tableOnceUptoRow.holds Try.pinned (OpenSpec.upto tableOnceSpec)

/-- 'sandglasslaw14.TableBits', WHERE WHAT IT READS IS OF BULK AT MOST 1048576: true; the input reads as it did. -/
def tableBitsUptoRow : OpenClaim := { program := "ytkdmlpigkmlkmaa", sum := "26f9842d16f2ceaeb2349627aafc0faadeddace27633edb1de8ac916eb7f1572", func := "sandglass/sandglasslaw14.TableBits", spec := "tableBits", inPlace := ["math/bits.Add64"], unfollowed := true, recurses := true, apart := false, narrowed := true }
def TableBitsUptoSaid : Prop := tableBitsUptoRow.holds Try.pinned (OpenSpec.upto tableBitsSpec)

/-- 'sandglasslaw14.TableTells', WHERE WHAT IT READS IS OF BULK AT MOST 1048576: true; the input reads as it did. -/
def tableTellsUptoRow : OpenClaim := { program := "ytkdmlpigkmlkmaa", sum := "26f9842d16f2ceaeb2349627aafc0faadeddace27633edb1de8ac916eb7f1572", func := "sandglass/sandglasslaw14.TableTells", spec := "tableTells", inPlace := ["math/bits.Add64"], unfollowed := true, recurses := true, apart := false, narrowed := true }
def TableTellsUptoSaid : Prop := tableTellsUptoRow.holds Try.pinned (OpenSpec.upto tableTellsSpec)

/-- 'sandglasslaw14.TableNone', WHERE WHAT IT READS IS OF BULK AT MOST 1048576: true; the input reads as it did. -/
def tableNoneUptoRow : OpenClaim := { program := "ytkdmlpigkmlkmaa", sum := "26f9842d16f2ceaeb2349627aafc0faadeddace27633edb1de8ac916eb7f1572", func := "sandglass/sandglasslaw14.TableNone", spec := "tableNone", inPlace := ["math/bits.Add64"], unfollowed := true, recurses := true, apart := false, narrowed := true }
def TableNoneUptoSaid : Prop := tableNoneUptoRow.holds Try.pinned (OpenSpec.upto tableNoneSpec)

/-- 'sandglasslaw15.RehashSpread', WHERE WHAT IT READS IS OF BULK AT MOST 1048576: true; the input reads as it did. -/
def rehashSpreadUptoRow : OpenClaim := { program := "ytkdmlpigkmlkmaa", sum := "26f9842d16f2ceaeb2349627aafc0faadeddace27633edb1de8ac916eb7f1572", func := "sandglass/sandglasslaw15.RehashSpread", spec := "rehashSpread", inPlace := ["math/bits.Add64"], unfollowed := true, recurses := true, apart := false, narrowed := true }
def RehashSpreadUptoSaid : Prop := rehashSpreadUptoRow.holds Try.pinned (OpenSpec.upto rehashSpreadSpec)

/-- 'sandglasslaw15.RehashStays', WHERE WHAT IT READS IS OF BULK AT MOST 1048576: true; the input reads as it did. -/
def rehashStaysUptoRow : OpenClaim := { program := "ytkdmlpigkmlkmaa", sum := "26f9842d16f2ceaeb2349627aafc0faadeddace27633edb1de8ac916eb7f1572", func := "sandglass/sandglasslaw15.RehashStays", spec := "rehashStays", inPlace := ["math/bits.Add64"], unfollowed := true, recurses := true, apart := false, narrowed := true }
def RehashStaysUptoSaid : Prop := rehashStaysUptoRow.holds Try.pinned (OpenSpec.upto rehashStaysSpec)

end Rows
end Go.Proofs.Ytkdmlpigkmlkmaa
