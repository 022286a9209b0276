/-
  No cell of these rows narrows 'for every input' (looked for: loops, veiled, ifaces, maps, wideKeys, modest, calm, conditions, laid).
  DERIVED. THE GIVEN ROWS OF THIS SEAT. 7 by the template 'for every input the law returns true; each argument reads behind the call as it read before'; 0 by the template 'total and deterministic' (their statements: YtniaeiikdgbnfaaTotals.lean).
  GIVEN WITH THE SEED: the statements are not yours to turn. If you find one false, say at which input.
  Laid BY PROGRAM, IN A SANDBOX (cutbox-rows.mjs): the forced cells as the released guide's own fill.sh prints them over the translation e569e9d8c8410f95… (all of the seat's roots in one cut). By AI agents, Wed Nov 11 2026. No macro, syntax, notation, axiom, sorry.
-/
import Derived.Test.YtniaeiikdgbnfaaChecked
import GoSem.Claim
import GoSem.ClaimJoined
import GoSem.ClaimMapViews
import Derived.JoinedTies
import Derived.KernelRfl
namespace Go.Proofs.Ytniaeiikdgbnfaa
/- THE CELL 'sum', in the pinned program and in every row, IS THE sha256 OF THE DUMP (.gsa) THAT YtniaeiikdgbnfaaProg.lean LOADS. Nothing in Lean hashes anything: it is a label: what it is worth is what the hold of that sum in a sandbox is worth. -/
noncomputable def Try.pinned : Pinned := { name := "ytniaeiikdgbnfaa", sum := "e569e9d8c8410f9509afd168dc9936d7cfa8ba2792c39ad99ee1178ac9a14992", checked := Try.checked }
namespace Rows
def none {H : Type} : Left H := { results := [], args := [] }

/-- 'sallyportlaw05.RingMakes': WHATEVER THE INPUT: true; the input reads as it did. -/
def ringMakesSpec : ChangeSpec := { name := "ringMakes", fn := fun _ => fun
  | [d] => { results := [.lit (.bool true)], args := [d] }
  | _ => none }
def ringMakesRow : OpenClaim := { program := "ytniaeiikdgbnfaa", sum := "e569e9d8c8410f9509afd168dc9936d7cfa8ba2792c39ad99ee1178ac9a14992", func := "sallyport/sallyportlaw05.RingMakes", spec := "ringMakes", unfollowed := true, recurses := true, apart := false }
def RingMakesSaid : Prop := ringMakesRow.holds Try.pinned (OpenSpec.ofChange ringMakesSpec)

/-- ITS FALSE NEIGHBOUR: 'it returns false'. Refute it at one input. -/
def ringMakesWrong : ChangeSpec := { name := "ringMakes", fn := fun _ => fun
  | [d] => { results := [.lit (.bool false)], args := [d] }
  | _ => none }
def RingMakesWrongFalsely : Prop := ringMakesRow.holds Try.pinned (OpenSpec.ofChange ringMakesWrong)

/-- 'sallyportlaw05.RingPowers': WHATEVER THE INPUT: true; the input reads as it did. -/
def ringPowersSpec : ChangeSpec := { name := "ringPowers", fn := fun _ => fun
  | [d1, d2, d3] => { results := [.lit (.bool true)], args := [d1, d2, d3] }
  | _ => none }
def ringPowersRow : OpenClaim := { program := "ytniaeiikdgbnfaa", sum := "e569e9d8c8410f9509afd168dc9936d7cfa8ba2792c39ad99ee1178ac9a14992", func := "sallyport/sallyportlaw05.RingPowers", spec := "ringPowers", unfollowed := true, recurses := true, apart := false }
def RingPowersSaid : Prop := ringPowersRow.holds Try.pinned (OpenSpec.ofChange ringPowersSpec)

/-- ITS FALSE NEIGHBOUR: 'it returns false'. Refute it at one input. -/
def ringPowersWrong : ChangeSpec := { name := "ringPowers", fn := fun _ => fun
  | [d1, d2, d3] => { results := [.lit (.bool false)], args := [d1, d2, d3] }
  | _ => none }
def RingPowersWrongFalsely : Prop := ringPowersRow.holds Try.pinned (OpenSpec.ofChange ringPowersWrong)

/-- 'sallyportlaw05.RingAdds': WHATEVER THE INPUT: true; the input reads as it did. -/
def ringAddsSpec : ChangeSpec := { name := "ringAdds", fn := fun _ => fun
  | [d1, d2, d3, d4] => { results := [.lit (.bool true)], args := [d1, d2, d3, d4] }
  | _ => none }
def ringAddsRow : OpenClaim := { program := "ytniaeiikdgbnfaa", sum := "e569e9d8c8410f9509afd168dc9936d7cfa8ba2792c39ad99ee1178ac9a14992", func := "sallyport/sallyportlaw05.RingAdds", spec := "ringAdds", unfollowed := true, recurses := true, apart := false }
def RingAddsSaid : Prop := ringAddsRow.holds Try.pinned (OpenSpec.ofChange ringAddsSpec)

/-- ITS FALSE NEIGHBOUR: 'it returns false'. Refute it at one input. -/
def ringAddsWrong : ChangeSpec := { name := "ringAdds", fn := fun _ => fun
  | [d1, d2, d3, d4] => { results := [.lit (.bool false)], args := [d1, d2, d3, d4] }
  | _ => none }
def RingAddsWrongFalsely : Prop := ringAddsRow.holds Try.pinned (OpenSpec.ofChange ringAddsWrong)

/-- 'sallyportlaw05.RingOnes': WHATEVER THE INPUT: true; the input reads as it did. -/
def ringOnesSpec : ChangeSpec := { name := "ringOnes", fn := fun _ => fun
  | [d1, d2, d3, d4] => { results := [.lit (.bool true)], args := [d1, d2, d3, d4] }
  | _ => none }
def ringOnesRow : OpenClaim := { program := "ytniaeiikdgbnfaa", sum := "e569e9d8c8410f9509afd168dc9936d7cfa8ba2792c39ad99ee1178ac9a14992", func := "sallyport/sallyportlaw05.RingOnes", spec := "ringOnes", unfollowed := true, recurses := true, apart := false }
def RingOnesSaid : Prop := ringOnesRow.holds Try.pinned (OpenSpec.ofChange ringOnesSpec)

/-- ITS FALSE NEIGHBOUR: 'it returns false'. Refute it at one input. -/
def ringOnesWrong : ChangeSpec := { name := "ringOnes", fn := fun _ => fun
  | [d1, d2, d3, d4] => { results := [.lit (.bool false)], args := [d1, d2, d3, d4] }
  | _ => none }
def RingOnesWrongFalsely : Prop := ringOnesRow.holds Try.pinned (OpenSpec.ofChange ringOnesWrong)

/-- 'sallyportlaw05.RingSquares': WHATEVER THE INPUT: true; the input reads as it did. -/
def ringSquaresSpec : ChangeSpec := { name := "ringSquares", fn := fun _ => fun
  | [d1, d2, d3] => { results := [.lit (.bool true)], args := [d1, d2, d3] }
  | _ => none }
def ringSquaresRow : OpenClaim := { program := "ytniaeiikdgbnfaa", sum := "e569e9d8c8410f9509afd168dc9936d7cfa8ba2792c39ad99ee1178ac9a14992", func := "sallyport/sallyportlaw05.RingSquares", spec := "ringSquares", unfollowed := true, recurses := true, apart := false }
def RingSquaresSaid : Prop := ringSquaresRow.holds Try.pinned (OpenSpec.ofChange ringSquaresSpec)

/-- ITS FALSE NEIGHBOUR: 'it returns false'. Refute it at one input. -/
def ringSquaresWrong : ChangeSpec := { name := "ringSquares", fn := fun _ => fun
  | [d1, d2, d3] => { results := [.lit (.bool false)], args := [d1, d2, d3] }
  | _ => none }
def RingSquaresWrongFalsely : Prop := ringSquaresRow.holds Try.pinned (OpenSpec.ofChange ringSquaresWrong)

/-- 'sallyportlaw05.RingTimes': WHATEVER THE INPUT: true; the input reads as it did. -/
def ringTimesSpec : ChangeSpec := { name := "ringTimes", fn := fun _ => fun
  | [d1, d2, d3] => { results := [.lit (.bool true)], args := [d1, d2, d3] }
  | _ => none }
def ringTimesRow : OpenClaim := { program := "ytniaeiikdgbnfaa", sum := "e569e9d8c8410f9509afd168dc9936d7cfa8ba2792c39ad99ee1178ac9a14992", func := "sallyport/sallyportlaw05.RingTimes", spec := "ringTimes", unfollowed := true, recurses := true, apart := false }
def RingTimesSaid : Prop := ringTimesRow.holds Try.pinned (OpenSpec.ofChange ringTimesSpec)

/-- ITS FALSE NEIGHBOUR: 'it returns false'. Refute it at one input. -/
def ringTimesWrong : ChangeSpec := { name := "ringTimes", fn := fun _ => fun
  | [d1, d2, d3] => { results := [.lit (.bool false)], args := [d1, d2, d3] }
  | _ => none }
def RingTimesWrongFalsely : Prop := ringTimesRow.holds Try.pinned (OpenSpec.ofChange ringTimesWrong)

/-- 'sallyportlaw05.RingShorts': WHATEVER THE INPUT: true; the input reads as it did. -/
def ringShortsSpec : ChangeSpec := { name := "ringShorts", fn := fun _ => fun
  | [d1, d2] => { results := [.lit (.bool true)], args := [d1, d2] }
  | _ => none }
def ringShortsRow : OpenClaim := { program := "ytniaeiikdgbnfaa", sum := "e569e9d8c8410f9509afd168dc9936d7cfa8ba2792c39ad99ee1178ac9a14992", func := "sallyport/sallyportlaw05.RingShorts", spec := "ringShorts", unfollowed := true, recurses := true, apart := false }
def RingShortsSaid : Prop := ringShortsRow.holds Try.pinned (OpenSpec.ofChange ringShortsSpec)

/-- ITS FALSE NEIGHBOUR: 'it returns false'. Refute it at one input. -/
def ringShortsWrong : ChangeSpec := { name := "ringShorts", fn := fun _ => fun
  | [d1, d2] => { results := [.lit (.bool false)], args := [d1, d2] }
  | _ => none }
def RingShortsWrongFalsely : Prop := ringShortsRow.holds Try.pinned (OpenSpec.ofChange ringShortsWrong)

/- THE SECOND FORM. 'bulk': how many values and letters a reading holds, each counted each time it is reached (what is shared counts as often as it is met; a slice's spare places count too). A statement '..UptoSaid' is the law's where the arguments, and the package variables that the reading takes, are together of bulk at most 1048576: NARROWER than '..Said'. Prove '..Said' where nothing that the law and all that it calls make is longer than what came in: it says more and counts as full. Else prove '..UptoSaid'. A law counts once. -/
mutual
def uptoBulk {H : Type} : DataW H → Nat
  | .lit (.string bytes) => bytes.length + 1
  | .lit _ => 1
  | .nil => 1
  | .ptr d => uptoBulk d + 1
  | .slice elems spare => uptoBulkAll elems + uptoBulkAll spare + 1
  | .agg parts => uptoBulkAll parts + 1
  | .iface _ d => uptoBulk d + 1
  | .map entries => uptoBulkEntries entries + 1
  | .held _ => 1
def uptoBulkAll {H : Type} : List (DataW H) → Nat
  | [] => 0
  | d :: r => uptoBulk d + uptoBulkAll r
def uptoBulkEntries {H : Type} : List (Lit × DataW H) → Nat
  | [] => 0
  | x :: r => uptoBulkEntry x + uptoBulkEntries r
def uptoBulkEntry {H : Type} : Lit × DataW H → Nat
  | (.string bytes, d) => bytes.length + uptoBulk d + 1
  | (_, d) => uptoBulk d + 1
 end
def uptoSmall : (H : Type) → List (DataW H) → Bool := fun _ ds => decide (uptoBulkAll ds ≤ 1048576)
def OpenSpec.upto (s : _root_.Go.ChangeSpec) : _root_.Go.OpenSpec := { _root_.Go.OpenSpec.ofChange s with cond := some uptoSmall }

/-- 'sallyportlaw05.RingMakes', WHERE WHAT IT READS IS OF BULK AT MOST 1048576: true; the input reads as it did. -/
def ringMakesUptoRow : OpenClaim := { program := "ytniaeiikdgbnfaa", sum := "e569e9d8c8410f9509afd168dc9936d7cfa8ba2792c39ad99ee1178ac9a14992", func := "sallyport/sallyportlaw05.RingMakes", spec := "ringMakes", unfollowed := true, recurses := true, apart := false, narrowed := true }
def RingMakesUptoSaid : Prop := ringMakesUptoRow.holds Try.pinned (OpenSpec.upto ringMakesSpec)

/-- 'sallyportlaw05.RingPowers', WHERE WHAT IT READS IS OF BULK AT MOST 1048576: true; the input reads as it did. -/
def ringPowersUptoRow : OpenClaim := { program := "ytniaeiikdgbnfaa", sum := "e569e9d8c8410f9509afd168dc9936d7cfa8ba2792c39ad99ee1178ac9a14992", func := "sallyport/sallyportlaw05.RingPowers", spec := "ringPowers", unfollowed := true, recurses := true, apart := false, narrowed := true }
def RingPowersUptoSaid : Prop := ringPowersUptoRow.holds Try.pinned (OpenSpec.upto ringPowersSpec)

/-- 'sallyportlaw05.RingAdds', WHERE WHAT IT READS IS OF BULK AT MOST 1048576: true; the input reads as it did. -/
def ringAddsUptoRow : OpenClaim := { program := "ytniaeiikdgbnfaa", sum := "e569e9d8c8410f9509afd168dc9936d7cfa8ba2792c39ad99ee1178ac9a14992", func := "sallyport/sallyportlaw05.RingAdds", spec := "ringAdds", unfollowed := true, recurses := true, apart := false, narrowed := true }
def RingAddsUptoSaid : Prop := ringAddsUptoRow.holds Try.pinned (OpenSpec.upto ringAddsSpec)

/-- 'sallyportlaw05.RingOnes', WHERE WHAT IT READS IS OF BULK AT MOST 1048576: true; the input reads as it did. -/
def ringOnesUptoRow : OpenClaim := { program := "ytniaeiikdgbnfaa", sum := "e569e9d8c8410f9509afd168dc9936d7cfa8ba2792c39ad99ee1178ac9a14992", func := "sallyport/sallyportlaw05.RingOnes", spec := "ringOnes", unfollowed := true, recurses := true, apart := false, narrowed := true }
def RingOnesUptoSaid : Prop := ringOnesUptoRow.holds Try.pinned (OpenSpec.upto ringOnesSpec)

/-- 'sallyportlaw05.RingSquares', WHERE WHAT IT READS IS OF BULK AT MOST 1048576: true; the input reads as it did. -/
def ringSquaresUptoRow : OpenClaim := { program := "ytniaeiikdgbnfaa", sum := "e569e9d8c8410f9509afd168dc9936d7cfa8ba2792c39ad99ee1178ac9a14992", func := "sallyport/sallyportlaw05.RingSquares", spec := "ringSquares", unfollowed := true, recurses := true, apart := false, narrowed := true }
def RingSquaresUptoSaid : Prop := ringSquaresUptoRow.holds Try.pinned (OpenSpec.upto ringSquaresSpec)

/-- 'sallyportlaw05.RingTimes', WHERE WHAT IT READS IS OF BULK AT MOST 1048576: true; the input reads as it did. -/
def ringTimesUptoRow : OpenClaim := { program := "ytniaeiikdgbnfaa", sum := "e569e9d8c8410f9509afd168dc9936d7cfa8ba2792c39ad99ee1178ac9a14992", func := "sallyport/sallyportlaw05.RingTimes", spec := "ringTimes", unfollowed := true, recurses := true, apart := false, narrowed := true }
def RingTimesUptoSaid : Prop := ringTimesUptoRow.holds Try.pinned (OpenSpec.upto ringTimesSpec)

/-- 'sallyportlaw05.RingShorts', WHERE WHAT IT READS IS OF BULK AT MOST 1048576: true; the input reads as it did. -/
def ringShortsUptoRow : OpenClaim := { program := "ytniaeiikdgbnfaa", sum := "e569e9d8c8410f9509afd168dc9936d7cfa8ba2792c39ad99ee1178ac9a14992", func := "sallyport/sallyportlaw05.RingShorts", spec := "ringShorts", unfollowed := true, recurses := true, apart := false, narrowed := true }
def RingShortsUptoSaid : Prop := ringShortsUptoRow.holds Try.pinned (OpenSpec.upto ringShortsSpec)

end Rows
end Go.Proofs.Ytniaeiikdgbnfaa
