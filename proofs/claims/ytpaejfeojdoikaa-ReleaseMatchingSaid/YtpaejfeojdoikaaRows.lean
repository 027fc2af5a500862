/-
  No cell of these rows narrows 'for every input' (looked for: loops, veiled, ifaces, maps, wideKeys, modest, calm, conditions, laid).
  DERIVED. THE GIVEN ROWS OF THIS SEAT. 11 by the template 'for every input the law returns true; each argument reads behind the call as it read before'; 0 by the template 'total and deterministic' (their statements: YtpaejfeojdoikaaTotals.lean).
  GIVEN WITH THE SEED: the statements are not yours to turn. If you find one false, say at which input.
  Laid BY PROGRAM, IN A SANDBOX (cutbox-rows.mjs): the forced cells as the released guide's own fill.sh prints them over the translation 60227f58115203c2… (all of the seat's roots in one cut). By AI agents, Wed Nov 11 2026. No macro, syntax, notation, axiom, sorry.
-/
import Derived.Test.YtpaejfeojdoikaaChecked
import GoSem.Claim
import GoSem.ClaimJoined
import GoSem.ClaimMapViews
import Derived.JoinedTies
import Derived.KernelRfl
namespace Go.Proofs.Ytpaejfeojdoikaa
/- THE CELL 'sum', in the pinned program and in every row, IS THE sha256 OF THE DUMP (.gsa) THAT YtpaejfeojdoikaaProg.lean LOADS. Nothing in Lean hashes anything: it is a label: what it is worth is what the hold of that sum in a sandbox is worth. -/
noncomputable def Try.pinned : Pinned := { name := "ytpaejfeojdoikaa", sum := "60227f58115203c2467b4bb19277e30eb94829658b8a806b0217a85fc9a9a273", checked := Try.checked }
namespace Rows
def none {H : Type} : Left H := { results := [], args := [] }

/-- 'wireloomlaw04.LinearRange': WHATEVER THE INPUT: true; the input reads as it did. -/
def linearRangeSpec : ChangeSpec := { name := "linearRange", fn := fun _ => fun
  | [d1, d2, d3] => { results := [.lit (.bool true)], args := [d1, d2, d3] }
  | _ => none }
def linearRangeRow : OpenClaim := { program := "ytpaejfeojdoikaa", sum := "60227f58115203c2467b4bb19277e30eb94829658b8a806b0217a85fc9a9a273", func := "wireloom/wireloomlaw04.LinearRange", spec := "linearRange", inPlace := ["math/bits.Add64", "math/bits.Sub64"], unfollowed := true, recurses := true, named := ["math/bits.divideError", "math/bits.overflowError"], apart := false }
def LinearRangeSaid : Prop := linearRangeRow.holds Try.pinned (OpenSpec.ofChange linearRangeSpec)

/-- ITS FALSE NEIGHBOUR: 'it returns false'. Refute it at one input. -/
def linearRangeWrong : ChangeSpec := { name := "linearRange", fn := fun _ => fun
  | [d1, d2, d3] => { results := [.lit (.bool false)], args := [d1, d2, d3] }
  | _ => none }
def LinearRangeWrongFalsely : Prop := linearRangeRow.holds Try.pinned (OpenSpec.ofChange linearRangeWrong)

/-- 'wireloomlaw04.LinearInside': WHATEVER THE INPUT: true; the input reads as it did. -/
def linearInsideSpec : ChangeSpec := { name := "linearInside", fn := fun _ => fun
  | [d1, d2, d3] => { results := [.lit (.bool true)], args := [d1, d2, d3] }
  | _ => none }
def linearInsideRow : OpenClaim := { program := "ytpaejfeojdoikaa", sum := "60227f58115203c2467b4bb19277e30eb94829658b8a806b0217a85fc9a9a273", func := "wireloom/wireloomlaw04.LinearInside", spec := "linearInside", inPlace := ["math/bits.Add64", "math/bits.Sub64"], unfollowed := true, recurses := true, named := ["math/bits.divideError", "math/bits.overflowError"], apart := false }
def LinearInsideSaid : Prop := linearInsideRow.holds Try.pinned (OpenSpec.ofChange linearInsideSpec)

/-- ITS FALSE NEIGHBOUR: 'it returns false'. Refute it at one input. -/
def linearInsideWrong : ChangeSpec := { name := "linearInside", fn := fun _ => fun
  | [d1, d2, d3] => { results := [.lit (.bool false)], args := [d1, d2, d3] }
  | _ => none }
def LinearInsideWrongFalsely : Prop := linearInsideRow.holds Try.pinned (OpenSpec.ofChange linearInsideWrong)

/-- 'wireloomlaw04.LinearIntervals': WHATEVER THE INPUT: true; the input reads as it did. -/
def linearIntervalsSpec : ChangeSpec := { name := "linearIntervals", fn := fun _ => fun
  | [d1, d2] => { results := [.lit (.bool true)], args := [d1, d2] }
  | _ => none }
def linearIntervalsRow : OpenClaim := { program := "ytpaejfeojdoikaa", sum := "60227f58115203c2467b4bb19277e30eb94829658b8a806b0217a85fc9a9a273", func := "wireloom/wireloomlaw04.LinearIntervals", spec := "linearIntervals", inPlace := ["math/bits.Add64", "math/bits.Sub64"], unfollowed := true, recurses := true, named := ["math/bits.divideError", "math/bits.overflowError"], apart := false }
def LinearIntervalsSaid : Prop := linearIntervalsRow.holds Try.pinned (OpenSpec.ofChange linearIntervalsSpec)

/-- ITS FALSE NEIGHBOUR: 'it returns false'. Refute it at one input. -/
def linearIntervalsWrong : ChangeSpec := { name := "linearIntervals", fn := fun _ => fun
  | [d1, d2] => { results := [.lit (.bool false)], args := [d1, d2] }
  | _ => none }
def LinearIntervalsWrongFalsely : Prop := linearIntervalsRow.holds Try.pinned (OpenSpec.ofChange linearIntervalsWrong)

/-- 'wireloomlaw46.ReleaseChains': WHATEVER THE INPUT: true; the input reads as it did. -/
def releaseChainsSpec : ChangeSpec := { name := "releaseChains", fn := fun _ => fun
  | [d1, d2, d3] => { results := [.lit (.bool true)], args := [d1, d2, d3] }
  | _ => none }
def releaseChainsRow : OpenClaim := { program := "ytpaejfeojdoikaa", sum := "60227f58115203c2467b4bb19277e30eb94829658b8a806b0217a85fc9a9a273", func := "wireloom/wireloomlaw46.ReleaseChains", spec := "releaseChains", inPlace := ["math/bits.Add64", "math/bits.Sub64"], unfollowed := true, recurses := true, apart := false }
def ReleaseChainsSaid : Prop := releaseChainsRow.holds Try.pinned (OpenSpec.ofChange releaseChainsSpec)

/-- ITS FALSE NEIGHBOUR: 'it returns false'. Refute it at one input. -/
def releaseChainsWrong : ChangeSpec := { name := "releaseChains", fn := fun _ => fun
  | [d1, d2, d3] => { results := [.lit (.bool false)], args := [d1, d2, d3] }
  | _ => none }
def ReleaseChainsWrongFalsely : Prop := releaseChainsRow.holds Try.pinned (OpenSpec.ofChange releaseChainsWrong)

/-- 'wireloomlaw46.ReleaseKeys': WHATEVER THE INPUT: true; the input reads as it did. -/
def releaseKeysSpec : ChangeSpec := { name := "releaseKeys", fn := fun _ => fun
  | [d1, d2] => { results := [.lit (.bool true)], args := [d1, d2] }
  | _ => none }
def releaseKeysRow : OpenClaim := { program := "ytpaejfeojdoikaa", sum := "60227f58115203c2467b4bb19277e30eb94829658b8a806b0217a85fc9a9a273", func := "wireloom/wireloomlaw46.ReleaseKeys", spec := "releaseKeys", inPlace := ["math/bits.Add64", "math/bits.Sub64"], unfollowed := true, recurses := true, apart := false }
def ReleaseKeysSaid : Prop := releaseKeysRow.holds Try.pinned (OpenSpec.ofChange releaseKeysSpec)

/-- ITS FALSE NEIGHBOUR: 'it returns false'. Refute it at one input. -/
def releaseKeysWrong : ChangeSpec := { name := "releaseKeys", fn := fun _ => fun
  | [d1, d2] => { results := [.lit (.bool false)], args := [d1, d2] }
  | _ => none }
def ReleaseKeysWrongFalsely : Prop := releaseKeysRow.holds Try.pinned (OpenSpec.ofChange releaseKeysWrong)

/-- 'wireloomlaw46.ReleaseIntegrity': WHATEVER THE INPUT: true; the input reads as it did. -/
def releaseIntegritySpec : ChangeSpec := { name := "releaseIntegrity", fn := fun _ => fun
  | [d1, d2, d3] => { results := [.lit (.bool true)], args := [d1, d2, d3] }
  | _ => none }
def releaseIntegrityRow : OpenClaim := { program := "ytpaejfeojdoikaa", sum := "60227f58115203c2467b4bb19277e30eb94829658b8a806b0217a85fc9a9a273", func := "wireloom/wireloomlaw46.ReleaseIntegrity", spec := "releaseIntegrity", inPlace := ["math/bits.Add64", "math/bits.Sub64"], unfollowed := true, recurses := true, apart := false }
def ReleaseIntegritySaid : Prop := releaseIntegrityRow.holds Try.pinned (OpenSpec.ofChange releaseIntegritySpec)

/-- ITS FALSE NEIGHBOUR: 'it returns false'. Refute it at one input. -/
def releaseIntegrityWrong : ChangeSpec := { name := "releaseIntegrity", fn := fun _ => fun
  | [d1, d2, d3] => { results := [.lit (.bool false)], args := [d1, d2, d3] }
  | _ => none }
def ReleaseIntegrityWrongFalsely : Prop := releaseIntegrityRow.holds Try.pinned (OpenSpec.ofChange releaseIntegrityWrong)

/-- 'wireloomlaw46.ReleaseCovers': WHATEVER THE INPUT: true; the input reads as it did. -/
def releaseCoversSpec : ChangeSpec := { name := "releaseCovers", fn := fun _ => fun
  | [d1, d2, d3] => { results := [.lit (.bool true)], args := [d1, d2, d3] }
  | _ => none }
def releaseCoversRow : OpenClaim := { program := "ytpaejfeojdoikaa", sum := "60227f58115203c2467b4bb19277e30eb94829658b8a806b0217a85fc9a9a273", func := "wireloom/wireloomlaw46.ReleaseCovers", spec := "releaseCovers", inPlace := ["math/bits.Add64", "math/bits.Sub64"], unfollowed := true, recurses := true, apart := false }
def ReleaseCoversSaid : Prop := releaseCoversRow.holds Try.pinned (OpenSpec.ofChange releaseCoversSpec)

/-- ITS FALSE NEIGHBOUR: 'it returns false'. Refute it at one input. -/
def releaseCoversWrong : ChangeSpec := { name := "releaseCovers", fn := fun _ => fun
  | [d1, d2, d3] => { results := [.lit (.bool false)], args := [d1, d2, d3] }
  | _ => none }
def ReleaseCoversWrongFalsely : Prop := releaseCoversRow.holds Try.pinned (OpenSpec.ofChange releaseCoversWrong)

/-- 'wireloomlaw04.LinearScales': WHATEVER THE INPUT: true; the input reads as it did. -/
def linearScalesSpec : ChangeSpec := { name := "linearScales", fn := fun _ => fun
  | [d1, d2, d3] => { results := [.lit (.bool true)], args := [d1, d2, d3] }
  | _ => none }
def linearScalesRow : OpenClaim := { program := "ytpaejfeojdoikaa", sum := "60227f58115203c2467b4bb19277e30eb94829658b8a806b0217a85fc9a9a273", func := "wireloom/wireloomlaw04.LinearScales", spec := "linearScales", inPlace := ["math/bits.Add64", "math/bits.Sub64"], unfollowed := true, recurses := true, named := ["math/bits.divideError", "math/bits.overflowError"], apart := false }
def LinearScalesSaid : Prop := linearScalesRow.holds Try.pinned (OpenSpec.ofChange linearScalesSpec)

/-- ITS FALSE NEIGHBOUR: 'it returns false'. Refute it at one input. -/
def linearScalesWrong : ChangeSpec := { name := "linearScales", fn := fun _ => fun
  | [d1, d2, d3] => { results := [.lit (.bool false)], args := [d1, d2, d3] }
  | _ => none }
def LinearScalesWrongFalsely : Prop := linearScalesRow.holds Try.pinned (OpenSpec.ofChange linearScalesWrong)

/-- 'wireloomlaw46.ReleaseMatching': WHATEVER THE INPUT: true; the input reads as it did. -/
def releaseMatchingSpec : ChangeSpec := { name := "releaseMatching", fn := fun _ => fun
  | [d1, d2, d3] => { results := [.lit (.bool true)], args := [d1, d2, d3] }
  | _ => none }
def releaseMatchingRow : OpenClaim := { program := "ytpaejfeojdoikaa", sum := "60227f58115203c2467b4bb19277e30eb94829658b8a806b0217a85fc9a9a273", func := "wireloom/wireloomlaw46.ReleaseMatching", spec := "releaseMatching", inPlace := ["math/bits.Add64", "math/bits.Sub64"], unfollowed := true, recurses := true, apart := false }
def ReleaseMatchingSaid : Prop := releaseMatchingRow.holds Try.pinned (OpenSpec.ofChange releaseMatchingSpec)

/-- ITS FALSE NEIGHBOUR: 'it returns false'. Refute it at one input. -/
def releaseMatchingWrong : ChangeSpec := { name := "releaseMatching", fn := fun _ => fun
  | [d1, d2, d3] => { results := [.lit (.bool false)], args := [d1, d2, d3] }
  | _ => none }
def ReleaseMatchingWrongFalsely : Prop := releaseMatchingRow.holds Try.pinned (OpenSpec.ofChange releaseMatchingWrong)

/-- 'wireloomlaw04.LinearSums': WHATEVER THE INPUT: true; the input reads as it did. -/
def linearSumsSpec : ChangeSpec := { name := "linearSums", fn := fun _ => fun
  | [d1, d2, d3] => { results := [.lit (.bool true)], args := [d1, d2, d3] }
  | _ => none }
def linearSumsRow : OpenClaim := { program := "ytpaejfeojdoikaa", sum := "60227f58115203c2467b4bb19277e30eb94829658b8a806b0217a85fc9a9a273", func := "wireloom/wireloomlaw04.LinearSums", spec := "linearSums", inPlace := ["math/bits.Add64", "math/bits.Sub64"], unfollowed := true, recurses := true, named := ["math/bits.divideError", "math/bits.overflowError"], apart := false }
def LinearSumsSaid : Prop := linearSumsRow.holds Try.pinned (OpenSpec.ofChange linearSumsSpec)

/-- ITS FALSE NEIGHBOUR: 'it returns false'. Refute it at one input. -/
def linearSumsWrong : ChangeSpec := { name := "linearSums", fn := fun _ => fun
  | [d1, d2, d3] => { results := [.lit (.bool false)], args := [d1, d2, d3] }
  | _ => none }
def LinearSumsWrongFalsely : Prop := linearSumsRow.holds Try.pinned (OpenSpec.ofChange linearSumsWrong)

/-- 'wireloomlaw04.LinearMatchesReference': WHATEVER THE INPUT: true; the input reads as it did. -/
def linearMatchesReferenceSpec : ChangeSpec := { name := "linearMatchesReference", fn := fun _ => fun
  | [d1, d2, d3] => { results := [.lit (.bool true)], args := [d1, d2, d3] }
  | _ => none }
def linearMatchesReferenceRow : OpenClaim := { program := "ytpaejfeojdoikaa", sum := "60227f58115203c2467b4bb19277e30eb94829658b8a806b0217a85fc9a9a273", func := "wireloom/wireloomlaw04.LinearMatchesReference", spec := "linearMatchesReference", inPlace := ["math/bits.Add64", "math/bits.Sub64"], unfollowed := true, recurses := true, named := ["math/bits.divideError", "math/bits.overflowError"], apart := false }
def LinearMatchesReferenceSaid : Prop := linearMatchesReferenceRow.holds Try.pinned (OpenSpec.ofChange linearMatchesReferenceSpec)

/-- ITS FALSE NEIGHBOUR: 'it returns false'. Refute it at one input. -/
def linearMatchesReferenceWrong : ChangeSpec := { name := "linearMatchesReference", fn := fun _ => fun
  | [d1, d2, d3] => { results := [.lit (.bool false)], args := [d1, d2, d3] }
  | _ => none }
def LinearMatchesReferenceWrongFalsely : Prop := linearMatchesReferenceRow.holds Try.pinned (OpenSpec.ofChange linearMatchesReferenceWrong)

/- THE SECOND FORM. 'bulk': how many values and letters a reading holds, each counted each time it is reached (what is shared counts as often as it is met; a slice's spare places count too). A statement '..UptoSaid' is the law's where the arguments, and the package variables that the reading takes, are together of bulk at most 1048576: NARROWER than '..Said'. Prove '..Said' where nothing that the law and all that it calls make is longer than what came in: it says more and counts as full. Else prove '..UptoSaid'. A law counts once. -/
mutual
def uptoBulk {H : Type} : DataW H → Nat
  | .lit (.string bytes) => bytes.length + 1
  | .lit _ => 1
  | .nil => 1
  | .ptr d => uptoBulk d + 1
  | .slice elems spare => uptoBulkAll elems + uptoBulkAll spare + 1
  | .agg parts => uptoBulkAll parts + 1
  | .iface _ d => uptoBulk d + 1
  | .map entries => uptoBulkEntries entries + 1
  | .held _ => 1
def uptoBulkAll {H : Type} : List (DataW H) → Nat
  | [] => 0
  | d :: r => uptoBulk d + uptoBulkAll r
def uptoBulkEntries {H : Type} : List (Lit × DataW H) → Nat
  | [] => 0
  | x :: r => uptoBulkEntry x + uptoBulkEntries r
def uptoBulkEntry {H : Type} : Lit × DataW H → Nat
  | (.string bytes, d) => bytes.length + uptoBulk d + 1
  | (_, d) => uptoBulk d + 1
 end
def uptoSmall : (H : Type) → List (DataW H) → Bool := fun _ ds => decide (uptoBulkAll ds ≤ 1048576)
def OpenSpec.upto (s : _root_.Go.ChangeSpec) : _root_.Go.OpenSpec := { _root_.Go.OpenSpec.ofChange s with cond := some uptoSmall }

/-- 'wireloomlaw04.LinearRange', WHERE WHAT IT READS IS OF BULK AT MOST 1048576: true; the input reads as it did. -/
def linearRangeUptoRow : OpenClaim := { program := "ytpaejfeojdoikaa", sum := "60227f58115203c2467b4bb19277e30eb94829658b8a806b0217a85fc9a9a273", func := "wireloom/wireloomlaw04.LinearRange", spec := "linearRange", inPlace := ["math/bits.Add64", "math/bits.Sub64"], unfollowed := true, recurses := true, named := ["math/bits.divideError", "math/bits.overflowError"], apart := false, narrowed := true }
def LinearRangeUptoSaid : Prop := linearRangeUptoRow.holds Try.pinned (OpenSpec.upto linearRangeSpec)

/-- 'wireloomlaw04.LinearInside', WHERE WHAT IT READS IS OF BULK AT MOST 1048576: true; the input reads as it did. -/
def linearInsideUptoRow : OpenClaim := { program := "ytpaejfeojdoikaa", sum := "60227f58115203c2467b4bb19277e30eb94829658b8a806b0217a85fc9a9a273", func := "wireloom/wireloomlaw04.LinearInside", spec := "linearInside", inPlace := ["math/bits.Add64", "math/bits.Sub64"], unfollowed := true, recurses := true, named := ["math/bits.divideError", "math/bits.overflowError"], apart := false, narrowed := true }
def LinearInsideUptoSaid : Prop := linearInsideUptoRow.holds Try.pinned (OpenSpec.upto linearInsideSpec)

/-- 'wireloomlaw04.LinearIntervals', WHERE WHAT IT READS IS OF BULK AT MOST 1048576: true; the input reads as it did. -/
def linearIntervalsUptoRow : OpenClaim := { program := "ytpaejfeojdoikaa", sum := "60227f58115203c2467b4bb19277e30eb94829658b8a806b0217a85fc9a9a273", func := "wireloom/wireloomlaw04.LinearIntervals", spec := "linearIntervals", inPlace := ["math/bits.Add64", "math/bits.Sub64"], unfollowed := true, recurses := true, named := ["math/bits.divideError", "math/bits.overflowError"], apart := false, narrowed := true }
def LinearIntervalsUptoSaid : Prop := linearIntervalsUptoRow.holds Try.pinned (OpenSpec.upto linearIntervalsSpec)

/-- 'wireloomlaw46.ReleaseChains', WHERE WHAT IT READS IS OF BULK AT MOST 1048576: true; the input reads as it did. -/
def releaseChainsUptoRow : OpenClaim := { program := "ytpaejfeojdoikaa", sum := "60227f58115203c2467b4bb19277e30eb94829658b8a806b0217a85fc9a9a273", func := "wireloom/wireloomlaw46.ReleaseChains", spec := "releaseChains", inPlace := ["math/bits.Add64", "math/bits.Sub64"], unfollowed := true, recurses := true, apart := false, narrowed := true }
def ReleaseChainsUptoSaid : Prop := releaseChainsUptoRow.holds Try.pinned (OpenSpec.upto releaseChainsSpec)

/-- 'wireloomlaw46.ReleaseKeys', WHERE WHAT IT READS IS OF BULK AT MOST 1048576: true; the input reads as it did. -/
def releaseKeysUptoRow : OpenClaim := { program := "ytpaejfeojdoikaa", sum := "60227f58115203c2467b4bb19277e30eb94829658b8a806b0217a85fc9a9a273", func := "wireloom/wireloomlaw46.ReleaseKeys", spec := "releaseKeys", inPlace := ["math/bits.Add64", "math/bits.Sub64"], unfollowed := true, recurses := true, apart := false, narrowed := true }
def ReleaseKeysUptoSaid : Prop := releaseKeysUptoRow.holds Try.pinned (OpenSpec.upto releaseKeysSpec)

/-- 'wireloomlaw46.ReleaseIntegrity', WHERE WHAT IT READS IS OF BULK AT MOST 1048576: true; the input reads as it did. -/
def releaseIntegrityUptoRow : OpenClaim := { program := "ytpaejfeojdoikaa", sum := "60227f58115203c2467b4bb19277e30eb94829658b8a806b0217a85fc9a9a273", func := "wireloom/wireloomlaw46.ReleaseIntegrity", spec := "releaseIntegrity", inPlace := ["math/bits.Add64", "math/bits.Sub64"], unfollowed := true, recurses := true, apart := false, narrowed := true }
def ReleaseIntegrityUptoSaid : Prop := releaseIntegrityUptoRow.holds Try.pinned (OpenSpec.upto releaseIntegritySpec)

/-- 'wireloomlaw46.ReleaseCovers', WHERE WHAT IT READS IS OF BULK AT MOST 1048576: true; the input reads as it did. -/
def releaseCoversUptoRow : OpenClaim := { program := "ytpaejfeojdoikaa", sum := "60227f58115203c2467b4bb19277e30eb94829658b8a806b0217a85fc9a9a273", func := "wireloom/wireloomlaw46.ReleaseCovers", spec := "releaseCovers", inPlace := ["math/bits.Add64", "math/bits.Sub64"], unfollowed := true, recurses := true, apart := false, narrowed := true }
def ReleaseCoversUptoSaid : Prop := releaseCoversUptoRow.holds Try.pinned (OpenSpec.upto releaseCoversSpec)

/-- 'wireloomlaw04.LinearScales', WHERE WHAT IT READS IS OF BULK AT MOST 1048576: true; the input reads as it did. -/
def linearScalesUptoRow : OpenClaim := { program := "ytpaejfeojdoikaa", sum := "60227f58115203c2467b4bb19277e30eb94829658b8a806b0217a85fc9a9a273", func := "wireloom/wireloomlaw04.LinearScales", spec := "linearScales", inPlace := ["math/bits.Add64", "math/bits.Sub64"], unfollowed := true, recurses := true, named := ["math/bits.divideError", "math/bits.overflowError"], apart := false, narrowed := true }
def LinearScalesUptoSaid : Prop := linearScalesUptoRow.holds Try.pinned (OpenSpec.upto linearScalesSpec)

/-- 'wireloomlaw46.ReleaseMatching', WHERE WHAT IT READS IS OF BULK AT MOST 1048576: true; the input reads as it did. -/
def releaseMatchingUptoRow : OpenClaim := { program := "ytpaejfeojdoikaa", sum := "60227f58115203c2467b4bb19277e30eb94829658b8a806b0217a85fc9a9a273", func := "wireloom/wireloomlaw46.ReleaseMatching", spec := "releaseMatching", inPlace := ["math/bits.Add64", "math/bits.Sub64"], unfollowed := true, recurses := true, apart := false, narrowed := true }
def ReleaseMatchingUptoSaid : Prop := releaseMatchingUptoRow.holds Try.pinned (OpenSpec.upto releaseMatchingSpec)

/-- 'wireloomlaw04.LinearSums', WHERE WHAT IT READS IS OF BULK AT MOST 1048576: true; the input reads as it did. -/
def linearSumsUptoRow : OpenClaim := { program := "ytpaejfeojdoikaa", sum := "60227f58115203c2467b4bb19277e30eb94829658b8a806b0217a85fc9a9a273", func := "wireloom/wireloomlaw04.LinearSums", spec := "linearSums", inPlace := ["math/bits.Add64", "math/bits.Sub64"], unfollowed := true, recurses := true, named := ["math/bits.divideError", "math/bits.overflowError"], apart := false, narrowed := true }
def LinearSumsUptoSaid : Prop := linearSumsUptoRow.holds Try.pinned (OpenSpec.upto linearSumsSpec)

/-- 'wireloomlaw04.LinearMatchesReference', WHERE WHAT IT READS IS OF BULK AT MOST 1048576: true; the input reads as it did. -/
def linearMatchesReferenceUptoRow : OpenClaim := { program := "ytpaejfeojdoikaa", sum := "60227f58115203c2467b4bb19277e30eb94829658b8a806b0217a85fc9a9a273", func := "wireloom/wireloomlaw04.LinearMatchesReference", spec := "linearMatchesReference", inPlace := ["math/bits.Add64", "math/bits.Sub64"], unfollowed := true, recurses := true, named := ["math/bits.divideError", "math/bits.overflowError"], apart := false, narrowed := true }
def LinearMatchesReferenceUptoSaid : Prop := linearMatchesReferenceUptoRow.holds Try.pinned (OpenSpec.upto linearMatchesReferenceSpec)

end Rows
end Go.Proofs.Ytpaejfeojdoikaa
