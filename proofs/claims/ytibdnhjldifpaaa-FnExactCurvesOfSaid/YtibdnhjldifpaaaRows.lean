/-
  No cell of these rows narrows 'for every input' (looked for: loops, veiled, ifaces, maps, wideKeys, modest, calm, conditions, laid).
  DERIVED. THE GIVEN ROWS OF THIS SEAT. 9 by the template 'for every input the law returns true; each argument reads behind the call as it read before'; 0 by the template 'total and deterministic' (their statements: YtibdnhjldifpaaaTotals.lean).
  GIVEN WITH THE SEED: the statements are not yours to turn. If you find one false, say at which input.
  Laid BY PROGRAM, IN A SANDBOX (cutbox-rows.mjs): the forced cells as the released guide's own fill.sh prints them over the translation 9ec224638e2cc9a3… (all of the seat's roots in one cut). By AI agents, Wed Nov 11 2026. No macro, syntax, notation, axiom, sorry.
-/
import Derived.Test.YtibdnhjldifpaaaChecked
import GoSem.Claim
import GoSem.ClaimJoined
import GoSem.ClaimMapViews
import Derived.JoinedTies
import Derived.KernelRfl
namespace Go.Proofs.Ytibdnhjldifpaaa
/- THE CELL 'sum', in the pinned program and in every row, IS THE sha256 OF THE DUMP (.gsa) THAT YtibdnhjldifpaaaProg.lean LOADS. Nothing in Lean hashes anything: it is a label: what it is worth is what the hold of that sum in a sandbox is worth. -/
noncomputable def Try.pinned : Pinned := { name := "ytibdnhjldifpaaa", sum := "9ec224638e2cc9a36f55a18b235eaa6565821876e1a083cb0160bf6bf9918904", checked := Try.checked }
namespace Rows
def none {H : Type} : Left H := { results := [], args := [] }

/-- 'laws.FnExactCurvesOf': WHATEVER THE INPUT: true; the input reads as it did. -/
def fnExactCurvesOfSpec : ChangeSpec := { name := "fnExactCurvesOf", fn := fun _ => fun
  | [d1, d2] => { results := [.lit (.bool true)], args := [d1, d2] }
  | _ => none }
def fnExactCurvesOfRow : OpenClaim := { program := "ytibdnhjldifpaaa", sum := "9ec224638e2cc9a36f55a18b235eaa6565821876e1a083cb0160bf6bf9918904", func := "loop.example/g01213/laws.FnExactCurvesOf", spec := "fnExactCurvesOf", unfollowed := true, recurses := true, apart := false }
def FnExactCurvesOfSaid : Prop := fnExactCurvesOfRow.holds Try.pinned (OpenSpec.ofChange fnExactCurvesOfSpec)

/-- ITS FALSE NEIGHBOUR: 'it returns false'. Refute it at one input. -/
def fnExactCurvesOfWrong : ChangeSpec := { name := "fnExactCurvesOf", fn := fun _ => fun
  | [d1, d2] => { results := [.lit (.bool false)], args := [d1, d2] }
  | _ => none }
def FnExactCurvesOfWrongFalsely : Prop := fnExactCurvesOfRow.holds Try.pinned (OpenSpec.ofChange fnExactCurvesOfWrong)

/-- 'laws.FnExactMiddleCounts': WHATEVER THE INPUT: true; the input reads as it did. -/
def fnExactMiddleCountsSpec : ChangeSpec := { name := "fnExactMiddleCounts", fn := fun _ => fun
  | [d] => { results := [.lit (.bool true)], args := [d] }
  | _ => none }
def fnExactMiddleCountsRow : OpenClaim := { program := "ytibdnhjldifpaaa", sum := "9ec224638e2cc9a36f55a18b235eaa6565821876e1a083cb0160bf6bf9918904", func := "loop.example/g01213/laws.FnExactMiddleCounts", spec := "fnExactMiddleCounts", recurses := true, apart := false }
def FnExactMiddleCountsSaid : Prop := fnExactMiddleCountsRow.holds Try.pinned (OpenSpec.ofChange fnExactMiddleCountsSpec)

/-- ITS FALSE NEIGHBOUR: 'it returns false'. Refute it at one input. -/
def fnExactMiddleCountsWrong : ChangeSpec := { name := "fnExactMiddleCounts", fn := fun _ => fun
  | [d] => { results := [.lit (.bool false)], args := [d] }
  | _ => none }
def FnExactMiddleCountsWrongFalsely : Prop := fnExactMiddleCountsRow.holds Try.pinned (OpenSpec.ofChange fnExactMiddleCountsWrong)

/-- 'laws.FnExactWithoutFar': WHATEVER THE INPUT: true; the input reads as it did. -/
def fnExactWithoutFarSpec : ChangeSpec := { name := "fnExactWithoutFar", fn := fun _ => fun
  | [d1, d2] => { results := [.lit (.bool true)], args := [d1, d2] }
  | _ => none }
def fnExactWithoutFarRow : OpenClaim := { program := "ytibdnhjldifpaaa", sum := "9ec224638e2cc9a36f55a18b235eaa6565821876e1a083cb0160bf6bf9918904", func := "loop.example/g01213/laws.FnExactWithoutFar", spec := "fnExactWithoutFar", recurses := true, apart := false }
def FnExactWithoutFarSaid : Prop := fnExactWithoutFarRow.holds Try.pinned (OpenSpec.ofChange fnExactWithoutFarSpec)

/-- ITS FALSE NEIGHBOUR: 'it returns false'. Refute it at one input. -/
def fnExactWithoutFarWrong : ChangeSpec := { name := "fnExactWithoutFar", fn := fun _ => fun
  | [d1, d2] => { results := [.lit (.bool false)], args := [d1, d2] }
  | _ => none }
def FnExactWithoutFarWrongFalsely : Prop := fnExactWithoutFarRow.holds Try.pinned (OpenSpec.ofChange fnExactWithoutFarWrong)

/-- 'laws.FnExactPacketOf': WHATEVER THE INPUT: true; the input reads as it did. -/
def fnExactPacketOfSpec : ChangeSpec := { name := "fnExactPacketOf", fn := fun _ => fun
  | [d] => { results := [.lit (.bool true)], args := [d] }
  | _ => none }
def fnExactPacketOfRow : OpenClaim := { program := "ytibdnhjldifpaaa", sum := "9ec224638e2cc9a36f55a18b235eaa6565821876e1a083cb0160bf6bf9918904", func := "loop.example/g01213/laws.FnExactPacketOf", spec := "fnExactPacketOf", apart := false }
def FnExactPacketOfSaid : Prop := fnExactPacketOfRow.holds Try.pinned (OpenSpec.ofChange fnExactPacketOfSpec)

/-- ITS FALSE NEIGHBOUR: 'it returns false'. Refute it at one input. -/
def fnExactPacketOfWrong : ChangeSpec := { name := "fnExactPacketOf", fn := fun _ => fun
  | [d] => { results := [.lit (.bool false)], args := [d] }
  | _ => none }
def FnExactPacketOfWrongFalsely : Prop := fnExactPacketOfRow.holds Try.pinned (OpenSpec.ofChange fnExactPacketOfWrong)

/-- 'laws.FnExactReadPacket': WHATEVER THE INPUT: true; the input reads as it did. -/
def fnExactReadPacketSpec : ChangeSpec := { name := "fnExactReadPacket", fn := fun _ => fun
  | [d] => { results := [.lit (.bool true)], args := [d] }
  | _ => none }
def fnExactReadPacketRow : OpenClaim := { program := "ytibdnhjldifpaaa", sum := "9ec224638e2cc9a36f55a18b235eaa6565821876e1a083cb0160bf6bf9918904", func := "loop.example/g01213/laws.FnExactReadPacket", spec := "fnExactReadPacket", unfollowed := true, recurses := true, apart := false }
def FnExactReadPacketSaid : Prop := fnExactReadPacketRow.holds Try.pinned (OpenSpec.ofChange fnExactReadPacketSpec)

/-- ITS FALSE NEIGHBOUR: 'it returns false'. Refute it at one input. -/
def fnExactReadPacketWrong : ChangeSpec := { name := "fnExactReadPacket", fn := fun _ => fun
  | [d] => { results := [.lit (.bool false)], args := [d] }
  | _ => none }
def FnExactReadPacketWrongFalsely : Prop := fnExactReadPacketRow.holds Try.pinned (OpenSpec.ofChange fnExactReadPacketWrong)

/-- 'laws.FnExactTornSamples': WHATEVER THE INPUT: true; the input reads as it did. -/
def fnExactTornSamplesSpec : ChangeSpec := { name := "fnExactTornSamples", fn := fun _ => fun
  | [d] => { results := [.lit (.bool true)], args := [d] }
  | _ => none }
def fnExactTornSamplesRow : OpenClaim := { program := "ytibdnhjldifpaaa", sum := "9ec224638e2cc9a36f55a18b235eaa6565821876e1a083cb0160bf6bf9918904", func := "loop.example/g01213/laws.FnExactTornSamples", spec := "fnExactTornSamples", unfollowed := true, recurses := true, apart := false }
def FnExactTornSamplesSaid : Prop := fnExactTornSamplesRow.holds Try.pinned (OpenSpec.ofChange fnExactTornSamplesSpec)

/-- ITS FALSE NEIGHBOUR: 'it returns false'. Refute it at one input. -/
def fnExactTornSamplesWrong : ChangeSpec := { name := "fnExactTornSamples", fn := fun _ => fun
  | [d] => { results := [.lit (.bool false)], args := [d] }
  | _ => none }
def FnExactTornSamplesWrongFalsely : Prop := fnExactTornSamplesRow.holds Try.pinned (OpenSpec.ofChange fnExactTornSamplesWrong)

/-- 'laws.FnCounted': WHATEVER THE INPUT: true; the input reads as it did. -/
def fnCountedSpec : ChangeSpec := { name := "fnCounted", fn := fun _ => fun
  | [d1, d2] => { results := [.lit (.bool true)], args := [d1, d2] }
  | _ => none }
def fnCountedRow : OpenClaim := { program := "ytibdnhjldifpaaa", sum := "9ec224638e2cc9a36f55a18b235eaa6565821876e1a083cb0160bf6bf9918904", func := "loop.example/g01213/laws.FnCounted", spec := "fnCounted", inPlace := ["math.Float64bits", "math.Float64frombits", "math.RoundToEven", "math.Float32bits"], unfollowed := true, recurses := true, apart := false }
def FnCountedSaid : Prop := fnCountedRow.holds Try.pinned (OpenSpec.ofChange fnCountedSpec)

/-- ITS FALSE NEIGHBOUR: 'it returns false'. Refute it at one input. -/
def fnCountedWrong : ChangeSpec := { name := "fnCounted", fn := fun _ => fun
  | [d1, d2] => { results := [.lit (.bool false)], args := [d1, d2] }
  | _ => none }
def FnCountedWrongFalsely : Prop := fnCountedRow.holds Try.pinned (OpenSpec.ofChange fnCountedWrong)

/-- 'laws.FnSamples': WHATEVER THE INPUT: true; the input reads as it did. -/
def fnSamplesSpec : ChangeSpec := { name := "fnSamples", fn := fun _ => fun
  | [d1, d2] => { results := [.lit (.bool true)], args := [d1, d2] }
  | _ => none }
def fnSamplesRow : OpenClaim := { program := "ytibdnhjldifpaaa", sum := "9ec224638e2cc9a36f55a18b235eaa6565821876e1a083cb0160bf6bf9918904", func := "loop.example/g01213/laws.FnSamples", spec := "fnSamples", inPlace := ["math.RoundToEven"], unfollowed := true, recurses := true, apart := false }
def FnSamplesSaid : Prop := fnSamplesRow.holds Try.pinned (OpenSpec.ofChange fnSamplesSpec)

/-- ITS FALSE NEIGHBOUR: 'it returns false'. Refute it at one input. -/
def fnSamplesWrong : ChangeSpec := { name := "fnSamples", fn := fun _ => fun
  | [d1, d2] => { results := [.lit (.bool false)], args := [d1, d2] }
  | _ => none }
def FnSamplesWrongFalsely : Prop := fnSamplesRow.holds Try.pinned (OpenSpec.ofChange fnSamplesWrong)

/-- 'laws.FnGauged': WHATEVER THE INPUT: true; the input reads as it did. -/
def fnGaugedSpec : ChangeSpec := { name := "fnGauged", fn := fun _ => fun
  | [d1, d2] => { results := [.lit (.bool true)], args := [d1, d2] }
  | _ => none }
def fnGaugedRow : OpenClaim := { program := "ytibdnhjldifpaaa", sum := "9ec224638e2cc9a36f55a18b235eaa6565821876e1a083cb0160bf6bf9918904", func := "loop.example/g01213/laws.FnGauged", spec := "fnGauged", inPlace := ["math.RoundToEven", "math.Float32bits", "math.Float64bits", "math.Float64frombits"], unfollowed := true, recurses := true, apart := false }
def FnGaugedSaid : Prop := fnGaugedRow.holds Try.pinned (OpenSpec.ofChange fnGaugedSpec)

/-- ITS FALSE NEIGHBOUR: 'it returns false'. Refute it at one input. -/
def fnGaugedWrong : ChangeSpec := { name := "fnGauged", fn := fun _ => fun
  | [d1, d2] => { results := [.lit (.bool false)], args := [d1, d2] }
  | _ => none }
def FnGaugedWrongFalsely : Prop := fnGaugedRow.holds Try.pinned (OpenSpec.ofChange fnGaugedWrong)

/- THE SECOND FORM. 'bulk': how many values and letters a reading holds, each counted each time it is reached (what is shared counts as often as it is met; a slice's spare places count too). A statement '..UptoSaid' is the law's where the arguments, and the package variables that the reading takes, are together of bulk at most 1048576: NARROWER than '..Said'. Prove '..Said' where nothing that the law and all that it calls make is longer than what came in: it says more and counts as full. Else prove '..UptoSaid'. A law counts once. -/
mutual
def uptoBulk {H : Type} : DataW H → Nat
  | .lit (.string bytes) => bytes.length + 1
  | .lit _ => 1
  | .nil => 1
  | .ptr d => uptoBulk d + 1
  | .slice elems spare => uptoBulkAll elems + uptoBulkAll spare + 1
  | .agg parts => uptoBulkAll parts + 1
  | .iface _ d => uptoBulk d + 1
  | .map entries => uptoBulkEntries entries + 1
  | .held _ => 1
def uptoBulkAll {H : Type} : List (DataW H) → Nat
  | [] => 0
  | d :: r => uptoBulk d + uptoBulkAll r
def uptoBulkEntries {H : Type} : List (Lit × DataW H) → Nat
  | [] => 0
  | x :: r => uptoBulkEntry x + uptoBulkEntries r
def uptoBulkEntry {H : Type} : Lit × DataW H → Nat
  | (.string bytes, d) => bytes.length + uptoBulk d + 1
  | (_, d) => uptoBulk d + 1
 end
def uptoSmall : (H : Type) → List (DataW H) → Bool := fun _ ds => decide (uptoBulkAll ds ≤ 1048576)
def OpenSpec.upto (s : _root_.Go.ChangeSpec) : _root_.Go.OpenSpec := { _root_.Go.OpenSpec.ofChange s with cond := some uptoSmall }

/-- 'laws.FnExactCurvesOf', WHERE WHAT IT READS IS OF BULK AT MOST 1048576: true; the input reads as it did. -/
def fnExactCurvesOfUptoRow : OpenClaim := { program := "ytibdnhjldifpaaa", sum := "9ec224638e2cc9a36f55a18b235eaa6565821876e1a083cb0160bf6bf9918904", func := "loop.example/g01213/laws.FnExactCurvesOf", spec := "fnExactCurvesOf", unfollowed := true, recurses := true, apart := false, narrowed := true }
def FnExactCurvesOfUptoSaid : Prop := fnExactCurvesOfUptoRow.holds Try.pinned (OpenSpec.upto fnExactCurvesOfSpec)

/-- 'laws.FnExactMiddleCounts', WHERE WHAT IT READS IS OF BULK AT MOST 1048576: true; the input reads as it did. -/
def fnExactMiddleCountsUptoRow : OpenClaim := { program := "ytibdnhjldifpaaa", sum := "9ec224638e2cc9a36f55a18b235eaa6565821876e1a083cb0160bf6bf9918904", func := "loop.example/g01213/laws.FnExactMiddleCounts", spec := "fnExactMiddleCounts", recurses := true, apart := false, narrowed := true }
def FnExactMiddleCountsUptoSaid : Prop := fnExactMiddleCountsUptoRow.holds Try.pinned (OpenSpec.upto fnExactMiddleCountsSpec)

/-- 'laws.FnExactWithoutFar', WHERE WHAT IT READS IS OF BULK AT MOST 1048576: true; the input reads as it did. -/
def fnExactWithoutFarUptoRow : OpenClaim := { program := "ytibdnhjldifpaaa", sum := "9ec224638e2cc9a36f55a18b235eaa6565821876e1a083cb0160bf6bf9918904", func := "loop.example/g01213/laws.FnExactWithoutFar", spec := "fnExactWithoutFar", recurses := true, apart := false, narrowed := true }
def FnExactWithoutFarUptoSaid : Prop := fnExactWithoutFarUptoRow.holds Try.pinned (OpenSpec.upto fnExactWithoutFarSpec)

/-- 'laws.FnExactPacketOf', WHERE WHAT IT READS IS OF BULK AT MOST 1048576: true; the input reads as it did. -/
def fnExactPacketOfUptoRow : OpenClaim := { program := "ytibdnhjldifpaaa", sum := "9ec224638e2cc9a36f55a18b235eaa6565821876e1a083cb0160bf6bf9918904", func := "loop.example/g01213/laws.FnExactPacketOf", spec := "fnExactPacketOf", apart := false, narrowed := true }
def FnExactPacketOfUptoSaid : Prop := fnExactPacketOfUptoRow.holds Try.pinned (OpenSpec.upto fnExactPacketOfSpec)

/-- 'laws.FnExactReadPacket', WHERE WHAT IT READS IS OF BULK AT MOST 1048576: true; the input reads as it did. -/
def fnExactReadPacketUptoRow : OpenClaim := { program := "ytibdnhjldifpaaa", sum := "9ec224638e2cc9a36f55a18b235eaa6565821876e1a083cb0160bf6bf9918904", func := "loop.example/g01213/laws.FnExactReadPacket", spec := "fnExactReadPacket", unfollowed := true, recurses := true, apart := false, narrowed := true }
def FnExactReadPacketUptoSaid : Prop := fnExactReadPacketUptoRow.holds Try.pinned (OpenSpec.upto fnExactReadPacketSpec)

/-- 'laws.FnExactTornSamples', WHERE WHAT IT READS IS OF BULK AT MOST 1048576: true; the input reads as it did. -/
def fnExactTornSamplesUptoRow : OpenClaim := { program := "ytibdnhjldifpaaa", sum := "9ec224638e2cc9a36f55a18b235eaa6565821876e1a083cb0160bf6bf9918904", func := "loop.example/g01213/laws.FnExactTornSamples", spec := "fnExactTornSamples", unfollowed := true, recurses := true, apart := false, narrowed := true }
def FnExactTornSamplesUptoSaid : Prop := fnExactTornSamplesUptoRow.holds Try.pinned (OpenSpec.upto fnExactTornSamplesSpec)

/-- 'laws.FnCounted', WHERE WHAT IT READS IS OF BULK AT MOST 1048576: true; the input reads as it did. -/
def fnCountedUptoRow : OpenClaim := { program := "ytibdnhjldifpaaa", sum := "9ec224638e2cc9a36f55a18b235eaa6565821876e1a083cb0160bf6bf9918904", func := "loop.example/g01213/laws.FnCounted", spec := "fnCounted", inPlace := ["math.Float64bits", "math.Float64frombits", "math.RoundToEven", "math.Float32bits"], unfollowed := true, recurses := true, apart := false, narrowed := true }
def FnCountedUptoSaid : Prop := fnCountedUptoRow.holds Try.pinned (OpenSpec.upto fnCountedSpec)

/-- 'laws.FnSamples', WHERE WHAT IT READS IS OF BULK AT MOST 1048576: true; the input reads as it did. -/
def fnSamplesUptoRow : OpenClaim := { program := "ytibdnhjldifpaaa", sum := "9ec224638e2cc9a36f55a18b235eaa6565821876e1a083cb0160bf6bf9918904", func := "loop.example/g01213/laws.FnSamples", spec := "fnSamples", inPlace := ["math.RoundToEven"], unfollowed := true, recurses := true, apart := false, narrowed := true }
def FnSamplesUptoSaid : Prop := fnSamplesUptoRow.holds Try.pinned (OpenSpec.upto fnSamplesSpec)

/-- 'laws.FnGauged', WHERE WHAT IT READS IS OF BULK AT MOST 1048576: true; the input reads as it did. -/
def fnGaugedUptoRow : OpenClaim := { program := "ytibdnhjldifpaaa", sum := "9ec224638e2cc9a36f55a18b235eaa6565821876e1a083cb0160bf6bf9918904", func := "loop.example/g01213/laws.FnGauged", spec := "fnGauged", inPlace := ["math.RoundToEven", "math.Float32bits", "math.Float64bits", "math.Float64frombits"], unfollowed := true, recurses := true, apart := false, narrowed := true }
def FnGaugedUptoSaid : Prop := fnGaugedUptoRow.holds Try.pinned (OpenSpec.upto fnGaugedSpec)

end Rows
end Go.Proofs.Ytibdnhjldifpaaa
