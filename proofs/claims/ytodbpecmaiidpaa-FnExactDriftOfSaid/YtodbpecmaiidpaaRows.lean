/-
  No cell of these rows narrows 'for every input' (looked for: loops, veiled, ifaces, maps, wideKeys, modest, calm, conditions, laid).
  DERIVED. THE GIVEN ROWS OF THIS SEAT. 12 by the template 'for every input the law returns true; each argument reads behind the call as it read before'; 0 by the template 'total and deterministic' (their statements: YtodbpecmaiidpaaTotals.lean).
  GIVEN WITH THE SEED: the statements are not yours to turn. If you find one false, say at which input.
  Laid BY PROGRAM, IN A SANDBOX (cutbox-rows.mjs): the forced cells as the released guide's own fill.sh prints them over the translation 45735905390ffc8c… (all of the seat's roots in one cut). By AI agents, Wed Nov 11 2026. No macro, syntax, notation, axiom, sorry.
-/
import Derived.Test.YtodbpecmaiidpaaChecked
import GoSem.Claim
import GoSem.ClaimJoined
import GoSem.ClaimMapViews
import Derived.JoinedTies
import Derived.KernelRfl
namespace Go.Proofs.Ytodbpecmaiidpaa
/- THE CELL 'sum', in the pinned program and in every row, IS THE sha256 OF THE DUMP (.gsa) THAT YtodbpecmaiidpaaProg.lean LOADS. Nothing in Lean hashes anything: it is a label: what it is worth is what the hold of that sum in a sandbox is worth. -/
noncomputable def Try.pinned : Pinned := { name := "ytodbpecmaiidpaa", sum := "45735905390ffc8cc941dc6e9796dd3102e30d73a2e7ce9d0aac98e65b8324f9", checked := Try.checked }
namespace Rows
def none {H : Type} : Left H := { results := [], args := [] }

/-- 'laws.FnExactToCount': WHATEVER THE INPUT: true; the input reads as it did. -/
def fnExactToCountSpec : ChangeSpec := { name := "fnExactToCount", fn := fun _ => fun
  | [d] => { results := [.lit (.bool true)], args := [d] }
  | _ => none }
def fnExactToCountRow : OpenClaim := { program := "ytodbpecmaiidpaa", sum := "45735905390ffc8cc941dc6e9796dd3102e30d73a2e7ce9d0aac98e65b8324f9", func := "loop.example/g01213/laws.FnExactToCount", spec := "fnExactToCount", inPlace := ["math.RoundToEven"], apart := false }
def FnExactToCountSaid : Prop := fnExactToCountRow.holds Try.pinned (OpenSpec.ofChange fnExactToCountSpec)

/-- ITS FALSE NEIGHBOUR: 'it returns false'. Refute it at one input. -/
def fnExactToCountWrong : ChangeSpec := { name := "fnExactToCount", fn := fun _ => fun
  | [d] => { results := [.lit (.bool false)], args := [d] }
  | _ => none }
def FnExactToCountWrongFalsely : Prop := fnExactToCountRow.holds Try.pinned (OpenSpec.ofChange fnExactToCountWrong)

/-- 'laws.FnExactValidGauge': WHATEVER THE INPUT: true; the input reads as it did. -/
def fnExactValidGaugeSpec : ChangeSpec := { name := "fnExactValidGauge", fn := fun _ => fun
  | [d] => { results := [.lit (.bool true)], args := [d] }
  | _ => none }
def fnExactValidGaugeRow : OpenClaim := { program := "ytodbpecmaiidpaa", sum := "45735905390ffc8cc941dc6e9796dd3102e30d73a2e7ce9d0aac98e65b8324f9", func := "loop.example/g01213/laws.FnExactValidGauge", spec := "fnExactValidGauge", unfollowed := true, recurses := true, apart := false }
def FnExactValidGaugeSaid : Prop := fnExactValidGaugeRow.holds Try.pinned (OpenSpec.ofChange fnExactValidGaugeSpec)

/-- ITS FALSE NEIGHBOUR: 'it returns false'. Refute it at one input. -/
def fnExactValidGaugeWrong : ChangeSpec := { name := "fnExactValidGauge", fn := fun _ => fun
  | [d] => { results := [.lit (.bool false)], args := [d] }
  | _ => none }
def FnExactValidGaugeWrongFalsely : Prop := fnExactValidGaugeRow.holds Try.pinned (OpenSpec.ofChange fnExactValidGaugeWrong)

/-- 'laws.FnExactSameGauge': WHATEVER THE INPUT: true; the input reads as it did. -/
def fnExactSameGaugeSpec : ChangeSpec := { name := "fnExactSameGauge", fn := fun _ => fun
  | [d1, d2] => { results := [.lit (.bool true)], args := [d1, d2] }
  | _ => none }
def fnExactSameGaugeRow : OpenClaim := { program := "ytodbpecmaiidpaa", sum := "45735905390ffc8cc941dc6e9796dd3102e30d73a2e7ce9d0aac98e65b8324f9", func := "loop.example/g01213/laws.FnExactSameGauge", spec := "fnExactSameGauge", inPlace := ["math.Float32bits"], unfollowed := true, recurses := true, apart := false }
def FnExactSameGaugeSaid : Prop := fnExactSameGaugeRow.holds Try.pinned (OpenSpec.ofChange fnExactSameGaugeSpec)

/-- ITS FALSE NEIGHBOUR: 'it returns false'. Refute it at one input. -/
def fnExactSameGaugeWrong : ChangeSpec := { name := "fnExactSameGauge", fn := fun _ => fun
  | [d1, d2] => { results := [.lit (.bool false)], args := [d1, d2] }
  | _ => none }
def FnExactSameGaugeWrongFalsely : Prop := fnExactSameGaugeRow.holds Try.pinned (OpenSpec.ofChange fnExactSameGaugeWrong)

/-- 'laws.FnExactIsSaturated': WHATEVER THE INPUT: true; the input reads as it did. -/
def fnExactIsSaturatedSpec : ChangeSpec := { name := "fnExactIsSaturated", fn := fun _ => fun
  | [d] => { results := [.lit (.bool true)], args := [d] }
  | _ => none }
def fnExactIsSaturatedRow : OpenClaim := { program := "ytodbpecmaiidpaa", sum := "45735905390ffc8cc941dc6e9796dd3102e30d73a2e7ce9d0aac98e65b8324f9", func := "loop.example/g01213/laws.FnExactIsSaturated", spec := "fnExactIsSaturated", unfollowed := true, recurses := true, apart := false }
def FnExactIsSaturatedSaid : Prop := fnExactIsSaturatedRow.holds Try.pinned (OpenSpec.ofChange fnExactIsSaturatedSpec)

/-- ITS FALSE NEIGHBOUR: 'it returns false'. Refute it at one input. -/
def fnExactIsSaturatedWrong : ChangeSpec := { name := "fnExactIsSaturated", fn := fun _ => fun
  | [d] => { results := [.lit (.bool false)], args := [d] }
  | _ => none }
def FnExactIsSaturatedWrongFalsely : Prop := fnExactIsSaturatedRow.holds Try.pinned (OpenSpec.ofChange fnExactIsSaturatedWrong)

/-- 'laws.FnExactShakeCounts': WHATEVER THE INPUT: true; the input reads as it did. -/
def fnExactShakeCountsSpec : ChangeSpec := { name := "fnExactShakeCounts", fn := fun _ => fun
  | [d1, d2, d3] => { results := [.lit (.bool true)], args := [d1, d2, d3] }
  | _ => none }
def fnExactShakeCountsRow : OpenClaim := { program := "ytodbpecmaiidpaa", sum := "45735905390ffc8cc941dc6e9796dd3102e30d73a2e7ce9d0aac98e65b8324f9", func := "loop.example/g01213/laws.FnExactShakeCounts", spec := "fnExactShakeCounts", apart := false }
def FnExactShakeCountsSaid : Prop := fnExactShakeCountsRow.holds Try.pinned (OpenSpec.ofChange fnExactShakeCountsSpec)

/-- ITS FALSE NEIGHBOUR: 'it returns false'. Refute it at one input. -/
def fnExactShakeCountsWrong : ChangeSpec := { name := "fnExactShakeCounts", fn := fun _ => fun
  | [d1, d2, d3] => { results := [.lit (.bool false)], args := [d1, d2, d3] }
  | _ => none }
def FnExactShakeCountsWrongFalsely : Prop := fnExactShakeCountsRow.holds Try.pinned (OpenSpec.ofChange fnExactShakeCountsWrong)

/-- 'laws.FnExactValidSamples': WHATEVER THE INPUT: true; the input reads as it did. -/
def fnExactValidSamplesSpec : ChangeSpec := { name := "fnExactValidSamples", fn := fun _ => fun
  | [d] => { results := [.lit (.bool true)], args := [d] }
  | _ => none }
def fnExactValidSamplesRow : OpenClaim := { program := "ytodbpecmaiidpaa", sum := "45735905390ffc8cc941dc6e9796dd3102e30d73a2e7ce9d0aac98e65b8324f9", func := "loop.example/g01213/laws.FnExactValidSamples", spec := "fnExactValidSamples", apart := false }
def FnExactValidSamplesSaid : Prop := fnExactValidSamplesRow.holds Try.pinned (OpenSpec.ofChange fnExactValidSamplesSpec)

/-- ITS FALSE NEIGHBOUR: 'it returns false'. Refute it at one input. -/
def fnExactValidSamplesWrong : ChangeSpec := { name := "fnExactValidSamples", fn := fun _ => fun
  | [d] => { results := [.lit (.bool false)], args := [d] }
  | _ => none }
def FnExactValidSamplesWrongFalsely : Prop := fnExactValidSamplesRow.holds Try.pinned (OpenSpec.ofChange fnExactValidSamplesWrong)

/-- 'laws.FnExactLampLeft': WHATEVER THE INPUT: true; the input reads as it did. -/
def fnExactLampLeftSpec : ChangeSpec := { name := "fnExactLampLeft", fn := fun _ => fun
  | [d1, d2] => { results := [.lit (.bool true)], args := [d1, d2] }
  | _ => none }
def fnExactLampLeftRow : OpenClaim := { program := "ytodbpecmaiidpaa", sum := "45735905390ffc8cc941dc6e9796dd3102e30d73a2e7ce9d0aac98e65b8324f9", func := "loop.example/g01213/laws.FnExactLampLeft", spec := "fnExactLampLeft", unfollowed := true, recurses := true, apart := false }
def FnExactLampLeftSaid : Prop := fnExactLampLeftRow.holds Try.pinned (OpenSpec.ofChange fnExactLampLeftSpec)

/-- ITS FALSE NEIGHBOUR: 'it returns false'. Refute it at one input. -/
def fnExactLampLeftWrong : ChangeSpec := { name := "fnExactLampLeft", fn := fun _ => fun
  | [d1, d2] => { results := [.lit (.bool false)], args := [d1, d2] }
  | _ => none }
def FnExactLampLeftWrongFalsely : Prop := fnExactLampLeftRow.holds Try.pinned (OpenSpec.ofChange fnExactLampLeftWrong)

/-- 'laws.FnExactCurveOf': WHATEVER THE INPUT: true; the input reads as it did. -/
def fnExactCurveOfSpec : ChangeSpec := { name := "fnExactCurveOf", fn := fun _ => fun
  | [d1, d2, d3] => { results := [.lit (.bool true)], args := [d1, d2, d3] }
  | _ => none }
def fnExactCurveOfRow : OpenClaim := { program := "ytodbpecmaiidpaa", sum := "45735905390ffc8cc941dc6e9796dd3102e30d73a2e7ce9d0aac98e65b8324f9", func := "loop.example/g01213/laws.FnExactCurveOf", spec := "fnExactCurveOf", unfollowed := true, recurses := true, apart := false }
def FnExactCurveOfSaid : Prop := fnExactCurveOfRow.holds Try.pinned (OpenSpec.ofChange fnExactCurveOfSpec)

/-- ITS FALSE NEIGHBOUR: 'it returns false'. Refute it at one input. -/
def fnExactCurveOfWrong : ChangeSpec := { name := "fnExactCurveOf", fn := fun _ => fun
  | [d1, d2, d3] => { results := [.lit (.bool false)], args := [d1, d2, d3] }
  | _ => none }
def FnExactCurveOfWrongFalsely : Prop := fnExactCurveOfRow.holds Try.pinned (OpenSpec.ofChange fnExactCurveOfWrong)

/-- 'laws.FnExactCountsOf': WHATEVER THE INPUT: true; the input reads as it did. -/
def fnExactCountsOfSpec : ChangeSpec := { name := "fnExactCountsOf", fn := fun _ => fun
  | [d1, d2, d3] => { results := [.lit (.bool true)], args := [d1, d2, d3] }
  | _ => none }
def fnExactCountsOfRow : OpenClaim := { program := "ytodbpecmaiidpaa", sum := "45735905390ffc8cc941dc6e9796dd3102e30d73a2e7ce9d0aac98e65b8324f9", func := "loop.example/g01213/laws.FnExactCountsOf", spec := "fnExactCountsOf", inPlace := ["math.RoundToEven", "math.Float64bits", "math.Float64frombits"], unfollowed := true, recurses := true, apart := false }
def FnExactCountsOfSaid : Prop := fnExactCountsOfRow.holds Try.pinned (OpenSpec.ofChange fnExactCountsOfSpec)

/-- ITS FALSE NEIGHBOUR: 'it returns false'. Refute it at one input. -/
def fnExactCountsOfWrong : ChangeSpec := { name := "fnExactCountsOf", fn := fun _ => fun
  | [d1, d2, d3] => { results := [.lit (.bool false)], args := [d1, d2, d3] }
  | _ => none }
def FnExactCountsOfWrongFalsely : Prop := fnExactCountsOfRow.holds Try.pinned (OpenSpec.ofChange fnExactCountsOfWrong)

/-- 'laws.FnExactMeanCounts': WHATEVER THE INPUT: true; the input reads as it did. -/
def fnExactMeanCountsSpec : ChangeSpec := { name := "fnExactMeanCounts", fn := fun _ => fun
  | [d] => { results := [.lit (.bool true)], args := [d] }
  | _ => none }
def fnExactMeanCountsRow : OpenClaim := { program := "ytodbpecmaiidpaa", sum := "45735905390ffc8cc941dc6e9796dd3102e30d73a2e7ce9d0aac98e65b8324f9", func := "loop.example/g01213/laws.FnExactMeanCounts", spec := "fnExactMeanCounts", inPlace := ["math.RoundToEven"], apart := false }
def FnExactMeanCountsSaid : Prop := fnExactMeanCountsRow.holds Try.pinned (OpenSpec.ofChange fnExactMeanCountsSpec)

/-- ITS FALSE NEIGHBOUR: 'it returns false'. Refute it at one input. -/
def fnExactMeanCountsWrong : ChangeSpec := { name := "fnExactMeanCounts", fn := fun _ => fun
  | [d] => { results := [.lit (.bool false)], args := [d] }
  | _ => none }
def FnExactMeanCountsWrongFalsely : Prop := fnExactMeanCountsRow.holds Try.pinned (OpenSpec.ofChange fnExactMeanCountsWrong)

/-- 'laws.FnExactGaugeOf': WHATEVER THE INPUT: true; the input reads as it did. -/
def fnExactGaugeOfSpec : ChangeSpec := { name := "fnExactGaugeOf", fn := fun _ => fun
  | [d1, d2, d3] => { results := [.lit (.bool true)], args := [d1, d2, d3] }
  | _ => none }
def fnExactGaugeOfRow : OpenClaim := { program := "ytodbpecmaiidpaa", sum := "45735905390ffc8cc941dc6e9796dd3102e30d73a2e7ce9d0aac98e65b8324f9", func := "loop.example/g01213/laws.FnExactGaugeOf", spec := "fnExactGaugeOf", inPlace := ["math.RoundToEven"], unfollowed := true, recurses := true, apart := false }
def FnExactGaugeOfSaid : Prop := fnExactGaugeOfRow.holds Try.pinned (OpenSpec.ofChange fnExactGaugeOfSpec)

/-- ITS FALSE NEIGHBOUR: 'it returns false'. Refute it at one input. -/
def fnExactGaugeOfWrong : ChangeSpec := { name := "fnExactGaugeOf", fn := fun _ => fun
  | [d1, d2, d3] => { results := [.lit (.bool false)], args := [d1, d2, d3] }
  | _ => none }
def FnExactGaugeOfWrongFalsely : Prop := fnExactGaugeOfRow.holds Try.pinned (OpenSpec.ofChange fnExactGaugeOfWrong)

/-- 'laws.FnExactDriftOf': WHATEVER THE INPUT: true; the input reads as it did. -/
def fnExactDriftOfSpec : ChangeSpec := { name := "fnExactDriftOf", fn := fun _ => fun
  | [d1, d2] => { results := [.lit (.bool true)], args := [d1, d2] }
  | _ => none }
def fnExactDriftOfRow : OpenClaim := { program := "ytodbpecmaiidpaa", sum := "45735905390ffc8cc941dc6e9796dd3102e30d73a2e7ce9d0aac98e65b8324f9", func := "loop.example/g01213/laws.FnExactDriftOf", spec := "fnExactDriftOf", unfollowed := true, recurses := true, apart := false }
def FnExactDriftOfSaid : Prop := fnExactDriftOfRow.holds Try.pinned (OpenSpec.ofChange fnExactDriftOfSpec)

/-- ITS FALSE NEIGHBOUR: 'it returns false'. Refute it at one input. -/
def fnExactDriftOfWrong : ChangeSpec := { name := "fnExactDriftOf", fn := fun _ => fun
  | [d1, d2] => { results := [.lit (.bool false)], args := [d1, d2] }
  | _ => none }
def FnExactDriftOfWrongFalsely : Prop := fnExactDriftOfRow.holds Try.pinned (OpenSpec.ofChange fnExactDriftOfWrong)

/- THE SECOND FORM. 'bulk': how many values and letters a reading holds, each counted each time it is reached (what is shared counts as often as it is met; a slice's spare places count too). A statement '..UptoSaid' is the law's where the arguments, and the package variables that the reading takes, are together of bulk at most 1048576: NARROWER than '..Said'. Prove '..Said' where nothing that the law and all that it calls make is longer than what came in: it says more and counts as full. Else prove '..UptoSaid'. A law counts once. -/
mutual
def uptoBulk {H : Type} : DataW H → Nat
  | .lit (.string bytes) => bytes.length + 1
  | .lit _ => 1
  | .nil => 1
  | .ptr d => uptoBulk d + 1
  | .slice elems spare => uptoBulkAll elems + uptoBulkAll spare + 1
  | .agg parts => uptoBulkAll parts + 1
  | .iface _ d => uptoBulk d + 1
  | .map entries => uptoBulkEntries entries + 1
  | .held _ => 1
def uptoBulkAll {H : Type} : List (DataW H) → Nat
  | [] => 0
  | d :: r => uptoBulk d + uptoBulkAll r
def uptoBulkEntries {H : Type} : List (Lit × DataW H) → Nat
  | [] => 0
  | x :: r => uptoBulkEntry x + uptoBulkEntries r
def uptoBulkEntry {H : Type} : Lit × DataW H → Nat
  | (.string bytes, d) => bytes.length + uptoBulk d + 1
  | (_, d) => uptoBulk d + 1
 end
def uptoSmall : (H : Type) → List (DataW H) → Bool := fun _ ds => decide (uptoBulkAll ds ≤ 1048576)
def OpenSpec.upto (s : _root_.Go.ChangeSpec) : _root_.Go.OpenSpec := { _root_.Go.OpenSpec.ofChange s with cond := some uptoSmall }

/-- 'laws.FnExactToCount', WHERE WHAT IT READS IS OF BULK AT MOST 1048576: true; the input reads as it did. -/
def fnExactToCountUptoRow : OpenClaim := { program := "ytodbpecmaiidpaa", sum := "45735905390ffc8cc941dc6e9796dd3102e30d73a2e7ce9d0aac98e65b8324f9", func := "loop.example/g01213/laws.FnExactToCount", spec := "fnExactToCount", inPlace := ["math.RoundToEven"], apart := false, narrowed := true }
def FnExactToCountUptoSaid : Prop := fnExactToCountUptoRow.holds Try.pinned (OpenSpec.upto fnExactToCountSpec)

/-- 'laws.FnExactValidGauge', WHERE WHAT IT READS IS OF BULK AT MOST 1048576: true; the input reads as it did. -/
def fnExactValidGaugeUptoRow : OpenClaim := { program := "ytodbpecmaiidpaa", sum := "45735905390ffc8cc941dc6e9796dd3102e30d73a2e7ce9d0aac98e65b8324f9", func := "loop.example/g01213/laws.FnExactValidGauge", spec := "fnExactValidGauge", unfollowed := true, recurses := true, apart := false, narrowed := true }
def FnExactValidGaugeUptoSaid : Prop := fnExactValidGaugeUptoRow.holds Try.pinned (OpenSpec.upto fnExactValidGaugeSpec)

/-- 'laws.FnExactSameGauge', WHERE WHAT IT READS IS OF BULK AT MOST 1048576: true; the input reads as it did. -/
def fnExactSameGaugeUptoRow : OpenClaim := { program := "ytodbpecmaiidpaa", sum := "45735905390ffc8cc941dc6e9796dd3102e30d73a2e7ce9d0aac98e65b8324f9", func := "loop.example/g01213/laws.FnExactSameGauge", spec := "fnExactSameGauge", inPlace := ["math.Float32bits"], unfollowed := true, recurses := true, apart := false, narrowed := true }
def FnExactSameGaugeUptoSaid : Prop := fnExactSameGaugeUptoRow.holds Try.pinned (OpenSpec.upto fnExactSameGaugeSpec)

/-- 'laws.FnExactIsSaturated', WHERE WHAT IT READS IS OF BULK AT MOST 1048576: true; the input reads as it did. -/
def fnExactIsSaturatedUptoRow : OpenClaim := { program := "ytodbpecmaiidpaa", sum := "45735905390ffc8cc941dc6e9796dd3102e30d73a2e7ce9d0aac98e65b8324f9", func := "loop.example/g01213/laws.FnExactIsSaturated", spec := "fnExactIsSaturated", unfollowed := true, recurses := true, apart := false, narrowed := true }
def FnExactIsSaturatedUptoSaid : Prop := fnExactIsSaturatedUptoRow.holds Try.pinned (OpenSpec.upto fnExactIsSaturatedSpec)

/-- 'laws.FnExactShakeCounts', WHERE WHAT IT READS IS OF BULK AT MOST 1048576: true; the input reads as it did. -/
def fnExactShakeCountsUptoRow : OpenClaim := { program := "ytodbpecmaiidpaa", sum := "45735905390ffc8cc941dc6e9796dd3102e30d73a2e7ce9d0aac98e65b8324f9", func := "loop.example/g01213/laws.FnExactShakeCounts", spec := "fnExactShakeCounts", apart := false, narrowed := true }
def FnExactShakeCountsUptoSaid : Prop := fnExactShakeCountsUptoRow.holds Try.pinned (OpenSpec.upto fnExactShakeCountsSpec)

/-- 'laws.FnExactValidSamples', WHERE WHAT IT READS IS OF BULK AT MOST 1048576: true; the input reads as it did. -/
def fnExactValidSamplesUptoRow : OpenClaim := { program := "ytodbpecmaiidpaa", sum := "45735905390ffc8cc941dc6e9796dd3102e30d73a2e7ce9d0aac98e65b8324f9", func := "loop.example/g01213/laws.FnExactValidSamples", spec := "fnExactValidSamples", apart := false, narrowed := true }
def FnExactValidSamplesUptoSaid : Prop := fnExactValidSamplesUptoRow.holds Try.pinned (OpenSpec.upto fnExactValidSamplesSpec)

/-- 'laws.FnExactLampLeft', WHERE WHAT IT READS IS OF BULK AT MOST 1048576: true; the input reads as it did. -/
def fnExactLampLeftUptoRow : OpenClaim := { program := "ytodbpecmaiidpaa", sum := "45735905390ffc8cc941dc6e9796dd3102e30d73a2e7ce9d0aac98e65b8324f9", func := "loop.example/g01213/laws.FnExactLampLeft", spec := "fnExactLampLeft", unfollowed := true, recurses := true, apart := false, narrowed := true }
def FnExactLampLeftUptoSaid : Prop := fnExactLampLeftUptoRow.holds Try.pinned (OpenSpec.upto fnExactLampLeftSpec)

/-- 'laws.FnExactCurveOf', WHERE WHAT IT READS IS OF BULK AT MOST 1048576: true; the input reads as it did. -/
def fnExactCurveOfUptoRow : OpenClaim := { program := "ytodbpecmaiidpaa", sum := "45735905390ffc8cc941dc6e9796dd3102e30d73a2e7ce9d0aac98e65b8324f9", func := "loop.example/g01213/laws.FnExactCurveOf", spec := "fnExactCurveOf", unfollowed := true, recurses := true, apart := false, narrowed := true }
def FnExactCurveOfUptoSaid : Prop := fnExactCurveOfUptoRow.holds Try.pinned (OpenSpec.upto fnExactCurveOfSpec)

/-- 'laws.FnExactCountsOf', WHERE WHAT IT READS IS OF BULK AT MOST 1048576: true; the input reads as it did. -/
def fnExactCountsOfUptoRow : OpenClaim := { program := "ytodbpecmaiidpaa", sum := "45735905390ffc8cc941dc6e9796dd3102e30d73a2e7ce9d0aac98e65b8324f9", func := "loop.example/g01213/laws.FnExactCountsOf", spec := "fnExactCountsOf", inPlace := ["math.RoundToEven", "math.Float64bits", "math.Float64frombits"], unfollowed := true, recurses := true, apart := false, narrowed := true }
def FnExactCountsOfUptoSaid : Prop := fnExactCountsOfUptoRow.holds Try.pinned (OpenSpec.upto fnExactCountsOfSpec)

/-- 'laws.FnExactMeanCounts', WHERE WHAT IT READS IS OF BULK AT MOST 1048576: true; the input reads as it did. -/
def fnExactMeanCountsUptoRow : OpenClaim := { program := "ytodbpecmaiidpaa", sum := "45735905390ffc8cc941dc6e9796dd3102e30d73a2e7ce9d0aac98e65b8324f9", func := "loop.example/g01213/laws.FnExactMeanCounts", spec := "fnExactMeanCounts", inPlace := ["math.RoundToEven"], apart := false, narrowed := true }
def FnExactMeanCountsUptoSaid : Prop := fnExactMeanCountsUptoRow.holds Try.pinned (OpenSpec.upto fnExactMeanCountsSpec)

/-- 'laws.FnExactGaugeOf', WHERE WHAT IT READS IS OF BULK AT MOST 1048576: true; the input reads as it did. -/
def fnExactGaugeOfUptoRow : OpenClaim := { program := "ytodbpecmaiidpaa", sum := "45735905390ffc8cc941dc6e9796dd3102e30d73a2e7ce9d0aac98e65b8324f9", func := "loop.example/g01213/laws.FnExactGaugeOf", spec := "fnExactGaugeOf", inPlace := ["math.RoundToEven"], unfollowed := true, recurses := true, apart := false, narrowed := true }
def FnExactGaugeOfUptoSaid : Prop := fnExactGaugeOfUptoRow.holds Try.pinned (OpenSpec.upto fnExactGaugeOfSpec)

/-- 'laws.FnExactDriftOf', WHERE WHAT IT READS IS OF BULK AT MOST 1048576: true; the input reads as it did. -/
def fnExactDriftOfUptoRow : OpenClaim := { program := "ytodbpecmaiidpaa", sum := "45735905390ffc8cc941dc6e9796dd3102e30d73a2e7ce9d0aac98e65b8324f9", func := "loop.example/g01213/laws.FnExactDriftOf", spec := "fnExactDriftOf", unfollowed := true, recurses := true, apart := false, narrowed := true }
def FnExactDriftOfUptoSaid : Prop := fnExactDriftOfUptoRow.holds Try.pinned (OpenSpec.upto fnExactDriftOfSpec)

end Rows
end Go.Proofs.Ytodbpecmaiidpaa
