/-
  No cell of these rows narrows 'for every input' (looked for: loops, veiled, ifaces, maps, wideKeys, modest, calm, conditions, laid).
  DERIVED. THE GIVEN ROWS OF THIS SEAT. 14 by the template 'for every input the law returns true; each argument reads behind the call as it read before'; 0 by the template 'total and deterministic' (their statements: YtpechflfloolkaaTotals.lean).
  GIVEN WITH THE SEED: the statements are not yours to turn. If you find one false, say at which input.
  Laid BY PROGRAM, IN A SANDBOX (cutbox-rows.mjs): the forced cells as the released guide's own fill.sh prints them over the translation 76254768c14ca25b… (all of the seat's roots in one cut). By AI agents, Wed Nov 11 2026. No macro, syntax, notation, axiom, sorry.
-/
import Derived.Test.YtpechflfloolkaaChecked
import GoSem.Claim
import GoSem.ClaimJoined
import GoSem.ClaimMapViews
import Derived.JoinedTies
import Derived.KernelRfl
namespace Go.Proofs.Ytpechflfloolkaa
/- THE CELL 'sum', in the pinned program and in every row, IS THE sha256 OF THE DUMP (.gsa) THAT YtpechflfloolkaaProg.lean LOADS. Nothing in Lean hashes anything: it is a label: what it is worth is what the hold of that sum in a sandbox is worth. -/
noncomputable def Try.pinned : Pinned := { name := "ytpechflfloolkaa", sum := "76254768c14ca25b69001cd442d22eff01b361745bf6b8c40c70e325371f86d4", checked := Try.checked }
namespace Rows
def none {H : Type} : Left H := { results := [], args := [] }

/-- 'laws.FnExactValidPress': WHATEVER THE INPUT: true; the input reads as it did. -/
def fnExactValidPressSpec : ChangeSpec := { name := "fnExactValidPress", fn := fun _ => fun
  | [d] => { results := [.lit (.bool true)], args := [d] }
  | _ => none }
def fnExactValidPressRow : OpenClaim := { program := "ytpechflfloolkaa", sum := "76254768c14ca25b69001cd442d22eff01b361745bf6b8c40c70e325371f86d4", func := "loop.example/g01213/laws.FnExactValidPress", spec := "fnExactValidPress", unfollowed := true, recurses := true, apart := false }
def FnExactValidPressSaid : Prop := fnExactValidPressRow.holds Try.pinned (OpenSpec.ofChange fnExactValidPressSpec)

/-- ITS FALSE NEIGHBOUR: 'it returns false'. Refute it at one input. -/
def fnExactValidPressWrong : ChangeSpec := { name := "fnExactValidPress", fn := fun _ => fun
  | [d] => { results := [.lit (.bool false)], args := [d] }
  | _ => none }
def FnExactValidPressWrongFalsely : Prop := fnExactValidPressRow.holds Try.pinned (OpenSpec.ofChange fnExactValidPressWrong)

/-- 'laws.FnExactSamePress': WHATEVER THE INPUT: true; the input reads as it did. -/
def fnExactSamePressSpec : ChangeSpec := { name := "fnExactSamePress", fn := fun _ => fun
  | [d1, d2] => { results := [.lit (.bool true)], args := [d1, d2] }
  | _ => none }
def fnExactSamePressRow : OpenClaim := { program := "ytpechflfloolkaa", sum := "76254768c14ca25b69001cd442d22eff01b361745bf6b8c40c70e325371f86d4", func := "loop.example/g01213/laws.FnExactSamePress", spec := "fnExactSamePress", inPlace := ["math.Float32bits"], unfollowed := true, recurses := true, apart := false }
def FnExactSamePressSaid : Prop := fnExactSamePressRow.holds Try.pinned (OpenSpec.ofChange fnExactSamePressSpec)

/-- ITS FALSE NEIGHBOUR: 'it returns false'. Refute it at one input. -/
def fnExactSamePressWrong : ChangeSpec := { name := "fnExactSamePress", fn := fun _ => fun
  | [d1, d2] => { results := [.lit (.bool false)], args := [d1, d2] }
  | _ => none }
def FnExactSamePressWrongFalsely : Prop := fnExactSamePressRow.holds Try.pinned (OpenSpec.ofChange fnExactSamePressWrong)

/-- 'laws.FnExactTileOf': WHATEVER THE INPUT: true; the input reads as it did. -/
def fnExactTileOfSpec : ChangeSpec := { name := "fnExactTileOf", fn := fun _ => fun
  | [d] => { results := [.lit (.bool true)], args := [d] }
  | _ => none }
def fnExactTileOfRow : OpenClaim := { program := "ytpechflfloolkaa", sum := "76254768c14ca25b69001cd442d22eff01b361745bf6b8c40c70e325371f86d4", func := "loop.example/g01213/laws.FnExactTileOf", spec := "fnExactTileOf", unfollowed := true, recurses := true, apart := false }
def FnExactTileOfSaid : Prop := fnExactTileOfRow.holds Try.pinned (OpenSpec.ofChange fnExactTileOfSpec)

/-- ITS FALSE NEIGHBOUR: 'it returns false'. Refute it at one input. -/
def fnExactTileOfWrong : ChangeSpec := { name := "fnExactTileOf", fn := fun _ => fun
  | [d] => { results := [.lit (.bool false)], args := [d] }
  | _ => none }
def FnExactTileOfWrongFalsely : Prop := fnExactTileOfRow.holds Try.pinned (OpenSpec.ofChange fnExactTileOfWrong)

/-- 'laws.FnExactPutBlackUnder': WHATEVER THE INPUT: true; the input reads as it did. -/
def fnExactPutBlackUnderSpec : ChangeSpec := { name := "fnExactPutBlackUnder", fn := fun _ => fun
  | [d1, d2] => { results := [.lit (.bool true)], args := [d1, d2] }
  | _ => none }
def fnExactPutBlackUnderRow : OpenClaim := { program := "ytpechflfloolkaa", sum := "76254768c14ca25b69001cd442d22eff01b361745bf6b8c40c70e325371f86d4", func := "loop.example/g01213/laws.FnExactPutBlackUnder", spec := "fnExactPutBlackUnder", apart := false }
def FnExactPutBlackUnderSaid : Prop := fnExactPutBlackUnderRow.holds Try.pinned (OpenSpec.ofChange fnExactPutBlackUnderSpec)

/-- ITS FALSE NEIGHBOUR: 'it returns false'. Refute it at one input. -/
def fnExactPutBlackUnderWrong : ChangeSpec := { name := "fnExactPutBlackUnder", fn := fun _ => fun
  | [d1, d2] => { results := [.lit (.bool false)], args := [d1, d2] }
  | _ => none }
def FnExactPutBlackUnderWrongFalsely : Prop := fnExactPutBlackUnderRow.holds Try.pinned (OpenSpec.ofChange fnExactPutBlackUnderWrong)

/-- 'laws.FnExactAreasOf': WHATEVER THE INPUT: true; the input reads as it did. -/
def fnExactAreasOfSpec : ChangeSpec := { name := "fnExactAreasOf", fn := fun _ => fun
  | [d] => { results := [.lit (.bool true)], args := [d] }
  | _ => none }
def fnExactAreasOfRow : OpenClaim := { program := "ytpechflfloolkaa", sum := "76254768c14ca25b69001cd442d22eff01b361745bf6b8c40c70e325371f86d4", func := "loop.example/g01213/laws.FnExactAreasOf", spec := "fnExactAreasOf", apart := false }
def FnExactAreasOfSaid : Prop := fnExactAreasOfRow.holds Try.pinned (OpenSpec.ofChange fnExactAreasOfSpec)

/-- ITS FALSE NEIGHBOUR: 'it returns false'. Refute it at one input. -/
def fnExactAreasOfWrong : ChangeSpec := { name := "fnExactAreasOf", fn := fun _ => fun
  | [d] => { results := [.lit (.bool false)], args := [d] }
  | _ => none }
def FnExactAreasOfWrongFalsely : Prop := fnExactAreasOfRow.holds Try.pinned (OpenSpec.ofChange fnExactAreasOfWrong)

/-- 'laws.FnExactOverprintOf': WHATEVER THE INPUT: true; the input reads as it did. -/
def fnExactOverprintOfSpec : ChangeSpec := { name := "fnExactOverprintOf", fn := fun _ => fun
  | [d1, d2] => { results := [.lit (.bool true)], args := [d1, d2] }
  | _ => none }
def fnExactOverprintOfRow : OpenClaim := { program := "ytpechflfloolkaa", sum := "76254768c14ca25b69001cd442d22eff01b361745bf6b8c40c70e325371f86d4", func := "loop.example/g01213/laws.FnExactOverprintOf", spec := "fnExactOverprintOf", unfollowed := true, recurses := true, apart := false }
def FnExactOverprintOfSaid : Prop := fnExactOverprintOfRow.holds Try.pinned (OpenSpec.ofChange fnExactOverprintOfSpec)

/-- ITS FALSE NEIGHBOUR: 'it returns false'. Refute it at one input. -/
def fnExactOverprintOfWrong : ChangeSpec := { name := "fnExactOverprintOf", fn := fun _ => fun
  | [d1, d2] => { results := [.lit (.bool false)], args := [d1, d2] }
  | _ => none }
def FnExactOverprintOfWrongFalsely : Prop := fnExactOverprintOfRow.holds Try.pinned (OpenSpec.ofChange fnExactOverprintOfWrong)

/-- 'laws.FnExactLimitInk': WHATEVER THE INPUT: true; the input reads as it did. -/
def fnExactLimitInkSpec : ChangeSpec := { name := "fnExactLimitInk", fn := fun _ => fun
  | [d1, d2] => { results := [.lit (.bool true)], args := [d1, d2] }
  | _ => none }
def fnExactLimitInkRow : OpenClaim := { program := "ytpechflfloolkaa", sum := "76254768c14ca25b69001cd442d22eff01b361745bf6b8c40c70e325371f86d4", func := "loop.example/g01213/laws.FnExactLimitInk", spec := "fnExactLimitInk", inPlace := ["math.Float64bits", "math.Float64frombits"], unfollowed := true, recurses := true, apart := false }
def FnExactLimitInkSaid : Prop := fnExactLimitInkRow.holds Try.pinned (OpenSpec.ofChange fnExactLimitInkSpec)

/-- ITS FALSE NEIGHBOUR: 'it returns false'. Refute it at one input. -/
def fnExactLimitInkWrong : ChangeSpec := { name := "fnExactLimitInk", fn := fun _ => fun
  | [d1, d2] => { results := [.lit (.bool false)], args := [d1, d2] }
  | _ => none }
def FnExactLimitInkWrongFalsely : Prop := fnExactLimitInkRow.holds Try.pinned (OpenSpec.ofChange fnExactLimitInkWrong)

/-- 'laws.FnExactCoverWithGain': WHATEVER THE INPUT: true; the input reads as it did. -/
def fnExactCoverWithGainSpec : ChangeSpec := { name := "fnExactCoverWithGain", fn := fun _ => fun
  | [d1, d2] => { results := [.lit (.bool true)], args := [d1, d2] }
  | _ => none }
def fnExactCoverWithGainRow : OpenClaim := { program := "ytpechflfloolkaa", sum := "76254768c14ca25b69001cd442d22eff01b361745bf6b8c40c70e325371f86d4", func := "loop.example/g01213/laws.FnExactCoverWithGain", spec := "fnExactCoverWithGain", unfollowed := true, recurses := true, apart := false }
def FnExactCoverWithGainSaid : Prop := fnExactCoverWithGainRow.holds Try.pinned (OpenSpec.ofChange fnExactCoverWithGainSpec)

/-- ITS FALSE NEIGHBOUR: 'it returns false'. Refute it at one input. -/
def fnExactCoverWithGainWrong : ChangeSpec := { name := "fnExactCoverWithGain", fn := fun _ => fun
  | [d1, d2] => { results := [.lit (.bool false)], args := [d1, d2] }
  | _ => none }
def FnExactCoverWithGainWrongFalsely : Prop := fnExactCoverWithGainRow.holds Try.pinned (OpenSpec.ofChange fnExactCoverWithGainWrong)

/-- 'laws.FnExactTilesOf': WHATEVER THE INPUT: true; the input reads as it did. -/
def fnExactTilesOfSpec : ChangeSpec := { name := "fnExactTilesOf", fn := fun _ => fun
  | [d] => { results := [.lit (.bool true)], args := [d] }
  | _ => none }
def fnExactTilesOfRow : OpenClaim := { program := "ytpechflfloolkaa", sum := "76254768c14ca25b69001cd442d22eff01b361745bf6b8c40c70e325371f86d4", func := "loop.example/g01213/laws.FnExactTilesOf", spec := "fnExactTilesOf", inPlace := ["math.RoundToEven"], unfollowed := true, recurses := true, apart := false }
def FnExactTilesOfSaid : Prop := fnExactTilesOfRow.holds Try.pinned (OpenSpec.ofChange fnExactTilesOfSpec)

/-- ITS FALSE NEIGHBOUR: 'it returns false'. Refute it at one input. -/
def fnExactTilesOfWrong : ChangeSpec := { name := "fnExactTilesOf", fn := fun _ => fun
  | [d] => { results := [.lit (.bool false)], args := [d] }
  | _ => none }
def FnExactTilesOfWrongFalsely : Prop := fnExactTilesOfRow.holds Try.pinned (OpenSpec.ofChange fnExactTilesOfWrong)

/-- 'laws.FnExactCoverSeen': WHATEVER THE INPUT: true; the input reads as it did. -/
def fnExactCoverSeenSpec : ChangeSpec := { name := "fnExactCoverSeen", fn := fun _ => fun
  | [d1, d2, d3] => { results := [.lit (.bool true)], args := [d1, d2, d3] }
  | _ => none }
def fnExactCoverSeenRow : OpenClaim := { program := "ytpechflfloolkaa", sum := "76254768c14ca25b69001cd442d22eff01b361745bf6b8c40c70e325371f86d4", func := "loop.example/g01213/laws.FnExactCoverSeen", spec := "fnExactCoverSeen", unfollowed := true, recurses := true, apart := false }
def FnExactCoverSeenSaid : Prop := fnExactCoverSeenRow.holds Try.pinned (OpenSpec.ofChange fnExactCoverSeenSpec)

/-- ITS FALSE NEIGHBOUR: 'it returns false'. Refute it at one input. -/
def fnExactCoverSeenWrong : ChangeSpec := { name := "fnExactCoverSeen", fn := fun _ => fun
  | [d1, d2, d3] => { results := [.lit (.bool false)], args := [d1, d2, d3] }
  | _ => none }
def FnExactCoverSeenWrongFalsely : Prop := fnExactCoverSeenRow.holds Try.pinned (OpenSpec.ofChange fnExactCoverSeenWrong)

/-- 'laws.FnExactTileCurve': WHATEVER THE INPUT: true; the input reads as it did. -/
def fnExactTileCurveSpec : ChangeSpec := { name := "fnExactTileCurve", fn := fun _ => fun
  | [d1, d2] => { results := [.lit (.bool true)], args := [d1, d2] }
  | _ => none }
def fnExactTileCurveRow : OpenClaim := { program := "ytpechflfloolkaa", sum := "76254768c14ca25b69001cd442d22eff01b361745bf6b8c40c70e325371f86d4", func := "loop.example/g01213/laws.FnExactTileCurve", spec := "fnExactTileCurve", unfollowed := true, recurses := true, apart := false }
def FnExactTileCurveSaid : Prop := fnExactTileCurveRow.holds Try.pinned (OpenSpec.ofChange fnExactTileCurveSpec)

/-- ITS FALSE NEIGHBOUR: 'it returns false'. Refute it at one input. -/
def fnExactTileCurveWrong : ChangeSpec := { name := "fnExactTileCurve", fn := fun _ => fun
  | [d1, d2] => { results := [.lit (.bool false)], args := [d1, d2] }
  | _ => none }
def FnExactTileCurveWrongFalsely : Prop := fnExactTileCurveRow.holds Try.pinned (OpenSpec.ofChange fnExactTileCurveWrong)

/-- 'laws.FnExactPrintedCurve': WHATEVER THE INPUT: true; the input reads as it did. -/
def fnExactPrintedCurveSpec : ChangeSpec := { name := "fnExactPrintedCurve", fn := fun _ => fun
  | [d1, d2] => { results := [.lit (.bool true)], args := [d1, d2] }
  | _ => none }
def fnExactPrintedCurveRow : OpenClaim := { program := "ytpechflfloolkaa", sum := "76254768c14ca25b69001cd442d22eff01b361745bf6b8c40c70e325371f86d4", func := "loop.example/g01213/laws.FnExactPrintedCurve", spec := "fnExactPrintedCurve", inPlace := ["math.sqrt", "math.Float64bits", "math.Float64frombits"], unfollowed := true, recurses := true, apart := false }
def FnExactPrintedCurveSaid : Prop := fnExactPrintedCurveRow.holds Try.pinned (OpenSpec.ofChange fnExactPrintedCurveSpec)

/-- ITS FALSE NEIGHBOUR: 'it returns false'. Refute it at one input. -/
def fnExactPrintedCurveWrong : ChangeSpec := { name := "fnExactPrintedCurve", fn := fun _ => fun
  | [d1, d2] => { results := [.lit (.bool false)], args := [d1, d2] }
  | _ => none }
def FnExactPrintedCurveWrongFalsely : Prop := fnExactPrintedCurveRow.holds Try.pinned (OpenSpec.ofChange fnExactPrintedCurveWrong)

/-- 'laws.FnExactPrintedLook': WHATEVER THE INPUT: true; the input reads as it did. -/
def fnExactPrintedLookSpec : ChangeSpec := { name := "fnExactPrintedLook", fn := fun _ => fun
  | [d1, d2, d3] => { results := [.lit (.bool true)], args := [d1, d2, d3] }
  | _ => none }
def fnExactPrintedLookRow : OpenClaim := { program := "ytpechflfloolkaa", sum := "76254768c14ca25b69001cd442d22eff01b361745bf6b8c40c70e325371f86d4", func := "loop.example/g01213/laws.FnExactPrintedLook", spec := "fnExactPrintedLook", inPlace := ["math.sqrt", "math.Float64bits", "math.Float64frombits"], unfollowed := true, recurses := true, apart := false }
def FnExactPrintedLookSaid : Prop := fnExactPrintedLookRow.holds Try.pinned (OpenSpec.ofChange fnExactPrintedLookSpec)

/-- ITS FALSE NEIGHBOUR: 'it returns false'. Refute it at one input. -/
def fnExactPrintedLookWrong : ChangeSpec := { name := "fnExactPrintedLook", fn := fun _ => fun
  | [d1, d2, d3] => { results := [.lit (.bool false)], args := [d1, d2, d3] }
  | _ => none }
def FnExactPrintedLookWrongFalsely : Prop := fnExactPrintedLookRow.holds Try.pinned (OpenSpec.ofChange fnExactPrintedLookWrong)

/-- 'laws.FnExactBestCover': WHATEVER THE INPUT: true; the input reads as it did. -/
def fnExactBestCoverSpec : ChangeSpec := { name := "fnExactBestCover", fn := fun _ => fun
  | [d1, d2, d3, d4, d5] => { results := [.lit (.bool true)], args := [d1, d2, d3, d4, d5] }
  | _ => none }
def fnExactBestCoverRow : OpenClaim := { program := "ytpechflfloolkaa", sum := "76254768c14ca25b69001cd442d22eff01b361745bf6b8c40c70e325371f86d4", func := "loop.example/g01213/laws.FnExactBestCover", spec := "fnExactBestCover", inPlace := ["math.sqrt", "math.Float64bits", "math.Float64frombits"], unfollowed := true, recurses := true, apart := false }
def FnExactBestCoverSaid : Prop := fnExactBestCoverRow.holds Try.pinned (OpenSpec.ofChange fnExactBestCoverSpec)

/-- ITS FALSE NEIGHBOUR: 'it returns false'. Refute it at one input. -/
def fnExactBestCoverWrong : ChangeSpec := { name := "fnExactBestCover", fn := fun _ => fun
  | [d1, d2, d3, d4, d5] => { results := [.lit (.bool false)], args := [d1, d2, d3, d4, d5] }
  | _ => none }
def FnExactBestCoverWrongFalsely : Prop := fnExactBestCoverRow.holds Try.pinned (OpenSpec.ofChange fnExactBestCoverWrong)

/- THE SECOND FORM. 'bulk': how many values and letters a reading holds, each counted each time it is reached (what is shared counts as often as it is met; a slice's spare places count too). A statement '..UptoSaid' is the law's where the arguments, and the package variables that the reading takes, are together of bulk at most 1048576: NARROWER than '..Said'. Prove '..Said' where nothing that the law and all that it calls make is longer than what came in: it says more and counts as full. Else prove '..UptoSaid'. A law counts once. -/
mutual
def uptoBulk {H : Type} : DataW H → Nat
  | .lit (.string bytes) => bytes.length + 1
  | .lit _ => 1
  | .nil => 1
  | .ptr d => uptoBulk d + 1
  | .slice elems spare => uptoBulkAll elems + uptoBulkAll spare + 1
  | .agg parts => uptoBulkAll parts + 1
  | .iface _ d => uptoBulk d + 1
  | .map entries => uptoBulkEntries entries + 1
  | .held _ => 1
def uptoBulkAll {H : Type} : List (DataW H) → Nat
  | [] => 0
  | d :: r => uptoBulk d + uptoBulkAll r
def uptoBulkEntries {H : Type} : List (Lit × DataW H) → Nat
  | [] => 0
  | x :: r => uptoBulkEntry x + uptoBulkEntries r
def uptoBulkEntry {H : Type} : Lit × DataW H → Nat
  | (.string bytes, d) => bytes.length + uptoBulk d + 1
  | (_, d) => uptoBulk d + 1
 end
def uptoSmall : (H : Type) → List (DataW H) → Bool := fun _ ds => decide (uptoBulkAll ds ≤ 1048576)
def OpenSpec.upto (s : _root_.Go.ChangeSpec) : _root_.Go.OpenSpec := { _root_.Go.OpenSpec.ofChange s with cond := some uptoSmall }

/-- 'laws.FnExactValidPress', WHERE WHAT IT READS IS OF BULK AT MOST 1048576: true; the input reads as it did. -/
def fnExactValidPressUptoRow : OpenClaim := { program := "ytpechflfloolkaa", sum := "76254768c14ca25b69001cd442d22eff01b361745bf6b8c40c70e325371f86d4", func := "loop.example/g01213/laws.FnExactValidPress", spec := "fnExactValidPress", unfollowed := true, recurses := true, apart := false, narrowed := true }
def FnExactValidPressUptoSaid : Prop := fnExactValidPressUptoRow.holds Try.pinned (OpenSpec.upto fnExactValidPressSpec)

/-- 'laws.FnExactSamePress', WHERE WHAT IT READS IS OF BULK AT MOST 1048576: true; the input reads as it did. -/
def fnExactSamePressUptoRow : OpenClaim := { program := "ytpechflfloolkaa", sum := "76254768c14ca25b69001cd442d22eff01b361745bf6b8c40c70e325371f86d4", func := "loop.example/g01213/laws.FnExactSamePress", spec := "fnExactSamePress", inPlace := ["math.Float32bits"], unfollowed := true, recurses := true, apart := false, narrowed := true }
def FnExactSamePressUptoSaid : Prop := fnExactSamePressUptoRow.holds Try.pinned (OpenSpec.upto fnExactSamePressSpec)

/-- 'laws.FnExactTileOf', WHERE WHAT IT READS IS OF BULK AT MOST 1048576: true; the input reads as it did. -/
def fnExactTileOfUptoRow : OpenClaim := { program := "ytpechflfloolkaa", sum := "76254768c14ca25b69001cd442d22eff01b361745bf6b8c40c70e325371f86d4", func := "loop.example/g01213/laws.FnExactTileOf", spec := "fnExactTileOf", unfollowed := true, recurses := true, apart := false, narrowed := true }
def FnExactTileOfUptoSaid : Prop := fnExactTileOfUptoRow.holds Try.pinned (OpenSpec.upto fnExactTileOfSpec)

/-- 'laws.FnExactPutBlackUnder', WHERE WHAT IT READS IS OF BULK AT MOST 1048576: true; the input reads as it did. -/
def fnExactPutBlackUnderUptoRow : OpenClaim := { program := "ytpechflfloolkaa", sum := "76254768c14ca25b69001cd442d22eff01b361745bf6b8c40c70e325371f86d4", func := "loop.example/g01213/laws.FnExactPutBlackUnder", spec := "fnExactPutBlackUnder", apart := false, narrowed := true }
def FnExactPutBlackUnderUptoSaid : Prop := fnExactPutBlackUnderUptoRow.holds Try.pinned (OpenSpec.upto fnExactPutBlackUnderSpec)

/-- 'laws.FnExactAreasOf', WHERE WHAT IT READS IS OF BULK AT MOST 1048576: true; the input reads as it did. -/
def fnExactAreasOfUptoRow : OpenClaim := { program := "ytpechflfloolkaa", sum := "76254768c14ca25b69001cd442d22eff01b361745bf6b8c40c70e325371f86d4", func := "loop.example/g01213/laws.FnExactAreasOf", spec := "fnExactAreasOf", apart := false, narrowed := true }
def FnExactAreasOfUptoSaid : Prop := fnExactAreasOfUptoRow.holds Try.pinned (OpenSpec.upto fnExactAreasOfSpec)

/-- 'laws.FnExactOverprintOf', WHERE WHAT IT READS IS OF BULK AT MOST 1048576: true; the input reads as it did. -/
def fnExactOverprintOfUptoRow : OpenClaim := { program := "ytpechflfloolkaa", sum := "76254768c14ca25b69001cd442d22eff01b361745bf6b8c40c70e325371f86d4", func := "loop.example/g01213/laws.FnExactOverprintOf", spec := "fnExactOverprintOf", unfollowed := true, recurses := true, apart := false, narrowed := true }
def FnExactOverprintOfUptoSaid : Prop := fnExactOverprintOfUptoRow.holds Try.pinned (OpenSpec.upto fnExactOverprintOfSpec)

/-- 'laws.FnExactLimitInk', WHERE WHAT IT READS IS OF BULK AT MOST 1048576: true; the input reads as it did. -/
def fnExactLimitInkUptoRow : OpenClaim := { program := "ytpechflfloolkaa", sum := "76254768c14ca25b69001cd442d22eff01b361745bf6b8c40c70e325371f86d4", func := "loop.example/g01213/laws.FnExactLimitInk", spec := "fnExactLimitInk", inPlace := ["math.Float64bits", "math.Float64frombits"], unfollowed := true, recurses := true, apart := false, narrowed := true }
def FnExactLimitInkUptoSaid : Prop := fnExactLimitInkUptoRow.holds Try.pinned (OpenSpec.upto fnExactLimitInkSpec)

/-- 'laws.FnExactCoverWithGain', WHERE WHAT IT READS IS OF BULK AT MOST 1048576: true; the input reads as it did. -/
def fnExactCoverWithGainUptoRow : OpenClaim := { program := "ytpechflfloolkaa", sum := "76254768c14ca25b69001cd442d22eff01b361745bf6b8c40c70e325371f86d4", func := "loop.example/g01213/laws.FnExactCoverWithGain", spec := "fnExactCoverWithGain", unfollowed := true, recurses := true, apart := false, narrowed := true }
def FnExactCoverWithGainUptoSaid : Prop := fnExactCoverWithGainUptoRow.holds Try.pinned (OpenSpec.upto fnExactCoverWithGainSpec)

/-- 'laws.FnExactTilesOf', WHERE WHAT IT READS IS OF BULK AT MOST 1048576: true; the input reads as it did. -/
def fnExactTilesOfUptoRow : OpenClaim := { program := "ytpechflfloolkaa", sum := "76254768c14ca25b69001cd442d22eff01b361745bf6b8c40c70e325371f86d4", func := "loop.example/g01213/laws.FnExactTilesOf", spec := "fnExactTilesOf", inPlace := ["math.RoundToEven"], unfollowed := true, recurses := true, apart := false, narrowed := true }
def FnExactTilesOfUptoSaid : Prop := fnExactTilesOfUptoRow.holds Try.pinned (OpenSpec.upto fnExactTilesOfSpec)

/-- 'laws.FnExactCoverSeen', WHERE WHAT IT READS IS OF BULK AT MOST 1048576: true; the input reads as it did. -/
def fnExactCoverSeenUptoRow : OpenClaim := { program := "ytpechflfloolkaa", sum := "76254768c14ca25b69001cd442d22eff01b361745bf6b8c40c70e325371f86d4", func := "loop.example/g01213/laws.FnExactCoverSeen", spec := "fnExactCoverSeen", unfollowed := true, recurses := true, apart := false, narrowed := true }
def FnExactCoverSeenUptoSaid : Prop := fnExactCoverSeenUptoRow.holds Try.pinned (OpenSpec.upto fnExactCoverSeenSpec)

/-- 'laws.FnExactTileCurve', WHERE WHAT IT READS IS OF BULK AT MOST 1048576: true; the input reads as it did. -/
def fnExactTileCurveUptoRow : OpenClaim := { program := "ytpechflfloolkaa", sum := "76254768c14ca25b69001cd442d22eff01b361745bf6b8c40c70e325371f86d4", func := "loop.example/g01213/laws.FnExactTileCurve", spec := "fnExactTileCurve", unfollowed := true, recurses := true, apart := false, narrowed := true }
def FnExactTileCurveUptoSaid : Prop := fnExactTileCurveUptoRow.holds Try.pinned (OpenSpec.upto fnExactTileCurveSpec)

/-- 'laws.FnExactPrintedCurve', WHERE WHAT IT READS IS OF BULK AT MOST 1048576: true; the input reads as it did. -/
def fnExactPrintedCurveUptoRow : OpenClaim := { program := "ytpechflfloolkaa", sum := "76254768c14ca25b69001cd442d22eff01b361745bf6b8c40c70e325371f86d4", func := "loop.example/g01213/laws.FnExactPrintedCurve", spec := "fnExactPrintedCurve", inPlace := ["math.sqrt", "math.Float64bits", "math.Float64frombits"], unfollowed := true, recurses := true, apart := false, narrowed := true }
def FnExactPrintedCurveUptoSaid : Prop := fnExactPrintedCurveUptoRow.holds Try.pinned (OpenSpec.upto fnExactPrintedCurveSpec)

/-- 'laws.FnExactPrintedLook', WHERE WHAT IT READS IS OF BULK AT MOST 1048576: true; the input reads as it did. -/
def fnExactPrintedLookUptoRow : OpenClaim := { program := "ytpechflfloolkaa", sum := "76254768c14ca25b69001cd442d22eff01b361745bf6b8c40c70e325371f86d4", func := "loop.example/g01213/laws.FnExactPrintedLook", spec := "fnExactPrintedLook", inPlace := ["math.sqrt", "math.Float64bits", "math.Float64frombits"], unfollowed := true, recurses := true, apart := false, narrowed := true }
def FnExactPrintedLookUptoSaid : Prop := fnExactPrintedLookUptoRow.holds Try.pinned (OpenSpec.upto fnExactPrintedLookSpec)

/-- 'laws.FnExactBestCover', WHERE WHAT IT READS IS OF BULK AT MOST 1048576: true; the input reads as it did. -/
def fnExactBestCoverUptoRow : OpenClaim := { program := "ytpechflfloolkaa", sum := "76254768c14ca25b69001cd442d22eff01b361745bf6b8c40c70e325371f86d4", func := "loop.example/g01213/laws.FnExactBestCover", spec := "fnExactBestCover", inPlace := ["math.sqrt", "math.Float64bits", "math.Float64frombits"], unfollowed := true, recurses := true, apart := false, narrowed := true }
def FnExactBestCoverUptoSaid : Prop := fnExactBestCoverUptoRow.holds Try.pinned (OpenSpec.upto fnExactBestCoverSpec)

end Rows
end Go.Proofs.Ytpechflfloolkaa
