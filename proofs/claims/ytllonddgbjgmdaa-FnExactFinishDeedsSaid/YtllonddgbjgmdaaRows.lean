/-
  No cell of these rows narrows 'for every input' (looked for: loops, veiled, ifaces, maps, wideKeys, modest, calm, conditions, laid).
  DERIVED. THE GIVEN ROWS OF THIS SEAT. 10 by the template 'for every input the law returns true; each argument reads behind the call as it read before'; 0 by the template 'total and deterministic' (their statements: YtllonddgbjgmdaaTotals.lean).
  GIVEN WITH THE SEED: the statements are not yours to turn. If you find one false, say at which input.
  Laid BY PROGRAM, IN A SANDBOX (cutbox-rows.mjs): the forced cells as the released guide's own fill.sh prints them over the translation bec6ab2009fb4e9b… (all of the seat's roots in one cut). By AI agents, Wed Nov 11 2026. No macro, syntax, notation, axiom, sorry.
-/
import Derived.Test.YtllonddgbjgmdaaChecked
import GoSem.Claim
import GoSem.ClaimJoined
import GoSem.ClaimMapViews
import Derived.JoinedTies
import Derived.KernelRfl
namespace Go.Proofs.Ytllonddgbjgmdaa
/- THE CELL 'sum', in the pinned program and in every row, IS THE sha256 OF THE DUMP (.gsa) THAT YtllonddgbjgmdaaProg.lean LOADS. Nothing in Lean hashes anything: it is a label: what it is worth is what the hold of that sum in a sandbox is worth. -/
noncomputable def Try.pinned : Pinned := { name := "ytllonddgbjgmdaa", sum := "bec6ab2009fb4e9b7a32a072ea34d10cbacd50dcda379d286d26d47f09dc7de3", checked := Try.checked }
namespace Rows
def none {H : Type} : Left H := { results := [], args := [] }

/-- 'laws.FnExactValidDeed': WHATEVER THE INPUT: true; the input reads as it did. -/
def fnExactValidDeedSpec : ChangeSpec := { name := "fnExactValidDeed", fn := fun _ => fun
  | [d] => { results := [.lit (.bool true)], args := [d] }
  | _ => none }
def fnExactValidDeedRow : OpenClaim := { program := "ytllonddgbjgmdaa", sum := "bec6ab2009fb4e9b7a32a072ea34d10cbacd50dcda379d286d26d47f09dc7de3", func := "loop.example/g01213/laws.FnExactValidDeed", spec := "fnExactValidDeed", apart := false }
def FnExactValidDeedSaid : Prop := fnExactValidDeedRow.holds Try.pinned (OpenSpec.ofChange fnExactValidDeedSpec)

/-- ITS FALSE NEIGHBOUR: 'it returns false'. Refute it at one input. -/
def fnExactValidDeedWrong : ChangeSpec := { name := "fnExactValidDeed", fn := fun _ => fun
  | [d] => { results := [.lit (.bool false)], args := [d] }
  | _ => none }
def FnExactValidDeedWrongFalsely : Prop := fnExactValidDeedRow.holds Try.pinned (OpenSpec.ofChange fnExactValidDeedWrong)

/-- 'laws.FnExactSameWorks': WHATEVER THE INPUT: true; the input reads as it did. -/
def fnExactSameWorksSpec : ChangeSpec := { name := "fnExactSameWorks", fn := fun _ => fun
  | [d1, d2] => { results := [.lit (.bool true)], args := [d1, d2] }
  | _ => none }
def fnExactSameWorksRow : OpenClaim := { program := "ytllonddgbjgmdaa", sum := "bec6ab2009fb4e9b7a32a072ea34d10cbacd50dcda379d286d26d47f09dc7de3", func := "loop.example/g01213/laws.FnExactSameWorks", spec := "fnExactSameWorks", apart := false }
def FnExactSameWorksSaid : Prop := fnExactSameWorksRow.holds Try.pinned (OpenSpec.ofChange fnExactSameWorksSpec)

/-- ITS FALSE NEIGHBOUR: 'it returns false'. Refute it at one input. -/
def fnExactSameWorksWrong : ChangeSpec := { name := "fnExactSameWorks", fn := fun _ => fun
  | [d1, d2] => { results := [.lit (.bool false)], args := [d1, d2] }
  | _ => none }
def FnExactSameWorksWrongFalsely : Prop := fnExactSameWorksRow.holds Try.pinned (OpenSpec.ofChange fnExactSameWorksWrong)

/-- 'laws.FnExactValidWorks': WHATEVER THE INPUT: true; the input reads as it did. -/
def fnExactValidWorksSpec : ChangeSpec := { name := "fnExactValidWorks", fn := fun _ => fun
  | [d] => { results := [.lit (.bool true)], args := [d] }
  | _ => none }
def fnExactValidWorksRow : OpenClaim := { program := "ytllonddgbjgmdaa", sum := "bec6ab2009fb4e9b7a32a072ea34d10cbacd50dcda379d286d26d47f09dc7de3", func := "loop.example/g01213/laws.FnExactValidWorks", spec := "fnExactValidWorks", unfollowed := true, recurses := true, apart := false }
def FnExactValidWorksSaid : Prop := fnExactValidWorksRow.holds Try.pinned (OpenSpec.ofChange fnExactValidWorksSpec)

/-- ITS FALSE NEIGHBOUR: 'it returns false'. Refute it at one input. -/
def fnExactValidWorksWrong : ChangeSpec := { name := "fnExactValidWorks", fn := fun _ => fun
  | [d] => { results := [.lit (.bool false)], args := [d] }
  | _ => none }
def FnExactValidWorksWrongFalsely : Prop := fnExactValidWorksRow.holds Try.pinned (OpenSpec.ofChange fnExactValidWorksWrong)

/-- 'laws.FnExactTotalOf': WHATEVER THE INPUT: true; the input reads as it did. -/
def fnExactTotalOfSpec : ChangeSpec := { name := "fnExactTotalOf", fn := fun _ => fun
  | [d] => { results := [.lit (.bool true)], args := [d] }
  | _ => none }
def fnExactTotalOfRow : OpenClaim := { program := "ytllonddgbjgmdaa", sum := "bec6ab2009fb4e9b7a32a072ea34d10cbacd50dcda379d286d26d47f09dc7de3", func := "loop.example/g01213/laws.FnExactTotalOf", spec := "fnExactTotalOf", unfollowed := true, recurses := true, apart := false }
def FnExactTotalOfSaid : Prop := fnExactTotalOfRow.holds Try.pinned (OpenSpec.ofChange fnExactTotalOfSpec)

/-- ITS FALSE NEIGHBOUR: 'it returns false'. Refute it at one input. -/
def fnExactTotalOfWrong : ChangeSpec := { name := "fnExactTotalOf", fn := fun _ => fun
  | [d] => { results := [.lit (.bool false)], args := [d] }
  | _ => none }
def FnExactTotalOfWrongFalsely : Prop := fnExactTotalOfRow.holds Try.pinned (OpenSpec.ofChange fnExactTotalOfWrong)

/-- 'laws.FnExactTasksOf': WHATEVER THE INPUT: true; the input reads as it did. -/
def fnExactTasksOfSpec : ChangeSpec := { name := "fnExactTasksOf", fn := fun _ => fun
  | [d] => { results := [.lit (.bool true)], args := [d] }
  | _ => none }
def fnExactTasksOfRow : OpenClaim := { program := "ytllonddgbjgmdaa", sum := "bec6ab2009fb4e9b7a32a072ea34d10cbacd50dcda379d286d26d47f09dc7de3", func := "loop.example/g01213/laws.FnExactTasksOf", spec := "fnExactTasksOf", unfollowed := true, recurses := true, apart := false }
def FnExactTasksOfSaid : Prop := fnExactTasksOfRow.holds Try.pinned (OpenSpec.ofChange fnExactTasksOfSpec)

/-- ITS FALSE NEIGHBOUR: 'it returns false'. Refute it at one input. -/
def fnExactTasksOfWrong : ChangeSpec := { name := "fnExactTasksOf", fn := fun _ => fun
  | [d] => { results := [.lit (.bool false)], args := [d] }
  | _ => none }
def FnExactTasksOfWrongFalsely : Prop := fnExactTasksOfRow.holds Try.pinned (OpenSpec.ofChange fnExactTasksOfWrong)

/-- 'laws.FnExactRefusedDeed': WHATEVER THE INPUT: true; the input reads as it did. -/
def fnExactRefusedDeedSpec : ChangeSpec := { name := "fnExactRefusedDeed", fn := fun _ => fun
  | [d1, d2] => { results := [.lit (.bool true)], args := [d1, d2] }
  | _ => none }
def fnExactRefusedDeedRow : OpenClaim := { program := "ytllonddgbjgmdaa", sum := "bec6ab2009fb4e9b7a32a072ea34d10cbacd50dcda379d286d26d47f09dc7de3", func := "loop.example/g01213/laws.FnExactRefusedDeed", spec := "fnExactRefusedDeed", unfollowed := true, recurses := true, apart := false }
def FnExactRefusedDeedSaid : Prop := fnExactRefusedDeedRow.holds Try.pinned (OpenSpec.ofChange fnExactRefusedDeedSpec)

/-- ITS FALSE NEIGHBOUR: 'it returns false'. Refute it at one input. -/
def fnExactRefusedDeedWrong : ChangeSpec := { name := "fnExactRefusedDeed", fn := fun _ => fun
  | [d1, d2] => { results := [.lit (.bool false)], args := [d1, d2] }
  | _ => none }
def FnExactRefusedDeedWrongFalsely : Prop := fnExactRefusedDeedRow.holds Try.pinned (OpenSpec.ofChange fnExactRefusedDeedWrong)

/-- 'laws.FnExactVatAfter': WHATEVER THE INPUT: true; the input reads as it did. -/
def fnExactVatAfterSpec : ChangeSpec := { name := "fnExactVatAfter", fn := fun _ => fun
  | [d1, d2, d3] => { results := [.lit (.bool true)], args := [d1, d2, d3] }
  | _ => none }
def fnExactVatAfterRow : OpenClaim := { program := "ytllonddgbjgmdaa", sum := "bec6ab2009fb4e9b7a32a072ea34d10cbacd50dcda379d286d26d47f09dc7de3", func := "loop.example/g01213/laws.FnExactVatAfter", spec := "fnExactVatAfter", unfollowed := true, recurses := true, apart := false }
def FnExactVatAfterSaid : Prop := fnExactVatAfterRow.holds Try.pinned (OpenSpec.ofChange fnExactVatAfterSpec)

/-- ITS FALSE NEIGHBOUR: 'it returns false'. Refute it at one input. -/
def fnExactVatAfterWrong : ChangeSpec := { name := "fnExactVatAfter", fn := fun _ => fun
  | [d1, d2, d3] => { results := [.lit (.bool false)], args := [d1, d2, d3] }
  | _ => none }
def FnExactVatAfterWrongFalsely : Prop := fnExactVatAfterRow.holds Try.pinned (OpenSpec.ofChange fnExactVatAfterWrong)

/-- 'laws.FnExactIsAgreed': WHATEVER THE INPUT: true; the input reads as it did. -/
def fnExactIsAgreedSpec : ChangeSpec := { name := "fnExactIsAgreed", fn := fun _ => fun
  | [d1, d2] => { results := [.lit (.bool true)], args := [d1, d2] }
  | _ => none }
def fnExactIsAgreedRow : OpenClaim := { program := "ytllonddgbjgmdaa", sum := "bec6ab2009fb4e9b7a32a072ea34d10cbacd50dcda379d286d26d47f09dc7de3", func := "loop.example/g01213/laws.FnExactIsAgreed", spec := "fnExactIsAgreed", unfollowed := true, recurses := true, apart := false }
def FnExactIsAgreedSaid : Prop := fnExactIsAgreedRow.holds Try.pinned (OpenSpec.ofChange fnExactIsAgreedSpec)

/-- ITS FALSE NEIGHBOUR: 'it returns false'. Refute it at one input. -/
def fnExactIsAgreedWrong : ChangeSpec := { name := "fnExactIsAgreed", fn := fun _ => fun
  | [d1, d2] => { results := [.lit (.bool false)], args := [d1, d2] }
  | _ => none }
def FnExactIsAgreedWrongFalsely : Prop := fnExactIsAgreedRow.holds Try.pinned (OpenSpec.ofChange fnExactIsAgreedWrong)

/-- 'laws.FnExactFinishDeeds': WHATEVER THE INPUT: true; the input reads as it did. -/
def fnExactFinishDeedsSpec : ChangeSpec := { name := "fnExactFinishDeeds", fn := fun _ => fun
  | [d1, d2] => { results := [.lit (.bool true)], args := [d1, d2] }
  | _ => none }
def fnExactFinishDeedsRow : OpenClaim := { program := "ytllonddgbjgmdaa", sum := "bec6ab2009fb4e9b7a32a072ea34d10cbacd50dcda379d286d26d47f09dc7de3", func := "loop.example/g01213/laws.FnExactFinishDeeds", spec := "fnExactFinishDeeds", unfollowed := true, recurses := true, apart := false }
def FnExactFinishDeedsSaid : Prop := fnExactFinishDeedsRow.holds Try.pinned (OpenSpec.ofChange fnExactFinishDeedsSpec)

/-- ITS FALSE NEIGHBOUR: 'it returns false'. Refute it at one input. -/
def fnExactFinishDeedsWrong : ChangeSpec := { name := "fnExactFinishDeeds", fn := fun _ => fun
  | [d1, d2] => { results := [.lit (.bool false)], args := [d1, d2] }
  | _ => none }
def FnExactFinishDeedsWrongFalsely : Prop := fnExactFinishDeedsRow.holds Try.pinned (OpenSpec.ofChange fnExactFinishDeedsWrong)

/-- 'laws.FnExactFloorAfter': WHATEVER THE INPUT: true; the input reads as it did. -/
def fnExactFloorAfterSpec : ChangeSpec := { name := "fnExactFloorAfter", fn := fun _ => fun
  | [d1, d2] => { results := [.lit (.bool true)], args := [d1, d2] }
  | _ => none }
def fnExactFloorAfterRow : OpenClaim := { program := "ytllonddgbjgmdaa", sum := "bec6ab2009fb4e9b7a32a072ea34d10cbacd50dcda379d286d26d47f09dc7de3", func := "loop.example/g01213/laws.FnExactFloorAfter", spec := "fnExactFloorAfter", unfollowed := true, recurses := true, apart := false }
def FnExactFloorAfterSaid : Prop := fnExactFloorAfterRow.holds Try.pinned (OpenSpec.ofChange fnExactFloorAfterSpec)

/-- ITS FALSE NEIGHBOUR: 'it returns false'. Refute it at one input. -/
def fnExactFloorAfterWrong : ChangeSpec := { name := "fnExactFloorAfter", fn := fun _ => fun
  | [d1, d2] => { results := [.lit (.bool false)], args := [d1, d2] }
  | _ => none }
def FnExactFloorAfterWrongFalsely : Prop := fnExactFloorAfterRow.holds Try.pinned (OpenSpec.ofChange fnExactFloorAfterWrong)

/- THE SECOND FORM. 'bulk': how many values and letters a reading holds, each counted each time it is reached (what is shared counts as often as it is met; a slice's spare places count too). A statement '..UptoSaid' is the law's where the arguments, and the package variables that the reading takes, are together of bulk at most 1048576: NARROWER than '..Said'. Prove '..Said' where nothing that the law and all that it calls make is longer than what came in: it says more and counts as full. Else prove '..UptoSaid'. A law counts once. -/
mutual
def uptoBulk {H : Type} : DataW H → Nat
  | .lit (.string bytes) => bytes.length + 1
  | .lit _ => 1
  | .nil => 1
  | .ptr d => uptoBulk d + 1
  | .slice elems spare => uptoBulkAll elems + uptoBulkAll spare + 1
  | .agg parts => uptoBulkAll parts + 1
  | .iface _ d => uptoBulk d + 1
  | .map entries => uptoBulkEntries entries + 1
  | .held _ => 1
def uptoBulkAll {H : Type} : List (DataW H) → Nat
  | [] => 0
  | d :: r => uptoBulk d + uptoBulkAll r
def uptoBulkEntries {H : Type} : List (Lit × DataW H) → Nat
  | [] => 0
  | x :: r => uptoBulkEntry x + uptoBulkEntries r
def uptoBulkEntry {H : Type} : Lit × DataW H → Nat
  | (.string bytes, d) => bytes.length + uptoBulk d + 1
  | (_, d) => uptoBulk d + 1
 end
def uptoSmall : (H : Type) → List (DataW H) → Bool := fun _ ds => decide (uptoBulkAll ds ≤ 1048576)
def OpenSpec.upto (s : _root_.Go.ChangeSpec) : _root_.Go.OpenSpec := { _root_.Go.OpenSpec.ofChange s with cond := some uptoSmall }

/-- 'laws.FnExactValidDeed', WHERE WHAT IT READS IS OF BULK AT MOST 1048576: true; the input reads as it did. -/
def fnExactValidDeedUptoRow : OpenClaim := { program := "ytllonddgbjgmdaa", sum := "bec6ab2009fb4e9b7a32a072ea34d10cbacd50dcda379d286d26d47f09dc7de3", func := "loop.example/g01213/laws.FnExactValidDeed", spec := "fnExactValidDeed", apart := false, narrowed := true }
def FnExactValidDeedUptoSaid : Prop := fnExactValidDeedUptoRow.holds Try.pinned (OpenSpec.upto fnExactValidDeedSpec)

/-- 'laws.FnExactSameWorks', WHERE WHAT IT READS IS OF BULK AT MOST 1048576: true; the input reads as it did. -/
def fnExactSameWorksUptoRow : OpenClaim := { program := "ytllonddgbjgmdaa", sum := "bec6ab2009fb4e9b7a32a072ea34d10cbacd50dcda379d286d26d47f09dc7de3", func := "loop.example/g01213/laws.FnExactSameWorks", spec := "fnExactSameWorks", apart := false, narrowed := true }
def FnExactSameWorksUptoSaid : Prop := fnExactSameWorksUptoRow.holds Try.pinned (OpenSpec.upto fnExactSameWorksSpec)

/-- 'laws.FnExactValidWorks', WHERE WHAT IT READS IS OF BULK AT MOST 1048576: true; the input reads as it did. -/
def fnExactValidWorksUptoRow : OpenClaim := { program := "ytllonddgbjgmdaa", sum := "bec6ab2009fb4e9b7a32a072ea34d10cbacd50dcda379d286d26d47f09dc7de3", func := "loop.example/g01213/laws.FnExactValidWorks", spec := "fnExactValidWorks", unfollowed := true, recurses := true, apart := false, narrowed := true }
def FnExactValidWorksUptoSaid : Prop := fnExactValidWorksUptoRow.holds Try.pinned (OpenSpec.upto fnExactValidWorksSpec)

/-- 'laws.FnExactTotalOf', WHERE WHAT IT READS IS OF BULK AT MOST 1048576: true; the input reads as it did. -/
def fnExactTotalOfUptoRow : OpenClaim := { program := "ytllonddgbjgmdaa", sum := "bec6ab2009fb4e9b7a32a072ea34d10cbacd50dcda379d286d26d47f09dc7de3", func := "loop.example/g01213/laws.FnExactTotalOf", spec := "fnExactTotalOf", unfollowed := true, recurses := true, apart := false, narrowed := true }
def FnExactTotalOfUptoSaid : Prop := fnExactTotalOfUptoRow.holds Try.pinned (OpenSpec.upto fnExactTotalOfSpec)

/-- 'laws.FnExactTasksOf', WHERE WHAT IT READS IS OF BULK AT MOST 1048576: true; the input reads as it did. -/
def fnExactTasksOfUptoRow : OpenClaim := { program := "ytllonddgbjgmdaa", sum := "bec6ab2009fb4e9b7a32a072ea34d10cbacd50dcda379d286d26d47f09dc7de3", func := "loop.example/g01213/laws.FnExactTasksOf", spec := "fnExactTasksOf", unfollowed := true, recurses := true, apart := false, narrowed := true }
def FnExactTasksOfUptoSaid : Prop := fnExactTasksOfUptoRow.holds Try.pinned (OpenSpec.upto fnExactTasksOfSpec)

/-- 'laws.FnExactRefusedDeed', WHERE WHAT IT READS IS OF BULK AT MOST 1048576: true; the input reads as it did. -/
def fnExactRefusedDeedUptoRow : OpenClaim := { program := "ytllonddgbjgmdaa", sum := "bec6ab2009fb4e9b7a32a072ea34d10cbacd50dcda379d286d26d47f09dc7de3", func := "loop.example/g01213/laws.FnExactRefusedDeed", spec := "fnExactRefusedDeed", unfollowed := true, recurses := true, apart := false, narrowed := true }
def FnExactRefusedDeedUptoSaid : Prop := fnExactRefusedDeedUptoRow.holds Try.pinned (OpenSpec.upto fnExactRefusedDeedSpec)

/-- 'laws.FnExactVatAfter', WHERE WHAT IT READS IS OF BULK AT MOST 1048576: true; the input reads as it did. -/
def fnExactVatAfterUptoRow : OpenClaim := { program := "ytllonddgbjgmdaa", sum := "bec6ab2009fb4e9b7a32a072ea34d10cbacd50dcda379d286d26d47f09dc7de3", func := "loop.example/g01213/laws.FnExactVatAfter", spec := "fnExactVatAfter", unfollowed := true, recurses := true, apart := false, narrowed := true }
def FnExactVatAfterUptoSaid : Prop := fnExactVatAfterUptoRow.holds Try.pinned (OpenSpec.upto fnExactVatAfterSpec)

/-- 'laws.FnExactIsAgreed', WHERE WHAT IT READS IS OF BULK AT MOST 1048576: true; the input reads as it did. -/
def fnExactIsAgreedUptoRow : OpenClaim := { program := "ytllonddgbjgmdaa", sum := "bec6ab2009fb4e9b7a32a072ea34d10cbacd50dcda379d286d26d47f09dc7de3", func := "loop.example/g01213/laws.FnExactIsAgreed", spec := "fnExactIsAgreed", unfollowed := true, recurses := true, apart := false, narrowed := true }
def FnExactIsAgreedUptoSaid : Prop := fnExactIsAgreedUptoRow.holds Try.pinned (OpenSpec.upto fnExactIsAgreedSpec)

/-- 'laws.FnExactFinishDeeds', WHERE WHAT IT READS IS OF BULK AT MOST 1048576: true; the input reads as it did. -/
def fnExactFinishDeedsUptoRow : OpenClaim := { program := "ytllonddgbjgmdaa", sum := "bec6ab2009fb4e9b7a32a072ea34d10cbacd50dcda379d286d26d47f09dc7de3", func := "loop.example/g01213/laws.FnExactFinishDeeds", spec := "fnExactFinishDeeds", unfollowed := true, recurses := true, apart := false, narrowed := true }
def FnExactFinishDeedsUptoSaid : Prop := fnExactFinishDeedsUptoRow.holds Try.pinned (OpenSpec.upto fnExactFinishDeedsSpec)

/-- 'laws.FnExactFloorAfter', WHERE WHAT IT READS IS OF BULK AT MOST 1048576: true; the input reads as it did. -/
def fnExactFloorAfterUptoRow : OpenClaim := { program := "ytllonddgbjgmdaa", sum := "bec6ab2009fb4e9b7a32a072ea34d10cbacd50dcda379d286d26d47f09dc7de3", func := "loop.example/g01213/laws.FnExactFloorAfter", spec := "fnExactFloorAfter", unfollowed := true, recurses := true, apart := false, narrowed := true }
def FnExactFloorAfterUptoSaid : Prop := fnExactFloorAfterUptoRow.holds Try.pinned (OpenSpec.upto fnExactFloorAfterSpec)

end Rows
end Go.Proofs.Ytllonddgbjgmdaa
