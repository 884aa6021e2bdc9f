/-
  No cell of these rows narrows 'for every input' (looked for: loops, veiled, ifaces, maps, wideKeys, modest, calm, conditions, laid).
  DERIVED. THE GIVEN ROWS OF THIS SEAT. 5 by the template 'for every input the law returns true; each argument reads behind the call as it read before'; 0 by the template 'total and deterministic' (their statements: YtgbkjfhmbchiiaaTotals.lean).
  GIVEN WITH THE SEED: the statements are not yours to turn. If you find one false, say at which input.
  Laid BY PROGRAM, IN A SANDBOX (cutbox-rows.mjs): the forced cells as the released guide's own fill.sh prints them over the translation e2817b88f232fb00… (all of the seat's roots in one cut). By AI agents, Wed Nov 11 2026. No macro, syntax, notation, axiom, sorry.
-/
import Derived.Test.YtgbkjfhmbchiiaaChecked
import GoSem.Claim
import GoSem.ClaimJoined
import GoSem.ClaimMapViews
import Derived.JoinedTies
import Derived.KernelRfl
namespace Go.Proofs.Ytgbkjfhmbchiiaa
/- THE CELL 'sum', in the pinned program and in every row, IS THE sha256 OF THE DUMP (.gsa) THAT YtgbkjfhmbchiiaaProg.lean LOADS. Nothing in Lean hashes anything: it is a label: what it is worth is what the hold of that sum in a sandbox is worth. -/
noncomputable def Try.pinned : Pinned := { name := "ytgbkjfhmbchiiaa", sum := "e2817b88f232fb0052520a958e829085c83ba789df388011c8e01c214423b56c", checked := Try.checked }
namespace Rows
def none {H : Type} : Left H := { results := [], args := [] }

/-- 'laws.FnSnapshotFirst': WHATEVER THE INPUT: true; the input reads as it did. -/
def fnSnapshotFirstSpec : ChangeSpec := { name := "fnSnapshotFirst", fn := fun _ => fun
  | [d] => { results := [.lit (.bool true)], args := [d] }
  | _ => none }
def fnSnapshotFirstRow : OpenClaim := { program := "ytgbkjfhmbchiiaa", sum := "e2817b88f232fb0052520a958e829085c83ba789df388011c8e01c214423b56c", func := "loop.example/atomicpush/laws.FnSnapshotFirst", spec := "fnSnapshotFirst", recurses := true, apart := false }
def FnSnapshotFirstSaid : Prop := fnSnapshotFirstRow.holds Try.pinned (OpenSpec.ofChange fnSnapshotFirstSpec)

/-- ITS FALSE NEIGHBOUR: 'it returns false'. Refute it at one input. -/
def fnSnapshotFirstWrong : ChangeSpec := { name := "fnSnapshotFirst", fn := fun _ => fun
  | [d] => { results := [.lit (.bool false)], args := [d] }
  | _ => none }
def FnSnapshotFirstWrongFalsely : Prop := fnSnapshotFirstRow.holds Try.pinned (OpenSpec.ofChange fnSnapshotFirstWrong)

/-- 'laws.FnExactSnapshotFirst': WHATEVER THE INPUT: true; the input reads as it did. -/
def fnExactSnapshotFirstSpec : ChangeSpec := { name := "fnExactSnapshotFirst", fn := fun _ => fun
  | [d1, d2] => { results := [.lit (.bool true)], args := [d1, d2] }
  | _ => none }
def fnExactSnapshotFirstRow : OpenClaim := { program := "ytgbkjfhmbchiiaa", sum := "e2817b88f232fb0052520a958e829085c83ba789df388011c8e01c214423b56c", func := "loop.example/atomicpush/laws.FnExactSnapshotFirst", spec := "fnExactSnapshotFirst", recurses := true, apart := false }
def FnExactSnapshotFirstSaid : Prop := fnExactSnapshotFirstRow.holds Try.pinned (OpenSpec.ofChange fnExactSnapshotFirstSpec)

/-- ITS FALSE NEIGHBOUR: 'it returns false'. Refute it at one input. -/
def fnExactSnapshotFirstWrong : ChangeSpec := { name := "fnExactSnapshotFirst", fn := fun _ => fun
  | [d1, d2] => { results := [.lit (.bool false)], args := [d1, d2] }
  | _ => none }
def FnExactSnapshotFirstWrongFalsely : Prop := fnExactSnapshotFirstRow.holds Try.pinned (OpenSpec.ofChange fnExactSnapshotFirstWrong)

/-- 'laws.FnDifferParts': WHATEVER THE INPUT: true; the input reads as it did. -/
def fnDifferPartsSpec : ChangeSpec := { name := "fnDifferParts", fn := fun _ => fun
  | [d] => { results := [.lit (.bool true)], args := [d] }
  | _ => none }
def fnDifferPartsRow : OpenClaim := { program := "ytgbkjfhmbchiiaa", sum := "e2817b88f232fb0052520a958e829085c83ba789df388011c8e01c214423b56c", func := "loop.example/atomicpush/laws.FnDifferParts", spec := "fnDifferParts", unfollowed := true, recurses := true, apart := false }
def FnDifferPartsSaid : Prop := fnDifferPartsRow.holds Try.pinned (OpenSpec.ofChange fnDifferPartsSpec)

/-- ITS FALSE NEIGHBOUR: 'it returns false'. Refute it at one input. -/
def fnDifferPartsWrong : ChangeSpec := { name := "fnDifferParts", fn := fun _ => fun
  | [d] => { results := [.lit (.bool false)], args := [d] }
  | _ => none }
def FnDifferPartsWrongFalsely : Prop := fnDifferPartsRow.holds Try.pinned (OpenSpec.ofChange fnDifferPartsWrong)

/-- 'laws.FnSnapshotDiffer': WHATEVER THE INPUT: true; the input reads as it did. -/
def fnSnapshotDifferSpec : ChangeSpec := { name := "fnSnapshotDiffer", fn := fun _ => fun
  | [d] => { results := [.lit (.bool true)], args := [d] }
  | _ => none }
def fnSnapshotDifferRow : OpenClaim := { program := "ytgbkjfhmbchiiaa", sum := "e2817b88f232fb0052520a958e829085c83ba789df388011c8e01c214423b56c", func := "loop.example/atomicpush/laws.FnSnapshotDiffer", spec := "fnSnapshotDiffer", unfollowed := true, recurses := true, apart := false }
def FnSnapshotDifferSaid : Prop := fnSnapshotDifferRow.holds Try.pinned (OpenSpec.ofChange fnSnapshotDifferSpec)

/-- ITS FALSE NEIGHBOUR: 'it returns false'. Refute it at one input. -/
def fnSnapshotDifferWrong : ChangeSpec := { name := "fnSnapshotDiffer", fn := fun _ => fun
  | [d] => { results := [.lit (.bool false)], args := [d] }
  | _ => none }
def FnSnapshotDifferWrongFalsely : Prop := fnSnapshotDifferRow.holds Try.pinned (OpenSpec.ofChange fnSnapshotDifferWrong)

/-- 'laws.FnExactSnapshotDiffer': WHATEVER THE INPUT: true; the input reads as it did. -/
def fnExactSnapshotDifferSpec : ChangeSpec := { name := "fnExactSnapshotDiffer", fn := fun _ => fun
  | [d1, d2, d3] => { results := [.lit (.bool true)], args := [d1, d2, d3] }
  | _ => none }
def fnExactSnapshotDifferRow : OpenClaim := { program := "ytgbkjfhmbchiiaa", sum := "e2817b88f232fb0052520a958e829085c83ba789df388011c8e01c214423b56c", func := "loop.example/atomicpush/laws.FnExactSnapshotDiffer", spec := "fnExactSnapshotDiffer", unfollowed := true, recurses := true, apart := false }
def FnExactSnapshotDifferSaid : Prop := fnExactSnapshotDifferRow.holds Try.pinned (OpenSpec.ofChange fnExactSnapshotDifferSpec)

/-- ITS FALSE NEIGHBOUR: 'it returns false'. Refute it at one input. -/
def fnExactSnapshotDifferWrong : ChangeSpec := { name := "fnExactSnapshotDiffer", fn := fun _ => fun
  | [d1, d2, d3] => { results := [.lit (.bool false)], args := [d1, d2, d3] }
  | _ => none }
def FnExactSnapshotDifferWrongFalsely : Prop := fnExactSnapshotDifferRow.holds Try.pinned (OpenSpec.ofChange fnExactSnapshotDifferWrong)

/- THE SECOND FORM. 'bulk': how many values and letters a reading holds, each counted each time it is reached (what is shared counts as often as it is met; a slice's spare places count too). A statement '..UptoSaid' is the law's where the arguments, and the package variables that the reading takes, are together of bulk at most 1048576: NARROWER than '..Said'. Prove '..Said' where nothing that the law and all that it calls make is longer than what came in: it says more and counts as full. Else prove '..UptoSaid'. A law counts once. -/
mutual
def uptoBulk {H : Type} : DataW H → Nat
  | .lit (.string bytes) => bytes.length + 1
  | .lit _ => 1
  | .nil => 1
  | .ptr d => uptoBulk d + 1
  | .slice elems spare => uptoBulkAll elems + uptoBulkAll spare + 1
  | .agg parts => uptoBulkAll parts + 1
  | .iface _ d => uptoBulk d + 1
  | .map entries => uptoBulkEntries entries + 1
  | .held _ => 1
def uptoBulkAll {H : Type} : List (DataW H) → Nat
  | [] => 0
  | d :: r => uptoBulk d + uptoBulkAll r
def uptoBulkEntries {H : Type} : List (Lit × DataW H) → Nat
  | [] => 0
  | x :: r => uptoBulkEntry x + uptoBulkEntries r
def uptoBulkEntry {H : Type} : Lit × DataW H → Nat
  | (.string bytes, d) => bytes.length + uptoBulk d + 1
  | (_, d) => uptoBulk d + 1
 end
def uptoSmall : (H : Type) → List (DataW H) → Bool := fun _ ds => decide (uptoBulkAll ds ≤ 1048576)
def OpenSpec.upto (s : _root_.Go.ChangeSpec) : _root_.Go.OpenSpec := { _root_.Go.OpenSpec.ofChange s with cond := some uptoSmall }

/-- 'laws.FnSnapshotFirst', WHERE WHAT IT READS IS OF BULK AT MOST 1048576: true; the input reads as it did. -/
def fnSnapshotFirstUptoRow : OpenClaim := { program := "ytgbkjfhmbchiiaa", sum := "e2817b88f232fb0052520a958e829085c83ba789df388011c8e01c214423b56c", func := "loop.example/atomicpush/laws.FnSnapshotFirst", spec := "fnSnapshotFirst", recurses := true, apart := false, narrowed := true }
def FnSnapshotFirstUptoSaid : Prop := fnSnapshotFirstUptoRow.holds Try.pinned (OpenSpec.upto fnSnapshotFirstSpec)

/-- 'laws.FnExactSnapshotFirst', WHERE WHAT IT READS IS OF BULK AT MOST 1048576: true; the input reads as it did. -/
def fnExactSnapshotFirstUptoRow : OpenClaim := { program := "ytgbkjfhmbchiiaa", sum := "e2817b88f232fb0052520a958e829085c83ba789df388011c8e01c214423b56c", func := "loop.example/atomicpush/laws.FnExactSnapshotFirst", spec := "fnExactSnapshotFirst", recurses := true, apart := false, narrowed := true }
def FnExactSnapshotFirstUptoSaid : Prop := fnExactSnapshotFirstUptoRow.holds Try.pinned (OpenSpec.upto fnExactSnapshotFirstSpec)

/-- 'laws.FnDifferParts', WHERE WHAT IT READS IS OF BULK AT MOST 1048576: true; the input reads as it did. -/
def fnDifferPartsUptoRow : OpenClaim := { program := "ytgbkjfhmbchiiaa", sum := "e2817b88f232fb0052520a958e829085c83ba789df388011c8e01c214423b56c", func := "loop.example/atomicpush/laws.FnDifferParts", spec := "fnDifferParts", unfollowed := true, recurses := true, apart := false, narrowed := true }
def FnDifferPartsUptoSaid : Prop := fnDifferPartsUptoRow.holds Try.pinned (OpenSpec.upto fnDifferPartsSpec)

/-- 'laws.FnSnapshotDiffer', WHERE WHAT IT READS IS OF BULK AT MOST 1048576: true; the input reads as it did. -/
def fnSnapshotDifferUptoRow : OpenClaim := { program := "ytgbkjfhmbchiiaa", sum := "e2817b88f232fb0052520a958e829085c83ba789df388011c8e01c214423b56c", func := "loop.example/atomicpush/laws.FnSnapshotDiffer", spec := "fnSnapshotDiffer", unfollowed := true, recurses := true, apart := false, narrowed := true }
def FnSnapshotDifferUptoSaid : Prop := fnSnapshotDifferUptoRow.holds Try.pinned (OpenSpec.upto fnSnapshotDifferSpec)

/-- 'laws.FnExactSnapshotDiffer', WHERE WHAT IT READS IS OF BULK AT MOST 1048576: true; the input reads as it did. -/
def fnExactSnapshotDifferUptoRow : OpenClaim := { program := "ytgbkjfhmbchiiaa", sum := "e2817b88f232fb0052520a958e829085c83ba789df388011c8e01c214423b56c", func := "loop.example/atomicpush/laws.FnExactSnapshotDiffer", spec := "fnExactSnapshotDiffer", unfollowed := true, recurses := true, apart := false, narrowed := true }
def FnExactSnapshotDifferUptoSaid : Prop := fnExactSnapshotDifferUptoRow.holds Try.pinned (OpenSpec.upto fnExactSnapshotDifferSpec)

end Rows
end Go.Proofs.Ytgbkjfhmbchiiaa
