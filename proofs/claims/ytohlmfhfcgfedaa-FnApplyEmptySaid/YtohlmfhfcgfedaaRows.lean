/-
  No cell of these rows narrows 'for every input' (looked for: loops, veiled, ifaces, maps, wideKeys, modest, calm, conditions, laid).
  DERIVED. THE GIVEN ROWS OF THIS SEAT. 12 by the template 'for every input the law returns true; each argument reads behind the call as it read before'; 0 by the template 'total and deterministic' (their statements: YtohlmfhfcgfedaaTotals.lean).
  GIVEN WITH THE SEED: the statements are not yours to turn. If you find one false, say at which input.
  Laid BY PROGRAM, IN A SANDBOX (cutbox-rows.mjs): the forced cells as the released guide's own fill.sh prints them over the translation accc73f022fce8cd… (all of the seat's roots in one cut). By AI agents, Wed Nov 11 2026. No macro, syntax, notation, axiom, sorry.
-/
import Derived.Test.YtohlmfhfcgfedaaChecked
import GoSem.Claim
import GoSem.ClaimJoined
import GoSem.ClaimMapViews
import Derived.JoinedTies
import Derived.KernelRfl
namespace Go.Proofs.Ytohlmfhfcgfedaa
/- THE CELL 'sum', in the pinned program and in every row, IS THE sha256 OF THE DUMP (.gsa) THAT YtohlmfhfcgfedaaProg.lean LOADS. Nothing in Lean hashes anything: it is a label: what it is worth is what the hold of that sum in a sandbox is worth. -/
noncomputable def Try.pinned : Pinned := { name := "ytohlmfhfcgfedaa", sum := "accc73f022fce8cd72c7256fb6a301d08799ffa2d6c15527a34c6728ae02cbd1", checked := Try.checked }
namespace Rows
def none {H : Type} : Left H := { results := [], args := [] }

/-- 'laws.FnExactTermAgree': WHATEVER THE INPUT: true; the input reads as it did. -/
def fnExactTermAgreeSpec : ChangeSpec := { name := "fnExactTermAgree", fn := fun _ => fun
  | [d] => { results := [.lit (.bool true)], args := [d] }
  | _ => none }
def fnExactTermAgreeRow : OpenClaim := { program := "ytohlmfhfcgfedaa", sum := "accc73f022fce8cd72c7256fb6a301d08799ffa2d6c15527a34c6728ae02cbd1", func := "loop.example/atomicpush/laws.FnExactTermAgree", spec := "fnExactTermAgree", unfollowed := true, recurses := true, apart := false }
def FnExactTermAgreeSaid : Prop := fnExactTermAgreeRow.holds Try.pinned (OpenSpec.ofChange fnExactTermAgreeSpec)

/-- ITS FALSE NEIGHBOUR: 'it returns false'. Refute it at one input. -/
def fnExactTermAgreeWrong : ChangeSpec := { name := "fnExactTermAgree", fn := fun _ => fun
  | [d] => { results := [.lit (.bool false)], args := [d] }
  | _ => none }
def FnExactTermAgreeWrongFalsely : Prop := fnExactTermAgreeRow.holds Try.pinned (OpenSpec.ofChange fnExactTermAgreeWrong)

/-- 'laws.FnExactTermDecide': WHATEVER THE INPUT: true; the input reads as it did. -/
def fnExactTermDecideSpec : ChangeSpec := { name := "fnExactTermDecide", fn := fun _ => fun
  | [d] => { results := [.lit (.bool true)], args := [d] }
  | _ => none }
def fnExactTermDecideRow : OpenClaim := { program := "ytohlmfhfcgfedaa", sum := "accc73f022fce8cd72c7256fb6a301d08799ffa2d6c15527a34c6728ae02cbd1", func := "loop.example/atomicpush/laws.FnExactTermDecide", spec := "fnExactTermDecide", unfollowed := true, recurses := true, apart := false }
def FnExactTermDecideSaid : Prop := fnExactTermDecideRow.holds Try.pinned (OpenSpec.ofChange fnExactTermDecideSpec)

/-- ITS FALSE NEIGHBOUR: 'it returns false'. Refute it at one input. -/
def fnExactTermDecideWrong : ChangeSpec := { name := "fnExactTermDecide", fn := fun _ => fun
  | [d] => { results := [.lit (.bool false)], args := [d] }
  | _ => none }
def FnExactTermDecideWrongFalsely : Prop := fnExactTermDecideRow.holds Try.pinned (OpenSpec.ofChange fnExactTermDecideWrong)

/-- 'laws.FnApplyFits': WHATEVER THE INPUT: true; the input reads as it did. -/
def fnApplyFitsSpec : ChangeSpec := { name := "fnApplyFits", fn := fun _ => fun
  | [d] => { results := [.lit (.bool true)], args := [d] }
  | _ => none }
def fnApplyFitsRow : OpenClaim := { program := "ytohlmfhfcgfedaa", sum := "accc73f022fce8cd72c7256fb6a301d08799ffa2d6c15527a34c6728ae02cbd1", func := "loop.example/atomicpush/laws.FnApplyFits", spec := "fnApplyFits", apart := false }
def FnApplyFitsSaid : Prop := fnApplyFitsRow.holds Try.pinned (OpenSpec.ofChange fnApplyFitsSpec)

/-- ITS FALSE NEIGHBOUR: 'it returns false'. Refute it at one input. -/
def fnApplyFitsWrong : ChangeSpec := { name := "fnApplyFits", fn := fun _ => fun
  | [d] => { results := [.lit (.bool false)], args := [d] }
  | _ => none }
def FnApplyFitsWrongFalsely : Prop := fnApplyFitsRow.holds Try.pinned (OpenSpec.ofChange fnApplyFitsWrong)

/-- 'laws.FnApplyParts': WHATEVER THE INPUT: true; the input reads as it did. -/
def fnApplyPartsSpec : ChangeSpec := { name := "fnApplyParts", fn := fun _ => fun
  | [d1, d2] => { results := [.lit (.bool true)], args := [d1, d2] }
  | _ => none }
def fnApplyPartsRow : OpenClaim := { program := "ytohlmfhfcgfedaa", sum := "accc73f022fce8cd72c7256fb6a301d08799ffa2d6c15527a34c6728ae02cbd1", func := "loop.example/atomicpush/laws.FnApplyParts", spec := "fnApplyParts", apart := false }
def FnApplyPartsSaid : Prop := fnApplyPartsRow.holds Try.pinned (OpenSpec.ofChange fnApplyPartsSpec)

/-- ITS FALSE NEIGHBOUR: 'it returns false'. Refute it at one input. -/
def fnApplyPartsWrong : ChangeSpec := { name := "fnApplyParts", fn := fun _ => fun
  | [d1, d2] => { results := [.lit (.bool false)], args := [d1, d2] }
  | _ => none }
def FnApplyPartsWrongFalsely : Prop := fnApplyPartsRow.holds Try.pinned (OpenSpec.ofChange fnApplyPartsWrong)

/-- 'laws.FnExactDeltaApply': WHATEVER THE INPUT: true; the input reads as it did. -/
def fnExactDeltaApplySpec : ChangeSpec := { name := "fnExactDeltaApply", fn := fun _ => fun
  | [d1, d2] => { results := [.lit (.bool true)], args := [d1, d2] }
  | _ => none }
def fnExactDeltaApplyRow : OpenClaim := { program := "ytohlmfhfcgfedaa", sum := "accc73f022fce8cd72c7256fb6a301d08799ffa2d6c15527a34c6728ae02cbd1", func := "loop.example/atomicpush/laws.FnExactDeltaApply", spec := "fnExactDeltaApply", apart := false }
def FnExactDeltaApplySaid : Prop := fnExactDeltaApplyRow.holds Try.pinned (OpenSpec.ofChange fnExactDeltaApplySpec)

/-- ITS FALSE NEIGHBOUR: 'it returns false'. Refute it at one input. -/
def fnExactDeltaApplyWrong : ChangeSpec := { name := "fnExactDeltaApply", fn := fun _ => fun
  | [d1, d2] => { results := [.lit (.bool false)], args := [d1, d2] }
  | _ => none }
def FnExactDeltaApplyWrongFalsely : Prop := fnExactDeltaApplyRow.holds Try.pinned (OpenSpec.ofChange fnExactDeltaApplyWrong)

/-- 'laws.FnAgree': WHATEVER THE INPUT: true; the input reads as it did. -/
def fnAgreeSpec : ChangeSpec := { name := "fnAgree", fn := fun _ => fun
  | [d] => { results := [.lit (.bool true)], args := [d] }
  | _ => none }
def fnAgreeRow : OpenClaim := { program := "ytohlmfhfcgfedaa", sum := "accc73f022fce8cd72c7256fb6a301d08799ffa2d6c15527a34c6728ae02cbd1", func := "loop.example/atomicpush/laws.FnAgree", spec := "fnAgree", unfollowed := true, recurses := true, apart := false }
def FnAgreeSaid : Prop := fnAgreeRow.holds Try.pinned (OpenSpec.ofChange fnAgreeSpec)

/-- ITS FALSE NEIGHBOUR: 'it returns false'. Refute it at one input. -/
def fnAgreeWrong : ChangeSpec := { name := "fnAgree", fn := fun _ => fun
  | [d] => { results := [.lit (.bool false)], args := [d] }
  | _ => none }
def FnAgreeWrongFalsely : Prop := fnAgreeRow.holds Try.pinned (OpenSpec.ofChange fnAgreeWrong)

/-- 'laws.FnTermBad': WHATEVER THE INPUT: true; the input reads as it did. -/
def fnTermBadSpec : ChangeSpec := { name := "fnTermBad", fn := fun _ => fun
  | [d] => { results := [.lit (.bool true)], args := [d] }
  | _ => none }
def fnTermBadRow : OpenClaim := { program := "ytohlmfhfcgfedaa", sum := "accc73f022fce8cd72c7256fb6a301d08799ffa2d6c15527a34c6728ae02cbd1", func := "loop.example/atomicpush/laws.FnTermBad", spec := "fnTermBad", unfollowed := true, recurses := true, apart := false }
def FnTermBadSaid : Prop := fnTermBadRow.holds Try.pinned (OpenSpec.ofChange fnTermBadSpec)

/-- ITS FALSE NEIGHBOUR: 'it returns false'. Refute it at one input. -/
def fnTermBadWrong : ChangeSpec := { name := "fnTermBad", fn := fun _ => fun
  | [d] => { results := [.lit (.bool false)], args := [d] }
  | _ => none }
def FnTermBadWrongFalsely : Prop := fnTermBadRow.holds Try.pinned (OpenSpec.ofChange fnTermBadWrong)

/-- 'laws.FnApplyEmpty': WHATEVER THE INPUT: true; the input reads as it did. -/
def fnApplyEmptySpec : ChangeSpec := { name := "fnApplyEmpty", fn := fun _ => fun
  | [d] => { results := [.lit (.bool true)], args := [d] }
  | _ => none }
def fnApplyEmptyRow : OpenClaim := { program := "ytohlmfhfcgfedaa", sum := "accc73f022fce8cd72c7256fb6a301d08799ffa2d6c15527a34c6728ae02cbd1", func := "loop.example/atomicpush/laws.FnApplyEmpty", spec := "fnApplyEmpty", apart := false }
def FnApplyEmptySaid : Prop := fnApplyEmptyRow.holds Try.pinned (OpenSpec.ofChange fnApplyEmptySpec)

/-- ITS FALSE NEIGHBOUR: 'it returns false'. Refute it at one input. -/
def fnApplyEmptyWrong : ChangeSpec := { name := "fnApplyEmpty", fn := fun _ => fun
  | [d] => { results := [.lit (.bool false)], args := [d] }
  | _ => none }
def FnApplyEmptyWrongFalsely : Prop := fnApplyEmptyRow.holds Try.pinned (OpenSpec.ofChange fnApplyEmptyWrong)

/-- 'laws.FnTermMore': WHATEVER THE INPUT: true; the input reads as it did. -/
def fnTermMoreSpec : ChangeSpec := { name := "fnTermMore", fn := fun _ => fun
  | [d1, d2] => { results := [.lit (.bool true)], args := [d1, d2] }
  | _ => none }
def fnTermMoreRow : OpenClaim := { program := "ytohlmfhfcgfedaa", sum := "accc73f022fce8cd72c7256fb6a301d08799ffa2d6c15527a34c6728ae02cbd1", func := "loop.example/atomicpush/laws.FnTermMore", spec := "fnTermMore", unfollowed := true, recurses := true, apart := false }
def FnTermMoreSaid : Prop := fnTermMoreRow.holds Try.pinned (OpenSpec.ofChange fnTermMoreSpec)

/-- ITS FALSE NEIGHBOUR: 'it returns false'. Refute it at one input. -/
def fnTermMoreWrong : ChangeSpec := { name := "fnTermMore", fn := fun _ => fun
  | [d1, d2] => { results := [.lit (.bool false)], args := [d1, d2] }
  | _ => none }
def FnTermMoreWrongFalsely : Prop := fnTermMoreRow.holds Try.pinned (OpenSpec.ofChange fnTermMoreWrong)

/-- 'laws.FnTermAll': WHATEVER THE INPUT: true; the input reads as it did. -/
def fnTermAllSpec : ChangeSpec := { name := "fnTermAll", fn := fun _ => fun
  | [d1, d2] => { results := [.lit (.bool true)], args := [d1, d2] }
  | _ => none }
def fnTermAllRow : OpenClaim := { program := "ytohlmfhfcgfedaa", sum := "accc73f022fce8cd72c7256fb6a301d08799ffa2d6c15527a34c6728ae02cbd1", func := "loop.example/atomicpush/laws.FnTermAll", spec := "fnTermAll", unfollowed := true, recurses := true, apart := false }
def FnTermAllSaid : Prop := fnTermAllRow.holds Try.pinned (OpenSpec.ofChange fnTermAllSpec)

/-- ITS FALSE NEIGHBOUR: 'it returns false'. Refute it at one input. -/
def fnTermAllWrong : ChangeSpec := { name := "fnTermAll", fn := fun _ => fun
  | [d1, d2] => { results := [.lit (.bool false)], args := [d1, d2] }
  | _ => none }
def FnTermAllWrongFalsely : Prop := fnTermAllRow.holds Try.pinned (OpenSpec.ofChange fnTermAllWrong)

/-- 'laws.FnTermDecide': WHATEVER THE INPUT: true; the input reads as it did. -/
def fnTermDecideSpec : ChangeSpec := { name := "fnTermDecide", fn := fun _ => fun
  | [d] => { results := [.lit (.bool true)], args := [d] }
  | _ => none }
def fnTermDecideRow : OpenClaim := { program := "ytohlmfhfcgfedaa", sum := "accc73f022fce8cd72c7256fb6a301d08799ffa2d6c15527a34c6728ae02cbd1", func := "loop.example/atomicpush/laws.FnTermDecide", spec := "fnTermDecide", unfollowed := true, recurses := true, apart := false }
def FnTermDecideSaid : Prop := fnTermDecideRow.holds Try.pinned (OpenSpec.ofChange fnTermDecideSpec)

/-- ITS FALSE NEIGHBOUR: 'it returns false'. Refute it at one input. -/
def fnTermDecideWrong : ChangeSpec := { name := "fnTermDecide", fn := fun _ => fun
  | [d] => { results := [.lit (.bool false)], args := [d] }
  | _ => none }
def FnTermDecideWrongFalsely : Prop := fnTermDecideRow.holds Try.pinned (OpenSpec.ofChange fnTermDecideWrong)

/-- 'laws.FnDelta': WHATEVER THE INPUT: true; the input reads as it did. -/
def fnDeltaSpec : ChangeSpec := { name := "fnDelta", fn := fun _ => fun
  | [d] => { results := [.lit (.bool true)], args := [d] }
  | _ => none }
def fnDeltaRow : OpenClaim := { program := "ytohlmfhfcgfedaa", sum := "accc73f022fce8cd72c7256fb6a301d08799ffa2d6c15527a34c6728ae02cbd1", func := "loop.example/atomicpush/laws.FnDelta", spec := "fnDelta", inPlace := ["internal/bytealg.IndexByteString", "internal/bytealg.IndexString"], named := ["internal/bytealg.MaxLen"], apart := false }
def FnDeltaSaid : Prop := fnDeltaRow.holds Try.pinned (OpenSpec.ofChange fnDeltaSpec)

/-- ITS FALSE NEIGHBOUR: 'it returns false'. Refute it at one input. -/
def fnDeltaWrong : ChangeSpec := { name := "fnDelta", fn := fun _ => fun
  | [d] => { results := [.lit (.bool false)], args := [d] }
  | _ => none }
def FnDeltaWrongFalsely : Prop := fnDeltaRow.holds Try.pinned (OpenSpec.ofChange fnDeltaWrong)

/- THE SECOND FORM. 'bulk': how many values and letters a reading holds, each counted each time it is reached (what is shared counts as often as it is met; a slice's spare places count too). A statement '..UptoSaid' is the law's where the arguments, and the package variables that the reading takes, are together of bulk at most 1048576: NARROWER than '..Said'. Prove '..Said' where nothing that the law and all that it calls make is longer than what came in: it says more and counts as full. Else prove '..UptoSaid'. A law counts once. -/
mutual
def uptoBulk {H : Type} : DataW H → Nat
  | .lit (.string bytes) => bytes.length + 1
  | .lit _ => 1
  | .nil => 1
  | .ptr d => uptoBulk d + 1
  | .slice elems spare => uptoBulkAll elems + uptoBulkAll spare + 1
  | .agg parts => uptoBulkAll parts + 1
  | .iface _ d => uptoBulk d + 1
  | .map entries => uptoBulkEntries entries + 1
  | .held _ => 1
def uptoBulkAll {H : Type} : List (DataW H) → Nat
  | [] => 0
  | d :: r => uptoBulk d + uptoBulkAll r
def uptoBulkEntries {H : Type} : List (Lit × DataW H) → Nat
  | [] => 0
  | x :: r => uptoBulkEntry x + uptoBulkEntries r
def uptoBulkEntry {H : Type} : Lit × DataW H → Nat
  | (.string bytes, d) => bytes.length + uptoBulk d + 1
  | (_, d) => uptoBulk d + 1
 end
def uptoSmall : (H : Type) → List (DataW H) → Bool := fun _ ds => decide (uptoBulkAll ds ≤ 1048576)
def OpenSpec.upto (s : _root_.Go.ChangeSpec) : _root_.Go.OpenSpec := { _root_.Go.OpenSpec.ofChange s with cond := some uptoSmall }

/-- 'laws.FnExactTermAgree', WHERE WHAT IT READS IS OF BULK AT MOST 1048576: true; the input reads as it did. -/
def fnExactTermAgreeUptoRow : OpenClaim := { program := "ytohlmfhfcgfedaa", sum := "accc73f022fce8cd72c7256fb6a301d08799ffa2d6c15527a34c6728ae02cbd1", func := "loop.example/atomicpush/laws.FnExactTermAgree", spec := "fnExactTermAgree", unfollowed := true, recurses := true, apart := false, narrowed := true }
def FnExactTermAgreeUptoSaid : Prop := fnExactTermAgreeUptoRow.holds Try.pinned (OpenSpec.upto fnExactTermAgreeSpec)

/-- 'laws.FnExactTermDecide', WHERE WHAT IT READS IS OF BULK AT MOST 1048576: true; the input reads as it did. -/
def fnExactTermDecideUptoRow : OpenClaim := { program := "ytohlmfhfcgfedaa", sum := "accc73f022fce8cd72c7256fb6a301d08799ffa2d6c15527a34c6728ae02cbd1", func := "loop.example/atomicpush/laws.FnExactTermDecide", spec := "fnExactTermDecide", unfollowed := true, recurses := true, apart := false, narrowed := true }
def FnExactTermDecideUptoSaid : Prop := fnExactTermDecideUptoRow.holds Try.pinned (OpenSpec.upto fnExactTermDecideSpec)

/-- 'laws.FnApplyFits', WHERE WHAT IT READS IS OF BULK AT MOST 1048576: true; the input reads as it did. -/
def fnApplyFitsUptoRow : OpenClaim := { program := "ytohlmfhfcgfedaa", sum := "accc73f022fce8cd72c7256fb6a301d08799ffa2d6c15527a34c6728ae02cbd1", func := "loop.example/atomicpush/laws.FnApplyFits", spec := "fnApplyFits", apart := false, narrowed := true }
def FnApplyFitsUptoSaid : Prop := fnApplyFitsUptoRow.holds Try.pinned (OpenSpec.upto fnApplyFitsSpec)

/-- 'laws.FnApplyParts', WHERE WHAT IT READS IS OF BULK AT MOST 1048576: true; the input reads as it did. -/
def fnApplyPartsUptoRow : OpenClaim := { program := "ytohlmfhfcgfedaa", sum := "accc73f022fce8cd72c7256fb6a301d08799ffa2d6c15527a34c6728ae02cbd1", func := "loop.example/atomicpush/laws.FnApplyParts", spec := "fnApplyParts", apart := false, narrowed := true }
def FnApplyPartsUptoSaid : Prop := fnApplyPartsUptoRow.holds Try.pinned (OpenSpec.upto fnApplyPartsSpec)

/-- 'laws.FnExactDeltaApply', WHERE WHAT IT READS IS OF BULK AT MOST 1048576: true; the input reads as it did. -/
def fnExactDeltaApplyUptoRow : OpenClaim := { program := "ytohlmfhfcgfedaa", sum := "accc73f022fce8cd72c7256fb6a301d08799ffa2d6c15527a34c6728ae02cbd1", func := "loop.example/atomicpush/laws.FnExactDeltaApply", spec := "fnExactDeltaApply", apart := false, narrowed := true }
def FnExactDeltaApplyUptoSaid : Prop := fnExactDeltaApplyUptoRow.holds Try.pinned (OpenSpec.upto fnExactDeltaApplySpec)

/-- 'laws.FnAgree', WHERE WHAT IT READS IS OF BULK AT MOST 1048576: true; the input reads as it did. -/
def fnAgreeUptoRow : OpenClaim := { program := "ytohlmfhfcgfedaa", sum := "accc73f022fce8cd72c7256fb6a301d08799ffa2d6c15527a34c6728ae02cbd1", func := "loop.example/atomicpush/laws.FnAgree", spec := "fnAgree", unfollowed := true, recurses := true, apart := false, narrowed := true }
def FnAgreeUptoSaid : Prop := fnAgreeUptoRow.holds Try.pinned (OpenSpec.upto fnAgreeSpec)

/-- 'laws.FnTermBad', WHERE WHAT IT READS IS OF BULK AT MOST 1048576: true; the input reads as it did. -/
def fnTermBadUptoRow : OpenClaim := { program := "ytohlmfhfcgfedaa", sum := "accc73f022fce8cd72c7256fb6a301d08799ffa2d6c15527a34c6728ae02cbd1", func := "loop.example/atomicpush/laws.FnTermBad", spec := "fnTermBad", unfollowed := true, recurses := true, apart := false, narrowed := true }
def FnTermBadUptoSaid : Prop := fnTermBadUptoRow.holds Try.pinned (OpenSpec.upto fnTermBadSpec)

/-- 'laws.FnApplyEmpty', WHERE WHAT IT READS IS OF BULK AT MOST 1048576: true; the input reads as it did. -/
def fnApplyEmptyUptoRow : OpenClaim := { program := "ytohlmfhfcgfedaa", sum := "accc73f022fce8cd72c7256fb6a301d08799ffa2d6c15527a34c6728ae02cbd1", func := "loop.example/atomicpush/laws.FnApplyEmpty", spec := "fnApplyEmpty", apart := false, narrowed := true }
def FnApplyEmptyUptoSaid : Prop := fnApplyEmptyUptoRow.holds Try.pinned (OpenSpec.upto fnApplyEmptySpec)

/-- 'laws.FnTermMore', WHERE WHAT IT READS IS OF BULK AT MOST 1048576: true; the input reads as it did. -/
def fnTermMoreUptoRow : OpenClaim := { program := "ytohlmfhfcgfedaa", sum := "accc73f022fce8cd72c7256fb6a301d08799ffa2d6c15527a34c6728ae02cbd1", func := "loop.example/atomicpush/laws.FnTermMore", spec := "fnTermMore", unfollowed := true, recurses := true, apart := false, narrowed := true }
def FnTermMoreUptoSaid : Prop := fnTermMoreUptoRow.holds Try.pinned (OpenSpec.upto fnTermMoreSpec)

/-- 'laws.FnTermAll', WHERE WHAT IT READS IS OF BULK AT MOST 1048576: true; the input reads as it did. -/
def fnTermAllUptoRow : OpenClaim := { program := "ytohlmfhfcgfedaa", sum := "accc73f022fce8cd72c7256fb6a301d08799ffa2d6c15527a34c6728ae02cbd1", func := "loop.example/atomicpush/laws.FnTermAll", spec := "fnTermAll", unfollowed := true, recurses := true, apart := false, narrowed := true }
def FnTermAllUptoSaid : Prop := fnTermAllUptoRow.holds Try.pinned (OpenSpec.upto fnTermAllSpec)

/-- 'laws.FnTermDecide', WHERE WHAT IT READS IS OF BULK AT MOST 1048576: true; the input reads as it did. -/
def fnTermDecideUptoRow : OpenClaim := { program := "ytohlmfhfcgfedaa", sum := "accc73f022fce8cd72c7256fb6a301d08799ffa2d6c15527a34c6728ae02cbd1", func := "loop.example/atomicpush/laws.FnTermDecide", spec := "fnTermDecide", unfollowed := true, recurses := true, apart := false, narrowed := true }
def FnTermDecideUptoSaid : Prop := fnTermDecideUptoRow.holds Try.pinned (OpenSpec.upto fnTermDecideSpec)

/-- 'laws.FnDelta', WHERE WHAT IT READS IS OF BULK AT MOST 1048576: true; the input reads as it did. -/
def fnDeltaUptoRow : OpenClaim := { program := "ytohlmfhfcgfedaa", sum := "accc73f022fce8cd72c7256fb6a301d08799ffa2d6c15527a34c6728ae02cbd1", func := "loop.example/atomicpush/laws.FnDelta", spec := "fnDelta", inPlace := ["internal/bytealg.IndexByteString", "internal/bytealg.IndexString"], named := ["internal/bytealg.MaxLen"], apart := false, narrowed := true }
def FnDeltaUptoSaid : Prop := fnDeltaUptoRow.holds Try.pinned (OpenSpec.upto fnDeltaSpec)

end Rows
end Go.Proofs.Ytohlmfhfcgfedaa
