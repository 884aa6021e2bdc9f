/-
  No cell of these rows narrows 'for every input' (looked for: loops, veiled, ifaces, maps, wideKeys, modest, calm, conditions, laid).
  DERIVED. THE GIVEN ROWS OF THIS SEAT. 8 by the template 'for every input the law returns true; each argument reads behind the call as it read before'; 0 by the template 'total and deterministic' (their statements: YtgpjcmplnigmcaaTotals.lean).
  GIVEN WITH THE SEED: the statements are not yours to turn. If you find one false, say at which input.
  Laid BY PROGRAM, IN A SANDBOX (cutbox-rows.mjs): the forced cells as the released guide's own fill.sh prints them over the translation 9d887c9f0ab8fae6… (all of the seat's roots in one cut). By AI agents, Wed Nov 11 2026. No macro, syntax, notation, axiom, sorry.
-/
import Derived.Test.YtgpjcmplnigmcaaChecked
import GoSem.Claim
import GoSem.ClaimJoined
import GoSem.ClaimMapViews
import Derived.JoinedTies
import Derived.KernelRfl
namespace Go.Proofs.Ytgpjcmplnigmcaa
/- THE CELL 'sum', in the pinned program and in every row, IS THE sha256 OF THE DUMP (.gsa) THAT YtgpjcmplnigmcaaProg.lean LOADS. Nothing in Lean hashes anything: it is a label: what it is worth is what the hold of that sum in a sandbox is worth. -/
noncomputable def Try.pinned : Pinned := { name := "ytgpjcmplnigmcaa", sum := "9d887c9f0ab8fae6194329c7666302a3c260512abc1ee1f00fd7c72858cbbe86", checked := Try.checked }
namespace Rows
def none {H : Type} : Left H := { results := [], args := [] }

/-- 'laws.FnExactQuarantinePut': WHATEVER THE INPUT: true; the input reads as it did. -/
def fnExactQuarantinePutSpec : ChangeSpec := { name := "fnExactQuarantinePut", fn := fun _ => fun
  | [d1, d2, d3] => { results := [.lit (.bool true)], args := [d1, d2, d3] }
  | _ => none }
def fnExactQuarantinePutRow : OpenClaim := { program := "ytgpjcmplnigmcaa", sum := "9d887c9f0ab8fae6194329c7666302a3c260512abc1ee1f00fd7c72858cbbe86", func := "loop.example/atomicpush/laws.FnExactQuarantinePut", spec := "fnExactQuarantinePut", inPlace := ["slices.overlaps[loop.example/atomicpush/impl.Object]"], unfollowed := true, recurses := true, apart := false }
def FnExactQuarantinePutSaid : Prop := fnExactQuarantinePutRow.holds Try.pinned (OpenSpec.ofChange fnExactQuarantinePutSpec)

/-- ITS FALSE NEIGHBOUR: 'it returns false'. Refute it at one input. -/
def fnExactQuarantinePutWrong : ChangeSpec := { name := "fnExactQuarantinePut", fn := fun _ => fun
  | [d1, d2, d3] => { results := [.lit (.bool false)], args := [d1, d2, d3] }
  | _ => none }
def FnExactQuarantinePutWrongFalsely : Prop := fnExactQuarantinePutRow.holds Try.pinned (OpenSpec.ofChange fnExactQuarantinePutWrong)

/-- 'laws.FnQuarMissingPromote': WHATEVER THE INPUT: true; the input reads as it did. -/
def fnQuarMissingPromoteSpec : ChangeSpec := { name := "fnQuarMissingPromote", fn := fun _ => fun
  | [d] => { results := [.lit (.bool true)], args := [d] }
  | _ => none }
def fnQuarMissingPromoteRow : OpenClaim := { program := "ytgpjcmplnigmcaa", sum := "9d887c9f0ab8fae6194329c7666302a3c260512abc1ee1f00fd7c72858cbbe86", func := "loop.example/atomicpush/laws.FnQuarMissingPromote", spec := "fnQuarMissingPromote", inPlace := ["slices.overlaps[loop.example/atomicpush/impl.Object]"], unfollowed := true, recurses := true, apart := false }
def FnQuarMissingPromoteSaid : Prop := fnQuarMissingPromoteRow.holds Try.pinned (OpenSpec.ofChange fnQuarMissingPromoteSpec)

/-- ITS FALSE NEIGHBOUR: 'it returns false'. Refute it at one input. -/
def fnQuarMissingPromoteWrong : ChangeSpec := { name := "fnQuarMissingPromote", fn := fun _ => fun
  | [d] => { results := [.lit (.bool false)], args := [d] }
  | _ => none }
def FnQuarMissingPromoteWrongFalsely : Prop := fnQuarMissingPromoteRow.holds Try.pinned (OpenSpec.ofChange fnQuarMissingPromoteWrong)

/-- 'laws.FnDiscardPut': WHATEVER THE INPUT: true; the input reads as it did. -/
def fnDiscardPutSpec : ChangeSpec := { name := "fnDiscardPut", fn := fun _ => fun
  | [d] => { results := [.lit (.bool true)], args := [d] }
  | _ => none }
def fnDiscardPutRow : OpenClaim := { program := "ytgpjcmplnigmcaa", sum := "9d887c9f0ab8fae6194329c7666302a3c260512abc1ee1f00fd7c72858cbbe86", func := "loop.example/atomicpush/laws.FnDiscardPut", spec := "fnDiscardPut", inPlace := ["slices.overlaps[loop.example/atomicpush/impl.Object]"], unfollowed := true, recurses := true, apart := false }
def FnDiscardPutSaid : Prop := fnDiscardPutRow.holds Try.pinned (OpenSpec.ofChange fnDiscardPutSpec)

/-- ITS FALSE NEIGHBOUR: 'it returns false'. Refute it at one input. -/
def fnDiscardPutWrong : ChangeSpec := { name := "fnDiscardPut", fn := fun _ => fun
  | [d] => { results := [.lit (.bool false)], args := [d] }
  | _ => none }
def FnDiscardPutWrongFalsely : Prop := fnDiscardPutRow.holds Try.pinned (OpenSpec.ofChange fnDiscardPutWrong)

/-- 'laws.FnPromoteTwice': WHATEVER THE INPUT: true; the input reads as it did. -/
def fnPromoteTwiceSpec : ChangeSpec := { name := "fnPromoteTwice", fn := fun _ => fun
  | [d] => { results := [.lit (.bool true)], args := [d] }
  | _ => none }
def fnPromoteTwiceRow : OpenClaim := { program := "ytgpjcmplnigmcaa", sum := "9d887c9f0ab8fae6194329c7666302a3c260512abc1ee1f00fd7c72858cbbe86", func := "loop.example/atomicpush/laws.FnPromoteTwice", spec := "fnPromoteTwice", inPlace := ["slices.overlaps[loop.example/atomicpush/impl.Object]"], unfollowed := true, recurses := true, apart := false }
def FnPromoteTwiceSaid : Prop := fnPromoteTwiceRow.holds Try.pinned (OpenSpec.ofChange fnPromoteTwiceSpec)

/-- ITS FALSE NEIGHBOUR: 'it returns false'. Refute it at one input. -/
def fnPromoteTwiceWrong : ChangeSpec := { name := "fnPromoteTwice", fn := fun _ => fun
  | [d] => { results := [.lit (.bool false)], args := [d] }
  | _ => none }
def FnPromoteTwiceWrongFalsely : Prop := fnPromoteTwiceRow.holds Try.pinned (OpenSpec.ofChange fnPromoteTwiceWrong)

/-- 'laws.FnQuarPut': WHATEVER THE INPUT: true; the input reads as it did. -/
def fnQuarPutSpec : ChangeSpec := { name := "fnQuarPut", fn := fun _ => fun
  | [d] => { results := [.lit (.bool true)], args := [d] }
  | _ => none }
def fnQuarPutRow : OpenClaim := { program := "ytgpjcmplnigmcaa", sum := "9d887c9f0ab8fae6194329c7666302a3c260512abc1ee1f00fd7c72858cbbe86", func := "loop.example/atomicpush/laws.FnQuarPut", spec := "fnQuarPut", inPlace := ["slices.overlaps[loop.example/atomicpush/impl.Object]"], unfollowed := true, recurses := true, apart := false }
def FnQuarPutSaid : Prop := fnQuarPutRow.holds Try.pinned (OpenSpec.ofChange fnQuarPutSpec)

/-- ITS FALSE NEIGHBOUR: 'it returns false'. Refute it at one input. -/
def fnQuarPutWrong : ChangeSpec := { name := "fnQuarPut", fn := fun _ => fun
  | [d] => { results := [.lit (.bool false)], args := [d] }
  | _ => none }
def FnQuarPutWrongFalsely : Prop := fnQuarPutRow.holds Try.pinned (OpenSpec.ofChange fnQuarPutWrong)

/-- 'laws.FnQuarNone': WHATEVER THE INPUT: true; the input reads as it did. -/
def fnQuarNoneSpec : ChangeSpec := { name := "fnQuarNone", fn := fun _ => fun
  | [d] => { results := [.lit (.bool true)], args := [d] }
  | _ => none }
def fnQuarNoneRow : OpenClaim := { program := "ytgpjcmplnigmcaa", sum := "9d887c9f0ab8fae6194329c7666302a3c260512abc1ee1f00fd7c72858cbbe86", func := "loop.example/atomicpush/laws.FnQuarNone", spec := "fnQuarNone", inPlace := ["slices.overlaps[loop.example/atomicpush/impl.Object]"], unfollowed := true, recurses := true, apart := false }
def FnQuarNoneSaid : Prop := fnQuarNoneRow.holds Try.pinned (OpenSpec.ofChange fnQuarNoneSpec)

/-- ITS FALSE NEIGHBOUR: 'it returns false'. Refute it at one input. -/
def fnQuarNoneWrong : ChangeSpec := { name := "fnQuarNone", fn := fun _ => fun
  | [d] => { results := [.lit (.bool false)], args := [d] }
  | _ => none }
def FnQuarNoneWrongFalsely : Prop := fnQuarNoneRow.holds Try.pinned (OpenSpec.ofChange fnQuarNoneWrong)

/-- 'laws.FnPromote': WHATEVER THE INPUT: true; the input reads as it did. -/
def fnPromoteSpec : ChangeSpec := { name := "fnPromote", fn := fun _ => fun
  | [d] => { results := [.lit (.bool true)], args := [d] }
  | _ => none }
def fnPromoteRow : OpenClaim := { program := "ytgpjcmplnigmcaa", sum := "9d887c9f0ab8fae6194329c7666302a3c260512abc1ee1f00fd7c72858cbbe86", func := "loop.example/atomicpush/laws.FnPromote", spec := "fnPromote", inPlace := ["slices.overlaps[loop.example/atomicpush/impl.Object]"], unfollowed := true, recurses := true, apart := false }
def FnPromoteSaid : Prop := fnPromoteRow.holds Try.pinned (OpenSpec.ofChange fnPromoteSpec)

/-- ITS FALSE NEIGHBOUR: 'it returns false'. Refute it at one input. -/
def fnPromoteWrong : ChangeSpec := { name := "fnPromote", fn := fun _ => fun
  | [d] => { results := [.lit (.bool false)], args := [d] }
  | _ => none }
def FnPromoteWrongFalsely : Prop := fnPromoteRow.holds Try.pinned (OpenSpec.ofChange fnPromoteWrong)

/-- 'laws.FnExactQuarantinePromote': WHATEVER THE INPUT: true; the input reads as it did. -/
def fnExactQuarantinePromoteSpec : ChangeSpec := { name := "fnExactQuarantinePromote", fn := fun _ => fun
  | [d1, d2] => { results := [.lit (.bool true)], args := [d1, d2] }
  | _ => none }
def fnExactQuarantinePromoteRow : OpenClaim := { program := "ytgpjcmplnigmcaa", sum := "9d887c9f0ab8fae6194329c7666302a3c260512abc1ee1f00fd7c72858cbbe86", func := "loop.example/atomicpush/laws.FnExactQuarantinePromote", spec := "fnExactQuarantinePromote", inPlace := ["slices.overlaps[loop.example/atomicpush/impl.Object]"], unfollowed := true, recurses := true, apart := false }
def FnExactQuarantinePromoteSaid : Prop := fnExactQuarantinePromoteRow.holds Try.pinned (OpenSpec.ofChange fnExactQuarantinePromoteSpec)

/-- ITS FALSE NEIGHBOUR: 'it returns false'. Refute it at one input. -/
def fnExactQuarantinePromoteWrong : ChangeSpec := { name := "fnExactQuarantinePromote", fn := fun _ => fun
  | [d1, d2] => { results := [.lit (.bool false)], args := [d1, d2] }
  | _ => none }
def FnExactQuarantinePromoteWrongFalsely : Prop := fnExactQuarantinePromoteRow.holds Try.pinned (OpenSpec.ofChange fnExactQuarantinePromoteWrong)

/- THE SECOND FORM. 'bulk': how many values and letters a reading holds, each counted each time it is reached (what is shared counts as often as it is met; a slice's spare places count too). A statement '..UptoSaid' is the law's where the arguments, and the package variables that the reading takes, are together of bulk at most 1048576: NARROWER than '..Said'. Prove '..Said' where nothing that the law and all that it calls make is longer than what came in: it says more and counts as full. Else prove '..UptoSaid'. A law counts once. -/
mutual
def uptoBulk {H : Type} : DataW H → Nat
  | .lit (.string bytes) => bytes.length + 1
  | .lit _ => 1
  | .nil => 1
  | .ptr d => uptoBulk d + 1
  | .slice elems spare => uptoBulkAll elems + uptoBulkAll spare + 1
  | .agg parts => uptoBulkAll parts + 1
  | .iface _ d => uptoBulk d + 1
  | .map entries => uptoBulkEntries entries + 1
  | .held _ => 1
def uptoBulkAll {H : Type} : List (DataW H) → Nat
  | [] => 0
  | d :: r => uptoBulk d + uptoBulkAll r
def uptoBulkEntries {H : Type} : List (Lit × DataW H) → Nat
  | [] => 0
  | x :: r => uptoBulkEntry x + uptoBulkEntries r
def uptoBulkEntry {H : Type} : Lit × DataW H → Nat
  | (.string bytes, d) => bytes.length + uptoBulk d + 1
  | (_, d) => uptoBulk d + 1
 end
def uptoSmall : (H : Type) → List (DataW H) → Bool := fun _ ds => decide (uptoBulkAll ds ≤ 1048576)
def OpenSpec.upto (s : _root_.Go.ChangeSpec) : _root_.Go.OpenSpec := { _root_.Go.OpenSpec.ofChange s with cond := some uptoSmall }

/-- 'laws.FnExactQuarantinePut', WHERE WHAT IT READS IS OF BULK AT MOST 1048576: true; the input reads as it did. -/
def fnExactQuarantinePutUptoRow : OpenClaim := { program := "ytgpjcmplnigmcaa", sum := "9d887c9f0ab8fae6194329c7666302a3c260512abc1ee1f00fd7c72858cbbe86", func := "loop.example/atomicpush/laws.FnExactQuarantinePut", spec := "fnExactQuarantinePut", inPlace := ["slices.overlaps[loop.example/atomicpush/impl.Object]"], unfollowed := true, recurses := true, apart := false, narrowed := true }
def FnExactQuarantinePutUptoSaid : Prop := fnExactQuarantinePutUptoRow.holds Try.pinned (OpenSpec.upto fnExactQuarantinePutSpec)

/-- 'laws.FnQuarMissingPromote', WHERE WHAT IT READS IS OF BULK AT MOST 1048576: true; the input reads as it did. -/
def fnQuarMissingPromoteUptoRow : OpenClaim := { program := "ytgpjcmplnigmcaa", sum := "9d887c9f0ab8fae6194329c7666302a3c260512abc1ee1f00fd7c72858cbbe86", func := "loop.example/atomicpush/laws.FnQuarMissingPromote", spec := "fnQuarMissingPromote", inPlace := ["slices.overlaps[loop.example/atomicpush/impl.Object]"], unfollowed := true, recurses := true, apart := false, narrowed := true }
def FnQuarMissingPromoteUptoSaid : Prop := fnQuarMissingPromoteUptoRow.holds Try.pinned (OpenSpec.upto fnQuarMissingPromoteSpec)

/-- 'laws.FnDiscardPut', WHERE WHAT IT READS IS OF BULK AT MOST 1048576: true; the input reads as it did. -/
def fnDiscardPutUptoRow : OpenClaim := { program := "ytgpjcmplnigmcaa", sum := "9d887c9f0ab8fae6194329c7666302a3c260512abc1ee1f00fd7c72858cbbe86", func := "loop.example/atomicpush/laws.FnDiscardPut", spec := "fnDiscardPut", inPlace := ["slices.overlaps[loop.example/atomicpush/impl.Object]"], unfollowed := true, recurses := true, apart := false, narrowed := true }
def FnDiscardPutUptoSaid : Prop := fnDiscardPutUptoRow.holds Try.pinned (OpenSpec.upto fnDiscardPutSpec)

/-- 'laws.FnPromoteTwice', WHERE WHAT IT READS IS OF BULK AT MOST 1048576: true; the input reads as it did. -/
def fnPromoteTwiceUptoRow : OpenClaim := { program := "ytgpjcmplnigmcaa", sum := "9d887c9f0ab8fae6194329c7666302a3c260512abc1ee1f00fd7c72858cbbe86", func := "loop.example/atomicpush/laws.FnPromoteTwice", spec := "fnPromoteTwice", inPlace := ["slices.overlaps[loop.example/atomicpush/impl.Object]"], unfollowed := true, recurses := true, apart := false, narrowed := true }
def FnPromoteTwiceUptoSaid : Prop := fnPromoteTwiceUptoRow.holds Try.pinned (OpenSpec.upto fnPromoteTwiceSpec)

/-- 'laws.FnQuarPut', WHERE WHAT IT READS IS OF BULK AT MOST 1048576: true; the input reads as it did. -/
def fnQuarPutUptoRow : OpenClaim := { program := "ytgpjcmplnigmcaa", sum := "9d887c9f0ab8fae6194329c7666302a3c260512abc1ee1f00fd7c72858cbbe86", func := "loop.example/atomicpush/laws.FnQuarPut", spec := "fnQuarPut", inPlace := ["slices.overlaps[loop.example/atomicpush/impl.Object]"], unfollowed := true, recurses := true, apart := false, narrowed := true }
def FnQuarPutUptoSaid : Prop := fnQuarPutUptoRow.holds Try.pinned (OpenSpec.upto fnQuarPutSpec)

/-- 'laws.FnQuarNone', WHERE WHAT IT READS IS OF BULK AT MOST 1048576: true; the input reads as it did. -/
def fnQuarNoneUptoRow : OpenClaim := { program := "ytgpjcmplnigmcaa", sum := "9d887c9f0ab8fae6194329c7666302a3c260512abc1ee1f00fd7c72858cbbe86", func := "loop.example/atomicpush/laws.FnQuarNone", spec := "fnQuarNone", inPlace := ["slices.overlaps[loop.example/atomicpush/impl.Object]"], unfollowed := true, recurses := true, apart := false, narrowed := true }
def FnQuarNoneUptoSaid : Prop := fnQuarNoneUptoRow.holds Try.pinned (OpenSpec.upto fnQuarNoneSpec)

/-- 'laws.FnPromote', WHERE WHAT IT READS IS OF BULK AT MOST 1048576: true; the input reads as it did. -/
def fnPromoteUptoRow : OpenClaim := { program := "ytgpjcmplnigmcaa", sum := "9d887c9f0ab8fae6194329c7666302a3c260512abc1ee1f00fd7c72858cbbe86", func := "loop.example/atomicpush/laws.FnPromote", spec := "fnPromote", inPlace := ["slices.overlaps[loop.example/atomicpush/impl.Object]"], unfollowed := true, recurses := true, apart := false, narrowed := true }
def FnPromoteUptoSaid : Prop := fnPromoteUptoRow.holds Try.pinned (OpenSpec.upto fnPromoteSpec)

/-- 'laws.FnExactQuarantinePromote', WHERE WHAT IT READS IS OF BULK AT MOST 1048576: true; the input reads as it did. -/
def fnExactQuarantinePromoteUptoRow : OpenClaim := { program := "ytgpjcmplnigmcaa", sum := "9d887c9f0ab8fae6194329c7666302a3c260512abc1ee1f00fd7c72858cbbe86", func := "loop.example/atomicpush/laws.FnExactQuarantinePromote", spec := "fnExactQuarantinePromote", inPlace := ["slices.overlaps[loop.example/atomicpush/impl.Object]"], unfollowed := true, recurses := true, apart := false, narrowed := true }
def FnExactQuarantinePromoteUptoSaid : Prop := fnExactQuarantinePromoteUptoRow.holds Try.pinned (OpenSpec.upto fnExactQuarantinePromoteSpec)

end Rows
end Go.Proofs.Ytgpjcmplnigmcaa
