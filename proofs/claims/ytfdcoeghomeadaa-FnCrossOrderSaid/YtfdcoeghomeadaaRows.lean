/-
  No cell of these rows narrows 'for every input' (looked for: loops, veiled, ifaces, maps, wideKeys, modest, calm, conditions, laid).
  DERIVED. THE GIVEN ROWS OF THIS SEAT. 9 by the template 'for every input the law returns true; each argument reads behind the call as it read before'; 0 by the template 'total and deterministic' (their statements: YtfdcoeghomeadaaTotals.lean).
  GIVEN WITH THE SEED: the statements are not yours to turn. If you find one false, say at which input.
  Laid BY PROGRAM, IN A SANDBOX (cutbox-rows.mjs): the forced cells as the released guide's own fill.sh prints them over the translation dff30d36ad7fd4fb… (all of the seat's roots in one cut). By AI agents, Wed Nov 11 2026. No macro, syntax, notation, axiom, sorry.
-/
import Derived.Test.YtfdcoeghomeadaaChecked
import GoSem.Claim
import GoSem.ClaimJoined
import GoSem.ClaimMapViews
import Derived.JoinedTies
import Derived.KernelRfl
namespace Go.Proofs.Ytfdcoeghomeadaa
/- THE CELL 'sum', in the pinned program and in every row, IS THE sha256 OF THE DUMP (.gsa) THAT YtfdcoeghomeadaaProg.lean LOADS. Nothing in Lean hashes anything: it is a label: what it is worth is what the hold of that sum in a sandbox is worth. -/
noncomputable def Try.pinned : Pinned := { name := "ytfdcoeghomeadaa", sum := "dff30d36ad7fd4fb2f12209a5074469ba1846045e61f8960281adcc7728b633b", checked := Try.checked }
namespace Rows
def none {H : Type} : Left H := { results := [], args := [] }

/-- 'laws.FnDiffer': WHATEVER THE INPUT: true; the input reads as it did. -/
def fnDifferSpec : ChangeSpec := { name := "fnDiffer", fn := fun _ => fun
  | [d] => { results := [.lit (.bool true)], args := [d] }
  | _ => none }
def fnDifferRow : OpenClaim := { program := "ytfdcoeghomeadaa", sum := "dff30d36ad7fd4fb2f12209a5074469ba1846045e61f8960281adcc7728b633b", func := "loop.example/atomicpush/laws.FnDiffer", spec := "fnDiffer", unfollowed := true, recurses := true, apart := false }
def FnDifferSaid : Prop := fnDifferRow.holds Try.pinned (OpenSpec.ofChange fnDifferSpec)

/-- ITS FALSE NEIGHBOUR: 'it returns false'. Refute it at one input. -/
def fnDifferWrong : ChangeSpec := { name := "fnDiffer", fn := fun _ => fun
  | [d] => { results := [.lit (.bool false)], args := [d] }
  | _ => none }
def FnDifferWrongFalsely : Prop := fnDifferRow.holds Try.pinned (OpenSpec.ofChange fnDifferWrong)

/-- 'laws.FnApplyNone': WHATEVER THE INPUT: true; the input reads as it did. -/
def fnApplyNoneSpec : ChangeSpec := { name := "fnApplyNone", fn := fun _ => fun
  | [d] => { results := [.lit (.bool true)], args := [d] }
  | _ => none }
def fnApplyNoneRow : OpenClaim := { program := "ytfdcoeghomeadaa", sum := "dff30d36ad7fd4fb2f12209a5074469ba1846045e61f8960281adcc7728b633b", func := "loop.example/atomicpush/laws.FnApplyNone", spec := "fnApplyNone", unfollowed := true, recurses := true, apart := false }
def FnApplyNoneSaid : Prop := fnApplyNoneRow.holds Try.pinned (OpenSpec.ofChange fnApplyNoneSpec)

/-- ITS FALSE NEIGHBOUR: 'it returns false'. Refute it at one input. -/
def fnApplyNoneWrong : ChangeSpec := { name := "fnApplyNone", fn := fun _ => fun
  | [d] => { results := [.lit (.bool false)], args := [d] }
  | _ => none }
def FnApplyNoneWrongFalsely : Prop := fnApplyNoneRow.holds Try.pinned (OpenSpec.ofChange fnApplyNoneWrong)

/-- 'laws.FnApplyRefs': WHATEVER THE INPUT: true; the input reads as it did. -/
def fnApplyRefsSpec : ChangeSpec := { name := "fnApplyRefs", fn := fun _ => fun
  | [d] => { results := [.lit (.bool true)], args := [d] }
  | _ => none }
def fnApplyRefsRow : OpenClaim := { program := "ytfdcoeghomeadaa", sum := "dff30d36ad7fd4fb2f12209a5074469ba1846045e61f8960281adcc7728b633b", func := "loop.example/atomicpush/laws.FnApplyRefs", spec := "fnApplyRefs", unfollowed := true, recurses := true, apart := false }
def FnApplyRefsSaid : Prop := fnApplyRefsRow.holds Try.pinned (OpenSpec.ofChange fnApplyRefsSpec)

/-- ITS FALSE NEIGHBOUR: 'it returns false'. Refute it at one input. -/
def fnApplyRefsWrong : ChangeSpec := { name := "fnApplyRefs", fn := fun _ => fun
  | [d] => { results := [.lit (.bool false)], args := [d] }
  | _ => none }
def FnApplyRefsWrongFalsely : Prop := fnApplyRefsRow.holds Try.pinned (OpenSpec.ofChange fnApplyRefsWrong)

/-- 'laws.FnApplyTwice': WHATEVER THE INPUT: true; the input reads as it did. -/
def fnApplyTwiceSpec : ChangeSpec := { name := "fnApplyTwice", fn := fun _ => fun
  | [d] => { results := [.lit (.bool true)], args := [d] }
  | _ => none }
def fnApplyTwiceRow : OpenClaim := { program := "ytfdcoeghomeadaa", sum := "dff30d36ad7fd4fb2f12209a5074469ba1846045e61f8960281adcc7728b633b", func := "loop.example/atomicpush/laws.FnApplyTwice", spec := "fnApplyTwice", unfollowed := true, recurses := true, apart := false }
def FnApplyTwiceSaid : Prop := fnApplyTwiceRow.holds Try.pinned (OpenSpec.ofChange fnApplyTwiceSpec)

/-- ITS FALSE NEIGHBOUR: 'it returns false'. Refute it at one input. -/
def fnApplyTwiceWrong : ChangeSpec := { name := "fnApplyTwice", fn := fun _ => fun
  | [d] => { results := [.lit (.bool false)], args := [d] }
  | _ => none }
def FnApplyTwiceWrongFalsely : Prop := fnApplyTwiceRow.holds Try.pinned (OpenSpec.ofChange fnApplyTwiceWrong)

/-- 'laws.FnExactRefsApply': WHATEVER THE INPUT: true; the input reads as it did. -/
def fnExactRefsApplySpec : ChangeSpec := { name := "fnExactRefsApply", fn := fun _ => fun
  | [d1, d2] => { results := [.lit (.bool true)], args := [d1, d2] }
  | _ => none }
def fnExactRefsApplyRow : OpenClaim := { program := "ytfdcoeghomeadaa", sum := "dff30d36ad7fd4fb2f12209a5074469ba1846045e61f8960281adcc7728b633b", func := "loop.example/atomicpush/laws.FnExactRefsApply", spec := "fnExactRefsApply", unfollowed := true, recurses := true, apart := false }
def FnExactRefsApplySaid : Prop := fnExactRefsApplyRow.holds Try.pinned (OpenSpec.ofChange fnExactRefsApplySpec)

/-- ITS FALSE NEIGHBOUR: 'it returns false'. Refute it at one input. -/
def fnExactRefsApplyWrong : ChangeSpec := { name := "fnExactRefsApply", fn := fun _ => fun
  | [d1, d2] => { results := [.lit (.bool false)], args := [d1, d2] }
  | _ => none }
def FnExactRefsApplyWrongFalsely : Prop := fnExactRefsApplyRow.holds Try.pinned (OpenSpec.ofChange fnExactRefsApplyWrong)

/-- 'laws.FnApplyBack': WHATEVER THE INPUT: true; the input reads as it did. -/
def fnApplyBackSpec : ChangeSpec := { name := "fnApplyBack", fn := fun _ => fun
  | [d] => { results := [.lit (.bool true)], args := [d] }
  | _ => none }
def fnApplyBackRow : OpenClaim := { program := "ytfdcoeghomeadaa", sum := "dff30d36ad7fd4fb2f12209a5074469ba1846045e61f8960281adcc7728b633b", func := "loop.example/atomicpush/laws.FnApplyBack", spec := "fnApplyBack", unfollowed := true, recurses := true, apart := false }
def FnApplyBackSaid : Prop := fnApplyBackRow.holds Try.pinned (OpenSpec.ofChange fnApplyBackSpec)

/-- ITS FALSE NEIGHBOUR: 'it returns false'. Refute it at one input. -/
def fnApplyBackWrong : ChangeSpec := { name := "fnApplyBack", fn := fun _ => fun
  | [d] => { results := [.lit (.bool false)], args := [d] }
  | _ => none }
def FnApplyBackWrongFalsely : Prop := fnApplyBackRow.holds Try.pinned (OpenSpec.ofChange fnApplyBackWrong)

/-- 'laws.FnCrossOrder': WHATEVER THE INPUT: true; the input reads as it did. -/
def fnCrossOrderSpec : ChangeSpec := { name := "fnCrossOrder", fn := fun _ => fun
  | [d1, d2] => { results := [.lit (.bool true)], args := [d1, d2] }
  | _ => none }
def fnCrossOrderRow : OpenClaim := { program := "ytfdcoeghomeadaa", sum := "dff30d36ad7fd4fb2f12209a5074469ba1846045e61f8960281adcc7728b633b", func := "loop.example/atomicpush/laws.FnCrossOrder", spec := "fnCrossOrder", unfollowed := true, recurses := true, apart := false }
def FnCrossOrderSaid : Prop := fnCrossOrderRow.holds Try.pinned (OpenSpec.ofChange fnCrossOrderSpec)

/-- ITS FALSE NEIGHBOUR: 'it returns false'. Refute it at one input. -/
def fnCrossOrderWrong : ChangeSpec := { name := "fnCrossOrder", fn := fun _ => fun
  | [d1, d2] => { results := [.lit (.bool false)], args := [d1, d2] }
  | _ => none }
def FnCrossOrderWrongFalsely : Prop := fnCrossOrderRow.holds Try.pinned (OpenSpec.ofChange fnCrossOrderWrong)

/-- 'laws.FnDifferApply': WHATEVER THE INPUT: true; the input reads as it did. -/
def fnDifferApplySpec : ChangeSpec := { name := "fnDifferApply", fn := fun _ => fun
  | [d] => { results := [.lit (.bool true)], args := [d] }
  | _ => none }
def fnDifferApplyRow : OpenClaim := { program := "ytfdcoeghomeadaa", sum := "dff30d36ad7fd4fb2f12209a5074469ba1846045e61f8960281adcc7728b633b", func := "loop.example/atomicpush/laws.FnDifferApply", spec := "fnDifferApply", unfollowed := true, recurses := true, apart := false }
def FnDifferApplySaid : Prop := fnDifferApplyRow.holds Try.pinned (OpenSpec.ofChange fnDifferApplySpec)

/-- ITS FALSE NEIGHBOUR: 'it returns false'. Refute it at one input. -/
def fnDifferApplyWrong : ChangeSpec := { name := "fnDifferApply", fn := fun _ => fun
  | [d] => { results := [.lit (.bool false)], args := [d] }
  | _ => none }
def FnDifferApplyWrongFalsely : Prop := fnDifferApplyRow.holds Try.pinned (OpenSpec.ofChange fnDifferApplyWrong)

/-- 'laws.FnExactWorldNew': WHATEVER THE INPUT: true; the input reads as it did. -/
def fnExactWorldNewSpec : ChangeSpec := { name := "fnExactWorldNew", fn := fun _ => fun
  | [] => { results := [.lit (.bool true)], args := [] }
  | _ => none }
def fnExactWorldNewRow : OpenClaim := { program := "ytfdcoeghomeadaa", sum := "dff30d36ad7fd4fb2f12209a5074469ba1846045e61f8960281adcc7728b633b", func := "loop.example/atomicpush/laws.FnExactWorldNew", spec := "fnExactWorldNew", apart := false }
def FnExactWorldNewSaid : Prop := fnExactWorldNewRow.holds Try.pinned (OpenSpec.ofChange fnExactWorldNewSpec)

/-- ITS FALSE NEIGHBOUR: 'it returns false'. Refute it at one input. -/
def fnExactWorldNewWrong : ChangeSpec := { name := "fnExactWorldNew", fn := fun _ => fun
  | [] => { results := [.lit (.bool false)], args := [] }
  | _ => none }
def FnExactWorldNewWrongFalsely : Prop := fnExactWorldNewRow.holds Try.pinned (OpenSpec.ofChange fnExactWorldNewWrong)

/- THE SECOND FORM. 'bulk': how many values and letters a reading holds, each counted each time it is reached (what is shared counts as often as it is met; a slice's spare places count too). A statement '..UptoSaid' is the law's where the arguments, and the package variables that the reading takes, are together of bulk at most 1048576: NARROWER than '..Said'. Prove '..Said' where nothing that the law and all that it calls make is longer than what came in: it says more and counts as full. Else prove '..UptoSaid'. A law counts once. -/
mutual
def uptoBulk {H : Type} : DataW H → Nat
  | .lit (.string bytes) => bytes.length + 1
  | .lit _ => 1
  | .nil => 1
  | .ptr d => uptoBulk d + 1
  | .slice elems spare => uptoBulkAll elems + uptoBulkAll spare + 1
  | .agg parts => uptoBulkAll parts + 1
  | .iface _ d => uptoBulk d + 1
  | .map entries => uptoBulkEntries entries + 1
  | .held _ => 1
def uptoBulkAll {H : Type} : List (DataW H) → Nat
  | [] => 0
  | d :: r => uptoBulk d + uptoBulkAll r
def uptoBulkEntries {H : Type} : List (Lit × DataW H) → Nat
  | [] => 0
  | x :: r => uptoBulkEntry x + uptoBulkEntries r
def uptoBulkEntry {H : Type} : Lit × DataW H → Nat
  | (.string bytes, d) => bytes.length + uptoBulk d + 1
  | (_, d) => uptoBulk d + 1
 end
def uptoSmall : (H : Type) → List (DataW H) → Bool := fun _ ds => decide (uptoBulkAll ds ≤ 1048576)
def OpenSpec.upto (s : _root_.Go.ChangeSpec) : _root_.Go.OpenSpec := { _root_.Go.OpenSpec.ofChange s with cond := some uptoSmall }

/-- 'laws.FnDiffer', WHERE WHAT IT READS IS OF BULK AT MOST 1048576: true; the input reads as it did. -/
def fnDifferUptoRow : OpenClaim := { program := "ytfdcoeghomeadaa", sum := "dff30d36ad7fd4fb2f12209a5074469ba1846045e61f8960281adcc7728b633b", func := "loop.example/atomicpush/laws.FnDiffer", spec := "fnDiffer", unfollowed := true, recurses := true, apart := false, narrowed := true }
def FnDifferUptoSaid : Prop := fnDifferUptoRow.holds Try.pinned (OpenSpec.upto fnDifferSpec)

/-- 'laws.FnApplyNone', WHERE WHAT IT READS IS OF BULK AT MOST 1048576: true; the input reads as it did. -/
def fnApplyNoneUptoRow : OpenClaim := { program := "ytfdcoeghomeadaa", sum := "dff30d36ad7fd4fb2f12209a5074469ba1846045e61f8960281adcc7728b633b", func := "loop.example/atomicpush/laws.FnApplyNone", spec := "fnApplyNone", unfollowed := true, recurses := true, apart := false, narrowed := true }
def FnApplyNoneUptoSaid : Prop := fnApplyNoneUptoRow.holds Try.pinned (OpenSpec.upto fnApplyNoneSpec)

/-- 'laws.FnApplyRefs', WHERE WHAT IT READS IS OF BULK AT MOST 1048576: true; the input reads as it did. -/
def fnApplyRefsUptoRow : OpenClaim := { program := "ytfdcoeghomeadaa", sum := "dff30d36ad7fd4fb2f12209a5074469ba1846045e61f8960281adcc7728b633b", func := "loop.example/atomicpush/laws.FnApplyRefs", spec := "fnApplyRefs", unfollowed := true, recurses := true, apart := false, narrowed := true }
def FnApplyRefsUptoSaid : Prop := fnApplyRefsUptoRow.holds Try.pinned (OpenSpec.upto fnApplyRefsSpec)

/-- 'laws.FnApplyTwice', WHERE WHAT IT READS IS OF BULK AT MOST 1048576: true; the input reads as it did. -/
def fnApplyTwiceUptoRow : OpenClaim := { program := "ytfdcoeghomeadaa", sum := "dff30d36ad7fd4fb2f12209a5074469ba1846045e61f8960281adcc7728b633b", func := "loop.example/atomicpush/laws.FnApplyTwice", spec := "fnApplyTwice", unfollowed := true, recurses := true, apart := false, narrowed := true }
def FnApplyTwiceUptoSaid : Prop := fnApplyTwiceUptoRow.holds Try.pinned (OpenSpec.upto fnApplyTwiceSpec)

/-- 'laws.FnExactRefsApply', WHERE WHAT IT READS IS OF BULK AT MOST 1048576: true; the input reads as it did. -/
def fnExactRefsApplyUptoRow : OpenClaim := { program := "ytfdcoeghomeadaa", sum := "dff30d36ad7fd4fb2f12209a5074469ba1846045e61f8960281adcc7728b633b", func := "loop.example/atomicpush/laws.FnExactRefsApply", spec := "fnExactRefsApply", unfollowed := true, recurses := true, apart := false, narrowed := true }
def FnExactRefsApplyUptoSaid : Prop := fnExactRefsApplyUptoRow.holds Try.pinned (OpenSpec.upto fnExactRefsApplySpec)

/-- 'laws.FnApplyBack', WHERE WHAT IT READS IS OF BULK AT MOST 1048576: true; the input reads as it did. -/
def fnApplyBackUptoRow : OpenClaim := { program := "ytfdcoeghomeadaa", sum := "dff30d36ad7fd4fb2f12209a5074469ba1846045e61f8960281adcc7728b633b", func := "loop.example/atomicpush/laws.FnApplyBack", spec := "fnApplyBack", unfollowed := true, recurses := true, apart := false, narrowed := true }
def FnApplyBackUptoSaid : Prop := fnApplyBackUptoRow.holds Try.pinned (OpenSpec.upto fnApplyBackSpec)

/-- 'laws.FnCrossOrder', WHERE WHAT IT READS IS OF BULK AT MOST 1048576: true; the input reads as it did. -/
def fnCrossOrderUptoRow : OpenClaim := { program := "ytfdcoeghomeadaa", sum := "dff30d36ad7fd4fb2f12209a5074469ba1846045e61f8960281adcc7728b633b", func := "loop.example/atomicpush/laws.FnCrossOrder", spec := "fnCrossOrder", unfollowed := true, recurses := true, apart := false, narrowed := true }
def FnCrossOrderUptoSaid : Prop := fnCrossOrderUptoRow.holds Try.pinned (OpenSpec.upto fnCrossOrderSpec)

/-- 'laws.FnDifferApply', WHERE WHAT IT READS IS OF BULK AT MOST 1048576: true; the input reads as it did. -/
def fnDifferApplyUptoRow : OpenClaim := { program := "ytfdcoeghomeadaa", sum := "dff30d36ad7fd4fb2f12209a5074469ba1846045e61f8960281adcc7728b633b", func := "loop.example/atomicpush/laws.FnDifferApply", spec := "fnDifferApply", unfollowed := true, recurses := true, apart := false, narrowed := true }
def FnDifferApplyUptoSaid : Prop := fnDifferApplyUptoRow.holds Try.pinned (OpenSpec.upto fnDifferApplySpec)

/-- 'laws.FnExactWorldNew', WHERE WHAT IT READS IS OF BULK AT MOST 1048576: true; the input reads as it did. -/
def fnExactWorldNewUptoRow : OpenClaim := { program := "ytfdcoeghomeadaa", sum := "dff30d36ad7fd4fb2f12209a5074469ba1846045e61f8960281adcc7728b633b", func := "loop.example/atomicpush/laws.FnExactWorldNew", spec := "fnExactWorldNew", apart := false, narrowed := true }
def FnExactWorldNewUptoSaid : Prop := fnExactWorldNewUptoRow.holds Try.pinned (OpenSpec.upto fnExactWorldNewSpec)

end Rows
end Go.Proofs.Ytfdcoeghomeadaa
