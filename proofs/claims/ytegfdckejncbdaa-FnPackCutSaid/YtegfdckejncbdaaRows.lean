/-
  No cell of these rows narrows 'for every input' (looked for: loops, veiled, ifaces, maps, wideKeys, modest, calm, conditions, laid).
  DERIVED. THE GIVEN ROWS OF THIS SEAT. 5 by the template 'for every input the law returns true; each argument reads behind the call as it read before'; 0 by the template 'total and deterministic' (their statements: YtegfdckejncbdaaTotals.lean).
  GIVEN WITH THE SEED: the statements are not yours to turn. If you find one false, say at which input.
  Laid BY PROGRAM, IN A SANDBOX (cutbox-rows.mjs): the forced cells as the released guide's own fill.sh prints them over the translation 82f93ca7a214a342… (all of the seat's roots in one cut). By AI agents, Wed Nov 11 2026. No macro, syntax, notation, axiom, sorry.
-/
import Derived.Test.YtegfdckejncbdaaChecked
import GoSem.Claim
import GoSem.ClaimJoined
import GoSem.ClaimMapViews
import Derived.JoinedTies
import Derived.KernelRfl
namespace Go.Proofs.Ytegfdckejncbdaa
/- THE CELL 'sum', in the pinned program and in every row, IS THE sha256 OF THE DUMP (.gsa) THAT YtegfdckejncbdaaProg.lean LOADS. Nothing in Lean hashes anything: it is a label: what it is worth is what the hold of that sum in a sandbox is worth. -/
noncomputable def Try.pinned : Pinned := { name := "ytegfdckejncbdaa", sum := "82f93ca7a214a342b5cdea49288fca04f174c7391aafe365d3c02e83fc9d8b74", checked := Try.checked }
namespace Rows
def none {H : Type} : Left H := { results := [], args := [] }

/-- 'laws.FnExactPackSum': WHATEVER THE INPUT: true; the input reads as it did. -/
def fnExactPackSumSpec : ChangeSpec := { name := "fnExactPackSum", fn := fun _ => fun
  | [d] => { results := [.lit (.bool true)], args := [d] }
  | _ => none }
def fnExactPackSumRow : OpenClaim := { program := "ytegfdckejncbdaa", sum := "82f93ca7a214a342b5cdea49288fca04f174c7391aafe365d3c02e83fc9d8b74", func := "loop.example/atomicpush/laws.FnExactPackSum", spec := "fnExactPackSum", apart := false }
def FnExactPackSumSaid : Prop := fnExactPackSumRow.holds Try.pinned (OpenSpec.ofChange fnExactPackSumSpec)

/-- ITS FALSE NEIGHBOUR: 'it returns false'. Refute it at one input. -/
def fnExactPackSumWrong : ChangeSpec := { name := "fnExactPackSum", fn := fun _ => fun
  | [d] => { results := [.lit (.bool false)], args := [d] }
  | _ => none }
def FnExactPackSumWrongFalsely : Prop := fnExactPackSumRow.holds Try.pinned (OpenSpec.ofChange fnExactPackSumWrong)

/-- 'laws.FnPackCut': WHATEVER THE INPUT: true; the input reads as it did. -/
def fnPackCutSpec : ChangeSpec := { name := "fnPackCut", fn := fun _ => fun
  | [d1, d2] => { results := [.lit (.bool true)], args := [d1, d2] }
  | _ => none }
def fnPackCutRow : OpenClaim := { program := "ytegfdckejncbdaa", sum := "82f93ca7a214a342b5cdea49288fca04f174c7391aafe365d3c02e83fc9d8b74", func := "loop.example/atomicpush/laws.FnPackCut", spec := "fnPackCut", apart := false }
def FnPackCutSaid : Prop := fnPackCutRow.holds Try.pinned (OpenSpec.ofChange fnPackCutSpec)

/-- ITS FALSE NEIGHBOUR: 'it returns false'. Refute it at one input. -/
def fnPackCutWrong : ChangeSpec := { name := "fnPackCut", fn := fun _ => fun
  | [d1, d2] => { results := [.lit (.bool false)], args := [d1, d2] }
  | _ => none }
def FnPackCutWrongFalsely : Prop := fnPackCutRow.holds Try.pinned (OpenSpec.ofChange fnPackCutWrong)

/-- 'laws.FnPackObjects': WHATEVER THE INPUT: true; the input reads as it did. -/
def fnPackObjectsSpec : ChangeSpec := { name := "fnPackObjects", fn := fun _ => fun
  | [d] => { results := [.lit (.bool true)], args := [d] }
  | _ => none }
def fnPackObjectsRow : OpenClaim := { program := "ytegfdckejncbdaa", sum := "82f93ca7a214a342b5cdea49288fca04f174c7391aafe365d3c02e83fc9d8b74", func := "loop.example/atomicpush/laws.FnPackObjects", spec := "fnPackObjects", apart := false }
def FnPackObjectsSaid : Prop := fnPackObjectsRow.holds Try.pinned (OpenSpec.ofChange fnPackObjectsSpec)

/-- ITS FALSE NEIGHBOUR: 'it returns false'. Refute it at one input. -/
def fnPackObjectsWrong : ChangeSpec := { name := "fnPackObjects", fn := fun _ => fun
  | [d] => { results := [.lit (.bool false)], args := [d] }
  | _ => none }
def FnPackObjectsWrongFalsely : Prop := fnPackObjectsRow.holds Try.pinned (OpenSpec.ofChange fnPackObjectsWrong)

/-- 'laws.FnExactPackObjects': WHATEVER THE INPUT: true; the input reads as it did. -/
def fnExactPackObjectsSpec : ChangeSpec := { name := "fnExactPackObjects", fn := fun _ => fun
  | [d] => { results := [.lit (.bool true)], args := [d] }
  | _ => none }
def fnExactPackObjectsRow : OpenClaim := { program := "ytegfdckejncbdaa", sum := "82f93ca7a214a342b5cdea49288fca04f174c7391aafe365d3c02e83fc9d8b74", func := "loop.example/atomicpush/laws.FnExactPackObjects", spec := "fnExactPackObjects", apart := false }
def FnExactPackObjectsSaid : Prop := fnExactPackObjectsRow.holds Try.pinned (OpenSpec.ofChange fnExactPackObjectsSpec)

/-- ITS FALSE NEIGHBOUR: 'it returns false'. Refute it at one input. -/
def fnExactPackObjectsWrong : ChangeSpec := { name := "fnExactPackObjects", fn := fun _ => fun
  | [d] => { results := [.lit (.bool false)], args := [d] }
  | _ => none }
def FnExactPackObjectsWrongFalsely : Prop := fnExactPackObjectsRow.holds Try.pinned (OpenSpec.ofChange fnExactPackObjectsWrong)

/-- 'laws.FnPackSum': WHATEVER THE INPUT: true; the input reads as it did. -/
def fnPackSumSpec : ChangeSpec := { name := "fnPackSum", fn := fun _ => fun
  | [d] => { results := [.lit (.bool true)], args := [d] }
  | _ => none }
def fnPackSumRow : OpenClaim := { program := "ytegfdckejncbdaa", sum := "82f93ca7a214a342b5cdea49288fca04f174c7391aafe365d3c02e83fc9d8b74", func := "loop.example/atomicpush/laws.FnPackSum", spec := "fnPackSum", apart := false }
def FnPackSumSaid : Prop := fnPackSumRow.holds Try.pinned (OpenSpec.ofChange fnPackSumSpec)

/-- ITS FALSE NEIGHBOUR: 'it returns false'. Refute it at one input. -/
def fnPackSumWrong : ChangeSpec := { name := "fnPackSum", fn := fun _ => fun
  | [d] => { results := [.lit (.bool false)], args := [d] }
  | _ => none }
def FnPackSumWrongFalsely : Prop := fnPackSumRow.holds Try.pinned (OpenSpec.ofChange fnPackSumWrong)

/- THE SECOND FORM. 'bulk': how many values and letters a reading holds, each counted each time it is reached (what is shared counts as often as it is met; a slice's spare places count too). A statement '..UptoSaid' is the law's where the arguments, and the package variables that the reading takes, are together of bulk at most 1048576: NARROWER than '..Said'. Prove '..Said' where nothing that the law and all that it calls make is longer than what came in: it says more and counts as full. Else prove '..UptoSaid'. A law counts once. -/
mutual
def uptoBulk {H : Type} : DataW H → Nat
  | .lit (.string bytes) => bytes.length + 1
  | .lit _ => 1
  | .nil => 1
  | .ptr d => uptoBulk d + 1
  | .slice elems spare => uptoBulkAll elems + uptoBulkAll spare + 1
  | .agg parts => uptoBulkAll parts + 1
  | .iface _ d => uptoBulk d + 1
  | .map entries => uptoBulkEntries entries + 1
  | .held _ => 1
def uptoBulkAll {H : Type} : List (DataW H) → Nat
  | [] => 0
  | d :: r => uptoBulk d + uptoBulkAll r
def uptoBulkEntries {H : Type} : List (Lit × DataW H) → Nat
  | [] => 0
  | x :: r => uptoBulkEntry x + uptoBulkEntries r
def uptoBulkEntry {H : Type} : Lit × DataW H → Nat
  | (.string bytes, d) => bytes.length + uptoBulk d + 1
  | (_, d) => uptoBulk d + 1
 end
def uptoSmall : (H : Type) → List (DataW H) → Bool := fun _ ds => decide (uptoBulkAll ds ≤ 1048576)
def OpenSpec.upto (s : _root_.Go.ChangeSpec) : _root_.Go.OpenSpec := { _root_.Go.OpenSpec.ofChange s with cond := some uptoSmall }

/-- 'laws.FnExactPackSum', WHERE WHAT IT READS IS OF BULK AT MOST 1048576: true; the input reads as it did. -/
def fnExactPackSumUptoRow : OpenClaim := { program := "ytegfdckejncbdaa", sum := "82f93ca7a214a342b5cdea49288fca04f174c7391aafe365d3c02e83fc9d8b74", func := "loop.example/atomicpush/laws.FnExactPackSum", spec := "fnExactPackSum", apart := false, narrowed := true }
def FnExactPackSumUptoSaid : Prop := fnExactPackSumUptoRow.holds Try.pinned (OpenSpec.upto fnExactPackSumSpec)

/-- 'laws.FnPackCut', WHERE WHAT IT READS IS OF BULK AT MOST 1048576: true; the input reads as it did. -/
def fnPackCutUptoRow : OpenClaim := { program := "ytegfdckejncbdaa", sum := "82f93ca7a214a342b5cdea49288fca04f174c7391aafe365d3c02e83fc9d8b74", func := "loop.example/atomicpush/laws.FnPackCut", spec := "fnPackCut", apart := false, narrowed := true }
def FnPackCutUptoSaid : Prop := fnPackCutUptoRow.holds Try.pinned (OpenSpec.upto fnPackCutSpec)

/-- 'laws.FnPackObjects', WHERE WHAT IT READS IS OF BULK AT MOST 1048576: true; the input reads as it did. -/
def fnPackObjectsUptoRow : OpenClaim := { program := "ytegfdckejncbdaa", sum := "82f93ca7a214a342b5cdea49288fca04f174c7391aafe365d3c02e83fc9d8b74", func := "loop.example/atomicpush/laws.FnPackObjects", spec := "fnPackObjects", apart := false, narrowed := true }
def FnPackObjectsUptoSaid : Prop := fnPackObjectsUptoRow.holds Try.pinned (OpenSpec.upto fnPackObjectsSpec)

/-- 'laws.FnExactPackObjects', WHERE WHAT IT READS IS OF BULK AT MOST 1048576: true; the input reads as it did. -/
def fnExactPackObjectsUptoRow : OpenClaim := { program := "ytegfdckejncbdaa", sum := "82f93ca7a214a342b5cdea49288fca04f174c7391aafe365d3c02e83fc9d8b74", func := "loop.example/atomicpush/laws.FnExactPackObjects", spec := "fnExactPackObjects", apart := false, narrowed := true }
def FnExactPackObjectsUptoSaid : Prop := fnExactPackObjectsUptoRow.holds Try.pinned (OpenSpec.upto fnExactPackObjectsSpec)

/-- 'laws.FnPackSum', WHERE WHAT IT READS IS OF BULK AT MOST 1048576: true; the input reads as it did. -/
def fnPackSumUptoRow : OpenClaim := { program := "ytegfdckejncbdaa", sum := "82f93ca7a214a342b5cdea49288fca04f174c7391aafe365d3c02e83fc9d8b74", func := "loop.example/atomicpush/laws.FnPackSum", spec := "fnPackSum", apart := false, narrowed := true }
def FnPackSumUptoSaid : Prop := fnPackSumUptoRow.holds Try.pinned (OpenSpec.upto fnPackSumSpec)

end Rows
end Go.Proofs.Ytegfdckejncbdaa
