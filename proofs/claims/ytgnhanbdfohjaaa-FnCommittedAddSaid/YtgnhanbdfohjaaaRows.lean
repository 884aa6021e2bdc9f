/-
  No cell of these rows narrows 'for every input' (looked for: loops, veiled, ifaces, maps, wideKeys, modest, calm, conditions, laid).
  DERIVED. THE GIVEN ROWS OF THIS SEAT. 10 by the template 'for every input the law returns true; each argument reads behind the call as it read before'; 0 by the template 'total and deterministic' (their statements: YtgnhanbdfohjaaaTotals.lean).
  GIVEN WITH THE SEED: the statements are not yours to turn. If you find one false, say at which input.
  Laid BY PROGRAM, IN A SANDBOX (cutbox-rows.mjs): the forced cells as the released guide's own fill.sh prints them over the translation cce9cd3769a095ac… (all of the seat's roots in one cut). By AI agents, Wed Nov 11 2026. No macro, syntax, notation, axiom, sorry.
-/
import Derived.Test.YtgnhanbdfohjaaaChecked
import GoSem.Claim
import GoSem.ClaimJoined
import GoSem.ClaimMapViews
import Derived.JoinedTies
import Derived.KernelRfl
namespace Go.Proofs.Ytgnhanbdfohjaaa
/- THE CELL 'sum', in the pinned program and in every row, IS THE sha256 OF THE DUMP (.gsa) THAT YtgnhanbdfohjaaaProg.lean LOADS. Nothing in Lean hashes anything: it is a label: what it is worth is what the hold of that sum in a sandbox is worth. -/
noncomputable def Try.pinned : Pinned := { name := "ytgnhanbdfohjaaa", sum := "cce9cd3769a095acb8105dc8e044fa3a4448e09de2bd50488b47606b6cb63b41", checked := Try.checked }
namespace Rows
def none {H : Type} : Left H := { results := [], args := [] }

/-- 'laws.FnRecover': WHATEVER THE INPUT: true; the input reads as it did. -/
def fnRecoverSpec : ChangeSpec := { name := "fnRecover", fn := fun _ => fun
  | [d1, d2] => { results := [.lit (.bool true)], args := [d1, d2] }
  | _ => none }
def fnRecoverRow : OpenClaim := { program := "ytgnhanbdfohjaaa", sum := "cce9cd3769a095acb8105dc8e044fa3a4448e09de2bd50488b47606b6cb63b41", func := "loop.example/atomicpush/laws.FnRecover", spec := "fnRecover", unfollowed := true, recurses := true, apart := false }
def FnRecoverSaid : Prop := fnRecoverRow.holds Try.pinned (OpenSpec.ofChange fnRecoverSpec)

/-- ITS FALSE NEIGHBOUR: 'it returns false'. Refute it at one input. -/
def fnRecoverWrong : ChangeSpec := { name := "fnRecover", fn := fun _ => fun
  | [d1, d2] => { results := [.lit (.bool false)], args := [d1, d2] }
  | _ => none }
def FnRecoverWrongFalsely : Prop := fnRecoverRow.holds Try.pinned (OpenSpec.ofChange fnRecoverWrong)

/-- 'laws.FnRecoverNew': WHATEVER THE INPUT: true; the input reads as it did. -/
def fnRecoverNewSpec : ChangeSpec := { name := "fnRecoverNew", fn := fun _ => fun
  | [d] => { results := [.lit (.bool true)], args := [d] }
  | _ => none }
def fnRecoverNewRow : OpenClaim := { program := "ytgnhanbdfohjaaa", sum := "cce9cd3769a095acb8105dc8e044fa3a4448e09de2bd50488b47606b6cb63b41", func := "loop.example/atomicpush/laws.FnRecoverNew", spec := "fnRecoverNew", unfollowed := true, recurses := true, apart := false }
def FnRecoverNewSaid : Prop := fnRecoverNewRow.holds Try.pinned (OpenSpec.ofChange fnRecoverNewSpec)

/-- ITS FALSE NEIGHBOUR: 'it returns false'. Refute it at one input. -/
def fnRecoverNewWrong : ChangeSpec := { name := "fnRecoverNew", fn := fun _ => fun
  | [d] => { results := [.lit (.bool false)], args := [d] }
  | _ => none }
def FnRecoverNewWrongFalsely : Prop := fnRecoverNewRow.holds Try.pinned (OpenSpec.ofChange fnRecoverNewWrong)

/-- 'laws.FnCommitted': WHATEVER THE INPUT: true; the input reads as it did. -/
def fnCommittedSpec : ChangeSpec := { name := "fnCommitted", fn := fun _ => fun
  | [d] => { results := [.lit (.bool true)], args := [d] }
  | _ => none }
def fnCommittedRow : OpenClaim := { program := "ytgnhanbdfohjaaa", sum := "cce9cd3769a095acb8105dc8e044fa3a4448e09de2bd50488b47606b6cb63b41", func := "loop.example/atomicpush/laws.FnCommitted", spec := "fnCommitted", unfollowed := true, recurses := true, apart := false }
def FnCommittedSaid : Prop := fnCommittedRow.holds Try.pinned (OpenSpec.ofChange fnCommittedSpec)

/-- ITS FALSE NEIGHBOUR: 'it returns false'. Refute it at one input. -/
def fnCommittedWrong : ChangeSpec := { name := "fnCommitted", fn := fun _ => fun
  | [d] => { results := [.lit (.bool false)], args := [d] }
  | _ => none }
def FnCommittedWrongFalsely : Prop := fnCommittedRow.holds Try.pinned (OpenSpec.ofChange fnCommittedWrong)

/-- 'laws.FnLocksPrepared': WHATEVER THE INPUT: true; the input reads as it did. -/
def fnLocksPreparedSpec : ChangeSpec := { name := "fnLocksPrepared", fn := fun _ => fun
  | [d] => { results := [.lit (.bool true)], args := [d] }
  | _ => none }
def fnLocksPreparedRow : OpenClaim := { program := "ytgnhanbdfohjaaa", sum := "cce9cd3769a095acb8105dc8e044fa3a4448e09de2bd50488b47606b6cb63b41", func := "loop.example/atomicpush/laws.FnLocksPrepared", spec := "fnLocksPrepared", unfollowed := true, recurses := true, apart := false }
def FnLocksPreparedSaid : Prop := fnLocksPreparedRow.holds Try.pinned (OpenSpec.ofChange fnLocksPreparedSpec)

/-- ITS FALSE NEIGHBOUR: 'it returns false'. Refute it at one input. -/
def fnLocksPreparedWrong : ChangeSpec := { name := "fnLocksPrepared", fn := fun _ => fun
  | [d] => { results := [.lit (.bool false)], args := [d] }
  | _ => none }
def FnLocksPreparedWrongFalsely : Prop := fnLocksPreparedRow.holds Try.pinned (OpenSpec.ofChange fnLocksPreparedWrong)

/-- 'laws.FnDecideTwice': WHATEVER THE INPUT: true; the input reads as it did. -/
def fnDecideTwiceSpec : ChangeSpec := { name := "fnDecideTwice", fn := fun _ => fun
  | [d] => { results := [.lit (.bool true)], args := [d] }
  | _ => none }
def fnDecideTwiceRow : OpenClaim := { program := "ytgnhanbdfohjaaa", sum := "cce9cd3769a095acb8105dc8e044fa3a4448e09de2bd50488b47606b6cb63b41", func := "loop.example/atomicpush/laws.FnDecideTwice", spec := "fnDecideTwice", unfollowed := true, recurses := true, apart := false }
def FnDecideTwiceSaid : Prop := fnDecideTwiceRow.holds Try.pinned (OpenSpec.ofChange fnDecideTwiceSpec)

/-- ITS FALSE NEIGHBOUR: 'it returns false'. Refute it at one input. -/
def fnDecideTwiceWrong : ChangeSpec := { name := "fnDecideTwice", fn := fun _ => fun
  | [d] => { results := [.lit (.bool false)], args := [d] }
  | _ => none }
def FnDecideTwiceWrongFalsely : Prop := fnDecideTwiceRow.holds Try.pinned (OpenSpec.ofChange fnDecideTwiceWrong)

/-- 'laws.FnCommittedRefs': WHATEVER THE INPUT: true; the input reads as it did. -/
def fnCommittedRefsSpec : ChangeSpec := { name := "fnCommittedRefs", fn := fun _ => fun
  | [d] => { results := [.lit (.bool true)], args := [d] }
  | _ => none }
def fnCommittedRefsRow : OpenClaim := { program := "ytgnhanbdfohjaaa", sum := "cce9cd3769a095acb8105dc8e044fa3a4448e09de2bd50488b47606b6cb63b41", func := "loop.example/atomicpush/laws.FnCommittedRefs", spec := "fnCommittedRefs", unfollowed := true, recurses := true, apart := false }
def FnCommittedRefsSaid : Prop := fnCommittedRefsRow.holds Try.pinned (OpenSpec.ofChange fnCommittedRefsSpec)

/-- ITS FALSE NEIGHBOUR: 'it returns false'. Refute it at one input. -/
def fnCommittedRefsWrong : ChangeSpec := { name := "fnCommittedRefs", fn := fun _ => fun
  | [d] => { results := [.lit (.bool false)], args := [d] }
  | _ => none }
def FnCommittedRefsWrongFalsely : Prop := fnCommittedRefsRow.holds Try.pinned (OpenSpec.ofChange fnCommittedRefsWrong)

/-- 'laws.FnDecideOther': WHATEVER THE INPUT: true; the input reads as it did. -/
def fnDecideOtherSpec : ChangeSpec := { name := "fnDecideOther", fn := fun _ => fun
  | [d] => { results := [.lit (.bool true)], args := [d] }
  | _ => none }
def fnDecideOtherRow : OpenClaim := { program := "ytgnhanbdfohjaaa", sum := "cce9cd3769a095acb8105dc8e044fa3a4448e09de2bd50488b47606b6cb63b41", func := "loop.example/atomicpush/laws.FnDecideOther", spec := "fnDecideOther", unfollowed := true, recurses := true, apart := false }
def FnDecideOtherSaid : Prop := fnDecideOtherRow.holds Try.pinned (OpenSpec.ofChange fnDecideOtherSpec)

/-- ITS FALSE NEIGHBOUR: 'it returns false'. Refute it at one input. -/
def fnDecideOtherWrong : ChangeSpec := { name := "fnDecideOther", fn := fun _ => fun
  | [d] => { results := [.lit (.bool false)], args := [d] }
  | _ => none }
def FnDecideOtherWrongFalsely : Prop := fnDecideOtherRow.holds Try.pinned (OpenSpec.ofChange fnDecideOtherWrong)

/-- 'laws.FnDecideUnknown': WHATEVER THE INPUT: true; the input reads as it did. -/
def fnDecideUnknownSpec : ChangeSpec := { name := "fnDecideUnknown", fn := fun _ => fun
  | [d] => { results := [.lit (.bool true)], args := [d] }
  | _ => none }
def fnDecideUnknownRow : OpenClaim := { program := "ytgnhanbdfohjaaa", sum := "cce9cd3769a095acb8105dc8e044fa3a4448e09de2bd50488b47606b6cb63b41", func := "loop.example/atomicpush/laws.FnDecideUnknown", spec := "fnDecideUnknown", unfollowed := true, recurses := true, apart := false }
def FnDecideUnknownSaid : Prop := fnDecideUnknownRow.holds Try.pinned (OpenSpec.ofChange fnDecideUnknownSpec)

/-- ITS FALSE NEIGHBOUR: 'it returns false'. Refute it at one input. -/
def fnDecideUnknownWrong : ChangeSpec := { name := "fnDecideUnknown", fn := fun _ => fun
  | [d] => { results := [.lit (.bool false)], args := [d] }
  | _ => none }
def FnDecideUnknownWrongFalsely : Prop := fnDecideUnknownRow.holds Try.pinned (OpenSpec.ofChange fnDecideUnknownWrong)

/-- 'laws.FnDecide': WHATEVER THE INPUT: true; the input reads as it did. -/
def fnDecideSpec : ChangeSpec := { name := "fnDecide", fn := fun _ => fun
  | [d] => { results := [.lit (.bool true)], args := [d] }
  | _ => none }
def fnDecideRow : OpenClaim := { program := "ytgnhanbdfohjaaa", sum := "cce9cd3769a095acb8105dc8e044fa3a4448e09de2bd50488b47606b6cb63b41", func := "loop.example/atomicpush/laws.FnDecide", spec := "fnDecide", unfollowed := true, recurses := true, apart := false }
def FnDecideSaid : Prop := fnDecideRow.holds Try.pinned (OpenSpec.ofChange fnDecideSpec)

/-- ITS FALSE NEIGHBOUR: 'it returns false'. Refute it at one input. -/
def fnDecideWrong : ChangeSpec := { name := "fnDecide", fn := fun _ => fun
  | [d] => { results := [.lit (.bool false)], args := [d] }
  | _ => none }
def FnDecideWrongFalsely : Prop := fnDecideRow.holds Try.pinned (OpenSpec.ofChange fnDecideWrong)

/-- 'laws.FnCommittedAdd': WHATEVER THE INPUT: true; the input reads as it did. -/
def fnCommittedAddSpec : ChangeSpec := { name := "fnCommittedAdd", fn := fun _ => fun
  | [d] => { results := [.lit (.bool true)], args := [d] }
  | _ => none }
def fnCommittedAddRow : OpenClaim := { program := "ytgnhanbdfohjaaa", sum := "cce9cd3769a095acb8105dc8e044fa3a4448e09de2bd50488b47606b6cb63b41", func := "loop.example/atomicpush/laws.FnCommittedAdd", spec := "fnCommittedAdd", unfollowed := true, recurses := true, apart := false }
def FnCommittedAddSaid : Prop := fnCommittedAddRow.holds Try.pinned (OpenSpec.ofChange fnCommittedAddSpec)

/-- ITS FALSE NEIGHBOUR: 'it returns false'. Refute it at one input. -/
def fnCommittedAddWrong : ChangeSpec := { name := "fnCommittedAdd", fn := fun _ => fun
  | [d] => { results := [.lit (.bool false)], args := [d] }
  | _ => none }
def FnCommittedAddWrongFalsely : Prop := fnCommittedAddRow.holds Try.pinned (OpenSpec.ofChange fnCommittedAddWrong)

/- THE SECOND FORM. 'bulk': how many values and letters a reading holds, each counted each time it is reached (what is shared counts as often as it is met; a slice's spare places count too). A statement '..UptoSaid' is the law's where the arguments, and the package variables that the reading takes, are together of bulk at most 1048576: NARROWER than '..Said'. Prove '..Said' where nothing that the law and all that it calls make is longer than what came in: it says more and counts as full. Else prove '..UptoSaid'. A law counts once. -/
mutual
def uptoBulk {H : Type} : DataW H → Nat
  | .lit (.string bytes) => bytes.length + 1
  | .lit _ => 1
  | .nil => 1
  | .ptr d => uptoBulk d + 1
  | .slice elems spare => uptoBulkAll elems + uptoBulkAll spare + 1
  | .agg parts => uptoBulkAll parts + 1
  | .iface _ d => uptoBulk d + 1
  | .map entries => uptoBulkEntries entries + 1
  | .held _ => 1
def uptoBulkAll {H : Type} : List (DataW H) → Nat
  | [] => 0
  | d :: r => uptoBulk d + uptoBulkAll r
def uptoBulkEntries {H : Type} : List (Lit × DataW H) → Nat
  | [] => 0
  | x :: r => uptoBulkEntry x + uptoBulkEntries r
def uptoBulkEntry {H : Type} : Lit × DataW H → Nat
  | (.string bytes, d) => bytes.length + uptoBulk d + 1
  | (_, d) => uptoBulk d + 1
 end
def uptoSmall : (H : Type) → List (DataW H) → Bool := fun _ ds => decide (uptoBulkAll ds ≤ 1048576)
def OpenSpec.upto (s : _root_.Go.ChangeSpec) : _root_.Go.OpenSpec := { _root_.Go.OpenSpec.ofChange s with cond := some uptoSmall }

/-- 'laws.FnRecover', WHERE WHAT IT READS IS OF BULK AT MOST 1048576: true; the input reads as it did. -/
def fnRecoverUptoRow : OpenClaim := { program := "ytgnhanbdfohjaaa", sum := "cce9cd3769a095acb8105dc8e044fa3a4448e09de2bd50488b47606b6cb63b41", func := "loop.example/atomicpush/laws.FnRecover", spec := "fnRecover", unfollowed := true, recurses := true, apart := false, narrowed := true }
def FnRecoverUptoSaid : Prop := fnRecoverUptoRow.holds Try.pinned (OpenSpec.upto fnRecoverSpec)

/-- 'laws.FnRecoverNew', WHERE WHAT IT READS IS OF BULK AT MOST 1048576: true; the input reads as it did. -/
def fnRecoverNewUptoRow : OpenClaim := { program := "ytgnhanbdfohjaaa", sum := "cce9cd3769a095acb8105dc8e044fa3a4448e09de2bd50488b47606b6cb63b41", func := "loop.example/atomicpush/laws.FnRecoverNew", spec := "fnRecoverNew", unfollowed := true, recurses := true, apart := false, narrowed := true }
def FnRecoverNewUptoSaid : Prop := fnRecoverNewUptoRow.holds Try.pinned (OpenSpec.upto fnRecoverNewSpec)

/-- 'laws.FnCommitted', WHERE WHAT IT READS IS OF BULK AT MOST 1048576: true; the input reads as it did. -/
def fnCommittedUptoRow : OpenClaim := { program := "ytgnhanbdfohjaaa", sum := "cce9cd3769a095acb8105dc8e044fa3a4448e09de2bd50488b47606b6cb63b41", func := "loop.example/atomicpush/laws.FnCommitted", spec := "fnCommitted", unfollowed := true, recurses := true, apart := false, narrowed := true }
def FnCommittedUptoSaid : Prop := fnCommittedUptoRow.holds Try.pinned (OpenSpec.upto fnCommittedSpec)

/-- 'laws.FnLocksPrepared', WHERE WHAT IT READS IS OF BULK AT MOST 1048576: true; the input reads as it did. -/
def fnLocksPreparedUptoRow : OpenClaim := { program := "ytgnhanbdfohjaaa", sum := "cce9cd3769a095acb8105dc8e044fa3a4448e09de2bd50488b47606b6cb63b41", func := "loop.example/atomicpush/laws.FnLocksPrepared", spec := "fnLocksPrepared", unfollowed := true, recurses := true, apart := false, narrowed := true }
def FnLocksPreparedUptoSaid : Prop := fnLocksPreparedUptoRow.holds Try.pinned (OpenSpec.upto fnLocksPreparedSpec)

/-- 'laws.FnDecideTwice', WHERE WHAT IT READS IS OF BULK AT MOST 1048576: true; the input reads as it did. -/
def fnDecideTwiceUptoRow : OpenClaim := { program := "ytgnhanbdfohjaaa", sum := "cce9cd3769a095acb8105dc8e044fa3a4448e09de2bd50488b47606b6cb63b41", func := "loop.example/atomicpush/laws.FnDecideTwice", spec := "fnDecideTwice", unfollowed := true, recurses := true, apart := false, narrowed := true }
def FnDecideTwiceUptoSaid : Prop := fnDecideTwiceUptoRow.holds Try.pinned (OpenSpec.upto fnDecideTwiceSpec)

/-- 'laws.FnCommittedRefs', WHERE WHAT IT READS IS OF BULK AT MOST 1048576: true; the input reads as it did. -/
def fnCommittedRefsUptoRow : OpenClaim := { program := "ytgnhanbdfohjaaa", sum := "cce9cd3769a095acb8105dc8e044fa3a4448e09de2bd50488b47606b6cb63b41", func := "loop.example/atomicpush/laws.FnCommittedRefs", spec := "fnCommittedRefs", unfollowed := true, recurses := true, apart := false, narrowed := true }
def FnCommittedRefsUptoSaid : Prop := fnCommittedRefsUptoRow.holds Try.pinned (OpenSpec.upto fnCommittedRefsSpec)

/-- 'laws.FnDecideOther', WHERE WHAT IT READS IS OF BULK AT MOST 1048576: true; the input reads as it did. -/
def fnDecideOtherUptoRow : OpenClaim := { program := "ytgnhanbdfohjaaa", sum := "cce9cd3769a095acb8105dc8e044fa3a4448e09de2bd50488b47606b6cb63b41", func := "loop.example/atomicpush/laws.FnDecideOther", spec := "fnDecideOther", unfollowed := true, recurses := true, apart := false, narrowed := true }
def FnDecideOtherUptoSaid : Prop := fnDecideOtherUptoRow.holds Try.pinned (OpenSpec.upto fnDecideOtherSpec)

/-- 'laws.FnDecideUnknown', WHERE WHAT IT READS IS OF BULK AT MOST 1048576: true; the input reads as it did. -/
def fnDecideUnknownUptoRow : OpenClaim := { program := "ytgnhanbdfohjaaa", sum := "cce9cd3769a095acb8105dc8e044fa3a4448e09de2bd50488b47606b6cb63b41", func := "loop.example/atomicpush/laws.FnDecideUnknown", spec := "fnDecideUnknown", unfollowed := true, recurses := true, apart := false, narrowed := true }
def FnDecideUnknownUptoSaid : Prop := fnDecideUnknownUptoRow.holds Try.pinned (OpenSpec.upto fnDecideUnknownSpec)

/-- 'laws.FnDecide', WHERE WHAT IT READS IS OF BULK AT MOST 1048576: true; the input reads as it did. -/
def fnDecideUptoRow : OpenClaim := { program := "ytgnhanbdfohjaaa", sum := "cce9cd3769a095acb8105dc8e044fa3a4448e09de2bd50488b47606b6cb63b41", func := "loop.example/atomicpush/laws.FnDecide", spec := "fnDecide", unfollowed := true, recurses := true, apart := false, narrowed := true }
def FnDecideUptoSaid : Prop := fnDecideUptoRow.holds Try.pinned (OpenSpec.upto fnDecideSpec)

/-- 'laws.FnCommittedAdd', WHERE WHAT IT READS IS OF BULK AT MOST 1048576: true; the input reads as it did. -/
def fnCommittedAddUptoRow : OpenClaim := { program := "ytgnhanbdfohjaaa", sum := "cce9cd3769a095acb8105dc8e044fa3a4448e09de2bd50488b47606b6cb63b41", func := "loop.example/atomicpush/laws.FnCommittedAdd", spec := "fnCommittedAdd", unfollowed := true, recurses := true, apart := false, narrowed := true }
def FnCommittedAddUptoSaid : Prop := fnCommittedAddUptoRow.holds Try.pinned (OpenSpec.upto fnCommittedAddSpec)

end Rows
end Go.Proofs.Ytgnhanbdfohjaaa
