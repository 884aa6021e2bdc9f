/-
  No cell of these rows narrows 'for every input' (looked for: loops, veiled, ifaces, maps, wideKeys, modest, calm, conditions, laid).
  DERIVED. THE GIVEN ROWS OF THIS SEAT. 4 by the template 'for every input the law returns true; each argument reads behind the call as it read before'; 0 by the template 'total and deterministic' (their statements: YtnaeglfochnikaaTotals.lean).
  GIVEN WITH THE SEED: the statements are not yours to turn. If you find one false, say at which input.
  Laid BY PROGRAM, IN A SANDBOX (cutbox-rows.mjs): the forced cells as the released guide's own fill.sh prints them over the translation 99f509bd7ab7e87d… (all of the seat's roots in one cut). By AI agents, Wed Nov 11 2026. No macro, syntax, notation, axiom, sorry.
-/
import Derived.Test.YtnaeglfochnikaaChecked
import GoSem.Claim
import GoSem.ClaimJoined
import GoSem.ClaimMapViews
import Derived.JoinedTies
import Derived.KernelRfl
namespace Go.Proofs.Ytnaeglfochnikaa
/- THE CELL 'sum', in the pinned program and in every row, IS THE sha256 OF THE DUMP (.gsa) THAT YtnaeglfochnikaaProg.lean LOADS. Nothing in Lean hashes anything: it is a label: what it is worth is what the hold of that sum in a sandbox is worth. -/
noncomputable def Try.pinned : Pinned := { name := "ytnaeglfochnikaa", sum := "99f509bd7ab7e87d7192cdb8ac3c46435ad4e8d93b7ed37204d9c62d38e2b76a", checked := Try.checked }
namespace Rows
def none {H : Type} : Left H := { results := [], args := [] }

/-- 'laws.FnExactFetchNeed': WHATEVER THE INPUT: true; the input reads as it did. -/
def fnExactFetchNeedSpec : ChangeSpec := { name := "fnExactFetchNeed", fn := fun _ => fun
  | [d1, d2, d3] => { results := [.lit (.bool true)], args := [d1, d2, d3] }
  | _ => none }
def fnExactFetchNeedRow : OpenClaim := { program := "ytnaeglfochnikaa", sum := "99f509bd7ab7e87d7192cdb8ac3c46435ad4e8d93b7ed37204d9c62d38e2b76a", func := "loop.example/atomicpush/laws.FnExactFetchNeed", spec := "fnExactFetchNeed", unfollowed := true, recurses := true, apart := false }
def FnExactFetchNeedSaid : Prop := fnExactFetchNeedRow.holds Try.pinned (OpenSpec.ofChange fnExactFetchNeedSpec)

/-- ITS FALSE NEIGHBOUR: 'it returns false'. Refute it at one input. -/
def fnExactFetchNeedWrong : ChangeSpec := { name := "fnExactFetchNeed", fn := fun _ => fun
  | [d1, d2, d3] => { results := [.lit (.bool false)], args := [d1, d2, d3] }
  | _ => none }
def FnExactFetchNeedWrongFalsely : Prop := fnExactFetchNeedRow.holds Try.pinned (OpenSpec.ofChange fnExactFetchNeedWrong)

/-- 'laws.FnNeedNone': WHATEVER THE INPUT: true; the input reads as it did. -/
def fnNeedNoneSpec : ChangeSpec := { name := "fnNeedNone", fn := fun _ => fun
  | [d] => { results := [.lit (.bool true)], args := [d] }
  | _ => none }
def fnNeedNoneRow : OpenClaim := { program := "ytnaeglfochnikaa", sum := "99f509bd7ab7e87d7192cdb8ac3c46435ad4e8d93b7ed37204d9c62d38e2b76a", func := "loop.example/atomicpush/laws.FnNeedNone", spec := "fnNeedNone", unfollowed := true, recurses := true, apart := false }
def FnNeedNoneSaid : Prop := fnNeedNoneRow.holds Try.pinned (OpenSpec.ofChange fnNeedNoneSpec)

/-- ITS FALSE NEIGHBOUR: 'it returns false'. Refute it at one input. -/
def fnNeedNoneWrong : ChangeSpec := { name := "fnNeedNone", fn := fun _ => fun
  | [d] => { results := [.lit (.bool false)], args := [d] }
  | _ => none }
def FnNeedNoneWrongFalsely : Prop := fnNeedNoneRow.holds Try.pinned (OpenSpec.ofChange fnNeedNoneWrong)

/-- 'laws.FnNeedLess': WHATEVER THE INPUT: true; the input reads as it did. -/
def fnNeedLessSpec : ChangeSpec := { name := "fnNeedLess", fn := fun _ => fun
  | [d] => { results := [.lit (.bool true)], args := [d] }
  | _ => none }
def fnNeedLessRow : OpenClaim := { program := "ytnaeglfochnikaa", sum := "99f509bd7ab7e87d7192cdb8ac3c46435ad4e8d93b7ed37204d9c62d38e2b76a", func := "loop.example/atomicpush/laws.FnNeedLess", spec := "fnNeedLess", unfollowed := true, recurses := true, apart := false }
def FnNeedLessSaid : Prop := fnNeedLessRow.holds Try.pinned (OpenSpec.ofChange fnNeedLessSpec)

/-- ITS FALSE NEIGHBOUR: 'it returns false'. Refute it at one input. -/
def fnNeedLessWrong : ChangeSpec := { name := "fnNeedLess", fn := fun _ => fun
  | [d] => { results := [.lit (.bool false)], args := [d] }
  | _ => none }
def FnNeedLessWrongFalsely : Prop := fnNeedLessRow.holds Try.pinned (OpenSpec.ofChange fnNeedLessWrong)

/-- 'laws.FnNeed': WHATEVER THE INPUT: true; the input reads as it did. -/
def fnNeedSpec : ChangeSpec := { name := "fnNeed", fn := fun _ => fun
  | [d] => { results := [.lit (.bool true)], args := [d] }
  | _ => none }
def fnNeedRow : OpenClaim := { program := "ytnaeglfochnikaa", sum := "99f509bd7ab7e87d7192cdb8ac3c46435ad4e8d93b7ed37204d9c62d38e2b76a", func := "loop.example/atomicpush/laws.FnNeed", spec := "fnNeed", unfollowed := true, recurses := true, apart := false }
def FnNeedSaid : Prop := fnNeedRow.holds Try.pinned (OpenSpec.ofChange fnNeedSpec)

/-- ITS FALSE NEIGHBOUR: 'it returns false'. Refute it at one input. -/
def fnNeedWrong : ChangeSpec := { name := "fnNeed", fn := fun _ => fun
  | [d] => { results := [.lit (.bool false)], args := [d] }
  | _ => none }
def FnNeedWrongFalsely : Prop := fnNeedRow.holds Try.pinned (OpenSpec.ofChange fnNeedWrong)

/- THE SECOND FORM. 'bulk': how many values and letters a reading holds, each counted each time it is reached (what is shared counts as often as it is met; a slice's spare places count too). A statement '..UptoSaid' is the law's where the arguments, and the package variables that the reading takes, are together of bulk at most 1048576: NARROWER than '..Said'. Prove '..Said' where nothing that the law and all that it calls make is longer than what came in: it says more and counts as full. Else prove '..UptoSaid'. A law counts once. -/
mutual
def uptoBulk {H : Type} : DataW H → Nat
  | .lit (.string bytes) => bytes.length + 1
  | .lit _ => 1
  | .nil => 1
  | .ptr d => uptoBulk d + 1
  | .slice elems spare => uptoBulkAll elems + uptoBulkAll spare + 1
  | .agg parts => uptoBulkAll parts + 1
  | .iface _ d => uptoBulk d + 1
  | .map entries => uptoBulkEntries entries + 1
  | .held _ => 1
def uptoBulkAll {H : Type} : List (DataW H) → Nat
  | [] => 0
  | d :: r => uptoBulk d + uptoBulkAll r
def uptoBulkEntries {H : Type} : List (Lit × DataW H) → Nat
  | [] => 0
  | x :: r => uptoBulkEntry x + uptoBulkEntries r
def uptoBulkEntry {H : Type} : Lit × DataW H → Nat
  | (.string bytes, d) => bytes.length + uptoBulk d + 1
  | (_, d) => uptoBulk d + 1
 end
def uptoSmall : (H : Type) → List (DataW H) → Bool := fun _ ds => decide (uptoBulkAll ds ≤ 1048576)
def OpenSpec.upto (s : _root_.Go.ChangeSpec) : _root_.Go.OpenSpec := { _root_.Go.OpenSpec.ofChange s with cond := some uptoSmall }

/-- 'laws.FnExactFetchNeed', WHERE WHAT IT READS IS OF BULK AT MOST 1048576: true; the input reads as it did. -/
def fnExactFetchNeedUptoRow : OpenClaim := { program := "ytnaeglfochnikaa", sum := "99f509bd7ab7e87d7192cdb8ac3c46435ad4e8d93b7ed37204d9c62d38e2b76a", func := "loop.example/atomicpush/laws.FnExactFetchNeed", spec := "fnExactFetchNeed", unfollowed := true, recurses := true, apart := false, narrowed := true }
def FnExactFetchNeedUptoSaid : Prop := fnExactFetchNeedUptoRow.holds Try.pinned (OpenSpec.upto fnExactFetchNeedSpec)

/-- 'laws.FnNeedNone', WHERE WHAT IT READS IS OF BULK AT MOST 1048576: true; the input reads as it did. -/
def fnNeedNoneUptoRow : OpenClaim := { program := "ytnaeglfochnikaa", sum := "99f509bd7ab7e87d7192cdb8ac3c46435ad4e8d93b7ed37204d9c62d38e2b76a", func := "loop.example/atomicpush/laws.FnNeedNone", spec := "fnNeedNone", unfollowed := true, recurses := true, apart := false, narrowed := true }
def FnNeedNoneUptoSaid : Prop := fnNeedNoneUptoRow.holds Try.pinned (OpenSpec.upto fnNeedNoneSpec)

/-- 'laws.FnNeedLess', WHERE WHAT IT READS IS OF BULK AT MOST 1048576: true; the input reads as it did. -/
def fnNeedLessUptoRow : OpenClaim := { program := "ytnaeglfochnikaa", sum := "99f509bd7ab7e87d7192cdb8ac3c46435ad4e8d93b7ed37204d9c62d38e2b76a", func := "loop.example/atomicpush/laws.FnNeedLess", spec := "fnNeedLess", unfollowed := true, recurses := true, apart := false, narrowed := true }
def FnNeedLessUptoSaid : Prop := fnNeedLessUptoRow.holds Try.pinned (OpenSpec.upto fnNeedLessSpec)

/-- 'laws.FnNeed', WHERE WHAT IT READS IS OF BULK AT MOST 1048576: true; the input reads as it did. -/
def fnNeedUptoRow : OpenClaim := { program := "ytnaeglfochnikaa", sum := "99f509bd7ab7e87d7192cdb8ac3c46435ad4e8d93b7ed37204d9c62d38e2b76a", func := "loop.example/atomicpush/laws.FnNeed", spec := "fnNeed", unfollowed := true, recurses := true, apart := false, narrowed := true }
def FnNeedUptoSaid : Prop := fnNeedUptoRow.holds Try.pinned (OpenSpec.upto fnNeedSpec)

end Rows
end Go.Proofs.Ytnaeglfochnikaa
