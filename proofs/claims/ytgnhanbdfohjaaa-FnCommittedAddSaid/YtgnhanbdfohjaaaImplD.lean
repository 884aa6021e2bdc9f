/-
  The walk of stepOf of the program: which step a record is. No condition.
-/
import Derived.Test.YtgnhanbdfohjaaaImplC
namespace Go.Proofs.Ytgnhanbdfohjaaa
set_option linter.unusedVariables false
set_option linter.unusedSimpArgs false
open Go.RowKit

set_option maxRecDepth 100000 in
set_option maxHeartbeats 800000 in
theorem stepOf_tx (r : RecC) (w : World) (ht : txB r.txn = false) :
    Calls Try.prog 63 #[.agg #[.int .i64 r.kind, .int .i64 r.txn, .slice r.A r.n r.c]] w fun e w' => e = .returned (.iface 92 (.agg #[])) ∧ Below w.heap.size w w' := by
  go_enter Try.func63, Try.ntmps63
  go_wp2_with (go_at_call 38; refine (isTxn_any _ _).mono ?_; rintro e w' ⟨rfl, rfl⟩)
  go_ret
  exact ⟨rfl, (Below.refl _ _).alloc (Nat.le_refl _) _⟩

set_option maxRecDepth 100000 in
set_option maxHeartbeats 800000 in
theorem stepOf_vote (r : RecC) (w : World) (ht : txB r.txn = true) (h1 : (r.kind == 1) = true) :
    Calls Try.prog 63 #[.agg #[.int .i64 r.kind, .int .i64 r.txn, .slice r.A r.n r.c]] w fun e w' => e = .returned (.iface 104 (.agg #[.slice r.A r.n r.c])) ∧ Below w.heap.size w w' := by
  go_enter Try.func63, Try.ntmps63
  go_wp2_with (go_at_call 38; refine (isTxn_any _ _).mono ?_; rintro e w' ⟨rfl, rfl⟩)
  go_ret
  exact ⟨rfl, (Below.refl _ _).alloc (Nat.le_refl _) _⟩

set_option maxRecDepth 100000 in
set_option maxHeartbeats 800000 in
theorem stepOf_commit (r : RecC) (w : World) (ht : txB r.txn = true) (h1 : (r.kind == 1) = false) (h2 : (r.kind == 2) = true) (hn : ((r.n : Int) == 0) = true) :
    Calls Try.prog 63 #[.agg #[.int .i64 r.kind, .int .i64 r.txn, .slice r.A r.n r.c]] w fun e w' => e = .returned (.iface 105 (.agg #[])) ∧ Below w.heap.size w w' := by
  go_enter Try.func63, Try.ntmps63
  go_wp2_with (go_at_call 38; refine (isTxn_any _ _).mono ?_; rintro e w' ⟨rfl, rfl⟩)
  go_ret
  exact ⟨rfl, (Below.refl _ _).alloc (Nat.le_refl _) _⟩

set_option maxRecDepth 100000 in
set_option maxHeartbeats 800000 in
theorem stepOf_abort (r : RecC) (w : World) (ht : txB r.txn = true) (h1 : (r.kind == 1) = false) (h2 : (r.kind == 2) = false) (h3 : (r.kind == 3) = true) (hn : ((r.n : Int) == 0) = true) :
    Calls Try.prog 63 #[.agg #[.int .i64 r.kind, .int .i64 r.txn, .slice r.A r.n r.c]] w fun e w' => e = .returned (.iface 106 (.agg #[])) ∧ Below w.heap.size w w' := by
  go_enter Try.func63, Try.ntmps63
  go_wp2_with (go_at_call 38; refine (isTxn_any _ _).mono ?_; rintro e w' ⟨rfl, rfl⟩)
  go_ret
  exact ⟨rfl, (Below.refl _ _).alloc (Nat.le_refl _) _⟩

set_option maxRecDepth 100000 in
set_option maxHeartbeats 800000 in
theorem stepOf_fullc (r : RecC) (w : World) (ht : txB r.txn = true) (h1 : (r.kind == 1) = false) (h2 : (r.kind == 2) = true) (h3 : (r.kind == 3) = false) (hn : ((r.n : Int) == 0) = false) :
    Calls Try.prog 63 #[.agg #[.int .i64 r.kind, .int .i64 r.txn, .slice r.A r.n r.c]] w fun e w' => e = .returned (.iface 92 (.agg #[])) ∧ Below w.heap.size w w' := by
  go_enter Try.func63, Try.ntmps63
  go_wp2_with (go_at_call 38; refine (isTxn_any _ _).mono ?_; rintro e w' ⟨rfl, rfl⟩)
  go_ret
  exact ⟨rfl, (Below.refl _ _).alloc (Nat.le_refl _) _⟩

set_option maxRecDepth 100000 in
set_option maxHeartbeats 800000 in
theorem stepOf_fulla (r : RecC) (w : World) (ht : txB r.txn = true) (h1 : (r.kind == 1) = false) (h2 : (r.kind == 2) = false) (h3 : (r.kind == 3) = true) (hn : ((r.n : Int) == 0) = false) :
    Calls Try.prog 63 #[.agg #[.int .i64 r.kind, .int .i64 r.txn, .slice r.A r.n r.c]] w fun e w' => e = .returned (.iface 92 (.agg #[])) ∧ Below w.heap.size w w' := by
  go_enter Try.func63, Try.ntmps63
  go_wp2_with (go_at_call 38; refine (isTxn_any _ _).mono ?_; rintro e w' ⟨rfl, rfl⟩)
  go_ret
  exact ⟨rfl, (Below.refl _ _).alloc (Nat.le_refl _) _⟩

set_option maxRecDepth 100000 in
set_option maxHeartbeats 800000 in
theorem stepOf_other (r : RecC) (w : World) (ht : txB r.txn = true) (h1 : (r.kind == 1) = false) (h2 : (r.kind == 2) = false) (h3 : (r.kind == 3) = false) :
    Calls Try.prog 63 #[.agg #[.int .i64 r.kind, .int .i64 r.txn, .slice r.A r.n r.c]] w fun e w' => e = .returned (.iface 92 (.agg #[])) ∧ Below w.heap.size w w' := by
  go_enter Try.func63, Try.ntmps63
  go_wp2_with (go_at_call 38; refine (isTxn_any _ _).mono ?_; rintro e w' ⟨rfl, rfl⟩)
  go_ret
  exact ⟨rfl, (Below.refl _ _).alloc (Nat.le_refl _) _⟩

end Go.Proofs.Ytgnhanbdfohjaaa
