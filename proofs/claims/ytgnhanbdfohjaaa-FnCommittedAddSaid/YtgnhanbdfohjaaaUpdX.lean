/-
  The walks of szUpdateS, toUpdateS, eqUpdateS, markUpdateS, heldUpdateS and of what they call, and how an argument of type []laws.Update is opened. Condition: lengths fit an int64.
-/
import Derived.Test.YtgnhanbdfohjaaaOpenS
import Derived.Test.YtgnhanbdfohjaaaK3
import Derived.Test.YtgnhanbdfohjaaaK2
import Derived.StillTailTactics
namespace Go.Proofs.Ytgnhanbdfohjaaa
set_option linter.unusedVariables false
set_option linter.unusedSimpArgs false
open Go.ChangeShapes Go.WideShapes Go.Deep Go.RowKit

theorem fl_upd {w : World} {lo hi n k : Nat} {A : Option Addr} {xs : List Upd} (h : Fl cu w lo hi A n xs) (hk : k < n) :
    ∃ (b o : Nat) (hl : k < xs.length), A = some ⟨b, o, none⟩ ∧ lo ≤ b ∧ b < hi ∧ w.cell? ⟨b, o + k * 3, none⟩ = some (.int .i64 xs[k].ref) ∧ w.cell? ⟨b, o + k * 3 + 1, none⟩ = some (.int .i64 xs[k].old) ∧ w.cell? ⟨b, o + k * 3 + 2, none⟩ = some (.int .i64 xs[k].new_) := by
  obtain ⟨b, o, hl, rfl, g1, g2, hc⟩ := h.at_ cu_len (by omega) hk
  exact ⟨b, o, hl, rfl, g1, g2, hc 0 _ rfl, hc 1 _ rfl, hc 2 _ rfl⟩

/-- a slice of type []laws.Update that came in -/
def UpdIn (w : World) (A : Option Addr) (n c : Nat) (xs : List Upd) : Prop := Fl cu w 0 w.heap.size A n xs ∧ n ≤ c ∧ c ≤ maxLen ∧ ∀ o ∈ xs, o = o

theorem Try.infoUpdateX : (Try.prog.info? 87).map (fun i => (i.zero, i.size, i.bytes)) = some (some (.agg #[.int .i64 0, .int .i64 0, .int .i64 0]), 3, 24) := by kernel_rfl
/-- the zero cells of an element -/
def zcu : List Value := [.int .i64 0, .int .i64 0, .int .i64 0]

end Go.Proofs.Ytgnhanbdfohjaaa
