/-
  The walks of toIntS, eqIntS: a copy of a slice of ints in new memory; whether two slices of ints read alike. No condition but the reach of what is read.
-/
import Derived.Test.YthbipjipibhfoaaFill
import Derived.Deep.QuietTactic
import Derived.BigQuiet
namespace Go.Proofs.Ythbipjipibhfoaa
set_option linter.unusedVariables false
set_option linter.unusedSimpArgs false
open Go.RowKit

theorem Try.infoInt : (Try.prog.info? 3).map (fun i => (i.zero, i.size, i.bytes)) = some (some (.int .i64 0), 1, 8) := by kernel_rfl

theorem own_drew {w : World} {base size n : Nat} {e : TypeId} {v : Value} {xs : List Value} (h : w.ownsRow base e size v n xs) (k : Nat) : (w.drewN k).ownsRow base e size v n xs := h

set_option maxHeartbeats 400000 in
theorem eqIntS_any (A A' : Option Addr) (n c c' : Nat) (xs : List Int) (w : World) (lo hi lo' hi' : Nat) (hn : n ≤ 9223372036854775807) (h : Ints w lo hi A n xs) (h' : Ints w lo' hi' A' n xs) :
    Calls Try.prog 19 #[.slice A n c, .slice A' n c'] w fun e w' => e = .returned (.bool true) ∧ ∃ m, w' = w.drewN m := by
  have HI := Lib.hid h
  have HJ := Lib.hid h'
  clear h h'
  go_enter Try.func19, Try.ntmps19
  go_wp2
  go_loopw [5] (fun i wr => ∃ k : Nat, k ≤ n ∧ i = .int .i64 k ∧ ∃ m, wr = w.drewN m) (fun i _ => n - (intOf i).toNat)
  case atStart => exact ⟨0, Nat.zero_le _, rfl, 0, rfl⟩
  case round =>
    obtain ⟨k, hk, rfl, m, rfl⟩ := hrel
    by_cases hlt : k < n
    · obtain ⟨b, o, hl, rfl, _, _, hc⟩ := HI.out.int hlt
      obtain ⟨b', o', hl', rfl, _, _, hc'⟩ := HJ.out.int hlt
      have hd : (!(xs[k] == xs[k])) = false := by simp
      go_wp2
      go_quiet (fail)
      go_wp2
      exact ⟨⟨k + 1, by omega, by go_num, m + nq, rfl⟩, by simp [intOf]; omega⟩
    · have hkn : k = n := by omega
      subst hkn
      go_wp2
      go_ret
      exact ⟨rfl, m, rfl⟩

end Go.Proofs.Ythbipjipibhfoaa
