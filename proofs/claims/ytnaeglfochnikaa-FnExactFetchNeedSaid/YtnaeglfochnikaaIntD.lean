/-
  The walks of szIntS, toIntS, eqIntS over data. Condition: lengths fit an int64.
-/
import Derived.Test.YtnaeglfochnikaaM4
namespace Go.Proofs.Ytnaeglfochnikaa
set_option linter.unusedVariables false
set_option linter.unusedSimpArgs false
open Go.RowKit

set_option maxHeartbeats 400000 in
theorem szIntS_d (xs : List Int) (A : Option Addr) (n c : Nat) (left : Int) (w : World) (lo hi : Nat) (hh : hi ≤ w.heap.size) (h : D.rd w lo hi (intsD xs) (.slice A n c)) (h0 : 0 ≤ left) (hlf : left ≤ 1048576) :
    Calls Try.prog 39 #[.slice A n c, .int .i64 left] w fun e w' => SzR left (D.sz (intsD xs)) w e w' := by
  have HN := Lib.hid h.ints.1
  have hnc := h.len.2.1
  have hcm := h.len.2.2
  rw [← h.len.1] at hnc
  clear h
  by_cases hbig : left < n
  · go_enter Try.func39, Try.ntmps39
    go_wp2_with fail
    go_ret
    exact ⟨-1, by omega, by omega, by omega, Below.refl _ _, rfl⟩
  · have hnl : (n : Int) ≤ left := by omega
    clear hbig
    go_enter Try.func39, Try.ntmps39
    go_wp2_with fail
    go_ret
    exact ⟨_, by omega, by omega, fun _ => by rw [sz_ints, HN.out]; omega, Below.refl _ _, rfl⟩

theorem toIntS_d (xs : List Int) (A : Option Addr) (n c : Nat) (w : World) (lo hi : Nat) (hh : hi ≤ w.heap.size) (h : D.rd w lo hi (intsD xs) (.slice A n c)) (hs : D.sz (intsD xs) ≤ 1048576) :
    Calls Try.prog 10 #[.slice A n c] w fun e w' => ∃ (B : Option Addr) (d : Nat), Own w' w.heap.size (intsD xs) (.slice B n d) ∧ Below w.heap.size w w' ∧ e = .returned (.slice B n d) := by
  have hn := h.ints.1
  rw [sz_ints] at hs
  refine (toIntS_any A n c xs w lo hi (by omega) hh h.ints).mono ?_
  rintro e w' ⟨v, rfl, hown, hb⟩
  obtain ⟨B, d, rfl, -, -, -⟩ := Rd.of_own hown
  exact ⟨B, d, own_ints hown, hb, rfl⟩

theorem eqIntS_d (xs : List Int) (A A' : Option Addr) (n n' c c' : Nat) (w : World) (lo hi lo' hi' : Nat) (h : D.rd w lo hi (intsD xs) (.slice A n c)) (h' : D.rd w lo' hi' (intsD xs) (.slice A' n' c')) :
    Calls Try.prog 12 #[.slice A n c, .slice A' n' c'] w fun e w' => e = .returned (.bool true) ∧ Below w.heap.size w w' := by
  have h1 := h.len
  have h2 := h'.len
  obtain rfl : n' = n := h2.1.trans h1.1.symm
  refine (eqIntS_any A A' n' c c' xs w lo hi lo' hi' (by omega) h.ints h'.ints).mono ?_
  rintro e w' ⟨rfl, m, rfl⟩
  exact ⟨rfl, below_drewN (Below.refl _ _) m⟩

end Go.Proofs.Ytnaeglfochnikaa
