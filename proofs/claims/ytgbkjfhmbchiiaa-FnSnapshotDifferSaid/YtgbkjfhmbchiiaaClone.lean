/-
  The walk of slices.Clone at a slice of ints, as data of its own. Condition: few elements.
-/
import Derived.Test.YtgbkjfhmbchiiaaM1
import Derived.StillTailTactics
namespace Go.Proofs.Ytgbkjfhmbchiiaa
set_option linter.unusedVariables false
set_option linter.unusedSimpArgs false
open Go.RowKit

theorem Try.elI : ElemT Try.prog 24 3 (.int .i64 0) 1 8 := ⟨Try.underlying24, by kernel_rfl, rfl, by decide⟩

set_option maxRecDepth 100000 in
set_option maxHeartbeats 800000 in
theorem cloneInt_row (xs : List Int) (A : Option Addr) (n c : Nat) (w : World) (lo hi : Nat) (hh : hi ≤ w.heap.size) (hn : n ≤ 1048576) (h : Ints w lo hi A n xs) :
    Calls Try.prog 47 #[.slice A n c] w fun e w' => ∃ (B : Option Addr) (d : Nat), w'.ownsRow w.heap.size 3 1 (.slice B n d) n (xs.flatMap ci) ∧ Below w.heap.size w w' ∧ e = .returned (.slice B n d) := by
  have HX := Lib.hid h
  have hxl := Lib.hid h.1
  have qT : ∀ (w : World) (a : Option Addr) (n c n' c' : Nat), (binOp .eql 24 (.slice a n c) (.slice none n' c')).run Try.prog w = .ok (.bool a.isNone) w := fun w a n c n' c' => Lib.run_eql_slice_nil w _ _ a n c n' c' Try.underlying24
  clear h
  rcases A with _ | ad
  · have hx0 : xs = [] := by
      rcases hxs : xs with _ | ⟨x, l⟩
      · rfl
      · obtain ⟨b, o, e, _⟩ := HX.out.2 (by rw [hxs]; simp [ci])
        cases e
    have hn0 : n = 0 := by rw [← hxl.out, hx0]; rfl
    subst hx0 hn0
    go_enter Try.func47, Try.ntmps47
    go_wp2_with fail
    go_ret
    exact ⟨_, _, World.ownsRow_nil _ _ _ _, Below.refl _ _, rfl⟩
  · have hown0 := Lib.hid (own_nil_lit w 3 1)
    go_enter Try.func47, Try.ntmps47
    go_wp2_with (at_builtin; go_must (refine wpList_app Try.elI hown0.out (HX.out.2.alloc hh _) (by rw [flat_len ci 1 ci_len, hxl.out]) (by rw [flat_ci]; simp [Value.oneCell']) (by unfold maxLen; omega) (by omega) (by simp) rfl rfl rfl rfl ?_); intro v2 w2 hown2 hg2)
    rw [Nat.zero_add, List.nil_append] at hown2
    have HO := Lib.hid hown2
    have HB := Lib.hid (below_app ((Below.refl w.heap.size w).alloc (Nat.le_refl _) (.cells #[] 3)) (Nat.le_refl _) (by simp) hown0.out hg2)
    clear hown2 hg2
    obtain ⟨B, d, rfl, -, -, -⟩ := Rd.of_own HO.out
    go_ret
    exact ⟨B, d, HO.out, HB.out, rfl⟩

theorem cloneInt_d (xs : List Int) (A : Option Addr) (n c : Nat) (w : World) (lo hi : Nat) (hh : hi ≤ w.heap.size) (hn : n ≤ 1048576) (h : D.rd w lo hi (intsD xs) (.slice A n c)) :
    Calls Try.prog 47 #[.slice A n c] w fun e w' => ∃ (B : Option Addr) (d : Nat), Own w' w.heap.size (intsD xs) (.slice B n d) ∧ Below w.heap.size w w' ∧ e = .returned (.slice B n d) :=
  (cloneInt_row xs A n c w lo hi hh hn h.ints).mono fun _ _ ⟨B, d, h1, h2, h3⟩ => ⟨B, d, own_ints h1, h2, h3⟩

end Go.Proofs.Ytgbkjfhmbchiiaa
