/-
  The walks of slices.Equal and slices.Sort at slices of ints: the second over a row of the call's own. Condition: few elements.
-/
import Derived.Test.YtgbkjfhmbchiiaaClone
import Derived.Test.YtgbkjfhmbchiiaaShelf
import Derived.Sort.OwnSortedInts
import Derived.Deep.DeepCutAuto
namespace Go.Proofs.Ytgbkjfhmbchiiaa
set_option linter.unusedVariables false
set_option linter.unusedSimpArgs false
open Go.RowKit

theorem eq_take {xs ys : List Int} {k : Nat} (hl : k < xs.length) (hl' : k < ys.length) (h : xs.take k = ys.take k) (he : xs[k] = ys[k]) : xs.take (k + 1) = ys.take (k + 1) := by
  rw [List.take_succ_eq_append_getElem hl, List.take_succ_eq_append_getElem hl', h, he]
theorem eq_not {xs ys : List Int} {k : Nat} (hl : k < xs.length) (hl' : k < ys.length) (he : ¬ xs[k] = ys[k]) : decide (xs = ys) = false := by
  rw [decide_eq_false_iff_not]; intro e; subst e; exact he rfl
theorem eq_len {xs ys : List Int} (h : ¬ xs.length = ys.length) : decide (xs = ys) = false := by
  rw [decide_eq_false_iff_not]; intro e; subst e; exact h rfl

set_option maxRecDepth 100000 in
set_option maxHeartbeats 800000 in
theorem equalInt_any (xs ys : List Int) (A : Option Addr) (n c : Nat) (B : Option Addr) (m d : Nat) (w : World) (lo hi lo' hi' : Nat) (hn : n ≤ 9223372036854775807) (hm : m ≤ 9223372036854775807) (h : Ints w lo hi A n xs) (h' : Ints w lo' hi' B m ys) :
    Calls Try.prog 49 #[.slice A n c, .slice B m d] w fun e w' => e = .returned (.bool (decide (xs = ys))) ∧ ∃ q, w' = w.drewN q := by
  have HI := Lib.hid h
  have HJ := Lib.hid h'
  have HL := Lib.hid h.1
  have HM := Lib.hid h'.1
  clear h h'
  by_cases hnm : n = m
  · subst hnm
    go_enter Try.func49, Try.ntmps49
    go_wp2_with fail
    go_loopw [13] (fun i wr => ∃ k : Nat, k ≤ n ∧ i = .int .i64 k ∧ Hid (xs.take k = ys.take k) ∧ ∃ q, wr = w.drewN q) (fun i _ => n - (intOf i).toNat)
    case atStart => exact ⟨0, Nat.zero_le _, rfl, rfl, 0, rfl⟩
    case round =>
      obtain ⟨k, hk, rfl, HT, q, rfl⟩ := hrel
      by_cases hlt : k < n
      · obtain ⟨b, o, hl, rfl, _, _, hc⟩ := HI.out.int hlt
        obtain ⟨b', o', hl', rfl, _, _, hc'⟩ := HJ.out.int hlt
        by_cases he : xs[k] = ys[k]
        · have HY := Lib.hid (eq_take hl hl' HT.out he)
          have hd : (xs[k] == ys[k]) = true := by simpa using he
          have hd2 : (!(xs[k] == ys[k])) = false := by rw [hd]; rfl
          have hd3 : (xs[k] != ys[k]) = false := by simpa using he
          clear he
          go_wp2_with fail
          go_quiet (fail)
          go_wp2_with fail
          go_roundw
          case rel => exact ⟨k + 1, by omega, by go_num, HY.out, q + nq, by first | rfl | (simp [World.drewN, Nat.add_assoc]; done)⟩
          case measure => simp [intOf]; omega
        · have HY := Lib.hid (eq_not hl hl' he)
          have hd : (xs[k] == ys[k]) = false := by simpa using he
          have hd2 : (!(xs[k] == ys[k])) = true := by rw [hd]; rfl
          have hd3 : (xs[k] != ys[k]) = true := by simpa using he
          clear he
          go_wp2_with fail
          go_quiet (fail)
          go_wp2_with fail
          go_ret
          exact ⟨ret_bool HY.out.symm, q + nq, by first | rfl | (simp [World.drewN, Nat.add_assoc]; done)⟩
      · have hkn : k = n := by omega
        subst hkn
        have HY : Hid (decide (xs = ys) = true) := by
          show _ = _
          have := HT.out
          rw [List.take_of_length_le (by rw [HL.out]; exact Nat.le_refl _), List.take_of_length_le (by rw [HM.out]; exact Nat.le_refl _)] at this
          exact decide_eq_true this
        go_wp2_with fail
        go_ret
        exact ⟨ret_bool HY.out.symm, q, rfl⟩
  · have HY := Lib.hid (eq_len (xs := xs) (ys := ys) (by rw [HL.out, HM.out]; exact hnm))
    have hq : (!((n : Int) == (m : Int))) = true := by simp; omega
    have hq2 : ((n : Int) != (m : Int)) = true := by simp; omega
    clear hnm
    go_enter Try.func49, Try.ntmps49
    go_wp2_with fail
    go_ret
    exact ⟨ret_bool HY.out.symm, 0, rfl⟩

/-- a row in ascending order -/
def srt (xs : List Int) : List Int := xs.mergeSort fun x y => decide (x ≤ y)
theorem srt_len (xs : List Int) : (srt xs).length = xs.length := by unfold srt; simp
theorem sortInt_row (xs : List Int) (A : Option Addr) (n c base : Nat) (w : World) (hn20 : n ≤ 1048576) (h : w.ownsRow base 3 1 (.slice A n c) n (xs.flatMap ci)) :
    Calls Try.prog 48 #[.slice A n c] w fun e w' => e = .returned (.tuple #[]) ∧ w'.ownsRow base 3 1 (.slice A n c) n ((srt xs).flatMap ci) ∧ Below base w w' := by
  have hl : xs.length = n := by
    have := h.1
    rw [flat_len ci 1 ci_len] at this
    omega
  rcases Nat.eq_zero_or_pos n with h0 | h0
  · subst h0
    have hx : xs = [] := List.eq_nil_of_length_eq_zero hl
    subst hx
    refine (Try.slices_Sort_int_none A c w).mono ?_
    rintro e w' ⟨rfl, rfl⟩
    exact ⟨rfl, by unfold srt; simpa using h, Below.refl _ _⟩
  · rcases h.2 with ⟨e1, -⟩ | ⟨g, cap, cur, e1, hb, hh, hn, hm, hs, ht⟩
    · injection e1 with _ e2 _; omega
    · injection e1 with e1 e2 e3
      subst e1 e3
      subst hl
      have hlt : g < w.heap.size := by
        rcases Nat.lt_or_ge g w.heap.size with hlt | hge
        · exact hlt
        · rw [Array.getElem?_eq_none hge] at hh; cases hh
      have ht' : cur.toList.take xs.length = xs.map (Value.int .i64) := by
        rw [Nat.mul_one] at ht
        rw [ht, flat_ci]
      refine (Try.slices_Sort_int g 0 c xs w (holds_of_blockI hh ht') hlt (by omega)).mono ?_
      rintro e w' ⟨rfl, q, os, rfl⟩
      have h1 := ownsRow_sortedI (base := base) (n := q) (os := os) (srt_len xs) hb hh hn hm hs
      rw [flat_ci]
      refine ⟨rfl, h1, ?_⟩
      exact (Below.refl _ _).grown (grownBy_sortedI _) (by omega) (fun j hj => by injection hj with hj; omega)

end Go.Proofs.Ytgbkjfhmbchiiaa
