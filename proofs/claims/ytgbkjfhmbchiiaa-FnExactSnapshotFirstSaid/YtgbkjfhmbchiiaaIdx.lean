/-
  The walks of slices.Index and slices.Contains at a slice of ints: the least place at which a number stands, or -1. No condition.
-/
import Derived.Test.YtgbkjfhmbchiiaaBase
namespace Go.Proofs.Ytgbkjfhmbchiiaa
set_option linter.unusedVariables false
set_option linter.unusedSimpArgs false
open Go.RowKit

def hasB (x : Int) (xs : List Int) : Bool := decide (x ∈ xs)
def idxI (x : Int) (xs : List Int) : Int := if x ∈ xs then (xs.idxOf x : Int) else -1

theorem idxI_ge (x : Int) (xs : List Int) : decide (0 ≤ idxI x xs) = hasB x xs := by
  unfold idxI hasB
  by_cases h : x ∈ xs <;> simp [h]

theorem take_mem_succ {x : Int} {xs : List Int} {k : Nat} (hl : k < xs.length) (h : x ∉ xs.take k) (hne : ¬ xs[k] = x) : x ∉ xs.take (k + 1) := by
  rw [List.take_succ_eq_append_getElem hl]
  simp only [List.mem_append, List.mem_singleton, not_or]
  exact ⟨h, fun e => hne e.symm⟩
theorem idxI_at {x : Int} {xs : List Int} {k : Nat} (hl : k < xs.length) (h : x ∉ xs.take k) (he : xs[k] = x) : idxI x xs = k := by
  have hm : x ∈ xs := by rw [← he]; exact List.getElem_mem hl
  unfold idxI
  rw [if_pos hm]
  have e : xs = xs.take k ++ xs[k] :: xs.drop (k + 1) := by
    rw [← List.drop_eq_getElem_cons hl]; exact (List.take_append_drop k xs).symm
  have : xs.idxOf x = k := by
    rw [e, List.idxOf_append, if_neg h, he, List.idxOf_cons_self, List.length_take]
    omega
  rw [this]
theorem idxI_none {x : Int} {xs : List Int} {n : Nat} (hl : xs.length = n) (h : x ∉ xs.take n) : idxI x xs = -1 := by
  unfold idxI
  rw [List.take_of_length_le (by omega)] at h
  rw [if_neg h]
theorem hasB_at {x : Int} {xs : List Int} {k : Nat} (hl : k < xs.length) (he : xs[k] = x) : hasB x xs = true := by
  unfold hasB; rw [decide_eq_true_eq, ← he]; exact List.getElem_mem hl
theorem hasB_none {x : Int} {xs : List Int} {n : Nat} (hl : xs.length = n) (h : x ∉ xs.take n) : hasB x xs = false := by
  unfold hasB; rw [List.take_of_length_le (by omega)] at h; simpa using h

set_option maxHeartbeats 400000 in
theorem index_any (A : Option Addr) (n c : Nat) (xs : List Int) (x : Int) (w : World) (lo hi : Nat) (hn : n ≤ 9223372036854775807) (h : Ints w lo hi A n xs) :
    Calls Try.prog 27 #[.slice A n c, .int .i64 x] w fun e w' => e = .returned (.int .i64 (idxI x xs)) ∧ w = w' := by
  have HI := Lib.hid h
  clear h
  go_enter Try.func27, Try.ntmps27
  go_wp2
  go_loop [8] (fun i => ∃ k : Nat, k ≤ n ∧ i = .int .i64 k ∧ x ∉ xs.take k) (fun i => n - (intOf i).toNat)
  case atStart => exact ⟨0, Nat.zero_le _, rfl, by simp⟩
  case round =>
    obtain ⟨k, hk, rfl, hx⟩ := hrel
    by_cases hlt : k < n
    · obtain ⟨b, o, hl, rfl, _, _, hc⟩ := HI.out.int hlt
      by_cases he : xs[k] = x
      · have hd : (x == xs[k]) = true := by simp [he]
        go_wp2
        go_ret
        exact ⟨ret_int (idxI_at hl hx he).symm, rfl⟩
      · have hd : (x == xs[k]) = false := by simp [beq_eq_false_iff_ne]; exact fun e => he e.symm
        have hx' := take_mem_succ hl hx he
        go_wp2
        exact ⟨⟨k + 1, by omega, by go_num, hx'⟩, by simp [intOf]; omega⟩
    · have hkn : k = n := by omega
      subst hkn
      go_wp2
      go_ret
      exact ⟨ret_int (idxI_none HI.out.1 hx).symm, rfl⟩

end Go.Proofs.Ytgbkjfhmbchiiaa
