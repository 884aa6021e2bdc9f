/-
  The walks of markIntS and heldIntS: a row of the call's own is filled with the numbers from k on; such a row is told to be one. Condition: small lengths and numbers.
-/
import Derived.Test.YtfdcoeghomeadaaInt
namespace Go.Proofs.Ytfdcoeghomeadaa
open Go.RowKit

def marks (k n : Nat) : List Int := (List.range n).map fun i => ((k + i : Nat) : Int)
theorem marks_len (k n : Nat) : (marks k n).length = n := by unfold marks; simp
theorem marks_get (k n i : Nat) (hi : i < (marks k n).length) : (marks k n)[i] = ((k + i : Nat) : Int) := by unfold marks; simp
/-- a list whose first j numbers are marks -/
def marked (k : Nat) (xs : List Int) (j : Nat) : List Int := marks k j ++ xs.drop j
theorem marked_zero (k : Nat) (xs : List Int) : marked k xs 0 = xs := by unfold marked marks; simp
theorem marked_all (k : Nat) {xs : List Int} {n : Nat} (hl : xs.length = n) : marked k xs n = marks k n := by
  unfold marked; rw [List.drop_eq_nil_of_le (by omega), List.append_nil]
theorem marked_len (k : Nat) {xs : List Int} {j : Nat} (hj : j ≤ xs.length) : (marked k xs j).length = xs.length := by
  unfold marked; rw [List.length_append, marks_len, List.length_drop]; omega
theorem marked_set (k : Nat) {xs : List Int} {j : Nat} (hj : j < xs.length) : (marked k xs j).set j ((k + j : Nat) : Int) = marked k xs (j + 1) := by
  unfold marked
  rw [List.set_append_right _ _ (by rw [marks_len]; exact Nat.le_refl _), marks_len, Nat.sub_self, List.drop_eq_getElem_cons hj, List.set_cons_zero]
  unfold marks
  rw [List.range_succ, List.map_append]
  simp
theorem ci_set' (vs : List Int) (j : Nat) (x : Int) : (vs.flatMap ci).set j (.int .i64 x) = (vs.set j x).flatMap ci := by
  rw [flat_ci, flat_ci, List.map_set]
theorem grown_row_set {a b : World} {g : Nat} (h : a.grownBy b (some g)) (j : Nat) (u : Value) : a.grownBy (b.setCell ⟨g, j, none⟩ u) (some g) :=
  ⟨h.os, h.tape, h.output, by simpa [World.setCell] using h.size, fun i hi hne => (Below.heap_setCell b _ u i (fun e => hne (by rw [e]))).trans (h.block i hi hne)⟩

set_option maxHeartbeats 800000 in
theorem markIntS_any (base : Nat) (t : TypeId) (v : Value) (n k : Nat) (xs : List Int) (w : World) (hn : n ≤ 1048576) (hk : k ≤ 1073741824) (hl : xs.length = n) (h : w.ownsRow base t 1 v n (xs.flatMap ci)) :
    Calls Try.prog 28 #[v, .int .i64 (k : Int)] w fun e w' => w'.ownsRow base t 1 v n ((marks k n).flatMap ci) ∧ w.grownBy w' v.ownBlock ∧ e = .returned (.int .i64 ((k + n : Nat) : Int)) := by
  have HO0 := Lib.hid h
  rcases Nat.eq_zero_or_pos n with h0 | h0
  · subst h0
    have : xs = [] := List.eq_nil_of_length_eq_zero hl
    subst this
    obtain ⟨A, c, rfl, _, _, _⟩ := Rd.of_own h
    clear h hl
    go_enter Try.func28, Try.ntmps28
    go_wp2_with fail
    refine wp_loop_rounds 1 ?_
    rw [rounds_succ]
    go_wp2_with fail
    go_ret
    exact ⟨HO0.out, World.grownBy.refl w _, rfl⟩
  · obtain ⟨g, c, rfl⟩ : ∃ g c, v = .slice (some ⟨g, 0, none⟩) n c := by
      obtain ⟨_, h⟩ := h
      rcases h with ⟨_, rfl⟩ | ⟨g, cap, cur, rfl, _⟩
      · omega
      · exact ⟨g, cap, rfl⟩
    clear h
    have HL := Lib.hid hl
    clear hl
    go_enter Try.func28, Try.ntmps28
    go_wp2_with fail
    go_loopw [1, 5] (fun l i wr => ∃ j : Nat, j ≤ n ∧ i = .int .i64 j ∧ l = .int .i64 ((k + j : Nat) : Int) ∧ wr.ownsRow base t 1 (.slice (some ⟨g, 0, none⟩) n c) n ((marked k xs j).flatMap ci) ∧ w.grownBy wr (some g)) (fun _ i _ => n - (intOf i).toNat)
    case atStart => exact ⟨0, Nat.zero_le _, rfl, rfl, by rw [marked_zero]; exact HO0.out, World.grownBy.refl w _⟩
    case round =>
      obtain ⟨j, hj, rfl, rfl, hown, hb⟩ := hrel
      have HO := Lib.hid hown
      have HB := Lib.hid hb
      clear hown hb
      by_cases hlt : j < n
      · have hst := (HO.out.stored j (.int .i64 ((k + j : Nat) : Int))).1
        rw [ci_set', marked_set k (by rw [HL.out]; exact hlt)] at hst
        have HST := Lib.hid hst
        obtain ⟨u0, hg0, hf0⟩ := own_cells HO.out (k := j) hlt 0 (by omega)
        rw [Nat.mul_one, Nat.add_zero] at hg0 hf0
        clear hst
        go_wp2_with fail
        exact ⟨⟨j + 1, by omega, by go_num, by congr 1, HST.out, grown_row_set HB.out _ _⟩, by simp [intOf]; omega⟩
      · have hjn : j = n := by omega
        subst hjn
        go_wp2_with fail
        go_ret
        exact ⟨by rw [← marked_all k HL.out]; exact HO.out, HB.out, rfl⟩

set_option maxHeartbeats 800000 in
theorem heldIntS_any (A : Option Addr) (n c k : Nat) (w : World) (lo hi : Nat) (hn : n ≤ 1048576) (hk : k ≤ 1073741824) (h : Ints w lo hi A n (marks k n)) :
    Calls Try.prog 30 #[.slice A n c, .int .i64 (k : Int)] w fun e w' => e = .returned (.int .i64 ((k + n : Nat) : Int)) ∧ w = w' := by
  have HI := Lib.hid h
  clear h
  go_enter Try.func30, Try.ntmps30
  go_wp2_with fail
  go_loop [1, 5] (fun l i => ∃ j : Nat, j ≤ n ∧ i = .int .i64 j ∧ l = .int .i64 ((k + j : Nat) : Int)) (fun _ i => n - (intOf i).toNat)
  case atStart => exact ⟨0, Nat.zero_le _, rfl, rfl⟩
  case round =>
    obtain ⟨j, hj, rfl, rfl⟩ := hrel
    by_cases hlt : j < n
    · obtain ⟨b, o, hl, rfl, _, _, hc⟩ := HI.out.int hlt
      rw [marks_get] at hc
      go_wp2_with fail
      all_goals exact ⟨⟨j + 1, by omega, by go_num, by congr 1⟩, by simp [intOf]; omega⟩
    · have hjn : j = n := by omega
      subst hjn
      go_wp2_with fail
      go_ret
      exact ⟨rfl, rfl⟩

end Go.Proofs.Ytfdcoeghomeadaa
