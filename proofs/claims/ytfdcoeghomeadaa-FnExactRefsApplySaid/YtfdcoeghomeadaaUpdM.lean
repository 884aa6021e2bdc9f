/-
  The walk of markUpdateS: a row of updates of the call's own is filled with numbers; nothing else turns. Condition: small lengths and numbers.
-/
import Derived.Test.YtfdcoeghomeadaaMark
import Derived.Test.YtfdcoeghomeadaaUpdX
namespace Go.Proofs.Ytfdcoeghomeadaa
open Go.RowKit

set_option maxHeartbeats 800000 in
theorem markUpdateS_any (base : Nat) (t : TypeId) (v : Value) (n k : Nat) (cs : List Value) (w : World) (hn : n ≤ 1048576) (hk : k ≤ 1073741824) (h : w.ownsRow base t 3 v n cs) :
    Calls Try.prog 29 #[v, .int .i64 (k : Int)] w fun e w' => w.grownBy w' v.ownBlock ∧ e = .returned (.int .i64 ((k + 3 * n : Nat) : Int)) := by
  have HO0 := Lib.hid h
  rcases Nat.eq_zero_or_pos n with h0 | h0
  · subst h0
    have : cs = [] := List.eq_nil_of_length_eq_zero (by simpa using h.1)
    subst this
    obtain ⟨A, c, rfl, _, _, _⟩ := Rd.of_own h
    clear h
    go_enter Try.func29, Try.ntmps29
    go_wp2_with fail
    refine wp_loop_rounds 1 ?_
    rw [rounds_succ]
    go_wp2_with fail
    go_ret
    exact ⟨World.grownBy.refl w _, rfl⟩
  · obtain ⟨g, c, rfl⟩ : ∃ g c, v = .slice (some ⟨g, 0, none⟩) n c := by
      obtain ⟨_, h⟩ := h
      rcases h with ⟨_, rfl⟩ | ⟨g, cap, cur, rfl, _⟩
      · omega
      · exact ⟨g, cap, rfl⟩
    clear h
    go_enter Try.func29, Try.ntmps29
    go_wp2_with fail
    go_loopw [1, 5] (fun l i wr => ∃ j : Nat, j ≤ n ∧ i = .int .i64 j ∧ l = .int .i64 ((k + 3 * j : Nat) : Int) ∧ (∃ cs', wr.ownsRow base t 3 (.slice (some ⟨g, 0, none⟩) n c) n cs') ∧ w.grownBy wr (some g)) (fun _ i _ => n - (intOf i).toNat)
    case atStart => exact ⟨0, Nat.zero_le _, rfl, rfl, ⟨_, HO0.out⟩, World.grownBy.refl w _⟩
    case round =>
      obtain ⟨j, hj, rfl, rfl, ⟨cs', hown⟩, hb⟩ := hrel
      have HO := Lib.hid hown
      have HB := Lib.hid hb
      clear hown hb
      by_cases hlt : j < n
      · have hst := (((HO.out.stored (j * 3) (.int .i64 ((k + 3 * j : Nat) : Int))).1.stored (j * 3 + 1) (.int .i64 ((k + 3 * j : Nat) + 1 : Int))).1.stored (j * 3 + 2) (.int .i64 ((k + 3 * j : Nat) + 1 + 1 : Int))).1
        have HST := Lib.hid hst
        obtain ⟨u0, hg0, hf0⟩ := own_cells HO.out (k := j) hlt 0 (by omega)
        obtain ⟨u1, hg1, hf1⟩ := own_cells HO.out (k := j) hlt 1 (by omega)
        obtain ⟨u2, hg2, hf2⟩ := own_cells HO.out (k := j) hlt 2 (by omega)
        rw [Nat.add_zero] at hg0 hf0
        clear hst
        go_wp2_with fail
        exact ⟨⟨j + 1, by omega, by go_num, by congr 1, ⟨_, by first | exact HST.out | (simpa using HST.out)⟩, grown_row_set (grown_row_set (grown_row_set HB.out _ _) _ _) _ _⟩, by simp [intOf]; omega⟩
      · have hjn : j = n := by omega
        subst hjn
        go_wp2_with fail
        go_ret
        exact ⟨HB.out, rfl⟩

end Go.Proofs.Ytfdcoeghomeadaa
