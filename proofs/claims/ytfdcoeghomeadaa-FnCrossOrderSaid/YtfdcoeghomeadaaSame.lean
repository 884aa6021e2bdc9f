/-
  The walks of sameInts and sameUpdates: where two slices read alike the answer is true. And the words for an answer of RefsApply. Condition: lengths fit an int64.
-/
import Derived.Test.YtfdcoeghomeadaaDrawRA
namespace Go.Proofs.Ytfdcoeghomeadaa
open Go.RowKit

set_option maxHeartbeats 400000 in
theorem sameInts_any (A A' : Option Addr) (n c c' : Nat) (xs : List Int) (w : World) (lo hi lo' hi' : Nat) (hn : n ≤ 9223372036854775807) (h : Ints w lo hi A n xs) (h' : Ints w lo' hi' A' n xs) :
    Calls Try.prog 17 #[.slice A n c, .slice A' n c'] w fun e w' => e = .returned (.bool true) ∧ ∃ m, w' = w.drewN m := by
  have HI := Lib.hid h
  have HJ := Lib.hid h'
  have hnn : (!((n : Int) == n)) = false := by simp
  clear h h'
  go_enter Try.func17, Try.ntmps17
  go_wp2
  go_loopw [5] (fun i wr => ∃ k : Nat, k ≤ n ∧ i = .int .i64 k ∧ ∃ m, wr = w.drewN m) (fun i _ => n - (intOf i).toNat)
  case atStart => exact ⟨0, Nat.zero_le _, rfl, 0, rfl⟩
  case round =>
    obtain ⟨k, hk, rfl, m, rfl⟩ := hrel
    by_cases hlt : k < n
    · obtain ⟨b, o, hl, rfl, _, _, hc⟩ := HI.out.int hlt
      obtain ⟨b', o', hl', rfl, _, _, hc'⟩ := HJ.out.int hlt
      have hd : (!(xs[k] == xs[k])) = false := by simp
      go_wp2
      go_quiet (fail)
      go_wp2
      exact ⟨⟨k + 1, by omega, by go_num, m + nq, rfl⟩, by simp [intOf]; omega⟩
    · have hkn : k = n := by omega
      subst hkn
      go_wp2
      go_ret
      exact ⟨rfl, m, rfl⟩

set_option maxHeartbeats 400000 in
theorem sameUpdates_any (A A' : Option Addr) (n c c' : Nat) (xs : List Upd) (w : World) (lo hi lo' hi' : Nat) (hn : n ≤ 9223372036854775807) (h : Fl cu w lo hi A n xs) (h' : Fl cu w lo' hi' A' n xs) :
    Calls Try.prog 15 #[.slice A n c, .slice A' n c'] w fun e w' => e = .returned (.bool true) ∧ ∃ m, w' = w.drewN m := by
  have HI := Lib.hid h
  have HJ := Lib.hid h'
  have hnn : (!((n : Int) == n)) = false := by simp
  clear h h'
  go_enter Try.func15, Try.ntmps15
  go_wp2
  go_loopw [5] (fun i wr => ∃ k : Nat, k ≤ n ∧ i = .int .i64 k ∧ ∃ m, wr = w.drewN m) (fun i _ => n - (intOf i).toNat)
  case atStart => exact ⟨0, Nat.zero_le _, rfl, 0, rfl⟩
  case round =>
    obtain ⟨k, hk, rfl, m, rfl⟩ := hrel
    by_cases hlt : k < n
    · obtain ⟨b, o, hl, rfl, _, _, hc0, hc1, hc2⟩ := fl_upd HI.out hlt
      obtain ⟨b', o', hl', rfl, _, _, hd0, hd1, hd2⟩ := fl_upd HJ.out hlt
      generalize xs[k] = u at *
      obtain ⟨r, p, q⟩ := u
      dsimp only at hc0 hc1 hc2 hd0 hd1 hd2
      go_wp2
      go_quiet (fail)
      go_wp2
      exact ⟨⟨k + 1, by omega, by go_num, m + nq, rfl⟩, by simp [intOf]; omega⟩
    · have hkn : k = n := by omega
      subst hkn
      go_wp2
      go_ret
      exact ⟨rfl, m, rfl⟩

theorem applyL_short' (xs : List Int) (us : List Upd) : (applyL xs us).length ≤ xs.length := by
  unfold applyL
  split
  · split
    · rw [setR_len]; exact Nat.le_refl _
    · exact Nat.le_refl _
  · exact Nat.zero_le _

/-- an answer of RefsApply, read in new memory -/
def AnsR (xs : List Int) (us : List Upd) (w : World) (e : Ending) (w' : World) : Prop :=
  ∃ (A : Option Addr) (n c : Nat), e = .returned (.tuple #[.slice A n c, .bool (applyB xs us)]) ∧ n ≤ 4 ∧ n ≤ c ∧ c ≤ 9223372036854775807 ∧ Ints w' w.heap.size w'.heap.size A n (applyL xs us) ∧ Below w.heap.size w w'
theorem AnsR.of {xs : List Int} {us : List Upd} {w : World} {e : Ending} {w' : World} (hl : xs.length ≤ 4) (h : ApplyR xs us w e w') : AnsR xs us w e w' := by
  obtain ⟨t, v, h1, h2, rfl⟩ := h
  obtain ⟨A, c, rfl, hc, hm, hr⟩ := Rd.of_own h1
  exact ⟨A, _, c, rfl, Nat.le_trans (applyL_short' xs us) hl, hc, hm, ⟨rfl, hr⟩, h2⟩

theorem implAns_any (A1 A2 : Option Addr) (n1 c1 n2 c2 : Nat) (xs : List Int) (us : List Upd) (w : World) (lo hi lo' hi' : Nat) (hh : hi ≤ w.heap.size) (hh' : hi' ≤ w.heap.size) (hn1 : n1 ≤ 4) (hn2 : n2 ≤ 4)
    (hx : Ints w lo hi A1 n1 xs) (hu : Fl cu w lo' hi' A2 n2 us) :
    Calls Try.prog 18 #[.slice A1 n1 c1, .slice A2 n2 c2] w fun e w' => AnsR xs us w e w' :=
  (implApply_any A1 A2 n1 c1 n2 c2 xs us w lo hi lo' hi' hh hh' (by omega) (by omega) hx hu).mono fun _ _ h => AnsR.of (by rw [hx.1]; exact hn1) h
theorem specAns_any (A1 A2 : Option Addr) (n1 c1 n2 c2 : Nat) (xs : List Int) (us : List Upd) (w : World) (lo hi lo' hi' : Nat) (hh : hi ≤ w.heap.size) (hh' : hi' ≤ w.heap.size) (hn1 : n1 ≤ 4) (hn2 : n2 ≤ 4)
    (hx : Ints w lo hi A1 n1 xs) (hu : Fl cu w lo' hi' A2 n2 us) :
    Calls Try.prog 21 #[.slice A1 n1 c1, .slice A2 n2 c2] w fun e w' => AnsR xs us w e w' :=
  (specApply_any A1 A2 n1 c1 n2 c2 xs us w lo hi lo' hi' hh hh' (by omega) (by omega) hx hu).mono fun _ _ h => AnsR.of (by rw [hx.1]; exact hn1) h

end Go.Proofs.Ytfdcoeghomeadaa
