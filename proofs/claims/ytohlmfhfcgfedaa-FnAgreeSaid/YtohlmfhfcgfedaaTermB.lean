/-
  The walks of TermAgree and TermDecide: each returns agreeB, decideI of the list that its slice reads as; nothing is written. No condition.
-/
import Derived.Test.YtohlmfhfcgfedaaTermA
namespace Go.Proofs.Ytohlmfhfcgfedaa
open Go.RowKit

set_option maxHeartbeats 400000 in
theorem l23Has_any (A : Option Addr) (n c : Nat) (xs : List Int) (x : Int) (w : World) (lo hi : Nat) (hn : n ≤ 9223372036854775807) (h : Ints w lo hi A n xs) :
    Calls Try.prog 36 #[.slice A n c, .int .i64 x] w fun e w' => e = .returned (.bool (hasB x xs)) ∧ w = w' := by
  have HI := Lib.hid h
  clear h
  go_enter Try.func36, Try.ntmps36
  go_wp2_with (go_at_call 55; refine (l1Has_any _ _ _ xs _ _ lo hi hn HI.out).mono ?_; rintro e w' ⟨rfl, rfl⟩)
  go_ret
  exact ⟨rfl, rfl⟩

set_option maxHeartbeats 400000 in
theorem l23States_any (A : Option Addr) (n c : Nat) (xs : List Int) (w : World) (lo hi : Nat) (hn : n ≤ 9223372036854775807) (h : Ints w lo hi A n xs) :
    Calls Try.prog 35 #[.slice A n c] w fun e w' => e = .returned (.bool (!anyOut xs && inR n 1 3)) ∧ w = w' := by
  have HI := Lib.hid h
  clear h
  go_enter Try.func35, Try.ntmps35
  go_wp2
  go_loop [3] (fun i => ∃ k : Nat, k ≤ n ∧ i = .int .i64 k ∧ anyOut (xs.take k) = false) (fun i => n - (intOf i).toNat)
  case atStart => exact ⟨0, Nat.zero_le _, rfl, rfl⟩
  case round =>
    obtain ⟨k, hk, rfl, hx⟩ := hrel
    have HX := Lib.hid hx
    clear hx
    by_cases hlt : k < n
    · obtain ⟨b, o, hl, rfl, _, _, hc⟩ := HI.out.int hlt
      rcases hv : inR xs[k] 0 3 with _ | _
      · have HV := Lib.hid hv
        go_wp2_with (go_at_call 54; refine (l6In_any _ _ _ _).mono ?_; rintro e w' ⟨rfl, rfl⟩)
        go_ret
        exact ⟨ret_bool (by rw [anyOut_at hl HV.out]; rfl), rfl⟩
      · have hx' := anyOut_take_succ hl HX.out hv
        have HX' := Lib.hid hx'
        clear hx'
        go_wp2_with (go_at_call 54; refine (l6In_any _ _ _ _).mono ?_; rintro e w' ⟨rfl, rfl⟩)
        exact ⟨⟨k + 1, by omega, by go_num, HX'.out⟩, by simp [intOf]; omega⟩
    · have hkn : k = n := by omega
      subst hkn
      go_wp2_with (go_at_call 54; refine (l6In_any _ _ _ _).mono ?_; rintro e w' ⟨rfl, rfl⟩)
      go_ret
      exact ⟨ret_bool (by rw [anyOut_all HI.out.1 HX.out]; rfl), rfl⟩

theorem agreeB_eq {xs : List Int} {n : Nat} (hl : xs.length = n) : agreeB xs = (inR n 1 3 && !anyOut xs && (!hasB 2 xs || (!hasB 3 xs && !hasB 0 xs))) := by
  unfold agreeB; rw [hl]

set_option maxHeartbeats 400000 in
theorem specAgree_any (A : Option Addr) (n c : Nat) (xs : List Int) (w : World) (lo hi : Nat) (hn : n ≤ 9223372036854775807) (h : Ints w lo hi A n xs) :
    Calls Try.prog 15 #[.slice A n c] w fun e w' => e = .returned (.bool (agreeB xs)) ∧ w = w' := by
  have HI := Lib.hid h
  have HE := Lib.hid (agreeB_eq h.1)
  clear h
  rcases h1 : (!anyOut xs && inR n 1 3) with _ | _
  · go_enter Try.func15, Try.ntmps15
    go_wp2_with (go_at_call 35; refine (l23States_any _ _ _ xs _ lo hi hn HI.out).mono ?_; rintro e w' ⟨rfl, rfl⟩)
    go_ret
    exact ⟨ret_bool (by rw [HE.out, Bool.and_comm (inR _ _ _), h1]; rfl), rfl⟩
  · rcases h2 : hasB 2 xs with _ | _ <;> rcases h3 : hasB 3 xs with _ | _ <;> rcases h0 : hasB 0 xs with _ | _
    all_goals
      go_enter Try.func15, Try.ntmps15
      go_wp2_with (first | (go_at_call 35; refine (l23States_any _ _ _ xs _ lo hi hn HI.out).mono ?_; rintro e w' ⟨rfl, rfl⟩) | (go_at_call 36; refine (l23Has_any _ _ _ xs _ _ lo hi hn HI.out).mono ?_; rintro e w' ⟨rfl, rfl⟩))
      go_ret
      exact ⟨ret_bool (by rw [HE.out, Bool.and_comm (inR _ _ _), h1, h2]; first | rfl | (rw [h3, h0]; rfl)), rfl⟩

set_option maxHeartbeats 400000 in
theorem implAgree_any (A : Option Addr) (n c : Nat) (xs : List Int) (w : World) (lo hi : Nat) (hn : n ≤ 9223372036854775807) (h : Ints w lo hi A n xs) :
    Calls Try.prog 17 #[.slice A n c] w fun e w' => e = .returned (.bool (agreeB xs)) ∧ w = w' := by
  have HI := Lib.hid h
  have HE := Lib.hid (agreeB_eq h.1)
  clear h
  have hmf : ∀ (fn : Fn) (first cap : Array Value) (w : World), (Instr.makeFunc fn first cap).run Try.prog w = .ok (.func fn first cap) w := fun _ _ _ _ => rfl
  rcases h1 : inR n 1 3 with _ | _
  · go_enter Try.func17, Try.ntmps17
    go_wp2_with (go_at_call 37; refine (inRange_any _ _ _ _).mono ?_; rintro e w' ⟨rfl, rfl⟩)
    go_ret
    exact ⟨ret_bool (by rw [HE.out, h1]; rfl), rfl⟩
  · rcases h4 : anyOut xs with _ | _
    · rcases h2 : hasB 2 xs with _ | _ <;> rcases h3 : hasB 3 xs with _ | _ <;> rcases h0 : hasB 0 xs with _ | _
      all_goals
        go_enter Try.func17, Try.ntmps17
        go_wp2_with (first | (go_at_call 37; refine (inRange_any _ _ _ _).mono ?_; rintro e w' ⟨rfl, rfl⟩) | (go_at_call 38; refine (containsFT_any _ _ _ xs _ lo hi hn HI.out).mono ?_; rintro e w' ⟨rfl, rfl⟩) | (go_at_call 40; refine (contains_any _ _ _ xs _ _ lo hi hn HI.out).mono ?_; rintro e w' ⟨rfl, rfl⟩))
        go_ret
        exact ⟨ret_bool (by rw [HE.out, h1, h4, h2]; first | rfl | (rw [h3, h0]; rfl)), rfl⟩
    · go_enter Try.func17, Try.ntmps17
      go_wp2_with (first | (go_at_call 37; refine (inRange_any _ _ _ _).mono ?_; rintro e w' ⟨rfl, rfl⟩) | (go_at_call 38; refine (containsFT_any _ _ _ xs _ lo hi hn HI.out).mono ?_; rintro e w' ⟨rfl, rfl⟩))
      go_ret
      exact ⟨ret_bool (by rw [HE.out, h1, h4]; rfl), rfl⟩

/-- what TermDecide answers where the states agree -/
def pickI (xs : List Int) : Int := if hasB 2 xs = true then 2 else if hasB 3 xs = true ∨ hasB 0 xs = true then 3 else 0
theorem decideI_no {xs : List Int} (h : agreeB xs = false) : decideI xs = 0 := by
  unfold decideI; rw [h]; rfl
theorem decideI_yes {xs : List Int} (h : agreeB xs = true) : decideI xs = pickI xs := by
  unfold decideI; rw [if_pos h]; rfl
theorem pickI_eq {xs : List Int} {a b c : Bool} (h2 : hasB 2 xs = a) (h3 : hasB 3 xs = b) (h0 : hasB 0 xs = c) : pickI xs = if a = true then 2 else if b = true ∨ c = true then 3 else 0 := by
  unfold pickI; rw [h2, h3, h0]

set_option maxHeartbeats 400000 in
theorem l23Decide_any (A : Option Addr) (n c : Nat) (xs : List Int) (w : World) (lo hi : Nat) (hn : n ≤ 9223372036854775807) (h : Ints w lo hi A n xs) :
    Calls Try.prog 41 #[.slice A n c] w fun e w' => e = .returned (.int .i64 (pickI xs)) ∧ w = w' := by
  have HI := Lib.hid h
  clear h
  rcases h2 : hasB 2 xs with _ | _ <;> rcases h3 : hasB 3 xs with _ | _ <;> rcases h0 : hasB 0 xs with _ | _
  all_goals
    have HE := Lib.hid (pickI_eq h2 h3 h0)
    go_enter Try.func41, Try.ntmps41
    go_wp2_with (go_at_call 36; refine (l23Has_any _ _ _ xs _ _ lo hi hn HI.out).mono ?_; rintro e w' ⟨rfl, rfl⟩)
    go_ret
    exact ⟨ret_int (by rw [HE.out]; rfl), rfl⟩

set_option maxHeartbeats 400000 in
theorem specDecide_any (A : Option Addr) (n c : Nat) (xs : List Int) (w : World) (lo hi : Nat) (hn : n ≤ 9223372036854775807) (h : Ints w lo hi A n xs) :
    Calls Try.prog 19 #[.slice A n c] w fun e w' => e = .returned (.int .i64 (decideI xs)) ∧ w = w' := by
  have HI := Lib.hid h
  clear h
  rcases h1 : agreeB xs with _ | _
  · have HE := Lib.hid (decideI_no h1)
    go_enter Try.func19, Try.ntmps19
    go_wp2_with (go_at_call 15; refine (specAgree_any _ _ _ xs _ lo hi hn HI.out).mono ?_; rintro e w' ⟨rfl, rfl⟩)
    go_ret
    exact ⟨ret_int HE.out.symm, rfl⟩
  · have HE := Lib.hid (decideI_yes h1)
    go_enter Try.func19, Try.ntmps19
    go_wp2_with (first | (go_at_call 15; refine (specAgree_any _ _ _ xs _ lo hi hn HI.out).mono ?_; rintro e w' ⟨rfl, rfl⟩) | (go_at_call 41; refine (l23Decide_any _ _ _ xs _ lo hi hn HI.out).mono ?_; rintro e w' ⟨rfl, rfl⟩))
    go_ret
    exact ⟨ret_int HE.out.symm, rfl⟩

set_option maxHeartbeats 400000 in
theorem implDecide_any (A : Option Addr) (n c : Nat) (xs : List Int) (w : World) (lo hi : Nat) (hn : n ≤ 9223372036854775807) (h : Ints w lo hi A n xs) :
    Calls Try.prog 20 #[.slice A n c] w fun e w' => e = .returned (.int .i64 (decideI xs)) ∧ w = w' := by
  have HI := Lib.hid h
  clear h
  rcases h1 : agreeB xs with _ | _
  · have HE := Lib.hid (decideI_no h1)
    go_enter Try.func20, Try.ntmps20
    go_wp2_with (go_at_call 17; refine (implAgree_any _ _ _ xs _ lo hi hn HI.out).mono ?_; rintro e w' ⟨rfl, rfl⟩)
    go_ret
    exact ⟨ret_int HE.out.symm, rfl⟩
  · rcases h2 : hasB 2 xs with _ | _ <;> rcases h3 : hasB 3 xs with _ | _ <;> rcases h0 : hasB 0 xs with _ | _
    all_goals
      have HE := Lib.hid ((decideI_yes h1).trans (pickI_eq h2 h3 h0))
      go_enter Try.func20, Try.ntmps20
      go_wp2_with (first | (go_at_call 17; refine (implAgree_any _ _ _ xs _ lo hi hn HI.out).mono ?_; rintro e w' ⟨rfl, rfl⟩) | (go_at_call 40; refine (contains_any _ _ _ xs _ _ lo hi hn HI.out).mono ?_; rintro e w' ⟨rfl, rfl⟩))
      go_ret
      exact ⟨ret_int (by rw [HE.out]; rfl), rfl⟩

end Go.Proofs.Ytohlmfhfcgfedaa
