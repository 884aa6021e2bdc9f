/-
  The walks of the reference's l1Has, l22Txn and CoordinatorValid: whether a number is in a row, whether transactions and coordinators are valid. Condition: lengths fit an int64.
-/
import Derived.Test.YtgbkjfhmbchiiaaCoordS
import Derived.Test.YtgbkjfhmbchiiaaCoordL
import Derived.Test.YtgbkjfhmbchiiaaTCoord
import Derived.Test.YtgbkjfhmbchiiaaTxnI
namespace Go.Proofs.Ytgbkjfhmbchiiaa
set_option linter.unusedVariables false
set_option linter.unusedSimpArgs false
open Go.RowKit

set_option maxHeartbeats 400000 in
theorem l1Has_any (A : Option Addr) (n c : Nat) (xs : List Int) (x : Int) (w : World) (lo hi : Nat) (hn : n ≤ 9223372036854775807) (h : Ints w lo hi A n xs) :
    Calls Try.prog 30 #[.slice A n c, .int .i64 x] w fun e w' => e = .returned (.bool (hasB x xs)) ∧ w = w' := by
  have HI := Lib.hid h
  clear h
  go_enter Try.func30, Try.ntmps30
  go_wp2_with fail
  go_loop [5] (fun i => ∃ k : Nat, k ≤ n ∧ i = .int .i64 k ∧ Hid (x ∉ xs.take k)) (fun i => n - (intOf i).toNat)
  case atStart => exact ⟨0, Nat.zero_le _, rfl, by show _ ∉ _; simp⟩
  case round =>
    obtain ⟨k, hk, rfl, HX⟩ := hrel
    by_cases hlt : k < n
    · obtain ⟨b, o, hl, rfl, _, _, hc⟩ := HI.out.int hlt
      by_cases he : xs[k] = x
      · have HY := Lib.hid (hasB_at hl he)
        rw [he] at hc
        clear he
        go_wp2_with fail
        go_ret
        exact ⟨ret_bool HY.out.symm, rfl⟩
      · have hd : (xs[k] == x) = false := by simpa using he
        have HY := Lib.hid (take_mem_succ hl HX.out he)
        clear he
        go_wp2_with fail
        go_round
        case rel => exact ⟨k + 1, by omega, by go_num, HY.out⟩
        case measure => simp [intOf]; omega
    · have hkn : k = n := by omega
      subst hkn
      have HY := Lib.hid (hasB_none HI.out.1 HX.out)
      go_wp2_with fail
      go_ret
      exact ⟨ret_bool HY.out.symm, rfl⟩

theorem cnt1_eq {votes : List Int} {k : Nat} (h : k < votes.length) {v : Int} (e : votes[k] = v) : cnt1 v (votes.take (k + 1)) = cnt1 v (votes.take k) + 1 := by rw [cnt1_snoc h, if_pos e.symm]
theorem cnt1_ne {votes : List Int} {k : Nat} (h : k < votes.length) {v : Int} (e : ¬ votes[k] = v) : cnt1 v (votes.take (k + 1)) = cnt1 v (votes.take k) := by rw [cnt1_snoc h, if_neg (fun x => e x.symm)]
theorem all_snoc {votes : List Int} {k : Nat} (h : k < votes.length) (ha : (votes.take k).all voteB = true) (hv : voteB votes[k] = true) : (votes.take (k + 1)).all voteB = true := by
  rw [List.take_succ_eq_append_getElem h, List.all_append, ha]; simp [hv]
theorem all_bad {votes : List Int} {k : Nat} (h : k < votes.length) (hv : voteB votes[k] = false) : votes.all voteB = false := by
  rw [← Bool.not_eq_true, List.all_eq_true]
  intro hh
  rw [hh _ (List.getElem_mem h)] at hv; cases hv
theorem txn_novote {parts : List PartD} {votes : List Int} {dec : Int} (h : votes.all voteB = false) : txnB ⟨parts, votes, dec⟩ = false := by
  unfold txnB; show (_ && votes.all voteB && _) = false; rw [h]; simp
theorem txn_nopart {parts : List PartD} {votes : List Int} {dec : Int} (h : partsB parts = false) : txnB ⟨parts, votes, dec⟩ = false := by unfold txnB; rw [h]; rfl
theorem txn_nolen {parts : List PartD} {votes : List Int} {dec : Int} (h : ¬ votes.length = parts.length) : txnB ⟨parts, votes, dec⟩ = false := by
  unfold txnB; show (_ && decide (votes.length = parts.length) && _ && _) = false; rw [decide_eq_false h]; simp
theorem txn_dec {parts : List PartD} {votes : List Int} {dec : Int} (h1 : partsB parts = true) (h2 : votes.length = parts.length) (h3 : votes.all voteB = true) : txnB ⟨parts, votes, dec⟩ = decB dec votes := by
  unfold txnB; show (partsB parts && decide (votes.length = parts.length) && votes.all voteB && decB dec votes) = _; rw [h1, decide_eq_true h2, h3]; simp

set_option maxHeartbeats 3200000 in
set_option maxRecDepth 100000 in
theorem l22Txn_any (parts : List PartD) (votes : List Int) (dec : Int) (A0 : Option Addr) (n0 c0 : Nat) (A1 : Option Addr) (n1 c1 : Nat) (w : World) (lo hi : Nat) (hh : hi ≤ w.heap.size) (hr0 : D.rd w lo hi (dParts parts) (.slice A0 n0 c0)) (hr1 : D.rd w lo hi (intsD votes) (.slice A1 n1 c1)) :
    Calls Try.prog 29 #[.agg #[.slice A0 n0 c0, .slice A1 n1 c1, .int .i64 dec]] w fun e w' => e = .returned (.bool (txnB ⟨parts, votes, dec⟩)) ∧ Below w.heap.size w w' := by
  have HB0 : Hid (Below w.heap.size w (w.alloc (.cells #[.slice A0 n0 c0, .slice A1 n1 c1, .int .i64 dec] 46))) := (Below.refl _ _).alloc (Nat.le_refl _) _
  have HX0 : Hid ((w.alloc (.cells #[.slice A0 n0 c0, .slice A1 n1 c1, .int .i64 dec] 46)).heap[w.heap.size]? = some (.cells #[.slice A0 n0 c0, .slice A1 n1 c1, .int .i64 dec] 46 (0, 0))) := Lib.hid (heap_alloc_new w _)
  have HP := Lib.hid (hr0.alloc hh (.cells #[.slice A0 n0 c0, .slice A1 n1 c1, .int .i64 dec] 46))
  have HV : Hid (Ints (w.alloc (.cells #[.slice A0 n0 c0, .slice A1 n1 c1, .int .i64 dec] 46)) lo hi A1 n1 votes) := hr1.ints.alloc hh _
  have HN0 := Lib.hid hr0.len.1
  have HN1 := Lib.hid hr1.len.1
  have hn63 : n1 ≤ 9223372036854775807 := by have := hr1.len; omega
  clear hr0 hr1
  go_enter Try.func29, Try.ntmps29
  go_wp2_with fail
  go_loop [3, 4, 5] (fun y q i => ∃ k a b : Nat, k ≤ n1 ∧ a ≤ k ∧ b ≤ k ∧ i = .int .i64 k ∧ y = .int .i64 a ∧ q = .int .i64 b ∧ Hid (a = cnt1 1 (votes.take k)) ∧ Hid (b = cnt1 (-1) (votes.take k)) ∧ Hid ((votes.take k).all voteB = true)) (fun _ _ i => n1 - (intOf i).toNat)
  case atStart => exact ⟨0, 0, 0, Nat.zero_le _, Nat.zero_le _, Nat.zero_le _, rfl, rfl, rfl, rfl, rfl, rfl⟩
  case round =>
    obtain ⟨k, a, b, hk, ha, hb, rfl, rfl, rfl, HA, HBB, HT⟩ := hrel
    by_cases hlt : k < n1
    · obtain ⟨bb, o, hl, rfl, _, _, hc⟩ := HV.out.int hlt
      rcases hv : voteB votes[k] with _ | _
      · have hno := Lib.hid (txn_novote (parts := parts) (dec := dec) (all_bad hl hv))
        have hv' : inR votes[k] (-1) 1 = false := hv
        clear hv
        go_wp2_with (go_at_call 41; refine (l6In_any _ _ _ _).mono ?_; rintro e w' ⟨rfl, rfl⟩)
        go_ret
        exact ⟨ret_bool hno.out.symm, HB0.out⟩
      · have HT2 := Lib.hid (all_snoc hl HT.out hv)
        have hv' : inR votes[k] (-1) 1 = true := hv
        clear hv
        have h3 := (inR_iff _ _ _).1 hv'
        by_cases e1 : votes[k] = 1
        · have HA2 := Lib.hid (cnt1_eq hl e1)
          have HB2 := Lib.hid (cnt1_ne hl (v := -1) (by rw [e1]; decide))
          rw [e1] at hc hv'
          clear h3 e1
          go_wp2_with (go_at_call 41; refine (l6In_any _ _ _ _).mono ?_; rintro e w' ⟨rfl, rfl⟩)
          go_round
          case rel => exact ⟨k + 1, a + 1, b, by omega, by omega, by omega, by go_num, by go_num, rfl, by show _ = _; rw [HA2.out, HA.out], by show _ = _; rw [HB2.out, HBB.out], HT2.out⟩
          case measure => simp [intOf]; omega
        · by_cases e2 : votes[k] = -1
          · have HA2 := Lib.hid (cnt1_ne hl e1)
            have HB2 := Lib.hid (cnt1_eq hl e2)
            rw [e2] at hc hv'
            clear h3 e1 e2
            go_wp2_with (go_at_call 41; refine (l6In_any _ _ _ _).mono ?_; rintro e w' ⟨rfl, rfl⟩)
            go_round
            case rel => exact ⟨k + 1, a, b + 1, by omega, by omega, by omega, by go_num, rfl, by go_num, by show _ = _; rw [HA2.out, HA.out], by show _ = _; rw [HB2.out, HBB.out], HT2.out⟩
            case measure => simp [intOf]; omega
          · have e3 : votes[k] = 0 := by omega
            have HA2 := Lib.hid (cnt1_ne hl e1)
            have HB2 := Lib.hid (cnt1_ne hl e2)
            rw [e3] at hc hv'
            clear h3 e1 e2 e3
            go_wp2_with (go_at_call 41; refine (l6In_any _ _ _ _).mono ?_; rintro e w' ⟨rfl, rfl⟩)
            go_round
            case rel => exact ⟨k + 1, a, b, by omega, by omega, by omega, by go_num, rfl, rfl, by show _ = _; rw [HA2.out, HA.out], by show _ = _; rw [HB2.out, HBB.out], HT2.out⟩
            case measure => simp [intOf]; omega
    · have hkn : k = n1 := by omega
      subst hkn
      have htk : votes.take k = votes := List.take_of_length_le (by have := HV.out.1; omega)
      rw [htk] at HA HBB HT
      clear htk
      rcases hp : partsB parts with _ | _
      · have hno := Lib.hid (txn_nopart (votes := votes) (dec := dec) hp)
        go_wp2_with fail
        refine (l22Parts_any parts A0 n0 c0 _ lo hi (by simp; omega) HP.out).mono ?_
        rintro e w1 ⟨rfl, hb1⟩
        have HB1 := Lib.hid (bel_tr HB0.out (Nat.le_refl _) hb1)
        clear hb1
        rw [hp]
        go_wp2_with fail
        go_ret
        exact ⟨ret_bool hno.out.symm, HB1.out⟩
      · go_wp2_with fail
        refine (l22Parts_any parts A0 n0 c0 _ lo hi (by simp; omega) HP.out).mono ?_
        rintro e w1 ⟨rfl, hb1⟩
        have HB1 := Lib.hid (bel_tr HB0.out (Nat.le_refl _) hb1)
        have HX1 := Lib.hid ((hb1.block _ (by simp)).trans HX0.out)
        have b0 := cell_of_row w1 w.heap.size 0 _ _ _ HX1.out
        have b1 := cell_of_row w1 w.heap.size 1 _ _ _ HX1.out
        have b2 := cell_of_row w1 w.heap.size 2 _ _ _ HX1.out
        clear hb1
        rw [hp]
        by_cases hl : k = n0
        · subst hl
          have HD := Lib.hid (txn_dec (dec := dec) hp (HN1.out.symm.trans HN0.out) HT.out)
          have HL := HV.out.1
          clear hp
          by_cases d0 : dec = 0
          · subst d0
            by_cases hb0 : b = 0
            · subst hb0
              go_wp2_with fail
              go_ret
              refine ⟨ret_bool ?_, HB1.out⟩
              rw [HD.out]; unfold decB
              rw [if_neg (by decide), if_neg (by decide), if_pos rfl, ← HA.out, ← HBB.out, HL]; simp
            · have q0 : (((b : Nat) : Int) == 0) = false := by simpa using hb0
              go_wp2_with fail
              go_ret
              refine ⟨ret_bool ?_, HB1.out⟩
              rw [HD.out]; unfold decB
              rw [if_neg (by decide), if_neg (by decide), if_pos rfl, ← HBB.out, decide_eq_false hb0]; rfl
          · by_cases d2 : dec = 2
            · subst d2
              clear d0
              go_wp2_with fail
              go_ret
              refine ⟨ret_bool ?_, HB1.out⟩
              rw [HD.out]; unfold decB
              rw [if_pos rfl, ← HA.out, HL, Bool.eq_iff_iff]; simp; omega
            · by_cases d3 : dec = 3
              · subst d3
                clear d0 d2
                go_wp2_with fail
                go_ret
                refine ⟨ret_bool ?_, HB1.out⟩
                rw [HD.out]; unfold decB
                rw [if_neg (by decide), if_pos rfl, ← HA.out, HL]
              · have q0 : (dec == 0) = false := by simpa using d0
                have q2 : (dec == 2) = false := by simpa using d2
                have q3 : (dec == 3) = false := by simpa using d3
                have HF : Hid (decB dec votes = false) := by show _ = _; unfold decB; rw [if_neg d2, if_neg d3, if_neg d0]
                clear d0 d2 d3
                go_wp2_with fail
                go_ret
                exact ⟨ret_bool (by rw [HD.out]; exact HF.out.symm), HB1.out⟩
        · have hno := Lib.hid (txn_nolen (dec := dec) (parts := parts) (votes := votes) (by have h1 := HN0.out; have h2 := HN1.out; omega))
          have hq : (!((k : Int) == (n0 : Int))) = true := by simp; omega
          go_wp2_with fail
          go_ret
          exact ⟨ret_bool hno.out.symm, HB1.out⟩

end Go.Proofs.Ytgbkjfhmbchiiaa
