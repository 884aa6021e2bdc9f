/-
  The walks of the program's idsOk, Object.ok and of the reference's l1Ids, ObjectValid: whether links and objects are valid. Condition: lengths fit an int64.
-/
import Derived.Test.YtnaeglfochnikaaGreatZ1
import Derived.Test.YtnaeglfochnikaaGreatZ5
import Derived.BigQuiet
namespace Go.Proofs.YtnaeglfochnikaaGreat
set_option linter.unusedVariables false
set_option linter.unusedSimpArgs false
open Go.RowKit

set_option maxHeartbeats 400000 in
theorem isId_any (n : Int) (w : World) : Calls Tryz.prog 58 #[.int .i64 n] w fun e w' => e = .returned (.bool (inR n 0 990)) ∧ w = w' := by
  go_enter Tryz.func58, Tryz.ntmps58
  go_wp2_with (go_at_call 83; refine (inRange_any _ _ _ _).mono ?_; rintro e w' ⟨rfl, rfl⟩)
  go_ret
  exact ⟨rfl, rfl⟩
set_option maxHeartbeats 400000 in
theorem l1Id_any (n : Int) (w : World) : Calls Tryz.prog 96 #[.int .i64 n] w fun e w' => e = .returned (.bool (inR n 0 990)) ∧ w = w' := by
  go_enter Tryz.func96, Tryz.ntmps96
  go_wp2_with (go_at_call 113; refine (l6In_any _ _ _ _).mono ?_; rintro e w' ⟨rfl, rfl⟩)
  go_ret
  exact ⟨rfl, rfl⟩

theorem drewN_add (w : World) (a b : Nat) : (w.drewN a).drewN b = w.drewN (a + b) := by simp [World.drewN, Nat.add_assoc]
theorem getD_at {xs : List Int} {k : Nat} (h : k < xs.length) : xs.getD k 0 = xs[k] := by rw [List.getD_eq_getElem?_getD, List.getElem?_eq_getElem h]; rfl
theorem idAt_zero {xs : List Int} (h : 0 < xs.length) (h1 : inR xs[0] 0 990 = true) : idAt xs 0 = true := by unfold idAt; rw [getD_at h, h1]; rfl
theorem idAt_out {xs : List Int} {k : Nat} (h : k < xs.length) (h1 : inR xs[k] 0 990 = false) : idAt xs k = false := by unfold idAt; rw [getD_at h, h1]; rfl
theorem idAt_yes {xs : List Int} {k : Nat} (h : k < xs.length) (h' : k - 1 < xs.length) (h1 : inR xs[k] 0 990 = true) (h2 : xs[k - 1] < xs[k]) : idAt xs k = true := by
  unfold idAt; rw [getD_at h, getD_at h', h1, decide_eq_true h2]; simp
theorem idAt_no {xs : List Int} {k : Nat} (h : k < xs.length) (h' : k - 1 < xs.length) (hk : 0 < k) (h2 : ¬ xs[k - 1] < xs[k]) : idAt xs k = false := by
  unfold idAt; rw [getD_at h, getD_at h', decide_eq_false h2, decide_eq_false (by omega : ¬ k = 0)]; simp
theorem idsB_no {xs : List Int} {k : Nat} (h : k < xs.length) (h1 : idAt xs k = false) : idsB xs = false := allTo_no h h1
theorem linksB_no {xs : List Int} (h : idsB xs = false) : linksB xs = false := by unfold linksB; rw [h]; rfl

set_option maxHeartbeats 1600000 in
theorem idsOk_any (A : Option Addr) (n c : Nat) (xs : List Int) (w : World) (lo hi : Nat) (hn : n ≤ 9223372036854775807) (h : Ints w lo hi A n xs) :
    Calls Tryz.prog 42 #[.slice A n c] w fun e w' => e = .returned (.bool (linksB xs)) ∧ w = w' := by
  have HI := Lib.hid h
  have HL := Lib.hid h.1
  clear h
  go_enter Tryz.func42, Tryz.ntmps42
  go_wp2_with fail
  go_loop [7] (fun i => ∃ k : Nat, k ≤ n ∧ i = .int .i64 k ∧ Hid (allTo (idAt xs) k = true)) (fun i => n - (intOf i).toNat)
  case atStart => exact ⟨0, Nat.zero_le _, rfl, rfl⟩
  case round =>
    obtain ⟨k, hk, rfl, HT⟩ := hrel
    by_cases hlt : k < n
    · obtain ⟨b, o, hl, rfl, _, _, hc⟩ := HI.out.int hlt
      rcases hv : inR xs[k] 0 990 with _ | _
      · have hno := Lib.hid (linksB_no (idsB_no hl (idAt_out hl hv)))
        go_wp2_with (go_at_call 58; refine (isId_any _ _).mono ?_; rintro e w' ⟨rfl, rfl⟩)
        go_ret
        exact ⟨ret_bool hno.out.symm, rfl⟩
      · by_cases hk0 : k = 0
        · subst hk0
          rw [Nat.add_zero] at hc
          have HT2 : Hid (allTo (idAt xs) 1 = true) := allTo_succ HT.out (idAt_zero hl hv)
          go_wp2_with (go_at_call 58; refine (isId_any _ _).mono ?_; rintro e w' ⟨rfl, rfl⟩)
          go_round
          case rel => exact ⟨1, by omega, by go_num, HT2⟩
          case measure => simp [intOf]; omega
        · have hd : decide ((0 : Int) < (k : Int)) = true := by simp; omega
          have hkp : 0 < k := by omega
          obtain ⟨b', o', hl', he, _, _, hc'⟩ := HI.out.int (k := k - 1) (by omega)
          injection he with he
          injection he with he1 he2
          subst he1 he2
          clear hk0
          by_cases hlt2 : xs[k - 1] < xs[k]
          · have HT2 : Hid (allTo (idAt xs) (k + 1) = true) := allTo_succ HT.out (idAt_yes hl hl' hv hlt2)
            go_wp2_with (go_at_call 58; refine (isId_any _ _).mono ?_; rintro e w' ⟨rfl, rfl⟩)
            go_round
            case rel => exact ⟨k + 1, by omega, by go_num, HT2⟩
            case measure => simp [intOf]; omega
          · have hno := Lib.hid (linksB_no (idsB_no hl (idAt_no hl hl' hkp hlt2)))
            have hge : xs[k] ≤ xs[k - 1] := by omega
            clear hlt2
            go_wp2_with (go_at_call 58; refine (isId_any _ _).mono ?_; rintro e w' ⟨rfl, rfl⟩)
            go_ret
            exact ⟨ret_bool hno.out.symm, rfl⟩
    · have hkn : k = n := by omega
      subst hkn
      have HY : Hid (idsB xs = true) := by show allTo _ _ = _; rw [HL.out]; exact HT.out
      go_wp2_with fail
      go_ret
      exact ⟨ret_bool (by unfold linksB; rw [HY.out, HL.out, Bool.true_and]; first | rfl | (congr 1; exact propext (by omega)) | (simp; omega)), rfl⟩

set_option maxHeartbeats 1600000 in
theorem l1Ids_any (A : Option Addr) (n c : Nat) (xs : List Int) (w : World) (lo hi : Nat) (hn : n ≤ 9223372036854775807) (h : Ints w lo hi A n xs) :
    Calls Tryz.prog 79 #[.slice A n c] w fun e w' => e = .returned (.bool (idsB xs)) ∧ ∃ m, w' = w.drewN m := by
  have HI := Lib.hid h
  have HL := Lib.hid h.1
  clear h
  go_enter Tryz.func79, Tryz.ntmps79
  go_wp2_with fail
  go_loopw [3] (fun i wr => ∃ k : Nat, k ≤ n ∧ i = .int .i64 k ∧ Hid (allTo (idAt xs) k = true) ∧ ∃ m, wr = w.drewN m) (fun i _ => n - (intOf i).toNat)
  case atStart => exact ⟨0, Nat.zero_le _, rfl, rfl, 0, rfl⟩
  case round =>
    obtain ⟨k, hk, rfl, HT, m, rfl⟩ := hrel
    by_cases hlt : k < n
    · obtain ⟨b, o, hl, rfl, _, _, hc⟩ := HI.out.int hlt
      rcases hv : inR xs[k] 0 990 with _ | _
      · have hno := Lib.hid (idsB_no hl (idAt_out hl hv))
        go_wp2_with fail
        go_quiet ((go_at_call 96; first | exact quiet_left (l1Id_any _ _) | exact quiet_add_left (l1Id_any _ _)))
        go_wp2_with fail
        go_ret
        exact ⟨ret_bool hno.out.symm, m + nq, by first | rfl | exact drewN_add _ _ _⟩
      · by_cases hk0 : k = 0
        · subst hk0
          rw [Nat.add_zero] at hc
          have HT2 : Hid (allTo (idAt xs) 1 = true) := allTo_succ HT.out (idAt_zero hl hv)
          go_wp2_with fail
          go_quiet ((go_at_call 96; first | exact quiet_left (l1Id_any _ _) | exact quiet_add_left (l1Id_any _ _)))
          go_wp2_with fail
          go_roundw
          case rel => exact ⟨1, by omega, by go_num, HT2, m + nq, rfl⟩
          case measure => simp [intOf]; omega
        · have hd : decide ((0 : Int) < (k : Int)) = true := by simp; omega
          have hkp : 0 < k := by omega
          obtain ⟨b', o', hl', he, _, _, hc'⟩ := HI.out.int (k := k - 1) (by omega)
          injection he with he
          injection he with he1 he2
          subst he1 he2
          clear hk0
          have hw1 : IntKind.i64.wrap ((k : Int) - 1) = (k : Int) - 1 := IntWalk.i64_in _ (by omega)
          have hd3 : (0 : Int) ≤ (k : Int) - 1 := by omega
          have hd4 : ((k : Int) - 1).toNat = k - 1 := by omega
          by_cases hlt2 : xs[k - 1] < xs[k]
          · have HT2 : Hid (allTo (idAt xs) (k + 1) = true) := allTo_succ HT.out (idAt_yes hl hl' hv hlt2)
            go_wp2_with fail
            go_quiet ((go_at_call 96; first | exact quiet_left (l1Id_any _ _) | exact quiet_add_left (l1Id_any _ _)))
            go_wp2_with fail
            go_roundw
            case rel => exact ⟨k + 1, by omega, by go_num, HT2, m + nq, rfl⟩
            case measure => simp [intOf]; omega
          · have hno := Lib.hid (idsB_no hl (idAt_no hl hl' hkp hlt2))
            have hge : xs[k] ≤ xs[k - 1] := by omega
            clear hlt2
            go_wp2_with fail
            go_quiet ((go_at_call 96; first | exact quiet_left (l1Id_any _ _) | exact quiet_add_left (l1Id_any _ _)))
            go_wp2_with fail
            go_ret
            exact ⟨ret_bool hno.out.symm, m + nq, by first | rfl | exact drewN_add _ _ _⟩
    · have hkn : k = n := by omega
      subst hkn
      have HY : Hid (idsB xs = true) := by show allTo _ _ = _; rw [HL.out]; exact HT.out
      go_wp2_with fail
      go_ret
      exact ⟨ret_bool HY.out.symm, m, rfl⟩

end Go.Proofs.YtnaeglfochnikaaGreat
