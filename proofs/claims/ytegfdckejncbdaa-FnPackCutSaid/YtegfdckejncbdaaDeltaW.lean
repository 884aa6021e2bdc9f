/-
  The walks of DeltaApply, of the program and of the reference, and of what they call: each returns strD and okD of the base and the operations. Condition: the slice's length fits an int64.
-/
import Derived.Test.YtegfdckejncbdaaDeltaP
import Derived.Test.YtegfdckejncbdaaIn
import Derived.Deep.QuietTactic
import Derived.BigQuiet
import Derived.Deep.DeepCutAuto
namespace Go.Proofs.Ytegfdckejncbdaa
set_option linter.unusedVariables false
set_option linter.unusedSimpArgs false
open Go.RowKit

theorem fl_op {w : World} {lo hi n k : Nat} {A : Option Addr} {xs : List OpD} (h : Fl co w lo hi A n xs) (hk : k < n) :
    ∃ (b o : Nat) (hl : k < xs.length), A = some ⟨b, o, none⟩ ∧ lo ≤ b ∧ b < hi ∧ w.cell? ⟨b, o + k * 3, none⟩ = some (.int .i64 xs[k].at_) ∧
      w.cell? ⟨b, o + k * 3 + 1, none⟩ = some (.int .i64 xs[k].size) ∧ w.cell? ⟨b, o + k * 3 + 2, none⟩ = some (.string xs[k].text) := by
  obtain ⟨b, o, hl, rfl, g1, g2, hc⟩ := h.at_ co_len (by omega) hk
  exact ⟨b, o, hl, rfl, g1, g2, hc 0 _ rfl, hc 1 _ rfl, hc 2 _ rfl⟩

set_option maxHeartbeats 400000 in
theorem part_any (base : ByteArray) (o : OpD) (w : World) (hb : base.size ≤ 8) :
    Calls Try.prog 57 #[.agg #[.int .i64 o.at_, .int .i64 o.size, .string o.text], .string base] w fun e w' =>
      ∃ s, (fitB base.size o = true → s = outB base o) ∧ Below w.heap.size w w' ∧ e = .returned (.tuple #[.string s, .bool (fitB base.size o)]) := by
  obtain ⟨at_, size, text⟩ := o
  have hbl : Below w.heap.size w (w.alloc (.cells #[.int .i64 at_, .int .i64 size, .string text] 87)) := (Below.refl _ _).alloc (Nat.le_refl _) _
  have HB := Lib.hid hbl
  clear hbl
  by_cases hs : size = 0
  · have hd : (size == 0) = true := by simp [hs]
    have hfit := Lib.hid (fitB_zero (n := base.size) (o := ⟨at_, size, text⟩) hs)
    have hout := Lib.hid (outB_zero (base := base) (o := ⟨at_, size, text⟩) hs)
    clear hs
    by_cases ha : at_ = 0
    · have hd2 : (at_ == 0) = true := by simp [ha]
      have ha' := Lib.hid ha
      clear ha
      go_enter Try.func57, Try.ntmps57
      go_wp2_with fail
      go_quiet ((go_at_call 40; first | exact quiet_left (inRange_any _ _ _ _) | exact quiet_add_left (inRange_any _ _ _ _)))
      go_wp2
      go_ret2
      exact ⟨_, fun _ => hout.out.symm, below_drewN HB.out _, ret_sb rfl (by rw [hfit.out]; simp [ha'.out])⟩
    · have hd2 : (at_ == 0) = false := by simp [ha]
      have ha' := Lib.hid ha
      clear ha
      go_enter Try.func57, Try.ntmps57
      go_wp2_with fail
      go_quiet (fail)
      go_wp2
      go_ret2
      exact ⟨_, fun _ => hout.out.symm, below_drewN HB.out _, ret_sb rfl (by rw [hfit.out]; simp [ha'.out])⟩
  · have hd : (size == 0) = false := by simp [hs]
    have hfit := Lib.hid (fitB_copy (n := base.size) (o := ⟨at_, size, text⟩) hs)
    have hout := Lib.hid (outB_copy (base := base) (o := ⟨at_, size, text⟩) hs)
    clear hs
    by_cases ht : text.size = 0
    · have ht1 : text.toList = [] := (bytes_nil text).2 ht
      rcases h1 : inR size 1 base.size with _ | _
      · go_enter Try.func57, Try.ntmps57
        go_wp2_with (go_at_call 40; refine (inRange_any _ _ _ _).mono ?_; rintro e w' ⟨rfl, rfl⟩)
        go_ret2
        exact ⟨_, fun h => (by rw [hfit.out, h1] at h; simp at h), HB.out, ret_sb rfl (by rw [hfit.out, h1]; simp)⟩
      · have hz := (inR_iff _ _ _).1 h1
        have hz1 := hz.1
        have hz2 := hz.2
        clear hz
        rcases h2 : inR at_ 0 ((base.size : Int) - size) with _ | _
        · go_enter Try.func57, Try.ntmps57
          go_wp2_with (go_at_call 40; refine (inRange_any _ _ _ _).mono ?_; rintro e w' ⟨rfl, rfl⟩)
          go_ret2
          exact ⟨_, fun h => (by rw [hfit.out, h2] at h; simp at h), HB.out, ret_sb rfl (by rw [hfit.out, h2]; simp)⟩
        · have hz := (inR_iff _ _ _).1 h2
          have hz3 := hz.1
          have hz4 := hz.2
          clear hz
          have ht2 := Lib.hid ht
          clear ht
          go_enter Try.func57, Try.ntmps57
          go_wp2_with (go_at_call 40; refine (inRange_any _ _ _ _).mono ?_; rintro e w' ⟨rfl, rfl⟩)
          go_ret2
          exact ⟨_, fun _ => hout.out.symm, HB.out, ret_sb rfl (by rw [hfit.out, h1, h2]; simp [ht2.out])⟩
    · have ht1 : ¬ text.toList = [] := fun h => ht ((bytes_nil text).1 h)
      go_enter Try.func57, Try.ntmps57
      go_wp2_with (go_at_call 40; refine (inRange_any _ _ _ _).mono ?_; rintro e w' ⟨rfl, rfl⟩)
      go_ret2
      exact ⟨_, fun h => (by rw [hfit.out] at h; simp [ht] at h), HB.out, ret_sb rfl (by rw [hfit.out]; simp [ht])⟩

theorem fitB_spec {n : Int} {o : OpD} (h : ¬ o.size = 0) : fitB n o = (decide (o.text.size = 0) && inR o.at_ 0 (n - 1) && inR o.size 1 (n - o.at_)) := by
  rw [fitB_copy h, Bool.and_assoc]
  congr 1
  rw [Bool.eq_iff_iff]
  simp only [Bool.and_eq_true, inR_iff]
  omega

set_option maxHeartbeats 400000 in
theorem l2Op_any (base : ByteArray) (o : OpD) (w : World) (hb : base.size ≤ 8) :
    Calls Try.prog 71 #[.string base, .agg #[.int .i64 o.at_, .int .i64 o.size, .string o.text]] w fun e w' =>
      Below w.heap.size w w' ∧ e = .returned (.bool (fitB base.size o)) := by
  obtain ⟨at_, size, text⟩ := o
  have hbl : Below w.heap.size w (w.alloc (.cells #[.int .i64 at_, .int .i64 size, .string text] 87)) := (Below.refl _ _).alloc (Nat.le_refl _) _
  have HB := Lib.hid hbl
  clear hbl
  by_cases hs : size = 0
  · have hd : (size == 0) = true := by simp [hs]
    have hfit := Lib.hid (fitB_zero (n := base.size) (o := ⟨at_, size, text⟩) hs)
    clear hs
    by_cases ha : at_ = 0
    · have hd2 : (at_ == 0) = true := by simp [ha]
      have ha' := Lib.hid ha
      clear ha
      go_enter Try.func71, Try.ntmps71
      go_wp2_with (go_at_call 59; refine (l6In_any _ _ _ _).mono ?_; rintro e w' ⟨rfl, rfl⟩)
      go_ret
      exact ⟨HB.out, ret_bool (by rw [hfit.out]; simp [ha'.out])⟩
    · have hd2 : (at_ == 0) = false := by simp [ha]
      have ha' := Lib.hid ha
      clear ha
      go_enter Try.func71, Try.ntmps71
      go_wp2_with (go_at_call 59; refine (l6In_any _ _ _ _).mono ?_; rintro e w' ⟨rfl, rfl⟩)
      go_ret
      exact ⟨HB.out, ret_bool (by rw [hfit.out]; simp [ha'.out])⟩
  · have hd : (size == 0) = false := by simp [hs]
    have hfit := Lib.hid (fitB_spec (n := base.size) (o := ⟨at_, size, text⟩) hs)
    clear hs
    by_cases ht : text.size = 0
    · have ht1 : text.toList = [] := (bytes_nil text).2 ht
      have ht2 := Lib.hid ht
      clear ht
      rcases h1 : inR at_ 0 ((base.size : Int) - 1) with _ | _
      · go_enter Try.func71, Try.ntmps71
        go_wp2_with (go_at_call 59; refine (l6In_any _ _ _ _).mono ?_; rintro e w' ⟨rfl, rfl⟩)
        go_ret
        exact ⟨HB.out, ret_bool (by rw [hfit.out, h1]; simp)⟩
      · have hz := (inR_iff _ _ _).1 h1
        have hz1 := hz.1
        have hz2 := hz.2
        clear hz
        go_enter Try.func71, Try.ntmps71
        go_wp2_with (go_at_call 59; refine (l6In_any _ _ _ _).mono ?_; rintro e w' ⟨rfl, rfl⟩)
        go_ret
        exact ⟨HB.out, ret_bool (by rw [hfit.out, h1]; simp [ht2.out])⟩
    · have ht1 : ¬ text.toList = [] := fun h => ht ((bytes_nil text).1 h)
      have ht2 := Lib.hid ht
      clear ht
      go_enter Try.func71, Try.ntmps71
      go_wp2_with (go_at_call 59; refine (l6In_any _ _ _ _).mono ?_; rintro e w' ⟨rfl, rfl⟩)
      go_ret
      exact ⟨HB.out, ret_bool (by rw [hfit.out]; simp [ht2.out])⟩

end Go.Proofs.Ytegfdckejncbdaa
