/-
  The walks of the reference's l3Depth, l3Bases and PackObjects. Condition: lengths are small.
-/
import Derived.Test.YtnaeglfochnikaaGreatPackK9
import Derived.Test.YtnaeglfochnikaaGreatZ6
namespace Go.Proofs.YtnaeglfochnikaaGreat
set_option linter.unusedVariables false
set_option linter.unusedSimpArgs false
open Go.RowKit

set_option maxHeartbeats 1600000 in
set_option maxRecDepth 100000 in
theorem l3Depth_any (ps : List PED) (A : Option Addr) (n c i : Nat) (w : World) (lo hi : Nat) (hn : n ≤ 1048576) (h : D.rd w lo hi (dPackEntrys ps) (.slice A n c)) (hB : allTo (baseOk ps) (i + 1) = true) (hi' : i < n) :
    Calls Tryz.prog 81 #[.slice A n c, .int .i64 i] w fun e w' => e = .returned (.int .i64 ((depP ps i : Nat) : Int)) ∧ w = w' := by
  have HI := Lib.hid h
  have HA := Lib.hid hB
  have hdi := depP_le (ps := ps) i
  clear h hB
  obtain ⟨q, hq⟩ : ∃ q, q = depP ps i := ⟨_, rfl⟩
  rw [← hq] at hdi ⊢
  have HQ := Lib.hid hq
  clear hq
  go_enter Tryz.func81, Tryz.ntmps81
  go_wp2_with fail
  go_loop [1, 5] (fun p n => ∃ (j d : Nat), j ≤ i ∧ p = .int .i64 j ∧ n = .int .i64 d ∧ d ≤ q ∧ Hid (d + depP ps j = q)) (fun _ n => q - (intOf n).toNat)
  case atStart => exact ⟨i, 0, Nat.le_refl _, rfl, rfl, by omega, by show _ = _; rw [HQ.out]; omega⟩
  case round =>
    obtain ⟨j, d, hj, rfl, rfl, hd, HD⟩ := hrel
    obtain ⟨b, o, hl, A1, n1, c1, A3, n3, c3, rfl, _, hbh, hc0, hc1, hc2, hc3, -, -⟩ := rd_PackEntry HI.out (k := j) (by omega)
    have hbj := base_all HA.out j (by omega) hl
    by_cases h0 : 0 ≤ ps[j].base
    · have hdp := depP_yes (ps := ps) (i := j) (by rw [base_at hl]; exact h0) ((allTo_iff _ _).1 HA.out j (by omega))
      rw [base_at hl] at hdp
      have HP : Hid (d + 1 + depP ps ps[j].base.toNat = q) := by show _ = _; have := HD.out; omega
      have hd2 : d + 1 ≤ q := by have := HD.out; omega
      have hj2 : ps[j].base.toNat ≤ i := by omega
      have HZ : Hid (ps[j].base = ((ps[j].base.toNat : Nat) : Int)) := by show _ = _; omega
      clear hdp hbj
      go_wp2_with fail
      go_round
      case rel => exact ⟨ps[j].base.toNat, d + 1, hj2, by rw [← HZ.out], by go_num, hd2, HP⟩
      case measure => simp [intOf]; omega
    · have HP : Hid (d = q) := by
        show d = q
        have h1 := HD.out
        rw [depP_no (by rw [base_at hl]; omega)] at h1
        exact h1
      have hlt0 : ps[j].base < 0 := by omega
      clear hbj h0
      go_wp2_with fail
      go_ret
      exact ⟨ret_int (by rw [HP.out]), rfl⟩

/-- bases come earlier, depths and the number of entries are small -/
def headB (ps : List PED) : Bool := decide (ps.length ≤ 16) && linkB ps && allTo (depOk ps) ps.length
theorem packB_head (ps : List PED) : packB ps = (headB ps && allTo (entOk ps) ps.length) := rfl
theorem headB_link {ps : List PED} (h : linkB ps = false) : headB ps = false := by unfold headB; rw [h]; simp
theorem headB_dep {ps : List PED} {k : Nat} (hk : k < ps.length) (h : depOk ps k = false) : headB ps = false := by unfold headB; rw [allTo_no hk h]; simp

end Go.Proofs.YtnaeglfochnikaaGreat
