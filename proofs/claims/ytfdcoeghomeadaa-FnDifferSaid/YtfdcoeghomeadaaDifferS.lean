/-
  The walk of the reference's RefsDiffer: the updates that lead from one to the other, in new memory. Condition: at most four refs each.
-/
import Derived.Test.YtfdcoeghomeadaaDifferI
namespace Go.Proofs.Ytfdcoeghomeadaa
open Go.RowKit

set_option maxRecDepth 100000 in
set_option maxHeartbeats 1600000 in
theorem specDiffer_any (A1 A2 : Option Addr) (n1 c1 n2 c2 : Nat) (f t : List Int) (w : World) (lo hi lo' hi' : Nat) (hh : hi ≤ w.heap.size) (hh' : hi' ≤ w.heap.size) (hn1 : n1 ≤ 4) (hn2 : n2 ≤ 4)
    (hf : Ints w lo hi A1 n1 f) (ht : Ints w lo' hi' A2 n2 t) :
    Calls Try.prog 14 #[.slice A1 n1 c1, .slice A2 n2 c2] w fun e w' => UpdR (differL f t) w e w' := by
  have HF := Lib.hid hf
  have HT := Lib.hid ht
  have hm1 : n1 ≤ 9223372036854775807 := by omega
  have hm2 : n2 ≤ 9223372036854775807 := by omega
  clear hf ht
  have HS0 : Hid ((w.alloc (.cells #[] 38)).ownsRow w.heap.size 38 3 (.slice (some ⟨w.heap.size, 0, none⟩) 0 0) 0 []) := own_nil_lit w _ 3
  go_enter Try.func14, Try.ntmps14
  go_wp2_with fail
  go_loopw [5, 6] (fun v i wr => ∃ k : Nat, k ≤ 4 ∧ i = .int .i64 k ∧ (0 < k → refsB f = true ∧ refsB t = true) ∧ wr.ownsRow w.heap.size 38 3 v (diffTo f t k).length ((diffTo f t k).flatMap cu) ∧ Below w.heap.size w wr) (fun _ i _ => 4 - (intOf i).toNat)
  case atStart => exact ⟨0, Nat.zero_le _, rfl, by simp, HS0.out, (Below.refl _ _).alloc (Nat.le_refl _) _⟩
  case round =>
    obtain ⟨k, hk, rfl, hv, hown, hbr⟩ := hrel
    have HV := Lib.hid hv
    have HO := Lib.hid hown
    have HB := Lib.hid hbr
    have HFW : Hid (Ints _ lo hi A1 n1 f) := HF.out.below HB.out hh
    have HTW : Hid (Ints _ lo' hi' A2 n2 t) := HT.out.below HB.out hh'
    have hwsz := hbr.size
    clear hv hown hbr HS0
    by_cases hlt : k < 4
    · rcases h1 : refsB f with _ | _
      · have hb := Lib.hid (differL_no (t := t) (.inl h1))
        have hk0 : k = 0 := by
          rcases Nat.eq_zero_or_pos k with h | h
          · exact h
          · have := (HV.out h).1; rw [h1] at this; cases this
        subst hk0
        go_wp2_with (go_at_call 16; refine (specRefs_any _ _ _ f _ _ _ hm1 HFW.out).mono ?_; rintro e w' ⟨rfl, rfl⟩)
        go_ret
        rw [hb.out]
        exact UpdR.of (by simp) HO.out HB.out
      · rcases h2 : refsB t with _ | _
        · have hb := Lib.hid (differL_no (f := f) (.inr h2))
          have hk0 : k = 0 := by
            rcases Nat.eq_zero_or_pos k with h | h
            · exact h
            · have := (HV.out h).2; rw [h2] at this; cases this
          subst hk0
          go_wp2_with fail
          refine (specRefs_any _ _ _ f _ _ _ hm1 HFW.out).mono ?_
          rintro e w1 ⟨rfl, rfl⟩
          rw [h1]
          go_wp2_with fail
          refine (specRefs_any _ _ _ t _ _ _ hm2 HTW.out).mono ?_
          rintro e w1 ⟨rfl, rfl⟩
          rw [h2]
          go_wp2_with fail
          go_ret
          rw [hb.out]
          exact UpdR.of (by simp) HO.out HB.out
        · have h41 : n1 = 4 := by rw [← HF.out.1]; exact ((refsB_iff f).1 h1).1
          have h42 : n2 = 4 := by rw [← HT.out.1]; exact ((refsB_iff t).1 h2).1
          subst h41 h42
          obtain ⟨b, o, fk, rfl, _, _, hfk, hc⟩ := Fl.getD HFW.out hlt
          obtain ⟨b', o', tk, rfl, _, _, htk, hc'⟩ := Fl.getD HTW.out hlt
          have hdl := diffTo_len f t k
          have HFK := Lib.hid hfk
          have HTK := Lib.hid htk
          clear hfk htk
          go_wp2_with fail
          refine (specRefs_any _ _ _ f _ _ _ hm1 HFW.out).mono ?_
          rintro e w1 ⟨rfl, rfl⟩
          rw [h1]
          go_wp2_with fail
          refine (specRefs_any _ _ _ t _ _ _ hm2 HTW.out).mono ?_
          rintro e w1 ⟨rfl, rfl⟩
          rw [h2]
          rcases Decidable.em (fk = tk) with he | he
          · have hE : Hid (diffTo f t (k + 1) = diffTo f t k) := diffTo_eq (by rw [HFK.out, HTK.out]; exact he)
            go_wp2_with fail
            go_quiet (fail)
            go_wp2_with fail
            exact ⟨⟨k + 1, by omega, by go_num, fun _ => ⟨trivial, trivial⟩, by rw [hE.out]; exact HO.out, below_drewN HB.out _⟩, by simp [intOf]; omega⟩
          · have hE : Hid (diffTo f t (k + 1) = diffTo f t k ++ [⟨k, fk, tk⟩]) := by rw [diffTo_ne (by rw [HFK.out, HTK.out]; exact he), HFK.out, HTK.out]; exact rfl
            go_wp2_with fail
            go_quiet (fail)
            go_wp2_with fail
            have HBN := Lib.hid (below_drewN HB.out (nq + 1))
            have hws : w.heap.size ≤ (wr.drewN (nq + 1)).heap.size := hwsz
            go_region_law (refine step_app Try.elUpd (HO.out.alloc _) (rd_new _ (cu ⟨k, fk, tk⟩) _) rfl (by simp [Value.oneCell', cu]) (by unfold maxLen; omega) (by omega) (by simp; omega) rfl rfl rfl rfl ?_; intro v' w6 hown6 hg6)
            all_goals go_wp2_with fail
            all_goals exact ⟨⟨k + 1, by omega, by go_num, fun _ => ⟨trivial, trivial⟩, by rw [hE.out, List.length_append, List.flatMap_append]; exact hown6, (HBN.out.alloc hws _).grown hg6 (by simp; omega) (fun q hq => (HO.out.lt q hq).1)⟩, by simp [intOf]; omega⟩
    · have hk4 : k = 4 := by omega
      subst hk4
      have hvv := HV.out (by omega)
      have hb := Lib.hid (differL_ok hvv.1 hvv.2)
      clear hvv
      go_wp2_with fail
      go_ret
      rw [hb.out]
      exact UpdR.of (diffTo_len f t 4) HO.out HB.out

end Go.Proofs.Ytfdcoeghomeadaa
