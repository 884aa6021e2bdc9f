/-
  The walk of inverse: the updates that undo others, in new memory. Condition: at most four updates.
-/
import Derived.Test.YtfdcoeghomeadaaSame
import Derived.Test.YtfdcoeghomeadaaRefsL
import Derived.Test.YtfdcoeghomeadaaStep
namespace Go.Proofs.Ytfdcoeghomeadaa
open Go.RowKit

set_option maxRecDepth 100000 in
set_option maxHeartbeats 1600000 in
theorem inverse_any (A : Option Addr) (n c : Nat) (us : List Upd) (w : World) (lo hi : Nat) (hh : hi ≤ w.heap.size) (hn : n ≤ 4) (h : Fl cu w lo hi A n us) :
    Calls Try.prog 31 #[.slice A n c] w fun e w' => ∃ B d, e = .returned (.slice B n d) ∧ n ≤ d ∧ d ≤ 9223372036854775807 ∧ Fl cu w' w.heap.size w'.heap.size B n (us.map inv) ∧ Below w.heap.size w w' := by
  have HI := Lib.hid h
  clear h
  have HS0 : Hid ((w.alloc (.cells #[] 38)).ownsRow w.heap.size 38 3 (.slice (some ⟨w.heap.size, 0, none⟩) 0 0) 0 []) := own_nil_lit w _ 3
  go_enter Try.func31, Try.ntmps31
  go_wp2_with fail
  go_loopw [3, 4] (fun v i wr => ∃ k : Nat, k ≤ n ∧ i = .int .i64 k ∧ wr.ownsRow w.heap.size 38 3 v k (((us.map inv).take k).flatMap cu) ∧ Below w.heap.size w wr) (fun _ i _ => n - (intOf i).toNat)
  case atStart => exact ⟨0, Nat.zero_le _, rfl, by simpa using HS0.out, (Below.refl _ _).alloc (Nat.le_refl _) _⟩
  case round =>
    obtain ⟨k, hk, rfl, hown, hb⟩ := hrel
    have HV := Lib.hid hown
    have HB := Lib.hid hb
    have hwsz := hb.size
    clear hown hb
    by_cases hlt : k < n
    · obtain ⟨b, o, hll, rfl, _, hbh, hc0, hc1, hc2⟩ := fl_upd (HI.out.below HB.out hh) hlt
      have hstep : Hid (((us.map inv).take (k + 1)).flatMap cu = ((us.map inv).take k).flatMap cu ++ [.int .i64 us[k].ref, .int .i64 us[k].new_, .int .i64 us[k].old]) := by
        show _ = _
        rw [List.take_succ_eq_append_getElem (by simpa using hll), List.flatMap_append]
        simp [inv, cu]
      have hsz63 : k ≤ 4 := by omega
      have HBD : Hid (Below w.heap.size w wr.drew) := HB.out.drew
      have hws : w.heap.size ≤ wr.drew.heap.size := hwsz
      obtain ⟨A5, c5, rfl, hkc, hcm, -⟩ := Rd.of_own HV.out
      have HD : Hid (wr.drew.ownsRow w.heap.size 38 3 (.slice A5 k c5) k (((us.map inv).take k).flatMap cu)) := HV.out
      go_wp2_with fail
      go_region_law (refine step_app Try.elUpd (HD.out.alloc _) (rd_new _ (cu (inv us[k])) _) rfl (by simp [Value.oneCell', cu, inv]) (by unfold maxLen; omega) (by omega) (by simp; omega) rfl rfl rfl rfl ?_; intro v' w6 hown6 hg6)
      all_goals (go_wp2_with fail; exact ⟨⟨k + 1, by omega, by go_num, by rw [hstep.out]; exact hown6, (HBD.out.alloc hws _).grown hg6 (by simp; omega) (fun q hq => (HD.out.lt q hq).1)⟩, by simp [intOf]; omega⟩)
    · have hkn : k = n := by omega
      subst hkn
      obtain ⟨A5, c5, rfl, hkc, hcm, hr⟩ := Rd.of_own HV.out
      rw [List.take_of_length_le (by rw [List.length_map, HI.out.1]; exact Nat.le_refl _)] at hr
      have HR := Lib.hid hr
      clear hr
      go_wp2_with fail
      go_ret
      exact ⟨A5, c5, rfl, hkc, hcm, ⟨by rw [List.length_map]; exact HI.out.1, HR.out⟩, HB.out⟩

end Go.Proofs.Ytfdcoeghomeadaa
