/-
  The walks of l21Begin, l12Take, l12Free of the reference: the state without records; locks taken and freed. Condition: four refs.
-/
import Derived.Test.YtgnhanbdfohjaaaSpecA
import Derived.Test.YtgnhanbdfohjaaaRefsB
import Derived.Test.YtgnhanbdfohjaaaK3
namespace Go.Proofs.Ytgnhanbdfohjaaa
set_option linter.unusedVariables false
set_option linter.unusedSimpArgs false
open Go.RowKit

/-- a row of ints of the call's own, read -/
theorem own_intsH {w : World} {base n : Nat} {e : TypeId} {v : Value} {xs : List Int} (h : w.ownsRow base e 1 v n (xs.flatMap ci)) : ∃ A c, v = .slice A n c ∧ n ≤ c ∧ c ≤ 9223372036854775807 ∧ FlH ci w base A n xs := by
  have hl : xs.length = n := by
    have := h.1
    rw [flat_len ci 1 ci_len] at this; omega
  obtain ⟨A, c, rfl, h1, h2, hr⟩ := Rd.of_own h
  exact ⟨A, c, rfl, h1, h2, hl, hr⟩

set_option maxRecDepth 100000 in
set_option maxHeartbeats 800000 in
theorem l12Free_any (A : Option Addr) (n c : Nat) (xs : List Int) (t : Int) (w : World) (lo : Nat) (hn : n ≤ 4) (h : FlH ci w lo A n xs) :
    Calls Try.prog 77 #[.slice A n c, .int .i64 t] w fun e w' => ∃ v, w'.ownsRow w.heap.size 3 1 v n ((freeL xs t).flatMap ci) ∧ Below w.heap.size w w' ∧ e = .returned v := by
  have HI := Lib.hid h
  have hxl := Lib.hid h.1
  clear h
  have hown0 : Hid ((w.alloc (.cells #[] 3)).ownsRow w.heap.size 3 1 (.slice (some ⟨w.heap.size, 0, none⟩) 0 0) 0 (((freeL xs t).take 0).flatMap ci)) := own_nil_lit w 3 1
  go_enter Try.func77, Try.ntmps77
  go_wp2_with fail
  go_loopw [5, 6] (fun v i wr => ∃ k : Nat, k ≤ n ∧ i = .int .i64 k ∧ wr.ownsRow w.heap.size 3 1 v k (((freeL xs t).take k).flatMap ci) ∧ Below w.heap.size w wr) (fun _ i _ => n - (intOf i).toNat)
  case atStart => exact ⟨0, Nat.zero_le _, rfl, hown0.out, (Below.refl _ _).alloc (Nat.le_refl _) _⟩
  case round =>
    obtain ⟨k, hk, rfl, hown, hb⟩ := hrel
    have HO := Lib.hid hown
    have HB := Lib.hid hb
    have hwsz := hb.size
    obtain ⟨A5, c5, rfl, -, -, -⟩ := Rd.of_own hown
    clear hown hb hown0
    by_cases hlt : k < n
    · obtain ⟨b, o, hll, rfl, _, hbh, hc⟩ := Fl.int (HI.out.bel HB.out) hlt
      have hstep : Hid (∀ y : Int, (freeL xs t)[k]'(by rw [freeL_len]; exact hll) = y → ((freeL xs t).take (k + 1)).flatMap ci = ((freeL xs t).take k).flatMap ci ++ [.int .i64 y]) := by
        intro y hy
        rw [List.take_succ_eq_append_getElem (by rw [freeL_len]; exact hll), List.flatMap_append, hy]; simp [ci]
      have hval : Hid ((freeL xs t)[k]'(by rw [freeL_len]; exact hll) = if xs[k] = t then -1 else xs[k]) := by
        show _ = _
        unfold freeL
        rw [List.getElem_map]
      rcases Decidable.em (xs[k] = t) with he | he
      · have hs := Lib.hid (hstep.out (-1) (by rw [hval.out, if_pos he]))
        clear hstep hval
        go_wp2_with (at_builtin; go_must (refine wpList_app Try.elInt (HO.out.alloc _) (rd_new _ [.int .i64 (-1)] _) rfl (by simp [Value.oneCell']) (by unfold maxLen; omega) (by omega) (by simp; omega) rfl rfl rfl rfl ?_); intro v' w6 hown6 hg6)
        exact ⟨⟨k + 1, by omega, by go_num, by rw [hs.out]; exact hown6, (HB.out.alloc hwsz _).grown hg6 (by simp; omega) (fun q hq => (HO.out.lt q hq).1)⟩, by simp [intOf]; omega⟩
      · have hs := Lib.hid (hstep.out xs[k] (by rw [hval.out, if_neg he]))
        have hd : (xs[k] == t) = false := by simpa using he
        clear hstep hval he
        go_wp2_with (at_builtin; go_must (refine wpList_app Try.elInt (HO.out.alloc _) (rd_new _ [.int .i64 xs[k]] _) rfl (by simp [Value.oneCell']) (by unfold maxLen; omega) (by omega) (by simp; omega) rfl rfl rfl rfl ?_); intro v' w6 hown6 hg6)
        exact ⟨⟨k + 1, by omega, by go_num, by rw [hs.out]; exact hown6, (HB.out.alloc hwsz _).grown hg6 (by simp; omega) (fun q hq => (HO.out.lt q hq).1)⟩, by simp [intOf]; omega⟩
    · have hkn : k = n := by omega
      subst hkn
      have hfa := HO.out
      rw [List.take_of_length_le (by rw [freeL_len, hxl.out]; exact Nat.le_refl _)] at hfa
      have HFA := Lib.hid hfa
      clear hfa
      go_wp2_with fail
      go_ret
      exact ⟨_, HFA.out, HB.out, rfl⟩

theorem lock_take_succ {xs : List Int} {us : List Upd} {k : Nat} (hk : k < us.length) (h : lockFit xs (us.take k) = true) (hu : getR xs us[k].ref = -1) : lockFit xs (us.take (k + 1)) = true := by
  unfold lockFit at h ⊢
  rw [List.take_succ_eq_append_getElem hk, List.all_append, h]
  simp [hu]
theorem lock_at {xs : List Int} {us : List Upd} {k : Nat} (hk : k < us.length) (hu : ¬ getR xs us[k].ref = -1) : lockFit xs us = false := by
  rw [← Bool.not_eq_true]
  intro h
  have := List.all_eq_true.1 h _ (List.getElem_mem hk)
  simp only [decide_eq_true_eq] at this
  exact hu this
/-- locks behind updates that were tried -/
def takeL (xs : List Int) (t : Int) (us : List Upd) : List Int := if lockFit xs us = true then lockSet xs t us else xs
theorem takeL_len (xs : List Int) (t : Int) (us : List Upd) : (takeL xs t us).length = xs.length := by
  unfold takeL; split
  · exact lockSet_len us t xs
  · rfl
theorem takeL_yes {xs : List Int} {us : List Upd} (t : Int) (h : lockFit xs us = true) : takeL xs t us = lockSet xs t us := by unfold takeL; rw [if_pos h]
theorem takeL_no {xs : List Int} {us : List Upd} (t : Int) (h : lockFit xs us = false) : takeL xs t us = xs := by unfold takeL; rw [h]; rfl

set_option maxRecDepth 100000 in
set_option maxHeartbeats 1600000 in
theorem l12Take_any (A1 A2 : Option Addr) (c1 n2 c2 : Nat) (xs : List Int) (t : Int) (us : List Upd) (w : World) (lo lo' : Nat) (hn2 : n2 ≤ 9223372036854775807) (hr : ∀ u ∈ us, 0 ≤ u.ref ∧ u.ref ≤ 3)
    (hx : FlH ci w lo A1 4 xs) (hu : FlH cu w lo' A2 n2 us) :
    Calls Try.prog 74 #[.slice A1 4 c1, .int .i64 t, .slice A2 n2 c2] w fun e w' => ∃ v, w'.ownsRow w.heap.size 3 1 v 4 ((takeL xs t us).flatMap ci) ∧ Below w.heap.size w w' ∧ e = .returned (.tuple #[v, .bool (lockFit xs us)]) := by
  have HX := Lib.hid hx
  have HU := Lib.hid hu
  have HR := Lib.hid hr
  have hxl := Lib.hid hx.1
  clear hx hu hr
  have hown0 := Lib.hid (own_nil_lit w 3 1)
  go_enter Try.func74, Try.ntmps74
  go_wp2_with (at_builtin; go_must (refine wpList_app Try.elInt hown0.out (HX.out.2.alloc (Nat.le_refl _) _) (by rw [flat_len ci 1 ci_len, hxl.out]) (by rw [flat_ci]; simp [Value.oneCell']) (by unfold maxLen; omega) (by omega) (by simp) rfl rfl rfl rfl ?_); intro v2 w2 hown2 hg2)
  rw [Nat.zero_add, List.nil_append] at hown2
  have HB2 := Lib.hid (below_app ((Below.refl w.heap.size w).alloc (Nat.le_refl _) (.cells #[] 3)) (Nat.le_refl _) (by simp) hown0.out hg2)
  obtain ⟨g, cg, rfl, hgb, -, hgc⟩ := own_slice hown2 (by omega)
  have HO2 := Lib.hid hown2
  clear hown2 hg2
  go_loopw [9] (fun i wr => ∃ k : Nat, k ≤ n2 ∧ i = .int .i64 k ∧ lockFit xs (us.take k) = true ∧ wr.ownsRow w.heap.size 3 1 (.slice (some ⟨g, 0, none⟩) 4 cg) 4 ((lockSet xs t (us.take k)).flatMap ci) ∧ Below w.heap.size w wr) (fun i _ => n2 - (intOf i).toNat)
  case atStart => exact ⟨0, Nat.zero_le _, rfl, rfl, HO2.out, HB2.out⟩
  case round =>
    obtain ⟨k, hk, rfl, hf, hown, hb⟩ := hrel
    have HO := Lib.hid hown
    have HB := Lib.hid hb
    have HF := Lib.hid hf
    have hwsz := hb.size
    have HXW := Lib.hid (HX.out.bel hb)
    clear hown hb hf
    by_cases hlt : k < n2
    · obtain ⟨b, o, hll, rfl, _, hbh, hc0, hc1, hc2⟩ := fl_upd (HU.out.bel HB.out) hlt
      have hru := HR.out us[k] (List.getElem_mem hll)
      have hr0 := hru.1
      have hr3 := hru.2
      clear hru hc1 hc2
      obtain ⟨b1, o1, rfl, _, _, hcx⟩ := int_lit HXW.out rfl hr0 hr3
      have hcase : getR xs us[k].ref = -1 ∨ ¬ getR xs us[k].ref = -1 := Decidable.em _
      have hnext : Hid (getR xs us[k].ref = -1 → lockFit xs (us.take (k + 1)) = true) := fun h => lock_take_succ hll HF.out h
      have hstop : Hid (¬ getR xs us[k].ref = -1 → lockFit xs us = false) := fun h => lock_at hll h
      have hst := (HO.out.stored us[k].ref.toNat (.int .i64 t)).1
      rw [ci_set, show (lockSet xs t (us.take k)).set us[k].ref.toNat t = lockSet xs t (us.take (k + 1)) from by rw [List.take_succ_eq_append_getElem hll]; unfold lockSet; rw [List.foldl_append]; rfl] at hst
      obtain ⟨q, hq⟩ := Int.eq_ofNat_of_zero_le hr0
      rw [hq] at hcx hc0 hr3 hcase hnext hstop hst
      have hq3 : q ≤ 3 := by omega
      have hq4 : (q : Int) < 4 := by omega
      obtain ⟨u0, hg0, hf0⟩ := own_cells HO.out (k := q) (by omega) 0 (by omega)
      rw [Nat.mul_one, Nat.add_zero] at hg0 hf0
      have hcx' : wr.cell? ⟨b1, o1 + q, none⟩ = some (.int .i64 (getR xs q)) := hcx
      have HST : Hid ((wr.setCell ⟨g, q, none⟩ (.int .i64 t)).ownsRow w.heap.size 3 1 (.slice (some ⟨g, 0, none⟩) 4 cg) 4 ((lockSet xs t (us.take (k + 1))).flatMap ci)) := hst
      clear hq hr3 hr0 hst hcx
      rcases hcase with hcase | hcase
      · have hnx := Lib.hid (hnext.out hcase)
        clear hnext hstop
        go_wp2_with fail
        exact ⟨⟨k + 1, by omega, by go_num, hnx.out, HST.out, HB.out.setCell hgb _⟩, by simp [intOf]; omega⟩
      · have hst := Lib.hid (hstop.out hcase)
        have hd : (getR xs ↑q == -1) = false := by simpa using hcase
        have hrd : Hid (Rd (wr.alloc (.cells #[] 3)) lo wr.heap.size (some ⟨b1, o1, none⟩) (xs.flatMap ci)) := HXW.out.2.alloc (Nat.le_refl _) _
        have hown5 : Hid ((wr.alloc (.cells #[] 3)).ownsRow w.heap.size 3 1 (.slice (some ⟨wr.heap.size, 0, none⟩) 0 0) 0 []) := own_lit_from hwsz
        clear hnext hstop hcase HST HO
        go_wp2_with (at_builtin; go_must (refine wpList_app Try.elInt hown5.out hrd.out (by rw [flat_len ci 1 ci_len, hxl.out]) (by rw [flat_ci]; simp [Value.oneCell']) (by unfold maxLen; omega) (by omega) (by simp; omega) rfl rfl rfl rfl ?_); intro v5 w5 hownn hg5)
        rw [Nat.zero_add, List.nil_append] at hownn
        have HO5 := Lib.hid hownn
        have HB5 : Hid (Below w.heap.size w w5) := (HB.out.alloc hwsz _).grown hg5 (by simp; omega) (fun q hq => by cases hq; exact hwsz)
        clear hownn hg5
        go_ret2
        exact ⟨_, by rw [takeL_no t hst.out]; exact HO5.out, HB5.out, ret_tup2 hst.out.symm⟩
    · have hkn : k = n2 := by omega
      subst hkn
      have hfa : Hid (lockFit xs us = true) := by
        have := HF.out
        rwa [List.take_of_length_le (by rw [HU.out.1]; exact Nat.le_refl _)] at this
      have hoa := HO.out
      rw [List.take_of_length_le (by rw [HU.out.1]; exact Nat.le_refl _)] at hoa
      have HOA := Lib.hid hoa
      clear hoa
      go_wp2_with fail
      go_ret2
      exact ⟨_, by rw [takeL_yes t hfa.out]; exact HOA.out, HB.out, ret_tup2 hfa.out.symm⟩

end Go.Proofs.Ytgnhanbdfohjaaa
