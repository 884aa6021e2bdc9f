/-
  The walks of RefsApply itself, of the program and of the reference. Condition: lengths fit an int64.
-/
import Derived.Test.YtgnhanbdfohjaaaRefsA
namespace Go.Proofs.Ytgnhanbdfohjaaa
set_option linter.unusedVariables false
set_option linter.unusedSimpArgs false
open Go.RowKit

/-- what RefsApply leaves: new memory, and the answer -/
def ApplyR (xs : List Int) (us : List Upd) (w : World) (e : Ending) (w' : World) : Prop :=
  ∃ (t : TypeId) (v : Value), w'.ownsRow w.heap.size t 1 v (applyL xs us).length ((applyL xs us).flatMap ci) ∧ Below w.heap.size w w' ∧ e = .returned (.tuple #[v, .bool (applyB xs us)])
theorem applyL_bad {xs : List Int} {us : List Upd} (h : refsB xs = false ∨ updsB us = false) : applyL xs us = [] ∧ applyB xs us = false := by
  unfold applyL applyB
  rcases h with h | h <;> rw [h] <;> simp
theorem applyL_ok {xs : List Int} {us : List Upd} (h1 : refsB xs = true) (h2 : updsB us = true) : applyL xs us = appR xs us ∧ applyB xs us = fitsR xs us := by
  unfold applyL applyB appR
  rw [if_pos ⟨h1, h2⟩, h1, h2]; exact ⟨rfl, by simp⟩
theorem appR_len (xs : List Int) (us : List Upd) : (appR xs us).length = xs.length := by
  unfold appR; split
  · exact setR_len us xs
  · rfl
theorem ret_tup2 {v : Value} {b b' : Bool} (h : b = b') : Ending.returned (.tuple #[v, .bool b]) = .returned (.tuple #[v, .bool b']) := by rw [h]

theorem arrayAt4 (A : Option Addr) (c : Nat) (w : World) : (Instr.arrayAt 60 (.slice A 4 c)).run Try.prog w = .ok (.pointer A) w := by
  simp [Instr.arrayAt, run_underlying Try.underlying60]

set_option maxRecDepth 100000 in
set_option maxHeartbeats 1600000 in
theorem implApply_any (A1 A2 : Option Addr) (n1 c1 n2 c2 : Nat) (xs : List Int) (us : List Upd) (w : World) (lo hi lo' hi' : Nat) (hh : hi ≤ w.heap.size) (hh' : hi' ≤ w.heap.size) (hn1 : n1 ≤ 9223372036854775807) (hn2 : n2 ≤ 9223372036854775807)
    (hx : Ints w lo hi A1 n1 xs) (hu : Fl cu w lo' hi' A2 n2 us) :
    Calls Try.prog 31 #[.slice A1 n1 c1, .slice A2 n2 c2] w fun e w' => ApplyR xs us w e w' := by
  have HX := Lib.hid hx
  have HU := Lib.hid hu
  clear hx hu
  rcases h1 : refsB xs with _ | _
  · have hb := applyL_bad (us := us) (.inl h1)
    have hb1 := Lib.hid hb.1
    have hb2 := Lib.hid hb.2
    clear hb
    go_enter Try.func31, Try.ntmps31
    go_wp2_with (go_at_call 50; refine (implRefs_any _ _ _ xs _ _ _ hn1 HX.out).mono ?_; rintro e w' ⟨rfl, rfl⟩)
    go_ret2
    exact ⟨3, _, by rw [hb1.out]; exact World.ownsRow_nil _ _ _ _, Below.refl _ _, ret_tup2 hb2.out.symm⟩
  · rcases h2 : updsB us with _ | _
    · have hb := applyL_bad (xs := xs) (.inr h2)
      have hb1 := Lib.hid hb.1
      have hb2 := Lib.hid hb.2
      clear hb
      go_enter Try.func31, Try.ntmps31
      go_wp2_with (first | (go_at_call 50; refine (implRefs_any _ _ _ xs _ _ _ hn1 HX.out).mono ?_; rintro e w' ⟨rfl, rfl⟩) | (go_at_call 51; refine (implUpds_any _ _ _ us _ _ _ hh' hn2 HU.out).mono ?_; rintro e w2 ⟨rfl, hb2'⟩; have HB2 := Lib.hid hb2'; clear hb2'))
      go_ret2
      exact ⟨3, _, by rw [hb1.out]; exact World.ownsRow_nil _ _ _ _, HB2.out, ret_tup2 hb2.out.symm⟩
    · have hok := applyL_ok h1 h2
      have hk1 := Lib.hid hok.1
      have hk2 := Lib.hid hok.2
      have hl := ((refsB_iff xs).1 h1).1
      have hr : ∀ u ∈ us, 0 ≤ u.ref ∧ u.ref ≤ 3 := fun u hu => ((uokB_iff u).1 ((updsB_asc h2).1.mem u hu).1).1
      have HR := Lib.hid hr
      have h4 : n1 = 4 := by rw [← HX.out.1]; exact hl
      subst h4
      clear hok hr
      obtain ⟨x0, x1, x2, x3, rfl⟩ : ∃ x0 x1 x2 x3, xs = [x0, x1, x2, x3] := by
        match xs, hl with
        | [a, b, c, d], _ => exact ⟨a, b, c, d, rfl⟩
      obtain ⟨b, o, rfl, hlo, hhi, hc⟩ := HX.out.2 (by simp [ci])
      have hc0 := hc 0 _ rfl
      have hc1 := hc 1 _ rfl
      have hc2 := hc 2 _ rfl
      have hc3 := hc 3 _ rfl
      rw [Nat.add_zero] at hc0
      clear hc hl
      go_enter Try.func31, Try.ntmps31
      go_wp2_with fail
      refine (implRefs_any _ _ _ _ _ _ _ hn1 HX.out).mono ?_
      rintro e w1 ⟨rfl, rfl⟩
      go_wp2_with fail
      refine (implUpds_any _ _ _ us _ _ _ hh' hn2 HU.out).mono ?_
      rintro e w2 ⟨rfl, hb2⟩
      have hcc := (bcell hb2).1
      have hbw : b < w.heap.size := by omega
      have hd0 := (hcc b o hbw).trans hc0
      have hd1 := (hcc b (o + 1) hbw).trans hc1
      have hd2 := (hcc b (o + 2) hbw).trans hc2
      have hd3 := (hcc b (o + 3) hbw).trans hc3
      have HB2 := Lib.hid hb2
      have hwsz := hb2.size
      have HU2 : Hid (Fl cu w2 lo' hi' A2 n2 us) := HU.out.below hb2 hh'
      clear hcc hc0 hc1 hc2 hc3 hb2
      have hma := arrayAt4 (some ⟨b, o, none⟩) c1
      go_wp2_with fail
      have htab : Tab (w2.alloc (.cells #[.int .i64 x0, .int .i64 x1, .int .i64 x2, .int .i64 x3] 60)) w2.heap.size [x0, x1, x2, x3] := heap_alloc_new w2 _
      refine (apply_any w2.heap.size A2 n2 c2 us [x0, x1, x2, x3] _ lo' hi' (Nat.le_trans hh' hwsz) hn2 rfl HR.out htab (HU2.out.alloc (Nat.le_trans hh' hwsz) _)).mono ?_
      rintro e w3 ⟨ht3, hg3, rfl⟩
      have HT3 := Lib.hid ht3
      have HB3 : Hid (Below w.heap.size w w3) := (HB2.out.alloc hwsz _).grown hg3 (by simp; omega) (fun q hq => by injection hq with hq; omega)
      clear htab ht3 hg3
      go_wp2_with fail
      go_ret2
      refine ⟨60, _, ?_, HB3.out, ret_tup2 hk2.out.symm⟩
      rw [hk1.out, appR_len]
      exact HT3.out.own hwsz (by rw [appR_len]; rfl)

theorem int_lit {w : World} {lo hi n : Nat} {A : Option Addr} {xs : List Int} (h : Ints w lo hi A n xs) {r : Int} (hl : n = 4) (h0 : 0 ≤ r) (h3 : r ≤ 3) :
    ∃ b o, A = some ⟨b, o, none⟩ ∧ lo ≤ b ∧ b < hi ∧ w.cell? ⟨b, o + r.toNat, none⟩ = some (.int .i64 (getR xs r)) := by
  obtain ⟨b, o, hk, rfl, g1, g2, hc⟩ := h.int (k := r.toNat) (by omega)
  refine ⟨b, o, rfl, g1, g2, ?_⟩
  rw [hc]
  unfold getR
  rw [List.getD_eq_getElem?_getD, List.getElem?_eq_getElem hk]; rfl

set_option maxRecDepth 100000 in
set_option maxHeartbeats 1600000 in
theorem specFits_any (A1 A2 : Option Addr) (c1 n2 c2 : Nat) (xs : List Int) (us : List Upd) (w : World) (lo hi lo' hi' : Nat) (hn2 : n2 ≤ 9223372036854775807) (hr : ∀ u ∈ us, 0 ≤ u.ref ∧ u.ref ≤ 3)
    (hx : Ints w lo hi A1 4 xs) (hu : Fl cu w lo' hi' A2 n2 us) :
    Calls Try.prog 73 #[.slice A1 4 c1, .slice A2 n2 c2] w fun e w' => e = .returned (.bool (fitsR xs us)) ∧ ∃ m, w' = w.drewN m := by
  have HX := Lib.hid hx
  have HU := Lib.hid hu
  have HR := Lib.hid hr
  clear hx hu hr
  go_enter Try.func73, Try.ntmps73
  go_wp2_with fail
  go_loopw [5] (fun i wr => ∃ k : Nat, k ≤ n2 ∧ i = .int .i64 k ∧ fitsR xs (us.take k) = true ∧ ∃ m, wr = w.drewN m) (fun i _ => n2 - (intOf i).toNat)
  case atStart => exact ⟨0, Nat.zero_le _, rfl, rfl, 0, rfl⟩
  case round =>
    obtain ⟨k, hk, rfl, hf, m, rfl⟩ := hrel
    have HF := Lib.hid hf
    clear hf
    by_cases hlt : k < n2
    · obtain ⟨b, o, hll, rfl, _, hbh, hc0, hc1, hc2⟩ := fl_upd HU.out hlt
      have hru := HR.out us[k] (List.getElem_mem hll)
      have hr0 := hru.1
      have hr3 := hru.2
      clear hru hc2
      obtain ⟨b1, o1, rfl, _, _, hcx⟩ := int_lit HX.out rfl hr0 hr3
      have hcase : getR xs us[k].ref = us[k].old ∨ ¬ getR xs us[k].ref = us[k].old := Decidable.em _
      have hnext : Hid (getR xs us[k].ref = us[k].old → fitsR xs (us.take (k + 1)) = true) := fun h => fits_take_succ hll HF.out h
      have hstop : Hid (¬ getR xs us[k].ref = us[k].old → fitsR xs us = false) := fun h => fits_at hll h
      obtain ⟨q, hq⟩ := Int.eq_ofNat_of_zero_le hr0
      rw [hq] at hcx hc0 hr3 hcase hnext hstop
      have hq3 : q ≤ 3 := by omega
      have hq4 : (q : Int) < 4 := by omega
      have hcx' : w.cell? ⟨b1, o1 + q, none⟩ = some (.int .i64 (getR xs q)) := hcx
      clear hq hr3 hr0 hcx
      rcases hcase with hcase | hcase
      · have hnx := Lib.hid (hnext.out hcase)
        clear hnext hstop
        go_wp2_with fail
        go_quiet (fail)
        go_wp2_with fail
        exact ⟨⟨k + 1, by omega, by go_num, hnx.out, m + nq, rfl⟩, by simp [intOf]; omega⟩
      · have hst := Lib.hid (hstop.out hcase)
        clear hnext hstop
        go_wp2_with fail
        go_quiet (fail)
        go_wp2_with fail
        go_ret
        exact ⟨ret_bool hst.out.symm, m + nq, by first | rfl | rw [World.drewN_drewN]⟩
    · have hkn : k = n2 := by omega
      subst hkn
      have hfa : Hid (fitsR xs us = true) := by
        have := HF.out
        rwa [List.take_of_length_le (by rw [HU.out.1]; exact Nat.le_refl _)] at this
      go_wp2_with fail
      go_ret
      exact ⟨ret_bool hfa.out.symm, m, rfl⟩

theorem Try.elInt : ElemT Try.prog 28 3 (.int .i64 0) 1 8 := ⟨Try.underlying28, by kernel_rfl, rfl, by decide⟩
theorem ci_set (vs : List Int) (j : Nat) (x : Int) : (vs.flatMap ci).set j (.int .i64 x) = (vs.set j x).flatMap ci := by
  rw [flat_ci, flat_ci, List.map_set]
theorem own_base {w : World} {base base' size n : Nat} {e : TypeId} {v : Value} {cs : List Value} (h : w.ownsRow base e size v n cs) (hb : base' ≤ base) : w.ownsRow base' e size v n cs := by
  obtain ⟨h1, h⟩ := h
  rcases h with h | ⟨g, cap, cur, a, b, r⟩
  · exact ⟨h1, .inl h⟩
  · exact ⟨h1, .inr ⟨g, cap, cur, a, Nat.le_trans hb b, r⟩⟩
theorem own_lit_from {w : World} {base size : Nat} {e : TypeId} (hb : base ≤ w.heap.size) : (w.alloc (.cells #[] e)).ownsRow base e size (.slice (some ⟨w.heap.size, 0, none⟩) 0 0) 0 [] := own_base (own_nil_lit w e size) hb
theorem own_slice {w : World} {base size n : Nat} {e : TypeId} {v : Value} {cs : List Value} (h : w.ownsRow base e size v n cs) (hn : 0 < n) : ∃ g c, v = .slice (some ⟨g, 0, none⟩) n c ∧ base ≤ g ∧ g < w.heap.size ∧ n ≤ c := by
  have h0 := h
  obtain ⟨_, h⟩ := h
  rcases h with ⟨_, rfl⟩ | ⟨g, cap, cur, rfl, hb, _, hnc, _⟩
  · omega
  · exact ⟨g, cap, rfl, hb, (h0.lt g rfl).2, hnc⟩

set_option maxRecDepth 100000 in
set_option maxHeartbeats 1600000 in
theorem specSet_any (A1 A2 : Option Addr) (c1 n2 c2 : Nat) (xs : List Int) (us : List Upd) (w : World) (lo hi lo' hi' : Nat) (hh : hi ≤ w.heap.size) (hh' : hi' ≤ w.heap.size) (hn2 : n2 ≤ 9223372036854775807) (hr : ∀ u ∈ us, 0 ≤ u.ref ∧ u.ref ≤ 3)
    (hx : Ints w lo hi A1 4 xs) (hu : Fl cu w lo' hi' A2 n2 us) :
    Calls Try.prog 75 #[.slice A1 4 c1, .slice A2 n2 c2] w fun e w' => ∃ v, w'.ownsRow w.heap.size 3 1 v 4 ((setR xs us).flatMap ci) ∧ Below w.heap.size w w' ∧ e = .returned v := by
  have HX := Lib.hid hx
  have HU := Lib.hid hu
  have HR := Lib.hid hr
  have hxl := Lib.hid hx.1
  clear hx hu hr
  have hown0 := Lib.hid (own_nil_lit w 3 1)
  go_enter Try.func75, Try.ntmps75
  go_wp2_with (at_builtin; go_must (refine wpList_app Try.elInt hown0.out (HX.out.2.alloc hh _) (by rw [flat_len ci 1 ci_len, hxl.out]) (by rw [flat_ci]; simp [Value.oneCell']) (by unfold maxLen; omega) (by omega) (by simp) rfl rfl rfl rfl ?_); intro v2 w2 hown2 hg2)
  rw [Nat.zero_add, List.nil_append] at hown2
  have HB2 := Lib.hid (below_app ((Below.refl w.heap.size w).alloc (Nat.le_refl _) (.cells #[] 3)) (Nat.le_refl _) (by simp) hown0.out hg2)
  obtain ⟨g, cg, rfl, hgb, -, hgc⟩ := own_slice hown2 (by omega)
  have HO2 := Lib.hid hown2
  clear hown2 hg2
  go_loopw [6] (fun i wr => ∃ k : Nat, k ≤ n2 ∧ i = .int .i64 k ∧ wr.ownsRow w.heap.size 3 1 (.slice (some ⟨g, 0, none⟩) 4 cg) 4 ((setR xs (us.take k)).flatMap ci) ∧ Below w.heap.size w wr) (fun i _ => n2 - (intOf i).toNat)
  case atStart => exact ⟨0, Nat.zero_le _, rfl, HO2.out, HB2.out⟩
  case round =>
    obtain ⟨k, hk, rfl, hown, hb⟩ := hrel
    have HO := Lib.hid hown
    have HB := Lib.hid hb
    have hwsz := hb.size
    clear hown hb
    by_cases hlt : k < n2
    · obtain ⟨b, o, hll, rfl, _, hbh, hc0, hc1, hc2⟩ := fl_upd (HU.out.below HB.out hh') hlt
      have hru := HR.out us[k] (List.getElem_mem hll)
      have hr0 := hru.1
      have hr3 := hru.2
      clear hru hc1
      have hst := (HO.out.stored us[k].ref.toNat (.int .i64 us[k].new_)).1
      rw [ci_set, show (setR xs (us.take k)).set us[k].ref.toNat us[k].new_ = setR xs (us.take (k + 1)) from by rw [List.take_succ_eq_append_getElem hll]; unfold setR; rw [List.foldl_append]; rfl] at hst
      obtain ⟨q, hq⟩ := Int.eq_ofNat_of_zero_le hr0
      rw [hq] at hst hc0 hr3
      have hq3 : q ≤ 3 := by omega
      have hq4 : (q : Int) < 4 := by omega
      obtain ⟨u0, hg0, hf0⟩ := own_cells HO.out (k := q) (by omega) 0 (by omega)
      rw [Nat.mul_one, Nat.add_zero] at hg0 hf0
      have HST : Hid ((wr.setCell ⟨g, q, none⟩ (.int .i64 us[k].new_)).ownsRow w.heap.size 3 1 (.slice (some ⟨g, 0, none⟩) 4 cg) 4 ((setR xs (us.take (k + 1))).flatMap ci)) := hst
      clear hq hr3 hr0 hst
      go_wp2_with fail
      go_still_tail 12, (by kernel_rfl)
      change wpList _ _ _ _ _ wr.drew
      go_wp2_with fail
      exact ⟨⟨k + 1, by omega, by go_num, HST.out, (HB.out.setCell hgb _).drew⟩, by simp [intOf]; omega⟩
    · have hkn : k = n2 := by omega
      subst hkn
      have hfa := HO.out
      rw [List.take_of_length_le (by rw [HU.out.1]; exact Nat.le_refl _)] at hfa
      have HFA := Lib.hid hfa
      clear hfa
      go_wp2_with fail
      go_ret
      exact ⟨_, HFA.out, HB.out, rfl⟩

end Go.Proofs.Ytgnhanbdfohjaaa
