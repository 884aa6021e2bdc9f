/-
  The walks of the reference's UpdatesValid, and of RefsValid. Condition: lengths fit an int64.
-/
import Derived.Test.YtgnhanbdfohjaaaRefsW
namespace Go.Proofs.Ytgnhanbdfohjaaa
set_option linter.unusedVariables false
set_option linter.unusedSimpArgs false
open Go.RowKit

set_option maxHeartbeats 400000 in
theorem l11Value_any (n : Int) (w : World) : Calls Try.prog 79 #[.int .i64 n] w fun e w' => e = .returned (.bool (rid n)) ∧ w = w' := by
  go_enter Try.func79, Try.ntmps79
  go_wp2_with (go_at_call 64; refine (l6In_any _ _ _ _).mono ?_; rintro e w' ⟨rfl, rfl⟩)
  go_ret
  exact ⟨rfl, rfl⟩

set_option maxHeartbeats 3200000 in
theorem specUpds_any (A : Option Addr) (n c : Nat) (us : List Upd) (w : World) (lo hi : Nat) (hh : hi ≤ w.heap.size) (hn : n ≤ 9223372036854775807) (h : Fl cu w lo hi A n us) :
    Calls Try.prog 69 #[.slice A n c] w fun e w' => e = .returned (.bool (updsB us)) ∧ Below w.heap.size w w' := by
  have HI := Lib.hid h
  clear h
  go_enter Try.func69, Try.ntmps69
  go_wp2_with fail
  go_loopw [3] (fun i wr => ∃ k : Nat, k ≤ n ∧ i = .int .i64 k ∧ updsTo us k ∧ Below w.heap.size w wr) (fun i _ => n - (intOf i).toNat)
  case atStart => exact ⟨0, Nat.zero_le _, rfl, trivial, Below.refl _ _⟩
  case round =>
    obtain ⟨k, hk, rfl, ht, hb⟩ := hrel
    have HT := Lib.hid ht
    have HB := Lib.hid hb
    have hwsz := hb.size
    clear ht hb
    by_cases hlt : k < n
    · obtain ⟨b, o, hl, rfl, _, hbh, hc0, hc1, hc2⟩ := fl_upd (HI.out.below HB.out hh) hlt
      rcases g1 : inR us[k].ref 0 3 with _ | _
      · have hno := Lib.hid (updsB_first hl (by unfold uokB; rw [g1]; rfl))
        go_wp2_with fail
        go_quiet ((first | (go_at_call 64; first | exact quiet_left (l6In_any _ _ _ _) | exact quiet_add_left (l6In_any _ _ _ _)) | (go_at_call 79; first | exact quiet_left (l11Value_any _ _) | exact quiet_add_left (l11Value_any _ _))))
        go_wp2_with fail
        go_ret
        exact ⟨ret_bool hno.out.symm, below_drewN (HB.out.alloc hwsz _) _⟩
      · rcases g2 : rid us[k].old with _ | _
        · have hno := Lib.hid (updsB_first hl (by unfold uokB; rw [g1, g2]; rfl))
          go_wp2_with fail
          go_quiet ((first | (go_at_call 64; first | exact quiet_left (l6In_any _ _ _ _) | exact quiet_add_left (l6In_any _ _ _ _)) | (go_at_call 79; first | exact quiet_left (l11Value_any _ _) | exact quiet_add_left (l11Value_any _ _))))
          go_wp2_with fail
          go_ret
          exact ⟨ret_bool hno.out.symm, below_drewN (HB.out.alloc hwsz _) _⟩
        · rcases g3 : rid us[k].new_ with _ | _
          · have hno := Lib.hid (updsB_first hl (by unfold uokB; rw [g1, g2, g3]; rfl))
            go_wp2_with fail
            go_quiet ((first | (go_at_call 64; first | exact quiet_left (l6In_any _ _ _ _) | exact quiet_add_left (l6In_any _ _ _ _)) | (go_at_call 79; first | exact quiet_left (l11Value_any _ _) | exact quiet_add_left (l11Value_any _ _))))
            go_wp2_with fail
            go_ret
            exact ⟨ret_bool hno.out.symm, below_drewN (HB.out.alloc hwsz _) _⟩
          · by_cases g4 : us[k].old = us[k].new_
            · have hd4 : (us[k].old == us[k].new_) = true := by rw [beq_iff_eq]; exact g4
              have hno := Lib.hid (updsB_first hl (by unfold uokB; rw [g1, g2, g3, decide_eq_true g4]; rfl))
              clear g4
              go_wp2_with fail
              go_quiet ((first | (go_at_call 64; first | exact quiet_left (l6In_any _ _ _ _) | exact quiet_add_left (l6In_any _ _ _ _)) | (go_at_call 79; first | exact quiet_left (l11Value_any _ _) | exact quiet_add_left (l11Value_any _ _))))
              go_wp2_with fail
              go_ret
              exact ⟨ret_bool hno.out.symm, below_drewN (HB.out.alloc hwsz _) _⟩
            · have hd4 : (us[k].old == us[k].new_) = false := by rw [beq_eq_false_iff_ne]; exact g4
              have hok : Hid (uokB us[k] = true) := by show _ = _; unfold uokB; rw [g1, g2, g3, decide_eq_false g4]; rfl
              clear g4
              rcases k with _ | k
              · have hnx := Lib.hid (updsTo_first hl hok.out)
                simp only [Nat.zero_mul, Nat.add_zero] at hc0 hc1 hc2
                go_wp2_with fail
                go_quiet ((first | (go_at_call 64; first | exact quiet_left (l6In_any _ _ _ _) | exact quiet_add_left (l6In_any _ _ _ _)) | (go_at_call 79; first | exact quiet_left (l11Value_any _ _) | exact quiet_add_left (l11Value_any _ _))))
                go_wp2_with fail
                exact ⟨⟨1, by omega, rfl, hnx.out, below_drewN (HB.out.alloc hwsz _) _⟩, by simp [intOf]; omega⟩
              · obtain ⟨b1, o1, hl1, he1, _, _, hp0, hp1, hp2⟩ := fl_upd (HI.out.below HB.out hh) (k := k) (by omega)
                injection he1 with he1
                injection he1 with he1 he2
                subst he1 he2
                clear hp1 hp2
                have hwk : IntKind.i64.wrap (k : Int) = (k : Int) := IntWalk.i64_in _ (by omega)
                have hkn1 : (k : Int) < (n : Int) := by omega
                have hkn2 : k < n := by omega
                have hpa : ∀ ob : Obj, (wr.alloc ob).cell? ⟨b, o + k * 3, none⟩ = some (.int .i64 us[k].ref) := fun ob => (World.cell?_alloc_lt wr ob ⟨b, o + k * 3, none⟩ (Nat.lt_of_lt_of_le hbh (Nat.le_trans hh hwsz))).trans hp0
                by_cases g6 : us[k + 1].ref ≤ us[k].ref
                · have hno := Lib.hid (updsB_pair hl g6)
                  go_wp2_with fail
                  go_quiet ((first | (go_at_call 64; first | exact quiet_left (l6In_any _ _ _ _) | exact quiet_add_left (l6In_any _ _ _ _)) | (go_at_call 79; first | exact quiet_left (l11Value_any _ _) | exact quiet_add_left (l11Value_any _ _))))
                  go_wp2_with fail
                  go_ret
                  exact ⟨ret_bool hno.out.symm, below_drewN (HB.out.alloc hwsz _) _⟩
                · have hnx := Lib.hid (updsTo_next hl HT.out hok.out (by omega))
                  have hd6 : decide (us[k + 1].ref ≤ us[k].ref) = false := decide_eq_false g6
                  go_wp2_with fail
                  go_quiet ((first | (go_at_call 64; first | exact quiet_left (l6In_any _ _ _ _) | exact quiet_add_left (l6In_any _ _ _ _)) | (go_at_call 79; first | exact quiet_left (l11Value_any _ _) | exact quiet_add_left (l11Value_any _ _))))
                  go_wp2_with fail
                  exact ⟨⟨k + 1 + 1, by omega, by go_num, hnx.out, below_drewN (HB.out.alloc hwsz _) _⟩, by simp [intOf]; omega⟩
    · have hkn : k = n := by omega
      subst hkn
      have hres := Lib.hid (updsTo_all HI.out.1 HT.out)
      go_wp2_with fail
      go_ret
      exact ⟨ret_bool (by rw [hres.out]), HB.out⟩


theorem ridsB_take_succ {xs : List Int} {k : Nat} (hl : k < xs.length) (h : ridsB (xs.take k) = true) (hv : rid xs[k] = true) : ridsB (xs.take (k + 1)) = true := by
  unfold ridsB at h ⊢
  rw [List.take_succ_eq_append_getElem hl, List.all_append, h]
  simp [hv]
theorem ridsB_at {xs : List Int} {k : Nat} (hl : k < xs.length) (hv : rid xs[k] = false) : ridsB xs = false := by
  rw [← Bool.not_eq_true]
  intro h
  unfold ridsB at h
  rw [List.all_eq_true] at h
  rw [h _ (List.getElem_mem hl)] at hv; cases hv
theorem ridsB_all {xs : List Int} {n : Nat} (hl : xs.length = n) (h : ridsB (xs.take n) = true) : ridsB xs = true := by
  rwa [List.take_of_length_le (by omega)] at h
theorem refsB_eq {xs : List Int} {n : Nat} (hl : xs.length = n) : refsB xs = (decide (n = 4) && ridsB xs) := by unfold refsB; rw [hl]

set_option maxHeartbeats 400000 in
theorem closR_any (x : Int) (w : World) : Calls Try.prog 66 #[.int .i64 x] w fun e w' => e = .returned (.bool (!rid x)) ∧ w = w' := by
  go_enter Try.func66, Try.ntmps66
  go_wp2_with (go_at_call 67; refine (isRefId_any _ _).mono ?_; rintro e w' ⟨rfl, rfl⟩)
  go_ret
  exact ⟨rfl, rfl⟩

set_option maxHeartbeats 400000 in
theorem indexFR_any (A : Option Addr) (n c : Nat) (xs : List Int) (w : World) (lo hi : Nat) (hn : n ≤ 9223372036854775807) (h : Ints w lo hi A n xs) :
    Calls Try.prog 78 #[.slice A n c, .func (.func 66) #[] #[]] w fun e w' => ∃ r : Int, decide (0 ≤ r) = (!ridsB xs) ∧ e = .returned (.int .i64 r) ∧ w = w' := by
  have HI := Lib.hid h
  clear h
  go_enter Try.func78, Try.ntmps78
  go_wp2
  go_loop [8] (fun i => ∃ k : Nat, k ≤ n ∧ i = .int .i64 k ∧ ridsB (xs.take k) = true) (fun i => n - (intOf i).toNat)
  case atStart => exact ⟨0, Nat.zero_le _, rfl, rfl⟩
  case round =>
    obtain ⟨k, hk, rfl, hx⟩ := hrel
    have HX := Lib.hid hx
    clear hx
    by_cases hlt : k < n
    · obtain ⟨b, o, hl, rfl, _, _, hc⟩ := HI.out.int hlt
      rcases hv : rid xs[k] with _ | _
      · have HV := Lib.hid hv
        have hv2 : (!rid xs[k]) = true := by rw [hv]; rfl
        clear hv
        go_wp2_with (go_at_call 66; refine (closR_any _ _).mono ?_; rintro e w' ⟨rfl, rfl⟩)
        go_ret
        exact ⟨k, by rw [ridsB_at hl HV.out]; simp, rfl, rfl⟩
      · have HX' := Lib.hid (ridsB_take_succ hl HX.out hv)
        have hv2 : (!rid xs[k]) = false := by rw [hv]; rfl
        clear hv
        go_wp2_with (go_at_call 66; refine (closR_any _ _).mono ?_; rintro e w' ⟨rfl, rfl⟩)
        exact ⟨⟨k + 1, by omega, by go_num, HX'.out⟩, by simp [intOf]; omega⟩
    · have hkn : k = n := by omega
      subst hkn
      go_wp2_with fail
      go_ret
      exact ⟨-1, by rw [ridsB_all HI.out.1 HX.out]; rfl, rfl, rfl⟩

set_option maxHeartbeats 400000 in
theorem containsFR_any (A : Option Addr) (n c : Nat) (xs : List Int) (w : World) (lo hi : Nat) (hn : n ≤ 9223372036854775807) (h : Ints w lo hi A n xs) :
    Calls Try.prog 59 #[.slice A n c, .func (.func 66) #[] #[]] w fun e w' => e = .returned (.bool (!ridsB xs)) ∧ w = w' := by
  have HI := Lib.hid h
  clear h
  go_enter Try.func59, Try.ntmps59
  go_wp2_with (go_at_call 78; refine (indexFR_any _ _ _ xs _ lo hi hn HI.out).mono ?_; rintro e w' ⟨r, hr, rfl, rfl⟩; have HR := Lib.hid hr; clear hr)
  go_ret
  exact ⟨ret_bool HR.out, rfl⟩

set_option maxHeartbeats 400000 in
theorem implRefs_any (A : Option Addr) (n c : Nat) (xs : List Int) (w : World) (lo hi : Nat) (hn : n ≤ 9223372036854775807) (h : Ints w lo hi A n xs) :
    Calls Try.prog 50 #[.slice A n c] w fun e w' => e = .returned (.bool (refsB xs)) ∧ w = w' := by
  have HI := Lib.hid h
  have HE := Lib.hid (refsB_eq h.1)
  clear h
  by_cases h4 : n = 4
  · subst h4
    go_enter Try.func50, Try.ntmps50
    go_wp2_with (go_at_call 59; refine (containsFR_any _ _ _ xs _ lo hi hn HI.out).mono ?_; rintro e w' ⟨rfl, rfl⟩)
    go_ret
    exact ⟨ret_bool (by rw [HE.out]; simp), rfl⟩
  · have hd : ((n : Int) == 4) = false := by rw [beq_eq_false_iff_ne]; omega
    have H4 := Lib.hid h4
    clear h4
    go_enter Try.func50, Try.ntmps50
    go_wp2_with (go_at_call 59; refine (containsFR_any _ _ _ xs _ lo hi hn HI.out).mono ?_; rintro e w' ⟨rfl, rfl⟩)
    go_ret
    exact ⟨ret_bool (by rw [HE.out, decide_eq_false H4.out]; simp), rfl⟩

end Go.Proofs.Ytgnhanbdfohjaaa
