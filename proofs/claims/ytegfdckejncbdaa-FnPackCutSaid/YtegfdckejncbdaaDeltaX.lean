/-
  The walks of DeltaApply itself, of the program and of the reference. Condition: lengths fit an int64.
-/
import Derived.Test.YtegfdckejncbdaaDeltaW
namespace Go.Proofs.Ytegfdckejncbdaa
set_option linter.unusedVariables false
set_option linter.unusedSimpArgs false
open Go.RowKit

theorem outB_size {base : ByteArray} {o : OpD} (hb : base.size ≤ 8) (h : fitB base.size o = true) : (outB base o).size ≤ 8 := by
  by_cases hs : o.size = 0
  · rw [outB_zero hs]
    rw [fitB_zero hs] at h
    simp only [Bool.and_eq_true, inR_iff] at h
    omega
  · rw [outB_copy hs, ByteArray.size_extract]
    omega

/-- what both DeltaApply answer -/
def DRes (base : ByteArray) (xs : List OpD) : Ending := .returned (.tuple #[.string (strD base xs), .bool (okD base xs)])
theorem DRes_no {base : ByteArray} {xs : List OpD} (h : okD base xs = false) : Ending.returned (.tuple #[.string ⟨#[]⟩, .bool false]) = DRes base xs := by
  unfold DRes; rw [strD_no h, h]; rfl

set_option maxHeartbeats 800000 in
theorem implDelta_any (base : ByteArray) (A : Option Addr) (n c : Nat) (xs : List OpD) (w : World) (lo hi : Nat) (hh : hi ≤ w.heap.size) (hbs : base.size ≤ 9223372036854775807) (hn : n ≤ 9223372036854775807) (h : Fl co w lo hi A n xs) :
    Calls Try.prog 32 #[.string base, .slice A n c] w fun e w' => e = DRes base xs ∧ Below w.heap.size w w' := by
  have HI := Lib.hid h
  clear h
  by_cases hbig : 8 < base.size
  · have hno := Lib.hid (okD_big base (ops := xs) (.inl hbig))
    go_enter Try.func32, Try.ntmps32
    go_wp2
    go_ret2
    exact ⟨DRes_no hno.out, Below.refl _ _⟩
  · have hb8 : base.size ≤ 8 := by omega
    clear hbig hbs
    by_cases hbig : 8 < n
    · have hno := Lib.hid (okD_big base (ops := xs) (.inr (by rw [HI.out.1]; exact hbig)))
      go_enter Try.func32, Try.ntmps32
      go_wp2
      go_ret2
      exact ⟨DRes_no hno.out, Below.refl _ _⟩
    · have hn8 : n ≤ 8 := by omega
      clear hbig hn
      go_enter Try.func32, Try.ntmps32
      go_wp2_with fail
      go_loopw [6, 21] (fun t i wr => ∃ k : Nat, k ≤ n ∧ i = .int .i64 k ∧ (∃ s : ByteArray, t = .string s ∧ Hid (s = catD base (xs.take k)) ∧ s.size ≤ 8) ∧ fitAll base (xs.take k) = true ∧ Below w.heap.size w wr) (fun _ i _ => n - (intOf i).toNat)
      case atStart => exact ⟨0, Nat.zero_le _, rfl, ⟨_, rfl, rfl, by decide⟩, rfl, Below.refl _ _⟩
      case round =>
        obtain ⟨k, hk, rfl, ⟨s, rfl, HS, hs8⟩, hf, hbw⟩ := hrel
        have HF := Lib.hid hf
        have HB := Lib.hid hbw
        have hwsz := hbw.size
        clear hf hbw
        by_cases hlt : k < n
        · obtain ⟨b, o, hl, rfl, _, hbh, hc1, hc2, hc3⟩ := fl_op (HI.out.below HB.out hh) hlt
          rcases hfit : fitB base.size xs[k] with _ | _
          · have hno := Lib.hid (okD_unfit base hl hfit)
            go_wp2_with fail
            refine (part_any base xs[k] _ hb8).mono ?_
            rintro e w2 ⟨s2, -, hb2, rfl⟩
            have HB2 : Hid (Below w.heap.size w w2) := (HB.out.alloc hwsz _).trans (hb2.mono (by simp; omega))
            clear hb2
            go_wp2_with fail
            go_ret2
            exact ⟨DRes_no hno.out, HB2.out⟩
          · have HFIT := Lib.hid hfit
            have hos := outB_size hb8 hfit
            go_wp2_with fail
            refine (part_any base xs[k] _ hb8).mono ?_
            rintro e w2 ⟨s2, hs2, hb2, rfl⟩
            have hs2' := hs2 HFIT.out
            rw [← hs2'] at hos
            have HS2 := Lib.hid hs2'
            have HB2 : Hid (Below w.heap.size w w2) := (HB.out.alloc hwsz _).trans (hb2.mono (by simp; omega))
            clear hb2 hs2 hs2'
            by_cases hlong : 8 < s.size + s2.size
            · have hno := Lib.hid (okD_long base (ops := xs) (k := k + 1) (by rw [catD_take_succ base hl, ByteArray.size_append, ← HS.out, ← HS2.out]; exact hlong))
              go_wp2_with fail
              go_ret2
              exact ⟨DRes_no hno.out, HB2.out⟩
            · have hcat : Hid (s ++ s2 = catD base (xs.take (k + 1))) := by rw [catD_take_succ base hl, ← HS.out, ← HS2.out]; rfl
              have hfa := Lib.hid (fitAll_take_succ base hl HF.out HFIT.out)
              go_wp2_with fail
              go_roundw
              case rel => exact ⟨k + 1, by omega, by go_num, ⟨_, rfl, hcat, by rw [ByteArray.size_append]; omega⟩, hfa.out, HB2.out⟩
              case measure => simp [intOf]; omega
        · have hkn : k = n := by omega
          subst hkn
          have hl := HI.out.1
          have hyes : Hid (okD base xs = true) := by
            have h1 := HF.out
            have h2 := HS.out
            rw [List.take_of_length_le (by omega)] at h1 h2
            exact okD_yes base hb8 (by omega) h1 (by rw [← h2]; exact hs8)
          have hcat : Hid (s = strD base xs) := by
            have h2 := HS.out
            rw [List.take_of_length_le (by omega)] at h2
            rw [strD_yes hyes.out]; exact h2
          clear hl
          go_wp2_with fail
          go_ret2
          exact ⟨ret_sb hcat.out hyes.out.symm, HB.out⟩

theorem bytes_ext {a b : ByteArray} (h : a.data.toList = b.data.toList) : a = b := by
  cases a; cases b; simpa using h
theorem bytes_of_size {a : ByteArray} (h : a.size = 0) : a = ByteArray.empty := by
  apply bytes_ext
  have : a.data.toList.length = 0 := by simpa using h
  rw [List.eq_nil_of_length_eq_zero this]; rfl
theorem fit_bounds {base : ByteArray} {o : OpD} (h : fitB base.size o = true) : 0 ≤ o.at_ ∧ 0 ≤ o.size ∧ o.at_ + o.size ≤ base.size := by
  by_cases hs : o.size = 0
  · rw [fitB_zero hs] at h
    simp only [Bool.and_eq_true, decide_eq_true_eq] at h
    omega
  · rw [fitB_copy hs] at h
    simp only [Bool.and_eq_true, inR_iff] at h
    omega
theorem fit_text {base : ByteArray} {o : OpD} (h : fitB base.size o = true) : o.text.size ≤ 8 := by
  by_cases hs : o.size = 0
  · rw [fitB_zero hs] at h
    simp only [Bool.and_eq_true, inR_iff] at h
    omega
  · rw [fitB_copy hs] at h
    simp only [Bool.and_eq_true, decide_eq_true_eq] at h
    omega
theorem out_spec {base : ByteArray} {o : OpD} (h : fitB base.size o = true) : o.text ++ base.extract o.at_.toNat (o.at_ + o.size).toNat = outB base o := by
  by_cases hs : o.size = 0
  · rw [outB_zero hs]
    have e : base.extract o.at_.toNat (o.at_ + o.size).toNat = ByteArray.empty := bytes_of_size (by rw [ByteArray.size_extract, hs]; omega)
    rw [e, ByteArray.append_empty]
  · rw [outB_copy hs]
    rw [fitB_copy hs] at h
    simp only [Bool.and_eq_true, decide_eq_true_eq] at h
    rw [bytes_of_size h.1, ByteArray.empty_append]

set_option maxHeartbeats 800000 in
theorem specDelta_any (base : ByteArray) (A : Option Addr) (n c : Nat) (xs : List OpD) (w : World) (lo hi : Nat) (hh : hi ≤ w.heap.size) (hbs : base.size ≤ 9223372036854775807) (hn : n ≤ 9223372036854775807) (h : Fl co w lo hi A n xs) :
    Calls Try.prog 61 #[.string base, .slice A n c] w fun e w' => e = DRes base xs ∧ Below w.heap.size w w' := by
  have HI := Lib.hid h
  clear h
  by_cases hbig : 8 < base.size
  · have hno := Lib.hid (okD_big base (ops := xs) (.inl hbig))
    go_enter Try.func61, Try.ntmps61
    go_wp2
    go_ret2
    exact ⟨DRes_no hno.out, Below.refl _ _⟩
  · have hb8 : base.size ≤ 8 := by omega
    clear hbig hbs
    by_cases hbig : 8 < n
    · have hno := Lib.hid (okD_big base (ops := xs) (.inr (by rw [HI.out.1]; exact hbig)))
      go_enter Try.func61, Try.ntmps61
      go_wp2
      go_ret2
      exact ⟨DRes_no hno.out, Below.refl _ _⟩
    · have hn8 : n ≤ 8 := by omega
      clear hbig hn
      go_enter Try.func61, Try.ntmps61
      go_wp2_with fail
      go_loopw [6, 7] (fun t i wr => ∃ k : Nat, k ≤ n ∧ i = .int .i64 k ∧ (∃ s : ByteArray, t = .string s ∧ Hid (s = catD base (xs.take k)) ∧ s.size ≤ 8 * k) ∧ fitAll base (xs.take k) = true ∧ Below w.heap.size w wr) (fun _ i _ => n - (intOf i).toNat)
      case atStart => exact ⟨0, Nat.zero_le _, rfl, ⟨_, rfl, rfl, by decide⟩, rfl, Below.refl _ _⟩
      case round =>
        obtain ⟨k, hk, rfl, ⟨s, rfl, HS, hs8⟩, hf, hbw⟩ := hrel
        have HF := Lib.hid hf
        have HB := Lib.hid hbw
        have hwsz := hbw.size
        clear hf hbw
        by_cases hlt : k < n
        · obtain ⟨b, o, hl, rfl, _, hbh, hc1, hc2, hc3⟩ := fl_op (HI.out.below HB.out hh) hlt
          have hbw : b < wr.heap.size := by omega
          rcases hfit : fitB base.size xs[k] with _ | _
          · have hno := Lib.hid (okD_unfit base hl hfit)
            go_wp2_with fail
            refine (l2Op_any base xs[k] _ hb8).mono ?_
            rintro e w2 ⟨hb2, rfl⟩
            have HB2 : Hid (Below w.heap.size w w2) := HB.out.trans (hb2.mono hwsz)
            clear hb2
            go_wp2_with fail
            go_ret2
            exact ⟨DRes_no hno.out, HB2.out⟩
          · have HFIT := Lib.hid hfit
            have htx := fit_text hfit
            have hos := outB_size hb8 hfit
            have hbd := fit_bounds hfit
            have hbd1 := hbd.1
            have hbd2 := hbd.2.1
            have hbd3 := hbd.2.2
            clear hbd
            go_wp2_with fail
            refine (l2Op_any base xs[k] _ hb8).mono ?_
            rintro e w2 ⟨hb2, rfl⟩
            have HB2 : Hid (Below w.heap.size w w2) := HB.out.trans (hb2.mono hwsz)
            have hcc := (bcell hb2).1
            have hd1 := (hcc b (o + k * 3) hbw).trans hc1
            have hd2 := (hcc b (o + k * 3 + 1) hbw).trans hc2
            have hd3 := (hcc b (o + k * 3 + 2) hbw).trans hc3
            clear hb2 hcc hc1 hc2 hc3
            have hcat : Hid (s ++ xs[k].text ++ base.extract xs[k].at_.toNat (xs[k].at_ + xs[k].size).toNat = catD base (xs.take (k + 1))) := by
              rw [catD_take_succ base hl, ByteArray.append_assoc, out_spec HFIT.out, ← HS.out]; rfl
            have hfa := Lib.hid (fitAll_take_succ base hl HF.out HFIT.out)
            have hsz : Hid ((s ++ xs[k].text ++ base.extract xs[k].at_.toNat (xs[k].at_ + xs[k].size).toNat).size ≤ 8 * (k + 1)) := by
              rw [ByteArray.append_assoc, out_spec HFIT.out, ByteArray.size_append]; show _ ≤ _; omega
            go_wp2_with fail
            go_quiet (fail)
            go_wp2_with fail
            exact ⟨⟨k + 1, by omega, by go_num, ⟨_, rfl, hcat.out, hsz.out⟩, hfa.out, below_drewN HB2.out nq⟩, by simp [intOf]; omega⟩
        · have hkn : k = n := by omega
          subst hkn
          have hl := HI.out.1
          have hcat : s = catD base xs := by
            have h2 := HS.out
            rwa [List.take_of_length_le (by omega)] at h2
          have hfa : fitAll base xs = true := by
            have h1 := HF.out
            rwa [List.take_of_length_le (by omega)] at h1
          by_cases hlong : 8 < s.size
          · have hno := Lib.hid (okD_long base (ops := xs) (k := k) (by rw [List.take_of_length_le (by omega), ← hcat]; exact hlong))
            clear hl hcat hfa
            go_wp2_with fail
            go_ret2
            exact ⟨DRes_no hno.out, HB.out⟩
          · have hyes : Hid (okD base xs = true) := okD_yes base hb8 (by omega) hfa (by rw [← hcat]; omega)
            have hres : Hid (s = strD base xs) := by rw [strD_yes hyes.out]; exact hcat
            clear hl hcat hfa
            go_wp2_with fail
            go_ret2
            exact ⟨ret_sb hres.out hyes.out.symm, HB.out⟩

end Go.Proofs.Ytegfdckejncbdaa
