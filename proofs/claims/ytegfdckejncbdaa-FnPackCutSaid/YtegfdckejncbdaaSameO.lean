/-
  The walks of the laws' sameInts, sameObject and sameObjects on equal lists, and of impl.ObjectValid and impl.PackDepth. Condition: lengths are small.
-/
import Derived.Test.YtegfdckejncbdaaPackK
import Derived.Test.YtegfdckejncbdaaObjV
namespace Go.Proofs.Ytegfdckejncbdaa
set_option linter.unusedVariables false
set_option linter.unusedSimpArgs false
open Go.RowKit

set_option maxHeartbeats 400000 in
theorem sameInts_any (A A' : Option Addr) (n c c' : Nat) (xs : List Int) (w : World) (lo hi lo' hi' : Nat) (hn : n ≤ 9223372036854775807) (h : Ints w lo hi A n xs) (h' : Ints w lo' hi' A' n xs) :
    Calls Try.prog 63 #[.slice A n c, .slice A' n c'] w fun e w' => e = .returned (.bool true) ∧ ∃ m, w' = w.drewN m := by
  have HI := Lib.hid h
  have HJ := Lib.hid h'
  have hnn : (!((n : Int) == n)) = false := by simp
  clear h h'
  go_enter Try.func63, Try.ntmps63
  go_wp2
  go_loopw [5] (fun i wr => ∃ k : Nat, k ≤ n ∧ i = .int .i64 k ∧ ∃ m, wr = w.drewN m) (fun i _ => n - (intOf i).toNat)
  case atStart => exact ⟨0, Nat.zero_le _, rfl, 0, rfl⟩
  case round =>
    obtain ⟨k, hk, rfl, m, rfl⟩ := hrel
    by_cases hlt : k < n
    · obtain ⟨b, o, hl, rfl, _, _, hc⟩ := HI.out.int hlt
      obtain ⟨b', o', hl', rfl, _, _, hc'⟩ := HJ.out.int hlt
      have hd : (!(xs[k] == xs[k])) = false := by simp
      go_wp2
      go_quiet (fail)
      go_wp2
      exact ⟨⟨k + 1, by omega, by go_num, m + nq, rfl⟩, by simp [intOf]; omega⟩
    · have hkn : k = n := by omega
      subst hkn
      go_wp2
      go_ret
      exact ⟨rfl, m, rfl⟩

theorem below_dN (w : World) (m : Nat) : Below w.heap.size w (w.drewN m) := below_drewN (Below.refl _ _) m

set_option maxHeartbeats 800000 in
theorem sameObject_any (kind : Int) (links : List Int) (text : ByteArray) (A A' : Option Addr) (n c c' : Nat) (w : World) (lo hi lo' hi' : Nat) (hh : hi ≤ w.heap.size) (hh' : hi' ≤ w.heap.size) (hn : n ≤ 9223372036854775807) (h : Ints w lo hi A n links) (h' : Ints w lo' hi' A' n links) :
    Calls Try.prog 39 #[.agg #[.int .i64 kind, .slice A n c, .string text], .agg #[.int .i64 kind, .slice A' n c', .string text]] w fun e w' => e = .returned (.bool true) ∧ Below w.heap.size w w' := by
  have hq1 : (kind == kind) = true := by simp
  have hq2 : (text.toList == text.toList) = true := by simp
  obtain ⟨w2, hw2⟩ : ∃ w2, w2 = (w.alloc (.cells #[.int .i64 kind, .slice A n c, .string text] 39)).alloc (.cells #[.int .i64 kind, .slice A' n c', .string text] 39) := ⟨_, rfl⟩
  have HB : Hid (Below w.heap.size w ((w.alloc (.cells #[.int .i64 kind, .slice A n c, .string text] 39)).alloc (.cells #[.int .i64 kind, .slice A' n c', .string text] 39))) := ((Below.refl _ _).alloc (Nat.le_refl _) _).alloc (by simp) _
  have HI := Lib.hid (Fl.below h HB.out hh)
  have HJ := Lib.hid (Fl.below h' HB.out hh')
  clear h h' hw2
  go_enter Try.func39, Try.ntmps39
  go_wp2_with fail
  refine (sameInts_any A A' n c c' links _ _ _ _ _ hn HI.out HJ.out).mono ?_
  rintro e w3 ⟨rfl, m, rfl⟩
  go_wp2_with fail
  go_ret
  exact ⟨rfl, below_drewN HB.out m⟩

set_option maxHeartbeats 1600000 in
set_option maxRecDepth 100000 in
theorem sameObjects_any (os : List ObjD) (A A' : Option Addr) (n c c' : Nat) (w : World) (lo hi lo' hi' : Nat) (hh : hi ≤ w.heap.size) (hh' : hi' ≤ w.heap.size) (h : D.rd w lo hi (dObjects os) (.slice A n c)) (h' : D.rd w lo' hi' (dObjects os) (.slice A' n c')) :
    Calls Try.prog 16 #[.slice A n c, .slice A' n c'] w fun e w' => e = .returned (.bool true) ∧ Below w.heap.size w w' := by
  have HI := Lib.hid h
  have HJ := Lib.hid h'
  have hn63 : n ≤ 9223372036854775807 := by have := h.len; omega
  have hnn : (!((n : Int) == n)) = false := by simp
  clear h h'
  go_enter Try.func16, Try.ntmps16
  go_wp2_with fail
  go_loopw [5] (fun i wr => ∃ k : Nat, k ≤ n ∧ i = .int .i64 k ∧ Below w.heap.size w wr) (fun i _ => n - (intOf i).toNat)
  case atStart => exact ⟨0, Nat.zero_le _, rfl, Below.refl _ _⟩
  case round =>
    obtain ⟨k, hk, rfl, hb⟩ := hrel
    have HB := Lib.hid hb
    have hws := hb.size
    clear hb
    by_cases hlt : k < n
    · obtain ⟨b, o, hl, A1, n1, c1, rfl, -, hbh, hc0, hc1, hc2, ⟨hn1, hm1, hr1⟩, -⟩ := rd_Object (HI.out.below HB.out hh) hlt
      obtain ⟨b', o', hl', A2, n2, c2, rfl, -, hbh', hd0, hd1, hd2, ⟨hn2, hm2, hr2⟩, -⟩ := rd_Object (HJ.out.below HB.out hh') hlt
      obtain rfl : n1 = n2 := by have := hr1.ints.1; have := hr2.ints.1; omega
      have HR1 := Lib.hid hr1.drew.ints
      have HR2 := Lib.hid hr2.drew.ints
      clear hr1 hr2
      generalize os[k] = o1 at *
      obtain ⟨kind, links, text⟩ := o1
      dsimp only at hc0 hc1 hc2 hd0 hd1 hd2
      go_wp2_with fail
      go_still_tail 8, (by kernel_rfl)
      change wpList _ _ _ _ _ wr.drew
      go_wp2_with fail
      refine (sameObject_any kind links text A1 A2 n1 c1 c2 wr.drew lo hi lo' hi' (Nat.le_trans hh hws) (Nat.le_trans hh' hws) (by omega) HR1.out HR2.out).mono ?_
      rintro e w3 ⟨rfl, hb3⟩
      have HB3 := Lib.hid (bel_tr HB.out (Nat.le_refl _) (bel_dr hb3))
      clear hb3
      go_wp2_with fail
      exact ⟨⟨k + 1, by omega, by go_num, HB3.out⟩, by simp [intOf]; omega⟩
    · have hkn : k = n := by omega
      subst hkn
      go_wp2_with fail
      go_ret
      exact ⟨rfl, HB.out⟩

set_option maxHeartbeats 800000 in
theorem implObjValid_any (kind : Int) (links : List Int) (text : ByteArray) (A : Option Addr) (n c : Nat) (w : World) (lo hi : Nat) (hh : hi ≤ w.heap.size) (ht : text.size ≤ 9223372036854775807) (h : D.rd w lo hi (intsD links) (.slice A n c)) :
    Calls Try.prog 17 #[.agg #[.int .i64 kind, .slice A n c, .string text]] w fun e w' => e = .returned (.bool (objB ⟨kind, links, text⟩)) ∧ Below w.heap.size w w' := by
  have HB : Hid (Below w.heap.size w (w.alloc (.cells #[.int .i64 kind, .slice A n c, .string text] 39))) := (Below.refl _ _).alloc (Nat.le_refl _) _
  have HI := Lib.hid (h.alloc hh (.cells #[.int .i64 kind, .slice A n c, .string text] 39))
  clear h
  go_enter Try.func17, Try.ntmps17
  go_wp2_with fail
  refine (objOk_any kind links text A n c _ lo hi (by simp; omega) ht HI.out).mono ?_
  rintro e w2 ⟨rfl, hb2⟩
  have HB2 := Lib.hid (bel_tr HB.out (Nat.le_refl _) hb2)
  clear hb2
  go_wp2_with fail
  go_ret
  exact ⟨rfl, HB2.out⟩

set_option maxHeartbeats 1600000 in
set_option maxRecDepth 100000 in
theorem packDepth_any (ps : List PED) (A : Option Addr) (n c i : Nat) (w : World) (lo hi : Nat) (hh : hi ≤ w.heap.size) (hn : n ≤ 1048576) (h : D.rd w lo hi (dPackEntrys ps) (.slice A n c)) (hB : linkB ps = true) (hi' : i < n) :
    Calls Try.prog 18 #[.slice A n c, .int .i64 (i : Nat)] w fun e w' => e = .returned (.int .i64 ((depP ps i : Nat) : Int)) ∧ Below w.heap.size w w' := by
  have HI := Lib.hid h
  have HN := Lib.hid h.len.1
  have HLB := Lib.hid hB
  have hin : inR (i : Int) 0 ((n : Int) - 1) = true := by rw [inR_iff]; omega
  clear h hB
  go_enter Try.func18, Try.ntmps18
  go_wp2_with fail
  refine (linkPack_any ps A n c _ lo hi hh hn HI.out).mono ?_
  rintro e w1 ⟨hb1, ⟨hf, rfl⟩ | ⟨-, V, cv, gs, hG, hcv, hcm, hO, hND, rfl⟩⟩
  · rw [HLB.out] at hf; cases hf
  have HB1 := Lib.hid hb1
  have HG := Lib.hid hG
  have HND := Lib.hid hND
  have hig : i < gs.length := by omega
  obtain ⟨gv, rfl, hgv1, hgv2⟩ := own_row_at hO (by omega)
  have hcell : w1.cell? ⟨gv, i, none⟩ = some (.pointer (some ⟨gs[i], 0, none⟩)) := by
    have h1 := hO.cellAt (g := gv) i (by omega)
    rw [h1]; simp [hig]
  have HTB : Hid (allTo (baseOk ps) gs.length = true) := by show _ = _; rw [hG, HN.out]; exact HLB.out
  clear hb1 hG hND hO
  go_wp2_with (go_at_call 40; refine (inRange_any _ _ _ _).mono ?_; rintro e w' ⟨rfl, rfl⟩)
  refine (depth_any ps _ lo hi w.heap.size i _ gs HND.out HTB.out hig (by rw [HG.out]; omega)).mono ?_
  rintro e w2 ⟨rfl, rfl⟩
  go_wp2_with fail
  go_ret
  exact ⟨rfl, HB1.out⟩

end Go.Proofs.Ytegfdckejncbdaa
