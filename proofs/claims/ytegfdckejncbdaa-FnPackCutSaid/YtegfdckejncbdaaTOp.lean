/-
  The datum of Op, and the walks of the laws' functions that count, copy and compare it (szOp, toOp, eqOp and those over slices). Condition: lengths fit an int64.
-/
import Derived.Test.YtegfdckejncbdaaNestA
import Derived.Test.YtegfdckejncbdaaDeltaP
import Derived.Test.YtegfdckejncbdaaIntD
import Derived.StillTailTactics
namespace Go.Proofs.Ytegfdckejncbdaa
set_option linter.unusedVariables false
set_option linter.unusedSimpArgs false
open Go.RowKit

/-- the fields of a value of type Op -/
def fOp (x : OpD) : List D := [.int x.at_, .int x.size, .str x.text]
theorem fOp_len (x : OpD) : (fOp x).length = 3 := rfl
/-- a slice of them -/
def dOps (xs : List OpD) : D := .arr 3 xs.length (xs.flatMap fOp)
theorem szL_fOp (x : OpD) : D.szL (fOp x) = x.text.size := by
  unfold fOp
  simp only [szL_cons, szL_nil, sz_int, sz_str]
  omega

theorem rd_Op {w : World} {lo hi n k c : Nat} {A : Option Addr} {xs : List OpD} (h : D.rd w lo hi (dOps xs) (.slice A n c)) (hk : k < n) :
    ∃ (b o : Nat) (hl : k < xs.length), A = some ⟨b, o, none⟩ ∧ lo ≤ b ∧ b < hi ∧ w.cell? ⟨b, o + k * 3, none⟩ = some (.int .i64 xs[k].at_) ∧ w.cell? ⟨b, o + k * 3 + 1, none⟩ = some (.int .i64 xs[k].size) ∧ w.cell? ⟨b, o + k * 3 + 2, none⟩ = some (.string xs[k].text) ∧ xs[k].text.size ≤ 9223372036854775807 := by
  have hn := h.len.1
  obtain ⟨b, o, hl, rfl, g1, g2, hc⟩ := h.at_ fOp_len (by omega) (k := k) (by omega)
  obtain ⟨u0, hu0, hr0⟩ := hc 0 _ rfl
  obtain rfl := hr0.int_inv
  obtain ⟨u1, hu1, hr1⟩ := hc 1 _ rfl
  obtain rfl := hr1.int_inv
  obtain ⟨u2, hu2, hr2⟩ := hc 2 _ rfl
  obtain ⟨rfl, ht2⟩ := hr2.str_inv
  exact ⟨b, o, hl, rfl, g1, g2, hu0, hu1, hu2, ht2⟩

theorem sz_Op_get {xs : List OpD} {x : OpD} (hx : x ∈ xs) : D.szL (fOp x) ≤ D.sz (dOps xs) := by
  unfold dOps
  rw [sz_arr]
  have := szL_get fOp xs hx
  omega

set_option maxRecDepth 100000 in
set_option maxHeartbeats 800000 in
theorem szOp_d (at_ : Int) (size : Int) (text : ByteArray) (left : Int) (w : World) (lo hi : Nat) (hh : hi ≤ w.heap.size) (ht2 : text.size ≤ 9223372036854775807) (h0 : 0 ≤ left) (hl : left ≤ 1048576) :
    Calls Try.prog 64 #[.agg #[.int .i64 at_, .int .i64 size, .string text], .int .i64 left] w fun e w' => SzR left (D.szL (fOp (⟨at_, size, text⟩ : OpD))) w e w' := by
  have HB0 : Hid (Below w.heap.size w (w.alloc (.cells #[.int .i64 at_, .int .i64 size, .string text] 91))) := (Below.refl _ _).alloc (Nat.le_refl _) _
  go_enter Try.func64, Try.ntmps64
  by_cases hq1 : left < (text.size : Int)
  · go_wp2_with fail
    go_ret
    exact ⟨-1, by omega, by omega, by omega, HB0.out, rfl⟩
  have hp1 : 0 ≤ left - (text.size : Int) := by omega
  clear hq1
  go_wp2_with fail
  go_ret
  exact ⟨_, by omega, by omega, fun _ => by have h9 := szL_fOp ⟨at_, size, text⟩; dsimp only at h9; omega, HB0.out, rfl⟩

set_option maxRecDepth 100000 in
set_option maxHeartbeats 800000 in
theorem szOpS_d (xs : List OpD) (A : Option Addr) (n c : Nat) (left : Int) (w : World) (lo hi : Nat) (hh : hi ≤ w.heap.size) (h : D.rd w lo hi (dOps xs) (.slice A n c)) (h0 : 0 ≤ left) (hlf : left ≤ 1048576) :
    Calls Try.prog 47 #[.slice A n c, .int .i64 left] w fun e w' => SzR left (D.sz (dOps xs)) w e w' := by
  have HI := Lib.hid h
  have HN := Lib.hid h.len.1
  have hnc := h.len.2.1
  have hcm := h.len.2.2
  rw [← h.len.1] at hnc
  clear h
  have HS : Hid (D.sz (dOps xs) = n + D.szL (xs.flatMap fOp)) := by
    show D.sz (dOps xs) = _
    unfold dOps
    rw [sz_arr, HN.out]
  by_cases hbig : left < n
  · go_enter Try.func47, Try.ntmps47
    go_wp2_with fail
    go_ret
    exact ⟨-1, by omega, by omega, by omega, Below.refl _ _, rfl⟩
  · have hnl : (n : Int) ≤ left := by omega
    clear hbig
    go_enter Try.func47, Try.ntmps47
    go_wp2_with fail
    go_loopw [1, 5] (fun l i wr => ∃ (k : Nat) (q : Int), k ≤ n ∧ i = .int .i64 k ∧ l = .int .i64 q ∧ 0 ≤ q ∧ q ≤ left ∧ Hid (q + n + (D.szL ((xs.take k).flatMap fOp) : Nat) ≤ left) ∧ Below w.heap.size w wr) (fun _ i _ => n - (intOf i).toNat)
    case atStart => exact ⟨0, _, Nat.zero_le _, rfl, rfl, by omega, by omega, by show _ ≤ left; rw [List.take_zero, List.flatMap_nil, szL_nil]; omega, Below.refl _ _⟩
    case round =>
      obtain ⟨k, q, hk, rfl, rfl, hq0, hq1, HQ, hbw⟩ := hrel
      have HB := Lib.hid hbw
      have hwsz := hbw.size
      clear hbw
      by_cases hlt : k < n
      · obtain ⟨b, o, hl, rfl, _, hbh, hc0, hc1, hc2, ht2⟩ := rd_Op (HI.out.below HB.out hh) hlt
        have HST := Lib.hid (szL_take fOp xs k hl)
        have hcm_ := hcm
        go_wp2_with fail
        refine (szOp_d xs[k].at_ xs[k].size xs[k].text q _ lo hi (Nat.le_trans hh HB.out.size) ht2 hq0 (by omega)).mono ?_
        rintro e w2 ⟨r, hr1, hr2, hr3, hb2, rfl⟩
        have HB2 := Lib.hid (bel_tr HB.out (Nat.le_refl _) hb2)
        clear hb2
        by_cases hr0 : r < 0
        · go_wp2_with fail
          go_ret
          exact ⟨-1, by omega, by omega, by omega, HB2.out, rfl⟩
        · have hr4 : 0 ≤ r := by omega
          have HS3 := Lib.hid (hr3 hr4)
          clear hr0 hr3
          go_wp2_with fail
          exact ⟨⟨k + 1, r, by omega, by go_num, rfl, hr4, by omega, by have h1 : r + (D.szL (fOp xs[k]) : Nat) ≤ q := HS3.out; have h2 := HQ.out; show _ ≤ left; rw [HST.out]; omega, HB2.out⟩, by simp [intOf]; omega⟩
      · have hkn : k = n := by omega
        subst hkn
        go_wp2_with fail
        go_ret
        refine ⟨_, by omega, by omega, fun _ => ?_, HB.out, rfl⟩
        have h2 := HQ.out
        rw [List.take_of_length_le (by rw [HN.out]; exact Nat.le_refl _)] at h2
        rw [HS.out]
        omega

set_option maxRecDepth 100000 in
set_option maxHeartbeats 1600000 in
theorem toOp_d (at_ : Int) (size : Int) (text : ByteArray) (w : World) (lo hi : Nat) (hh : hi ≤ w.heap.size) (ht2 : text.size ≤ 9223372036854775807) :
    Calls Try.prog 65 #[.agg #[.int .i64 at_, .int .i64 size, .string text]] w fun e w' => OwnL w' w.heap.size (fOp (⟨at_, size, text⟩ : OpD)) [.int .i64 at_, .int .i64 size, .string text] ∧ Below w.heap.size w w' ∧ e = .returned (.agg #[.int .i64 at_, .int .i64 size, .string text]) := by
  go_enter Try.func65, Try.ntmps65
  go_wp2_with fail
  exact bodyPost_ret (v := .agg #[.int .i64 at_, .int .i64 size, .string text]) (by simp [results, Try.results65, go_sem]) rfl ⟨(((OwnL.nil _ _).int _).int _).str ht2, (((Below.refl _ _).alloc (Nat.le_refl _) _).alloc (by simp) _).alloc (by simp; omega) _, rfl⟩

theorem Try.infoOp : (Try.prog.info? 87).map (fun i => (i.zero, i.size, i.bytes)) = some (some (.agg #[.int .i64 0, .int .i64 0, .string ⟨#[]⟩]), 3, 32) := by kernel_rfl
def zOp : List Value := [.int .i64 0, .int .i64 0, .string ⟨#[]⟩]
set_option maxRecDepth 100000 in
set_option maxHeartbeats 1600000 in
theorem toOpS_d (xs : List OpD) (A : Option Addr) (n c : Nat) (w : World) (lo hi : Nat) (hh : hi ≤ w.heap.size) (h : D.rd w lo hi (dOps xs) (.slice A n c)) (hs : D.sz (dOps xs) ≤ 1048576) :
    Calls Try.prog 49 #[.slice A n c] w fun e w' => ∃ (B : Option Addr) (d : Nat), Own w' w.heap.size (dOps xs) (.slice B n d) ∧ Below w.heap.size w w' ∧ e = .returned (.slice B n d) := by
  have HI := Lib.hid h
  have HN := Lib.hid h.len.1
  have HSZ := Lib.hid hs
  have hn20 : n ≤ 1048576 := by
    have h1 := h.len.1
    unfold dOps at hs
    rw [sz_arr] at hs; omega
  clear h hs
  obtain ⟨i0, hi0, hz0, hz1, hz2⟩ := info_parts Try.infoOp
  have hmk := run_make_rowN (P := Try.prog) 48 87 i0 _ Try.underlying48 hi0 hz0 n (by rw [hz2]; omega) (by unfold maxLen; omega)
  rw [hz1] at hmk
  have hml := made_cells zOp (by simp [zOp]) n
  have hown : ∀ W : World, FillS fOp 3 zOp 87 (W.alloc (.cells (madeCells #[.int .i64 0, .int .i64 0, .string ⟨#[]⟩] (n * 3)) 87)) W.heap.size n 0 xs := fun W => by
    have := World.ownsRow_lit (e := 87) (size := 3) W (madeCells #[.int .i64 0, .int .i64 0, .string ⟨#[]⟩] (n * 3)) n (Nat.le_refl W.heap.size) (by unfold maxLen; omega) (by simp [madeCells])
    rw [show (madeCells #[.int .i64 0, .int .i64 0, .string ⟨#[]⟩] (n * 3)).toList = (List.replicate n zOp).flatten from hml] at this
    exact FillS.start this
  have HO := Lib.hid hown
  clear hown hml hi0 hz0 hz1 hz2
  go_enter Try.func49, Try.ntmps49
  go_wp2_with fail
  go_loopw [4] (fun i wr => ∃ k : Nat, k ≤ n ∧ i = .int .i64 k ∧ FillS fOp 3 zOp 87 wr w.heap.size n k xs ∧ Below w.heap.size w wr) (fun i _ => n - (intOf i).toNat)
  case atStart => exact ⟨0, Nat.zero_le _, rfl, HO.out w, (Below.refl _ _).alloc (Nat.le_refl _) _⟩
  case round =>
    obtain ⟨k, hk, rfl, hown, hb⟩ := hrel
    have HOW := Lib.hid hown
    have HB := Lib.hid hb
    have hwsz := hb.size
    have hlo := hown.lt
    clear hown hb
    by_cases hlt : k < n
    · obtain ⟨b, o, hl, rfl, _, hbh, hc0, hc1, hc2, ht2⟩ := rd_Op (HI.out.below HB.out hh) hlt
      have hsz0 := HSZ.out
      go_wp2_with fail
      refine (toOp_d xs[k].at_ xs[k].size xs[k].text _ lo hi (Nat.le_trans hh HB.out.size) ht2).mono ?_
      rintro e w2 ⟨hd, hb2, rfl⟩
      have HB2 := Lib.hid (bel_tr HB.out (Nat.le_refl _) hb2)
      have hown2 := HOW.out.fresh hb2
      obtain ⟨u0, hg0, hf0⟩ := hown2.cell hlt 0 (by omega)
      obtain ⟨u1, hg1, hf1⟩ := hown2.cell hlt 1 (by omega)
      obtain ⟨u2, hg2, hf2⟩ := hown2.cell hlt 2 (by omega)
      rw [Nat.add_zero] at hg0 hf0
      have HST := Lib.hid (HOW.out.step fOp_len rfl hl hlt hb2 hd)
      have hlo2 := hown2.lt
      clear hown2 hb2 hd hsz0
      go_wp2_with fail
      go_roundw
      case rel => exact ⟨k + 1, by omega, by go_num, HST.out, ((HB2.out.setCell (Nat.le_refl _) _).setCell (Nat.le_refl _) _).setCell (Nat.le_refl _) _⟩
      case measure => simp [intOf]; omega
    · have hkn : k = n := by omega
      subst hkn
      go_wp2_with fail
      go_ret
      exact ⟨_, _, by have h1 := HOW.out.done HN.out.symm; rw [HN.out] at h1 ⊢; exact h1, HB.out, rfl⟩

set_option maxRecDepth 100000 in
set_option maxHeartbeats 1600000 in
theorem eqOp_d (at_ : Int) (size : Int) (text : ByteArray) (w : World) (lo hi lo' hi' : Nat) (hh : hi ≤ w.heap.size) (hh' : hi' ≤ w.heap.size) :
    Calls Try.prog 66 #[.agg #[.int .i64 at_, .int .i64 size, .string text], .agg #[.int .i64 at_, .int .i64 size, .string text]] w fun e w' => e = .returned (.bool true) ∧ Below w.heap.size w w' := by

  have he0 : (!(at_ == at_)) = false := by simp
  have he1 : (!(size == size)) = false := by simp
  have he2 : (!(text.toList == text.toList)) = false := by simp
  have HB0 : Hid (Below w.heap.size w ((w.alloc (.cells #[.int .i64 at_, .int .i64 size, .string text] 87)).alloc (.cells #[.int .i64 at_, .int .i64 size, .string text] 87))) := ((Below.refl _ _).alloc (Nat.le_refl _) _).alloc (by simp) _
  go_enter Try.func66, Try.ntmps66
  go_wp2_with fail
  go_ret
  exact ⟨rfl, HB0.out⟩

set_option maxRecDepth 100000 in
set_option maxHeartbeats 1600000 in
theorem eqOpS_d (xs : List OpD) (A A' : Option Addr) (n n' c c' : Nat) (w : World) (lo hi lo' hi' : Nat) (hh : hi ≤ w.heap.size) (hh' : hi' ≤ w.heap.size) (h : D.rd w lo hi (dOps xs) (.slice A n c)) (h' : D.rd w lo' hi' (dOps xs) (.slice A' n' c')) :
    Calls Try.prog 51 #[.slice A n c, .slice A' n' c'] w fun e w' => e = .returned (.bool true) ∧ Below w.heap.size w w' := by
  have h1 := h.len
  have h2 := h'.len
  obtain rfl : n' = n := h2.1.trans h1.1.symm
  have hn63 : n' ≤ 9223372036854775807 := by omega
  have HI := Lib.hid h
  have HJ := Lib.hid h'
  clear h h' h1 h2
  go_enter Try.func51, Try.ntmps51
  go_wp2_with fail
  go_loopw [5] (fun i wr => ∃ k : Nat, k ≤ n' ∧ i = .int .i64 k ∧ Below w.heap.size w wr) (fun i _ => n' - (intOf i).toNat)
  case atStart => exact ⟨0, Nat.zero_le _, rfl, Below.refl _ _⟩
  case round =>
    obtain ⟨k, hk, rfl, hb⟩ := hrel
    have HB := Lib.hid hb
    have hwsz := hb.size
    clear hb
    by_cases hlt : k < n'
    · obtain ⟨b, o, hl, rfl, _, hbh, hc0, hc1, hc2, ht2⟩ := rd_Op (HI.out.below HB.out hh) hlt
      obtain ⟨b', o', hl', rfl, _, hbh', hd0, hd1, hd2, -⟩ := rd_Op (HJ.out.below HB.out hh') hlt
      go_wp2_with fail
      go_still_tail 8, (by kernel_rfl)
      change wpList _ _ _ _ _ wr.drew
      go_wp2_with fail
      refine (eqOp_d xs[k].at_ xs[k].size xs[k].text wr.drew lo hi lo' hi' (Nat.le_trans hh HB.out.size) (Nat.le_trans hh' HB.out.size)).mono ?_
      rintro e w2 ⟨rfl, hb2⟩
      have HB2 : Hid (Below w.heap.size w w2) := HB.out.drew.trans (hb2.mono hwsz)
      clear hb2
      go_wp2_with fail
      go_roundw
      case rel => exact ⟨k + 1, by omega, by go_num, HB2.out⟩
      case measure => simp [intOf]; omega
    · have hkn : k = n' := by omega
      subst hkn
      go_wp2_with fail
      go_ret
      exact ⟨rfl, HB.out⟩

end Go.Proofs.Ytegfdckejncbdaa
