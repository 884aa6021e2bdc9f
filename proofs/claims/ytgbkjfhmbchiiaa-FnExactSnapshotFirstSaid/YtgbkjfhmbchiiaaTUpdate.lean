/-
  The datum of Update, and the walks of the laws' functions that count, copy and compare it (szUpdate, toUpdate, eqUpdate and those over slices). Condition: lengths fit an int64.
-/
import Derived.Test.YtgbkjfhmbchiiaaNestA
import Derived.Test.YtgbkjfhmbchiiaaRefsP
import Derived.Test.YtgbkjfhmbchiiaaIntD
import Derived.StillTailTactics
namespace Go.Proofs.Ytgbkjfhmbchiiaa
set_option linter.unusedVariables false
set_option linter.unusedSimpArgs false
open Go.RowKit

/-- the fields of a value of type Update -/
def fUpdate (x : Upd) : List D := [.int x.ref, .int x.old, .int x.new_]
theorem fUpdate_len (x : Upd) : (fUpdate x).length = 3 := rfl
/-- a slice of them -/
def dUpdates (xs : List Upd) : D := .arr 3 xs.length (xs.flatMap fUpdate)
theorem szL_fUpdate (x : Upd) : D.szL (fUpdate x) = 0 := by
  unfold fUpdate
  simp only [szL_cons, szL_nil, sz_int]

theorem rd_Update {w : World} {lo hi n k c : Nat} {A : Option Addr} {xs : List Upd} (h : D.rd w lo hi (dUpdates xs) (.slice A n c)) (hk : k < n) :
    ∃ (b o : Nat) (hl : k < xs.length), A = some ⟨b, o, none⟩ ∧ lo ≤ b ∧ b < hi ∧ w.cell? ⟨b, o + k * 3, none⟩ = some (.int .i64 xs[k].ref) ∧ w.cell? ⟨b, o + k * 3 + 1, none⟩ = some (.int .i64 xs[k].old) ∧ w.cell? ⟨b, o + k * 3 + 2, none⟩ = some (.int .i64 xs[k].new_) := by
  have hn := h.len.1
  obtain ⟨b, o, hl, rfl, g1, g2, hc⟩ := h.at_ fUpdate_len (by omega) (k := k) (by omega)
  obtain ⟨u0, hu0, hr0⟩ := hc 0 _ rfl
  obtain rfl := hr0.int_inv
  obtain ⟨u1, hu1, hr1⟩ := hc 1 _ rfl
  obtain rfl := hr1.int_inv
  obtain ⟨u2, hu2, hr2⟩ := hc 2 _ rfl
  obtain rfl := hr2.int_inv
  exact ⟨b, o, hl, rfl, g1, g2, hu0, hu1, hu2⟩

theorem sz_Update_get {xs : List Upd} {x : Upd} (hx : x ∈ xs) : D.szL (fUpdate x) ≤ D.sz (dUpdates xs) := by
  unfold dUpdates
  rw [sz_arr]
  have := szL_get fUpdate xs hx
  omega

set_option maxRecDepth 100000 in
set_option maxHeartbeats 800000 in
theorem szUpdateS_d (xs : List Upd) (A : Option Addr) (n c : Nat) (left : Int) (w : World) (lo hi : Nat) (hh : hi ≤ w.heap.size) (h : D.rd w lo hi (dUpdates xs) (.slice A n c)) (h0 : 0 ≤ left) (hlf : left ≤ 1048576) :
    Calls Try.prog 104 #[.slice A n c, .int .i64 left] w fun e w' => SzR left (D.sz (dUpdates xs)) w e w' := by
  have HI := Lib.hid h
  have HN := Lib.hid h.len.1
  have hnc := h.len.2.1
  have hcm := h.len.2.2
  rw [← h.len.1] at hnc
  clear h
  have HS : Hid (D.sz (dUpdates xs) = n + D.szL (xs.flatMap fUpdate)) := by
    show D.sz (dUpdates xs) = _
    unfold dUpdates
    rw [sz_arr, HN.out]
  by_cases hbig : left < n
  · go_enter Try.func104, Try.ntmps104
    go_wp2_with fail
    go_ret
    exact ⟨-1, by omega, by omega, by omega, Below.refl _ _, rfl⟩
  · have hnl : (n : Int) ≤ left := by omega
    clear hbig
    go_enter Try.func104, Try.ntmps104
    go_wp2_with fail
    go_ret
    refine ⟨_, by omega, by omega, fun _ => ?_, Below.refl _ _, rfl⟩
    rw [HS.out]
    have hz : ∀ ys : List Upd, D.szL (ys.flatMap fUpdate) = 0 := fun ys => by
      induction ys with
      | nil => exact szL_nil
      | cons y ys ih => rw [List.flatMap_cons, szL_app, ih, szL_fUpdate]
    rw [hz]
    omega

set_option maxRecDepth 100000 in
set_option maxHeartbeats 1600000 in
theorem toUpdate_d (ref : Int) (old : Int) (new_ : Int) (w : World) (lo hi : Nat) (hh : hi ≤ w.heap.size) :
    Calls Try.prog 108 #[.agg #[.int .i64 ref, .int .i64 old, .int .i64 new_]] w fun e w' => OwnL w' w.heap.size (fUpdate (⟨ref, old, new_⟩ : Upd)) [.int .i64 ref, .int .i64 old, .int .i64 new_] ∧ Below w.heap.size w w' ∧ e = .returned (.agg #[.int .i64 ref, .int .i64 old, .int .i64 new_]) := by
  go_enter Try.func108, Try.ntmps108
  go_wp2_with fail
  exact bodyPost_ret (v := .agg #[.int .i64 ref, .int .i64 old, .int .i64 new_]) (by simp [results, Try.results108, go_sem]) rfl ⟨(((OwnL.nil _ _).int _).int _).int _, (((Below.refl _ _).alloc (Nat.le_refl _) _).alloc (by simp) _).alloc (by simp; omega) _, rfl⟩

theorem Try.infoUpdate : (Try.prog.info? 88).map (fun i => (i.zero, i.size, i.bytes)) = some (some (.agg #[.int .i64 0, .int .i64 0, .int .i64 0]), 3, 24) := by kernel_rfl
def zUpdate : List Value := [.int .i64 0, .int .i64 0, .int .i64 0]
set_option maxRecDepth 100000 in
set_option maxHeartbeats 1600000 in
theorem toUpdateS_d (xs : List Upd) (A : Option Addr) (n c : Nat) (w : World) (lo hi : Nat) (hh : hi ≤ w.heap.size) (h : D.rd w lo hi (dUpdates xs) (.slice A n c)) (hs : D.sz (dUpdates xs) ≤ 1048576) :
    Calls Try.prog 105 #[.slice A n c] w fun e w' => ∃ (B : Option Addr) (d : Nat), Own w' w.heap.size (dUpdates xs) (.slice B n d) ∧ Below w.heap.size w w' ∧ e = .returned (.slice B n d) := by
  have HI := Lib.hid h
  have HN := Lib.hid h.len.1
  have HSZ := Lib.hid hs
  have hn20 : n ≤ 1048576 := by
    have h1 := h.len.1
    unfold dUpdates at hs
    rw [sz_arr] at hs; omega
  clear h hs
  obtain ⟨i0, hi0, hz0, hz1, hz2⟩ := info_parts Try.infoUpdate
  have hmk := run_make_rowN (P := Try.prog) 47 88 i0 _ Try.underlying47 hi0 hz0 n (by rw [hz2]; omega) (by unfold maxLen; omega)
  rw [hz1] at hmk
  have hml := made_cells zUpdate (by simp [zUpdate]) n
  have hown : ∀ W : World, FillS fUpdate 3 zUpdate 88 (W.alloc (.cells (madeCells #[.int .i64 0, .int .i64 0, .int .i64 0] (n * 3)) 88)) W.heap.size n 0 xs := fun W => by
    have := World.ownsRow_lit (e := 88) (size := 3) W (madeCells #[.int .i64 0, .int .i64 0, .int .i64 0] (n * 3)) n (Nat.le_refl W.heap.size) (by unfold maxLen; omega) (by simp [madeCells])
    rw [show (madeCells #[.int .i64 0, .int .i64 0, .int .i64 0] (n * 3)).toList = (List.replicate n zUpdate).flatten from hml] at this
    exact FillS.start this
  have HO := Lib.hid hown
  clear hown hml hi0 hz0 hz1 hz2
  go_enter Try.func105, Try.ntmps105
  go_wp2_with fail
  go_loopw [4] (fun i wr => ∃ k : Nat, k ≤ n ∧ i = .int .i64 k ∧ FillS fUpdate 3 zUpdate 88 wr w.heap.size n k xs ∧ Below w.heap.size w wr) (fun i _ => n - (intOf i).toNat)
  case atStart => exact ⟨0, Nat.zero_le _, rfl, HO.out w, (Below.refl _ _).alloc (Nat.le_refl _) _⟩
  case round =>
    obtain ⟨k, hk, rfl, hown, hb⟩ := hrel
    have HOW := Lib.hid hown
    have HB := Lib.hid hb
    have hwsz := hb.size
    have hlo := hown.lt
    clear hown hb
    by_cases hlt : k < n
    · obtain ⟨b, o, hl, rfl, _, hbh, hc0, hc1, hc2⟩ := rd_Update (HI.out.below HB.out hh) hlt
      have hsz0 := HSZ.out
      go_wp2_with fail
      refine (toUpdate_d xs[k].ref xs[k].old xs[k].new_ _ lo hi (Nat.le_trans hh HB.out.size)).mono ?_
      rintro e w2 ⟨hd, hb2, rfl⟩
      have HB2 := Lib.hid (bel_tr HB.out (Nat.le_refl _) hb2)
      have hown2 := HOW.out.fresh hb2
      obtain ⟨u0, hg0, hf0⟩ := hown2.cell hlt 0 (by omega)
      obtain ⟨u1, hg1, hf1⟩ := hown2.cell hlt 1 (by omega)
      obtain ⟨u2, hg2, hf2⟩ := hown2.cell hlt 2 (by omega)
      rw [Nat.add_zero] at hg0 hf0
      have HST := Lib.hid (HOW.out.step fUpdate_len rfl hl hlt hb2 hd)
      have hlo2 := hown2.lt
      clear hown2 hb2 hd hsz0
      go_wp2_with fail
      go_roundw
      case rel => exact ⟨k + 1, by omega, by go_num, HST.out, ((HB2.out.setCell (Nat.le_refl _) _).setCell (Nat.le_refl _) _).setCell (Nat.le_refl _) _⟩
      case measure => simp [intOf]; omega
    · have hkn : k = n := by omega
      subst hkn
      go_wp2_with fail
      go_ret
      exact ⟨_, _, by have h1 := HOW.out.done HN.out.symm; rw [HN.out] at h1 ⊢; exact h1, HB.out, rfl⟩

set_option maxRecDepth 100000 in
set_option maxHeartbeats 1600000 in
theorem eqUpdate_d (ref : Int) (old : Int) (new_ : Int) (w : World) (lo hi lo' hi' : Nat) (hh : hi ≤ w.heap.size) (hh' : hi' ≤ w.heap.size) :
    Calls Try.prog 109 #[.agg #[.int .i64 ref, .int .i64 old, .int .i64 new_], .agg #[.int .i64 ref, .int .i64 old, .int .i64 new_]] w fun e w' => e = .returned (.bool true) ∧ Below w.heap.size w w' := by

  have he0 : (!(ref == ref)) = false := by simp
  have he1 : (!(old == old)) = false := by simp
  have he2 : (!(new_ == new_)) = false := by simp
  have HB0 : Hid (Below w.heap.size w ((w.alloc (.cells #[.int .i64 ref, .int .i64 old, .int .i64 new_] 88)).alloc (.cells #[.int .i64 ref, .int .i64 old, .int .i64 new_] 88))) := ((Below.refl _ _).alloc (Nat.le_refl _) _).alloc (by simp) _
  go_enter Try.func109, Try.ntmps109
  go_wp2_with fail
  go_ret
  exact ⟨rfl, HB0.out⟩

set_option maxRecDepth 100000 in
set_option maxHeartbeats 1600000 in
theorem eqUpdateS_d (xs : List Upd) (A A' : Option Addr) (n n' c c' : Nat) (w : World) (lo hi lo' hi' : Nat) (hh : hi ≤ w.heap.size) (hh' : hi' ≤ w.heap.size) (h : D.rd w lo hi (dUpdates xs) (.slice A n c)) (h' : D.rd w lo' hi' (dUpdates xs) (.slice A' n' c')) :
    Calls Try.prog 106 #[.slice A n c, .slice A' n' c'] w fun e w' => e = .returned (.bool true) ∧ Below w.heap.size w w' := by
  have h1 := h.len
  have h2 := h'.len
  obtain rfl : n' = n := h2.1.trans h1.1.symm
  have hn63 : n' ≤ 9223372036854775807 := by omega
  have HI := Lib.hid h
  have HJ := Lib.hid h'
  clear h h' h1 h2
  go_enter Try.func106, Try.ntmps106
  go_wp2_with fail
  go_loopw [5] (fun i wr => ∃ k : Nat, k ≤ n' ∧ i = .int .i64 k ∧ Below w.heap.size w wr) (fun i _ => n' - (intOf i).toNat)
  case atStart => exact ⟨0, Nat.zero_le _, rfl, Below.refl _ _⟩
  case round =>
    obtain ⟨k, hk, rfl, hb⟩ := hrel
    have HB := Lib.hid hb
    have hwsz := hb.size
    clear hb
    by_cases hlt : k < n'
    · obtain ⟨b, o, hl, rfl, _, hbh, hc0, hc1, hc2⟩ := rd_Update (HI.out.below HB.out hh) hlt
      obtain ⟨b', o', hl', rfl, _, hbh', hd0, hd1, hd2⟩ := rd_Update (HJ.out.below HB.out hh') hlt
      go_wp2_with fail
      go_still_tail 8, (by kernel_rfl)
      change wpList _ _ _ _ _ wr.drew
      go_wp2_with fail
      refine (eqUpdate_d xs[k].ref xs[k].old xs[k].new_ wr.drew lo hi lo' hi' (Nat.le_trans hh HB.out.size) (Nat.le_trans hh' HB.out.size)).mono ?_
      rintro e w2 ⟨rfl, hb2⟩
      have HB2 : Hid (Below w.heap.size w w2) := HB.out.drew.trans (hb2.mono hwsz)
      clear hb2
      go_wp2_with fail
      go_roundw
      case rel => exact ⟨k + 1, by omega, by go_num, HB2.out⟩
      case measure => simp [intOf]; omega
    · have hkn : k = n' := by omega
      subst hkn
      go_wp2_with fail
      go_ret
      exact ⟨rfl, HB.out⟩

end Go.Proofs.Ytgbkjfhmbchiiaa
