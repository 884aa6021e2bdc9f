/-
  The walks of toIntS, eqIntS: a copy of a slice of ints in new memory; whether two slices of ints read alike. No condition but the reach of what is read.
  The walks of szIntS, toIntS, eqIntS over data. Condition: lengths fit an int64.
  The datum of Update, and the walks of the laws' functions that count, copy and compare it (szUpdate, toUpdate, eqUpdate and those over slices). Condition: lengths fit an int64.
  What parts, transactions and coordinators are, in plain Lean: which are valid. No program in sight.
-/
import Derived.Test.YtgbkjfhmbchiiaaM1
import Derived.Deep.QuietTactic
import Derived.BigQuiet
import Derived.Test.YtgbkjfhmbchiiaaM2
import Derived.StillTailTactics
namespace Go.Proofs.Ytgbkjfhmbchiiaa
set_option linter.unusedVariables false
set_option linter.unusedSimpArgs false
open Go.RowKit

theorem Try.infoInt : (Try.prog.info? 3).map (fun i => (i.zero, i.size, i.bytes)) = some (some (.int .i64 0), 1, 8) := by kernel_rfl

theorem own_drew {w : World} {base size n : Nat} {e : TypeId} {v : Value} {xs : List Value} (h : w.ownsRow base e size v n xs) (k : Nat) : (w.drewN k).ownsRow base e size v n xs := h

set_option maxHeartbeats 400000 in
theorem toIntS_any (A : Option Addr) (n c : Nat) (xs : List Int) (w : World) (lo hi : Nat) (hn : n * 8 ≤ 140737488351232) (hh : hi ≤ w.heap.size) (h : Ints w lo hi A n xs) :
    Calls Try.prog 34 #[.slice A n c] w fun e w' => ∃ v, e = .returned v ∧ w'.ownsRow w.heap.size 3 1 v n (xs.flatMap ci) ∧ Below w.heap.size w w' := by
  have HI := Lib.hid h
  clear h
  obtain ⟨i0, hi0, hz0, hz1, hz2⟩ := info_parts Try.infoInt
  have hmk := run_make_rowN (P := Try.prog) 24 3 i0 (.int .i64 0) Try.underlying24 hi0 hz0 n (by rw [hz2]; omega) (by unfold maxLen; omega)
  rw [hz1, Nat.mul_one] at hmk
  have hml := made_cells [.int .i64 0] (by simp) n
  simp only [List.length_singleton, Nat.mul_one] at hml
  have hown : ∀ W : World, (W.alloc (.cells (madeCells #[.int .i64 0] n) 3)).ownsRow W.heap.size 3 1 (.slice (some ⟨W.heap.size, 0, none⟩) n n) n (fillC ci [.int .i64 0] xs n 0) := fun W => by
    have := World.ownsRow_lit (e := 3) (size := 1) W (madeCells #[.int .i64 0] n) n (Nat.le_refl W.heap.size) (by unfold maxLen; omega) (by simp [madeCells])
    rw [hml] at this
    simpa [fillC] using this
  have HO := Lib.hid hown
  clear hown hml hi0 hz0 hz1 hz2
  go_enter Try.func34, Try.ntmps34
  go_wp2
  go_loopw [4] (fun i wr => ∃ k : Nat, k ≤ n ∧ i = .int .i64 k ∧ wr.ownsRow w.heap.size 3 1 (.slice (some ⟨w.heap.size, 0, none⟩) n n) n (fillC ci [.int .i64 0] xs n k) ∧ Below w.heap.size w wr ∧ w.heap.size < wr.heap.size) (fun i _ => n - (intOf i).toNat)
  case atStart => exact ⟨0, Nat.zero_le _, rfl, HO.out w, (Below.refl _ _).alloc (Nat.le_refl _) _, by simp⟩
  case round =>
    obtain ⟨k, hk, rfl, hown, hb, hsz⟩ := hrel
    have HOW := Lib.hid hown
    by_cases hlt : k < n
    · obtain ⟨b, o, hl, rfl, _, hbh, hc⟩ := (HI.out.below hb hh).int hlt
      have hcg : wr.cell? ⟨w.heap.size, k, none⟩ = some (.int .i64 0) := by
        rw [hown.cellAt k (by omega)]
        unfold fillC
        rw [List.getElem?_append_right (by rw [flat_len ci 1 ci_len, List.length_take]; omega), flat_len ci 1 ci_len, List.length_take, Nat.min_eq_left (by omega)]
        have e : (List.replicate (n - k) [Value.int .i64 0]) = [Value.int .i64 0] :: List.replicate (n - (k + 1)) [Value.int .i64 0] := by
          rw [← List.replicate_succ]; congr 1; omega
        rw [e]; simp
      have hfg := hown.frozenAt k
      have hst := (hown.stored k (.int .i64 xs[k]))
      have hstep := fillC_step ci [.int .i64 0] 1 ci_len rfl xs n k HI.out.1 hlt hl
      simp only [ci, setMany, Nat.mul_one] at hstep
      rw [hstep] at hst
      have HST := Lib.hid hst
      clear hst hown hstep
      go_wp2
      go_roundw
      case rel => exact ⟨k + 1, by omega, by go_num, HST.out.1, hb.setCell (Nat.le_refl _) _, by simpa using hsz⟩
      case measure => simp [intOf]; omega
    · have hkn : k = n := by omega
      subst hkn
      go_wp2
      go_ret
      exact ⟨_, rfl, by rw [← fillC_all ci [.int .i64 0] xs k HI.out.1]; exact HOW.out, hb⟩

set_option maxHeartbeats 400000 in
theorem eqIntS_any (A A' : Option Addr) (n c c' : Nat) (xs : List Int) (w : World) (lo hi lo' hi' : Nat) (hn : n ≤ 9223372036854775807) (h : Ints w lo hi A n xs) (h' : Ints w lo' hi' A' n xs) :
    Calls Try.prog 22 #[.slice A n c, .slice A' n c'] w fun e w' => e = .returned (.bool true) ∧ ∃ m, w' = w.drewN m := by
  have HI := Lib.hid h
  have HJ := Lib.hid h'
  clear h h'
  go_enter Try.func22, Try.ntmps22
  go_wp2
  go_loopw [5] (fun i wr => ∃ k : Nat, k ≤ n ∧ i = .int .i64 k ∧ ∃ m, wr = w.drewN m) (fun i _ => n - (intOf i).toNat)
  case atStart => exact ⟨0, Nat.zero_le _, rfl, 0, rfl⟩
  case round =>
    obtain ⟨k, hk, rfl, m, rfl⟩ := hrel
    by_cases hlt : k < n
    · obtain ⟨b, o, hl, rfl, _, _, hc⟩ := HI.out.int hlt
      obtain ⟨b', o', hl', rfl, _, _, hc'⟩ := HJ.out.int hlt
      have hd : (!(xs[k] == xs[k])) = false := by simp
      go_wp2
      go_quiet (fail)
      go_wp2
      exact ⟨⟨k + 1, by omega, by go_num, m + nq, rfl⟩, by simp [intOf]; omega⟩
    · have hkn : k = n := by omega
      subst hkn
      go_wp2
      go_ret
      exact ⟨rfl, m, rfl⟩

end Go.Proofs.Ytgbkjfhmbchiiaa

namespace Go.Proofs.Ytgbkjfhmbchiiaa
set_option linter.unusedVariables false
set_option linter.unusedSimpArgs false
open Go.RowKit

set_option maxHeartbeats 400000 in
theorem szIntS_d (xs : List Int) (A : Option Addr) (n c : Nat) (left : Int) (w : World) (lo hi : Nat) (hh : hi ≤ w.heap.size) (h : D.rd w lo hi (intsD xs) (.slice A n c)) (h0 : 0 ≤ left) (hlf : left ≤ 1048576) :
    Calls Try.prog 32 #[.slice A n c, .int .i64 left] w fun e w' => SzR left (D.sz (intsD xs)) w e w' := by
  have HN := Lib.hid h.ints.1
  have hnc := h.len.2.1
  have hcm := h.len.2.2
  rw [← h.len.1] at hnc
  clear h
  by_cases hbig : left < n
  · go_enter Try.func32, Try.ntmps32
    go_wp2_with fail
    go_ret
    exact ⟨-1, by omega, by omega, by omega, Below.refl _ _, rfl⟩
  · have hnl : (n : Int) ≤ left := by omega
    clear hbig
    go_enter Try.func32, Try.ntmps32
    go_wp2_with fail
    go_ret
    exact ⟨_, by omega, by omega, fun _ => by rw [sz_ints, HN.out]; omega, Below.refl _ _, rfl⟩

theorem toIntS_d (xs : List Int) (A : Option Addr) (n c : Nat) (w : World) (lo hi : Nat) (hh : hi ≤ w.heap.size) (h : D.rd w lo hi (intsD xs) (.slice A n c)) (hs : D.sz (intsD xs) ≤ 1048576) :
    Calls Try.prog 34 #[.slice A n c] w fun e w' => ∃ (B : Option Addr) (d : Nat), Own w' w.heap.size (intsD xs) (.slice B n d) ∧ Below w.heap.size w w' ∧ e = .returned (.slice B n d) := by
  have hn := h.ints.1
  rw [sz_ints] at hs
  refine (toIntS_any A n c xs w lo hi (by omega) hh h.ints).mono ?_
  rintro e w' ⟨v, rfl, hown, hb⟩
  obtain ⟨B, d, rfl, -, -, -⟩ := Rd.of_own hown
  exact ⟨B, d, own_ints hown, hb, rfl⟩

theorem eqIntS_d (xs : List Int) (A A' : Option Addr) (n n' c c' : Nat) (w : World) (lo hi lo' hi' : Nat) (h : D.rd w lo hi (intsD xs) (.slice A n c)) (h' : D.rd w lo' hi' (intsD xs) (.slice A' n' c')) :
    Calls Try.prog 22 #[.slice A n c, .slice A' n' c'] w fun e w' => e = .returned (.bool true) ∧ Below w.heap.size w w' := by
  have h1 := h.len
  have h2 := h'.len
  obtain rfl : n' = n := h2.1.trans h1.1.symm
  refine (eqIntS_any A A' n' c c' xs w lo hi lo' hi' (by omega) h.ints h'.ints).mono ?_
  rintro e w' ⟨rfl, m, rfl⟩
  exact ⟨rfl, below_drewN (Below.refl _ _) m⟩

end Go.Proofs.Ytgbkjfhmbchiiaa

namespace Go.Proofs.Ytgbkjfhmbchiiaa
set_option linter.unusedVariables false
set_option linter.unusedSimpArgs false
open Go.RowKit

/-- the fields of a value of type Update -/
def fUpdate (x : Upd) : List D := [.int x.ref, .int x.old, .int x.new_]
theorem fUpdate_len (x : Upd) : (fUpdate x).length = 3 := rfl
/-- a slice of them -/
def dUpdates (xs : List Upd) : D := .arr 3 xs.length (xs.flatMap fUpdate)
theorem szL_fUpdate (x : Upd) : D.szL (fUpdate x) = 0 := by
  unfold fUpdate
  simp only [szL_cons, szL_nil, sz_int]

theorem rd_Update {w : World} {lo hi n k c : Nat} {A : Option Addr} {xs : List Upd} (h : D.rd w lo hi (dUpdates xs) (.slice A n c)) (hk : k < n) :
    ∃ (b o : Nat) (hl : k < xs.length), A = some ⟨b, o, none⟩ ∧ lo ≤ b ∧ b < hi ∧ w.cell? ⟨b, o + k * 3, none⟩ = some (.int .i64 xs[k].ref) ∧ w.cell? ⟨b, o + k * 3 + 1, none⟩ = some (.int .i64 xs[k].old) ∧ w.cell? ⟨b, o + k * 3 + 2, none⟩ = some (.int .i64 xs[k].new_) := by
  have hn := h.len.1
  obtain ⟨b, o, hl, rfl, g1, g2, hc⟩ := h.at_ fUpdate_len (by omega) (k := k) (by omega)
  obtain ⟨u0, hu0, hr0⟩ := hc 0 _ rfl
  obtain rfl := hr0.int_inv
  obtain ⟨u1, hu1, hr1⟩ := hc 1 _ rfl
  obtain rfl := hr1.int_inv
  obtain ⟨u2, hu2, hr2⟩ := hc 2 _ rfl
  obtain rfl := hr2.int_inv
  exact ⟨b, o, hl, rfl, g1, g2, hu0, hu1, hu2⟩

theorem sz_Update_get {xs : List Upd} {x : Upd} (hx : x ∈ xs) : D.szL (fUpdate x) ≤ D.sz (dUpdates xs) := by
  unfold dUpdates
  rw [sz_arr]
  have := szL_get fUpdate xs hx
  omega

set_option maxRecDepth 100000 in
set_option maxHeartbeats 800000 in
theorem szUpdateS_d (xs : List Upd) (A : Option Addr) (n c : Nat) (left : Int) (w : World) (lo hi : Nat) (hh : hi ≤ w.heap.size) (h : D.rd w lo hi (dUpdates xs) (.slice A n c)) (h0 : 0 ≤ left) (hlf : left ≤ 1048576) :
    Calls Try.prog 104 #[.slice A n c, .int .i64 left] w fun e w' => SzR left (D.sz (dUpdates xs)) w e w' := by
  have HI := Lib.hid h
  have HN := Lib.hid h.len.1
  have hnc := h.len.2.1
  have hcm := h.len.2.2
  rw [← h.len.1] at hnc
  clear h
  have HS : Hid (D.sz (dUpdates xs) = n + D.szL (xs.flatMap fUpdate)) := by
    show D.sz (dUpdates xs) = _
    unfold dUpdates
    rw [sz_arr, HN.out]
  by_cases hbig : left < n
  · go_enter Try.func104, Try.ntmps104
    go_wp2_with fail
    go_ret
    exact ⟨-1, by omega, by omega, by omega, Below.refl _ _, rfl⟩
  · have hnl : (n : Int) ≤ left := by omega
    clear hbig
    go_enter Try.func104, Try.ntmps104
    go_wp2_with fail
    go_ret
    refine ⟨_, by omega, by omega, fun _ => ?_, Below.refl _ _, rfl⟩
    rw [HS.out]
    have hz : ∀ ys : List Upd, D.szL (ys.flatMap fUpdate) = 0 := fun ys => by
      induction ys with
      | nil => exact szL_nil
      | cons y ys ih => rw [List.flatMap_cons, szL_app, ih, szL_fUpdate]
    rw [hz]
    omega

set_option maxRecDepth 100000 in
set_option maxHeartbeats 1600000 in
theorem toUpdate_d (ref : Int) (old : Int) (new_ : Int) (w : World) (lo hi : Nat) (hh : hi ≤ w.heap.size) :
    Calls Try.prog 108 #[.agg #[.int .i64 ref, .int .i64 old, .int .i64 new_]] w fun e w' => OwnL w' w.heap.size (fUpdate (⟨ref, old, new_⟩ : Upd)) [.int .i64 ref, .int .i64 old, .int .i64 new_] ∧ Below w.heap.size w w' ∧ e = .returned (.agg #[.int .i64 ref, .int .i64 old, .int .i64 new_]) := by
  go_enter Try.func108, Try.ntmps108
  go_wp2_with fail
  exact bodyPost_ret (v := .agg #[.int .i64 ref, .int .i64 old, .int .i64 new_]) (by simp [results, Try.results108, go_sem]) rfl ⟨(((OwnL.nil _ _).int _).int _).int _, (((Below.refl _ _).alloc (Nat.le_refl _) _).alloc (by simp) _).alloc (by simp; omega) _, rfl⟩

theorem Try.infoUpdate : (Try.prog.info? 88).map (fun i => (i.zero, i.size, i.bytes)) = some (some (.agg #[.int .i64 0, .int .i64 0, .int .i64 0]), 3, 24) := by kernel_rfl
def zUpdate : List Value := [.int .i64 0, .int .i64 0, .int .i64 0]
set_option maxRecDepth 100000 in
set_option maxHeartbeats 1600000 in
theorem toUpdateS_d (xs : List Upd) (A : Option Addr) (n c : Nat) (w : World) (lo hi : Nat) (hh : hi ≤ w.heap.size) (h : D.rd w lo hi (dUpdates xs) (.slice A n c)) (hs : D.sz (dUpdates xs) ≤ 1048576) :
    Calls Try.prog 105 #[.slice A n c] w fun e w' => ∃ (B : Option Addr) (d : Nat), Own w' w.heap.size (dUpdates xs) (.slice B n d) ∧ Below w.heap.size w w' ∧ e = .returned (.slice B n d) := by
  have HI := Lib.hid h
  have HN := Lib.hid h.len.1
  have HSZ := Lib.hid hs
  have hn20 : n ≤ 1048576 := by
    have h1 := h.len.1
    unfold dUpdates at hs
    rw [sz_arr] at hs; omega
  clear h hs
  obtain ⟨i0, hi0, hz0, hz1, hz2⟩ := info_parts Try.infoUpdate
  have hmk := run_make_rowN (P := Try.prog) 47 88 i0 _ Try.underlying47 hi0 hz0 n (by rw [hz2]; omega) (by unfold maxLen; omega)
  rw [hz1] at hmk
  have hml := made_cells zUpdate (by simp [zUpdate]) n
  have hown : ∀ W : World, FillS fUpdate 3 zUpdate 88 (W.alloc (.cells (madeCells #[.int .i64 0, .int .i64 0, .int .i64 0] (n * 3)) 88)) W.heap.size n 0 xs := fun W => by
    have := World.ownsRow_lit (e := 88) (size := 3) W (madeCells #[.int .i64 0, .int .i64 0, .int .i64 0] (n * 3)) n (Nat.le_refl W.heap.size) (by unfold maxLen; omega) (by simp [madeCells])
    rw [show (madeCells #[.int .i64 0, .int .i64 0, .int .i64 0] (n * 3)).toList = (List.replicate n zUpdate).flatten from hml] at this
    exact FillS.start this
  have HO := Lib.hid hown
  clear hown hml hi0 hz0 hz1 hz2
  go_enter Try.func105, Try.ntmps105
  go_wp2_with fail
  go_loopw [4] (fun i wr => ∃ k : Nat, k ≤ n ∧ i = .int .i64 k ∧ FillS fUpdate 3 zUpdate 88 wr w.heap.size n k xs ∧ Below w.heap.size w wr) (fun i _ => n - (intOf i).toNat)
  case atStart => exact ⟨0, Nat.zero_le _, rfl, HO.out w, (Below.refl _ _).alloc (Nat.le_refl _) _⟩
  case round =>
    obtain ⟨k, hk, rfl, hown, hb⟩ := hrel
    have HOW := Lib.hid hown
    have HB := Lib.hid hb
    have hwsz := hb.size
    have hlo := hown.lt
    clear hown hb
    by_cases hlt : k < n
    · obtain ⟨b, o, hl, rfl, _, hbh, hc0, hc1, hc2⟩ := rd_Update (HI.out.below HB.out hh) hlt
      have hsz0 := HSZ.out
      go_wp2_with fail
      refine (toUpdate_d xs[k].ref xs[k].old xs[k].new_ _ lo hi (Nat.le_trans hh HB.out.size)).mono ?_
      rintro e w2 ⟨hd, hb2, rfl⟩
      have HB2 := Lib.hid (bel_tr HB.out (Nat.le_refl _) hb2)
      have hown2 := HOW.out.fresh hb2
      obtain ⟨u0, hg0, hf0⟩ := hown2.cell hlt 0 (by omega)
      obtain ⟨u1, hg1, hf1⟩ := hown2.cell hlt 1 (by omega)
      obtain ⟨u2, hg2, hf2⟩ := hown2.cell hlt 2 (by omega)
      rw [Nat.add_zero] at hg0 hf0
      have HST := Lib.hid (HOW.out.step fUpdate_len rfl hl hlt hb2 hd)
      have hlo2 := hown2.lt
      clear hown2 hb2 hd hsz0
      go_wp2_with fail
      go_roundw
      case rel => exact ⟨k + 1, by omega, by go_num, HST.out, ((HB2.out.setCell (Nat.le_refl _) _).setCell (Nat.le_refl _) _).setCell (Nat.le_refl _) _⟩
      case measure => simp [intOf]; omega
    · have hkn : k = n := by omega
      subst hkn
      go_wp2_with fail
      go_ret
      exact ⟨_, _, by have h1 := HOW.out.done HN.out.symm; rw [HN.out] at h1 ⊢; exact h1, HB.out, rfl⟩

set_option maxRecDepth 100000 in
set_option maxHeartbeats 1600000 in
theorem eqUpdate_d (ref : Int) (old : Int) (new_ : Int) (w : World) (lo hi lo' hi' : Nat) (hh : hi ≤ w.heap.size) (hh' : hi' ≤ w.heap.size) :
    Calls Try.prog 109 #[.agg #[.int .i64 ref, .int .i64 old, .int .i64 new_], .agg #[.int .i64 ref, .int .i64 old, .int .i64 new_]] w fun e w' => e = .returned (.bool true) ∧ Below w.heap.size w w' := by

  have he0 : (!(ref == ref)) = false := by simp
  have he1 : (!(old == old)) = false := by simp
  have he2 : (!(new_ == new_)) = false := by simp
  have HB0 : Hid (Below w.heap.size w ((w.alloc (.cells #[.int .i64 ref, .int .i64 old, .int .i64 new_] 88)).alloc (.cells #[.int .i64 ref, .int .i64 old, .int .i64 new_] 88))) := ((Below.refl _ _).alloc (Nat.le_refl _) _).alloc (by simp) _
  go_enter Try.func109, Try.ntmps109
  go_wp2_with fail
  go_ret
  exact ⟨rfl, HB0.out⟩

set_option maxRecDepth 100000 in
set_option maxHeartbeats 1600000 in
theorem eqUpdateS_d (xs : List Upd) (A A' : Option Addr) (n n' c c' : Nat) (w : World) (lo hi lo' hi' : Nat) (hh : hi ≤ w.heap.size) (hh' : hi' ≤ w.heap.size) (h : D.rd w lo hi (dUpdates xs) (.slice A n c)) (h' : D.rd w lo' hi' (dUpdates xs) (.slice A' n' c')) :
    Calls Try.prog 106 #[.slice A n c, .slice A' n' c'] w fun e w' => e = .returned (.bool true) ∧ Below w.heap.size w w' := by
  have h1 := h.len
  have h2 := h'.len
  obtain rfl : n' = n := h2.1.trans h1.1.symm
  have hn63 : n' ≤ 9223372036854775807 := by omega
  have HI := Lib.hid h
  have HJ := Lib.hid h'
  clear h h' h1 h2
  go_enter Try.func106, Try.ntmps106
  go_wp2_with fail
  go_loopw [5] (fun i wr => ∃ k : Nat, k ≤ n' ∧ i = .int .i64 k ∧ Below w.heap.size w wr) (fun i _ => n' - (intOf i).toNat)
  case atStart => exact ⟨0, Nat.zero_le _, rfl, Below.refl _ _⟩
  case round =>
    obtain ⟨k, hk, rfl, hb⟩ := hrel
    have HB := Lib.hid hb
    have hwsz := hb.size
    clear hb
    by_cases hlt : k < n'
    · obtain ⟨b, o, hl, rfl, _, hbh, hc0, hc1, hc2⟩ := rd_Update (HI.out.below HB.out hh) hlt
      obtain ⟨b', o', hl', rfl, _, hbh', hd0, hd1, hd2⟩ := rd_Update (HJ.out.below HB.out hh') hlt
      go_wp2_with fail
      go_still_tail 8, (by kernel_rfl)
      change wpList _ _ _ _ _ wr.drew
      go_wp2_with fail
      refine (eqUpdate_d xs[k].ref xs[k].old xs[k].new_ wr.drew lo hi lo' hi' (Nat.le_trans hh HB.out.size) (Nat.le_trans hh' HB.out.size)).mono ?_
      rintro e w2 ⟨rfl, hb2⟩
      have HB2 : Hid (Below w.heap.size w w2) := HB.out.drew.trans (hb2.mono hwsz)
      clear hb2
      go_wp2_with fail
      go_roundw
      case rel => exact ⟨k + 1, by omega, by go_num, HB2.out⟩
      case measure => simp [intOf]; omega
    · have hkn : k = n' := by omega
      subst hkn
      go_wp2_with fail
      go_ret
      exact ⟨rfl, HB.out⟩

end Go.Proofs.Ytgbkjfhmbchiiaa

namespace Go.Proofs.Ytgbkjfhmbchiiaa
set_option linter.unusedVariables false
set_option linter.unusedSimpArgs false
open Go.RowKit

structure PartD where
  shard : Int
  us : List Upd
structure TxnD where
  parts : List PartD
  votes : List Int
  dec : Int
structure CoordD where
  txns : List TxnD
  order : List Int

/-- 'for all k below n' -/
def allTo (p : Nat → Bool) : Nat → Bool
  | 0 => true
  | n + 1 => allTo p n && p n
theorem allTo_iff (p : Nat → Bool) (n : Nat) : allTo p n = true ↔ ∀ k, k < n → p k = true := by
  induction n with
  | zero => simp [allTo]
  | succ n ih =>
    simp only [allTo, Bool.and_eq_true, ih]
    constructor
    · rintro ⟨h1, h2⟩ k hk
      rcases Nat.lt_or_ge k n with h | h
      · exact h1 k h
      · obtain rfl : k = n := by omega
        exact h2
    · intro h
      exact ⟨fun k hk => h k (by omega), h n (by omega)⟩
theorem allTo_no {p : Nat → Bool} {n k : Nat} (hk : k < n) (h : p k = false) : allTo p n = false := by
  rw [← Bool.not_eq_true, allTo_iff]
  intro hh
  rw [hh k hk] at h; cases h
theorem allTo_succ {p : Nat → Bool} {k : Nat} (h : allTo p k = true) (h2 : p k = true) : allTo p (k + 1) = true := by rw [allTo, h, h2]; rfl

/-- part k, behind the one ahead of it -/
def partAt (ps : List PartD) (k : Nat) : Bool :=
  inR (ps.getD k ⟨0, []⟩).shard 0 2 && updsB (ps.getD k ⟨0, []⟩).us && (decide (k = 0) || decide ((ps.getD (k - 1) ⟨0, []⟩).shard < (ps.getD k ⟨0, []⟩).shard))
def partsB (ps : List PartD) : Bool := allTo (partAt ps) ps.length && decide (0 < ps.length)
theorem part_at {ps : List PartD} {k : Nat} (h : k < ps.length) : partAt ps k = (inR ps[k].shard 0 2 && updsB ps[k].us && (decide (k = 0) || decide ((ps.getD (k - 1) ⟨0, []⟩).shard < ps[k].shard))) := by
  unfold partAt
  rw [List.getD_eq_getElem?_getD, List.getElem?_eq_getElem h]; rfl
theorem partsB_and {ps : List PartD} (h : partsB ps = true) : (∀ k, k < ps.length → partAt ps k = true) ∧ 0 < ps.length := by
  unfold partsB at h
  simp only [Bool.and_eq_true, decide_eq_true_eq] at h
  exact ⟨(allTo_iff _ _).1 h.1, h.2⟩
theorem partsB_asc {ps : List PartD} (h : partsB ps = true) : ∀ k, k < ps.length → (k : Int) ≤ (ps.getD k ⟨0, []⟩).shard ∧ (ps.getD k ⟨0, []⟩).shard ≤ 2 := by
  intro k
  induction k with
  | zero =>
    intro hk
    have := (partsB_and h).1 0 hk
    unfold partAt at this
    simp only [Bool.and_eq_true, inR_iff] at this
    omega
  | succ k ih =>
    intro hk
    have h1 := (partsB_and h).1 (k + 1) hk
    have h2 := ih (by omega)
    unfold partAt at h1
    simp only [Bool.and_eq_true, Bool.or_eq_true, decide_eq_true_eq, inR_iff, Nat.add_sub_cancel] at h1
    omega
/-- valid parts are at most three -/
theorem partsB_len {ps : List PartD} (h : partsB ps = true) : ps.length ≤ 3 := by
  rcases Nat.lt_or_ge 3 ps.length with hl | hl
  · have := partsB_asc h 3 hl; omega
  · exact hl

/-- a vote -/
def voteB (v : Int) : Bool := inR v (-1) 1
def cnt1 (v : Int) (vs : List Int) : Nat := vs.countP (fun x => decide (x = v))
/-- the decision fits the votes -/
def decB (d : Int) (vs : List Int) : Bool :=
  if d = 2 then decide (cnt1 1 vs = vs.length) else if d = 3 then decide (cnt1 1 vs < vs.length) else if d = 0 then decide (cnt1 (-1) vs = 0) && decide (cnt1 1 vs < vs.length) else false
def txnB (t : TxnD) : Bool := partsB t.parts && decide (t.votes.length = t.parts.length) && t.votes.all voteB && decB t.dec t.votes
theorem txnB_and {t : TxnD} (h : txnB t = true) : partsB t.parts = true ∧ t.votes.length = t.parts.length ∧ t.votes.all voteB = true ∧ decB t.dec t.votes = true := by
  unfold txnB at h
  simp only [Bool.and_eq_true, decide_eq_true_eq] at h
  exact ⟨h.1.1.1, h.1.1.2, h.1.2, h.2⟩
theorem cnt_sum (vs : List Int) : cnt1 1 vs + cnt1 (-1) vs + cnt1 0 vs ≤ vs.length ∧ (cnt1 1 vs + cnt1 (-1) vs + cnt1 0 vs = vs.length ↔ vs.all voteB = true) := by
  induction vs with
  | nil => simp [cnt1]
  | cons v vs ih =>
    obtain ⟨h1, h2⟩ := ih
    unfold cnt1 at h1 h2 ⊢
    simp only [List.countP_cons, List.length_cons, List.all_cons, Bool.and_eq_true, voteB, inR_iff, decide_eq_true_eq]
    have key : (if v = 1 then 1 else 0) + (if v = -1 then 1 else 0) + (if v = 0 then (1 : Nat) else 0) = (if -1 ≤ v ∧ v ≤ 1 then 1 else 0) := by
      by_cases a : v = 1
      · subst a; simp
      · by_cases b : v = -1
        · subst b; simp
        · by_cases c : v = 0
          · subst c; simp
          · rw [if_neg a, if_neg b, if_neg c, if_neg (by omega)]
    by_cases hv : -1 ≤ v ∧ v ≤ 1
    · rw [if_pos hv] at key
      refine ⟨by omega, ?_⟩
      rw [← h2]
      constructor
      · intro h; exact ⟨hv, by omega⟩
      · rintro ⟨-, h⟩; omega
    · rw [if_neg hv] at key
      refine ⟨by omega, ?_⟩
      constructor
      · intro h; omega
      · rintro ⟨h, -⟩; exact absurd h hv

/-- transaction k is committed -/
def comAt (ts : List TxnD) (k : Nat) : Bool := decide ((ts.getD k ⟨[], [], 0⟩).dec = 2)
/-- the numbers of the committed transactions -/
def comms (ts : List TxnD) : List Int := ((List.range ts.length).filter (comAt ts)).map fun (k : Nat) => (k : Int)
def commTo (ts : List TxnD) (k : Nat) : List Int := ((List.range k).filter (comAt ts)).map fun (k : Nat) => (k : Int)
theorem commTo_succ (ts : List TxnD) (k : Nat) : commTo ts (k + 1) = if comAt ts k = true then commTo ts k ++ [(k : Int)] else commTo ts k := by
  unfold commTo
  rw [List.range_succ, List.filter_append, List.map_append]
  by_cases h : comAt ts k = true
  · rw [if_pos h]; simp [h]
  · rw [if_neg h]; simp [h]
/-- a coordinator is valid: the order is a row of the committed ones, in any order -/
def coordB (c : CoordD) : Bool := c.txns.all txnB && decide (c.txns.length ≤ 12) && decide (c.order.mergeSort (fun x y => decide (x ≤ y)) = comms c.txns)

end Go.Proofs.Ytgbkjfhmbchiiaa
