/-
  The datum of Part, and the walks of the laws' functions that count, copy and compare it (szPart, toPart, eqPart and those over slices). Condition: lengths fit an int64.
  The datum of Txn, and the walks of the laws' functions that count, copy and compare it (szTxn, toTxn, eqTxn and those over slices). Condition: lengths fit an int64.
  The datum of Coordinator, and the walks of the laws' functions that count, copy and compare it (szCoordinator, toCoordinator, eqCoordinator and those over slices). Condition: lengths fit an int64.
-/
import Derived.Test.YtgbkjfhmbchiiaaM3
import Derived.StillTailTactics
namespace Go.Proofs.Ytgbkjfhmbchiiaa
set_option linter.unusedVariables false
set_option linter.unusedSimpArgs false
open Go.RowKit

/-- the fields of a value of type Part -/
def fPart (x : PartD) : List D := [.int x.shard, dUpdates x.us]
theorem fPart_len (x : PartD) : (fPart x).length = 2 := rfl
/-- a slice of them -/
def dParts (xs : List PartD) : D := .arr 2 xs.length (xs.flatMap fPart)
theorem szL_fPart (x : PartD) : D.szL (fPart x) = D.sz (dUpdates x.us) := by
  unfold fPart
  simp only [szL_cons, szL_nil, sz_int, sz_str]
  omega

theorem rd_Part {w : World} {lo hi n k c : Nat} {A : Option Addr} {xs : List PartD} (h : D.rd w lo hi (dParts xs) (.slice A n c)) (hk : k < n) :
    ∃ (b o : Nat) (hl : k < xs.length) (A1 : Option Addr) (n1 c1 : Nat), A = some ⟨b, o, none⟩ ∧ lo ≤ b ∧ b < hi ∧ w.cell? ⟨b, o + k * 2, none⟩ = some (.int .i64 xs[k].shard) ∧ w.cell? ⟨b, o + k * 2 + 1, none⟩ = some (.slice A1 n1 c1) ∧ (n1 ≤ c1 ∧ c1 ≤ 9223372036854775807 ∧ D.rd w lo hi (dUpdates xs[k].us) (.slice A1 n1 c1)) := by
  have hn := h.len.1
  obtain ⟨b, o, hl, rfl, g1, g2, hc⟩ := h.at_ fPart_len (by omega) (k := k) (by omega)
  obtain ⟨u0, hu0, hr0⟩ := hc 0 _ rfl
  obtain rfl := hr0.int_inv
  obtain ⟨u1, hu1, hr1⟩ := hc 1 _ rfl
  obtain ⟨A1, c1, rfl, hn1, hm1, hd1⟩ := D.rd.arr_inv hr1
  exact ⟨b, o, hl, A1, _, c1, rfl, g1, g2, hu0, hu1, ⟨hn1, hm1, hd1⟩⟩

theorem sz_Part_get {xs : List PartD} {x : PartD} (hx : x ∈ xs) : D.szL (fPart x) ≤ D.sz (dParts xs) := by
  unfold dParts
  rw [sz_arr]
  have := szL_get fPart xs hx
  omega

set_option maxRecDepth 100000 in
set_option maxHeartbeats 800000 in
theorem szPart_d (shard : Int) (us : List Upd) (A1 : Option Addr) (n1 c1 : Nat) (left : Int) (w : World) (lo hi : Nat) (hh : hi ≤ w.heap.size) (hr1 : D.rd w lo hi (dUpdates us) (.slice A1 n1 c1)) (h0 : 0 ≤ left) (hl : left ≤ 1048576) :
    Calls Try.prog 93 #[.agg #[.int .i64 shard, .slice A1 n1 c1], .int .i64 left] w fun e w' => SzR left (D.szL (fPart (⟨shard, us⟩ : PartD))) w e w' := by
  have HR1 := Lib.hid hr1
  have HB0 : Hid (Below w.heap.size w (w.alloc (.cells #[.int .i64 shard, .slice A1 n1 c1] 128))) := (Below.refl _ _).alloc (Nat.le_refl _) _
  clear hr1
  go_enter Try.func93, Try.ntmps93
  go_wp2_with fail
  refine (szUpdateS_d us A1 n1 c1 _ _ lo hi (Nat.le_trans hh HB0.out.size) (HR1.out.below HB0.out hh) (by omega) (by omega)).mono ?_
  rintro e w1 ⟨r1, ha1, hb1, hs1, hw1, rfl⟩
  have HB1 := Lib.hid (bel_tr HB0.out (Nat.le_refl _) hw1)
  obtain ⟨hcc1, hcf1⟩ := bcell hw1
  have hz1 : w.heap.size < w1.heap.size := by have h1 := hw1.size; first | (simp at h1; omega) | omega
  clear hw1
  by_cases hq1 : r1 < 0
  · go_wp2_with fail
    go_ret
    exact ⟨-1, by omega, by omega, by omega, HB1.out, rfl⟩
  have hp1 : 0 ≤ r1 := by omega
  have hs1' := hs1 hp1
  clear hq1 hs1
  go_wp2_with fail
  go_ret
  exact ⟨_, by omega, by omega, fun _ => by have h9 := szL_fPart ⟨shard, us⟩; dsimp only at h9; omega, HB1.out, rfl⟩

set_option maxRecDepth 100000 in
set_option maxHeartbeats 800000 in
theorem szPartS_d (xs : List PartD) (A : Option Addr) (n c : Nat) (left : Int) (w : World) (lo hi : Nat) (hh : hi ≤ w.heap.size) (h : D.rd w lo hi (dParts xs) (.slice A n c)) (h0 : 0 ≤ left) (hlf : left ≤ 1048576) :
    Calls Try.prog 70 #[.slice A n c, .int .i64 left] w fun e w' => SzR left (D.sz (dParts xs)) w e w' := by
  have HI := Lib.hid h
  have HN := Lib.hid h.len.1
  have hnc := h.len.2.1
  have hcm := h.len.2.2
  rw [← h.len.1] at hnc
  clear h
  have HS : Hid (D.sz (dParts xs) = n + D.szL (xs.flatMap fPart)) := by
    show D.sz (dParts xs) = _
    unfold dParts
    rw [sz_arr, HN.out]
  by_cases hbig : left < n
  · go_enter Try.func70, Try.ntmps70
    go_wp2_with fail
    go_ret
    exact ⟨-1, by omega, by omega, by omega, Below.refl _ _, rfl⟩
  · have hnl : (n : Int) ≤ left := by omega
    clear hbig
    go_enter Try.func70, Try.ntmps70
    go_wp2_with fail
    go_loopw [1, 5] (fun l i wr => ∃ (k : Nat) (q : Int), k ≤ n ∧ i = .int .i64 k ∧ l = .int .i64 q ∧ 0 ≤ q ∧ q ≤ left ∧ Hid (q + n + (D.szL ((xs.take k).flatMap fPart) : Nat) ≤ left) ∧ Below w.heap.size w wr) (fun _ i _ => n - (intOf i).toNat)
    case atStart => exact ⟨0, _, Nat.zero_le _, rfl, rfl, by omega, by omega, by show _ ≤ left; rw [List.take_zero, List.flatMap_nil, szL_nil]; omega, Below.refl _ _⟩
    case round =>
      obtain ⟨k, q, hk, rfl, rfl, hq0, hq1, HQ, hbw⟩ := hrel
      have HB := Lib.hid hbw
      have hwsz := hbw.size
      clear hbw
      by_cases hlt : k < n
      · obtain ⟨b, o, hl, A1, n1, c1, rfl, _, hbh, hc0, hc1, ⟨hn1, hm1, hr1⟩⟩ := rd_Part (HI.out.below HB.out hh) hlt
        have HR1 := Lib.hid hr1
        have HST := Lib.hid (szL_take fPart xs k hl)
        have hcm_ := hcm
        clear hr1
        go_wp2_with fail
        refine (szPart_d xs[k].shard xs[k].us A1 n1 c1 q _ lo hi (Nat.le_trans hh HB.out.size) HR1.out hq0 (by omega)).mono ?_
        rintro e w2 ⟨r, hr1, hr2, hr3, hb2, rfl⟩
        have HB2 := Lib.hid (bel_tr HB.out (Nat.le_refl _) hb2)
        clear hb2
        by_cases hr0 : r < 0
        · go_wp2_with fail
          go_ret
          exact ⟨-1, by omega, by omega, by omega, HB2.out, rfl⟩
        · have hr4 : 0 ≤ r := by omega
          have HS3 := Lib.hid (hr3 hr4)
          clear hr0 hr3
          go_wp2_with fail
          exact ⟨⟨k + 1, r, by omega, by go_num, rfl, hr4, by omega, by have h1 : r + (D.szL (fPart xs[k]) : Nat) ≤ q := HS3.out; have h2 := HQ.out; show _ ≤ left; rw [HST.out]; omega, HB2.out⟩, by simp [intOf]; omega⟩
      · have hkn : k = n := by omega
        subst hkn
        go_wp2_with fail
        go_ret
        refine ⟨_, by omega, by omega, fun _ => ?_, HB.out, rfl⟩
        have h2 := HQ.out
        rw [List.take_of_length_le (by rw [HN.out]; exact Nat.le_refl _)] at h2
        rw [HS.out]
        omega

set_option maxRecDepth 100000 in
set_option maxHeartbeats 1600000 in
theorem toPart_d (shard : Int) (us : List Upd) (A1 : Option Addr) (n1 c1 : Nat) (w : World) (lo hi : Nat) (hh : hi ≤ w.heap.size) (hr1 : D.rd w lo hi (dUpdates us) (.slice A1 n1 c1)) (hs1 : D.sz (dUpdates us) ≤ 1048576) :
    Calls Try.prog 94 #[.agg #[.int .i64 shard, .slice A1 n1 c1]] w fun e w' => ∃ (B1 : Option Addr) (bc1 : Nat), OwnL w' w.heap.size (fPart (⟨shard, us⟩ : PartD)) [.int .i64 shard, .slice B1 n1 bc1] ∧ Below w.heap.size w w' ∧ e = .returned (.agg #[.int .i64 shard, .slice B1 n1 bc1]) := by
  have HR1 := Lib.hid hr1
  clear hr1
  go_enter Try.func94, Try.ntmps94
  have HB0 : Hid (Below w.heap.size w (((w.alloc (.cells #[.int .i64 shard, .slice A1 n1 c1] 128)).alloc (.cells #[.int .i64 0, .slice none 0 0] 49)).alloc (.cells #[.int .i64 shard, .slice none 0 0] 49))) := (((Below.refl _ _).alloc (Nat.le_refl _) _).alloc (by simp) _).alloc (by simp; omega) _
  have HL0 : Hid (OwnL (((w.alloc (.cells #[.int .i64 shard, .slice A1 n1 c1] 128)).alloc (.cells #[.int .i64 0, .slice none 0 0] 49)).alloc (.cells #[.int .i64 shard, .slice none 0 0] 49)) (w.heap.size + 1 + 1 + 1) [.int shard] [.int .i64 shard]) := Lib.hid ((OwnL.nil _ _).int _)
  go_wp2_with fail
  refine (toUpdateS_d us A1 n1 c1 _ lo hi (Nat.le_trans hh HB0.out.size) (HR1.out.below HB0.out hh) hs1).mono ?_
  rintro e w1 ⟨B1, bc1, ho1, hw1, rfl⟩
  have HL1 : Hid (OwnL w1 (w.heap.size + 1 + 1 + 1) [.int shard, dUpdates us] [.int .i64 shard, .slice B1 n1 bc1]) := Lib.hid (HL0.out.snoc (Nat.le_refl _) hw1 ho1 (by simp))
  have HB1 := Lib.hid (bel_tr HB0.out (Nat.le_refl _) hw1)
  obtain ⟨hcc1, hcf1⟩ := bcell hw1
  have hz1 : w.heap.size + 1 + 1 < w1.heap.size := by have h1 := hw1.size; simp at h1; omega
  have hz1a : w.heap.size + 1 < w1.heap.size := by omega
  have hz1b : w.heap.size < w1.heap.size := by omega
  clear hw1 ho1
  go_wp2_with fail
  exact bodyPost_ret (v := .agg #[.int .i64 shard, .slice B1 n1 bc1]) (by simp [results, Try.results94, go_sem, hcc1, hcf1, hz1, hz1a, hz1b]) rfl ⟨B1, bc1, ((((HL1.out).set (by omega) _ _).set (by omega) _ _).set (by omega) _ _).low (by omega), (((HB1.out).setCell (by first | (simp; done) | (simp; omega)) _).setCell (by first | (simp; done) | (simp; omega)) _).setCell (by first | (simp; done) | (simp; omega)) _, rfl⟩

theorem Try.infoPart : (Try.prog.info? 49).map (fun i => (i.zero, i.size, i.bytes)) = some (some (.agg #[.int .i64 0, .slice none 0 0]), 2, 32) := by kernel_rfl
def zPart : List Value := [.int .i64 0, .slice none 0 0]
set_option maxRecDepth 100000 in
set_option maxHeartbeats 1600000 in
theorem toPartS_d (xs : List PartD) (A : Option Addr) (n c : Nat) (w : World) (lo hi : Nat) (hh : hi ≤ w.heap.size) (h : D.rd w lo hi (dParts xs) (.slice A n c)) (hs : D.sz (dParts xs) ≤ 1048576) :
    Calls Try.prog 71 #[.slice A n c] w fun e w' => ∃ (B : Option Addr) (d : Nat), Own w' w.heap.size (dParts xs) (.slice B n d) ∧ Below w.heap.size w w' ∧ e = .returned (.slice B n d) := by
  have HI := Lib.hid h
  have HN := Lib.hid h.len.1
  have HSZ := Lib.hid hs
  have hn20 : n ≤ 1048576 := by
    have h1 := h.len.1
    unfold dParts at hs
    rw [sz_arr] at hs; omega
  clear h hs
  obtain ⟨i0, hi0, hz0, hz1, hz2⟩ := info_parts Try.infoPart
  have hmk := run_make_rowN (P := Try.prog) 44 49 i0 _ Try.underlying44 hi0 hz0 n (by rw [hz2]; omega) (by unfold maxLen; omega)
  rw [hz1] at hmk
  have hml := made_cells zPart (by simp [zPart]) n
  have hown : ∀ W : World, FillS fPart 2 zPart 49 (W.alloc (.cells (madeCells #[.int .i64 0, .slice none 0 0] (n * 2)) 49)) W.heap.size n 0 xs := fun W => by
    have := World.ownsRow_lit (e := 49) (size := 2) W (madeCells #[.int .i64 0, .slice none 0 0] (n * 2)) n (Nat.le_refl W.heap.size) (by unfold maxLen; omega) (by simp [madeCells])
    rw [show (madeCells #[.int .i64 0, .slice none 0 0] (n * 2)).toList = (List.replicate n zPart).flatten from hml] at this
    exact FillS.start this
  have HO := Lib.hid hown
  clear hown hml hi0 hz0 hz1 hz2
  go_enter Try.func71, Try.ntmps71
  go_wp2_with fail
  go_loopw [4] (fun i wr => ∃ k : Nat, k ≤ n ∧ i = .int .i64 k ∧ FillS fPart 2 zPart 49 wr w.heap.size n k xs ∧ Below w.heap.size w wr) (fun i _ => n - (intOf i).toNat)
  case atStart => exact ⟨0, Nat.zero_le _, rfl, HO.out w, (Below.refl _ _).alloc (Nat.le_refl _) _⟩
  case round =>
    obtain ⟨k, hk, rfl, hown, hb⟩ := hrel
    have HOW := Lib.hid hown
    have HB := Lib.hid hb
    have hwsz := hb.size
    have hlo := hown.lt
    clear hown hb
    by_cases hlt : k < n
    · obtain ⟨b, o, hl, A1, n1, c1, rfl, _, hbh, hc0, hc1, ⟨hn1, hm1, hr1⟩⟩ := rd_Part (HI.out.below HB.out hh) hlt
      have hsz0 := HSZ.out
      have HR1 := Lib.hid hr1
      clear hr1
      go_wp2_with fail
      refine (toPart_d xs[k].shard xs[k].us A1 n1 c1 _ lo hi (Nat.le_trans hh HB.out.size) HR1.out (by have h1 := sz_Part_get (xs := xs) (List.getElem_mem hl); have h2 := szL_fPart xs[k]; omega)).mono ?_
      rintro e w2 ⟨B1, bc1, hd, hb2, rfl⟩
      have HB2 := Lib.hid (bel_tr HB.out (Nat.le_refl _) hb2)
      have hown2 := HOW.out.fresh hb2
      obtain ⟨u0, hg0, hf0⟩ := hown2.cell hlt 0 (by omega)
      obtain ⟨u1, hg1, hf1⟩ := hown2.cell hlt 1 (by omega)
      rw [Nat.add_zero] at hg0 hf0
      have HST := Lib.hid (HOW.out.step fPart_len rfl hl hlt hb2 hd)
      have hlo2 := hown2.lt
      clear hown2 hb2 hd hsz0
      go_wp2_with fail
      go_roundw
      case rel => exact ⟨k + 1, by omega, by go_num, HST.out, (HB2.out.setCell (Nat.le_refl _) _).setCell (Nat.le_refl _) _⟩
      case measure => simp [intOf]; omega
    · have hkn : k = n := by omega
      subst hkn
      go_wp2_with fail
      go_ret
      exact ⟨_, _, by have h1 := HOW.out.done HN.out.symm; rw [HN.out] at h1 ⊢; exact h1, HB.out, rfl⟩

set_option maxRecDepth 100000 in
set_option maxHeartbeats 1600000 in
theorem eqPart_d (shard : Int) (us : List Upd) (A1 : Option Addr) (n1 c1 : Nat) (B1 : Option Addr) (bn1 bc1 : Nat) (w : World) (lo hi lo' hi' : Nat) (hh : hi ≤ w.heap.size) (hh' : hi' ≤ w.heap.size) (hr1 : D.rd w lo hi (dUpdates us) (.slice A1 n1 c1)) (hq1 : D.rd w lo' hi' (dUpdates us) (.slice B1 bn1 bc1)) :
    Calls Try.prog 95 #[.agg #[.int .i64 shard, .slice A1 n1 c1], .agg #[.int .i64 shard, .slice B1 bn1 bc1]] w fun e w' => e = .returned (.bool true) ∧ Below w.heap.size w w' := by

  have HR1 := Lib.hid hr1
  have HQ1 := Lib.hid hq1
  clear hr1 hq1
  have he0 : (!(shard == shard)) = false := by simp
  have HB0 : Hid (Below w.heap.size w ((w.alloc (.cells #[.int .i64 shard, .slice A1 n1 c1] 49)).alloc (.cells #[.int .i64 shard, .slice B1 bn1 bc1] 49))) := ((Below.refl _ _).alloc (Nat.le_refl _) _).alloc (by simp) _
  go_enter Try.func95, Try.ntmps95
  go_wp2_with fail
  refine (eqUpdateS_d us A1 B1 n1 bn1 c1 bc1 _ lo hi lo' hi' (Nat.le_trans hh HB0.out.size) (Nat.le_trans hh' HB0.out.size) (HR1.out.below HB0.out hh) (HQ1.out.below HB0.out hh')).mono ?_
  rintro e w1 ⟨rfl, hw1⟩
  have HB1 := Lib.hid (bel_tr HB0.out (Nat.le_refl _) hw1)
  obtain ⟨hcc1, hcf1⟩ := bcell hw1
  have hz1 : w.heap.size + 1 < w1.heap.size := by have h1 := hw1.size; simp at h1; omega
  have hz1b : w.heap.size < w1.heap.size := by omega
  clear hw1
  go_wp2_with fail
  go_ret
  exact ⟨rfl, HB1.out⟩

set_option maxRecDepth 100000 in
set_option maxHeartbeats 1600000 in
theorem eqPartS_d (xs : List PartD) (A A' : Option Addr) (n n' c c' : Nat) (w : World) (lo hi lo' hi' : Nat) (hh : hi ≤ w.heap.size) (hh' : hi' ≤ w.heap.size) (h : D.rd w lo hi (dParts xs) (.slice A n c)) (h' : D.rd w lo' hi' (dParts xs) (.slice A' n' c')) :
    Calls Try.prog 72 #[.slice A n c, .slice A' n' c'] w fun e w' => e = .returned (.bool true) ∧ Below w.heap.size w w' := by
  have h1 := h.len
  have h2 := h'.len
  obtain rfl : n' = n := h2.1.trans h1.1.symm
  have hn63 : n' ≤ 9223372036854775807 := by omega
  have HI := Lib.hid h
  have HJ := Lib.hid h'
  clear h h' h1 h2
  go_enter Try.func72, Try.ntmps72
  go_wp2_with fail
  go_loopw [5] (fun i wr => ∃ k : Nat, k ≤ n' ∧ i = .int .i64 k ∧ Below w.heap.size w wr) (fun i _ => n' - (intOf i).toNat)
  case atStart => exact ⟨0, Nat.zero_le _, rfl, Below.refl _ _⟩
  case round =>
    obtain ⟨k, hk, rfl, hb⟩ := hrel
    have HB := Lib.hid hb
    have hwsz := hb.size
    clear hb
    by_cases hlt : k < n'
    · obtain ⟨b, o, hl, A1, n1, c1, rfl, _, hbh, hc0, hc1, ⟨hn1, hm1, hr1⟩⟩ := rd_Part (HI.out.below HB.out hh) hlt
      obtain ⟨b', o', hl', B1, bn1, bc1, rfl, _, hbh', hd0, hd1, ⟨-, -, hq1⟩⟩ := rd_Part (HJ.out.below HB.out hh') hlt
      have HR1 := Lib.hid hr1.drew
      have HQ1 := Lib.hid hq1.drew
      clear hr1 hq1
      go_wp2_with fail
      go_still_tail 8, (by kernel_rfl)
      change wpList _ _ _ _ _ wr.drew
      go_wp2_with fail
      refine (eqPart_d xs[k].shard xs[k].us A1 n1 c1 B1 bn1 bc1 wr.drew lo hi lo' hi' (Nat.le_trans hh HB.out.size) (Nat.le_trans hh' HB.out.size) HR1.out HQ1.out).mono ?_
      rintro e w2 ⟨rfl, hb2⟩
      have HB2 : Hid (Below w.heap.size w w2) := HB.out.drew.trans (hb2.mono hwsz)
      clear hb2
      go_wp2_with fail
      go_roundw
      case rel => exact ⟨k + 1, by omega, by go_num, HB2.out⟩
      case measure => simp [intOf]; omega
    · have hkn : k = n' := by omega
      subst hkn
      go_wp2_with fail
      go_ret
      exact ⟨rfl, HB.out⟩

end Go.Proofs.Ytgbkjfhmbchiiaa

namespace Go.Proofs.Ytgbkjfhmbchiiaa
set_option linter.unusedVariables false
set_option linter.unusedSimpArgs false
open Go.RowKit

/-- the fields of a value of type Txn -/
def fTxn (x : TxnD) : List D := [dParts x.parts, intsD x.votes, .int x.dec]
theorem fTxn_len (x : TxnD) : (fTxn x).length = 3 := rfl
/-- a slice of them -/
def dTxns (xs : List TxnD) : D := .arr 3 xs.length (xs.flatMap fTxn)
theorem szL_fTxn (x : TxnD) : D.szL (fTxn x) = D.sz (dParts x.parts) + D.sz (intsD x.votes) := by
  unfold fTxn
  simp only [szL_cons, szL_nil, sz_int, sz_str]
  omega

theorem rd_Txn {w : World} {lo hi n k c : Nat} {A : Option Addr} {xs : List TxnD} (h : D.rd w lo hi (dTxns xs) (.slice A n c)) (hk : k < n) :
    ∃ (b o : Nat) (hl : k < xs.length) (A0 : Option Addr) (n0 c0 : Nat) (A1 : Option Addr) (n1 c1 : Nat), A = some ⟨b, o, none⟩ ∧ lo ≤ b ∧ b < hi ∧ w.cell? ⟨b, o + k * 3, none⟩ = some (.slice A0 n0 c0) ∧ w.cell? ⟨b, o + k * 3 + 1, none⟩ = some (.slice A1 n1 c1) ∧ w.cell? ⟨b, o + k * 3 + 2, none⟩ = some (.int .i64 xs[k].dec) ∧ (n0 ≤ c0 ∧ c0 ≤ 9223372036854775807 ∧ D.rd w lo hi (dParts xs[k].parts) (.slice A0 n0 c0)) ∧ (n1 ≤ c1 ∧ c1 ≤ 9223372036854775807 ∧ D.rd w lo hi (intsD xs[k].votes) (.slice A1 n1 c1)) := by
  have hn := h.len.1
  obtain ⟨b, o, hl, rfl, g1, g2, hc⟩ := h.at_ fTxn_len (by omega) (k := k) (by omega)
  obtain ⟨u0, hu0, hr0⟩ := hc 0 _ rfl
  obtain ⟨A0, c0, rfl, hn0, hm0, hd0⟩ := D.rd.arr_inv hr0
  obtain ⟨u1, hu1, hr1⟩ := hc 1 _ rfl
  obtain ⟨A1, c1, rfl, hn1, hm1, hd1⟩ := D.rd.arr_inv hr1
  obtain ⟨u2, hu2, hr2⟩ := hc 2 _ rfl
  obtain rfl := hr2.int_inv
  exact ⟨b, o, hl, A0, _, c0, A1, _, c1, rfl, g1, g2, hu0, hu1, hu2, ⟨hn0, hm0, hd0⟩, ⟨hn1, hm1, hd1⟩⟩

theorem sz_Txn_get {xs : List TxnD} {x : TxnD} (hx : x ∈ xs) : D.szL (fTxn x) ≤ D.sz (dTxns xs) := by
  unfold dTxns
  rw [sz_arr]
  have := szL_get fTxn xs hx
  omega

set_option maxRecDepth 100000 in
set_option maxHeartbeats 800000 in
theorem szTxn_d (parts : List PartD) (votes : List Int) (dec : Int) (A0 : Option Addr) (n0 c0 : Nat) (A1 : Option Addr) (n1 c1 : Nat) (left : Int) (w : World) (lo hi : Nat) (hh : hi ≤ w.heap.size) (hr0 : D.rd w lo hi (dParts parts) (.slice A0 n0 c0)) (hr1 : D.rd w lo hi (intsD votes) (.slice A1 n1 c1)) (h0 : 0 ≤ left) (hl : left ≤ 1048576) :
    Calls Try.prog 51 #[.agg #[.slice A0 n0 c0, .slice A1 n1 c1, .int .i64 dec], .int .i64 left] w fun e w' => SzR left (D.szL (fTxn (⟨parts, votes, dec⟩ : TxnD))) w e w' := by
  have HR0 := Lib.hid hr0
  have HR1 := Lib.hid hr1
  have HB0 : Hid (Below w.heap.size w (w.alloc (.cells #[.slice A0 n0 c0, .slice A1 n1 c1, .int .i64 dec] 75))) := (Below.refl _ _).alloc (Nat.le_refl _) _
  clear hr0 hr1
  go_enter Try.func51, Try.ntmps51
  go_wp2_with fail
  refine (szPartS_d parts A0 n0 c0 _ _ lo hi (Nat.le_trans hh HB0.out.size) (HR0.out.below HB0.out hh) (by omega) (by omega)).mono ?_
  rintro e w1 ⟨r1, ha1, hb1, hs1, hw1, rfl⟩
  have HB1 := Lib.hid (bel_tr HB0.out (Nat.le_refl _) hw1)
  obtain ⟨hcc1, hcf1⟩ := bcell hw1
  have hz1 : w.heap.size < w1.heap.size := by have h1 := hw1.size; first | (simp at h1; omega) | omega
  clear hw1
  by_cases hq1 : r1 < 0
  · go_wp2_with fail
    go_ret
    exact ⟨-1, by omega, by omega, by omega, HB1.out, rfl⟩
  have hp1 : 0 ≤ r1 := by omega
  have hs1' := hs1 hp1
  clear hq1 hs1
  go_wp2_with fail
  refine (szIntS_d votes A1 n1 c1 _ _ lo hi (Nat.le_trans hh HB1.out.size) (HR1.out.below HB1.out hh) (by omega) (by omega)).mono ?_
  rintro e w2 ⟨r2, ha2, hb2, hs2, hw2, rfl⟩
  have HB2 := Lib.hid (bel_tr HB1.out (Nat.le_refl _) hw2)
  obtain ⟨hcc2, hcf2⟩ := bcell hw2
  have hz2 : w.heap.size < w2.heap.size := by have h1 := hw2.size; first | (simp at h1; omega) | omega
  clear hw2
  by_cases hq2 : r2 < 0
  · go_wp2_with fail
    go_ret
    exact ⟨-1, by omega, by omega, by omega, HB2.out, rfl⟩
  have hp2 : 0 ≤ r2 := by omega
  have hs2' := hs2 hp2
  clear hq2 hs2
  go_wp2_with fail
  go_ret
  exact ⟨_, by omega, by omega, fun _ => by have h9 := szL_fTxn ⟨parts, votes, dec⟩; dsimp only at h9; omega, HB2.out, rfl⟩

set_option maxRecDepth 100000 in
set_option maxHeartbeats 800000 in
theorem szTxnS_d (xs : List TxnD) (A : Option Addr) (n c : Nat) (left : Int) (w : World) (lo hi : Nat) (hh : hi ≤ w.heap.size) (h : D.rd w lo hi (dTxns xs) (.slice A n c)) (h0 : 0 ≤ left) (hlf : left ≤ 1048576) :
    Calls Try.prog 31 #[.slice A n c, .int .i64 left] w fun e w' => SzR left (D.sz (dTxns xs)) w e w' := by
  have HI := Lib.hid h
  have HN := Lib.hid h.len.1
  have hnc := h.len.2.1
  have hcm := h.len.2.2
  rw [← h.len.1] at hnc
  clear h
  have HS : Hid (D.sz (dTxns xs) = n + D.szL (xs.flatMap fTxn)) := by
    show D.sz (dTxns xs) = _
    unfold dTxns
    rw [sz_arr, HN.out]
  by_cases hbig : left < n
  · go_enter Try.func31, Try.ntmps31
    go_wp2_with fail
    go_ret
    exact ⟨-1, by omega, by omega, by omega, Below.refl _ _, rfl⟩
  · have hnl : (n : Int) ≤ left := by omega
    clear hbig
    go_enter Try.func31, Try.ntmps31
    go_wp2_with fail
    go_loopw [1, 5] (fun l i wr => ∃ (k : Nat) (q : Int), k ≤ n ∧ i = .int .i64 k ∧ l = .int .i64 q ∧ 0 ≤ q ∧ q ≤ left ∧ Hid (q + n + (D.szL ((xs.take k).flatMap fTxn) : Nat) ≤ left) ∧ Below w.heap.size w wr) (fun _ i _ => n - (intOf i).toNat)
    case atStart => exact ⟨0, _, Nat.zero_le _, rfl, rfl, by omega, by omega, by show _ ≤ left; rw [List.take_zero, List.flatMap_nil, szL_nil]; omega, Below.refl _ _⟩
    case round =>
      obtain ⟨k, q, hk, rfl, rfl, hq0, hq1, HQ, hbw⟩ := hrel
      have HB := Lib.hid hbw
      have hwsz := hbw.size
      clear hbw
      by_cases hlt : k < n
      · obtain ⟨b, o, hl, A0, n0, c0, A1, n1, c1, rfl, _, hbh, hc0, hc1, hc2, ⟨hn0, hm0, hr0⟩, ⟨hn1, hm1, hr1⟩⟩ := rd_Txn (HI.out.below HB.out hh) hlt
        have HR0 := Lib.hid hr0
        have HR1 := Lib.hid hr1
        have HST := Lib.hid (szL_take fTxn xs k hl)
        have hcm_ := hcm
        clear hr0 hr1
        go_wp2_with fail
        refine (szTxn_d xs[k].parts xs[k].votes xs[k].dec A0 n0 c0 A1 n1 c1 q _ lo hi (Nat.le_trans hh HB.out.size) HR0.out HR1.out hq0 (by omega)).mono ?_
        rintro e w2 ⟨r, hr1, hr2, hr3, hb2, rfl⟩
        have HB2 := Lib.hid (bel_tr HB.out (Nat.le_refl _) hb2)
        clear hb2
        by_cases hr0 : r < 0
        · go_wp2_with fail
          go_ret
          exact ⟨-1, by omega, by omega, by omega, HB2.out, rfl⟩
        · have hr4 : 0 ≤ r := by omega
          have HS3 := Lib.hid (hr3 hr4)
          clear hr0 hr3
          go_wp2_with fail
          exact ⟨⟨k + 1, r, by omega, by go_num, rfl, hr4, by omega, by have h1 : r + (D.szL (fTxn xs[k]) : Nat) ≤ q := HS3.out; have h2 := HQ.out; show _ ≤ left; rw [HST.out]; omega, HB2.out⟩, by simp [intOf]; omega⟩
      · have hkn : k = n := by omega
        subst hkn
        go_wp2_with fail
        go_ret
        refine ⟨_, by omega, by omega, fun _ => ?_, HB.out, rfl⟩
        have h2 := HQ.out
        rw [List.take_of_length_le (by rw [HN.out]; exact Nat.le_refl _)] at h2
        rw [HS.out]
        omega

set_option maxRecDepth 100000 in
set_option maxHeartbeats 1600000 in
theorem toTxn_d (parts : List PartD) (votes : List Int) (dec : Int) (A0 : Option Addr) (n0 c0 : Nat) (A1 : Option Addr) (n1 c1 : Nat) (w : World) (lo hi : Nat) (hh : hi ≤ w.heap.size) (hr0 : D.rd w lo hi (dParts parts) (.slice A0 n0 c0)) (hr1 : D.rd w lo hi (intsD votes) (.slice A1 n1 c1)) (hs0 : D.sz (dParts parts) ≤ 1048576) (hs1 : D.sz (intsD votes) ≤ 1048576) :
    Calls Try.prog 52 #[.agg #[.slice A0 n0 c0, .slice A1 n1 c1, .int .i64 dec]] w fun e w' => ∃ (B0 : Option Addr) (bc0 : Nat) (B1 : Option Addr) (bc1 : Nat), OwnL w' w.heap.size (fTxn (⟨parts, votes, dec⟩ : TxnD)) [.slice B0 n0 bc0, .slice B1 n1 bc1, .int .i64 dec] ∧ Below w.heap.size w w' ∧ e = .returned (.agg #[.slice B0 n0 bc0, .slice B1 n1 bc1, .int .i64 dec]) := by
  have HR0 := Lib.hid hr0
  have HR1 := Lib.hid hr1
  clear hr0 hr1
  go_enter Try.func52, Try.ntmps52
  have HB0 : Hid (Below w.heap.size w (((w.alloc (.cells #[.slice A0 n0 c0, .slice A1 n1 c1, .int .i64 dec] 75)).alloc (.cells #[.slice none 0 0, .slice none 0 0, .int .i64 0] 46)).alloc (.cells #[.slice none 0 0, .slice none 0 0, .int .i64 0] 46))) := (((Below.refl _ _).alloc (Nat.le_refl _) _).alloc (by simp) _).alloc (by simp; omega) _
  have HL0 : Hid (OwnL (((w.alloc (.cells #[.slice A0 n0 c0, .slice A1 n1 c1, .int .i64 dec] 75)).alloc (.cells #[.slice none 0 0, .slice none 0 0, .int .i64 0] 46)).alloc (.cells #[.slice none 0 0, .slice none 0 0, .int .i64 0] 46)) (w.heap.size + 1 + 1 + 1) [] []) := Lib.hid (OwnL.nil _ _)
  go_wp2_with fail
  refine (toPartS_d parts A0 n0 c0 _ lo hi (Nat.le_trans hh HB0.out.size) (HR0.out.below HB0.out hh) hs0).mono ?_
  rintro e w1 ⟨B0, bc0, ho0, hw1, rfl⟩
  have HL1 : Hid (OwnL w1 (w.heap.size + 1 + 1 + 1) [dParts parts] [.slice B0 n0 bc0]) := Lib.hid (HL0.out.snoc (Nat.le_refl _) hw1 ho0 (by simp))
  have HB1 := Lib.hid (bel_tr HB0.out (Nat.le_refl _) hw1)
  obtain ⟨hcc1, hcf1⟩ := bcell hw1
  have hz1 : w.heap.size + 1 + 1 < w1.heap.size := by have h1 := hw1.size; simp at h1; omega
  have hz1a : w.heap.size + 1 < w1.heap.size := by omega
  have hz1b : w.heap.size < w1.heap.size := by omega
  clear hw1 ho0
  have HL1p : Hid (OwnL (w1.setCell ⟨w.heap.size + 1 + 1, 0, none⟩ (.slice B0 n0 bc0)) (w.heap.size + 1 + 1 + 1) [dParts parts] [.slice B0 n0 bc0]) := Lib.hid ((HL1.out).set (by omega) _ _)
  have HB1p : Hid (Below w.heap.size w (w1.setCell ⟨w.heap.size + 1 + 1, 0, none⟩ (.slice B0 n0 bc0))) := Lib.hid ((HB1.out).setCell (by first | (simp; done) | (simp; omega)) _)
  go_wp2_with fail
  refine (toIntS_d votes A1 n1 c1 _ lo hi (Nat.le_trans hh HB1p.out.size) (HR1.out.below HB1p.out hh) hs1).mono ?_
  rintro e w2 ⟨B1, bc1, ho1, hw2, rfl⟩
  have HL2 : Hid (OwnL w2 (w.heap.size + 1 + 1 + 1) [dParts parts, intsD votes] [.slice B0 n0 bc0, .slice B1 n1 bc1]) := Lib.hid (HL1p.out.snoc (Nat.le_refl _) hw2 ho1 (by first | (simp; done) | (have := hz1; simp; omega)))
  have HB2 := Lib.hid (bel_tr HB1p.out (Nat.le_refl _) hw2)
  obtain ⟨hcc2, hcf2⟩ := bcell hw2
  have hz2 : w.heap.size + 1 + 1 < w2.heap.size := by have h1 := hw2.size; simp at h1; omega
  have hz2a : w.heap.size + 1 < w2.heap.size := by omega
  have hz2b : w.heap.size < w2.heap.size := by omega
  clear hw2 ho1
  go_wp2_with fail
  exact bodyPost_ret (v := .agg #[.slice B0 n0 bc0, .slice B1 n1 bc1, .int .i64 dec]) (by simp [results, Try.results52, go_sem, hcc1, hcf1, hz1, hz1a, hz1b, hcc2, hcf2, hz2, hz2a, hz2b]) rfl ⟨B0, bc0, B1, bc1, (((((((HL2.out).int _).set (by omega) _ _).set (by omega) _ _).set (by omega) _ _).set (by omega) _ _).set (by omega) _ _).low (by omega), (((((HB2.out).setCell (by first | (simp; done) | (simp; omega)) _).setCell (by first | (simp; done) | (simp; omega)) _).setCell (by first | (simp; done) | (simp; omega)) _).setCell (by first | (simp; done) | (simp; omega)) _).setCell (by first | (simp; done) | (simp; omega)) _, rfl⟩

theorem Try.infoTxn : (Try.prog.info? 46).map (fun i => (i.zero, i.size, i.bytes)) = some (some (.agg #[.slice none 0 0, .slice none 0 0, .int .i64 0]), 3, 56) := by kernel_rfl
def zTxn : List Value := [.slice none 0 0, .slice none 0 0, .int .i64 0]
set_option maxRecDepth 100000 in
set_option maxHeartbeats 1600000 in
theorem toTxnS_d (xs : List TxnD) (A : Option Addr) (n c : Nat) (w : World) (lo hi : Nat) (hh : hi ≤ w.heap.size) (h : D.rd w lo hi (dTxns xs) (.slice A n c)) (hs : D.sz (dTxns xs) ≤ 1048576) :
    Calls Try.prog 33 #[.slice A n c] w fun e w' => ∃ (B : Option Addr) (d : Nat), Own w' w.heap.size (dTxns xs) (.slice B n d) ∧ Below w.heap.size w w' ∧ e = .returned (.slice B n d) := by
  have HI := Lib.hid h
  have HN := Lib.hid h.len.1
  have HSZ := Lib.hid hs
  have hn20 : n ≤ 1048576 := by
    have h1 := h.len.1
    unfold dTxns at hs
    rw [sz_arr] at hs; omega
  clear h hs
  obtain ⟨i0, hi0, hz0, hz1, hz2⟩ := info_parts Try.infoTxn
  have hmk := run_make_rowN (P := Try.prog) 23 46 i0 _ Try.underlying23 hi0 hz0 n (by rw [hz2]; omega) (by unfold maxLen; omega)
  rw [hz1] at hmk
  have hml := made_cells zTxn (by simp [zTxn]) n
  have hown : ∀ W : World, FillS fTxn 3 zTxn 46 (W.alloc (.cells (madeCells #[.slice none 0 0, .slice none 0 0, .int .i64 0] (n * 3)) 46)) W.heap.size n 0 xs := fun W => by
    have := World.ownsRow_lit (e := 46) (size := 3) W (madeCells #[.slice none 0 0, .slice none 0 0, .int .i64 0] (n * 3)) n (Nat.le_refl W.heap.size) (by unfold maxLen; omega) (by simp [madeCells])
    rw [show (madeCells #[.slice none 0 0, .slice none 0 0, .int .i64 0] (n * 3)).toList = (List.replicate n zTxn).flatten from hml] at this
    exact FillS.start this
  have HO := Lib.hid hown
  clear hown hml hi0 hz0 hz1 hz2
  go_enter Try.func33, Try.ntmps33
  go_wp2_with fail
  go_loopw [4] (fun i wr => ∃ k : Nat, k ≤ n ∧ i = .int .i64 k ∧ FillS fTxn 3 zTxn 46 wr w.heap.size n k xs ∧ Below w.heap.size w wr) (fun i _ => n - (intOf i).toNat)
  case atStart => exact ⟨0, Nat.zero_le _, rfl, HO.out w, (Below.refl _ _).alloc (Nat.le_refl _) _⟩
  case round =>
    obtain ⟨k, hk, rfl, hown, hb⟩ := hrel
    have HOW := Lib.hid hown
    have HB := Lib.hid hb
    have hwsz := hb.size
    have hlo := hown.lt
    clear hown hb
    by_cases hlt : k < n
    · obtain ⟨b, o, hl, A0, n0, c0, A1, n1, c1, rfl, _, hbh, hc0, hc1, hc2, ⟨hn0, hm0, hr0⟩, ⟨hn1, hm1, hr1⟩⟩ := rd_Txn (HI.out.below HB.out hh) hlt
      have hsz0 := HSZ.out
      have HR0 := Lib.hid hr0
      have HR1 := Lib.hid hr1
      clear hr0 hr1
      go_wp2_with fail
      refine (toTxn_d xs[k].parts xs[k].votes xs[k].dec A0 n0 c0 A1 n1 c1 _ lo hi (Nat.le_trans hh HB.out.size) HR0.out HR1.out (by have h1 := sz_Txn_get (xs := xs) (List.getElem_mem hl); have h2 := szL_fTxn xs[k]; omega) (by have h1 := sz_Txn_get (xs := xs) (List.getElem_mem hl); have h2 := szL_fTxn xs[k]; omega)).mono ?_
      rintro e w2 ⟨B0, bc0, B1, bc1, hd, hb2, rfl⟩
      have HB2 := Lib.hid (bel_tr HB.out (Nat.le_refl _) hb2)
      have hown2 := HOW.out.fresh hb2
      obtain ⟨u0, hg0, hf0⟩ := hown2.cell hlt 0 (by omega)
      obtain ⟨u1, hg1, hf1⟩ := hown2.cell hlt 1 (by omega)
      obtain ⟨u2, hg2, hf2⟩ := hown2.cell hlt 2 (by omega)
      rw [Nat.add_zero] at hg0 hf0
      have HST := Lib.hid (HOW.out.step fTxn_len rfl hl hlt hb2 hd)
      have hlo2 := hown2.lt
      clear hown2 hb2 hd hsz0
      go_wp2_with fail
      go_roundw
      case rel => exact ⟨k + 1, by omega, by go_num, HST.out, ((HB2.out.setCell (Nat.le_refl _) _).setCell (Nat.le_refl _) _).setCell (Nat.le_refl _) _⟩
      case measure => simp [intOf]; omega
    · have hkn : k = n := by omega
      subst hkn
      go_wp2_with fail
      go_ret
      exact ⟨_, _, by have h1 := HOW.out.done HN.out.symm; rw [HN.out] at h1 ⊢; exact h1, HB.out, rfl⟩

set_option maxRecDepth 100000 in
set_option maxHeartbeats 1600000 in
theorem eqTxn_d (parts : List PartD) (votes : List Int) (dec : Int) (A0 : Option Addr) (n0 c0 : Nat) (A1 : Option Addr) (n1 c1 : Nat) (B0 : Option Addr) (bn0 bc0 : Nat) (B1 : Option Addr) (bn1 bc1 : Nat) (w : World) (lo hi lo' hi' : Nat) (hh : hi ≤ w.heap.size) (hh' : hi' ≤ w.heap.size) (hr0 : D.rd w lo hi (dParts parts) (.slice A0 n0 c0)) (hr1 : D.rd w lo hi (intsD votes) (.slice A1 n1 c1)) (hq0 : D.rd w lo' hi' (dParts parts) (.slice B0 bn0 bc0)) (hq1 : D.rd w lo' hi' (intsD votes) (.slice B1 bn1 bc1)) :
    Calls Try.prog 53 #[.agg #[.slice A0 n0 c0, .slice A1 n1 c1, .int .i64 dec], .agg #[.slice B0 bn0 bc0, .slice B1 bn1 bc1, .int .i64 dec]] w fun e w' => e = .returned (.bool true) ∧ Below w.heap.size w w' := by

  have HR0 := Lib.hid hr0
  have HQ0 := Lib.hid hq0
  have HR1 := Lib.hid hr1
  have HQ1 := Lib.hid hq1
  clear hr0 hq0 hr1 hq1
  have he2 : (!(dec == dec)) = false := by simp
  have HB0 : Hid (Below w.heap.size w ((w.alloc (.cells #[.slice A0 n0 c0, .slice A1 n1 c1, .int .i64 dec] 46)).alloc (.cells #[.slice B0 bn0 bc0, .slice B1 bn1 bc1, .int .i64 dec] 46))) := ((Below.refl _ _).alloc (Nat.le_refl _) _).alloc (by simp) _
  go_enter Try.func53, Try.ntmps53
  go_wp2_with fail
  refine (eqPartS_d parts A0 B0 n0 bn0 c0 bc0 _ lo hi lo' hi' (Nat.le_trans hh HB0.out.size) (Nat.le_trans hh' HB0.out.size) (HR0.out.below HB0.out hh) (HQ0.out.below HB0.out hh')).mono ?_
  rintro e w1 ⟨rfl, hw1⟩
  have HB1 := Lib.hid (bel_tr HB0.out (Nat.le_refl _) hw1)
  obtain ⟨hcc1, hcf1⟩ := bcell hw1
  have hz1 : w.heap.size + 1 < w1.heap.size := by have h1 := hw1.size; simp at h1; omega
  have hz1b : w.heap.size < w1.heap.size := by omega
  clear hw1
  go_wp2_with fail
  refine (eqIntS_d votes A1 B1 n1 bn1 c1 bc1 _ lo hi lo' hi' (HR1.out.below HB1.out hh) (HQ1.out.below HB1.out hh')).mono ?_
  rintro e w2 ⟨rfl, hw2⟩
  have HB2 := Lib.hid (bel_tr HB1.out (Nat.le_refl _) hw2)
  obtain ⟨hcc2, hcf2⟩ := bcell hw2
  have hz2 : w.heap.size + 1 < w2.heap.size := by have h1 := hw2.size; omega
  have hz2b : w.heap.size < w2.heap.size := by omega
  clear hw2
  go_wp2_with fail
  go_ret
  exact ⟨rfl, HB2.out⟩

set_option maxRecDepth 100000 in
set_option maxHeartbeats 1600000 in
theorem eqTxnS_d (xs : List TxnD) (A A' : Option Addr) (n n' c c' : Nat) (w : World) (lo hi lo' hi' : Nat) (hh : hi ≤ w.heap.size) (hh' : hi' ≤ w.heap.size) (h : D.rd w lo hi (dTxns xs) (.slice A n c)) (h' : D.rd w lo' hi' (dTxns xs) (.slice A' n' c')) :
    Calls Try.prog 35 #[.slice A n c, .slice A' n' c'] w fun e w' => e = .returned (.bool true) ∧ Below w.heap.size w w' := by
  have h1 := h.len
  have h2 := h'.len
  obtain rfl : n' = n := h2.1.trans h1.1.symm
  have hn63 : n' ≤ 9223372036854775807 := by omega
  have HI := Lib.hid h
  have HJ := Lib.hid h'
  clear h h' h1 h2
  go_enter Try.func35, Try.ntmps35
  go_wp2_with fail
  go_loopw [5] (fun i wr => ∃ k : Nat, k ≤ n' ∧ i = .int .i64 k ∧ Below w.heap.size w wr) (fun i _ => n' - (intOf i).toNat)
  case atStart => exact ⟨0, Nat.zero_le _, rfl, Below.refl _ _⟩
  case round =>
    obtain ⟨k, hk, rfl, hb⟩ := hrel
    have HB := Lib.hid hb
    have hwsz := hb.size
    clear hb
    by_cases hlt : k < n'
    · obtain ⟨b, o, hl, A0, n0, c0, A1, n1, c1, rfl, _, hbh, hc0, hc1, hc2, ⟨hn0, hm0, hr0⟩, ⟨hn1, hm1, hr1⟩⟩ := rd_Txn (HI.out.below HB.out hh) hlt
      obtain ⟨b', o', hl', B0, bn0, bc0, B1, bn1, bc1, rfl, _, hbh', hd0, hd1, hd2, ⟨-, -, hq0⟩, ⟨-, -, hq1⟩⟩ := rd_Txn (HJ.out.below HB.out hh') hlt
      have HR0 := Lib.hid hr0.drew
      have HQ0 := Lib.hid hq0.drew
      have HR1 := Lib.hid hr1.drew
      have HQ1 := Lib.hid hq1.drew
      clear hr0 hq0 hr1 hq1
      go_wp2_with fail
      go_still_tail 8, (by kernel_rfl)
      change wpList _ _ _ _ _ wr.drew
      go_wp2_with fail
      refine (eqTxn_d xs[k].parts xs[k].votes xs[k].dec A0 n0 c0 A1 n1 c1 B0 bn0 bc0 B1 bn1 bc1 wr.drew lo hi lo' hi' (Nat.le_trans hh HB.out.size) (Nat.le_trans hh' HB.out.size) HR0.out HR1.out HQ0.out HQ1.out).mono ?_
      rintro e w2 ⟨rfl, hb2⟩
      have HB2 : Hid (Below w.heap.size w w2) := HB.out.drew.trans (hb2.mono hwsz)
      clear hb2
      go_wp2_with fail
      go_roundw
      case rel => exact ⟨k + 1, by omega, by go_num, HB2.out⟩
      case measure => simp [intOf]; omega
    · have hkn : k = n' := by omega
      subst hkn
      go_wp2_with fail
      go_ret
      exact ⟨rfl, HB.out⟩

end Go.Proofs.Ytgbkjfhmbchiiaa

namespace Go.Proofs.Ytgbkjfhmbchiiaa
set_option linter.unusedVariables false
set_option linter.unusedSimpArgs false
open Go.RowKit

/-- the fields of a value of type Coordinator -/
def fCoordinator (x : CoordD) : List D := [dTxns x.txns, intsD x.order]
theorem fCoordinator_len (x : CoordD) : (fCoordinator x).length = 2 := rfl
/-- a slice of them -/
def dCoordinators (xs : List CoordD) : D := .arr 2 xs.length (xs.flatMap fCoordinator)
theorem szL_fCoordinator (x : CoordD) : D.szL (fCoordinator x) = D.sz (dTxns x.txns) + D.sz (intsD x.order) := by
  unfold fCoordinator
  simp only [szL_cons, szL_nil, sz_int, sz_str]
  omega

theorem rd_Coordinator {w : World} {lo hi n k c : Nat} {A : Option Addr} {xs : List CoordD} (h : D.rd w lo hi (dCoordinators xs) (.slice A n c)) (hk : k < n) :
    ∃ (b o : Nat) (hl : k < xs.length) (A0 : Option Addr) (n0 c0 : Nat) (A1 : Option Addr) (n1 c1 : Nat), A = some ⟨b, o, none⟩ ∧ lo ≤ b ∧ b < hi ∧ w.cell? ⟨b, o + k * 2, none⟩ = some (.slice A0 n0 c0) ∧ w.cell? ⟨b, o + k * 2 + 1, none⟩ = some (.slice A1 n1 c1) ∧ (n0 ≤ c0 ∧ c0 ≤ 9223372036854775807 ∧ D.rd w lo hi (dTxns xs[k].txns) (.slice A0 n0 c0)) ∧ (n1 ≤ c1 ∧ c1 ≤ 9223372036854775807 ∧ D.rd w lo hi (intsD xs[k].order) (.slice A1 n1 c1)) := by
  have hn := h.len.1
  obtain ⟨b, o, hl, rfl, g1, g2, hc⟩ := h.at_ fCoordinator_len (by omega) (k := k) (by omega)
  obtain ⟨u0, hu0, hr0⟩ := hc 0 _ rfl
  obtain ⟨A0, c0, rfl, hn0, hm0, hd0⟩ := D.rd.arr_inv hr0
  obtain ⟨u1, hu1, hr1⟩ := hc 1 _ rfl
  obtain ⟨A1, c1, rfl, hn1, hm1, hd1⟩ := D.rd.arr_inv hr1
  exact ⟨b, o, hl, A0, _, c0, A1, _, c1, rfl, g1, g2, hu0, hu1, ⟨hn0, hm0, hd0⟩, ⟨hn1, hm1, hd1⟩⟩

theorem sz_Coordinator_get {xs : List CoordD} {x : CoordD} (hx : x ∈ xs) : D.szL (fCoordinator x) ≤ D.sz (dCoordinators xs) := by
  unfold dCoordinators
  rw [sz_arr]
  have := szL_get fCoordinator xs hx
  omega

set_option maxRecDepth 100000 in
set_option maxHeartbeats 800000 in
theorem szCoordinator_d (txns : List TxnD) (order : List Int) (A0 : Option Addr) (n0 c0 : Nat) (A1 : Option Addr) (n1 c1 : Nat) (left : Int) (w : World) (lo hi : Nat) (hh : hi ≤ w.heap.size) (hr0 : D.rd w lo hi (dTxns txns) (.slice A0 n0 c0)) (hr1 : D.rd w lo hi (intsD order) (.slice A1 n1 c1)) (h0 : 0 ≤ left) (hl : left ≤ 1048576) :
    Calls Try.prog 13 #[.agg #[.slice A0 n0 c0, .slice A1 n1 c1], .int .i64 left] w fun e w' => SzR left (D.szL (fCoordinator (⟨txns, order⟩ : CoordD))) w e w' := by
  have HR0 := Lib.hid hr0
  have HR1 := Lib.hid hr1
  have HB0 : Hid (Below w.heap.size w (w.alloc (.cells #[.slice A0 n0 c0, .slice A1 n1 c1] 35))) := (Below.refl _ _).alloc (Nat.le_refl _) _
  clear hr0 hr1
  go_enter Try.func13, Try.ntmps13
  go_wp2_with fail
  refine (szTxnS_d txns A0 n0 c0 _ _ lo hi (Nat.le_trans hh HB0.out.size) (HR0.out.below HB0.out hh) (by omega) (by omega)).mono ?_
  rintro e w1 ⟨r1, ha1, hb1, hs1, hw1, rfl⟩
  have HB1 := Lib.hid (bel_tr HB0.out (Nat.le_refl _) hw1)
  obtain ⟨hcc1, hcf1⟩ := bcell hw1
  have hz1 : w.heap.size < w1.heap.size := by have h1 := hw1.size; first | (simp at h1; omega) | omega
  clear hw1
  by_cases hq1 : r1 < 0
  · go_wp2_with fail
    go_ret
    exact ⟨-1, by omega, by omega, by omega, HB1.out, rfl⟩
  have hp1 : 0 ≤ r1 := by omega
  have hs1' := hs1 hp1
  clear hq1 hs1
  go_wp2_with fail
  refine (szIntS_d order A1 n1 c1 _ _ lo hi (Nat.le_trans hh HB1.out.size) (HR1.out.below HB1.out hh) (by omega) (by omega)).mono ?_
  rintro e w2 ⟨r2, ha2, hb2, hs2, hw2, rfl⟩
  have HB2 := Lib.hid (bel_tr HB1.out (Nat.le_refl _) hw2)
  obtain ⟨hcc2, hcf2⟩ := bcell hw2
  have hz2 : w.heap.size < w2.heap.size := by have h1 := hw2.size; first | (simp at h1; omega) | omega
  clear hw2
  by_cases hq2 : r2 < 0
  · go_wp2_with fail
    go_ret
    exact ⟨-1, by omega, by omega, by omega, HB2.out, rfl⟩
  have hp2 : 0 ≤ r2 := by omega
  have hs2' := hs2 hp2
  clear hq2 hs2
  go_wp2_with fail
  go_ret
  exact ⟨_, by omega, by omega, fun _ => by have h9 := szL_fCoordinator ⟨txns, order⟩; dsimp only at h9; omega, HB2.out, rfl⟩

set_option maxRecDepth 100000 in
set_option maxHeartbeats 1600000 in
theorem toCoordinator_d (txns : List TxnD) (order : List Int) (A0 : Option Addr) (n0 c0 : Nat) (A1 : Option Addr) (n1 c1 : Nat) (w : World) (lo hi : Nat) (hh : hi ≤ w.heap.size) (hr0 : D.rd w lo hi (dTxns txns) (.slice A0 n0 c0)) (hr1 : D.rd w lo hi (intsD order) (.slice A1 n1 c1)) (hs0 : D.sz (dTxns txns) ≤ 1048576) (hs1 : D.sz (intsD order) ≤ 1048576) :
    Calls Try.prog 14 #[.agg #[.slice A0 n0 c0, .slice A1 n1 c1]] w fun e w' => ∃ (B0 : Option Addr) (bc0 : Nat) (B1 : Option Addr) (bc1 : Nat), OwnL w' w.heap.size (fCoordinator (⟨txns, order⟩ : CoordD)) [.slice B0 n0 bc0, .slice B1 n1 bc1] ∧ Below w.heap.size w w' ∧ e = .returned (.agg #[.slice B0 n0 bc0, .slice B1 n1 bc1]) := by
  have HR0 := Lib.hid hr0
  have HR1 := Lib.hid hr1
  clear hr0 hr1
  go_enter Try.func14, Try.ntmps14
  have HB0 : Hid (Below w.heap.size w (((w.alloc (.cells #[.slice A0 n0 c0, .slice A1 n1 c1] 35)).alloc (.cells #[.slice none 0 0, .slice none 0 0] 26)).alloc (.cells #[.slice none 0 0, .slice none 0 0] 26))) := (((Below.refl _ _).alloc (Nat.le_refl _) _).alloc (by simp) _).alloc (by simp; omega) _
  have HL0 : Hid (OwnL (((w.alloc (.cells #[.slice A0 n0 c0, .slice A1 n1 c1] 35)).alloc (.cells #[.slice none 0 0, .slice none 0 0] 26)).alloc (.cells #[.slice none 0 0, .slice none 0 0] 26)) (w.heap.size + 1 + 1 + 1) [] []) := Lib.hid (OwnL.nil _ _)
  go_wp2_with fail
  refine (toTxnS_d txns A0 n0 c0 _ lo hi (Nat.le_trans hh HB0.out.size) (HR0.out.below HB0.out hh) hs0).mono ?_
  rintro e w1 ⟨B0, bc0, ho0, hw1, rfl⟩
  have HL1 : Hid (OwnL w1 (w.heap.size + 1 + 1 + 1) [dTxns txns] [.slice B0 n0 bc0]) := Lib.hid (HL0.out.snoc (Nat.le_refl _) hw1 ho0 (by simp))
  have HB1 := Lib.hid (bel_tr HB0.out (Nat.le_refl _) hw1)
  obtain ⟨hcc1, hcf1⟩ := bcell hw1
  have hz1 : w.heap.size + 1 + 1 < w1.heap.size := by have h1 := hw1.size; simp at h1; omega
  have hz1a : w.heap.size + 1 < w1.heap.size := by omega
  have hz1b : w.heap.size < w1.heap.size := by omega
  clear hw1 ho0
  have HL1p : Hid (OwnL (w1.setCell ⟨w.heap.size + 1 + 1, 0, none⟩ (.slice B0 n0 bc0)) (w.heap.size + 1 + 1 + 1) [dTxns txns] [.slice B0 n0 bc0]) := Lib.hid ((HL1.out).set (by omega) _ _)
  have HB1p : Hid (Below w.heap.size w (w1.setCell ⟨w.heap.size + 1 + 1, 0, none⟩ (.slice B0 n0 bc0))) := Lib.hid ((HB1.out).setCell (by first | (simp; done) | (simp; omega)) _)
  go_wp2_with fail
  refine (toIntS_d order A1 n1 c1 _ lo hi (Nat.le_trans hh HB1p.out.size) (HR1.out.below HB1p.out hh) hs1).mono ?_
  rintro e w2 ⟨B1, bc1, ho1, hw2, rfl⟩
  have HL2 : Hid (OwnL w2 (w.heap.size + 1 + 1 + 1) [dTxns txns, intsD order] [.slice B0 n0 bc0, .slice B1 n1 bc1]) := Lib.hid (HL1p.out.snoc (Nat.le_refl _) hw2 ho1 (by first | (simp; done) | (have := hz1; simp; omega)))
  have HB2 := Lib.hid (bel_tr HB1p.out (Nat.le_refl _) hw2)
  obtain ⟨hcc2, hcf2⟩ := bcell hw2
  have hz2 : w.heap.size + 1 + 1 < w2.heap.size := by have h1 := hw2.size; simp at h1; omega
  have hz2a : w.heap.size + 1 < w2.heap.size := by omega
  have hz2b : w.heap.size < w2.heap.size := by omega
  clear hw2 ho1
  go_wp2_with fail
  exact bodyPost_ret (v := .agg #[.slice B0 n0 bc0, .slice B1 n1 bc1]) (by simp [results, Try.results14, go_sem, hcc1, hcf1, hz1, hz1a, hz1b, hcc2, hcf2, hz2, hz2a, hz2b]) rfl ⟨B0, bc0, B1, bc1, ((((HL2.out).set (by omega) _ _).set (by omega) _ _).set (by omega) _ _).low (by omega), (((HB2.out).setCell (by first | (simp; done) | (simp; omega)) _).setCell (by first | (simp; done) | (simp; omega)) _).setCell (by first | (simp; done) | (simp; omega)) _, rfl⟩

set_option maxRecDepth 100000 in
set_option maxHeartbeats 1600000 in
theorem eqCoordinator_d (txns : List TxnD) (order : List Int) (A0 : Option Addr) (n0 c0 : Nat) (A1 : Option Addr) (n1 c1 : Nat) (B0 : Option Addr) (bn0 bc0 : Nat) (B1 : Option Addr) (bn1 bc1 : Nat) (w : World) (lo hi lo' hi' : Nat) (hh : hi ≤ w.heap.size) (hh' : hi' ≤ w.heap.size) (hr0 : D.rd w lo hi (dTxns txns) (.slice A0 n0 c0)) (hr1 : D.rd w lo hi (intsD order) (.slice A1 n1 c1)) (hq0 : D.rd w lo' hi' (dTxns txns) (.slice B0 bn0 bc0)) (hq1 : D.rd w lo' hi' (intsD order) (.slice B1 bn1 bc1)) :
    Calls Try.prog 15 #[.agg #[.slice A0 n0 c0, .slice A1 n1 c1], .agg #[.slice B0 bn0 bc0, .slice B1 bn1 bc1]] w fun e w' => e = .returned (.bool true) ∧ Below w.heap.size w w' := by

  have HR0 := Lib.hid hr0
  have HQ0 := Lib.hid hq0
  have HR1 := Lib.hid hr1
  have HQ1 := Lib.hid hq1
  clear hr0 hq0 hr1 hq1
  have HB0 : Hid (Below w.heap.size w ((w.alloc (.cells #[.slice A0 n0 c0, .slice A1 n1 c1] 26)).alloc (.cells #[.slice B0 bn0 bc0, .slice B1 bn1 bc1] 26))) := ((Below.refl _ _).alloc (Nat.le_refl _) _).alloc (by simp) _
  go_enter Try.func15, Try.ntmps15
  go_wp2_with fail
  refine (eqTxnS_d txns A0 B0 n0 bn0 c0 bc0 _ lo hi lo' hi' (Nat.le_trans hh HB0.out.size) (Nat.le_trans hh' HB0.out.size) (HR0.out.below HB0.out hh) (HQ0.out.below HB0.out hh')).mono ?_
  rintro e w1 ⟨rfl, hw1⟩
  have HB1 := Lib.hid (bel_tr HB0.out (Nat.le_refl _) hw1)
  obtain ⟨hcc1, hcf1⟩ := bcell hw1
  have hz1 : w.heap.size + 1 < w1.heap.size := by have h1 := hw1.size; simp at h1; omega
  have hz1b : w.heap.size < w1.heap.size := by omega
  clear hw1
  go_wp2_with fail
  refine (eqIntS_d order A1 B1 n1 bn1 c1 bc1 _ lo hi lo' hi' (HR1.out.below HB1.out hh) (HQ1.out.below HB1.out hh')).mono ?_
  rintro e w2 ⟨rfl, hw2⟩
  have HB2 := Lib.hid (bel_tr HB1.out (Nat.le_refl _) hw2)
  obtain ⟨hcc2, hcf2⟩ := bcell hw2
  have hz2 : w.heap.size + 1 < w2.heap.size := by have h1 := hw2.size; omega
  have hz2b : w.heap.size < w2.heap.size := by omega
  clear hw2
  go_wp2_with fail
  go_ret
  exact ⟨rfl, HB2.out⟩

end Go.Proofs.Ytgbkjfhmbchiiaa
