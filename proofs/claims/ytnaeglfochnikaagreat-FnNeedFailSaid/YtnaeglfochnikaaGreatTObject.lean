/-
  The datum of Object, and the walks of the laws' functions that count, copy and compare it (szObject, toObject, eqObject and those over slices). Condition: lengths fit an int64.
-/
import Derived.Test.YtnaeglfochnikaaGreatZ5
import Derived.Test.YtnaeglfochnikaaGreatZ1
import Derived.StillTailTactics
namespace Go.Proofs.YtnaeglfochnikaaGreat
set_option linter.unusedVariables false
set_option linter.unusedSimpArgs false
open Go.RowKit

/-- the fields of a value of type Object -/
def fObject (x : ObjD) : List D := [.int x.kind, intsD x.links, .str x.text]
theorem fObject_len (x : ObjD) : (fObject x).length = 3 := rfl
/-- a slice of them -/
def dObjects (xs : List ObjD) : D := .arr 3 xs.length (xs.flatMap fObject)
theorem szL_fObject (x : ObjD) : D.szL (fObject x) = D.sz (intsD x.links) + x.text.size := by
  unfold fObject
  simp only [szL_cons, szL_nil, sz_int, sz_str]
  omega

theorem rd_Object {w : World} {lo hi n k c : Nat} {A : Option Addr} {xs : List ObjD} (h : D.rd w lo hi (dObjects xs) (.slice A n c)) (hk : k < n) :
    ∃ (b o : Nat) (hl : k < xs.length) (A1 : Option Addr) (n1 c1 : Nat), A = some ⟨b, o, none⟩ ∧ lo ≤ b ∧ b < hi ∧ w.cell? ⟨b, o + k * 3, none⟩ = some (.int .i64 xs[k].kind) ∧ w.cell? ⟨b, o + k * 3 + 1, none⟩ = some (.slice A1 n1 c1) ∧ w.cell? ⟨b, o + k * 3 + 2, none⟩ = some (.string xs[k].text) ∧ (n1 ≤ c1 ∧ c1 ≤ 9223372036854775807 ∧ D.rd w lo hi (intsD xs[k].links) (.slice A1 n1 c1)) ∧ xs[k].text.size ≤ 9223372036854775807 := by
  have hn := h.len.1
  obtain ⟨b, o, hl, rfl, g1, g2, hc⟩ := h.at_ fObject_len (by omega) (k := k) (by omega)
  obtain ⟨u0, hu0, hr0⟩ := hc 0 _ rfl
  obtain rfl := hr0.int_inv
  obtain ⟨u1, hu1, hr1⟩ := hc 1 _ rfl
  obtain ⟨A1, c1, rfl, hn1, hm1, hd1⟩ := D.rd.arr_inv hr1
  obtain ⟨u2, hu2, hr2⟩ := hc 2 _ rfl
  obtain ⟨rfl, ht2⟩ := hr2.str_inv
  exact ⟨b, o, hl, A1, _, c1, rfl, g1, g2, hu0, hu1, hu2, ⟨hn1, hm1, hd1⟩, ht2⟩

theorem sz_Object_get {xs : List ObjD} {x : ObjD} (hx : x ∈ xs) : D.szL (fObject x) ≤ D.sz (dObjects xs) := by
  unfold dObjects
  rw [sz_arr]
  have := szL_get fObject xs hx
  omega

set_option maxRecDepth 100000 in
set_option maxHeartbeats 800000 in
theorem szObject_d (kind : Int) (links : List Int) (text : ByteArray) (A1 : Option Addr) (n1 c1 : Nat) (left : Int) (w : World) (lo hi : Nat) (hh : hi ≤ w.heap.size) (hr1 : D.rd w lo hi (intsD links) (.slice A1 n1 c1)) (ht2 : text.size ≤ 9223372036854775807) (h0 : 0 ≤ left) (hl : left ≤ 1048576) :
    Calls Tryz.prog 24 #[.agg #[.int .i64 kind, .slice A1 n1 c1, .string text], .int .i64 left] w fun e w' => SzR left (D.szL (fObject (⟨kind, links, text⟩ : ObjD))) w e w' := by
  have HR1 := Lib.hid hr1
  have HB0 : Hid (Below w.heap.size w (w.alloc (.cells #[.int .i64 kind, .slice A1 n1 c1, .string text] 49))) := (Below.refl _ _).alloc (Nat.le_refl _) _
  clear hr1
  go_enter Tryz.func24, Tryz.ntmps24
  go_wp2_with fail
  refine (szIntS_d links A1 n1 c1 _ _ lo hi (Nat.le_trans hh HB0.out.size) (HR1.out.below HB0.out hh) (by omega) (by omega)).mono ?_
  rintro e w1 ⟨r1, ha1, hb1, hs1, hw1, rfl⟩
  have HB1 := Lib.hid (bel_tr HB0.out (Nat.le_refl _) hw1)
  obtain ⟨hcc1, hcf1⟩ := bcell hw1
  have hz1 : w.heap.size < w1.heap.size := by have h1 := hw1.size; first | (simp at h1; omega) | omega
  clear hw1
  by_cases hq1 : r1 < 0
  · go_wp2_with fail
    go_ret
    exact ⟨-1, by omega, by omega, by omega, HB1.out, rfl⟩
  have hp1 : 0 ≤ r1 := by omega
  have hs1' := hs1 hp1
  clear hq1 hs1
  by_cases hq2 : r1 < (text.size : Int)
  · go_wp2_with fail
    go_ret
    exact ⟨-1, by omega, by omega, by omega, HB1.out, rfl⟩
  have hp2 : 0 ≤ r1 - (text.size : Int) := by omega
  clear hq2
  go_wp2_with fail
  go_ret
  exact ⟨_, by omega, by omega, fun _ => by have h9 := szL_fObject ⟨kind, links, text⟩; dsimp only at h9; omega, HB1.out, rfl⟩

set_option maxRecDepth 100000 in
set_option maxHeartbeats 800000 in
theorem szObjectS_d (xs : List ObjD) (A : Option Addr) (n c : Nat) (left : Int) (w : World) (lo hi : Nat) (hh : hi ≤ w.heap.size) (h : D.rd w lo hi (dObjects xs) (.slice A n c)) (h0 : 0 ≤ left) (hlf : left ≤ 1048576) :
    Calls Tryz.prog 5 #[.slice A n c, .int .i64 left] w fun e w' => SzR left (D.sz (dObjects xs)) w e w' := by
  have HI := Lib.hid h
  have HN := Lib.hid h.len.1
  have hnc := h.len.2.1
  have hcm := h.len.2.2
  rw [← h.len.1] at hnc
  clear h
  have HS : Hid (D.sz (dObjects xs) = n + D.szL (xs.flatMap fObject)) := by
    show D.sz (dObjects xs) = _
    unfold dObjects
    rw [sz_arr, HN.out]
  by_cases hbig : left < n
  · go_enter Tryz.func5, Tryz.ntmps5
    go_wp2_with fail
    go_ret
    exact ⟨-1, by omega, by omega, by omega, Below.refl _ _, rfl⟩
  · have hnl : (n : Int) ≤ left := by omega
    clear hbig
    go_enter Tryz.func5, Tryz.ntmps5
    go_wp2_with fail
    go_loopw [1, 5] (fun l i wr => ∃ (k : Nat) (q : Int), k ≤ n ∧ i = .int .i64 k ∧ l = .int .i64 q ∧ 0 ≤ q ∧ q ≤ left ∧ Hid (q + n + (D.szL ((xs.take k).flatMap fObject) : Nat) ≤ left) ∧ Below w.heap.size w wr) (fun _ i _ => n - (intOf i).toNat)
    case atStart => exact ⟨0, _, Nat.zero_le _, rfl, rfl, by omega, by omega, by show _ ≤ left; rw [List.take_zero, List.flatMap_nil, szL_nil]; omega, Below.refl _ _⟩
    case round =>
      obtain ⟨k, q, hk, rfl, rfl, hq0, hq1, HQ, hbw⟩ := hrel
      have HB := Lib.hid hbw
      have hwsz := hbw.size
      clear hbw
      by_cases hlt : k < n
      · obtain ⟨b, o, hl, A1, n1, c1, rfl, _, hbh, hc0, hc1, hc2, ⟨hn1, hm1, hr1⟩, ht2⟩ := rd_Object (HI.out.below HB.out hh) hlt
        have HR1 := Lib.hid hr1
        have HST := Lib.hid (szL_take fObject xs k hl)
        have hcm_ := hcm
        clear hr1
        go_wp2_with fail
        refine (szObject_d xs[k].kind xs[k].links xs[k].text A1 n1 c1 q _ lo hi (Nat.le_trans hh HB.out.size) HR1.out ht2 hq0 (by omega)).mono ?_
        rintro e w2 ⟨r, hr1, hr2, hr3, hb2, rfl⟩
        have HB2 := Lib.hid (bel_tr HB.out (Nat.le_refl _) hb2)
        clear hb2
        by_cases hr0 : r < 0
        · go_wp2_with fail
          go_ret
          exact ⟨-1, by omega, by omega, by omega, HB2.out, rfl⟩
        · have hr4 : 0 ≤ r := by omega
          have HS3 := Lib.hid (hr3 hr4)
          clear hr0 hr3
          go_wp2_with fail
          exact ⟨⟨k + 1, r, by omega, by go_num, rfl, hr4, by omega, by have h1 : r + (D.szL (fObject xs[k]) : Nat) ≤ q := HS3.out; have h2 := HQ.out; show _ ≤ left; rw [HST.out]; omega, HB2.out⟩, by simp [intOf]; omega⟩
      · have hkn : k = n := by omega
        subst hkn
        go_wp2_with fail
        go_ret
        refine ⟨_, by omega, by omega, fun _ => ?_, HB.out, rfl⟩
        have h2 := HQ.out
        rw [List.take_of_length_le (by rw [HN.out]; exact Nat.le_refl _)] at h2
        rw [HS.out]
        omega

set_option maxRecDepth 100000 in
set_option maxHeartbeats 1600000 in
theorem toObject_d (kind : Int) (links : List Int) (text : ByteArray) (A1 : Option Addr) (n1 c1 : Nat) (w : World) (lo hi : Nat) (hh : hi ≤ w.heap.size) (hr1 : D.rd w lo hi (intsD links) (.slice A1 n1 c1)) (ht2 : text.size ≤ 9223372036854775807) (hs1 : D.sz (intsD links) ≤ 1048576) :
    Calls Tryz.prog 29 #[.agg #[.int .i64 kind, .slice A1 n1 c1, .string text]] w fun e w' => ∃ (B1 : Option Addr) (bc1 : Nat), OwnL w' w.heap.size (fObject (⟨kind, links, text⟩ : ObjD)) [.int .i64 kind, .slice B1 n1 bc1, .string text] ∧ Below w.heap.size w w' ∧ e = .returned (.agg #[.int .i64 kind, .slice B1 n1 bc1, .string text]) := by
  have HR1 := Lib.hid hr1
  clear hr1
  go_enter Tryz.func29, Tryz.ntmps29
  have HB0 : Hid (Below w.heap.size w (((w.alloc (.cells #[.int .i64 kind, .slice A1 n1 c1, .string text] 49)).alloc (.cells #[.int .i64 0, .slice none 0 0, .string ⟨#[]⟩] 52)).alloc (.cells #[.int .i64 kind, .slice none 0 0, .string ⟨#[]⟩] 52))) := (((Below.refl _ _).alloc (Nat.le_refl _) _).alloc (by simp) _).alloc (by simp; omega) _
  have HL0 : Hid (OwnL (((w.alloc (.cells #[.int .i64 kind, .slice A1 n1 c1, .string text] 49)).alloc (.cells #[.int .i64 0, .slice none 0 0, .string ⟨#[]⟩] 52)).alloc (.cells #[.int .i64 kind, .slice none 0 0, .string ⟨#[]⟩] 52)) (w.heap.size + 1 + 1 + 1) [.int kind] [.int .i64 kind]) := Lib.hid ((OwnL.nil _ _).int _)
  go_wp2_with fail
  refine (toIntS_d links A1 n1 c1 _ lo hi (Nat.le_trans hh HB0.out.size) (HR1.out.below HB0.out hh) hs1).mono ?_
  rintro e w1 ⟨B1, bc1, ho1, hw1, rfl⟩
  have HL1 : Hid (OwnL w1 (w.heap.size + 1 + 1 + 1) [.int kind, intsD links] [.int .i64 kind, .slice B1 n1 bc1]) := Lib.hid (HL0.out.snoc (Nat.le_refl _) hw1 ho1 (by simp))
  have HB1 := Lib.hid (bel_tr HB0.out (Nat.le_refl _) hw1)
  obtain ⟨hcc1, hcf1⟩ := bcell hw1
  have hz1 : w.heap.size + 1 + 1 < w1.heap.size := by have h1 := hw1.size; simp at h1; omega
  have hz1a : w.heap.size + 1 < w1.heap.size := by omega
  have hz1b : w.heap.size < w1.heap.size := by omega
  clear hw1 ho1
  go_wp2_with fail
  exact bodyPost_ret (v := .agg #[.int .i64 kind, .slice B1 n1 bc1, .string text]) (by simp [results, Tryz.results29, go_sem, hcc1, hcf1, hz1, hz1a, hz1b]) rfl ⟨B1, bc1, (((((((HL1.out).str ht2).set (by omega) _ _).set (by omega) _ _).set (by omega) _ _).set (by omega) _ _).set (by omega) _ _).low (by omega), (((((HB1.out).setCell (by first | (simp; done) | (simp; omega)) _).setCell (by first | (simp; done) | (simp; omega)) _).setCell (by first | (simp; done) | (simp; omega)) _).setCell (by first | (simp; done) | (simp; omega)) _).setCell (by first | (simp; done) | (simp; omega)) _, rfl⟩

theorem Tryz.infoObject : (Tryz.prog.info? 52).map (fun i => (i.zero, i.size, i.bytes)) = some (some (.agg #[.int .i64 0, .slice none 0 0, .string ⟨#[]⟩]), 3, 48) := by kernel_rfl
def zObject : List Value := [.int .i64 0, .slice none 0 0, .string ⟨#[]⟩]
set_option maxRecDepth 100000 in
set_option maxHeartbeats 1600000 in
theorem toObjectS_d (xs : List ObjD) (A : Option Addr) (n c : Nat) (w : World) (lo hi : Nat) (hh : hi ≤ w.heap.size) (h : D.rd w lo hi (dObjects xs) (.slice A n c)) (hs : D.sz (dObjects xs) ≤ 1048576) :
    Calls Tryz.prog 7 #[.slice A n c] w fun e w' => ∃ (B : Option Addr) (d : Nat), Own w' w.heap.size (dObjects xs) (.slice B n d) ∧ Below w.heap.size w w' ∧ e = .returned (.slice B n d) := by
  have HI := Lib.hid h
  have HN := Lib.hid h.len.1
  have HSZ := Lib.hid hs
  have hn20 : n ≤ 1048576 := by
    have h1 := h.len.1
    unfold dObjects at hs
    rw [sz_arr] at hs; omega
  clear h hs
  obtain ⟨i0, hi0, hz0, hz1, hz2⟩ := info_parts Tryz.infoObject
  have hmk := run_make_rowN (P := Tryz.prog) 28 52 i0 _ Tryz.underlying28 hi0 hz0 n (by rw [hz2]; omega) (by unfold maxLen; omega)
  rw [hz1] at hmk
  have hml := made_cells zObject (by simp [zObject]) n
  have hown : ∀ W : World, FillS fObject 3 zObject 52 (W.alloc (.cells (madeCells #[.int .i64 0, .slice none 0 0, .string ⟨#[]⟩] (n * 3)) 52)) W.heap.size n 0 xs := fun W => by
    have := World.ownsRow_lit (e := 52) (size := 3) W (madeCells #[.int .i64 0, .slice none 0 0, .string ⟨#[]⟩] (n * 3)) n (Nat.le_refl W.heap.size) (by unfold maxLen; omega) (by simp [madeCells])
    rw [show (madeCells #[.int .i64 0, .slice none 0 0, .string ⟨#[]⟩] (n * 3)).toList = (List.replicate n zObject).flatten from hml] at this
    exact FillS.start this
  have HO := Lib.hid hown
  clear hown hml hi0 hz0 hz1 hz2
  go_enter Tryz.func7, Tryz.ntmps7
  go_wp2_with fail
  go_loopw [4] (fun i wr => ∃ k : Nat, k ≤ n ∧ i = .int .i64 k ∧ FillS fObject 3 zObject 52 wr w.heap.size n k xs ∧ Below w.heap.size w wr) (fun i _ => n - (intOf i).toNat)
  case atStart => exact ⟨0, Nat.zero_le _, rfl, HO.out w, (Below.refl _ _).alloc (Nat.le_refl _) _⟩
  case round =>
    obtain ⟨k, hk, rfl, hown, hb⟩ := hrel
    have HOW := Lib.hid hown
    have HB := Lib.hid hb
    have hwsz := hb.size
    have hlo := hown.lt
    clear hown hb
    by_cases hlt : k < n
    · obtain ⟨b, o, hl, A1, n1, c1, rfl, _, hbh, hc0, hc1, hc2, ⟨hn1, hm1, hr1⟩, ht2⟩ := rd_Object (HI.out.below HB.out hh) hlt
      have hsz0 := HSZ.out
      have HR1 := Lib.hid hr1
      clear hr1
      go_wp2_with fail
      refine (toObject_d xs[k].kind xs[k].links xs[k].text A1 n1 c1 _ lo hi (Nat.le_trans hh HB.out.size) HR1.out ht2 (by have h1 := sz_Object_get (xs := xs) (List.getElem_mem hl); have h2 := szL_fObject xs[k]; omega)).mono ?_
      rintro e w2 ⟨B1, bc1, hd, hb2, rfl⟩
      have HB2 := Lib.hid (bel_tr HB.out (Nat.le_refl _) hb2)
      have hown2 := HOW.out.fresh hb2
      obtain ⟨u0, hg0, hf0⟩ := hown2.cell hlt 0 (by omega)
      obtain ⟨u1, hg1, hf1⟩ := hown2.cell hlt 1 (by omega)
      obtain ⟨u2, hg2, hf2⟩ := hown2.cell hlt 2 (by omega)
      rw [Nat.add_zero] at hg0 hf0
      have HST := Lib.hid (HOW.out.step fObject_len rfl hl hlt hb2 hd)
      have hlo2 := hown2.lt
      clear hown2 hb2 hd hsz0
      go_wp2_with fail
      go_roundw
      case rel => exact ⟨k + 1, by omega, by go_num, HST.out, ((HB2.out.setCell (Nat.le_refl _) _).setCell (Nat.le_refl _) _).setCell (Nat.le_refl _) _⟩
      case measure => simp [intOf]; omega
    · have hkn : k = n := by omega
      subst hkn
      go_wp2_with fail
      go_ret
      exact ⟨_, _, by have h1 := HOW.out.done HN.out.symm; rw [HN.out] at h1 ⊢; exact h1, HB.out, rfl⟩

set_option maxRecDepth 100000 in
set_option maxHeartbeats 1600000 in
theorem eqObject_d (kind : Int) (links : List Int) (text : ByteArray) (A1 : Option Addr) (n1 c1 : Nat) (B1 : Option Addr) (bn1 bc1 : Nat) (w : World) (lo hi lo' hi' : Nat) (hh : hi ≤ w.heap.size) (hh' : hi' ≤ w.heap.size) (hr1 : D.rd w lo hi (intsD links) (.slice A1 n1 c1)) (hq1 : D.rd w lo' hi' (intsD links) (.slice B1 bn1 bc1)) :
    Calls Tryz.prog 33 #[.agg #[.int .i64 kind, .slice A1 n1 c1, .string text], .agg #[.int .i64 kind, .slice B1 bn1 bc1, .string text]] w fun e w' => e = .returned (.bool true) ∧ Below w.heap.size w w' := by

  have HR1 := Lib.hid hr1
  have HQ1 := Lib.hid hq1
  clear hr1 hq1
  have he0 : (!(kind == kind)) = false := by simp
  have he2 : (!(text.toList == text.toList)) = false := by simp
  have HB0 : Hid (Below w.heap.size w ((w.alloc (.cells #[.int .i64 kind, .slice A1 n1 c1, .string text] 52)).alloc (.cells #[.int .i64 kind, .slice B1 bn1 bc1, .string text] 52))) := ((Below.refl _ _).alloc (Nat.le_refl _) _).alloc (by simp) _
  go_enter Tryz.func33, Tryz.ntmps33
  go_wp2_with fail
  refine (eqIntS_d links A1 B1 n1 bn1 c1 bc1 _ lo hi lo' hi' (HR1.out.below HB0.out hh) (HQ1.out.below HB0.out hh')).mono ?_
  rintro e w1 ⟨rfl, hw1⟩
  have HB1 := Lib.hid (bel_tr HB0.out (Nat.le_refl _) hw1)
  obtain ⟨hcc1, hcf1⟩ := bcell hw1
  have hz1 : w.heap.size + 1 < w1.heap.size := by have h1 := hw1.size; simp at h1; omega
  have hz1b : w.heap.size < w1.heap.size := by omega
  clear hw1
  go_wp2_with fail
  go_ret
  exact ⟨rfl, HB1.out⟩

set_option maxRecDepth 100000 in
set_option maxHeartbeats 1600000 in
theorem eqObjectS_d (xs : List ObjD) (A A' : Option Addr) (n n' c c' : Nat) (w : World) (lo hi lo' hi' : Nat) (hh : hi ≤ w.heap.size) (hh' : hi' ≤ w.heap.size) (h : D.rd w lo hi (dObjects xs) (.slice A n c)) (h' : D.rd w lo' hi' (dObjects xs) (.slice A' n' c')) :
    Calls Tryz.prog 11 #[.slice A n c, .slice A' n' c'] w fun e w' => e = .returned (.bool true) ∧ Below w.heap.size w w' := by
  have h1 := h.len
  have h2 := h'.len
  obtain rfl : n' = n := h2.1.trans h1.1.symm
  have hn63 : n' ≤ 9223372036854775807 := by omega
  have HI := Lib.hid h
  have HJ := Lib.hid h'
  clear h h' h1 h2
  go_enter Tryz.func11, Tryz.ntmps11
  go_wp2_with fail
  go_loopw [5] (fun i wr => ∃ k : Nat, k ≤ n' ∧ i = .int .i64 k ∧ Below w.heap.size w wr) (fun i _ => n' - (intOf i).toNat)
  case atStart => exact ⟨0, Nat.zero_le _, rfl, Below.refl _ _⟩
  case round =>
    obtain ⟨k, hk, rfl, hb⟩ := hrel
    have HB := Lib.hid hb
    have hwsz := hb.size
    clear hb
    by_cases hlt : k < n'
    · obtain ⟨b, o, hl, A1, n1, c1, rfl, _, hbh, hc0, hc1, hc2, ⟨hn1, hm1, hr1⟩, ht2⟩ := rd_Object (HI.out.below HB.out hh) hlt
      obtain ⟨b', o', hl', B1, bn1, bc1, rfl, _, hbh', hd0, hd1, hd2, ⟨-, -, hq1⟩, -⟩ := rd_Object (HJ.out.below HB.out hh') hlt
      have HR1 := Lib.hid hr1.drew
      have HQ1 := Lib.hid hq1.drew
      clear hr1 hq1
      go_wp2_with fail
      go_still_tail 8, (by kernel_rfl)
      change wpList _ _ _ _ _ wr.drew
      go_wp2_with fail
      refine (eqObject_d xs[k].kind xs[k].links xs[k].text A1 n1 c1 B1 bn1 bc1 wr.drew lo hi lo' hi' (Nat.le_trans hh HB.out.size) (Nat.le_trans hh' HB.out.size) HR1.out HQ1.out).mono ?_
      rintro e w2 ⟨rfl, hb2⟩
      have HB2 : Hid (Below w.heap.size w w2) := HB.out.drew.trans (hb2.mono hwsz)
      clear hb2
      go_wp2_with fail
      go_roundw
      case rel => exact ⟨k + 1, by omega, by go_num, HB2.out⟩
      case measure => simp [intOf]; omega
    · have hkn : k = n' := by omega
      subst hkn
      go_wp2_with fail
      go_ret
      exact ⟨rfl, HB.out⟩

end Go.Proofs.YtnaeglfochnikaaGreat
