/-
  The datum of Quarantine, and the walks of the laws' functions that count, copy and compare it (szQuarantine, toQuarantine, eqQuarantine and those over slices). Condition: lengths fit an int64.
-/
import Derived.Test.YtgpjcmplnigmcaaM9
import Derived.StillTailTactics
namespace Go.Proofs.Ytgpjcmplnigmcaa
set_option linter.unusedVariables false
set_option linter.unusedSimpArgs false
open Go.RowKit

/-- the fields of a value of type Quarantine -/
def fQuarantine (x : QuaD) : List D := [dObjects x.main, dAreas x.areas]
theorem fQuarantine_len (x : QuaD) : (fQuarantine x).length = 2 := rfl
/-- a slice of them -/
def dQuarantines (xs : List QuaD) : D := .arr 2 xs.length (xs.flatMap fQuarantine)
theorem szL_fQuarantine (x : QuaD) : D.szL (fQuarantine x) = D.sz (dObjects x.main) + D.sz (dAreas x.areas) := by
  unfold fQuarantine
  simp only [szL_cons, szL_nil, sz_int, sz_str]
  omega

theorem rd_Quarantine {w : World} {lo hi n k c : Nat} {A : Option Addr} {xs : List QuaD} (h : D.rd w lo hi (dQuarantines xs) (.slice A n c)) (hk : k < n) :
    ∃ (b o : Nat) (hl : k < xs.length) (A0 : Option Addr) (n0 c0 : Nat) (A1 : Option Addr) (n1 c1 : Nat), A = some ⟨b, o, none⟩ ∧ lo ≤ b ∧ b < hi ∧ w.cell? ⟨b, o + k * 2, none⟩ = some (.slice A0 n0 c0) ∧ w.cell? ⟨b, o + k * 2 + 1, none⟩ = some (.slice A1 n1 c1) ∧ (n0 ≤ c0 ∧ c0 ≤ 9223372036854775807 ∧ D.rd w lo hi (dObjects xs[k].main) (.slice A0 n0 c0)) ∧ (n1 ≤ c1 ∧ c1 ≤ 9223372036854775807 ∧ D.rd w lo hi (dAreas xs[k].areas) (.slice A1 n1 c1)) := by
  have hn := h.len.1
  obtain ⟨b, o, hl, rfl, g1, g2, hc⟩ := h.at_ fQuarantine_len (by omega) (k := k) (by omega)
  obtain ⟨u0, hu0, hr0⟩ := hc 0 _ rfl
  obtain ⟨A0, c0, rfl, hn0, hm0, hd0⟩ := D.rd.arr_inv hr0
  obtain ⟨u1, hu1, hr1⟩ := hc 1 _ rfl
  obtain ⟨A1, c1, rfl, hn1, hm1, hd1⟩ := D.rd.arr_inv hr1
  exact ⟨b, o, hl, A0, _, c0, A1, _, c1, rfl, g1, g2, hu0, hu1, ⟨hn0, hm0, hd0⟩, ⟨hn1, hm1, hd1⟩⟩

theorem sz_Quarantine_get {xs : List QuaD} {x : QuaD} (hx : x ∈ xs) : D.szL (fQuarantine x) ≤ D.sz (dQuarantines xs) := by
  unfold dQuarantines
  rw [sz_arr]
  have := szL_get fQuarantine xs hx
  omega

set_option maxRecDepth 100000 in
set_option maxHeartbeats 800000 in
theorem szQuarantine_d (main : List ObjD) (areas : List AreaD) (A0 : Option Addr) (n0 c0 : Nat) (A1 : Option Addr) (n1 c1 : Nat) (left : Int) (w : World) (lo hi : Nat) (hh : hi ≤ w.heap.size) (hr0 : D.rd w lo hi (dObjects main) (.slice A0 n0 c0)) (hr1 : D.rd w lo hi (dAreas areas) (.slice A1 n1 c1)) (h0 : 0 ≤ left) (hl : left ≤ 1048576) :
    Calls Try.prog 11 #[.agg #[.slice A0 n0 c0, .slice A1 n1 c1], .int .i64 left] w fun e w' => SzR left (D.szL (fQuarantine (⟨main, areas⟩ : QuaD))) w e w' := by
  have HR0 := Lib.hid hr0
  have HR1 := Lib.hid hr1
  have HB0 : Hid (Below w.heap.size w (w.alloc (.cells #[.slice A0 n0 c0, .slice A1 n1 c1] 25))) := (Below.refl _ _).alloc (Nat.le_refl _) _
  clear hr0 hr1
  go_enter Try.func11, Try.ntmps11
  go_wp2_with fail
  refine (szObjectS_d main A0 n0 c0 _ _ lo hi (Nat.le_trans hh HB0.out.size) (HR0.out.below HB0.out hh) (by omega) (by omega)).mono ?_
  rintro e w1 ⟨r1, ha1, hb1, hs1, hw1, rfl⟩
  have HB1 := Lib.hid (bel_tr HB0.out (Nat.le_refl _) hw1)
  obtain ⟨hcc1, hcf1⟩ := bcell hw1
  have hz1 : w.heap.size < w1.heap.size := by have h1 := hw1.size; first | (simp at h1; omega) | omega
  clear hw1
  by_cases hq1 : r1 < 0
  · go_wp2_with fail
    go_ret
    exact ⟨-1, by omega, by omega, by omega, HB1.out, rfl⟩
  have hp1 : 0 ≤ r1 := by omega
  have hs1' := hs1 hp1
  clear hq1 hs1
  go_wp2_with fail
  refine (szAreaS_d areas A1 n1 c1 _ _ lo hi (Nat.le_trans hh HB1.out.size) (HR1.out.below HB1.out hh) (by omega) (by omega)).mono ?_
  rintro e w2 ⟨r2, ha2, hb2, hs2, hw2, rfl⟩
  have HB2 := Lib.hid (bel_tr HB1.out (Nat.le_refl _) hw2)
  obtain ⟨hcc2, hcf2⟩ := bcell hw2
  have hz2 : w.heap.size < w2.heap.size := by have h1 := hw2.size; first | (simp at h1; omega) | omega
  clear hw2
  by_cases hq2 : r2 < 0
  · go_wp2_with fail
    go_ret
    exact ⟨-1, by omega, by omega, by omega, HB2.out, rfl⟩
  have hp2 : 0 ≤ r2 := by omega
  have hs2' := hs2 hp2
  clear hq2 hs2
  go_wp2_with fail
  go_ret
  exact ⟨_, by omega, by omega, fun _ => by have h9 := szL_fQuarantine ⟨main, areas⟩; dsimp only at h9; omega, HB2.out, rfl⟩

set_option maxRecDepth 100000 in
set_option maxHeartbeats 1600000 in
theorem toQuarantine_d (main : List ObjD) (areas : List AreaD) (A0 : Option Addr) (n0 c0 : Nat) (A1 : Option Addr) (n1 c1 : Nat) (w : World) (lo hi : Nat) (hh : hi ≤ w.heap.size) (hr0 : D.rd w lo hi (dObjects main) (.slice A0 n0 c0)) (hr1 : D.rd w lo hi (dAreas areas) (.slice A1 n1 c1)) (hs0 : D.sz (dObjects main) ≤ 1048576) (hs1 : D.sz (dAreas areas) ≤ 1048576) :
    Calls Try.prog 14 #[.agg #[.slice A0 n0 c0, .slice A1 n1 c1]] w fun e w' => ∃ (B0 : Option Addr) (bc0 : Nat) (B1 : Option Addr) (bc1 : Nat), OwnL w' w.heap.size (fQuarantine (⟨main, areas⟩ : QuaD)) [.slice B0 n0 bc0, .slice B1 n1 bc1] ∧ Below w.heap.size w w' ∧ e = .returned (.agg #[.slice B0 n0 bc0, .slice B1 n1 bc1]) := by
  have HR0 := Lib.hid hr0
  have HR1 := Lib.hid hr1
  clear hr0 hr1
  go_enter Try.func14, Try.ntmps14
  have HB0 : Hid (Below w.heap.size w (((w.alloc (.cells #[.slice A0 n0 c0, .slice A1 n1 c1] 25)).alloc (.cells #[.slice none 0 0, .slice none 0 0] 31)).alloc (.cells #[.slice none 0 0, .slice none 0 0] 31))) := (((Below.refl _ _).alloc (Nat.le_refl _) _).alloc (by simp) _).alloc (by simp; omega) _
  have HL0 : Hid (OwnL (((w.alloc (.cells #[.slice A0 n0 c0, .slice A1 n1 c1] 25)).alloc (.cells #[.slice none 0 0, .slice none 0 0] 31)).alloc (.cells #[.slice none 0 0, .slice none 0 0] 31)) (w.heap.size + 1 + 1 + 1) [] []) := Lib.hid (OwnL.nil _ _)
  go_wp2_with fail
  refine (toObjectS_d main A0 n0 c0 _ lo hi (Nat.le_trans hh HB0.out.size) (HR0.out.below HB0.out hh) hs0).mono ?_
  rintro e w1 ⟨B0, bc0, ho0, hw1, rfl⟩
  have HL1 : Hid (OwnL w1 (w.heap.size + 1 + 1 + 1) [dObjects main] [.slice B0 n0 bc0]) := Lib.hid (HL0.out.snoc (Nat.le_refl _) hw1 ho0 (by simp))
  have HB1 := Lib.hid (bel_tr HB0.out (Nat.le_refl _) hw1)
  obtain ⟨hcc1, hcf1⟩ := bcell hw1
  have hz1 : w.heap.size + 1 + 1 < w1.heap.size := by have h1 := hw1.size; simp at h1; omega
  have hz1a : w.heap.size + 1 < w1.heap.size := by omega
  have hz1b : w.heap.size < w1.heap.size := by omega
  clear hw1 ho0
  have HL1p : Hid (OwnL (w1.setCell ⟨w.heap.size + 1 + 1, 0, none⟩ (.slice B0 n0 bc0)) (w.heap.size + 1 + 1 + 1) [dObjects main] [.slice B0 n0 bc0]) := Lib.hid ((HL1.out).set (by omega) _ _)
  have HB1p : Hid (Below w.heap.size w (w1.setCell ⟨w.heap.size + 1 + 1, 0, none⟩ (.slice B0 n0 bc0))) := Lib.hid ((HB1.out).setCell (by first | (simp; done) | (simp; omega)) _)
  go_wp2_with fail
  refine (toAreaS_d areas A1 n1 c1 _ lo hi (Nat.le_trans hh HB1p.out.size) (HR1.out.below HB1p.out hh) hs1).mono ?_
  rintro e w2 ⟨B1, bc1, ho1, hw2, rfl⟩
  have HL2 : Hid (OwnL w2 (w.heap.size + 1 + 1 + 1) [dObjects main, dAreas areas] [.slice B0 n0 bc0, .slice B1 n1 bc1]) := Lib.hid (HL1p.out.snoc (Nat.le_refl _) hw2 ho1 (by first | (simp; done) | (have := hz1; simp; omega)))
  have HB2 := Lib.hid (bel_tr HB1p.out (Nat.le_refl _) hw2)
  obtain ⟨hcc2, hcf2⟩ := bcell hw2
  have hz2 : w.heap.size + 1 + 1 < w2.heap.size := by have h1 := hw2.size; simp at h1; omega
  have hz2a : w.heap.size + 1 < w2.heap.size := by omega
  have hz2b : w.heap.size < w2.heap.size := by omega
  clear hw2 ho1
  go_wp2_with fail
  exact bodyPost_ret (v := .agg #[.slice B0 n0 bc0, .slice B1 n1 bc1]) (by simp [results, Try.results14, go_sem, hcc1, hcf1, hz1, hz1a, hz1b, hcc2, hcf2, hz2, hz2a, hz2b]) rfl ⟨B0, bc0, B1, bc1, ((((HL2.out).set (by omega) _ _).set (by omega) _ _).set (by omega) _ _).low (by omega), (((HB2.out).setCell (by first | (simp; done) | (simp; omega)) _).setCell (by first | (simp; done) | (simp; omega)) _).setCell (by first | (simp; done) | (simp; omega)) _, rfl⟩

set_option maxRecDepth 100000 in
set_option maxHeartbeats 1600000 in
theorem eqQuarantine_d (main : List ObjD) (areas : List AreaD) (A0 : Option Addr) (n0 c0 : Nat) (A1 : Option Addr) (n1 c1 : Nat) (B0 : Option Addr) (bn0 bc0 : Nat) (B1 : Option Addr) (bn1 bc1 : Nat) (w : World) (lo hi lo' hi' : Nat) (hh : hi ≤ w.heap.size) (hh' : hi' ≤ w.heap.size) (hr0 : D.rd w lo hi (dObjects main) (.slice A0 n0 c0)) (hr1 : D.rd w lo hi (dAreas areas) (.slice A1 n1 c1)) (hq0 : D.rd w lo' hi' (dObjects main) (.slice B0 bn0 bc0)) (hq1 : D.rd w lo' hi' (dAreas areas) (.slice B1 bn1 bc1)) :
    Calls Try.prog 17 #[.agg #[.slice A0 n0 c0, .slice A1 n1 c1], .agg #[.slice B0 bn0 bc0, .slice B1 bn1 bc1]] w fun e w' => e = .returned (.bool true) ∧ Below w.heap.size w w' := by

  have HR0 := Lib.hid hr0
  have HQ0 := Lib.hid hq0
  have HR1 := Lib.hid hr1
  have HQ1 := Lib.hid hq1
  clear hr0 hq0 hr1 hq1
  have HB0 : Hid (Below w.heap.size w ((w.alloc (.cells #[.slice A0 n0 c0, .slice A1 n1 c1] 31)).alloc (.cells #[.slice B0 bn0 bc0, .slice B1 bn1 bc1] 31))) := ((Below.refl _ _).alloc (Nat.le_refl _) _).alloc (by simp) _
  go_enter Try.func17, Try.ntmps17
  go_wp2_with fail
  refine (eqObjectS_d main A0 B0 n0 bn0 c0 bc0 _ lo hi lo' hi' (Nat.le_trans hh HB0.out.size) (Nat.le_trans hh' HB0.out.size) (HR0.out.below HB0.out hh) (HQ0.out.below HB0.out hh')).mono ?_
  rintro e w1 ⟨rfl, hw1⟩
  have HB1 := Lib.hid (bel_tr HB0.out (Nat.le_refl _) hw1)
  obtain ⟨hcc1, hcf1⟩ := bcell hw1
  have hz1 : w.heap.size + 1 < w1.heap.size := by have h1 := hw1.size; simp at h1; omega
  have hz1b : w.heap.size < w1.heap.size := by omega
  clear hw1
  go_wp2_with fail
  refine (eqAreaS_d areas A1 B1 n1 bn1 c1 bc1 _ lo hi lo' hi' (Nat.le_trans hh HB1.out.size) (Nat.le_trans hh' HB1.out.size) (HR1.out.below HB1.out hh) (HQ1.out.below HB1.out hh')).mono ?_
  rintro e w2 ⟨rfl, hw2⟩
  have HB2 := Lib.hid (bel_tr HB1.out (Nat.le_refl _) hw2)
  obtain ⟨hcc2, hcf2⟩ := bcell hw2
  have hz2 : w.heap.size + 1 < w2.heap.size := by have h1 := hw2.size; omega
  have hz2b : w.heap.size < w2.heap.size := by omega
  clear hw2
  go_wp2_with fail
  go_ret
  exact ⟨rfl, HB2.out⟩

end Go.Proofs.Ytgpjcmplnigmcaa
