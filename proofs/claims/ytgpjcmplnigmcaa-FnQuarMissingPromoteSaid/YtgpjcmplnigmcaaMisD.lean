/-
  The draw of a quarantine, a transaction and ids to begin with. No condition.
-/
import Derived.Test.YtgpjcmplnigmcaaMisS
import Derived.Test.YtgpjcmplnigmcaaM13
import Derived.Test.YtgpjcmplnigmcaaIdsD
namespace Go.Proofs.Ytgpjcmplnigmcaa
set_option linter.unusedVariables false
set_option linter.unusedSimpArgs false
open Go.RowKit

/-- what the place of an area is, whatever the areas are -/
def FindW (zs : List AreaD) (r : Int) : Prop := r = -1 ∨ ∃ (k : Nat), k < zs.length ∧ r = k
set_option maxRecDepth 100000 in
set_option maxHeartbeats 800000 in
theorem l13FindW_any (zs : List AreaD) (t : Int) (A : Option Addr) (n c : Nat) (B : Option Addr) (m d : Nat) (w : World) (lo hi : Nat) (hh : hi ≤ w.heap.size) (h' : D.rd w lo hi (dAreas zs) (.slice B m d)) :
    Calls Try.prog 44 #[.agg #[.slice A n c, .slice B m d], .int .i64 t] w fun e w' => ∃ r : Int, FindW zs r ∧ Below w.heap.size w w' ∧ e = .returned (.int .i64 r) := by
  have HN := Lib.hid h'.len.1
  have hn63 : m ≤ 9223372036854775807 := by have := h'.len; omega
  obtain ⟨r, hr⟩ : ∃ r, r = w.heap.size := ⟨_, rfl⟩
  obtain ⟨w1, hw1⟩ : ∃ w1, w1 = w.alloc (.cells #[.slice A n c, .slice B m d] 31) := ⟨_, rfl⟩
  have hb1 : Below w.heap.size w w1 := by rw [hw1]; exact (Below.refl _ _).alloc (Nat.le_refl _) _
  have hx1 : w1.heap[r]? = some (.cells #[.slice A n c, .slice B m d] 31 (0, 0)) := by rw [hw1, hr]; exact heap_alloc_new w _
  have HI := Lib.hid (h'.below hb1 hh)
  have HB := Lib.hid hb1
  have k1 : w1.cell? ⟨r, 1, none⟩ = some (.slice B m d) := cell_of_row _ _ _ _ _ _ hx1
  have lr := hltS hx1
  clear h' hb1 hx1
  go_enter Try.func44, Try.ntmps44
  go_upto_region 1 with (fail)
  rw [← hw1, ← hr]
  clear hw1 hr
  go_wp2_with fail
  go_loop [5] (fun i => ∃ k : Nat, k ≤ m ∧ i = .int .i64 k ∧ Hid (∀ j (h : j < zs.length), j < k → zs[j].txn ≠ t)) (fun i => m - (intOf i).toNat)
  case atStart => exact ⟨0, Nat.zero_le _, rfl, fun j _ h => by omega⟩
  case round =>
    obtain ⟨k, hk, rfl, HT⟩ := hrel
    by_cases hlt : k < m
    · obtain ⟨b, o, hl, A1, n1, c1, rfl, _, hbh, hc0, hc1, -⟩ := rd_Area HI.out hlt
      obtain ⟨t1, ht1⟩ : ∃ t1, t1 = zs[k].txn := ⟨_, rfl⟩
      rw [← ht1] at hc0
      by_cases he : t1 = t
      · have hd : (t1 == t) = true := by simp [he]
        have HF : Hid (FindW zs k) := Lib.hid (.inr ⟨k, hl, rfl⟩)
        clear he ht1
        go_wp2_with fail
        go_ret
        exact ⟨k, HF.out, HB.out, rfl⟩
      · have hd : (t1 == t) = false := by simp [he]
        have HT2 : Hid (∀ j (h : j < zs.length), j < k + 1 → zs[j].txn ≠ t) := Lib.hid fun j h hj e => by
          rcases Nat.lt_or_ge j k with h1 | h1
          · exact HT.out j h h1 e
          · have : j = k := by omega
            subst this; exact he (by rw [ht1]; exact e)
        clear he ht1
        go_wp2_with fail
        go_round
        case rel => exact ⟨k + 1, by omega, by go_num, HT2⟩
        case measure => simp [intOf]; omega
    · have hkm : k = m := by omega
      subst hkm
      have HF : Hid (FindW zs (-1)) := Lib.hid (.inl rfl)
      go_wp2_with fail
      go_ret
      exact ⟨-1, HF.out, HB.out, rfl⟩

/-- what DrawQuarantineMissing hands back -/
def DrawnMis (w : World) (e : Ending) (w' : World) : Prop :=
  ∃ (Q : QuaD) (t : Int) (A : Option Addr) (n c : Nat) (B : Option Addr) (m d : Nat) (xs : List Int) (F : Option Addr) (k e9 : Nat), D.rd w' w.heap.size w'.heap.size (dObjects Q.main) (.slice A n c) ∧ D.rd w' w.heap.size w'.heap.size (dAreas Q.areas) (.slice B m d) ∧ GoodQ Q ∧ D.rd w' w.heap.size w'.heap.size (intsD xs) (.slice F k e9) ∧ k ≤ 1000 ∧ Below w.heap.size w w' ∧ e = .returned (.tuple #[.agg #[.slice A n c, .slice B m d], .int .i64 t, .slice F k e9])
set_option maxHeartbeats 3200000 in
set_option maxRecDepth 100000 in
theorem drawQMis_any (A : Option Addr) (n c : Nat) (zs : List Int) (w : World) (h : IsRow .u8 w A n c zs) :
    Calls Try.prog 22 #[.slice A n c] w fun e w' => DrawnMis w e w' := by
  have HI := Lib.hid (isRow_belowQ h ((Below.refl _ _).alloc (Nat.le_refl _) (.cells #[.slice none 0 0, .slice none 0 0] 31)) (Nat.le_refl _))
  obtain ⟨r, hr⟩ : ∃ r, r = w.heap.size := ⟨_, rfl⟩
  obtain ⟨w1, hw1⟩ : ∃ w1, w1 = w.alloc (.cells #[.slice none 0 0, .slice none 0 0] 31) := ⟨_, rfl⟩
  have hb1 : Below w.heap.size w w1 := by rw [hw1]; exact (Below.refl _ _).alloc (Nat.le_refl _) _
  have HX1 : Hid (w1.heap[r]? = some (.cells #[.slice none 0 0, .slice none 0 0] 31 (0, 0))) := by rw [hw1, hr]; exact Lib.hid (heap_alloc_new w _)
  have hsz1 : w1.heap.size = r + 1 := by rw [hw1, hr]; simp
  rw [← hw1] at HI
  have HB1 := Lib.hid hb1
  have HSZ := Lib.hid hsz1
  have hrw : w.heap.size ≤ r := by omega
  have hlr := hlt_of HX1.out
  clear h hb1 hsz1
  go_enter Try.func22, Try.ntmps22
  go_upto_region 1 with (fail)
  rw [← hw1, ← hr]
  clear hw1 hr
  go_wp2_with fail
  refine (l6Open_any _ _ _ zs _ HI.out).mono ?_
  rintro e w2 ⟨hR2, hb2, hs2, he⟩
  obtain ⟨g, hg⟩ : ∃ g, g = w1.heap.size := ⟨_, rfl⟩
  rw [← hg] at hR2 he
  subst he
  have hrg : r < g := by omega
  have HR2 := Lib.hid hR2
  have HB2 := Lib.hid (bel_tr HB1.out (Nat.le_refl _) hb2)
  have HX2 := Lib.hid ((hb2.block r hlr).trans HX1.out)
  have hgw2 : g < w2.heap.size := by omega
  clear hR2 hb2 hs2 hg
  go_wp2_with fail
  refine (l92Quarantine_any g 0 w2 (by omega) HR2.out).mono ?_
  rintro e w3 ⟨⟨ms, ays⟩, A3, n3, c3, B3, m3, d3, hrm, hra, hQ, hd3, rfl⟩
  obtain ⟨y, hy⟩ : ∃ y, y = w3.heap.size := ⟨_, rfl⟩
  obtain ⟨w4, hw4⟩ : ∃ w4, w4 = w3.alloc (.cells #[.slice A3 n3 c3, .slice B3 m3 d3] 31) := ⟨_, rfl⟩
  have hb4 : Below w3.heap.size w3 w4 := by rw [hw4]; exact (Below.refl _ _).alloc (Nat.le_refl _) _
  have HY4 : Hid (w4.heap[y]? = some (.cells #[.slice A3 n3 c3, .slice B3 m3 d3] 31 (0, 0))) := by rw [hw4, hy]; exact Lib.hid (heap_alloc_new w3 _)
  have HQ := Lib.hid hQ
  have HD4 := Lib.hid (hd3.fresh hb4)
  have HM4 := Lib.hid (hrm.below hb4 (Nat.le_refl _))
  have HA4 := Lib.hid (hra.below hb4 (Nat.le_refl _))
  have HX4 := Lib.hid ((HD4.out.1.block r (hlt_of HX2.out) (fun e => by injection e with e; omega)).trans HX2.out)
  have HB4 := Lib.hid (below_drQ HB2.out HD4.out (by omega))
  have hn17 : n3 ≤ 17 := by have := hrm.len.1; have := hQ.2.1; omega
  have h34 : w3.heap.size ≤ w4.heap.size := hb4.size
  have h23 : w2.heap.size ≤ w3.heap.size := hd3.1.size
  have hry : ¬ (r = y) := by have := hlt_of HX2.out; omega
  have hyr : ¬ (y = r) := fun e => hry e.symm
  have hgy : g < y := by omega
  clear hrm hra hQ hd3 hb4
  have k0 : w4.cell? ⟨y, 0, none⟩ = some (.slice A3 n3 c3) := cell_of_row _ _ _ _ _ _ HY4.out
  have k1 : w4.cell? ⟨y, 1, none⟩ = some (.slice B3 m3 d3) := cell_of_row _ _ _ _ _ _ HY4.out
  go_upto_region 3 with (fail)
  rw [← hw4, ← hy]
  clear hw4 hy
  go_wp2_with fail
  refine (l92Area_any g (0 + 20000) ays A3 n3 c3 B3 m3 d3 w4 w2.heap.size w3.heap.size (by omega) h34 hgw2 HA4.out HD4.out.2).mono ?_
  rintro e w5 ⟨t, hd5, rfl⟩
  have HD5 := Lib.hid (HD4.out.tr hd5)
  have HM5 := Lib.hid (HM4.out.drawT hd5 h34 hgw2)
  have HA5 := Lib.hid (HA4.out.drawT hd5 h34 hgw2)
  have HX5 := Lib.hid ((hd5.1.block r (hlt_of HX4.out) (fun e => by injection e with e; omega)).trans HX4.out)
  have HY5 := Lib.hid ((hd5.1.block y (hlt_of HY4.out) (fun e => by injection e with e; omega)).trans HY4.out)
  have h45 : w4.heap.size ≤ w5.heap.size := hd5.1.size
  clear hd5 k0 k1
  have k0 : w5.cell? ⟨y, 0, none⟩ = some (.slice A3 n3 c3) := cell_of_row _ _ _ _ _ _ HY5.out
  have k1 : w5.cell? ⟨y, 1, none⟩ = some (.slice B3 m3 d3) := cell_of_row _ _ _ _ _ _ HY5.out
  go_wp2_with fail
  refine (l13FindW_any ays t A3 n3 c3 B3 m3 d3 w5 w2.heap.size w3.heap.size (Nat.le_trans h34 h45) HA5.out).mono ?_
  rintro e w6 ⟨z, hz, hb6, rfl⟩
  have HD6 := Lib.hid (HD5.out.fresh hb6)
  have HM6 := Lib.hid (HM5.out.below hb6 (Nat.le_trans h34 h45))
  have HA6 := Lib.hid (HA5.out.below hb6 (Nat.le_trans h34 h45))
  have HX6 := Lib.hid ((hb6.block r (hlt_of HX5.out)).trans HX5.out)
  have HY6 := Lib.hid ((hb6.block y (hlt_of HY5.out)).trans HY5.out)
  have h46 : w4.heap.size ≤ w6.heap.size := Nat.le_trans h45 hb6.size
  clear hb6 k0 k1
  rcases hz with rfl | ⟨k, hk, rfl⟩
  · obtain ⟨w8, hw8⟩ : ∃ z, z = w6 := ⟨_, rfl⟩
    subst hw8
    have HD8 := HD6
    have HM8 := HM6
    have HA8 := HA6
    have HX8 := HX6
    have HY8 := HY6
    have h48 := h46
    have k0 : w8.cell? ⟨y, 0, none⟩ = some (.slice A3 n3 c3) := cell_of_row _ _ _ _ _ _ HY8.out
    have k1 : w8.cell? ⟨y, 1, none⟩ = some (.slice B3 m3 d3) := cell_of_row _ _ _ _ _ _ HY8.out
    have ly := hlt_of HY8.out
    go_upto_region 7 with (fail)
    have HRD8 : Hid (Rdr w8.drew g (0 + 20000 + 8)) := Lib.hid HD8.out.2
    have HRd8 := Lib.hid HM8.out.drew
    have hh8d : w3.heap.size ≤ w8.drew.heap.size := Nat.le_trans h34 h48
    have tok1 : True := trivial
    go_region_held_law (fun w' => w'.cell? ⟨y, 0, none⟩ = some (.slice A3 n3 c3) ∧ w'.cell? ⟨y, 1, none⟩ = some (.slice B3 m3 d3)) (go_keep)
      ((go_at_call 68; have _t := tok1; refine (l91Ids_any g (0 + 20000 + 8) ms A3 n3 c3 w8.drew w2.heap.size w3.heap.size (by omega) hh8d (.inl hgw2) (by omega) HQ.out.1 HRd8.out HRD8.out).mono ?_; rintro e w9 ⟨xs, F9, k9, e9, hf9, hk90, hd9', rfl⟩; have hk9 : k9 ≤ 1000 := (by have := hf9.len.1; omega); have hx9 : DrawT w8 w9 g (0 + 20000 + 8 + 12) := ⟨⟨hd9'.1.os, hd9'.1.tape, hd9'.1.output, hd9'.1.size, hd9'.1.block⟩, hd9'.2⟩; have HD9 := Lib.hid (HD8.out.tr hx9); have HF9 := Lib.hid hf9; have HM9 := Lib.hid (HM8.out.drawT hx9 (Nat.le_trans h34 h48) hgw2); have HA9 := Lib.hid (HA8.out.drawT hx9 (Nat.le_trans h34 h48) hgw2); have hxa := (hx9.1.block r (hlt_of HX8.out) (fun e => by injection e with e; omega)).trans HX8.out; have hya := (hx9.1.block y (hlt_of HY8.out) (fun e => by injection e with e; omega)).trans HY8.out; have j0 : w9.cell? ⟨y, 0, none⟩ = some (.slice A3 n3 c3) := cell_of_row _ _ _ _ _ _ hya; have j1 : w9.cell? ⟨y, 1, none⟩ = some (.slice B3 m3 d3) := cell_of_row _ _ _ _ _ _ hya; have x0 : w9.cell? ⟨r, 0, none⟩ = some (.slice none 0 0) := cell_of_row _ _ _ _ _ _ hxa; have x1 : w9.cell? ⟨r, 1, none⟩ = some (.slice none 0 0) := cell_of_row _ _ _ _ _ _ hxa; have xf0 : w9.frozen? ⟨r, 0, none⟩ = false := frozen_of_row _ _ _ _ _ hxa; have xf1 : w9.frozen? ⟨r, 1, none⟩ = false := frozen_of_row _ _ _ _ _ hxa; have lr := hlt_of hxa; have lya := hlt_of hya; clear tok1 hd9' hxa hya hf9 hk90))
    all_goals
      have hrr : r < w2.heap.size := by omega
      have hle := HB2.out.size
      have hsz8 := HD8.out.1.size
      have hsz9 := hx9.1.size
      have HBa := Lib.hid (below_drQ HB2.out HD9.out (by omega))
      go_wp2_with fail
      refine bodyPost_ret (v := .tuple #[.agg #[.slice A3 n3 c3, .slice B3 m3 d3], .int .i64 t, .slice F9 k9 e9]) (by simp [results, Try.results22, go_sem, x0, x1, xf0, xf1, j0, j1, hry, hyr]) rfl ?_
      refine ⟨⟨ms, ays⟩, t, A3, n3, c3, B3, m3, d3, xs, F9, k9, e9, ?_, ?_, HQ.out, ?_, hk9, (HBa.out.setCell hrw _).setCell hrw _, rfl⟩
      · exact ((HM9.out.setCell (p := ⟨r, 0, none⟩) (.inl hrr) _).setCell (p := ⟨r, 1, none⟩) (.inl hrr) _).more (by omega) (by simp; omega)
      · exact ((HA9.out.setCell (p := ⟨r, 0, none⟩) (.inl hrr) _).setCell (p := ⟨r, 1, none⟩) (.inl hrr) _).more (by omega) (by simp; omega)
      · exact ((HF9.out.setCell (p := ⟨r, 0, none⟩) (.inl (by show r < _; omega)) _).setCell (p := ⟨r, 1, none⟩) (.inl (by show r < _; omega)) _).more (by omega) (by simp)
  · have h0k : (0 : Int) ≤ (k : Int) := by omega
    go_wp2_with fail
    refine (pick_any g (0 + 20000 + 8) 2 w6 (by omega) HD6.out.2).mono ?_
    rintro e w8 ⟨r2, hr2, hR8, hg8, -, rfl⟩
    have hd8 : DrawT w6 w8 g (0 + 20000 + 8 + 1) := ⟨hg8, hR8⟩
    have HD8 := Lib.hid (HD6.out.tr hd8)
    have HM8 := Lib.hid (HM6.out.drawT hd8 (Nat.le_trans h34 h46) hgw2)
    have HA8 := Lib.hid (HA6.out.drawT hd8 (Nat.le_trans h34 h46) hgw2)
    have HX8 := Lib.hid ((hg8.block r (hlt_of HX6.out) (fun e => by injection e with e; omega)).trans HX6.out)
    have HY8 := Lib.hid ((hg8.block y (hlt_of HY6.out) (fun e => by injection e with e; omega)).trans HY6.out)
    have h48 : w4.heap.size ≤ w8.heap.size := Nat.le_trans h46 hg8.size
    have h20 := hr2.1
    have k0 : w8.cell? ⟨y, 0, none⟩ = some (.slice A3 n3 c3) := cell_of_row _ _ _ _ _ _ HY8.out
    have k1 : w8.cell? ⟨y, 1, none⟩ = some (.slice B3 m3 d3) := cell_of_row _ _ _ _ _ _ HY8.out
    have ly := hlt_of HY8.out
    clear hR8 hg8 hr2 hd8
    by_cases h2 : r2 = 0
    · subst h2
      have hkm : k < m3 := by have := HA8.out.len.1; omega
      obtain ⟨b1, o1, hl, A1, n1, c1, rfl, hlo, hbh, hc0, hc1, ⟨hn1, hm1, hr1⟩⟩ := rd_Area HA8.out hkm
      have HR1 := Lib.hid hr1
      obtain ⟨os1, hos1⟩ : ∃ z, z = ays[k].objs := ⟨_, rfl⟩
      rw [← hos1] at HR1
      have HV1 : Hid (∀ o ∈ os1, objB o = true) := Lib.hid (by rw [hos1]; exact (HQ.out.2.2.1 _ (List.getElem_mem hl)).1)
      have hn116 : n1 ≤ 16 := by
        have h1 := HR1.out.len.1
        have h2 := (HQ.out.2.2.1 _ (List.getElem_mem hl)).2
        rw [← hos1] at h2
        omega
      have hb8 : b1 < w8.heap.size := by omega
      have hb1g : b1 ≠ g := by omega
      have hrb : ¬ (r = b1) := by have := hlt_of HX2.out; omega
      have hbr : ¬ (b1 = r) := fun e => hrb e.symm
      clear hr1 hos1 hc0
      go_upto_region 6 with (fail)
      have HRD8 : Hid (Rdr w8.drew g (0 + 20000 + 8 + 1)) := Lib.hid HD8.out.2
      have HRd8 := Lib.hid HR1.out.drew
      have hh8d : w3.heap.size ≤ w8.drew.heap.size := Nat.le_trans h34 h48
      have tok1 : True := trivial
      go_region_held_law (fun w' => w'.cell? ⟨y, 0, none⟩ = some (.slice A3 n3 c3) ∧ w'.cell? ⟨y, 1, none⟩ = some (.slice (some ⟨b1, o1, none⟩) m3 d3) ∧ w'.cell? ⟨b1, o1 + k * 2 + 1, none⟩ = some (.slice A1 n1 c1)) (go_keep)
        ((go_at_call 68; have _t := tok1; refine (l91Ids_any g (0 + 20000 + 8 + 1) os1 A1 n1 c1 w8.drew w2.heap.size w3.heap.size (by omega) hh8d (.inl hgw2) (by omega) HV1.out HRd8.out HRD8.out).mono ?_; rintro e w9 ⟨xs, F9, k9, e9, hf9, hk90, hd9', rfl⟩; have hk9 : k9 ≤ 1000 := (by have := hf9.len.1; omega); have hx9 : DrawT w8 w9 g (0 + 20000 + 8 + 1 + 12) := ⟨⟨hd9'.1.os, hd9'.1.tape, hd9'.1.output, hd9'.1.size, hd9'.1.block⟩, hd9'.2⟩; have HD9 := Lib.hid (HD8.out.tr hx9); have HF9 := Lib.hid hf9; have HM9 := Lib.hid (HM8.out.drawT hx9 (Nat.le_trans h34 h48) hgw2); have HA9 := Lib.hid (HA8.out.drawT hx9 (Nat.le_trans h34 h48) hgw2); have hxa := (hx9.1.block r (hlt_of HX8.out) (fun e => by injection e with e; omega)).trans HX8.out; have hya := (hx9.1.block y (hlt_of HY8.out) (fun e => by injection e with e; omega)).trans HY8.out; have j0 : w9.cell? ⟨y, 0, none⟩ = some (.slice A3 n3 c3) := cell_of_row _ _ _ _ _ _ hya; have j1 : w9.cell? ⟨y, 1, none⟩ = some (.slice (some ⟨b1, o1, none⟩) m3 d3) := cell_of_row _ _ _ _ _ _ hya; have x0 : w9.cell? ⟨r, 0, none⟩ = some (.slice none 0 0) := cell_of_row _ _ _ _ _ _ hxa; have x1 : w9.cell? ⟨r, 1, none⟩ = some (.slice none 0 0) := cell_of_row _ _ _ _ _ _ hxa; have xf0 : w9.frozen? ⟨r, 0, none⟩ = false := frozen_of_row _ _ _ _ _ hxa; have xf1 : w9.frozen? ⟨r, 1, none⟩ = false := frozen_of_row _ _ _ _ _ hxa; have lr := hlt_of hxa; have lya := hlt_of hya; have j2 : w9.cell? ⟨b1, o1 + k * 2 + 1, none⟩ = some (.slice A1 n1 c1) := (World.cell?_of_block (hx9.1.block b1 hb8 (fun e => by injection e with e; exact hb1g e))).trans hc1; clear tok1 hd9' hxa hya hf9 hk90))
      all_goals
        have hrr : r < w2.heap.size := by omega
        have hle := HB2.out.size
        have hsz8 := HD8.out.1.size
        have hsz9 := hx9.1.size
        have HBa := Lib.hid (below_drQ HB2.out HD9.out (by omega))
        go_wp2_with fail
        refine bodyPost_ret (v := .tuple #[.agg #[.slice A3 n3 c3, .slice (some ⟨b1, o1, none⟩) m3 d3], .int .i64 t, .slice F9 k9 e9]) (by simp [results, Try.results22, go_sem, x0, x1, xf0, xf1, j0, j1, hry, hyr]) rfl ?_
        refine ⟨⟨ms, ays⟩, t, A3, n3, c3, some ⟨b1, o1, none⟩, m3, d3, xs, F9, k9, e9, ?_, ?_, HQ.out, ?_, hk9, (HBa.out.setCell hrw _).setCell hrw _, rfl⟩
        · exact ((HM9.out.setCell (p := ⟨r, 0, none⟩) (.inl hrr) _).setCell (p := ⟨r, 1, none⟩) (.inl hrr) _).more (by omega) (by simp; omega)
        · exact ((HA9.out.setCell (p := ⟨r, 0, none⟩) (.inl hrr) _).setCell (p := ⟨r, 1, none⟩) (.inl hrr) _).more (by omega) (by simp; omega)
        · exact ((HF9.out.setCell (p := ⟨r, 0, none⟩) (.inl (by show r < _; omega)) _).setCell (p := ⟨r, 1, none⟩) (.inl (by show r < _; omega)) _).more (by omega) (by simp)
    · go_upto_region 7 with (fail)
      have HRD8 : Hid (Rdr w8.drew g (0 + 20000 + 8 + 1)) := Lib.hid HD8.out.2
      have HRd8 := Lib.hid HM8.out.drew
      have hh8d : w3.heap.size ≤ w8.drew.heap.size := Nat.le_trans h34 h48
      have tok1 : True := trivial
      go_region_held_law (fun w' => w'.cell? ⟨y, 0, none⟩ = some (.slice A3 n3 c3) ∧ w'.cell? ⟨y, 1, none⟩ = some (.slice B3 m3 d3)) (go_keep)
        ((go_at_call 68; have _t := tok1; refine (l91Ids_any g (0 + 20000 + 8 + 1) ms A3 n3 c3 w8.drew w2.heap.size w3.heap.size (by omega) hh8d (.inl hgw2) (by omega) HQ.out.1 HRd8.out HRD8.out).mono ?_; rintro e w9 ⟨xs, F9, k9, e9, hf9, hk90, hd9', rfl⟩; have hk9 : k9 ≤ 1000 := (by have := hf9.len.1; omega); have hx9 : DrawT w8 w9 g (0 + 20000 + 8 + 1 + 12) := ⟨⟨hd9'.1.os, hd9'.1.tape, hd9'.1.output, hd9'.1.size, hd9'.1.block⟩, hd9'.2⟩; have HD9 := Lib.hid (HD8.out.tr hx9); have HF9 := Lib.hid hf9; have HM9 := Lib.hid (HM8.out.drawT hx9 (Nat.le_trans h34 h48) hgw2); have HA9 := Lib.hid (HA8.out.drawT hx9 (Nat.le_trans h34 h48) hgw2); have hxa := (hx9.1.block r (hlt_of HX8.out) (fun e => by injection e with e; omega)).trans HX8.out; have hya := (hx9.1.block y (hlt_of HY8.out) (fun e => by injection e with e; omega)).trans HY8.out; have j0 : w9.cell? ⟨y, 0, none⟩ = some (.slice A3 n3 c3) := cell_of_row _ _ _ _ _ _ hya; have j1 : w9.cell? ⟨y, 1, none⟩ = some (.slice B3 m3 d3) := cell_of_row _ _ _ _ _ _ hya; have x0 : w9.cell? ⟨r, 0, none⟩ = some (.slice none 0 0) := cell_of_row _ _ _ _ _ _ hxa; have x1 : w9.cell? ⟨r, 1, none⟩ = some (.slice none 0 0) := cell_of_row _ _ _ _ _ _ hxa; have xf0 : w9.frozen? ⟨r, 0, none⟩ = false := frozen_of_row _ _ _ _ _ hxa; have xf1 : w9.frozen? ⟨r, 1, none⟩ = false := frozen_of_row _ _ _ _ _ hxa; have lr := hlt_of hxa; have lya := hlt_of hya; clear tok1 hd9' hxa hya hf9 hk90))
      all_goals
        have hrr : r < w2.heap.size := by omega
        have hle := HB2.out.size
        have hsz8 := HD8.out.1.size
        have hsz9 := hx9.1.size
        have HBa := Lib.hid (below_drQ HB2.out HD9.out (by omega))
        go_wp2_with fail
        refine bodyPost_ret (v := .tuple #[.agg #[.slice A3 n3 c3, .slice B3 m3 d3], .int .i64 t, .slice F9 k9 e9]) (by simp [results, Try.results22, go_sem, x0, x1, xf0, xf1, j0, j1, hry, hyr]) rfl ?_
        refine ⟨⟨ms, ays⟩, t, A3, n3, c3, B3, m3, d3, xs, F9, k9, e9, ?_, ?_, HQ.out, ?_, hk9, (HBa.out.setCell hrw _).setCell hrw _, rfl⟩
        · exact ((HM9.out.setCell (p := ⟨r, 0, none⟩) (.inl hrr) _).setCell (p := ⟨r, 1, none⟩) (.inl hrr) _).more (by omega) (by simp; omega)
        · exact ((HA9.out.setCell (p := ⟨r, 0, none⟩) (.inl hrr) _).setCell (p := ⟨r, 1, none⟩) (.inl hrr) _).more (by omega) (by simp; omega)
        · exact ((HF9.out.setCell (p := ⟨r, 0, none⟩) (.inl (by show r < _; omega)) _).setCell (p := ⟨r, 1, none⟩) (.inl (by show r < _; omega)) _).more (by omega) (by simp)

end Go.Proofs.Ytgpjcmplnigmcaa
