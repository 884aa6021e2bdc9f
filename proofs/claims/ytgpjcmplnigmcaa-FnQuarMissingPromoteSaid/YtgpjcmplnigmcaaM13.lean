/-
  The walks of the reference's l92Area, DrawQuarantinePut and DrawQuarantinePromote. Condition: the code is a row of bytes.
  The walks of the laws' sameInts, sameObject, sameObjects, sameQuarantine on equal data and of areaOf, and of the program's ObjectId and StoreGet. Condition: lengths fit an int64; stores are valid.
  The walk of the program's StoreGet: the object with an id. Condition: the store is valid and has the object.
  A quarantine in a variable, as the laws hold it, and the plain laws of putting, promoting and discarding. No condition.
-/
import Derived.Test.YtgpjcmplnigmcaaQuaD
import Derived.Test.YtgpjcmplnigmcaaM9
import Derived.Deep.QuietTactic
import Derived.BigQuiet
section
namespace Go.Proofs.Ytgpjcmplnigmcaa
set_option linter.unusedVariables false
set_option linter.unusedSimpArgs false
open Go.RowKit

theorem isRow_belowQ {k : IntKind} {w w' : World} {C : Nat} {a : Option Addr} {len cap : Nat} {zs : List Int} (h : IsRow k w a len cap zs) (hb : Below C w w') (hC : w.heap.size ≤ C) : IsRow k w' a len cap zs := by
  rcases h with h | ⟨x, rfl, h1, h2, hz, hc, hw⟩
  · exact .inl h
  · refine .inr ⟨x, rfl, h1, h2, hz, fun i hi => ?_, hw⟩
    have := hc i hi
    exact (hb.cell (Nat.lt_of_lt_of_le (World.block_lt_of_cell? w _ this) hC)).trans this
theorem below_drQ {w w1 w2 : World} {g K : Nat} (h : Below w.heap.size w w1) (h2 : DrawT w1 w2 g K) (hg : w.heap.size ≤ g) : Below w.heap.size w w2 := h.grown h2.1 (by have := h.size; omega) (fun q e => by injection e with e; omega)
theorem D.rd.drawT {w w' : World} {lo hi g K : Nat} {d : D} {v : Value} (h : D.rd w lo hi d v) (hd : DrawT w w' g K) (hh : hi ≤ w.heap.size) (hg : g < lo) : D.rd w' lo hi d v := h.grown hd.1 hh (fun q hq => by injection hq with hq; omega)

attribute [local go_sem] loadQ
set_option maxHeartbeats 3200000 in
set_option maxRecDepth 100000 in
theorem l92Area_any (g K : Nat) (zs : List AreaD) (A : Option Addr) (n c : Nat) (B : Option Addr) (m d : Nat) (w : World) (lo hi : Nat) (hK : K ≤ 900000) (hh : hi ≤ w.heap.size) (hgl : g < lo) (hz : D.rd w lo hi (dAreas zs) (.slice B m d)) (h : Rdr w g K) :
    Calls Try.prog 66 #[.pointer (some ⟨g, 0, none⟩), .agg #[.slice A n c, .slice B m d]] w fun e w' => ∃ r : Int, DrawT w w' g (K + 8) ∧ e = .returned (.int .i64 r) := by
  have hg0 := h.lt
  have hm63 : m ≤ 9223372036854775807 := by have := hz.len; omega
  obtain ⟨p, hp⟩ : ∃ p, p = w.heap.size := ⟨_, rfl⟩
  obtain ⟨w1, hw1⟩ : ∃ w1, w1 = w.alloc (.cells #[.slice A n c, .slice B m d] 31) := ⟨_, rfl⟩
  have hb1 : Below w.heap.size w w1 := by rw [hw1]; exact (Below.refl _ _).alloc (Nat.le_refl _) _
  have HX1 : Hid (w1.heap[p]? = some (.cells #[.slice A n c, .slice B m d] 31 (0, 0))) := by rw [hw1, hp]; exact Lib.hid (heap_alloc_new w _)
  have HD1 : Hid (DrawT w w1 g K) := by rw [hw1]; exact Lib.hid ((DrawT.refl h).alloc _)
  have HZ1 := Lib.hid (hz.below hb1 hh)
  have hh1 : hi ≤ w1.heap.size := Nat.le_trans hh hb1.size
  have hgp : g < p := by omega
  have k1 : w1.cell? ⟨p, 1, none⟩ = some (.slice B m d) := cell_of_row _ _ _ _ _ _ HX1.out
  have lp := hlt_of HX1.out
  clear h hz hb1
  go_enter Try.func66, Try.ntmps66
  go_upto_region 1 with (fail)
  rw [← hw1, ← hp]
  clear hw1 hp
  by_cases hm0 : m = 0
  · subst hm0
    go_wp2_with fail
    refine (l92Txn_any g K w1 (by omega) HD1.out.2).mono ?_
    rintro e w2 ⟨x, hd2, rfl⟩
    have HD2 := Lib.hid (HD1.out.tr hd2)
    clear hd2
    go_wp2_with fail
    go_ret
    exact ⟨x, HD2.out.more (by omega), rfl⟩
  · have hm1 : 0 < m := by omega
    have hm1i : (0 : Int) < (m : Int) := by omega
    clear hm0
    go_wp2_with fail
    refine (pick_any g K 4 w1 (by omega) HD1.out.2).mono ?_
    rintro e w2 ⟨r2, -, hR2, hg2, -, rfl⟩
    have hd2 : DrawT w1 w2 g (K + 1) := ⟨hg2, hR2⟩
    have HD2 := Lib.hid (HD1.out.tr hd2)
    have HZ2 := Lib.hid (HZ1.out.drawT hd2 hh1 hgl)
    have HX2 := Lib.hid ((hg2.block p (hlt_of HX1.out) (fun e => by injection e with e; omega)).trans HX1.out)
    have hh2 : hi ≤ w2.heap.size := Nat.le_trans hh1 hg2.size
    clear hR2 hg2 hd2 k1 lp
    have k1 : w2.cell? ⟨p, 1, none⟩ = some (.slice B m d) := cell_of_row _ _ _ _ _ _ HX2.out
    have lp := hlt_of HX2.out
    by_cases h0 : 0 < r2
    · have HRD : Hid (Rdr w2.drew g (K + 1)) := Lib.hid HD2.out.2
      go_upto_region 2 with (fail)
      have tok1 : True := trivial
      rw [show Op.load 3 (Operand.tmp 22) = loadQ 3 (Operand.tmp 22) from rfl]
      go_region_held_law (fun w' => w'.cell? ⟨p, 1, none⟩ = some (.slice B m d)) (go_keep)
        ((go_at_call 67; have _t := tok1; refine (pick_any g (K + 1) (m : Nat) w2.drew (by omega) HRD.out).mono ?_; rintro e wa ⟨ra, hra, hRa, hga', -, rfl⟩; obtain ⟨q, rfl⟩ := Int.eq_ofNat_of_zero_le hra.1; have hq := hra.2 (by omega); have hqm : q < m := (by omega); have hda : DrawT w2 wa g (K + 1 + 1) := ⟨⟨hga'.os, hga'.tape, hga'.output, hga'.size, hga'.block⟩, hRa⟩; have HDa := Lib.hid (HD2.out.tr hda); have HZa := HZ2.out.drawT hda hh2 hgl; obtain ⟨b, o, hl, A1, n1, c1, rfl, -, hbh, hc0, -⟩ := rd_Area HZa hqm; obtain ⟨t1, ht1⟩ : ∃ t1, t1 = zs[q].txn := ⟨_, rfl⟩; rw [← ht1] at hc0; have hhb : b < wa.heap.size := (by have := hda.1.size; omega); have j1 : wa.cell? ⟨p, 1, none⟩ = some (.slice (some ⟨b, o, none⟩) m d) := (World.cell?_of_block (hda.1.block p lp (fun e => by injection e with e; omega))).trans k1; clear tok1 hra hRa hga' hda HZa hq ht1 hl))
      all_goals
        go_wp2_with fail
        go_ret
        exact ⟨_, HDa.out.more (by omega), rfl⟩
    · go_wp2_with fail
      refine (l92Txn_any g (K + 1) w2 (by omega) HD2.out.2).mono ?_
      rintro e w3 ⟨x, hd3, rfl⟩
      have HD3 := Lib.hid (HD2.out.tr hd3)
      clear hd3
      go_wp2_with fail
      go_ret
      exact ⟨x, HD3.out.more (by omega), rfl⟩

/-- what is left behind the draw for a put -/
def DrawnPut (w : World) (e : Ending) (w' : World) : Prop :=
  ∃ (Q : QuaD) (t : Int) (l : List ObjD) (A : Option Addr) (n c : Nat) (B : Option Addr) (m d : Nat) (L : Option Addr) (nl cl : Nat), D.rd w' w.heap.size w'.heap.size (dObjects Q.main) (.slice A n c) ∧ D.rd w' w.heap.size w'.heap.size (dAreas Q.areas) (.slice B m d) ∧ D.rd w' w.heap.size w'.heap.size (dObjects l) (.slice L nl cl) ∧ GoodQ Q ∧ Below w.heap.size w w' ∧ e = .returned (.tuple #[.agg #[.slice A n c, .slice B m d], .int .i64 t, .slice L nl cl])
set_option maxHeartbeats 3200000 in
set_option maxRecDepth 100000 in
theorem drawQPut_any (A : Option Addr) (n c : Nat) (zs : List Int) (w : World) (h : IsRow .u8 w A n c zs) :
    Calls Try.prog 29 #[.slice A n c] w fun e w' => DrawnPut w e w' := by
  have HI := Lib.hid (isRow_belowQ h ((Below.refl _ _).alloc (Nat.le_refl _) (.cells #[.slice none 0 0, .slice none 0 0] 31)) (Nat.le_refl _))
  obtain ⟨r, hr⟩ : ∃ r, r = w.heap.size := ⟨_, rfl⟩
  obtain ⟨w1, hw1⟩ : ∃ w1, w1 = w.alloc (.cells #[.slice none 0 0, .slice none 0 0] 31) := ⟨_, rfl⟩
  have hb1 : Below w.heap.size w w1 := by rw [hw1]; exact (Below.refl _ _).alloc (Nat.le_refl _) _
  have HX1 : Hid (w1.heap[r]? = some (.cells #[.slice none 0 0, .slice none 0 0] 31 (0, 0))) := by rw [hw1, hr]; exact Lib.hid (heap_alloc_new w _)
  have hsz1 : w1.heap.size = r + 1 := by rw [hw1, hr]; simp
  rw [← hw1] at HI
  have HB1 := Lib.hid hb1
  have HSZ := Lib.hid hsz1
  have hrw : w.heap.size ≤ r := by omega
  have hlr := hlt_of HX1.out
  clear h hb1 hsz1
  go_enter Try.func29, Try.ntmps29
  go_upto_region 1 with (fail)
  rw [← hw1, ← hr]
  clear hw1 hr
  go_wp2_with fail
  refine (l6Open_any _ _ _ zs _ HI.out).mono ?_
  rintro e w2 ⟨hR2, hb2, hs2, he⟩
  obtain ⟨g, hg⟩ : ∃ g, g = w1.heap.size := ⟨_, rfl⟩
  rw [← hg] at hR2 he
  subst he
  have hrg : r < g := by omega
  have HR2 := Lib.hid hR2
  have HB2 := Lib.hid (bel_tr HB1.out (Nat.le_refl _) hb2)
  have HX2 := Lib.hid ((hb2.block r hlr).trans HX1.out)
  have hgw2 : g < w2.heap.size := by omega
  clear hR2 hb2 hs2 hg
  go_wp2_with fail
  refine (l92Quarantine_any g 0 w2 (by omega) HR2.out).mono ?_
  rintro e w3 ⟨⟨ms, ays⟩, A3, n3, c3, B3, m3, d3, hrm, hra, hQ, hd3, rfl⟩
  obtain ⟨y, hy⟩ : ∃ y, y = w3.heap.size := ⟨_, rfl⟩
  obtain ⟨w4, hw4⟩ : ∃ w4, w4 = w3.alloc (.cells #[.slice A3 n3 c3, .slice B3 m3 d3] 31) := ⟨_, rfl⟩
  have hb4 : Below w3.heap.size w3 w4 := by rw [hw4]; exact (Below.refl _ _).alloc (Nat.le_refl _) _
  have HY4 : Hid (w4.heap[y]? = some (.cells #[.slice A3 n3 c3, .slice B3 m3 d3] 31 (0, 0))) := by rw [hw4, hy]; exact Lib.hid (heap_alloc_new w3 _)
  have HQ := Lib.hid hQ
  have HD4 := Lib.hid (hd3.fresh hb4)
  have HM4 := Lib.hid (hrm.below hb4 (Nat.le_refl _))
  have HA4 := Lib.hid (hra.below hb4 (Nat.le_refl _))
  have HX4 := Lib.hid ((HD4.out.1.block r (hlt_of HX2.out) (fun e => by injection e with e; omega)).trans HX2.out)
  have HB4 := Lib.hid (below_drQ HB2.out HD4.out (by omega))
  have hn17 : n3 ≤ 17 := by have := hrm.len.1; have := hQ.2.1; omega
  have h34 : w3.heap.size ≤ w4.heap.size := hb4.size
  have h23 : w2.heap.size ≤ w3.heap.size := hd3.1.size
  have hry : ¬ (r = y) := by have := hlt_of HX2.out; omega
  have hyr : ¬ (y = r) := fun e => hry e.symm
  have hgy : g < y := by omega
  clear hrm hra hQ hd3 hb4
  go_upto_region 3 with (fail)
  rw [← hw4, ← hy]
  clear hw4 hy
  go_wp2_with fail
  refine (l92Txn_any g (0 + 20000) w4 (by omega) HD4.out.2).mono ?_
  rintro e w5 ⟨t, hd5, rfl⟩
  have HD5 := Lib.hid (HD4.out.tr hd5)
  have HM5 := Lib.hid (HM4.out.drawT hd5 h34 (by omega))
  have HA5 := Lib.hid (HA4.out.drawT hd5 h34 (by omega))
  have HX5 := Lib.hid ((hd5.1.block r (hlt_of HX4.out) (fun e => by injection e with e; omega)).trans HX4.out)
  have HY5 := Lib.hid ((hd5.1.block y (hlt_of HY4.out) (fun e => by injection e with e; omega)).trans HY4.out)
  have h35 : w3.heap.size ≤ w5.heap.size := Nat.le_trans h34 hd5.1.size
  clear hd5
  have k0 : w5.cell? ⟨y, 0, none⟩ = some (.slice A3 n3 c3) := cell_of_row _ _ _ _ _ _ HY5.out
  have k1 : w5.cell? ⟨y, 1, none⟩ = some (.slice B3 m3 d3) := cell_of_row _ _ _ _ _ _ HY5.out
  have ly := hlt_of HY5.out
  have HRD : Hid (Rdr w5.drew g (0 + 20000 + 3)) := Lib.hid HD5.out.2
  have HMd := Lib.hid HM5.out.drew
  have h35d : w3.heap.size ≤ w5.drew.heap.size := h35
  have hgl : g < w2.heap.size := hgw2
  go_upto_region 4 with (fail)
  have tok1 : True := trivial
  go_region_held_law (fun w' => w'.cell? ⟨y, 0, none⟩ = some (.slice A3 n3 c3) ∧ w'.cell? ⟨y, 1, none⟩ = some (.slice B3 m3 d3)) (go_keep)
    ((go_at_call 76; have _t := tok1; refine (l92Some_any g (0 + 20000 + 3) ms A3 n3 c3 w5.drew w2.heap.size w3.heap.size (by omega) h35d hgl hn17 HQ.out.1 HMd.out HRD.out).mono ?_; rintro e wa ⟨ls, Aa, ca, hgra, -, -, hda', rfl⟩; have hda : DrawT w5 wa g (0 + 20000 + 3 + 900) := ⟨⟨hda'.1.os, hda'.1.tape, hda'.1.output, hda'.1.size, hda'.1.block⟩, hda'.2⟩; have HDa := Lib.hid (HD5.out.tr hda); have HMa := Lib.hid (HM5.out.drawT hda h35 hgl); have HAa := Lib.hid (HA5.out.drawT hda h35 hgl); have HLa : Hid (D.rd wa w5.heap.size wa.heap.size (dObjects ls) (.slice Aa ls.length ca)) := Lib.hid hgra.own.rd; have hxa := (hda.1.block r (hlt_of HX5.out) (fun e => by injection e with e; omega)).trans HX5.out; have hya := (hda.1.block y (hlt_of HY5.out) (fun e => by injection e with e; omega)).trans HY5.out; have j0 : wa.cell? ⟨y, 0, none⟩ = some (.slice A3 n3 c3) := cell_of_row _ _ _ _ _ _ hya; have j1 : wa.cell? ⟨y, 1, none⟩ = some (.slice B3 m3 d3) := cell_of_row _ _ _ _ _ _ hya; have x0 : wa.cell? ⟨r, 0, none⟩ = some (.slice none 0 0) := cell_of_row _ _ _ _ _ _ hxa; have x1 : wa.cell? ⟨r, 1, none⟩ = some (.slice none 0 0) := cell_of_row _ _ _ _ _ _ hxa; have xf0 : wa.frozen? ⟨r, 0, none⟩ = false := frozen_of_row _ _ _ _ _ hxa; have xf1 : wa.frozen? ⟨r, 1, none⟩ = false := frozen_of_row _ _ _ _ _ hxa; have lr := hlt_of hxa; have lya := hlt_of hya; have hs5a : w3.heap.size ≤ wa.heap.size := Nat.le_trans h35 hda.1.size; have hr5 : r < w5.heap.size := hlt_of HX5.out; clear tok1 hgra hda' hda hxa hya))
  all_goals
    have HBa := Lib.hid (below_drQ HB2.out HDa.out (by omega))
    have hrr : r < w2.heap.size := by omega
    go_wp2_with fail
    refine bodyPost_ret (v := .tuple #[.agg #[.slice A3 n3 c3, .slice B3 m3 d3], .int .i64 t, .slice Aa ls.length ca]) (by simp [results, Try.results29, go_sem, x0, x1, xf0, xf1, j0, j1, hry, hyr]) rfl ?_
    have hle := HB2.out.size
    refine ⟨⟨ms, ays⟩, t, ls, A3, n3, c3, B3, m3, d3, Aa, ls.length, ca, ?_, ?_, ?_, HQ.out, (HBa.out.setCell hrw _).setCell hrw _, rfl⟩
    · exact ((HMa.out.setCell (p := ⟨r, 0, none⟩) (.inl hrr) _).setCell (p := ⟨r, 1, none⟩) (.inl hrr) _).more (by omega) (by simp; omega)
    · exact ((HAa.out.setCell (p := ⟨r, 0, none⟩) (.inl hrr) _).setCell (p := ⟨r, 1, none⟩) (.inl hrr) _).more (by omega) (by simp; omega)
    · exact ((HLa.out.setCell (p := ⟨r, 0, none⟩) (.inl hr5) _).setCell (p := ⟨r, 1, none⟩) (.inl hr5) _).more (by omega) (by simp)

/-- what is left behind the draw for a promotion -/
def DrawnPro (w : World) (e : Ending) (w' : World) : Prop :=
  ∃ (Q : QuaD) (t : Int) (A : Option Addr) (n c : Nat) (B : Option Addr) (m d : Nat), D.rd w' w.heap.size w'.heap.size (dObjects Q.main) (.slice A n c) ∧ D.rd w' w.heap.size w'.heap.size (dAreas Q.areas) (.slice B m d) ∧ GoodQ Q ∧ Below w.heap.size w w' ∧ e = .returned (.tuple #[.agg #[.slice A n c, .slice B m d], .int .i64 t])
set_option maxHeartbeats 3200000 in
set_option maxRecDepth 100000 in
theorem drawQPro_any (A : Option Addr) (n c : Nat) (zs : List Int) (w : World) (h : IsRow .u8 w A n c zs) :
    Calls Try.prog 33 #[.slice A n c] w fun e w' => DrawnPro w e w' := by
  have HI := Lib.hid (isRow_belowQ h ((Below.refl _ _).alloc (Nat.le_refl _) (.cells #[.slice none 0 0, .slice none 0 0] 31)) (Nat.le_refl _))
  obtain ⟨r, hr⟩ : ∃ r, r = w.heap.size := ⟨_, rfl⟩
  obtain ⟨w1, hw1⟩ : ∃ w1, w1 = w.alloc (.cells #[.slice none 0 0, .slice none 0 0] 31) := ⟨_, rfl⟩
  have hb1 : Below w.heap.size w w1 := by rw [hw1]; exact (Below.refl _ _).alloc (Nat.le_refl _) _
  have HX1 : Hid (w1.heap[r]? = some (.cells #[.slice none 0 0, .slice none 0 0] 31 (0, 0))) := by rw [hw1, hr]; exact Lib.hid (heap_alloc_new w _)
  have hsz1 : w1.heap.size = r + 1 := by rw [hw1, hr]; simp
  rw [← hw1] at HI
  have HB1 := Lib.hid hb1
  have HSZ := Lib.hid hsz1
  have hrw : w.heap.size ≤ r := by omega
  have hlr := hlt_of HX1.out
  clear h hb1 hsz1
  go_enter Try.func33, Try.ntmps33
  go_upto_region 1 with (fail)
  rw [← hw1, ← hr]
  clear hw1 hr
  go_wp2_with fail
  refine (l6Open_any _ _ _ zs _ HI.out).mono ?_
  rintro e w2 ⟨hR2, hb2, hs2, he⟩
  obtain ⟨g, hg⟩ : ∃ g, g = w1.heap.size := ⟨_, rfl⟩
  rw [← hg] at hR2 he
  subst he
  have hrg : r < g := by omega
  have HR2 := Lib.hid hR2
  have HB2 := Lib.hid (bel_tr HB1.out (Nat.le_refl _) hb2)
  have HX2 := Lib.hid ((hb2.block r hlr).trans HX1.out)
  have hgw2 : g < w2.heap.size := by omega
  clear hR2 hb2 hs2 hg
  go_wp2_with fail
  refine (l92Quarantine_any g 0 w2 (by omega) HR2.out).mono ?_
  rintro e w3 ⟨⟨ms, ays⟩, A3, n3, c3, B3, m3, d3, hrm, hra, hQ, hd3, rfl⟩
  obtain ⟨y, hy⟩ : ∃ y, y = w3.heap.size := ⟨_, rfl⟩
  obtain ⟨w4, hw4⟩ : ∃ w4, w4 = w3.alloc (.cells #[.slice A3 n3 c3, .slice B3 m3 d3] 31) := ⟨_, rfl⟩
  have hb4 : Below w3.heap.size w3 w4 := by rw [hw4]; exact (Below.refl _ _).alloc (Nat.le_refl _) _
  have HY4 : Hid (w4.heap[y]? = some (.cells #[.slice A3 n3 c3, .slice B3 m3 d3] 31 (0, 0))) := by rw [hw4, hy]; exact Lib.hid (heap_alloc_new w3 _)
  have HQ := Lib.hid hQ
  have HD4 := Lib.hid (hd3.fresh hb4)
  have HM4 := Lib.hid (hrm.below hb4 (Nat.le_refl _))
  have HA4 := Lib.hid (hra.below hb4 (Nat.le_refl _))
  have HX4 := Lib.hid ((HD4.out.1.block r (hlt_of HX2.out) (fun e => by injection e with e; omega)).trans HX2.out)
  have HB4 := Lib.hid (below_drQ HB2.out HD4.out (by omega))
  have hn17 : n3 ≤ 17 := by have := hrm.len.1; have := hQ.2.1; omega
  have h34 : w3.heap.size ≤ w4.heap.size := hb4.size
  have h23 : w2.heap.size ≤ w3.heap.size := hd3.1.size
  have hry : ¬ (r = y) := by have := hlt_of HX2.out; omega
  have hyr : ¬ (y = r) := fun e => hry e.symm
  have hgy : g < y := by omega
  clear hrm hra hQ hd3 hb4
  go_upto_region 3 with (fail)
  rw [← hw4, ← hy]
  clear hw4 hy
  have k0 : w4.cell? ⟨y, 0, none⟩ = some (.slice A3 n3 c3) := cell_of_row _ _ _ _ _ _ HY4.out
  have k1 : w4.cell? ⟨y, 1, none⟩ = some (.slice B3 m3 d3) := cell_of_row _ _ _ _ _ _ HY4.out
  have ly := hlt_of HY4.out
  have HRD : Hid (Rdr w4.drew g (0 + 20000)) := Lib.hid HD4.out.2
  have HAd := Lib.hid HA4.out.drew
  have h34d : w3.heap.size ≤ w4.drew.heap.size := h34
  have tok1 : True := trivial
  go_region_held_law (fun w' => w'.cell? ⟨y, 0, none⟩ = some (.slice A3 n3 c3) ∧ w'.cell? ⟨y, 1, none⟩ = some (.slice B3 m3 d3)) (go_keep)
    ((go_at_call 66; have _t := tok1; refine (l92Area_any g (0 + 20000) ays A3 n3 c3 B3 m3 d3 w4.drew w2.heap.size w3.heap.size (by omega) h34d hgw2 HAd.out HRD.out).mono ?_; rintro e wa ⟨t, hda', rfl⟩; have hda : DrawT w4 wa g (0 + 20000 + 8) := ⟨⟨hda'.1.os, hda'.1.tape, hda'.1.output, hda'.1.size, hda'.1.block⟩, hda'.2⟩; have HDa := Lib.hid (HD4.out.tr hda); have HMa := Lib.hid (HM4.out.drawT hda h34 hgw2); have HAa := Lib.hid (HA4.out.drawT hda h34 hgw2); have hxa := (hda.1.block r (hlt_of HX4.out) (fun e => by injection e with e; omega)).trans HX4.out; have hya := (hda.1.block y (hlt_of HY4.out) (fun e => by injection e with e; omega)).trans HY4.out; have j0 : wa.cell? ⟨y, 0, none⟩ = some (.slice A3 n3 c3) := cell_of_row _ _ _ _ _ _ hya; have j1 : wa.cell? ⟨y, 1, none⟩ = some (.slice B3 m3 d3) := cell_of_row _ _ _ _ _ _ hya; have x0 : wa.cell? ⟨r, 0, none⟩ = some (.slice none 0 0) := cell_of_row _ _ _ _ _ _ hxa; have x1 : wa.cell? ⟨r, 1, none⟩ = some (.slice none 0 0) := cell_of_row _ _ _ _ _ _ hxa; have xf0 : wa.frozen? ⟨r, 0, none⟩ = false := frozen_of_row _ _ _ _ _ hxa; have xf1 : wa.frozen? ⟨r, 1, none⟩ = false := frozen_of_row _ _ _ _ _ hxa; have lr := hlt_of hxa; have lya := hlt_of hya; have hs5a : w3.heap.size ≤ wa.heap.size := Nat.le_trans h34 hda.1.size; clear tok1 hda' hda hxa hya))
  all_goals
    have HBa := Lib.hid (below_drQ HB2.out HDa.out (by omega))
    have hrr : r < w2.heap.size := by omega
    go_wp2_with fail
    refine bodyPost_ret (v := .tuple #[.agg #[.slice A3 n3 c3, .slice B3 m3 d3], .int .i64 t]) (by simp [results, Try.results33, go_sem, x0, x1, xf0, xf1, j0, j1, hry, hyr]) rfl ?_
    have hle := HB2.out.size
    refine ⟨⟨ms, ays⟩, t, A3, n3, c3, B3, m3, d3, ?_, ?_, HQ.out, (HBa.out.setCell hrw _).setCell hrw _, rfl⟩
    · exact ((HMa.out.setCell (p := ⟨r, 0, none⟩) (.inl hrr) _).setCell (p := ⟨r, 1, none⟩) (.inl hrr) _).more (by omega) (by simp; omega)
    · exact ((HAa.out.setCell (p := ⟨r, 0, none⟩) (.inl hrr) _).setCell (p := ⟨r, 1, none⟩) (.inl hrr) _).more (by omega) (by simp; omega)

end Go.Proofs.Ytgpjcmplnigmcaa
end

namespace Go.Proofs.Ytgpjcmplnigmcaa
set_option linter.unusedVariables false
set_option linter.unusedSimpArgs false
open Go.RowKit

set_option maxHeartbeats 400000 in
theorem sameInts_any (A A' : Option Addr) (n c c' : Nat) (xs : List Int) (w : World) (lo hi lo' hi' : Nat) (hn : n ≤ 9223372036854775807) (h : Ints w lo hi A n xs) (h' : Ints w lo' hi' A' n xs) :
    Calls Try.prog 25 #[.slice A n c, .slice A' n c'] w fun e w' => e = .returned (.bool true) ∧ ∃ m, w' = w.drewN m := by
  have HI := Lib.hid h
  have HJ := Lib.hid h'
  have hnn : (!((n : Int) == n)) = false := by simp
  clear h h'
  go_enter Try.func25, Try.ntmps25
  go_wp2
  go_loopw [5] (fun i wr => ∃ k : Nat, k ≤ n ∧ i = .int .i64 k ∧ ∃ m, wr = w.drewN m) (fun i _ => n - (intOf i).toNat)
  case atStart => exact ⟨0, Nat.zero_le _, rfl, 0, rfl⟩
  case round =>
    obtain ⟨k, hk, rfl, m, rfl⟩ := hrel
    by_cases hlt : k < n
    · obtain ⟨b, o, hl, rfl, _, _, hc⟩ := HI.out.int hlt
      obtain ⟨b', o', hl', rfl, _, _, hc'⟩ := HJ.out.int hlt
      have hd : (!(xs[k] == xs[k])) = false := by simp
      go_wp2
      go_quiet (fail)
      go_wp2
      exact ⟨⟨k + 1, by omega, by go_num, m + nq, rfl⟩, by simp [intOf]; omega⟩
    · have hkn : k = n := by omega
      subst hkn
      go_wp2
      go_ret
      exact ⟨rfl, m, rfl⟩

theorem below_dN (w : World) (m : Nat) : Below w.heap.size w (w.drewN m) := below_drewN (Below.refl _ _) m

set_option maxHeartbeats 800000 in
theorem sameObject_any (kind : Int) (links : List Int) (text : ByteArray) (A A' : Option Addr) (n c c' : Nat) (w : World) (lo hi lo' hi' : Nat) (hh : hi ≤ w.heap.size) (hh' : hi' ≤ w.heap.size) (hn : n ≤ 9223372036854775807) (h : Ints w lo hi A n links) (h' : Ints w lo' hi' A' n links) :
    Calls Try.prog 39 #[.agg #[.int .i64 kind, .slice A n c, .string text], .agg #[.int .i64 kind, .slice A' n c', .string text]] w fun e w' => e = .returned (.bool true) ∧ Below w.heap.size w w' := by
  have hq1 : (kind == kind) = true := by simp
  have hq2 : (text.toList == text.toList) = true := by simp
  obtain ⟨w2, hw2⟩ : ∃ w2, w2 = (w.alloc (.cells #[.int .i64 kind, .slice A n c, .string text] 58)).alloc (.cells #[.int .i64 kind, .slice A' n c', .string text] 58) := ⟨_, rfl⟩
  have HB : Hid (Below w.heap.size w ((w.alloc (.cells #[.int .i64 kind, .slice A n c, .string text] 58)).alloc (.cells #[.int .i64 kind, .slice A' n c', .string text] 58))) := ((Below.refl _ _).alloc (Nat.le_refl _) _).alloc (by simp) _
  have HI := Lib.hid (Fl.below h HB.out hh)
  have HJ := Lib.hid (Fl.below h' HB.out hh')
  clear h h' hw2
  go_enter Try.func39, Try.ntmps39
  go_wp2_with fail
  refine (sameInts_any A A' n c c' links _ _ _ _ _ hn HI.out HJ.out).mono ?_
  rintro e w3 ⟨rfl, m, rfl⟩
  go_wp2_with fail
  go_ret
  exact ⟨rfl, below_drewN HB.out m⟩

set_option maxHeartbeats 1600000 in
set_option maxRecDepth 100000 in
theorem sameObjects_any (os : List ObjD) (A A' : Option Addr) (n c c' : Nat) (w : World) (lo hi lo' hi' : Nat) (hh : hi ≤ w.heap.size) (hh' : hi' ≤ w.heap.size) (h : D.rd w lo hi (dObjects os) (.slice A n c)) (h' : D.rd w lo' hi' (dObjects os) (.slice A' n c')) :
    Calls Try.prog 36 #[.slice A n c, .slice A' n c'] w fun e w' => e = .returned (.bool true) ∧ Below w.heap.size w w' := by
  have HI := Lib.hid h
  have HJ := Lib.hid h'
  have hn63 : n ≤ 9223372036854775807 := by have := h.len; omega
  have hnn : (!((n : Int) == n)) = false := by simp
  clear h h'
  go_enter Try.func36, Try.ntmps36
  go_wp2_with fail
  go_loopw [5] (fun i wr => ∃ k : Nat, k ≤ n ∧ i = .int .i64 k ∧ Below w.heap.size w wr) (fun i _ => n - (intOf i).toNat)
  case atStart => exact ⟨0, Nat.zero_le _, rfl, Below.refl _ _⟩
  case round =>
    obtain ⟨k, hk, rfl, hb⟩ := hrel
    have HB := Lib.hid hb
    have hws := hb.size
    clear hb
    by_cases hlt : k < n
    · obtain ⟨b, o, hl, A1, n1, c1, rfl, -, hbh, hc0, hc1, hc2, ⟨hn1, hm1, hr1⟩, -⟩ := rd_Object (HI.out.below HB.out hh) hlt
      obtain ⟨b', o', hl', A2, n2, c2, rfl, -, hbh', hd0, hd1, hd2, ⟨hn2, hm2, hr2⟩, -⟩ := rd_Object (HJ.out.below HB.out hh') hlt
      obtain rfl : n1 = n2 := by have := hr1.ints.1; have := hr2.ints.1; omega
      have HR1 := Lib.hid hr1.drew.ints
      have HR2 := Lib.hid hr2.drew.ints
      clear hr1 hr2
      generalize os[k] = o1 at *
      obtain ⟨kind, links, text⟩ := o1
      dsimp only at hc0 hc1 hc2 hd0 hd1 hd2
      go_wp2_with fail
      go_still_tail 8, (by kernel_rfl)
      change wpList _ _ _ _ _ wr.drew
      go_wp2_with fail
      refine (sameObject_any kind links text A1 A2 n1 c1 c2 wr.drew lo hi lo' hi' (Nat.le_trans hh hws) (Nat.le_trans hh' hws) (by omega) HR1.out HR2.out).mono ?_
      rintro e w3 ⟨rfl, hb3⟩
      have HB3 := Lib.hid (bel_tr HB.out (Nat.le_refl _) (below_of_drew hb3))
      clear hb3
      go_wp2_with fail
      exact ⟨⟨k + 1, by omega, by go_num, HB3.out⟩, by simp [intOf]; omega⟩
    · have hkn : k = n := by omega
      subst hkn
      go_wp2_with fail
      go_ret
      exact ⟨rfl, HB.out⟩

set_option maxHeartbeats 3200000 in
set_option maxRecDepth 100000 in
theorem sameQua_any (os : List ObjD) (zs : List AreaD) (A A' : Option Addr) (n c c' : Nat) (B B' : Option Addr) (m d d' : Nat) (w : World) (lo hi lo' hi' : Nat) (hh : hi ≤ w.heap.size) (hh' : hi' ≤ w.heap.size) (h : D.rd w lo hi (dObjects os) (.slice A n c)) (h' : D.rd w lo' hi' (dObjects os) (.slice A' n c')) (g : D.rd w lo hi (dAreas zs) (.slice B m d)) (g' : D.rd w lo' hi' (dAreas zs) (.slice B' m d')) :
    Calls Try.prog 30 #[.agg #[.slice A n c, .slice B m d], .agg #[.slice A' n c', .slice B' m d']] w fun e w' => e = .returned (.bool true) ∧ Below w.heap.size w w' := by
  have hm63 : m ≤ 9223372036854775807 := by have := g.len; omega
  have hmm : (!((m : Int) == m)) = false := by simp
  have hmm2 : ((m : Int) != m) = false := by simp
  obtain ⟨r, hr⟩ : ∃ r, r = w.heap.size := ⟨_, rfl⟩
  obtain ⟨r2, hr2⟩ : ∃ r2, r2 = w.heap.size + 1 := ⟨_, rfl⟩
  obtain ⟨w1, hw1⟩ : ∃ w1, w1 = (w.alloc (.cells #[.slice A n c, .slice B m d] 31)).alloc (.cells #[.slice A' n c', .slice B' m d'] 31) := ⟨_, rfl⟩
  have hb1 : Below w.heap.size w w1 := by rw [hw1]; exact ((Below.refl _ _).alloc (Nat.le_refl _) _).alloc (by simp) _
  have hx1 : w1.heap[r]? = some (.cells #[.slice A n c, .slice B m d] 31 (0, 0)) := by rw [hw1, hr]; exact (Below.heap_alloc _ _ _ (by simp)).trans (heap_alloc_new w _)
  have hx2 : w1.heap[r2]? = some (.cells #[.slice A' n c', .slice B' m d'] 31 (0, 0)) := by
    have := heap_alloc_new (w.alloc (.cells #[.slice A n c, .slice B m d] 31)) (.cells #[.slice A' n c', .slice B' m d'] 31)
    rw [hw1, hr2]; simpa using this
  have HX1 := Lib.hid hx1
  have HX2 := Lib.hid hx2
  have HB1 := Lib.hid hb1
  have hh1 : hi ≤ w1.heap.size := Nat.le_trans hh hb1.size
  have hh1' : hi' ≤ w1.heap.size := Nat.le_trans hh' hb1.size
  have HJ1 := Lib.hid (h.below hb1 hh)
  have HJ1' := Lib.hid (h'.below hb1 hh')
  have HI1 := Lib.hid (g.below hb1 hh)
  have HI1' := Lib.hid (g'.below hb1 hh')
  have k0 : w1.cell? ⟨r, 0, none⟩ = some (.slice A n c) := cell_of_row _ _ _ _ _ _ hx1
  have j0 : w1.cell? ⟨r2, 0, none⟩ = some (.slice A' n c') := cell_of_row _ _ _ _ _ _ hx2
  clear h h' g g' hb1 hx1 hx2
  go_enter Try.func30, Try.ntmps30
  go_upto_region 1 with (fail)
  rw [← hw1, ← hr2, ← hr]
  clear hw1 hr hr2
  go_wp2_with fail
  refine (sameObjects_any os A A' n c c' w1 lo hi lo' hi' hh1 hh1' HJ1.out HJ1'.out).mono ?_
  rintro e w2 ⟨rfl, hb2⟩
  have HB2 := Lib.hid (bel_tr HB1.out (Nat.le_refl _) hb2)
  have HX2' := Lib.hid ((hb2.block r (hltS HX1.out)).trans HX1.out)
  have HX2'' := Lib.hid ((hb2.block r2 (hltS HX2.out)).trans HX2.out)
  have HI2 := Lib.hid (HI1.out.below hb2 hh1)
  have HI2' := Lib.hid (HI1'.out.below hb2 hh1')
  have hh2 : hi ≤ w2.heap.size := Nat.le_trans hh1 hb2.size
  have hh2' : hi' ≤ w2.heap.size := Nat.le_trans hh1' hb2.size
  have k1 : w2.cell? ⟨r, 1, none⟩ = some (.slice B m d) := cell_of_row _ _ _ _ _ _ HX2'.out
  have j1 : w2.cell? ⟨r2, 1, none⟩ = some (.slice B' m d') := cell_of_row _ _ _ _ _ _ HX2''.out
  have l1 := hltS HX2'.out
  have l2 := hltS HX2''.out
  clear hb2 k0 j0
  go_wp2_with fail
  clear k1 j1 l1 l2
  go_loopw [5] (fun i wr => ∃ k : Nat, k ≤ m ∧ i = .int .i64 k ∧ Hid (Below w2.heap.size w2 wr)) (fun i _ => m - (intOf i).toNat)
  case atStart => exact ⟨0, Nat.zero_le _, rfl, Lib.hid (Below.refl _ _)⟩
  case round =>
    obtain ⟨k, hk, rfl, HB⟩ := hrel
    have hws := HB.out.size
    have HXR := Lib.hid ((HB.out.block r (hltS HX2'.out)).trans HX2'.out)
    have HXR2 := Lib.hid ((HB.out.block r2 (hltS HX2''.out)).trans HX2''.out)
    have k1 : wr.cell? ⟨r, 1, none⟩ = some (.slice B m d) := cell_of_row _ _ _ _ _ _ HXR.out
    have j1 : wr.cell? ⟨r2, 1, none⟩ = some (.slice B' m d') := cell_of_row _ _ _ _ _ _ HXR2.out
    have l1 := hltS HXR.out
    have l2 := hltS HXR2.out
    by_cases hlt : k < m
    · obtain ⟨b, o, hl, A1, n1, c1, rfl, _, hbh, hc0, hc1, ⟨hn1, hm1, hr1⟩⟩ := rd_Area (HI2.out.below HB.out hh2) hlt
      obtain ⟨b', o', hl', A2, n2, c2, rfl, _, hbh', hd0, hd1, ⟨hn2, hm2, hr2⟩⟩ := rd_Area (HI2'.out.below HB.out hh2') hlt
      obtain rfl : n1 = n2 := by have := hr1.len.1; have := hr2.len.1; omega
      obtain ⟨t1, ht1⟩ : ∃ t1, t1 = zs[k].txn := ⟨_, rfl⟩
      rw [← ht1] at hc0 hd0
      have htt : (t1 != t1) = false := by simp
      have htt2 : (!(t1 == t1)) = false := by simp
      have hhr : hi ≤ wr.drew.heap.size := Nat.le_trans hh2 hws
      have hhr' : hi' ≤ wr.drew.heap.size := Nat.le_trans hh2' hws
      have HR1 := Lib.hid hr1.drew
      have HR2 := Lib.hid hr2.drew
      have lb : b < wr.heap.size := by omega
      have lb' : b' < wr.heap.size := by omega
      clear hr1 hr2 ht1
      go_upto_region 6 with (fail)
      have tok1 : True := trivial
      go_region_held_law (fun w' => w'.cell? ⟨r, 1, none⟩ = some (.slice (some ⟨b, o, none⟩) m d) ∧ w'.cell? ⟨r2, 1, none⟩ = some (.slice (some ⟨b', o', none⟩) m d') ∧ w'.cell? ⟨b, o + k * 2, none⟩ = some (.int .i64 t1) ∧ w'.cell? ⟨b', o' + k * 2, none⟩ = some (.int .i64 t1) ∧ w'.cell? ⟨b, o + k * 2 + 1, none⟩ = some (.slice A1 n1 c1) ∧ w'.cell? ⟨b', o' + k * 2 + 1, none⟩ = some (.slice A2 n1 c2)) (go_keep)
        ((go_at_call 36; have _t := tok1; refine (sameObjects_any zs[k].objs A1 A2 n1 c1 c2 wr.drew lo hi lo' hi' hhr hhr' HR1.out HR2.out).mono ?_; rintro e w3 ⟨rfl, hb3'⟩; have hb3 := below_of_drew hb3'; have g0 := (hb3.cell l1).trans k1; have g1 := (hb3.cell l2).trans j1; have g2 := (hb3.cell lb).trans hc0; have g3 := (hb3.cell lb').trans hd0; have g4 := (hb3.cell lb).trans hc1; have g5 := (hb3.cell lb').trans hd1; have HB3 := Lib.hid (bel_tr HB.out (Nat.le_refl _) hb3); clear tok1 hb3' hb3))
      all_goals
        go_wp2_with fail
        go_roundw
        case rel => exact ⟨k + 1, by omega, by go_num, HB3⟩
        case measure => simp [intOf]; omega
    · have hkm : k = m := by omega
      subst hkm
      go_wp2_with fail
      go_ret
      exact ⟨rfl, bel_tr HB2.out (Nat.le_refl _) HB.out⟩

/-- what the objects of a transaction are -/
theorem areaL_find {zs : List AreaD} (ha : AscA zs) {k : Nat} (hk : k < zs.length) : areaL zs zs[k].txn = zs[k].objs := by
  unfold areaL
  rw [(areaO_mem ha zs[k].txn zs[k].objs).2 (by
    have e : (⟨zs[k].txn, zs[k].objs⟩ : AreaD) = zs[k] := rfl
    rw [e]; exact List.getElem_mem hk)]
  rfl
set_option maxRecDepth 100000 in
set_option maxHeartbeats 1600000 in
theorem areaOf_any (zs : List AreaD) (t : Int) (A : Option Addr) (n c : Nat) (B : Option Addr) (m d : Nat) (w : World) (lo hi : Nat) (hh : hi ≤ w.heap.size) (ha : AscA zs) (h' : D.rd w lo hi (dAreas zs) (.slice B m d)) :
    Calls Try.prog 31 #[.agg #[.slice A n c, .slice B m d], .int .i64 t] w fun e w' => ∃ A1 n1 c1, D.rd w' lo hi (dObjects (areaL zs t)) (.slice A1 n1 c1) ∧ Below w.heap.size w w' ∧ e = .returned (.slice A1 n1 c1) := by
  have HN := Lib.hid h'.len.1
  have HA := Lib.hid ha
  have hn63 : m ≤ 9223372036854775807 := by have := h'.len; omega
  obtain ⟨r, hr⟩ : ∃ r, r = w.heap.size := ⟨_, rfl⟩
  obtain ⟨w1, hw1⟩ : ∃ w1, w1 = w.alloc (.cells #[.slice A n c, .slice B m d] 31) := ⟨_, rfl⟩
  have hb1 : Below w.heap.size w w1 := by rw [hw1]; exact (Below.refl _ _).alloc (Nat.le_refl _) _
  have hx1 : w1.heap[r]? = some (.cells #[.slice A n c, .slice B m d] 31 (0, 0)) := by rw [hw1, hr]; exact heap_alloc_new w _
  have HI := Lib.hid (h'.below hb1 hh)
  have HB := Lib.hid hb1
  have k1 : w1.cell? ⟨r, 1, none⟩ = some (.slice B m d) := cell_of_row _ _ _ _ _ _ hx1
  have lr := hltS hx1
  clear h' ha hb1 hx1
  go_enter Try.func31, Try.ntmps31
  go_upto_region 1 with (fail)
  rw [← hw1, ← hr]
  clear hw1 hr
  go_wp2_with fail
  go_loop [5] (fun i => ∃ k : Nat, k ≤ m ∧ i = .int .i64 k ∧ Hid (∀ j (h : j < zs.length), j < k → zs[j].txn ≠ t)) (fun i => m - (intOf i).toNat)
  case atStart => exact ⟨0, Nat.zero_le _, rfl, fun j _ h => by omega⟩
  case round =>
    obtain ⟨k, hk, rfl, HT⟩ := hrel
    by_cases hlt : k < m
    · obtain ⟨b, o, hl, A1, n1, c1, rfl, _, hbh, hc0, hc1, ⟨hn1, hm1, hr1⟩⟩ := rd_Area HI.out hlt
      obtain ⟨t1, ht1⟩ : ∃ t1, t1 = zs[k].txn := ⟨_, rfl⟩
      rw [← ht1] at hc0
      by_cases he : t1 = t
      · have hd : (t1 == t) = true := by simp [he]
        have HF : Hid (D.rd w1 lo hi (dObjects (areaL zs t)) (.slice A1 n1 c1)) := by
          rw [← he, ht1, areaL_find HA.out hl]; exact Lib.hid hr1
        clear he ht1 hr1
        go_wp2_with fail
        go_ret
        exact ⟨_, _, _, HF.out, HB.out, rfl⟩
      · have hd : (t1 == t) = false := by simp [he]
        have HT2 : Hid (∀ j (h : j < zs.length), j < k + 1 → zs[j].txn ≠ t) := Lib.hid fun j h hj e => by
          rcases Nat.lt_or_ge j k with h1 | h1
          · exact HT.out j h h1 e
          · have : j = k := by omega
            subst this; exact he (by rw [ht1]; exact e)
        clear he ht1 hr1
        go_wp2_with fail
        go_round
        case rel => exact ⟨k + 1, by omega, by go_num, HT2⟩
        case measure => simp [intOf]; omega
    · have hkm : k = m := by omega
      subst hkm
      have HF : Hid (areaL zs t = []) := Lib.hid (by
        unfold areaL
        rw [areaO_none.2 fun a ha e => by
          obtain ⟨j, hj, rfl⟩ := List.getElem_of_mem ha
          exact HT.out j hj (by rw [HN.out]; exact hj) e]
        rfl)
      go_wp2_with fail
      go_ret
      exact ⟨_, 0, 0, by rw [HF.out]; unfold dObjects D.rd; exact ⟨_, 0, [], rfl, Nat.le_refl _, by omega, rfl, fun h => absurd rfl h, by unfold D.rdL; rfl⟩, HB.out.alloc HB.out.size _, rfl⟩

set_option maxHeartbeats 800000 in
theorem implId_any (kind : Int) (links : List Int) (text : ByteArray) (A : Option Addr) (n c : Nat) (w : World) (lo hi : Nat) (hh : hi ≤ w.heap.size) (hv : objB ⟨kind, links, text⟩ = true) (h : D.rd w lo hi (intsD links) (.slice A n c)) :
    Calls Try.prog 38 #[.agg #[.int .i64 kind, .slice A n c, .string text]] w fun e w' => e = .returned (.int .i64 (idB ⟨kind, links, text⟩)) ∧ Below w.heap.size w w' := by
  have ht : text.size ≤ 9223372036854775807 := by have := (objB_and hv).2.2.1; dsimp only at this; omega
  obtain ⟨p, hp⟩ : ∃ p, p = w.heap.size := ⟨_, rfl⟩
  obtain ⟨w1, hw1⟩ : ∃ w1, w1 = w.alloc (.cells #[.int .i64 kind, .slice A n c, .string text] 58) := ⟨_, rfl⟩
  have hb1 : Below w.heap.size w w1 := by rw [hw1]; exact (Below.refl _ _).alloc (Nat.le_refl _) _
  have hx1 : w1.heap[p]? = some (.cells #[.int .i64 kind, .slice A n c, .string text] 58 (0, 0)) := by rw [hw1, hp]; exact heap_alloc_new w _
  have HB1 := Lib.hid hb1
  have HX1 := Lib.hid hx1
  have HI1 := Lib.hid (h.below hb1 hh)
  have hh1 : hi ≤ w1.heap.size := Nat.le_trans hh hb1.size
  have HV := Lib.hid hv
  obtain ⟨k0, k1, k2, -, lp⟩ := box_cells hx1
  clear h hv hb1 hx1
  go_enter Try.func38, Try.ntmps38
  go_upto_region 1 with (fail)
  rw [← hw1, ← hp]
  clear hw1 hp
  go_wp2_with fail
  refine (objOk_any kind links text A n c w1 lo hi hh1 ht HI1.out).mono ?_
  rintro e w2 ⟨rfl, hb2⟩
  have HB2 := Lib.hid (bel_tr HB1.out (Nat.le_refl _) hb2)
  have HX2 := Lib.hid ((hb2.block p lp).trans HX1.out)
  have HI2 := Lib.hid (HI1.out.below hb2 hh1)
  have hh2 : hi ≤ w2.heap.size := Nat.le_trans hh1 hb2.size
  clear hb2 k0 k1 k2 lp
  obtain ⟨k0, k1, k2, -, lp⟩ := box_cells HX2.out
  rw [HV.out]
  go_wp2_with fail
  refine (objId_any kind links text A n c w2 lo hi hh2 HV.out HI2.out).mono ?_
  rintro e w3 ⟨rfl, hb3⟩
  have HB3 := Lib.hid (bel_tr HB2.out (Nat.le_refl _) hb3)
  clear hb3
  go_wp2_with fail
  go_ret
  exact ⟨rfl, HB3.out⟩

end Go.Proofs.Ytgpjcmplnigmcaa

namespace Go.Proofs.Ytgpjcmplnigmcaa
set_option linter.unusedVariables false
set_option linter.unusedSimpArgs false
open Go.RowKit

theorem Rd.takeG {w : World} {lo hi : Nat} {A : Option Addr} {cs : List Value} (h : Rd w lo hi A cs) (k : Nat) : Rd w lo hi A (cs.take k) := fun hn => by
  obtain ⟨b, o, e, h1, h2, hc⟩ := h (fun e => hn (by rw [e]; simp))
  refine ⟨b, o, e, h1, h2, fun j u hu => ?_⟩
  rw [List.getElem?_take] at hu
  split at hu
  · exact hc j u hu
  · cases hu
theorem Rd.dropG {w : World} {lo hi b o : Nat} {cs : List Value} (h : Rd w lo hi (some ⟨b, o, none⟩) cs) (k : Nat) : Rd w lo hi (some ⟨b, o + k, none⟩) (cs.drop k) := fun hn => by
  obtain ⟨b', o', e, h1, h2, hc⟩ := h (fun e => hn (by rw [e]; simp))
  injection e with e
  injection e with e1 e2
  subst e1 e2
  refine ⟨b, o + k, rfl, h1, h2, fun j u hu => ?_⟩
  rw [List.getElem?_drop] at hu
  have := hc _ _ hu
  rwa [← Nat.add_assoc] at this
/-- one element of a row, as a row -/
theorem rd_oneO {w : World} {lo hi n c k b o : Nat} {os : List ObjD} (h : D.rd w lo hi (dObjects os) (.slice (some ⟨b, o, none⟩) n c)) (hk : k < os.length) (d : Nat) (hd1 : 1 ≤ d) (hd : d ≤ 9223372036854775807) :
    D.rd w lo hi (dObjects [os[k]]) (.slice (some ⟨b, o + k * 3, none⟩) 1 d) := by
  unfold dObjects D.rd at h ⊢
  obtain ⟨A, c', vs, g1, g2, g3, g4, g5, g6⟩ := h
  injection g1 with e1 e2 e3
  subst e1
  have hsplit : os.flatMap fObject = (os.take k).flatMap fObject ++ ((fObject os[k]) ++ (os.drop (k + 1)).flatMap fObject) := by
    rw [← List.flatMap_cons, ← List.flatMap_append, ← List.drop_eq_getElem_cons hk, List.take_append_drop]
  rw [hsplit] at g6
  obtain ⟨x, y, rfl, a1, a2⟩ := D.rdL.app_inv g6
  obtain ⟨y1, y2, rfl, a3, a4⟩ := D.rdL.app_inv a2
  have hxl : x.length = k * 3 := by rw [D.rdL.length a1, flat_lenG fObject 3 fObject_len, List.length_take, Nat.min_eq_left (by omega)]
  have hyl : y1.length = 3 := by rw [D.rdL.length a3]; rfl
  refine ⟨_, d, y1, rfl, hd1, hd, rfl, ?_, by simpa using a3⟩
  have h1 := (g5.dropG (k * 3)).takeG 3
  rw [← hxl, List.drop_left, ← hyl, List.take_left] at h1
  rw [← hxl]; exact h1

/-- an object that is handed back by value, with links of its own -/
def ObjR (w : World) (x : ObjD) (e : Ending) (w' : World) : Prop :=
  ∃ A c, D.rd w' w.heap.size w'.heap.size (intsD x.links) (.slice A x.links.length c) ∧ Below w.heap.size w w' ∧ e = .returned (.tuple #[.agg #[.int .i64 x.kind, .slice A x.links.length c, .string x.text], .bool true])
set_option maxRecDepth 100000 in
set_option maxHeartbeats 3200000 in
theorem getO_any (os : List ObjD) (x : ObjD) (A : Option Addr) (n c : Nat) (w : World) (lo hi : Nat) (hh : hi ≤ w.heap.size) (hs : storeB os = true) (hx : x ∈ os) (h : D.rd w lo hi (dObjects os) (.slice A n c)) :
    Calls Try.prog 37 #[.slice A n c, .int .i64 (idB x)] w fun e w' => ObjR w x e w' := by
  obtain ⟨s1, s2, s3⟩ := (storeB_iff _).1 hs
  have hbd := idB_bd (s1 x hx)
  obtain ⟨id, hid⟩ : ∃ id, idB x = id := ⟨_, rfl⟩
  rw [hid] at hbd
  have hbd0 := hbd.1
  have hbd1 := hbd.2
  have HIR : Hid (inR id 0 990 = true) := Lib.hid ((inR_iff _ _ _).2 ⟨hbd0, hbd1⟩)
  have hfb : fndB os id = true := by
    rcases hf : fndB os id with _ | _
    · exact absurd hid (fndB_not s2 hf x hx)
    · rfl
  obtain ⟨hpl, hpe⟩ := (fndB_iff _ _).1 hfb
  obtain ⟨k, hk⟩ : ∃ k, plc os id = k := ⟨_, rfl⟩
  have hkl : k < os.length := by omega
  have hxk : os[k] = x := by
    have h1 := getO_mem s2 hx
    have h2 := getO_mem s2 (List.getElem_mem hpl)
    rw [hpe] at h2
    rw [hid, h2] at h1
    injection h1 with h1
    subst hk; exact h1
  have hn := h.len.1
  have hn16 : n ≤ 16 := by omega
  have hkn : k < n := by omega
  have hc63 := h.len.2.2
  have hnc : n ≤ c := by have := h.len; omega
  obtain ⟨rp, hrp⟩ : ∃ rp, rp = w.heap.size := ⟨_, rfl⟩
  obtain ⟨w1, hw1⟩ : ∃ w1, w1 = w.alloc (.cells #[.int .i64 0, .slice none 0 0, .string ⟨#[]⟩] 58) := ⟨_, rfl⟩
  have hb1 : Below w.heap.size w w1 := by rw [hw1]; exact (Below.refl _ _).alloc (Nat.le_refl _) _
  have hx1 : w1.heap[rp]? = some (.cells #[.int .i64 0, .slice none 0 0, .string ⟨#[]⟩] 58 (0, 0)) := by rw [hw1, hrp]; exact heap_alloc_new w _
  have HB1 := Lib.hid hb1
  have HX1 := Lib.hid hx1
  have HI1 := Lib.hid (h.below hb1 hh)
  have hh1 : hi ≤ w1.heap.size := Nat.le_trans hh hb1.size
  have hrw : w.heap.size ≤ rp := by omega
  have hww1 := hb1.size
  have HS := Lib.hid hs
  have HV : Hid (∀ o ∈ os, objB o = true) := Lib.hid s1
  have HA := Lib.hid s2
  have HK := Lib.hid hk
  have HXK := Lib.hid hxk
  have HF := Lib.hid hfb
  rw [hid]
  clear h hs hx s1 s2 s3 hid hbd hfb hpl hpe hk hxk hb1 hx1 hn
  go_enter Try.func37, Try.ntmps37
  go_upto_region 1 with (fail)
  rw [← hw1, ← hrp]
  clear hw1 hrp
  go_wp2_with fail
  refine (implStoreValid_any os A n c w1 lo hi hh1 HI1.out).mono ?_
  rintro e w2 ⟨rfl, hb2⟩
  have HB2 := Lib.hid (bel_tr HB1.out (Nat.le_refl _) hb2)
  have HX2 := Lib.hid ((hb2.block rp (hltS HX1.out)).trans HX1.out)
  have HI2 := Lib.hid (HI1.out.below hb2 hh1)
  have hh2 : hi ≤ w2.heap.size := Nat.le_trans hh1 hb2.size
  have hw12 := hb2.size
  clear hb2
  rw [HS.out]
  go_wp2_with (go_at_call 79; refine (isId_any _ _).mono ?_; rintro e w' ⟨rfl, rfl⟩; rw [HIR.out])
  refine (findO_any os A n c id w2 lo hi hh2 (by omega) HV.out HA.out hbd0 hbd1 HI2.out).mono ?_
  rintro e w3 ⟨rfl, hb3⟩
  have HB3 := Lib.hid (bel_tr HB2.out (Nat.le_refl _) hb3)
  have HX3 := Lib.hid ((hb3.block rp (hltS HX2.out)).trans HX2.out)
  have HI3 := Lib.hid (HI2.out.below hb3 hh2)
  have hh3 : hi ≤ w3.heap.size := Nat.le_trans hh2 hb3.size
  have hw23 := hb3.size
  clear hb3
  rw [HK.out, HF.out]
  obtain ⟨b, o, hl, A1, n1, c1, rfl, _, hbh, -⟩ := rd_Object HI3.out hkn
  have HR3 := Lib.hid (rd_oneO HI3.out hkl (c - k) (by omega) (by omega))
  clear hl
  have hck : ¬ (c = k) := by omega
  go_wp2_with fail
  refine (copyObjs_row [os[k]] (some ⟨b, o + k * 3, none⟩) 1 (c - k) w3 lo hi hh3 (by omega) (fun q hq => by
    rw [List.mem_singleton] at hq
    have := (objB_and (HV.out _ (List.getElem_mem hkl))).2.1
    subst hq; omega) HR3.out).mono ?_
  rintro e w4 ⟨C, dc, hg4, hb4, rfl⟩
  have HB4 := Lib.hid (bel_tr HB3.out (Nat.le_refl _) hb4)
  have HX4 := Lib.hid ((hb4.block rp (hltS HX3.out)).trans HX3.out)
  have hw34 := hb4.size
  have ho4 : Own w4 w3.heap.size (dObjects [os[k]]) (.slice C 1 dc) := by have := hg4.own; unfold dObjects; exact this
  obtain ⟨b4, o4, hl4, A4, n4, c4, rfl, hb41, hb42, hc0, hc1, hc2, ⟨hn4, hm4, hr4⟩, -⟩ := rd_Object ho4.rd (show 0 < 1 by decide)
  simp only [List.getElem_cons_zero, Nat.zero_mul, Nat.add_zero] at hc0 hc1 hc2 hr4
  rw [HXK.out] at hc0 hc2 hr4
  obtain rfl : n4 = x.links.length := hr4.len.1
  have HR4 := Lib.hid hr4
  have HLT : Hid (rp < w3.heap.size) := Lib.hid (hltS HX3.out)
  have hne4 : ¬ (b4 = rp) := by have := hltS HX3.out; omega
  have hne4' : ¬ (rp = b4) := fun e => hne4 e.symm
  obtain ⟨z0, z1, z2, zf, lz⟩ := box_cells HX4.out
  have zf0 : w4.frozen? ⟨rp, 0, none⟩ = false := frozen_of_row _ _ _ _ _ HX4.out
  have zf2 : w4.frozen? ⟨rp, 2, none⟩ = false := frozen_of_row _ _ _ _ _ HX4.out
  obtain ⟨kind, hkd⟩ : ∃ kind, kind = x.kind := ⟨_, rfl⟩
  obtain ⟨text, htx⟩ : ∃ text, text = x.text := ⟨_, rfl⟩
  obtain ⟨ln, hln⟩ : ∃ ln, ln = x.links.length := ⟨_, rfl⟩
  rw [← hkd] at hc0
  rw [← htx] at hc2
  rw [← hln] at hc1
  have HKD := Lib.hid hkd
  have HTX := Lib.hid htx
  have HLN := Lib.hid hln
  clear hb4 hg4 ho4 hr4 hl4 hkd htx hln
  go_wp2_with fail
  refine bodyPost_ret (v := .tuple #[.agg #[.int .i64 kind, .slice A4 ln c4, .string text], .bool true]) (by simp [results, Try.results37, go_sem, z0, z1, z2, zf, zf0, zf2]) rfl ?_
  refine ⟨A4, c4, ?_, ((HB4.out.setCell hrw _).setCell hrw _).setCell hrw _, by rw [← HKD.out, ← HTX.out, ← HLN.out]⟩
  have h1 := ((HR4.out.setCell (p := ⟨rp, 0, none⟩) (.inl HLT.out) (.int .i64 kind)).setCell (p := ⟨rp, 1, none⟩) (.inl HLT.out) (.slice A4 ln c4)).setCell (p := ⟨rp, 2, none⟩) (.inl HLT.out) (.string text)
  exact h1.more (show w.heap.size ≤ w3.heap.size by omega) (by simp)

end Go.Proofs.Ytgpjcmplnigmcaa

namespace Go.Proofs.Ytgpjcmplnigmcaa
set_option linter.unusedVariables false
set_option linter.unusedSimpArgs false
open Go.RowKit

/-- a variable y that holds a quarantine; all of it lies behind w0 -/
def QV (w0 w : World) (y : Nat) (Q : QuaD) (A : Option Addr) (c : Nat) (B : Option Addr) (d : Nat) : Prop :=
  w.heap[y]? = some (.cells #[.slice A Q.main.length c, .slice B Q.areas.length d] 31 (0, 0)) ∧ D.rd w w0.heap.size w.heap.size (dObjects Q.main) (.slice A Q.main.length c) ∧ D.rd w w0.heap.size w.heap.size (dAreas Q.areas) (.slice B Q.areas.length d)
section
variable {w0 w w' : World} {y : Nat} {Q : QuaD} {A B : Option Addr} {c d : Nat}
theorem QV.fresh (h : QV w0 w y Q A c B d) (hb : Below w.heap.size w w') : QV w0 w' y Q A c B d :=
  ⟨(hb.block y (hltS h.1)).trans h.1, h.2.1.fresh hb, h.2.2.fresh hb⟩
theorem QV.cells (h : QV w0 w y Q A c B d) : w.cell? ⟨y, 0, none⟩ = some (.slice A Q.main.length c) ∧ w.cell? ⟨y, 1, none⟩ = some (.slice B Q.areas.length d) ∧ y < w.heap.size :=
  ⟨cell_of_row _ _ 0 _ _ _ h.1, cell_of_row _ _ 1 _ _ _ h.1, hltS h.1⟩
theorem QV.mk_ (h1 : D.rd w w0.heap.size w.heap.size (dObjects Q.main) (.slice A Q.main.length c)) (h2 : D.rd w w0.heap.size w.heap.size (dAreas Q.areas) (.slice B Q.areas.length d)) : QV w0 (w.alloc (.cells #[.slice A Q.main.length c, .slice B Q.areas.length d] 31)) w.heap.size Q A c B d :=
  ⟨heap_alloc_new w _, h1.fresh ((Below.refl _ _).alloc (Nat.le_refl _) _), h2.fresh ((Below.refl _ _).alloc (Nat.le_refl _) _)⟩
end
theorem QuaG.rd2 {w : World} {base : Nat} {q : QuaD} {A B : Option Addr} {n c m d : Nat} (h : QuaG w base q (.slice A n c) (.slice B m d)) : n = q.main.length ∧ m = q.areas.length ∧ D.rd w base w.heap.size (dObjects q.main) (.slice A q.main.length c) ∧ D.rd w base w.heap.size (dAreas q.areas) (.slice B q.areas.length d) := by
  obtain ⟨A', n', c', B', m', d', e1, e2, h1, h2⟩ := h.rd
  injection e1 with e11 e12 e13
  injection e2 with e21 e22 e23
  subst e11 e12 e13 e21 e22 e23
  have k1 := h1.len.1
  have k2 := h2.len.1
  subst k1 k2
  exact ⟨rfl, rfl, h1, h2⟩

theorem areaO_self {zs : List AreaD} (h : AscA zs) (t : Int) : areaO (setA zs t []) t = none := by rw [setA_areaO h]; simp
theorem proIn_and {q : QuaD} {t : Int} (h : proIn q t = true) : quaB q = true ∧ txnB t = true := by unfold proIn at h; simpa using h
theorem quaPro_true {q : QuaD} {t : Int} (h : quaProB q t = true) : proIn q t = true ∧ (areaO q.areas t).isSome = true ∧ (allP q.main (areaL q.areas t)).2 = true ∧ quaPro q t = ⟨(allP q.main (areaL q.areas t)).1, setA q.areas t []⟩ := by
  unfold quaProB at h
  rw [Bool.and_eq_true] at h
  obtain ⟨h1, h2⟩ := h
  have h3 := h2
  unfold proOk at h3
  rw [Bool.and_eq_true] at h3
  exact ⟨h1, h3.1, h3.2, (quaPro_yes h1 h3.1 h3.2).1⟩
theorem areaL_objs {q : QuaD} (h : quaB q = true) (t : Int) : ∀ o ∈ areaL q.areas t, objB o = true := ((storeB_iff _).1 (areaL_store h t)).1
theorem quaPro_valid {q : QuaD} {t : Int} (h : quaProB q t = true) : quaB (quaPro q t) = true := by
  obtain ⟨h1, h2, h3, h4⟩ := quaPro_true h
  obtain ⟨h5, h6⟩ := proIn_and h1
  rw [h4]
  exact setA_valid h5 h6 (.inl rfl) (allP_store ((quaB_iff _).1 h5).2.1 (areaL_objs h5 t)) (.inl rfl)
/-- an area is promoted once -/
theorem quaPro_twice {q : QuaD} {t : Int} (h : quaProB q t = true) : quaProB (quaPro q t) t = false ∧ quaPro (quaPro q t) t = quaPro q t := by
  have hv := quaPro_valid h
  obtain ⟨h1, h2, h3, h4⟩ := quaPro_true h
  obtain ⟨h5, h6⟩ := proIn_and h1
  have hn : areaO (quaPro q t).areas t = none := by rw [h4]; exact areaO_self ((quaB_iff _).1 h5).1.2 t
  have := quaPro_none (q := quaPro q t) (t := t) (by unfold proIn; rw [hv, h6]; rfl) (by rw [hn]; rfl)
  exact ⟨this.2, this.1⟩
/-- .. and is gone -/
theorem quaPro_gone {q : QuaD} {t : Int} (h : quaProB q t = true) : areaL (quaPro q t).areas t = [] ∧ (quaPro q t).areas.length + 1 = q.areas.length := by
  obtain ⟨h1, h2, h3, h4⟩ := quaPro_true h
  obtain ⟨h5, h6⟩ := proIn_and h1
  have ha := ((quaB_iff _).1 h5).1.2
  rw [h4]
  constructor
  · unfold areaL; rw [areaO_self ha]; rfl
  · have := setA_len ha t []
    rw [if_pos h2, if_pos rfl] at this
    simpa using this
/-- what is not promoted stays -/
theorem quaPro_false {q : QuaD} {t : Int} (hv : quaB q = true) (ht : txnB t = true) (h : quaProB q t = false) : quaPro q t = q := by
  have hi : proIn q t = true := by unfold proIn; rw [hv, ht]; rfl
  unfold quaProB at h
  rw [hi, Bool.true_and] at h
  unfold quaPro
  rw [if_pos hi, if_neg (by rw [h]; simp)]
theorem areaL_nil {q : QuaD} (hv : quaB q = true) {t : Int} (h : (areaL q.areas t).length = 0) : areaO q.areas t = none := by
  rcases ha : areaO q.areas t with _ | os
  · rfl
  · obtain ⟨⟨v1, v2⟩, -, -⟩ := (quaB_iff _).1 hv
    have := (fullB_iff _).1 (v1 _ ((areaO_mem v2 t os).1 ha)).2
    unfold areaL at h
    rw [ha] at h
    exact absurd (List.length_eq_zero_iff.1 h) this.1
theorem quaDis_none {q : QuaD} {t : Int} (hv : quaB q = true) (ht : txnB t = true) (h : areaO q.areas t = none) : quaDis q t = q ∧ quaDisB q t = false := by
  have hi : proIn q t = true := by unfold proIn; rw [hv, ht]; rfl
  obtain ⟨h1, h2⟩ := proIn_yes hi
  rw [h1, h2, setA_none ((quaB_iff _).1 hv).1.2 t h, h]
  exact ⟨rfl, rfl⟩
theorem quaPut_true {q : QuaD} {t : Int} {l : List ObjD} (h : quaPutB q t l = true) : quaB q = true ∧ txnB t = true ∧ fullB l = true ∧ (allP (areaL q.areas t) l).2 = true ∧ quaPut q t l = ⟨q.main, setA q.areas t (newA q t l)⟩ ∧ newA q t l ≠ [] ∧ areaL (quaPut q t l).areas t = newA q t l := by
  obtain ⟨h1, h2⟩ := quaPutB_and h
  have he := (quaPut_ok h1 h2).1
  unfold putIn at h1
  unfold putOk at h2
  simp only [Bool.and_eq_true] at h1 h2
  obtain ⟨⟨h3, h4⟩, h5⟩ := h1
  have hne : newA q t l ≠ [] := newA_ne h2.1.1 ((fullB_iff _).1 h5).1
  refine ⟨h3, h4, h5, h2.1.1, he, hne, ?_⟩
  rw [he]
  unfold areaL
  rw [setA_areaO ((quaB_iff _).1 h3).1.2, if_pos rfl, if_neg hne]
  rfl
/-- discarding undoes putting -/
theorem quaDis_put {q : QuaD} {t : Int} {l : List ObjD} (h : quaPutB q t l = true) (hn : areaO q.areas t = none) : quaDis (quaPut q t l) t = q ∧ quaDisB (quaPut q t l) t = true := by
  obtain ⟨h3, h4, h5, h6, he, hne, -⟩ := quaPut_true h
  have hv := quaPut_valid h
  have hi : proIn (quaPut q t l) t = true := by unfold proIn; rw [hv, h4]; rfl
  have ha := ((quaB_iff _).1 h3).1.2
  obtain ⟨k1, k2⟩ := proIn_yes hi
  rw [k1, k2, he]
  refine ⟨?_, ?_⟩
  · show (⟨q.main, setA (setA q.areas t (newA q t l)) t []⟩ : QuaD) = q
    rw [setA_back ha t _ hn]
  · show (areaO (setA q.areas t (newA q t l)) t).isSome = true
    rw [setA_areaO ha, if_pos rfl, if_neg hne]; rfl
theorem quaPut_grows {q : QuaD} {t : Int} {l : List ObjD} (h : quaPutB q t l = true) : (areaL q.areas t).length ≤ (areaL (quaPut q t l).areas t).length := by
  obtain ⟨h3, h4, h5, h6, he, hne, ha⟩ := quaPut_true h
  rw [ha]
  exact allP_ge h6
theorem quaPut_false {q : QuaD} {t : Int} {l : List ObjD} (hi : putIn q t l = true) (h : quaPutB q t l = false) : quaPut q t l = q := by
  unfold quaPutB at h
  rw [hi, Bool.true_and] at h
  exact (quaPut_not hi h).1

end Go.Proofs.Ytgpjcmplnigmcaa
