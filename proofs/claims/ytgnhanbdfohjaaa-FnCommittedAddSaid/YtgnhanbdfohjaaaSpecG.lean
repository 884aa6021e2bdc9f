/-
  The walk of l21Recover of the reference: the state behind all records, and whether each may follow. Condition: lengths fit an int64.
-/
import Derived.Test.YtgnhanbdfohjaaaSpecF
namespace Go.Proofs.Ytgnhanbdfohjaaa
set_option linter.unusedVariables false
set_option linter.unusedSimpArgs false
open Go.RowKit
attribute [local go_sem ↓] Go.wp_at_zero Go.wp_at_succ

/-- a row is kept where a block is written whose cells are none of its own -/
theorem FlH.put {α : Type} {f : α → List Value} {w : World} {lo n g : Nat} {A : Option Addr} {xs : List α} {arr : Array Value} {t : TypeId} (h : FlH f w lo A n xs) (hg : w.heap[g]? = some (.cells arr t (0, 0)))
    (hno : ∀ v ∈ xs.flatMap f, ∀ j : Nat, arr[j]? ≠ some v) (j : Nat) (u : Value) : FlH f (w.setCell ⟨g, j, none⟩ u) lo A n xs := by
  refine ⟨h.1, fun hne => ?_⟩
  obtain ⟨b, o, rfl, g1, g2, hc⟩ := h.2 hne
  refine ⟨b, o, rfl, g1, by simpa [World.setCell] using g2, fun i v hv => ?_⟩
  have hbg : b ≠ g := by
    intro e
    subst e
    have h1 := hc i v hv
    rw [cell_of_row w b (o + i) _ _ _ hg] at h1
    exact hno v (List.mem_of_getElem? hv) _ h1
  rw [World.cell?_setCell_other w _ _ _ (fun e => hbg (by injection e with e; exact e.symm))]
  exact hc i v hv
theorem ints_no {xs : List Int} {arr : Array Value} (h : ∀ (j : Nat) (x : Int), arr[j]? ≠ some (.int .i64 x)) : ∀ v ∈ xs.flatMap ci, ∀ j : Nat, arr[j]? ≠ some v := by
  intro v hv j
  rw [flat_ci, List.mem_map] at hv
  obtain ⟨x, _, rfl⟩ := hv
  exact h j x
theorem two_slices {A1 A2 : Option Addr} {n1 c1 n2 c2 : Nat} : ∀ (j : Nat) (x : Int), (#[.slice A1 n1 c1, .slice A2 n2 c2] : Array Value)[j]? ≠ some (.int .i64 x) := by
  intro j x
  rcases j with _ | _ | j <;> simp
/-- the state's block is written -/
theorem StIn.put {w : World} {lo g : Nat} {A1 A2 : Option Addr} {c1 c2 : Nat} {s : St} {B1 B2 : Option Addr} {n1 d1 n2 d2 : Nat} (h : StIn w lo A1 c1 A2 c2 s) (hg : w.heap[g]? = some (.cells #[.slice B1 n1 d1, .slice B2 n2 d2] 30 (0, 0)))
    (e1 : Nat) (X1 : Option Addr) (e2 : Nat) (X2 : Option Addr) (m1 m2 : Nat) :
    StIn ((w.setCell ⟨g, 0, none⟩ (.slice X1 m1 e1)).setCell ⟨g, 1, none⟩ (.slice X2 m2 e2)) lo A1 c1 A2 c2 s ∧
    ((w.setCell ⟨g, 0, none⟩ (.slice X1 m1 e1)).setCell ⟨g, 1, none⟩ (.slice X2 m2 e2)).heap[g]? = some (.cells #[.slice X1 m1 e1, .slice X2 m2 e2] 30 (0, 0)) := by
  have hg1 : (w.setCell ⟨g, 0, none⟩ (.slice X1 m1 e1)).heap[g]? = some (.cells #[.slice X1 m1 e1, .slice B2 n2 d2] 30 (0, 0)) := by rw [heap_setCell_same w g 0 _ _ _ hg]; rfl
  have hg2 : ((w.setCell ⟨g, 0, none⟩ (.slice X1 m1 e1)).setCell ⟨g, 1, none⟩ (.slice X2 m2 e2)).heap[g]? = some (.cells #[.slice X1 m1 e1, .slice X2 m2 e2] 30 (0, 0)) := by rw [heap_setCell_same _ g 1 _ _ _ hg1]; rfl
  exact ⟨⟨(h.1.put hg (ints_no two_slices) _ _).put hg1 (ints_no two_slices) _ _, (h.2.1.put hg (ints_no two_slices) _ _).put hg1 (ints_no two_slices) _ _, h.2.2⟩, hg2⟩

theorem ret_tupb {v : Value} {b b' : Bool} (h : b = b') : Ending.returned (.tuple #[v, .bool b]) = .returned (.tuple #[v, .bool b']) := by rw [h]
theorem recov_fail {l : List Rec} {s : St} {r : Rec} (h : Hist l s) (hf : stepB l s r = false) (m : List Rec) : recov (l ++ r :: m) = (s, false) := by
  induction m using snoc_ind with
  | nil => rw [recov_snoc, h.eq]; simp [hf]
  | snoc m x ih =>
    rw [← List.cons_append, ← List.append_assoc, recov_snoc, ih]; simp
theorem abs_split {rs : List RecC} {k : Nat} (h : k < rs.length) : abs rs = abs (rs.take k) ++ rs[k].ab :: abs (rs.drop (k + 1)) := by
  unfold abs
  rw [← List.map_cons, ← List.map_append, List.getElem_cons_drop, List.take_append_drop]
theorem recov_bad {rs : List RecC} {k : Nat} (hk : k < rs.length) {s : St} (h : Hist (abs (rs.take k)) s) (hf : stepB (abs (rs.take k)) s rs[k].ab = false) : (recov (abs rs)).1 = s ∧ shardB (abs rs) = false := by
  have := recov_fail h hf (abs (rs.drop (k + 1)))
  rw [← abs_split hk] at this
  unfold shardB
  rw [this]; exact ⟨rfl, rfl⟩
theorem recov_good {rs : List RecC} {s : St} (h : Hist (abs rs) s) : (recov (abs rs)).1 = s ∧ shardB (abs rs) = decide (rs.length ≤ 30) := by
  unfold shardB
  rw [h.eq, abs_len]; exact ⟨rfl, by simp⟩
theorem stepB_tx {rs : List Rec} {s : St} {r : Rec} (h : txB r.txn = false) : stepB rs s r = false := by unfold stepB; rw [h]; rfl

set_option linter.unusedVariables false in
set_option maxRecDepth 100000 in
set_option maxHeartbeats 3200000 in
theorem l21Recover_any (A : Option Addr) (n c : Nat) (rs : List RecC) (w : World) (lo : Nat) (hn : n ≤ c) (hc : c ≤ 9223372036854775807) (hlo : lo ≤ w.heap.size) (h : Recs w lo A n rs) :
    Calls Try.prog 36 #[.slice A n c] w fun e w' => StRetB (recov (abs rs)).1 (shardB (abs rs)) lo w e w' := by
  have HR := Lib.hid h
  clear h
  go_enter Try.func36, Try.ntmps36
  go_wp2_with fail
  refine (l21Begin_any _).mono ?_
  rintro e w1 ⟨A1, c1, A2, c2, rfl, hS, hb⟩
  have hB0 : w1.heap[w.heap.size]? = some (.cells #[.slice none 0 0, .slice none 0 0] 30 (0, 0)) := (hb.block _ (by simp)).trans (heap_alloc_new w _)
  have hbel1 : Below w.heap.size w w1 := ((Below.refl _ _).alloc (Nat.le_refl _) _).trans (hb.mono (by simp))
  have hsz1 : w.heap.size < w1.heap.size := heap_lt hB0
  have HST := Lib.hid (hS.low (lo' := lo) (by simp; omega))
  have HB0 := Lib.hid hB0
  have HBel := Lib.hid hbel1
  clear hS hb hB0 hbel1
  go_wp2_with fail
  have hT1 : Hid ((w1.alloc (.cells #[.slice A1 4 c1, .slice A2 4 c2] 30)).heap[w1.heap.size]? = some (.cells #[.slice A1 4 c1, .slice A2 4 c2] 30 (0, 0))) := heap_alloc_new w1 _
  generalize hge : w1.heap.size = g at *
  have HGE := Lib.hid hge
  clear hge
  go_loopw [5] (fun i wr => ∃ (k : Nat) (s : St) (A1 A2 : Option Addr) (c1 c2 : Nat), k ≤ n ∧ i = .int .i64 k ∧ Hist (abs (rs.take k)) s ∧ wr.heap[g]? = some (.cells #[.slice A1 4 c1, .slice A2 4 c2] 30 (0, 0)) ∧
    StIn wr lo A1 c1 A2 c2 s ∧ wr.heap[w.heap.size]? = some (.cells #[.slice none 0 0, .slice none 0 0] 30 (0, 0)) ∧ Below w.heap.size w wr) (fun i _ => n - (intOf i).toNat)
  case atStart => exact ⟨0, st0, A1, A2, c1, c2, Nat.zero_le _, rfl, Hist.nil, hT1.out, HST.out.alloc _, (Below.heap_alloc _ _ _ (by rw [HGE.out]; exact hsz1)).trans HB0.out, HBel.out.alloc (by rw [HGE.out]; omega) _⟩
  case round =>
    obtain ⟨k, s, A1, A2, c1, c2, hk, rfl, hH, hg, hS, hr, hb⟩ := hrel
    have HH := Lib.hid hH
    have HG := Lib.hid hg
    have HS := Lib.hid hS
    have HR0 := Lib.hid hr
    have HB := Lib.hid hb
    have hwsz := hb.size
    have hgs := heap_lt hg
    have hrsz := heap_lt hr
    have HRW := Lib.hid (HR.out.bel hb)
    obtain ⟨g0, g1, g2, g3⟩ := ret_agg hg
    obtain ⟨r0, r1, r2, r3⟩ := ret_agg hr
    clear hH hg hS hr hb HST hT1 HB0 HBel
    by_cases hlt : k < n
    · obtain ⟨b, o, hll, rfl, _, hblt, hc0, hc1, hc2, hin⟩ := HRW.out.at_ hlt
      have HIN := Lib.hid hin
      clear hin
      rcases ht : txB rs[k].txn with _ | _
      · have hbad := recov_bad hll HH.out (stepB_tx ht)
        have E1 := Lib.hid hbad.1
        have E2 := Lib.hid hbad.2
        clear hbad
        go_wp2_with (go_at_call 45; refine (l12Txn_any _ _).mono ?_; rintro e w' ⟨rfl, rfl⟩)
        have hbel := (HB.out.setCell (p := ⟨w.heap.size, 0, none⟩) (by simp) (.slice A1 4 c1)).setCell (p := ⟨w.heap.size, 1, none⟩) (by simp) (.slice A2 4 c2)
        refine bodyPost_ret (v := .tuple #[.agg #[.slice A1 4 c1, .slice A2 4 c2], .bool false]) (by simp [results, Try.results36, go_sem, r0, r1]) rfl ?_
        rw [E1.out, E2.out]
        exact ⟨A1, c1, A2, c2, (HS.out.put HR0.out _ _ _ _ _ _).1, hbel, rfl⟩
      · have hk0 : (0 : Int) ≤ (k : Int) := by omega
        have hkc : (k : Int) ≤ (c : Int) := by omega
        have hkn : (k : Int) < (n : Int) := by omega
        have hk63 : k ≤ 9223372036854775807 := by omega
        have HRD : Hid (Recs wr.drew lo (some ⟨b, o, none⟩) k (rs.take k)) := (HRW.out.take (Nat.le_of_lt hlt)).drewN 1
        have HSD : Hid (StIn wr.drew lo A1 c1 A2 c2 s) := HS.out.drewN 1
        have HIND : Hid (RecIn wr.drew lo rs[k]) := HIN.out.drewN 1
        have hlod : lo ≤ wr.drew.heap.size := by simp; omega
        have HINV := Lib.hid HH.out.inv
        have HTX := Lib.hid ht
        have HRD1 : Hid (Recs ((wr.alloc (.cells #[.slice none 0 0, .slice none 0 0] 30)).drew) lo (some ⟨b, o, none⟩) k (rs.take k)) := (HRW.out.take (Nat.le_of_lt hlt)).alloc _
        have HSD1 : Hid (StIn ((wr.alloc (.cells #[.slice none 0 0, .slice none 0 0] 30)).drew) lo A1 c1 A2 c2 s) := HS.out.alloc _
        have HIND1 : Hid (RecIn ((wr.alloc (.cells #[.slice none 0 0, .slice none 0 0] 30)).drew) lo rs[k]) := HIN.out.alloc _
        have hle1 : wr.heap.size ≤ ((wr.alloc (.cells #[.slice none 0 0, .slice none 0 0] 30)).drew).heap.size := by simp
        have hlt1 : wr.heap.size < ((wr.alloc (.cells #[.slice none 0 0, .slice none 0 0] 30)).drew).heap.size := by simp
        have hlod1 : lo ≤ ((wr.alloc (.cells #[.slice none 0 0, .slice none 0 0] 30)).drew).heap.size := Nat.le_trans hlod hle1
        have hgs1 : g < ((wr.alloc (.cells #[.slice none 0 0, .slice none 0 0] 30)).drew).heap.size := Nat.lt_of_lt_of_le hgs hle1
        have hblt1 : b < ((wr.alloc (.cells #[.slice none 0 0, .slice none 0 0] 30)).drew).heap.size := Nat.lt_of_lt_of_le hblt hle1
        have hrsz1 : w.heap.size < ((wr.alloc (.cells #[.slice none 0 0, .slice none 0 0] 30)).drew).heap.size := Nat.lt_of_lt_of_le hrsz hle1
        have hwsz1 : w.heap.size ≤ ((wr.alloc (.cells #[.slice none 0 0, .slice none 0 0] 30)).drew).heap.size := Nat.le_trans hwsz hle1
        have HC1 : Hid (((wr.alloc (.cells #[.slice none 0 0, .slice none 0 0] 30)).drew).cell? ⟨g, 0, none⟩ = some (.slice A1 4 c1) ∧ ((wr.alloc (.cells #[.slice none 0 0, .slice none 0 0] 30)).drew).cell? ⟨g, 1, none⟩ = some (.slice A2 4 c2) ∧ ((wr.alloc (.cells #[.slice none 0 0, .slice none 0 0] 30)).drew).cell? ⟨b, o + k * 3, none⟩ = some (.int .i64 rs[k].kind) ∧ ((wr.alloc (.cells #[.slice none 0 0, .slice none 0 0] 30)).drew).cell? ⟨b, o + k * 3 + 1, none⟩ = some (.int .i64 rs[k].txn) ∧ ((wr.alloc (.cells #[.slice none 0 0, .slice none 0 0] 30)).drew).cell? ⟨b, o + k * 3 + 2, none⟩ = some (.slice rs[k].A rs[k].n rs[k].c)) :=
          ⟨(World.cell?_alloc_lt _ _ _ hgs).trans g0, (World.cell?_alloc_lt _ _ _ hgs).trans g1, (World.cell?_alloc_lt _ _ _ hblt).trans hc0, (World.cell?_alloc_lt _ _ _ hblt).trans hc1, (World.cell?_alloc_lt _ _ _ hblt).trans hc2⟩
        have HG1 : Hid (((wr.alloc (.cells #[.slice none 0 0, .slice none 0 0] 30)).drew).heap[g]? = some (.cells #[.slice A1 4 c1, .slice A2 4 c2] 30 (0, 0))) := (Below.heap_alloc _ _ _ hgs).trans HG.out
        have HR1 : Hid (((wr.alloc (.cells #[.slice none 0 0, .slice none 0 0] 30)).drew).heap[w.heap.size]? = some (.cells #[.slice none 0 0, .slice none 0 0] 30 (0, 0))) := (Below.heap_alloc _ _ _ hrsz).trans HR0.out
        have HX1 : Hid (((wr.alloc (.cells #[.slice none 0 0, .slice none 0 0] 30)).drew).heap[wr.heap.size]? = some (.cells #[.slice none 0 0, .slice none 0 0] 30 (0, 0))) := heap_alloc_new wr _
        have HB1 : Hid (Below w.heap.size w ((wr.alloc (.cells #[.slice none 0 0, .slice none 0 0] 30)).drew)) := (HB.out.alloc hwsz _).drew
        have gx : ¬ (g = wr.heap.size) := by omega
        have gx' : ¬ (wr.heap.size = g) := by omega
        have bx : ¬ (b = wr.heap.size) := by omega
        have bx' : ¬ (wr.heap.size = b) := by omega
        rcases hok : stepB (abs (rs.take k)) s rs[k].ab with _ | _
        · have HOK := Lib.hid hok
          have hbad := recov_bad hll HH.out hok
          have E1 := Lib.hid hbad.1
          have E2 := Lib.hid hbad.2
          clear hbad hok
          go_wp2_with (go_at_call 45; refine (l12Txn_any _ _).mono ?_; rintro e w' ⟨rfl, rfl⟩)
          go_region_held3 (fun w' => w'.cell? ⟨g, 0, none⟩ = some (.slice A1 4 c1) ∧ w'.cell? ⟨g, 1, none⟩ = some (.slice A2 4 c2) ∧ w'.cell? ⟨b, o + k * 3, none⟩ = some (.int .i64 rs[k].kind) ∧ w'.cell? ⟨b, o + k * 3 + 1, none⟩ = some (.int .i64 rs[k].txn) ∧ w'.cell? ⟨b, o + k * 3 + 2, none⟩ = some (.slice rs[k].A rs[k].n rs[k].c)) (go_keep)
            (first
          | (go_at_call 57; (with_reducible refine (l21Step_no (some ⟨b, o, none⟩) A1 A2 k c c1 c2 (rs.take k) s rs[k] wr.drew lo hk63 hlod HRD.out HSD.out HIND.out HINV.out HTX.out HOK.out).mono ?_); rintro e w4 ⟨A3, c3, A4, c4, hS4, hb4, rfl⟩; have hbc := bcell hb4; have k0 : w4.cell? ⟨g, 0, none⟩ = some (.slice A1 4 c1) := (hbc.1 g 0 hgs).trans g0; have k1 : w4.cell? ⟨g, 1, none⟩ = some (.slice A2 4 c2) := (hbc.1 g 1 hgs).trans g1; have k2 : w4.cell? ⟨b, o + k * 3, none⟩ = some (.int .i64 rs[k].kind) := (hbc.1 b _ hblt).trans hc0; have k3 : w4.cell? ⟨b, o + k * 3 + 1, none⟩ = some (.int .i64 rs[k].txn) := (hbc.1 b _ hblt).trans hc1; have k4 : w4.cell? ⟨b, o + k * 3 + 2, none⟩ = some (.slice rs[k].A rs[k].n rs[k].c) := (hbc.1 b _ hblt).trans hc2; have n0 := World.new_ne w4 _ k0; have n1 := World.new_ne w4 _ k1; have n2 := World.new_ne w4 _ k2; have n3 := World.new_ne w4 _ k3; have n4 := World.new_ne w4 _ k4; have HG4 : Hid (w4.heap[g]? = some (.cells #[.slice A1 4 c1, .slice A2 4 c2] 30 (0, 0))) := (hb4.block g hgs).trans HG.out; have HR4 : Hid (w4.heap[w.heap.size]? = some (.cells #[.slice none 0 0, .slice none 0 0] 30 (0, 0))) := (hb4.block _ hrsz).trans HR0.out; have HB4 : Hid (Below w.heap.size w w4) := (HB.out.drew).trans (hb4.mono hwsz); have HS4 := Lib.hid hS4; have hsz4 : wr.heap.size ≤ w4.heap.size := id hb4.size; have l0 : w.heap.size < w4.heap.size := Nat.lt_of_lt_of_le hrsz hsz4; have l1 : g < w4.heap.size := Nat.lt_of_lt_of_le hgs hsz4; have l2 : b < w4.heap.size := Nat.lt_of_lt_of_le hblt hsz4; have HSO4 := Lib.hid (HSD.out.bel hb4); obtain ⟨y0, y1, y2, y3⟩ := ret_agg HR4.out; obtain ⟨z0, z1, z2, z3⟩ := ret_agg HG4.out; have n5 := World.new_ne w4 _ y0; have n6 := World.new_ne w4 _ y1; clear hS4 hb4 hbc)
          | (go_at_call 57; (with_reducible refine (l21Step_no (some ⟨b, o, none⟩) A1 A2 k c c1 c2 (rs.take k) s rs[k] ((wr.alloc (.cells #[.slice none 0 0, .slice none 0 0] 30)).drew) lo hk63 hlod1 HRD1.out HSD1.out HIND1.out HINV.out HTX.out HOK.out).mono ?_); rintro e w4 ⟨A3, c3, A4, c4, hS4, hb4, rfl⟩; have hbc := bcell hb4; have k0 : w4.cell? ⟨g, 0, none⟩ = some (.slice A1 4 c1) := (hbc.1 g 0 hgs1).trans HC1.out.1; have k1 : w4.cell? ⟨g, 1, none⟩ = some (.slice A2 4 c2) := (hbc.1 g 1 hgs1).trans HC1.out.2.1; have k2 : w4.cell? ⟨b, o + k * 3, none⟩ = some (.int .i64 rs[k].kind) := (hbc.1 b _ hblt1).trans HC1.out.2.2.1; have k3 : w4.cell? ⟨b, o + k * 3 + 1, none⟩ = some (.int .i64 rs[k].txn) := (hbc.1 b _ hblt1).trans HC1.out.2.2.2.1; have k4 : w4.cell? ⟨b, o + k * 3 + 2, none⟩ = some (.slice rs[k].A rs[k].n rs[k].c) := (hbc.1 b _ hblt1).trans HC1.out.2.2.2.2; have n0 := World.new_ne w4 _ k0; have n1 := World.new_ne w4 _ k1; have n2 := World.new_ne w4 _ k2; have n3 := World.new_ne w4 _ k3; have n4 := World.new_ne w4 _ k4; have HG4 : Hid (w4.heap[g]? = some (.cells #[.slice A1 4 c1, .slice A2 4 c2] 30 (0, 0))) := (hb4.block g hgs1).trans HG1.out; have HR4 : Hid (w4.heap[w.heap.size]? = some (.cells #[.slice none 0 0, .slice none 0 0] 30 (0, 0))) := (hb4.block _ hrsz1).trans HR1.out; have HB4 : Hid (Below w.heap.size w w4) := HB1.out.trans (hb4.mono hwsz1); have HS4 := Lib.hid hS4; have hsz4 : wr.heap.size ≤ w4.heap.size := (fun h => Nat.le_trans hle1 h) hb4.size; have l0 : w.heap.size < w4.heap.size := Nat.lt_of_lt_of_le hrsz hsz4; have l1 : g < w4.heap.size := Nat.lt_of_lt_of_le hgs hsz4; have l2 : b < w4.heap.size := Nat.lt_of_lt_of_le hblt hsz4; have HSO4 := Lib.hid (HSD1.out.bel hb4); have kx := (hb4.block wr.heap.size hlt1).trans HX1.out; obtain ⟨x0, x1, x2, x3⟩ := ret_agg kx; have HX4 := Lib.hid kx; clear kx; obtain ⟨y0, y1, y2, y3⟩ := ret_agg HR4.out; obtain ⟨z0, z1, z2, z3⟩ := ret_agg HG4.out; have n5 := World.new_ne w4 _ y0; have n6 := World.new_ne w4 _ y1; clear hS4 hb4 hbc))
          · go_wp2_with fail
            have hbel := ((HB4.out.setCell (p := ⟨w.heap.size, 0, none⟩) (by simp) (.slice A1 4 c1)).setCell (p := ⟨w.heap.size, 1, none⟩) (by simp) (.slice A2 4 c2)).alloc (by simpa [World.setCell] using Nat.le_of_lt l0) (.cells #[.slice A3 4 c3, .slice A4 4 c4] 30)
            refine bodyPost_ret (v := .tuple #[.agg #[.slice A1 4 c1, .slice A2 4 c2], .bool false]) (by simp [results, Try.results36, go_sem, y0, y1, l0]) rfl ?_
            rw [E1.out, E2.out]
            exact ⟨A1, c1, A2, c2, (StIn.put HSO4.out HR4.out _ _ _ _ _ _).1.alloc _, hbel, rfl⟩
          · go_wp2_with fail
            have hx := StIn.put HSO4.out HX4.out c3 A3 c4 A4 4 4
            have hne' : w.heap.size ≠ wr.heap.size := by omega
            have hR' : ((w4.setCell ⟨wr.heap.size, 0, none⟩ (.slice A3 4 c3)).setCell ⟨wr.heap.size, 1, none⟩ (.slice A4 4 c4)).heap[w.heap.size]? = some (.cells #[.slice none 0 0, .slice none 0 0] 30 (0, 0)) := (Below.heap_setCell _ _ _ _ hne').trans ((Below.heap_setCell _ _ _ _ hne').trans HR4.out)
            have hbel := (((HB4.out.setCell (p := ⟨wr.heap.size, 0, none⟩) hwsz (.slice A3 4 c3)).setCell (p := ⟨wr.heap.size, 1, none⟩) hwsz (.slice A4 4 c4)).setCell (p := ⟨w.heap.size, 0, none⟩) (by simp) (.slice A1 4 c1)).setCell (p := ⟨w.heap.size, 1, none⟩) (by simp) (.slice A2 4 c2)
            refine bodyPost_ret (v := .tuple #[.agg #[.slice A1 4 c1, .slice A2 4 c2], .bool false]) (by simp [results, Try.results36, go_sem, y0, y1, hne']) rfl ?_
            rw [E1.out, E2.out]
            exact ⟨A1, c1, A2, c2, (StIn.put hx.1 hR' _ _ _ _ _ _).1, hbel, rfl⟩
        · have HOK := Lib.hid hok
          clear hok
          go_wp2_with (go_at_call 45; refine (l12Txn_any _ _).mono ?_; rintro e w' ⟨rfl, rfl⟩)
          go_region_held3 (fun w' => w'.cell? ⟨g, 0, none⟩ = some (.slice A1 4 c1) ∧ w'.cell? ⟨g, 1, none⟩ = some (.slice A2 4 c2) ∧ w'.cell? ⟨b, o + k * 3, none⟩ = some (.int .i64 rs[k].kind) ∧ w'.cell? ⟨b, o + k * 3 + 1, none⟩ = some (.int .i64 rs[k].txn) ∧ w'.cell? ⟨b, o + k * 3 + 2, none⟩ = some (.slice rs[k].A rs[k].n rs[k].c)) (go_keep)
            (first
          | (go_at_call 57; (with_reducible refine (l21Step_yes (some ⟨b, o, none⟩) A1 A2 k c c1 c2 (rs.take k) s rs[k] wr.drew lo hk63 hlod HRD.out HSD.out HIND.out HINV.out HTX.out HOK.out).mono ?_); rintro e w4 ⟨A3, c3, A4, c4, hS4, hb4, rfl⟩; have hbc := bcell hb4; have k0 : w4.cell? ⟨g, 0, none⟩ = some (.slice A1 4 c1) := (hbc.1 g 0 hgs).trans g0; have k1 : w4.cell? ⟨g, 1, none⟩ = some (.slice A2 4 c2) := (hbc.1 g 1 hgs).trans g1; have k2 : w4.cell? ⟨b, o + k * 3, none⟩ = some (.int .i64 rs[k].kind) := (hbc.1 b _ hblt).trans hc0; have k3 : w4.cell? ⟨b, o + k * 3 + 1, none⟩ = some (.int .i64 rs[k].txn) := (hbc.1 b _ hblt).trans hc1; have k4 : w4.cell? ⟨b, o + k * 3 + 2, none⟩ = some (.slice rs[k].A rs[k].n rs[k].c) := (hbc.1 b _ hblt).trans hc2; have n0 := World.new_ne w4 _ k0; have n1 := World.new_ne w4 _ k1; have n2 := World.new_ne w4 _ k2; have n3 := World.new_ne w4 _ k3; have n4 := World.new_ne w4 _ k4; have HG4 : Hid (w4.heap[g]? = some (.cells #[.slice A1 4 c1, .slice A2 4 c2] 30 (0, 0))) := (hb4.block g hgs).trans HG.out; have HR4 : Hid (w4.heap[w.heap.size]? = some (.cells #[.slice none 0 0, .slice none 0 0] 30 (0, 0))) := (hb4.block _ hrsz).trans HR0.out; have HB4 : Hid (Below w.heap.size w w4) := (HB.out.drew).trans (hb4.mono hwsz); have HS4 := Lib.hid hS4; have hsz4 : wr.heap.size ≤ w4.heap.size := id hb4.size; have l0 : w.heap.size < w4.heap.size := Nat.lt_of_lt_of_le hrsz hsz4; have l1 : g < w4.heap.size := Nat.lt_of_lt_of_le hgs hsz4; have l2 : b < w4.heap.size := Nat.lt_of_lt_of_le hblt hsz4; have HSO4 := Lib.hid (HSD.out.bel hb4); obtain ⟨y0, y1, y2, y3⟩ := ret_agg HR4.out; obtain ⟨z0, z1, z2, z3⟩ := ret_agg HG4.out; have n5 := World.new_ne w4 _ y0; have n6 := World.new_ne w4 _ y1; clear hS4 hb4 hbc)
          | (go_at_call 57; (with_reducible refine (l21Step_yes (some ⟨b, o, none⟩) A1 A2 k c c1 c2 (rs.take k) s rs[k] ((wr.alloc (.cells #[.slice none 0 0, .slice none 0 0] 30)).drew) lo hk63 hlod1 HRD1.out HSD1.out HIND1.out HINV.out HTX.out HOK.out).mono ?_); rintro e w4 ⟨A3, c3, A4, c4, hS4, hb4, rfl⟩; have hbc := bcell hb4; have k0 : w4.cell? ⟨g, 0, none⟩ = some (.slice A1 4 c1) := (hbc.1 g 0 hgs1).trans HC1.out.1; have k1 : w4.cell? ⟨g, 1, none⟩ = some (.slice A2 4 c2) := (hbc.1 g 1 hgs1).trans HC1.out.2.1; have k2 : w4.cell? ⟨b, o + k * 3, none⟩ = some (.int .i64 rs[k].kind) := (hbc.1 b _ hblt1).trans HC1.out.2.2.1; have k3 : w4.cell? ⟨b, o + k * 3 + 1, none⟩ = some (.int .i64 rs[k].txn) := (hbc.1 b _ hblt1).trans HC1.out.2.2.2.1; have k4 : w4.cell? ⟨b, o + k * 3 + 2, none⟩ = some (.slice rs[k].A rs[k].n rs[k].c) := (hbc.1 b _ hblt1).trans HC1.out.2.2.2.2; have n0 := World.new_ne w4 _ k0; have n1 := World.new_ne w4 _ k1; have n2 := World.new_ne w4 _ k2; have n3 := World.new_ne w4 _ k3; have n4 := World.new_ne w4 _ k4; have HG4 : Hid (w4.heap[g]? = some (.cells #[.slice A1 4 c1, .slice A2 4 c2] 30 (0, 0))) := (hb4.block g hgs1).trans HG1.out; have HR4 : Hid (w4.heap[w.heap.size]? = some (.cells #[.slice none 0 0, .slice none 0 0] 30 (0, 0))) := (hb4.block _ hrsz1).trans HR1.out; have HB4 : Hid (Below w.heap.size w w4) := HB1.out.trans (hb4.mono hwsz1); have HS4 := Lib.hid hS4; have hsz4 : wr.heap.size ≤ w4.heap.size := (fun h => Nat.le_trans hle1 h) hb4.size; have l0 : w.heap.size < w4.heap.size := Nat.lt_of_lt_of_le hrsz hsz4; have l1 : g < w4.heap.size := Nat.lt_of_lt_of_le hgs hsz4; have l2 : b < w4.heap.size := Nat.lt_of_lt_of_le hblt hsz4; have HSO4 := Lib.hid (HSD1.out.bel hb4); have kx := (hb4.block wr.heap.size hlt1).trans HX1.out; obtain ⟨x0, x1, x2, x3⟩ := ret_agg kx; have HX4 := Lib.hid kx; clear kx; obtain ⟨y0, y1, y2, y3⟩ := ret_agg HR4.out; obtain ⟨z0, z1, z2, z3⟩ := ret_agg HG4.out; have n5 := World.new_ne w4 _ y0; have n6 := World.new_ne w4 _ y1; clear hS4 hb4 hbc))
          · go_wp2_with fail
            have hne' : w.heap.size ≠ g := by omega
            have hp := StIn.put HS4.out HG4.out c3 A3 c4 A4 4 4
            refine ⟨⟨k + 1, _, A3, A4, c3, c4, by omega, by go_num, by rw [abs_take_succ hll]; exact HH.out.snoc HOK.out, ?_, hp.1.alloc _, ?_, ?_⟩, by simp [intOf]; omega⟩
            · exact (Below.heap_alloc _ _ _ (by simpa [World.setCell] using l1)).trans hp.2
            · exact (Below.heap_alloc _ _ _ (by simpa [World.setCell] using l0)).trans ((Below.heap_setCell _ _ _ _ hne').trans ((Below.heap_setCell _ _ _ _ hne').trans HR4.out))
            · exact ((HB4.out.setCell (by show w.heap.size ≤ g; omega) _).setCell (by show w.heap.size ≤ g; omega) _).alloc (by simpa [World.setCell] using Nat.le_of_lt l0) _
          · go_wp2_with fail
            have hne' : w.heap.size ≠ g := by omega
            have hnx : w.heap.size ≠ wr.heap.size := by omega
            have hx := StIn.put HS4.out HX4.out c3 A3 c4 A4 4 4
            have hg' : ((w4.setCell ⟨wr.heap.size, 0, none⟩ (.slice A3 4 c3)).setCell ⟨wr.heap.size, 1, none⟩ (.slice A4 4 c4)).heap[g]? = some (.cells #[.slice A1 4 c1, .slice A2 4 c2] 30 (0, 0)) := (Below.heap_setCell _ _ _ _ gx).trans ((Below.heap_setCell _ _ _ _ gx).trans HG4.out)
            have hp := StIn.put hx.1 hg' c3 A3 c4 A4 4 4
            refine ⟨⟨k + 1, _, A3, A4, c3, c4, by omega, by go_num, by rw [abs_take_succ hll]; exact HH.out.snoc HOK.out, hp.2, hp.1, ?_, ?_⟩, by simp [intOf]; omega⟩
            · exact (Below.heap_setCell _ _ _ _ hne').trans ((Below.heap_setCell _ _ _ _ hne').trans ((Below.heap_setCell _ _ _ _ hnx).trans ((Below.heap_setCell _ _ _ _ hnx).trans HR4.out)))
            · exact (((HB4.out.setCell (by exact hwsz) _).setCell (by exact hwsz) _).setCell (by show w.heap.size ≤ g; omega) _).setCell (by show w.heap.size ≤ g; omega) _
    · have hkn : k = n := by omega
      subst hkn
      have hfa := HH.out
      rw [List.take_of_length_le (by rw [HRW.out.1.1]; exact Nat.le_refl _)] at hfa
      have hgood := recov_good hfa
      rw [HRW.out.1.1] at hgood
      have E1 := Lib.hid hgood.1
      have E2 := Lib.hid hgood.2
      clear hgood hfa
      go_wp2_with fail
      have hbel := (HB.out.setCell (p := ⟨w.heap.size, 0, none⟩) (by simp) (.slice A1 4 c1)).setCell (p := ⟨w.heap.size, 1, none⟩) (by simp) (.slice A2 4 c2)
      refine bodyPost_ret (v := .tuple #[.agg #[.slice A1 4 c1, .slice A2 4 c2], .bool (decide ((k : Int) ≤ 30))]) (by simp [results, Try.results36, go_sem, r0, r1]) rfl ?_
      rw [E1.out, E2.out]
      exact ⟨A1, c1, A2, c2, (HS.out.put HR0.out _ _ _ _ _ _).1, hbel, ret_tupb (by simp; omega)⟩

end Go.Proofs.Ytgnhanbdfohjaaa
