/-
  The walk of ShardPrepare of the reference. Condition: lengths in reach.
-/
import Derived.Test.YtgnhanbdfohjaaaSpecK
namespace Go.Proofs.Ytgnhanbdfohjaaa
set_option linter.unusedVariables false
set_option linter.unusedSimpArgs false
open Go.RowKit
attribute [local go_sem ↓] Go.wp_at_zero Go.wp_at_succ

/-- what ShardPrepare leaves, and what it answers -/
def prepL (rs : List Rec) (t : Int) (us : List Upd) : List Rec :=
  if shardB rs = true ∧ txB t = true ∧ updsB us = true then (if askK rs t = 0 then (if shardB (rs ++ [⟨1, t, us⟩]) = true then rs ++ [⟨1, t, us⟩] else addL rs ⟨3, t, []⟩) else rs) else []
def prepB (rs : List Rec) (t : Int) (us : List Upd) : Bool :=
  shardB rs && txB t && updsB us && (if askK rs t = 0 then shardB (rs ++ [⟨1, t, us⟩]) else decide (askK rs t = 1))
theorem prep_no {rs : List Rec} {t : Int} {us : List Upd} (h : shardB rs = false ∨ txB t = false ∨ updsB us = false) : prepL rs t us = [] ∧ prepB rs t us = false := by
  unfold prepL prepB
  rcases h with h | h | h <;> rw [h] <;> simp
theorem prep_known {rs : List Rec} {t : Int} {us : List Upd} (h1 : shardB rs = true) (h2 : txB t = true) (h3 : updsB us = true) (h4 : ¬ askK rs t = 0) : prepL rs t us = rs ∧ prepB rs t us = decide (askK rs t = 1) := by
  unfold prepL prepB
  rw [if_pos ⟨h1, h2, h3⟩, if_neg h4, h1, h2, h3, if_neg h4]; simp
theorem prep_yes {rs : List Rec} {t : Int} {us : List Upd} (h1 : shardB rs = true) (h2 : txB t = true) (h3 : updsB us = true) (h4 : askK rs t = 0) (h5 : shardB (rs ++ [⟨1, t, us⟩]) = true) : prepL rs t us = addL rs ⟨1, t, us⟩ ∧ prepB rs t us = true := by
  unfold prepL prepB
  rw [if_pos ⟨h1, h2, h3⟩, if_pos h4, if_pos h5, h1, h2, h3, if_pos h4, h5, addL_yes h5]; simp
theorem prep_vno {rs : List Rec} {t : Int} {us : List Upd} (h1 : shardB rs = true) (h2 : txB t = true) (h3 : updsB us = true) (h4 : askK rs t = 0) (h5 : shardB (rs ++ [⟨1, t, us⟩]) = false) : prepL rs t us = addL rs ⟨3, t, []⟩ ∧ prepB rs t us = false := by
  unfold prepL prepB
  rw [if_pos ⟨h1, h2, h3⟩, if_pos h4, h5, h1, h2, h3, if_pos h4]; simp

set_option linter.unusedVariables false in
set_option maxRecDepth 100000 in
set_option maxHeartbeats 3200000 in
theorem specPrepare_any (A : Option Addr) (n c : Nat) (rs : List RecC) (t : Int) (B : Option Addr) (m d : Nat) (us : List Upd) (w : World) (lo : Nat) (hm : m ≤ 1000) (hmd : m ≤ d) (hd : d ≤ 9223372036854775807) (hU : FlH cu w lo B m us) (hn : n ≤ 999) (hnc : n ≤ c) (hc : c ≤ 9223372036854775807) (hs : ∀ r ∈ rs, r.n ≤ 1000) (hlo : lo ≤ w.heap.size) (h : Recs w lo A n rs) :
    Calls Try.prog 53 #[.agg #[.slice A n c], .int .i64 t, .slice B m d] w fun e w' => ShRetB (prepL (abs rs) t us) (prepB (abs rs) t us) w.heap.size w e w' := by
  have HR := Lib.hid h
  have HSH := Lib.hid hs
  have HU := Lib.hid hU
  have hm63 : m ≤ 9223372036854775807 := Nat.le_trans hmd hd
  clear hU
  have hX : ((w.alloc (.cells #[.slice A n c] 25)).alloc (.cells #[.slice none 0 0] 25)).heap[w.heap.size]? = some (.cells #[.slice A n c] 25 (0, 0)) := (Below.heap_alloc _ _ _ (by simp)).trans (heap_alloc_new w _)
  have hRR : ((w.alloc (.cells #[.slice A n c] 25)).alloc (.cells #[.slice none 0 0] 25)).heap[w.heap.size + 1]? = some (.cells #[.slice none 0 0] 25 (0, 0)) := by
    simpa using heap_alloc_new (w.alloc (.cells #[.slice A n c] 25)) (.cells #[.slice none 0 0] 25)
  have hb0 : Below w.heap.size w ((w.alloc (.cells #[.slice A n c] 25)).alloc (.cells #[.slice none 0 0] 25)) := ((Below.refl _ _).alloc (Nat.le_refl _) _).alloc (by simp) _
  have HX := Lib.hid hX
  have HRR := Lib.hid hRR
  have HB0 := Lib.hid hb0
  have hn63 : n ≤ 9223372036854775807 := Nat.le_trans hnc hc
  have hlo2 : lo ≤ ((w.alloc (.cells #[.slice A n c] 25)).alloc (.cells #[.slice none 0 0] 25)).heap.size := by simp; omega
  clear h hs hX hRR hb0
  go_enter Try.func53, Try.ntmps53
  go_wp2_with fail
  refine (specValid_any A n c rs _ lo hnc hc hlo2 ((HR.out.alloc _).alloc _)).mono ?_
  rintro e w1 ⟨rfl, hb1⟩
  have hx1 : w1.heap[w.heap.size]? = some (.cells #[.slice A n c] 25 (0, 0)) := (hb1.block _ (heap_lt HX.out)).trans HX.out
  have hr1 : w1.heap[w.heap.size + 1]? = some (.cells #[.slice none 0 0] 25 (0, 0)) := (hb1.block _ (heap_lt HRR.out)).trans HRR.out
  have HX1 := Lib.hid hx1
  have HR1 := Lib.hid hr1
  have HB1 : Hid (Below w.heap.size w w1) := HB0.out.trans (hb1.mono HB0.out.size)
  have z0 : w1.cell? ⟨w.heap.size, 0, none⟩ = some (.slice A n c) := cell_zero hx1
  have z1 : w1.cell? ⟨w.heap.size + 1, 0, none⟩ = some (.slice none 0 0) := cell_zero hr1
  have z2 : w1.frozen? ⟨w.heap.size + 1, 0, none⟩ = false := frozen_of_row _ _ _ _ _ hr1
  have HRW := Lib.hid (HR.out.bel HB1.out)
  have HUW := Lib.hid (HU.out.bel HB1.out)
  clear hb1 hx1 hr1 HX HRR HB0
  rcases hv : shardB (abs rs) with _ | _
  · have E := prep_no (t := t) (us := us) (.inl hv)
    have E1 := Lib.hid E.1
    have E2 := Lib.hid E.2
    clear E
    go_wp2_with fail
    refine bodyPost_ret (v := .tuple #[.agg #[.slice none 0 0], .bool false]) (by simp [results, Try.results53, go_sem, z1]) rfl ⟨.slice none 0 0, 0, [], ?_, RecOwn.nil (World.ownsRow_nil _ _ _ _), HB1.out.setCell (by simp) _, ret_tupb E2.out.symm⟩
    rw [E1.out]; rfl
  · rcases ht : txB t with _ | _
    · have E := prep_no (rs := abs rs) (us := us) (.inr (.inl ht))
      have E1 := Lib.hid E.1
      have E2 := Lib.hid E.2
      clear E
      go_wp2_with (go_at_call 45; refine (l12Txn_any _ _).mono ?_; rintro e w' ⟨rfl, rfl⟩)
      refine bodyPost_ret (v := .tuple #[.agg #[.slice none 0 0], .bool false]) (by simp [results, Try.results53, go_sem, z1]) rfl ⟨.slice none 0 0, 0, [], ?_, RecOwn.nil (World.ownsRow_nil _ _ _ _), HB1.out.setCell (by simp) _, ret_tupb E2.out.symm⟩
      rw [E1.out]; rfl
    · have HV := Lib.hid hv
      have HT := Lib.hid ht
      go_wp2_with (go_at_call 45; refine (l12Txn_any _ _).mono ?_; rintro e w' ⟨rfl, rfl⟩)
      refine (specUpds_any B m d us w1 lo _ (Nat.le_refl _) hm63 HUW.out).mono ?_
      rintro e w2 ⟨rfl, hb2⟩
      have hx2 : w2.heap[w.heap.size]? = some (.cells #[.slice A n c] 25 (0, 0)) := (hb2.block _ (heap_lt HX1.out)).trans HX1.out
      have hr2 : w2.heap[w.heap.size + 1]? = some (.cells #[.slice none 0 0] 25 (0, 0)) := (hb2.block _ (heap_lt HR1.out)).trans HR1.out
      have HX2 := Lib.hid hx2
      have HR2 := Lib.hid hr2
      have HB2 : Hid (Below w.heap.size w w2) := HB1.out.trans (hb2.mono HB1.out.size)
      have y0 : w2.cell? ⟨w.heap.size, 0, none⟩ = some (.slice A n c) := cell_zero hx2
      have y1 : w2.cell? ⟨w.heap.size + 1, 0, none⟩ = some (.slice none 0 0) := cell_zero hr2
      have y2 : w2.frozen? ⟨w.heap.size + 1, 0, none⟩ = false := frozen_of_row _ _ _ _ _ hr2
      have HRW2 := Lib.hid (HR.out.bel HB2.out)
      have HUW2 := Lib.hid (HU.out.bel HB2.out)
      have hws2 := HB2.out.size
      clear hb2 hx2 hr2 z0 z1 z2
      rcases hu : updsB us with _ | _
      · have E := prep_no (rs := abs rs) (t := t) (.inr (.inr hu))
        have E1 := Lib.hid E.1
        have E2 := Lib.hid E.2
        clear E
        go_wp2_with fail
        refine bodyPost_ret (v := .tuple #[.agg #[.slice none 0 0], .bool false]) (by simp [results, Try.results53, go_sem, y1]) rfl ⟨.slice none 0 0, 0, [], ?_, RecOwn.nil (World.ownsRow_nil _ _ _ _), HB2.out.setCell (by simp) _, ret_tupb E2.out.symm⟩
        rw [E1.out]; rfl
      · rcases Decidable.em (askK (abs rs) t = 0) with hk | hk
        · have hkb : (askK (abs rs) t != 0) = false := by simpa using hk
          have HK := Lib.hid hk
          have HUU := Lib.hid hu
          clear hk
          go_wp2_with (go_at_call 46; refine (l21Ask_any A n c rs t _ lo hn63 HRW2.out).mono ?_; rintro e w' ⟨rfl, rfl⟩)
          refine (l21Add_any A n c rs ⟨1, t, B, m, d, us⟩ _ lo lo hn HSH.out hm HRW2.out ⟨HUW2.out, hmd, hd⟩).mono ?_
          rintro e w8 ⟨v8, n8, rs8, hab8, hro8, hb8, rfl⟩
          have hx8 : w8.heap[w.heap.size]? = some (.cells #[.slice A n c] 25 (0, 0)) := (hb8.block _ (heap_lt HX2.out)).trans HX2.out
          have hr8 : w8.heap[w.heap.size + 1]? = some (.cells #[.slice none 0 0] 25 (0, 0)) := (hb8.block _ (heap_lt HR2.out)).trans HR2.out
          have x0 : w8.cell? ⟨w.heap.size, 0, none⟩ = some (.slice A n c) := cell_zero hx8
          have x1 : w8.cell? ⟨w.heap.size + 1, 0, none⟩ = some (.slice none 0 0) := cell_zero hr8
          have x2 : w8.frozen? ⟨w.heap.size + 1, 0, none⟩ = false := frozen_of_row _ _ _ _ _ hr8
          have hl8 : w.heap.size + 1 < w8.heap.size := heap_lt hr8
          have hl08 : w.heap.size < w8.heap.size := by omega
          have hne8 : ¬ (w8.heap.size = w.heap.size + 1) := by omega
          have hne80 : ¬ (w.heap.size + 1 = w8.heap.size) := by omega
          obtain ⟨A8, c8, rfl, -, -, -⟩ := hro8.recs
          have HR8 := Lib.hid hr8
          have HRO8 := Lib.hid (hro8.low (base' := w.heap.size) HB2.out.size)
          have HAB8 := Lib.hid hab8
          have HB8 : Hid (Below w.heap.size w w8) := HB2.out.trans (hb8.mono HB2.out.size)
          clear hro8 hab8 hb8 hr8 hx8
          rcases h5 : shardB (abs rs ++ [(⟨1, t, us⟩ : Rec)]) with _ | _
          · have E := prep_vno HV.out HT.out HUU.out HK.out h5
            have E1 := Lib.hid E.1
            have E2 := Lib.hid E.2
            have h5' : shardB (abs rs ++ [RecC.ab ⟨1, t, B, m, d, us⟩]) = false := h5
            clear E h5
            go_wp2_with fail
            have hx9 : (w8.alloc (.cells #[.slice A8 n8 c8] 25)).heap[w.heap.size + 1]? = some (.cells #[.slice none 0 0] 25 (0, 0)) := (Below.heap_alloc _ _ _ hl8).trans HR8.out
            have hg9 := heap_alloc_new w8 (.cells #[.slice A8 n8 c8] 25)
            have HRW9 := Lib.hid ((HR.out.bel HB8.out).alloc (.cells #[.slice A8 n8 c8] 25))
            have HX9 := Lib.hid hx9
            have HG9 := Lib.hid hg9
            have HB9 : Hid (Below w.heap.size w (w8.alloc (.cells #[.slice A8 n8 c8] 25))) := HB8.out.alloc (by omega) _
            clear hx9 hg9
            refine (l21Add_any A n c rs ⟨3, t, none, 0, 0, []⟩ _ lo w.heap.size hn HSH.out (by simp) HRW9.out (recNil _ _ _ _)).mono ?_
            rintro e w10 ⟨v10, n10, rs10, hab10, hro10, hb10, rfl⟩
            have hr10 : w10.heap[w.heap.size + 1]? = some (.cells #[.slice none 0 0] 25 (0, 0)) := (hb10.block _ (heap_lt HX9.out)).trans HX9.out
            have hg10 : w10.heap[w8.heap.size]? = some (.cells #[.slice A8 n8 c8] 25 (0, 0)) := (hb10.block _ (heap_lt HG9.out)).trans HG9.out
            have u1 : w10.cell? ⟨w.heap.size + 1, 0, none⟩ = some (.slice none 0 0) := cell_zero hr10
            have u2 : w10.frozen? ⟨w.heap.size + 1, 0, none⟩ = false := frozen_of_row _ _ _ _ _ hr10
            have u3 : w10.cell? ⟨w8.heap.size, 0, none⟩ = some (.slice A8 n8 c8) := cell_zero hg10
            have u4 : w10.frozen? ⟨w8.heap.size, 0, none⟩ = false := frozen_of_row _ _ _ _ _ hg10
            obtain ⟨A10, c10, rfl, -, -, -⟩ := hro10.recs
            have hro11 := (hro10.low (base' := w.heap.size) HB9.out.size).put hg10 (by decide) (shard_no (by simp)) 0 (.slice A10 n10 c10)
            have hr11 : (w10.setCell ⟨w8.heap.size, 0, none⟩ (.slice A10 n10 c10)).heap[w.heap.size + 1]? = some (.cells #[.slice none 0 0] 25 (0, 0)) := (Below.heap_setCell _ _ _ _ (by simp; omega)).trans hr10
            have HRO12 := Lib.hid (hro11.put hr11 (by decide) (shard_no (by simp)) 0 (.slice A10 n10 c10))
            have HAB10 := Lib.hid hab10
            have HB10 : Hid (Below w.heap.size w w10) := HB9.out.trans (hb10.mono HB9.out.size)
            clear hro10 hab10 hb10 hr10 hg10 hro11 hr11
            go_wp2_with fail
            refine bodyPost_ret (v := .tuple #[.agg #[.slice A10 n10 c10], .bool false]) (by simp [results, Try.results53, go_sem, u1, hne8, hne80]) rfl ⟨_, n10, rs10, ?_, HRO12.out, (HB10.out.setCell (p := ⟨w8.heap.size, 0, none⟩) (by simp; omega) _).setCell (p := ⟨w.heap.size + 1, 0, none⟩) (by simp) _, ret_tupb E2.out.symm⟩
            rw [E1.out]; exact HAB10.out
          · have E := prep_yes HV.out HT.out HUU.out HK.out h5
            have E1 := Lib.hid E.1
            have E2 := Lib.hid E.2
            have h5' : shardB (abs rs ++ [RecC.ab ⟨1, t, B, m, d, us⟩]) = true := h5
            clear E h5
            go_wp2_with fail
            refine bodyPost_ret (v := .tuple #[.agg #[.slice A8 n8 c8], .bool true]) (by simp [results, Try.results53, go_sem, x1, hl8]) rfl ⟨_, n8, rs8, ?_, (HRO8.out.put HR8.out (by decide) (shard_no (by simp)) 0 (.slice A8 n8 c8)).fresh ((Below.refl _ _).alloc (Nat.le_refl _) _), (HB8.out.setCell (p := ⟨w.heap.size + 1, 0, none⟩) (by simp) _).alloc (by simp; omega) _, ret_tupb E2.out.symm⟩
            rw [E1.out]; exact HAB8.out
        · have hkb : (askK (abs rs) t != 0) = true := by simpa using hk
          have E := prep_known HV.out HT.out hu hk
          have E1 := Lib.hid E.1
          have E2 := Lib.hid E.2
          clear E hk
          go_wp2_with (go_at_call 46; refine (l21Ask_any A n c rs t _ lo hn63 HRW2.out).mono ?_; rintro e w' ⟨rfl, rfl⟩)
          have HRD : Hid (Recs w2.drew lo A n rs) := HRW2.out.drewN 1
          have hn1k : n ≤ 1000 := by omega
          go_region_held3 (fun w' => w'.cell? ⟨w.heap.size, 0, none⟩ = some (.slice A n c)) (go_keep)
            (first
              | (go_at_call 47; (with_reducible refine (l21Copy_any A n c rs _ lo hn1k HSH.out HRD.out).mono ?_); rintro e w8 ⟨v8, n8, rs8, hab8, hro8, hb8, rfl⟩; have hb8' : Below w2.heap.size w2 w8 := ⟨hb8.os, hb8.tape, hb8.output, hb8.size, hb8.block⟩; have hx8 : w8.heap[w.heap.size]? = some (.cells #[.slice A n c] 25 (0, 0)) := (hb8'.block _ (heap_lt HX2.out)).trans HX2.out; have hr8 : w8.heap[w.heap.size + 1]? = some (.cells #[.slice none 0 0] 25 (0, 0)) := (hb8'.block _ (heap_lt HR2.out)).trans HR2.out; have x0 : w8.cell? ⟨w.heap.size, 0, none⟩ = some (.slice A n c) := cell_zero hx8; have x1 : w8.cell? ⟨w.heap.size + 1, 0, none⟩ = some (.slice none 0 0) := cell_zero hr8; have x2 : w8.frozen? ⟨w.heap.size + 1, 0, none⟩ = false := frozen_of_row _ _ _ _ _ hr8; obtain ⟨A8, c8, rfl, -, -, -⟩ := hro8.recs; have HRO8 := Lib.hid ((hro8.low (base' := w.heap.size) (by exact HB2.out.size)).put hr8 (by decide) (shard_no (by simp)) 0 (.slice A8 n8 c8)); have HAB8 := Lib.hid hab8; have HB8 : Hid (Below w.heap.size w w8) := HB2.out.trans (hb8'.mono HB2.out.size); have HRW8 := Lib.hid (HRW2.out.bel hb8'); clear hro8 hab8 hb8 hb8' hr8 hx8)
              | (go_at_call 46; (with_reducible refine (l21Ask_any A n c rs t w8 lo hn63 HRW8.out).mono ?_); rintro e w' ⟨rfl, rfl⟩))
          go_wp2_with fail
          refine bodyPost_ret (v := .tuple #[.agg #[.slice A8 n8 c8], .bool (askK (abs rs) t == 1)]) (by simp [results, Try.results53, go_sem, x1]) rfl ⟨_, n8, rs8, ?_, HRO8.out, HB8.out.setCell (by simp) _, ret_tupb (by rw [E2.out]; rfl)⟩
          rw [E1.out]; exact HAB8.out

end Go.Proofs.Ytgnhanbdfohjaaa
