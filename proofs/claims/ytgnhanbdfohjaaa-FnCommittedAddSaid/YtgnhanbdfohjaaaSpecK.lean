/-
  The walk of ShardDecide of the reference. Condition: lengths in reach.
-/
import Derived.Test.YtgnhanbdfohjaaaSpecJ
namespace Go.Proofs.Ytgnhanbdfohjaaa
set_option linter.unusedVariables false
set_option linter.unusedSimpArgs false
open Go.RowKit
attribute [local go_sem ↓] Go.wp_at_zero Go.wp_at_succ

def kindOf (commit : Bool) : Int := if commit = true then 2 else 3
/-- what ShardDecide leaves, and what it answers -/
def decL (rs : List Rec) (t : Int) (commit : Bool) : List Rec :=
  if shardB rs = true ∧ txB t = true then (if askK rs t = kindOf commit then rs else addL rs ⟨kindOf commit, t, []⟩) else []
def decB (rs : List Rec) (t : Int) (commit : Bool) : Bool :=
  shardB rs && txB t && (decide (askK rs t = kindOf commit) || shardB (rs ++ [⟨kindOf commit, t, []⟩]))
theorem dec_no {rs : List Rec} {t : Int} (commit : Bool) (h : shardB rs = false ∨ txB t = false) : decL rs t commit = [] ∧ decB rs t commit = false := by
  unfold decL decB
  rcases h with h | h <;> rw [h] <;> simp
theorem dec_known {rs : List Rec} {t : Int} {commit : Bool} (h1 : shardB rs = true) (h2 : txB t = true) (h3 : askK rs t = kindOf commit) : decL rs t commit = rs ∧ decB rs t commit = true := by
  unfold decL decB
  rw [if_pos ⟨h1, h2⟩, if_pos h3, h1, h2]; simp [h3]
theorem dec_new {rs : List Rec} {t : Int} {commit : Bool} (h1 : shardB rs = true) (h2 : txB t = true) (h3 : ¬ askK rs t = kindOf commit) : decL rs t commit = addL rs ⟨kindOf commit, t, []⟩ ∧ decB rs t commit = shardB (rs ++ [⟨kindOf commit, t, []⟩]) := by
  unfold decL decB
  rw [if_pos ⟨h1, h2⟩, if_neg h3, h1, h2]; simp [h3]
theorem recNil (w : World) (lo : Nat) (k t : Int) : RecIn w lo ⟨k, t, none, 0, 0, []⟩ := ⟨FlH.nil _ _ _ _, Nat.le_refl _, by show 0 ≤ 9223372036854775807; omega⟩

set_option linter.unusedVariables false in
set_option maxRecDepth 100000 in
set_option maxHeartbeats 3200000 in
theorem specDecide_any (commit : Bool) (A : Option Addr) (n c : Nat) (rs : List RecC) (t : Int) (w : World) (lo : Nat) (hn : n ≤ 999) (hnc : n ≤ c) (hc : c ≤ 9223372036854775807) (hs : ∀ r ∈ rs, r.n ≤ 1000) (hlo : lo ≤ w.heap.size) (h : Recs w lo A n rs) :
    Calls Try.prog 29 #[.agg #[.slice A n c], .int .i64 t, .bool commit] w fun e w' => ShRetB (decL (abs rs) t commit) (decB (abs rs) t commit) w.heap.size w e w' := by
  have HR := Lib.hid h
  have HSH := Lib.hid hs
  have hX : ((w.alloc (.cells #[.slice A n c] 25)).alloc (.cells #[.slice none 0 0] 25)).heap[w.heap.size]? = some (.cells #[.slice A n c] 25 (0, 0)) := (Below.heap_alloc _ _ _ (by simp)).trans (heap_alloc_new w _)
  have hRR : ((w.alloc (.cells #[.slice A n c] 25)).alloc (.cells #[.slice none 0 0] 25)).heap[w.heap.size + 1]? = some (.cells #[.slice none 0 0] 25 (0, 0)) := by
    simpa using heap_alloc_new (w.alloc (.cells #[.slice A n c] 25)) (.cells #[.slice none 0 0] 25)
  have hb0 : Below w.heap.size w ((w.alloc (.cells #[.slice A n c] 25)).alloc (.cells #[.slice none 0 0] 25)) := ((Below.refl _ _).alloc (Nat.le_refl _) _).alloc (by simp) _
  have HX := Lib.hid hX
  have HRR := Lib.hid hRR
  have HB0 := Lib.hid hb0
  have hn63 : n ≤ 9223372036854775807 := Nat.le_trans hnc hc
  have hlo2 : lo ≤ ((w.alloc (.cells #[.slice A n c] 25)).alloc (.cells #[.slice none 0 0] 25)).heap.size := by simp; omega
  clear h hs hX hRR hb0
  go_enter Try.func29, Try.ntmps29
  go_wp2_with fail
  refine (specValid_any A n c rs _ lo hnc hc hlo2 ((HR.out.alloc _).alloc _)).mono ?_
  rintro e w1 ⟨rfl, hb1⟩
  have hx1 : w1.heap[w.heap.size]? = some (.cells #[.slice A n c] 25 (0, 0)) := (hb1.block _ (heap_lt HX.out)).trans HX.out
  have hr1 : w1.heap[w.heap.size + 1]? = some (.cells #[.slice none 0 0] 25 (0, 0)) := (hb1.block _ (heap_lt HRR.out)).trans HRR.out
  have HX1 := Lib.hid hx1
  have HR1 := Lib.hid hr1
  have HB1 : Hid (Below w.heap.size w w1) := HB0.out.trans (hb1.mono HB0.out.size)
  have z0 : w1.cell? ⟨w.heap.size, 0, none⟩ = some (.slice A n c) := cell_zero hx1
  have z1 : w1.cell? ⟨w.heap.size + 1, 0, none⟩ = some (.slice none 0 0) := cell_zero hr1
  have z2 : w1.frozen? ⟨w.heap.size + 1, 0, none⟩ = false := frozen_of_row _ _ _ _ _ hr1
  have HRW := Lib.hid (HR.out.bel HB1.out)
  clear hb1 hx1 hr1 HX HRR HB0
  rcases hv : shardB (abs rs) with _ | _
  · have E := dec_no (t := t) commit (.inl hv)
    have E1 := Lib.hid E.1
    have E2 := Lib.hid E.2
    clear E
    go_wp2_with fail
    refine bodyPost_ret (v := .tuple #[.agg #[.slice none 0 0], .bool false]) (by simp [results, Try.results29, go_sem, z1]) rfl ⟨.slice none 0 0, 0, [], ?_, RecOwn.nil (World.ownsRow_nil _ _ _ _), HB1.out.setCell (by simp) _, ret_tupb E2.out.symm⟩
    rw [E1.out]; rfl
  · rcases ht : txB t with _ | _
    · have E := dec_no (rs := abs rs) commit (.inr ht)
      have E1 := Lib.hid E.1
      have E2 := Lib.hid E.2
      clear E
      go_wp2_with (go_at_call 45; refine (l12Txn_any _ _).mono ?_; rintro e w' ⟨rfl, rfl⟩)
      refine bodyPost_ret (v := .tuple #[.agg #[.slice none 0 0], .bool false]) (by simp [results, Try.results29, go_sem, z1]) rfl ⟨.slice none 0 0, 0, [], ?_, RecOwn.nil (World.ownsRow_nil _ _ _ _), HB1.out.setCell (by simp) _, ret_tupb E2.out.symm⟩
      rw [E1.out]; rfl
    · have HV := Lib.hid hv
      have HT := Lib.hid ht
      rcases commit with _ | _
      · rcases Decidable.em (askK (abs rs) t = 3) with hk | hk
        · have E := dec_known (commit := false) HV.out HT.out hk
          have E1 := Lib.hid E.1
          have E2 := Lib.hid E.2
          have hkb : (askK (abs rs) t == 3) = true := by simpa using hk
          clear E hk
          go_wp2_with (first | (go_at_call 45; refine (l12Txn_any _ _).mono ?_; rintro e w' ⟨rfl, rfl⟩) | (go_at_call 46; refine (l21Ask_any A n c rs t _ lo hn63 HRW.out).mono ?_; rintro e w' ⟨rfl, rfl⟩))
          refine (l21Copy_any A n c rs _ lo (by omega) HSH.out HRW.out).mono ?_
          rintro e w8 ⟨v8, n8, rs8, hab8, hro8, hb8, rfl⟩
          have hr8 : w8.heap[w.heap.size + 1]? = some (.cells #[.slice none 0 0] 25 (0, 0)) := (hb8.block _ (heap_lt HR1.out)).trans HR1.out
          have y1 : w8.cell? ⟨w.heap.size + 1, 0, none⟩ = some (.slice none 0 0) := cell_zero hr8
          have y2 : w8.frozen? ⟨w.heap.size + 1, 0, none⟩ = false := frozen_of_row _ _ _ _ _ hr8
          obtain ⟨A8, c8, rfl, -, -, -⟩ := hro8.recs
          have HRO8 := Lib.hid ((hro8.low (base' := w.heap.size) HB1.out.size).put hr8 (by decide) (shard_no (by simp)) 0 (.slice A8 n8 c8))
          have HAB8 := Lib.hid hab8
          have HB8 : Hid (Below w.heap.size w w8) := HB1.out.trans (hb8.mono HB1.out.size)
          clear hro8 hab8 hb8 hr8
          go_wp2_with fail
          refine bodyPost_ret (v := .tuple #[.agg #[.slice A8 n8 c8], .bool true]) (by simp [results, Try.results29, go_sem, y1]) rfl ⟨_, n8, rs8, ?_, HRO8.out, HB8.out.setCell (by simp) _, ret_tupb E2.out.symm⟩
          rw [E1.out]; exact HAB8.out
        · have E := dec_new (commit := false) HV.out HT.out hk
          have E1 := Lib.hid E.1
          have E2 := Lib.hid E.2
          have hkb : (askK (abs rs) t == 3) = false := by simpa using hk
          clear E hk
          go_wp2_with (first | (go_at_call 45; refine (l12Txn_any _ _).mono ?_; rintro e w' ⟨rfl, rfl⟩) | (go_at_call 46; refine (l21Ask_any A n c rs t _ lo hn63 HRW.out).mono ?_; rintro e w' ⟨rfl, rfl⟩))
          refine (l21Add_any A n c rs ⟨3, t, none, 0, 0, []⟩ _ lo w.heap.size hn HSH.out (by simp) HRW.out (recNil _ _ _ _)).mono ?_
          rintro e w8 ⟨v8, n8, rs8, hab8, hro8, hb8, rfl⟩
          have hr8 : w8.heap[w.heap.size + 1]? = some (.cells #[.slice none 0 0] 25 (0, 0)) := (hb8.block _ (heap_lt HR1.out)).trans HR1.out
          have y1 : w8.cell? ⟨w.heap.size + 1, 0, none⟩ = some (.slice none 0 0) := cell_zero hr8
          have y2 : w8.frozen? ⟨w.heap.size + 1, 0, none⟩ = false := frozen_of_row _ _ _ _ _ hr8
          obtain ⟨A8, c8, rfl, -, -, -⟩ := hro8.recs
          have HRO8 := Lib.hid ((hro8.low (base' := w.heap.size) HB1.out.size).put hr8 (by decide) (shard_no (by simp)) 0 (.slice A8 n8 c8))
          have HAB8 := Lib.hid hab8
          have HB8 : Hid (Below w.heap.size w w8) := HB1.out.trans (hb8.mono HB1.out.size)
          clear hro8 hab8 hb8 hr8
          go_wp2_with fail
          refine bodyPost_ret (v := .tuple #[.agg #[.slice A8 n8 c8], .bool (shardB (abs rs ++ [⟨3, t, []⟩]))]) (by simp [results, Try.results29, go_sem, y1, RecC.ab]) rfl ⟨_, n8, rs8, ?_, HRO8.out, HB8.out.setCell (by simp) _, ret_tupb E2.out.symm⟩
          rw [E1.out]; exact HAB8.out
      · rcases Decidable.em (askK (abs rs) t = 2) with hk | hk
        · have E := dec_known (commit := true) HV.out HT.out hk
          have E1 := Lib.hid E.1
          have E2 := Lib.hid E.2
          have hkb : (askK (abs rs) t == 2) = true := by simpa using hk
          clear E hk
          go_wp2_with (first | (go_at_call 45; refine (l12Txn_any _ _).mono ?_; rintro e w' ⟨rfl, rfl⟩) | (go_at_call 46; refine (l21Ask_any A n c rs t _ lo hn63 HRW.out).mono ?_; rintro e w' ⟨rfl, rfl⟩))
          refine (l21Copy_any A n c rs _ lo (by omega) HSH.out HRW.out).mono ?_
          rintro e w8 ⟨v8, n8, rs8, hab8, hro8, hb8, rfl⟩
          have hr8 : w8.heap[w.heap.size + 1]? = some (.cells #[.slice none 0 0] 25 (0, 0)) := (hb8.block _ (heap_lt HR1.out)).trans HR1.out
          have y1 : w8.cell? ⟨w.heap.size + 1, 0, none⟩ = some (.slice none 0 0) := cell_zero hr8
          have y2 : w8.frozen? ⟨w.heap.size + 1, 0, none⟩ = false := frozen_of_row _ _ _ _ _ hr8
          obtain ⟨A8, c8, rfl, -, -, -⟩ := hro8.recs
          have HRO8 := Lib.hid ((hro8.low (base' := w.heap.size) HB1.out.size).put hr8 (by decide) (shard_no (by simp)) 0 (.slice A8 n8 c8))
          have HAB8 := Lib.hid hab8
          have HB8 : Hid (Below w.heap.size w w8) := HB1.out.trans (hb8.mono HB1.out.size)
          clear hro8 hab8 hb8 hr8
          go_wp2_with fail
          refine bodyPost_ret (v := .tuple #[.agg #[.slice A8 n8 c8], .bool true]) (by simp [results, Try.results29, go_sem, y1]) rfl ⟨_, n8, rs8, ?_, HRO8.out, HB8.out.setCell (by simp) _, ret_tupb E2.out.symm⟩
          rw [E1.out]; exact HAB8.out
        · have E := dec_new (commit := true) HV.out HT.out hk
          have E1 := Lib.hid E.1
          have E2 := Lib.hid E.2
          have hkb : (askK (abs rs) t == 2) = false := by simpa using hk
          clear E hk
          go_wp2_with (first | (go_at_call 45; refine (l12Txn_any _ _).mono ?_; rintro e w' ⟨rfl, rfl⟩) | (go_at_call 46; refine (l21Ask_any A n c rs t _ lo hn63 HRW.out).mono ?_; rintro e w' ⟨rfl, rfl⟩))
          refine (l21Add_any A n c rs ⟨2, t, none, 0, 0, []⟩ _ lo w.heap.size hn HSH.out (by simp) HRW.out (recNil _ _ _ _)).mono ?_
          rintro e w8 ⟨v8, n8, rs8, hab8, hro8, hb8, rfl⟩
          have hr8 : w8.heap[w.heap.size + 1]? = some (.cells #[.slice none 0 0] 25 (0, 0)) := (hb8.block _ (heap_lt HR1.out)).trans HR1.out
          have y1 : w8.cell? ⟨w.heap.size + 1, 0, none⟩ = some (.slice none 0 0) := cell_zero hr8
          have y2 : w8.frozen? ⟨w.heap.size + 1, 0, none⟩ = false := frozen_of_row _ _ _ _ _ hr8
          obtain ⟨A8, c8, rfl, -, -, -⟩ := hro8.recs
          have HRO8 := Lib.hid ((hro8.low (base' := w.heap.size) HB1.out.size).put hr8 (by decide) (shard_no (by simp)) 0 (.slice A8 n8 c8))
          have HAB8 := Lib.hid hab8
          have HB8 : Hid (Below w.heap.size w w8) := HB1.out.trans (hb8.mono HB1.out.size)
          clear hro8 hab8 hb8 hr8
          go_wp2_with fail
          refine bodyPost_ret (v := .tuple #[.agg #[.slice A8 n8 c8], .bool (shardB (abs rs ++ [⟨2, t, []⟩]))]) (by simp [results, Try.results29, go_sem, y1, RecC.ab]) rfl ⟨_, n8, rs8, ?_, HRO8.out, HB8.out.setCell (by simp) _, ret_tupb E2.out.symm⟩
          rw [E1.out]; exact HAB8.out

end Go.Proofs.Ytgnhanbdfohjaaa
