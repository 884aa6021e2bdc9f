/-
  The walks of ShardCommitted of the reference and of the program: the transactions of the records that commit, in order. Condition: no vote meets a locked ref (program); lengths in reach.
-/
import Derived.Test.YtgnhanbdfohjaaaSpecI
import Derived.Test.YtgnhanbdfohjaaaSameSt
namespace Go.Proofs.Ytgnhanbdfohjaaa
set_option linter.unusedVariables false
set_option linter.unusedSimpArgs false
open Go.RowKit
attribute [local go_sem ↓] Go.wp_at_zero Go.wp_at_succ

/-- the transactions that records commit -/
def comL (rs : List Rec) : List Int := (rs.filter fun r => decide (r.kind = 2)).map (·.txn)
def comV (rs : List Rec) : List Int := if shardB rs = true then comL rs else []
theorem comV_no {rs : List Rec} (h : shardB rs = false) : comV rs = [] := by unfold comV; rw [h]; rfl
theorem comV_yes {rs : List Rec} (h : shardB rs = true) : comV rs = comL rs := by unfold comV; rw [if_pos h]
theorem comL_snoc (rs : List Rec) (r : Rec) : comL (rs ++ [r]) = if r.kind = 2 then comL rs ++ [r.txn] else comL rs := by
  unfold comL
  rw [List.filter_append, List.map_append]
  by_cases h : r.kind = 2
  · rw [if_pos h, List.filter_cons_of_pos (by simp [h])]; rfl
  · rw [if_neg h, List.filter_cons_of_neg (by simp [h])]; simp
theorem comL_len (rs : List Rec) : (comL rs).length ≤ rs.length := by
  unfold comL; rw [List.length_map]; exact List.length_filter_le _ _
/-- ints in new memory -/
def IntR (xs : List Int) (base : Nat) (w : World) (e : Ending) (w' : World) : Prop :=
  ∃ A m c, e = .returned (.slice A m c) ∧ m ≤ c ∧ c ≤ 9223372036854775807 ∧ FlH ci w' base A m xs ∧ Below w.heap.size w w'
theorem IntR.of {xs : List Int} {base n : Nat} {w w' : World} {t : TypeId} {v : Value} (h : w'.ownsRow base t 1 v n (xs.flatMap ci)) (hb : Below w.heap.size w w') : IntR xs base w (.returned v) w' := by
  obtain ⟨A, c, rfl, h1, h2, h3⟩ := own_intsH h
  exact ⟨A, n, c, rfl, h1, h2, h3, hb⟩

set_option linter.unusedVariables false in
set_option maxRecDepth 100000 in
set_option maxHeartbeats 1600000 in
theorem implCommitted_any (A : Option Addr) (n c : Nat) (rs : List RecC) (w : World) (lo : Nat) (hn1 : n ≤ 1000) (hn : n ≤ c) (hc : c ≤ 9223372036854775807) (h : Recs w lo A n rs) (hcalm : Calm (abs rs)) :
    Calls Try.prog 23 #[.agg #[.slice A n c]] w fun e w' => IntR (comV (abs rs)) w.heap.size w e w' := by
  have HR := Lib.hid h
  have HC := Lib.hid hcalm
  have HX := Lib.hid (heap_alloc_new w (.cells #[.slice A n c] 25))
  clear h hcalm
  go_enter Try.func23, Try.ntmps23
  go_wp2_with fail
  refine (implValid_any A n c rs _ lo hn hc (HR.out.alloc _) HC.out).mono ?_
  rintro e w1 ⟨rfl, hb1⟩
  have hx1 : w1.heap[w.heap.size]? = some (.cells #[.slice A n c] 25 (0, 0)) := (hb1.block _ (by simp)).trans HX.out
  have z0 : w1.cell? ⟨w.heap.size, 0, none⟩ = some (.slice A n c) := cell_zero hx1
  have HB1 : Hid (Below w.heap.size w w1) := ((Below.refl _ _).alloc (Nat.le_refl _) _).trans (hb1.mono (by simp))
  have HR1 := Lib.hid (HR.out.bel HB1.out)
  clear hb1 hx1
  rcases hv : shardB (abs rs) with _ | _
  · have E := Lib.hid (comV_no hv)
    go_wp2_with fail
    go_ret
    rw [E.out]
    exact ⟨none, 0, 0, rfl, Nat.le_refl _, by omega, FlH.nil _ _ _ _, HB1.out⟩
  · have E := Lib.hid (comV_yes hv)
    go_wp2_with fail
    go_loopw [3, 12] (fun v i wr => ∃ k : Nat, k ≤ n ∧ i = .int .i64 k ∧ wr.ownsRow w.heap.size 3 1 v (comL (abs (rs.take k))).length ((comL (abs (rs.take k))).flatMap ci) ∧ Below w.heap.size w wr) (fun _ i _ => n - (intOf i).toNat)
    case atStart => exact ⟨0, Nat.zero_le _, rfl, World.ownsRow_nil _ _ _ _, HB1.out⟩
    case round =>
      obtain ⟨k, hk, rfl, hown, hbr⟩ := hrel
      have HO := Lib.hid hown
      have HB := Lib.hid hbr
      have hwsz := hbr.size
      have HRW := Lib.hid (HR.out.bel hbr)
      clear hown hbr
      by_cases hlt : k < n
      · obtain ⟨b, o, hll, rfl, _, hblt, hc0, hc1, hc2, -⟩ := HRW.out.at_ hlt
        have hdl : (comL (abs (rs.take k))).length ≤ k := by
          refine Nat.le_trans (comL_len _) ?_
          rw [abs_len, List.length_take]; omega
        have HS := Lib.hid (comL_snoc (abs (rs.take k)) rs[k].ab)
        have HT := Lib.hid (abs_take_succ hll)
        rcases Decidable.em (rs[k].kind = 2) with he | he
        · have hE : Hid (comL (abs (rs.take (k + 1))) = comL (abs (rs.take k)) ++ [rs[k].txn]) := by show _ = _; rw [HT.out, HS.out, if_pos (show rs[k].ab.kind = 2 from he)]; rfl
          have hkb : (rs[k].kind == 2) = true := by simpa using he
          clear HS HT he
          go_wp2_with (at_builtin; go_must (refine wpList_app_at Try.elInt ((HO.out.alloc (.cells #[.int .i64 rs[k].kind, .int .i64 rs[k].txn, .slice rs[k].A rs[k].n rs[k].c] 48)).alloc _) (rd_newn (n := wr.heap.size + 1) (by simp) [.int .i64 rs[k].txn] _) rfl (by simp [Value.oneCell']) (by unfold maxLen; omega) (by omega) (by simp; omega) rfl rfl rfl rfl ?_); intro v' w6 hown6 hg6 hat6)
          exact ⟨⟨k + 1, by omega, by go_num, by rw [hE.out, List.length_append, List.flatMap_append]; exact hown6, (((HB.out.alloc hwsz _).alloc (by simp; omega) _).grown hg6 (by simp; omega) (fun q hq => (HO.out.lt q hq).1))⟩, by simp [intOf]; omega⟩
        · have hE : Hid (comL (abs (rs.take (k + 1))) = comL (abs (rs.take k))) := by show _ = _; rw [HT.out, HS.out, if_neg (show ¬ rs[k].ab.kind = 2 from he)]
          have hkb : (rs[k].kind == 2) = false := by simpa using he
          clear HS HT he
          go_wp2_with fail
          exact ⟨⟨k + 1, by omega, by go_num, by rw [hE.out]; exact HO.out.alloc _, HB.out.alloc hwsz _⟩, by simp [intOf]; omega⟩
      · have hkn : k = n := by omega
        subst hkn
        have hoa := HO.out
        rw [List.take_of_length_le (by rw [HR.out.1.1]; exact Nat.le_refl _)] at hoa
        have HOA := Lib.hid hoa
        clear hoa
        go_wp2_with fail
        go_ret
        rw [E.out]
        exact IntR.of HOA.out HB.out

set_option linter.unusedVariables false in
set_option maxRecDepth 100000 in
set_option maxHeartbeats 1600000 in
theorem specCommitted_any (A : Option Addr) (n c : Nat) (rs : List RecC) (w : World) (lo : Nat) (hn1 : n ≤ 1000) (hn : n ≤ c) (hc : c ≤ 9223372036854775807) (hlo : lo ≤ w.heap.size) (h : Recs w lo A n rs) :
    Calls Try.prog 24 #[.agg #[.slice A n c]] w fun e w' => IntR (comV (abs rs)) w.heap.size w e w' := by
  have HR := Lib.hid h
  have HX := Lib.hid (heap_alloc_new w (.cells #[.slice A n c] 25))
  have HX0 : Hid (((w.alloc (.cells #[.slice A n c] 25)).alloc (.cells #[] 3)).heap[w.heap.size]? = some (.cells #[.slice A n c] 25 (0, 0))) := (Below.heap_alloc _ _ _ (by simp)).trans HX.out
  have hown0 : Hid (((w.alloc (.cells #[.slice A n c] 25)).alloc (.cells #[] 3)).ownsRow w.heap.size 3 1 (.slice (some ⟨w.heap.size + 1, 0, none⟩) 0 0) 0 []) := by
    have := own_lit_from (w := w.alloc (.cells #[.slice A n c] 25)) (base := w.heap.size) (size := 1) (e := 3) (by simp)
    exact Lib.hid (by simpa using this)
  have HB0 : Hid (Below w.heap.size w ((w.alloc (.cells #[.slice A n c] 25)).alloc (.cells #[] 3))) := ((Below.refl _ _).alloc (Nat.le_refl _) _).alloc (by simp) _
  clear h
  go_enter Try.func24, Try.ntmps24
  go_wp2_with fail
  go_loopw [3, 4] (fun v i wr => ∃ k : Nat, k ≤ n ∧ i = .int .i64 k ∧ (0 < k → shardB (abs rs) = true) ∧ wr.ownsRow w.heap.size 3 1 v (comL (abs (rs.take k))).length ((comL (abs (rs.take k))).flatMap ci) ∧ wr.heap[w.heap.size]? = some (.cells #[.slice A n c] 25 (0, 0)) ∧ Below w.heap.size w wr) (fun _ i _ => n - (intOf i).toNat)
  case atStart => exact ⟨0, Nat.zero_le _, rfl, (fun h => absurd h (by omega)), hown0.out, HX0.out, HB0.out⟩
  case round =>
    obtain ⟨k, hk, rfl, hsh, hown, hx, hbr⟩ := hrel
    have HSH := Lib.hid hsh
    have HO := Lib.hid hown
    have HXR := Lib.hid hx
    have HB := Lib.hid hbr
    have hwsz := hbr.size
    have HRW := Lib.hid (HR.out.bel hbr)
    have z0 : wr.cell? ⟨w.heap.size, 0, none⟩ = some (.slice A n c) := cell_zero hx
    have hxl := heap_lt hx
    clear hown hbr hsh hx hown0 HX0 HB0 HX
    by_cases hlt : k < n
    · go_wp2_with fail
      refine (specValid_any A n c rs _ lo hn hc (by omega) HRW.out).mono ?_
      rintro e w1 ⟨rfl, hb1⟩
      have hx1 : w1.heap[w.heap.size]? = some (.cells #[.slice A n c] 25 (0, 0)) := (hb1.block _ hxl).trans HXR.out
      have z1 : w1.cell? ⟨w.heap.size, 0, none⟩ = some (.slice A n c) := cell_zero hx1
      have HX1 := Lib.hid hx1
      have HB1 : Hid (Below w.heap.size w w1) := HB.out.trans (hb1.mono hwsz)
      have HO1 := Lib.hid (own_below HO.out hb1)
      have HRW1 := Lib.hid (HRW.out.bel hb1)
      have hwsz1 := HB1.out.size
      have hxl1 := heap_lt hx1
      clear hb1 hx1
      rcases hv : shardB (abs rs) with _ | _
      · have hk0 : k = 0 := by
          rcases Nat.eq_zero_or_pos k with h | h
          · exact h
          · have := HSH.out h; rw [hv] at this; cases this
        have E := Lib.hid (comV_no hv)
        subst hk0
        go_wp2_with fail
        go_ret
        rw [E.out]
        exact IntR.of (xs := []) HO1.out HB1.out
      · have HV := Lib.hid hv
        obtain ⟨b, o, hll, rfl, _, hblt, hc0, hc1, hc2, -⟩ := HRW1.out.at_ hlt
        have hdl : (comL (abs (rs.take k))).length ≤ k := by
          refine Nat.le_trans (comL_len _) ?_
          rw [abs_len, List.length_take]; omega
        have HS := Lib.hid (comL_snoc (abs (rs.take k)) rs[k].ab)
        have HT := Lib.hid (abs_take_succ hll)
        rcases Decidable.em (rs[k].kind = 2) with he | he
        · have hE : Hid (comL (abs (rs.take (k + 1))) = comL (abs (rs.take k)) ++ [rs[k].txn]) := by show _ = _; rw [HT.out, HS.out, if_pos (show rs[k].ab.kind = 2 from he)]; rfl
          have hkb : (rs[k].kind == 2) = true := by simpa using he
          clear HS HT he
          go_wp2_with (at_builtin; go_must (refine wpList_app_at Try.elInt (HO1.out.alloc _) (rd_new _ [.int .i64 rs[k].txn] _) rfl (by simp [Value.oneCell']) (by unfold maxLen; omega) (by omega) (by simp; omega) rfl rfl rfl rfl ?_); intro v' w6 hown6 hg6 hat6)
          have HX6 : Hid (w6.heap[w.heap.size]? = some (.cells #[.slice (some ⟨b, o, none⟩) n c] 25 (0, 0))) := (hg6.block _ (by simp; omega) (fun e => by
            rcases HO1.out.2 with ⟨hv0, -⟩ | ⟨g', cap, cur, hv0, -, hh, -⟩
            · rw [hv0] at e; cases e
            · rw [hv0] at e
              injection e with e
              subst e
              rw [HX1.out] at hh
              injection hh with hh
              injection hh with _ hh _
              exact absurd hh (by decide))).trans ((Below.heap_alloc _ _ _ hxl1).trans HX1.out)
          exact ⟨⟨k + 1, by omega, by go_num, (fun _ => HV.out), by rw [hE.out, List.length_append, List.flatMap_append]; exact hown6, HX6.out, ((HB1.out.alloc hwsz1 _).grown hg6 (by simp; omega) (fun q hq => (HO1.out.lt q hq).1))⟩, by simp [intOf]; omega⟩
        · have hE : Hid (comL (abs (rs.take (k + 1))) = comL (abs (rs.take k))) := by show _ = _; rw [HT.out, HS.out, if_neg (show ¬ rs[k].ab.kind = 2 from he)]
          have hkb : (rs[k].kind == 2) = false := by simpa using he
          clear HS HT he
          go_wp2_with fail
          exact ⟨⟨k + 1, by omega, by go_num, (fun _ => HV.out), by rw [hE.out]; exact HO1.out, HX1.out, HB1.out⟩, by simp [intOf]; omega⟩
    · have hkn : k = n := by omega
      subst hkn
      have hoa := HO.out
      rw [List.take_of_length_le (by rw [HR.out.1.1]; exact Nat.le_refl _)] at hoa
      have hE : Hid (comV (abs rs) = comL (abs rs)) := by
        show _ = _
        rcases Nat.eq_zero_or_pos k with h | h
        · have : rs = [] := List.eq_nil_of_length_eq_zero (by rw [HR.out.1.1]; exact h)
          subst this; decide
        · exact comV_yes (HSH.out h)
      have HOA := Lib.hid hoa
      clear hoa
      go_wp2_with fail
      go_ret
      rw [hE.out]
      exact IntR.of HOA.out HB.out

end Go.Proofs.Ytgnhanbdfohjaaa
