/-
  The walks of Shard.read, ShardValid, ShardAsk of the program. Condition: no vote meets a locked ref.
-/
import Derived.Test.YtgnhanbdfohjaaaImplI
import Derived.Test.YtgnhanbdfohjaaaSpecH
namespace Go.Proofs.Ytgnhanbdfohjaaa
set_option linter.unusedVariables false
set_option linter.unusedSimpArgs false
open Go.RowKit
attribute [local go_sem ↓] Go.wp_at_zero Go.wp_at_succ

/-- no vote meets a locked ref -/
def Calm (rs : List Rec) : Prop := ∀ (k : Nat) (hk : k < rs.length), (recov (rs.take k)).2 = true → CalmAt (rs.take k) (recov (rs.take k)).1 rs[k]
theorem calm_at {rs : List RecC} (h : Calm (abs rs)) {k : Nat} (hk : k < rs.length) {s : St} (hH : Hist (abs (rs.take k)) s) : CalmAt (abs (rs.take k)) s rs[k].ab := by
  have := h k (by rw [abs_len]; exact hk)
  rw [← abs_take, hH.eq] at this
  have := this rfl
  have e : (abs rs)[k]'(by rw [abs_len]; exact hk) = rs[k].ab := by unfold abs; rw [List.getElem_map]
  rwa [e] at this

/-- a history, and whether the shard is valid -/
def ReadR (rs : List RecC) (w : World) (e : Ending) (w' : World) : Prop :=
  ∃ hb, Below w.heap.size w w' ∧ ((recov (abs rs)).2 = true → HistC w' (w.heap.size + 1) hb rs.length rs (recov (abs rs)).1) ∧ e = .returned (.tuple #[.pointer (some ⟨hb, 0, none⟩), .bool (shardB (abs rs))])

theorem recb_of {w : World} {lo : Nat} {r : RecC} (h : RecIn w lo r) : RecB w lo w.heap.size r := ⟨h.1, h.bd⟩
theorem RecB.below {w w' : World} {lo hi C : Nat} {r : RecC} (h : RecB w lo hi r) (hb : Below C w w') (hC : hi ≤ C) : RecB w' lo hi r := ⟨h.1.below hb hC, h.2⟩
theorem ret_tup_pb {v : Value} {b b' : Bool} (h : b = b') : Ending.returned (.tuple #[v, .bool b]) = .returned (.tuple #[v, .bool b']) := by rw [h]

set_option linter.unusedVariables false in
set_option maxRecDepth 100000 in
set_option maxHeartbeats 3200000 in
theorem read_any (A : Option Addr) (n c : Nat) (rs : List RecC) (w : World) (lo : Nat) (hn : n ≤ c) (hc : c ≤ 9223372036854775807) (h : Recs w lo A n rs) (hcalm : Calm (abs rs)) :
    Calls Try.prog 35 #[.agg #[.slice A n c]] w fun e w' => ReadR rs w e w' := by
  have HR := Lib.hid h
  have HC := Lib.hid hcalm
  have hbx := heap_alloc_new w (.cells #[.slice A n c] 25)
  have HBX := Lib.hid hbx
  clear h hcalm hbx
  go_enter Try.func35, Try.ntmps35
  go_wp2_with fail
  refine (newHistory_any _).mono ?_
  rintro e w1 ⟨hb, hH, hb1, rfl⟩
  have hz : (w.alloc (.cells #[.slice A n c] 25)).heap.size = w.heap.size + 1 := by simp
  rw [hz] at hH hb1
  have HH1 := Lib.hid hH
  have HB1 : Hid (Below (w.heap.size + 1) (w.alloc (.cells #[.slice A n c] 25)) w1) := hb1
  have hbx1 := (hb1.block w.heap.size (by omega)).trans HBX.out
  have hcx : w1.cell? ⟨w.heap.size, 0, none⟩ = some (.slice A n c) := cell_zero hbx1
  have hsz1 : w.heap.size + 1 ≤ w1.heap.size := by have := hb1.size; simp at this; omega
  clear hH hb1 hz
  go_wp2_with fail
  go_loopw [11] (fun i wr => ∃ (k : Nat) (s : St), k ≤ n ∧ i = .int .i64 k ∧ Hist (abs (rs.take k)) s ∧ HistC wr (w.heap.size + 1) hb k (rs.take k) s ∧ Below (w.heap.size + 1) (w.alloc (.cells #[.slice A n c] 25)) wr) (fun i _ => n - (intOf i).toNat)
  case atStart => exact ⟨0, st0, Nat.zero_le _, rfl, Hist.nil, HH1.out, HB1.out⟩
  case round =>
    obtain ⟨k, s, hk, rfl, hH, hhc, hbl⟩ := hrel
    have HHI := Lib.hid hH
    have HHC := Lib.hid hhc
    have HBL := Lib.hid hbl
    have hwz : w.heap.size + 1 ≤ wr.heap.size := by have := hbl.size; simp at this; omega
    have hbxr := (hbl.block w.heap.size (by omega)).trans HBX.out
    have HBW : Hid (Below w.heap.size w wr) := ((Below.refl _ _).alloc (Nat.le_refl _) _).trans (hbl.mono (by omega))
    have HRW := Lib.hid (HR.out.bel HBW.out)
    clear hH hhc hbl hcx
    have hcr : wr.cell? ⟨w.heap.size, 0, none⟩ = some (.slice A n c) := cell_zero hbxr
    clear hbxr hbx1
    by_cases hlt : k < n
    · obtain ⟨b, o, hll, rfl, _, hblt, hc0, hc1, hc2, hin⟩ := HRW.out.at_ hlt
      have HIN : Hid (RecB (wr.alloc (.cells #[.int .i64 rs[k].kind, .int .i64 rs[k].txn, .slice rs[k].A rs[k].n rs[k].c] 48)) lo w.heap.size rs[k]) := ⟨(((HR.out.2 _ (List.getElem_mem hll)).1.below HBW.out (Nat.le_refl _) HBW.out.size |> fun _ => (recb_of (HR.out.2 _ (List.getElem_mem hll))).below HBW.out (Nat.le_refl _)).1).alloc (by omega) _, (HR.out.2 _ (List.getElem_mem hll)).bd⟩
      have HDN : Hid (∀ q ∈ rs.take k, RecB (wr.alloc (.cells #[.int .i64 rs[k].kind, .int .i64 rs[k].txn, .slice rs[k].A rs[k].n rs[k].c] 48)) lo w.heap.size q) := fun q hq =>
        ⟨((recb_of (HR.out.2 q (List.mem_of_mem_take hq))).below HBW.out (Nat.le_refl _)).1.alloc (by omega) _, (HR.out.2 q (List.mem_of_mem_take hq)).bd⟩
      have HCA := Lib.hid (calm_at HC.out hll HHI.out)
      have hkm : k < maxLen := by unfold maxLen; omega
      clear hin
      go_wp2_with fail
      refine (add_any (w.heap.size + 1) hb k (rs.take k) s rs[k] _ lo w.heap.size (by omega) hkm (HHC.out.alloc _) HHI.out.inv HIN.out HDN.out HCA.out).mono ?_
      rintro e w3 (⟨hok, hH3, hb3, -, rfl⟩ | ⟨hno, hb3, rfl⟩)
      · have HOK := Lib.hid hok
        have HH3 := Lib.hid hH3
        have HB3 := Lib.hid ((HBL.out.alloc hwz _).trans hb3)
        clear hok hH3 hb3
        go_wp2_with fail
        refine ⟨⟨k + 1, _, by omega, by go_num, by rw [abs_take_succ hll]; exact HHI.out.snoc HOK.out, ?_, HB3.out⟩, by simp [intOf]; omega⟩
        have := HH3.out
        rwa [← List.take_succ_eq_append_getElem hll] at this
      · have hbad := recov_bad hll HHI.out hno
        have E1 := Lib.hid hbad.1
        have E2 := Lib.hid hbad.2
        have E3 : Hid ((recov (abs rs)).2 = false) := by
          have := recov_fail HHI.out hno (abs (rs.drop (k + 1)))
          rw [← abs_split hll] at this
          show _ = _
          rw [this]
        have HB3 : Hid (Below w.heap.size w w3) := HBW.out.trans (((Below.refl _ _).alloc (by omega) _).trans (hb3.mono (by omega)))
        clear hno hb3 hbad
        go_wp2_with fail
        go_ret2
        exact ⟨hb, HB3.out, fun h => (by rw [E3.out] at h; cases h), ret_tup_pb E2.out.symm⟩
    · have hkn : k = n := by omega
      subst hkn
      have hfa := HHI.out
      have hhc := HHC.out
      have hl : rs.length = k := HR.out.1.1
      rw [List.take_of_length_le (by rw [hl]; exact Nat.le_refl _)] at hfa hhc
      have hgood := recov_good hfa
      have E1 := Lib.hid hgood.1
      have E2 : Hid (decide ((k : Int) ≤ 30) = shardB (abs rs)) := by
        show _ = _
        rw [hgood.2, hl]; simp; omega
      have HFC := Lib.hid hhc
      have HLL := Lib.hid hl
      clear hgood hfa hhc hl
      go_wp2_with fail
      go_quiet (fail)
      go_wp2_with fail
      go_ret2
      refine ⟨hb, below_drewN HBW.out nq, fun _ => ?_, ret_tup_pb E2.out⟩
      rw [HLL.out, E1.out]
      exact HFC.out

end Go.Proofs.Ytgnhanbdfohjaaa
