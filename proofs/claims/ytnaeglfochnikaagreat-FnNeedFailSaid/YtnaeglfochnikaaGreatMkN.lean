/-
  The walk of slices.ContainsFunc over valid objects (none is invalid); the nodes of a pack that is being made, and their depth. Condition: lengths are small.
-/
import Derived.Test.YtnaeglfochnikaaGreatMkS
namespace Go.Proofs.YtnaeglfochnikaaGreat
set_option linter.unusedVariables false
set_option linter.unusedSimpArgs false
open Go.RowKit

set_option maxHeartbeats 800000 in
set_option maxRecDepth 100000 in
theorem mkBad_any (kind : Int) (links : List Int) (text : ByteArray) (A : Option Addr) (n c : Nat) (w : World) (lo hi : Nat) (hh : hi ≤ w.heap.size) (ht : text.size ≤ 9223372036854775807) (hv : objB ⟨kind, links, text⟩ = true) (h : D.rd w lo hi (intsD links) (.slice A n c)) :
    Calls Tryz.prog 62 #[.agg #[.int .i64 kind, .slice A n c, .string text]] w fun e w' => e = .returned (.bool false) ∧ Below w.heap.size w w' := by
  have HI := Lib.hid h
  have HV := Lib.hid hv
  clear h hv
  go_enter Tryz.func62, Tryz.ntmps62
  go_wp2_with fail
  refine (objOk_any kind links text A n c _ lo hi (by simp; omega) ht (HI.out.alloc hh _)).mono ?_
  rintro e w1 ⟨rfl, hb1⟩
  rw [HV.out]
  have HB1 := Lib.hid (bel_al hb1)
  clear hb1
  go_wp2_with fail
  go_ret
  exact ⟨rfl, HB1.out⟩
set_option maxHeartbeats 1600000 in
set_option maxRecDepth 100000 in
theorem indexBad_any (os : List ObjD) (A : Option Addr) (n c : Nat) (w : World) (lo hi : Nat) (hh : hi ≤ w.heap.size) (hn : n ≤ 1048576) (hv : ∀ o ∈ os, objB o = true) (h : D.rd w lo hi (dObjects os) (.slice A n c)) :
    Calls Tryz.prog 87 #[.slice A n c, .func (.func 62) #[] #[]] w fun e w' => e = .returned (.int .i64 (-1)) ∧ Below w.heap.size w w' := by
  have HI := Lib.hid h
  have HV := Lib.hid hv
  clear h hv
  go_enter Tryz.func87, Tryz.ntmps87
  go_wp2_with fail
  go_loopw [8] (fun i wr => ∃ k : Nat, k ≤ n ∧ i = .int .i64 k ∧ Below w.heap.size w wr) (fun i _ => n - (intOf i).toNat)
  case atStart => exact ⟨0, Nat.zero_le _, rfl, Below.refl _ _⟩
  case round =>
    obtain ⟨k, hk, rfl, hb⟩ := hrel
    have HB := Lib.hid hb
    have hwsz := hb.size
    clear hb
    by_cases hlt : k < n
    · obtain ⟨bk, o, hl, A1, n1, c1, rfl, _, hbh, hc0, hc1, hc2, ⟨hn1, hm1, hr1⟩, ht2⟩ := rd_Object (HI.out.below HB.out hh) hlt
      have HR1 := Lib.hid hr1
      have HVM := Lib.hid (show objB ⟨os[k].kind, os[k].links, os[k].text⟩ = true from HV.out _ (List.getElem_mem hl))
      have hhr : hi ≤ wr.heap.size := Nat.le_trans hh hwsz
      clear hr1
      go_wp2_with fail
      refine (mkBad_any os[k].kind os[k].links os[k].text A1 n1 c1 _ lo hi hhr ht2 HVM.out HR1.out).mono ?_
      rintro e w2 ⟨rfl, hb2⟩
      have HB2 := Lib.hid (bel_tr HB.out (Nat.le_refl _) hb2)
      clear hb2
      go_wp2_with fail
      go_roundw
      case rel => exact ⟨k + 1, by omega, by go_num, HB2.out⟩
      case measure => simp [intOf]; omega
    · have hkn : k = n := by omega
      subst hkn
      go_wp2_with fail
      go_ret
      exact ⟨rfl, HB.out⟩
set_option maxHeartbeats 800000 in
set_option maxRecDepth 100000 in
theorem hasBad_any (os : List ObjD) (A : Option Addr) (n c : Nat) (w : World) (lo hi : Nat) (hh : hi ≤ w.heap.size) (hn : n ≤ 1048576) (hv : ∀ o ∈ os, objB o = true) (h : D.rd w lo hi (dObjects os) (.slice A n c)) :
    Calls Tryz.prog 61 #[.slice A n c, .func (.func 62) #[] #[]] w fun e w' => e = .returned (.bool false) ∧ Below w.heap.size w w' := by
  have HI := Lib.hid h
  have HV := Lib.hid hv
  clear h hv
  go_enter Tryz.func61, Tryz.ntmps61
  go_wp2_with fail
  refine (indexBad_any os A n c w lo hi hh hn HV.out HI.out).mono ?_
  rintro e w1 ⟨rfl, hb1⟩
  have HB1 := Lib.hid hb1
  clear hb1
  go_wp2_with fail
  go_ret
  exact ⟨rfl, HB1.out⟩

theorem hltM {w : World} {g : Nat} {o : Obj} (h : w.heap[g]? = some o) : g < w.heap.size := by
  rcases Nat.lt_or_ge g w.heap.size with hlt | hge
  · exact hlt
  · rw [Array.getElem?_eq_none hge] at h; cases h
/-- block g is the node of a text, linked to ptr -/
def NodeM (w : World) (ptr : Option Addr) (t : ByteArray) (g : Nat) : Prop :=
  w.heap[g]? = some (.cells #[.int .i64 0, .slice none 0 0, .int .i64 0, .slice none 0 0, .pointer ptr, .string t] 92 (0, 0))
/-- the nodes of the first objects, in blocks gs from base on -/
def NodesM (w : World) (base : Nat) (os : List ObjD) (gs : List Nat) : Prop :=
  gs.Nodup ∧ ∀ i (h : i < gs.length), base ≤ gs[i] ∧ NodeM w (ptrOf gs (bstTo (mkTo os i) os (os.getD i zObjM).text i)) (os.getD i zObjM).text gs[i]
section
variable {w w' : World} {base : Nat} {os : List ObjD} {gs : List Nat}
theorem NodesM.keep (h : NodesM w base os gs) (hg : ∀ g ∈ gs, w'.heap[g]? = w.heap[g]?) : NodesM w' base os gs :=
  ⟨h.1, fun i hi' => ⟨(h.2 i hi').1, by
    have := (h.2 i hi').2
    unfold NodeM at this ⊢
    rw [hg _ (List.getElem_mem hi')]; exact this⟩⟩
theorem NodesM.lt (h : NodesM w base os gs) : ∀ g ∈ gs, base ≤ g ∧ g < w.heap.size := fun g hg => by
  obtain ⟨i, hi', rfl⟩ := List.getElem_of_mem hg
  exact ⟨(h.2 i hi').1, hltM (h.2 i hi').2⟩
theorem NodesM.below (h : NodesM w base os gs) (hb : Below w.heap.size w w') : NodesM w' base os gs := h.keep (fun g hg => hb.block g (h.lt g hg).2)
/-- no node is the block of a row of another type -/
theorem NodesM.ne_own (h : NodesM w base os gs) {b size n : Nat} {e : TypeId} {v : Value} {cs : List Value} (ho : w.ownsRow b e size v n cs) (he : e ≠ 92) : ∀ g ∈ gs, v.ownBlock ≠ some g := fun g hg hv => by
  obtain ⟨i, hi', rfl⟩ := List.getElem_of_mem hg
  have h1 := (h.2 i hi').2
  unfold NodeM at h1
  obtain ⟨cur, hc⟩ := own_blkP ho hv
  rw [h1] at hc
  injection hc with hc
  injection hc with _ hc _
  exact he hc.symm
theorem ptrOf_app {g : Nat} {b : Int} (hb : b ≤ (gs.length : Int) - 1) : ptrOf (gs ++ [g]) b = ptrOf gs b := by
  unfold ptrOf
  by_cases h0 : 0 ≤ b
  · rw [if_pos h0, if_pos h0, List.getD_eq_getElem?_getD, List.getD_eq_getElem?_getD, List.getElem?_append_left (by omega)]
  · rw [if_neg h0, if_neg h0]
theorem NodesM.add {g : Nat} (h : NodesM w base os gs) (hb : base ≤ g) (hg : g ∉ gs) (hn : NodeM w (ptrOf gs (bstTo (mkTo os gs.length) os (os.getD gs.length zObjM).text gs.length)) (os.getD gs.length zObjM).text g) : NodesM w base os (gs ++ [g]) := by
  refine ⟨List.nodup_append.2 ⟨h.1, by simp, fun a ha b hb' e => ?_⟩, fun i hi' => ?_⟩
  · rw [List.mem_singleton] at hb'
    subst e hb'
    exact hg ha
  · by_cases hin : i < gs.length
    · obtain ⟨hb', hn'⟩ := h.2 i hin
      have hbd := (bstTo_bd (mkTo os i) os (os.getD i zObjM).text i).2.1
      rw [List.getElem_append_left hin, ptrOf_app (by omega)]
      exact ⟨hb', hn'⟩
    · have : i = gs.length := by simp at hi'; omega
      subst this
      have hbd := (bstTo_bd (mkTo os gs.length) os (os.getD gs.length zObjM).text gs.length).2.1
      rw [ptrOf_app hbd]
      simpa using ⟨hb, hn⟩
theorem NodesM.cells (h : NodesM w base os gs) {i : Nat} (hi' : i < gs.length) :
    gs[i] < w.heap.size ∧ w.cell? ⟨gs[i], 4, none⟩ = some (.pointer (ptrOf gs (bstTo (mkTo os i) os (os.getD i zObjM).text i))) ∧ w.cell? ⟨gs[i], 5, none⟩ = some (.string (os.getD i zObjM).text) := by
  have h1 := (h.2 i hi').2
  unfold NodeM at h1
  exact ⟨hltM h1, cell_of_row _ _ 4 _ _ _ h1, cell_of_row _ _ 5 _ _ _ h1⟩
end

set_option maxHeartbeats 1600000 in
set_option maxRecDepth 100000 in
theorem depthM_any (os : List ObjD) (w : World) (base i : Nat) (gs : List Nat) (h : NodesM w base os gs) (hi' : i < gs.length) (hl : gs.length ≤ 1048576) :
    Calls Tryz.prog 66 #[.pointer (some ⟨gs[i], 0, none⟩)] w fun e w' => e = .returned (.int .i64 ((depP (mkTo os gs.length) i : Nat) : Int)) ∧ w = w' := by
  have HND := Lib.hid h
  have hdi := depP_le (ps := mkTo os gs.length) i
  clear h
  obtain ⟨q, hq⟩ : ∃ q, q = depP (mkTo os gs.length) i := ⟨_, rfl⟩
  rw [← hq] at hdi ⊢
  have HQ := Lib.hid hq
  clear hq
  go_enter Tryz.func66, Tryz.ntmps66
  go_wp2_with fail
  go_loop [0, 3] (fun p n => ∃ (j : Nat) (hj : j < gs.length) (d : Nat), p = .pointer (some ⟨gs[j], 0, none⟩) ∧ n = .int .i64 d ∧ d ≤ q ∧ Hid (d + depP (mkTo os gs.length) j = q)) (fun _ n => q - (intOf n).toNat)
  case atStart => exact ⟨i, hi', 0, rfl, rfl, by omega, by show _ = _; rw [HQ.out]; omega⟩
  case round =>
    obtain ⟨j, hj, d, rfl, rfl, hd, HD⟩ := hrel
    obtain ⟨hlt, hc4, hc5⟩ := HND.out.cells hj
    have hbs := mkTo_base os hj
    have hbj := bstTo_bd (mkTo os j) os (os.getD j zObjM).text j
    obtain ⟨r, hr⟩ : ∃ r, r = bstTo (mkTo os j) os (os.getD j zObjM).text j := ⟨_, rfl⟩
    rw [← hr] at hc4 hbs hbj
    by_cases h0 : 0 ≤ r
    · have hjl : r.toNat < gs.length := by omega
      rw [ptr_yes (gs := gs) (j := r.toNat) (by omega) hjl] at hc4
      have hdp := depP_yes (ps := mkTo os gs.length) (i := j) (by rw [hbs]; exact h0) (mkTo_ok os hj)
      rw [hbs] at hdp
      have HP : Hid (d + 1 + depP (mkTo os gs.length) r.toNat = q) := by show _ = _; have := HD.out; omega
      have hd2 : d + 1 ≤ q := by have := HD.out; omega
      obtain ⟨r', hr'⟩ : ∃ r', r' = r.toNat := ⟨_, rfl⟩
      rw [← hr'] at HP
      have hjl' : r' < gs.length := by omega
      have hc4' : w.cell? ⟨gs[j], 4, none⟩ = some (.pointer (some ⟨gs[r']'hjl', 0, none⟩)) := by rw [hc4]; simp only [hr']
      clear hdp hbj h0 hc4 hbs hr hr' hc5 hjl
      go_wp2_with fail
      go_round
      case rel => exact ⟨r', hjl', d + 1, rfl, by go_num, hd2, HP⟩
      case measure => simp [intOf]; omega
    · rw [ptr_no (gs := gs) (by omega)] at hc4
      have HP : Hid (d = q) := by
        show d = q
        have h1 := HD.out
        rw [depP_no (by rw [hbs]; omega)] at h1
        exact h1
      clear hbj h0 hr hbs hc5
      go_wp2_with fail
      go_ret
      exact ⟨ret_int (by rw [HP.out]), rfl⟩

end Go.Proofs.YtnaeglfochnikaaGreat
