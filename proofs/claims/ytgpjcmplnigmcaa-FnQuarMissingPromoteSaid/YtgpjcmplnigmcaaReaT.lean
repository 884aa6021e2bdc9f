/-
  The walks of the reference's l1Missing, l1From, l32Ok, l32Need and FetchNeed. Condition: lengths fit an int64.
-/
import Derived.Test.YtgpjcmplnigmcaaReaS
namespace Go.Proofs.Ytgpjcmplnigmcaa
set_option linter.unusedVariables false
set_option linter.unusedSimpArgs false
open Go.RowKit

theorem idsB_asc {xs : List Int} (h : idsB xs = true) : xs.Pairwise (· < ·) := by
  unfold idsB at h
  rw [allTo_iff] at h
  rw [List.pairwise_iff_getElem]
  intro i j hi hj hij
  induction j with
  | zero => omega
  | succ j ih =>
    have h1 := h _ hj
    unfold idAt at h1
    simp only [Bool.and_eq_true, Bool.or_eq_true, decide_eq_true_eq, Nat.add_sub_cancel] at h1
    have h2 : xs.getD j 0 < xs.getD (j + 1) 0 := by
      rcases h1.2 with h | h
      · omega
      · exact h
    rw [List.getD_eq_getElem?_getD, List.getD_eq_getElem?_getD, List.getElem?_eq_getElem (by omega), List.getElem?_eq_getElem hj] at h2
    simp only [Option.getD_some] at h2
    rcases Nat.lt_or_ge i j with h3 | h3
    · have := ih (by omega) h3; omega
    · have : i = j := by omega
      subst this; exact h2
theorem idsB_nodup {xs : List Int} (h : idsB xs = true) : xs.Nodup := by
  rw [List.nodup_iff_pairwise_ne]
  exact List.Pairwise.imp (fun hab => by omega) (idsB_asc h)
theorem linksB_and {xs : List Int} (h : linksB xs = true) : idsB xs = true ∧ xs.length ≤ 4 := by
  unfold linksB at h
  simpa using h

/-- what is reached and missing; what is needed -/
noncomputable def misL (M : Int → Option ObjD) (frm : List Int) : List Int := (reaL M frm).filter fun n => (M n).isNone
noncomputable def stoL (M : Int → Option ObjD) (frm : List Int) : List Int := (reaL M frm).filter fun n => (M n).isSome
noncomputable def needL (M : Int → Option ObjD) (wants haves : List Int) : List Int := (reaL M wants).filter fun n => !hasB n (reaL M haves)
theorem filter_snoc {p : Int → Bool} {xs : List Int} {k : Nat} (h : k < xs.length) : (xs.take (k + 1)).filter p = (xs.take k).filter p ++ (if p xs[k] = true then [xs[k]] else []) := by
  rw [List.take_succ_eq_append_getElem h, List.filter_append, List.filter_cons, List.filter_nil]
theorem reaL_len (M : Int → Option ObjD) (frm : List Int) : (reaL M frm).length ≤ 991 := by
  refine nodup_len ?_ fun n hn => ?_
  · rw [List.nodup_iff_pairwise_ne]
    exact List.Pairwise.imp (fun hab => by omega) (reaL_asc M frm)
  · unfold reaL at hn
    split at hn
    · exact ((srtR_mem _ n).1 hn).1
    · cases hn
theorem GetR.neg {os : List ObjD} {id r : Int} (h : GetR os id r) : (r < 0 ∧ (getO os id).isNone = true) ∨ (0 ≤ r ∧ (getO os id).isNone = false) := by
  rcases h with ⟨h1, h2⟩ | ⟨k, hk, h1, h2⟩
  · exact .inl ⟨by omega, by rw [h2]; rfl⟩
  · exact .inr ⟨by omega, by rw [h2]; rfl⟩

theorem Ints.grownR {w w' : World} {lo hi n : Nat} {A : Option Addr} {xs : List Int} {row : Option Nat} (h : Ints w lo hi A n xs) (hg : w.grownBy w' row) (hh : hi ≤ w.heap.size) (hr : ∀ g, row = some g → g < lo ∨ hi ≤ g) : Ints w' lo hi A n xs :=
  ⟨h.1, h.2.keep (fun p h1 h2 => World.cell?_of_block (hg.block p.block (by omega) (fun e => by have := hr _ e.symm; omega)))⟩
/-- a list that is gone through, beside a row of the call's own that grows -/
def FltB (w wr : World) (lo hi : Nat) (A : Option Addr) (q : Nat) (X : List Int) (v : Value) (ys : List Int) : Prop :=
  wr.ownsRow w.heap.size 3 1 v ys.length (ys.flatMap ci) ∧ Ints wr lo hi A q X ∧ (∀ g, v.ownBlock = some g → g < lo ∨ hi ≤ g) ∧ hi ≤ wr.heap.size ∧ Below w.heap.size w wr
section
variable {w wr w' : World} {lo hi q : Nat} {A : Option Addr} {X ys : List Int} {v : Value}
theorem FltB.fresh (h : FltB w wr lo hi A q X v ys) (hb : Below wr.heap.size wr w') : FltB w w' lo hi A q X v ys := by
  obtain ⟨h1, h2, h3, h4, h5⟩ := h
  exact ⟨own_below h1 hb, h2.grownR (grown_none hb none) h4 (fun g hg => by cases hg), h3, Nat.le_trans h4 hb.size, bel_tr h5 (Nat.le_refl _) hb⟩
theorem FltB.app {ob : Obj} {x : Int} {v' : Value} (h : FltB w wr lo hi A q X v ys) (ho : w'.ownsRow w.heap.size 3 1 v' (ys.length + 1) (ys.flatMap ci ++ [.int .i64 x])) (hg : (wr.alloc ob).grownBy w' v.ownBlock) (hat : v'.ownBlock = v.ownBlock ∨ v'.ownBlock = some (wr.alloc ob).heap.size) : FltB w w' lo hi A q X v' (ys ++ [x]) := by
  obtain ⟨h1, h2, h3, h4, h5⟩ := h
  have hs : (wr.alloc ob).heap.size = wr.heap.size + 1 := by simp
  have hgs := hg.size
  refine ⟨by rw [List.length_append, List.flatMap_append]; exact ho, (h2.grownR (World.grownBy_alloc wr ob none) h4 (fun g hg => by cases hg)).grownR hg (by omega) h3, fun g hg' => ?_, by omega, below_app (h5.alloc h5.size ob) (Nat.le_refl _) (by have := h5.size; omega) (h1.alloc ob) hg⟩
  rcases hat with e | e
  · rw [e] at hg'; exact h3 g hg'
  · rw [e] at hg'; injection hg' with hg'; right; omega
theorem FltB.slice (h : FltB w wr lo hi A q X v ys) : ∃ B c, v = .slice B ys.length c := by
  obtain ⟨B, c, e, -⟩ := Rd.of_own h.1
  exact ⟨B, c, e⟩
end

set_option maxRecDepth 100000 in
set_option maxHeartbeats 3200000 in
theorem l1Missing_any (os : List ObjD) (frm : List Int) (A : Option Addr) (n c : Nat) (F : Option Addr) (m d : Nat) (w : World) (lo hi lo' hi' : Nat) (hh : hi ≤ w.heap.size) (hh' : hi' ≤ w.heap.size) (hv : ∀ o ∈ os, objB o = true) (hd : frm.Nodup) (hr : ∀ x ∈ frm, 0 ≤ x ∧ x ≤ 990) (h : D.rd w lo hi (dObjects os) (.slice A n c)) (hf : Ints w lo' hi' F m frm) :
    Calls Try.prog 73 #[.slice A n c, .slice F m d] w fun e w' => ∃ v, w'.ownsRow w.heap.size 3 1 v (misL (getO os) frm).length ((misL (getO os) frm).flatMap ci) ∧ Below w.heap.size w w' ∧ e = .returned v := by
  have HI := Lib.hid h
  have HF := Lib.hid hf
  have HV := Lib.hid hv
  have HD := Lib.hid hd
  have HR := Lib.hid hr
  have hn63 : n ≤ 9223372036854775807 := by have := h.len; omega
  obtain ⟨e0, he0⟩ : ∃ z, z = w.heap.size := ⟨_, rfl⟩
  obtain ⟨w1, hw1⟩ : ∃ z, z = w.alloc (.cells #[] 3) := ⟨_, rfl⟩
  have hb1 : Below w.heap.size w w1 := by rw [hw1]; exact (Below.refl _ _).alloc (Nat.le_refl _) _
  have HN1 : Hid (w1.ownsRow w.heap.size 3 1 (.slice (some ⟨e0, 0, none⟩) 0 0) 0 []) := by rw [hw1, he0]; exact Lib.hid (own_nil_lit w 3 1)
  have HB1 := Lib.hid hb1
  have hl0 : e0 < w1.heap.size := by rw [hw1, he0]; simp
  clear h hf hv hd hr hb1
  go_enter Try.func73, Try.ntmps73
  go_upto_region 2 with (fail)
  rw [← hw1, ← he0]
  clear hw1 he0
  go_wp2_with fail
  refine (l1Reach_any os frm A n c F m d w1 lo hi lo' hi' (Nat.le_trans hh HB1.out.size) (Nat.le_trans hh' HB1.out.size) HV.out HD.out HR.out (HI.out.below HB1.out hh) (HF.out.below HB1.out hh')).mono ?_
  rintro e w2 ⟨v2, hown2, hb2, rfl⟩
  have HB2 := Lib.hid (bel_tr HB1.out (Nat.le_refl _) hb2)
  have HO2 := Lib.hid (own_below HN1.out hb2)
  obtain ⟨q, hq⟩ : ∃ q, q = (reaL (getO os) frm).length := ⟨_, rfl⟩
  have HQ := Lib.hid hq
  have hq991 : q ≤ 991 := by rw [hq]; exact reaL_len _ _
  rw [← hq] at hown2
  obtain ⟨A2, c2, rfl, hc21, hc22, hrd2⟩ := Rd.of_own hown2
  unfold maxLen at hc22
  have HFB : Hid (FltB w w2 w1.heap.size w2.heap.size A2 q (reaL (getO os) frm) (.slice (some ⟨e0, 0, none⟩) 0 0) []) := Lib.hid ⟨HO2.out, ⟨hq.symm, hrd2⟩, fun g hg => by injection hg with hg; left; rw [← hg]; exact hl0, Nat.le_refl _, HB2.out⟩
  clear hown2 hb2 hrd2 hq
  go_wp2_with fail
  go_loopw [5, 7] (fun v i wr => ∃ (k : Nat), k ≤ q ∧ i = .int .i64 k ∧ FltB w wr w1.heap.size w2.heap.size A2 q (reaL (getO os) frm) v ((reaL (getO os) frm).take k |>.filter fun n => (getO os n).isNone)) (fun _ i _ => q - (intOf i).toNat)
  case atStart => exact ⟨0, Nat.zero_le _, rfl, HFB.out⟩
  case round =>
    obtain ⟨k, hk, rfl, hfb⟩ := hrel
    obtain ⟨w3, hw3⟩ : ∃ z, z = wr := ⟨_, rfl⟩
    subst hw3
    obtain ⟨A5, c5, rfl⟩ := hfb.slice
    have HF3 := Lib.hid hfb
    have hws : w.heap.size ≤ w3.heap.size := hfb.2.2.2.2.size
    have hjk : ((reaL (getO os) frm).take k |>.filter fun n => (getO os n).isNone).length ≤ k := Nat.le_trans (List.length_filter_le _ _) (by rw [List.length_take]; exact Nat.min_le_left _ _)
    obtain ⟨ys, hys⟩ : ∃ ys, ys = ((reaL (getO os) frm).take k |>.filter fun n => (getO os n).isNone) := ⟨_, rfl⟩
    have HYS := Lib.hid hys
    rw [← hys] at HF3 hjk
    rw [← hys]
    clear hfb hys
    by_cases hlt : k < q
    · obtain ⟨b, o, hl, rfl, _, hbh, hc⟩ := HF3.out.2.1.int hlt
      have hbw : b < w3.heap.size := Nat.lt_of_lt_of_le hbh HF3.out.2.2.2.1
      have HSN := Lib.hid (filter_snoc (p := fun n => (getO os n).isNone) hl)
      obtain ⟨x, hx⟩ : ∃ x, x = (reaL (getO os) frm)[k] := ⟨_, rfl⟩
      rw [← hx] at hc
      have HXX := Lib.hid hx
      clear hx
      go_wp2_with fail
      refine (l1Get_any os x A n c w3 lo hi (Nat.le_trans hh hws) HV.out (HI.out.below HF3.out.2.2.2.2 hh)).mono ?_
      rintro e w4 ⟨r, hg, hb4, rfl⟩
      have HG := Lib.hid hg.neg
      have HF4 := Lib.hid (HF3.out.fresh hb4)
      have hc4 := (hb4.cell hbw).trans hc
      have hbw4 : b < w4.heap.size := Nat.lt_of_lt_of_le hbw hb4.size
      have hws4 : w.heap.size ≤ w4.heap.size := HF4.out.2.2.2.2.size
      clear hg hb4 hc
      rcases HG.out with ⟨hr0, hno⟩ | ⟨hr0, hno⟩
      · have HE : Hid (((reaL (getO os) frm).take (k + 1) |>.filter fun n => (getO os n).isNone) = ys ++ [x]) := Lib.hid (by rw [HSN.out, ← HXX.out, ← HYS.out]; simp only [hno, if_true])
        clear hno
        go_wp2_with (at_builtin; go_must (refine wpList_app_at Try.elI (m := 1) (HF4.out.1.alloc _) (rd_newn (n := w4.heap.size) rfl [.int .i64 x] 3) rfl (by simp [Value.oneCell']) (by unfold maxLen; omega) (by omega) (by simp; omega) rfl rfl rfl rfl ?_); intro v5 w5 hown5 hg5 hat5; go_must (have HF5 := Lib.hid (HF4.out.app hown5 hg5 hat5)); clear hown5 hg5 hat5)
        go_roundw
        case rel => exact ⟨k + 1, by omega, by go_num, by rw [HE.out]; exact HF5.out⟩
        case measure => simp [intOf]; omega
      · have HE : Hid (((reaL (getO os) frm).take (k + 1) |>.filter fun n => (getO os n).isNone) = ys) := Lib.hid (by rw [HSN.out, ← HXX.out, ← HYS.out]; simp [hno])
        have hr1 : ¬ (r < 0) := by omega
        clear hno
        go_wp2_with fail
        go_roundw
        case rel => exact ⟨k + 1, by omega, by go_num, by rw [HE.out]; exact HF4.out⟩
        case measure => simp [intOf]; omega
    · have hkq : k = q := by omega
      subst hkq
      have HE : Hid (ys = misL (getO os) frm) := Lib.hid (by rw [HYS.out]; unfold misL; rw [List.take_of_length_le (by rw [← HQ.out]; exact Nat.le_refl _)])
      go_wp2_with fail
      go_ret
      exact ⟨_, by rw [← HE.out]; exact HF3.out.1, HF3.out.2.2.2.2, rfl⟩

end Go.Proofs.Ytgpjcmplnigmcaa
