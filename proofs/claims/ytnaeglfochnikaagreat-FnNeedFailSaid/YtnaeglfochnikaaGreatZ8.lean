/-
  The walks of the reference's l1Get, l1Reach, l1Missing, l1From and l32Need: what is reached over links. Condition: the objects and the ids are valid.
  The walks of the reference's l1Missing, l1From, l32Ok, l32Need and FetchNeed. Condition: lengths fit an int64.
  A map of the call's own with integer keys and elements of any kind: block b reads as the function C. Plain laws over any program: made, kept, asked, written, deleted.
-/
import Derived.Test.YtnaeglfochnikaaGreatZ3
import Derived.Test.YtnaeglfochnikaaGreatZ7
import Derived.Test.YtnaeglfochnikaaGreatStorU
import Derived.Test.YtnaeglfochnikaaGreatZ1
import Derived.Maps.OwnSet
import Derived.Maps.Views
namespace Go.Proofs.YtnaeglfochnikaaGreat
set_option linter.unusedVariables false
set_option linter.unusedSimpArgs false
open Go.RowKit

/-- the place of the object with an id -/
def GetR (os : List ObjD) (id r : Int) : Prop := (r = -1 ∧ getO os id = none) ∨ ∃ (k : Nat) (h : k < os.length), r = k ∧ getO os id = some os[k]
theorem getO_first {os : List ObjD} {id : Int} {k : Nat} (h : k < os.length) (h1 : ∀ j (hj : j < os.length), j < k → idB os[j] ≠ id) (h2 : idB os[k] = id) : getO os id = some os[k] := by
  unfold getO
  rw [List.find?_eq_some_iff_append]
  refine ⟨by simpa using h2, os.take k, os.drop (k + 1), ?_, fun a ha => ?_⟩
  · rw [← List.drop_eq_getElem_cons h, List.take_append_drop]
  · obtain ⟨j, hj, rfl⟩ := List.getElem_of_mem ha
    rw [List.length_take] at hj
    rw [List.getElem_take]
    simpa using h1 j (by omega) (by omega)

set_option maxRecDepth 100000 in
set_option maxHeartbeats 1600000 in
theorem l1Get_any (os : List ObjD) (id : Int) (A : Option Addr) (n c : Nat) (w : World) (lo hi : Nat) (hh : hi ≤ w.heap.size) (hv : ∀ o ∈ os, objB o = true) (h : D.rd w lo hi (dObjects os) (.slice A n c)) :
    Calls Tryz.prog 27 #[.slice A n c, .int .i64 id] w fun e w' => ∃ r : Int, GetR os id r ∧ Below w.heap.size w w' ∧ e = .returned (.int .i64 r) := by
  have HI := Lib.hid h
  have HV := Lib.hid hv
  have HN := Lib.hid h.len.1
  have hn63 : n ≤ 9223372036854775807 := by have := h.len; omega
  clear h hv
  go_enter Tryz.func27, Tryz.ntmps27
  go_wp2_with fail
  go_loopw [5] (fun i wr => ∃ k : Nat, k ≤ n ∧ i = .int .i64 k ∧ Hid (∀ j (h : j < os.length), j < k → idB os[j] ≠ id) ∧ Below w.heap.size w wr) (fun i _ => n - (intOf i).toNat)
  case atStart => exact ⟨0, Nat.zero_le _, rfl, fun j _ h => by omega, Below.refl _ _⟩
  case round =>
    obtain ⟨k, hk, rfl, HT, hb⟩ := hrel
    have HB := Lib.hid hb
    have hws := hb.size
    clear hb
    by_cases hlt : k < n
    · obtain ⟨b, o, hl, A1, n1, c1, rfl, _, hbh, hc0, hc1, hc2, ⟨hn1, hm1, hr1⟩, -⟩ := rd_Object (HI.out.below HB.out hh) hlt
      have HOV := Lib.hid (HV.out _ (List.getElem_mem hl))
      have HR1 := Lib.hid hr1
      obtain ⟨o1, ho1⟩ : ∃ o1, o1 = os[k] := ⟨_, rfl⟩
      rw [← ho1] at hc0 hc2
      rw [← ho1] at HOV HR1
      have HO1 := Lib.hid ho1
      obtain ⟨kind, links, text⟩ := o1
      dsimp only at hc0 hc2 HR1
      have hhr : hi ≤ wr.heap.size := Nat.le_trans hh hws
      clear hr1 ho1
      go_wp2_with fail
      refine (l1Of_any kind links text A1 n1 c1 wr lo hi hhr HOV.out HR1.out).mono ?_
      rintro e w2 ⟨rfl, hb2⟩
      have HB2 := Lib.hid (bel_tr HB.out (Nat.le_refl _) hb2)
      clear hb2
      obtain ⟨x, hx⟩ : ∃ x, x = idB ⟨kind, links, text⟩ := ⟨_, rfl⟩
      rw [← hx]
      by_cases he : x = id
      · have HG : Hid (GetR os id k) := Lib.hid (.inr ⟨k, hl, rfl, getO_first hl HT.out (by rw [← HO1.out, ← hx]; exact he)⟩)
        have hd : (x == id) = true := by simp [he]
        clear he hx
        go_wp2_with fail
        go_ret
        exact ⟨k, HG.out, HB2.out, rfl⟩
      · have HT2 : Hid (∀ j (h : j < os.length), j < k + 1 → idB os[j] ≠ id) := Lib.hid fun j hj hjk e => by
          rcases Nat.lt_or_ge j k with h1 | h1
          · exact HT.out j hj h1 e
          · have : j = k := by omega
            subst this
            rw [← HO1.out, ← hx] at e; exact he e
        have hd : (x == id) = false := by simp [he]
        clear he hx
        go_wp2_with fail
        go_roundw
        case rel => exact ⟨k + 1, by omega, by go_num, HT2, HB2.out⟩
        case measure => simp [intOf]; omega
    · have hkn : k = n := by omega
      subst hkn
      have HG : Hid (GetR os id (-1)) := Lib.hid (.inl ⟨rfl, getO_none.2 fun o ho e => by
        obtain ⟨j, hj, rfl⟩ := List.getElem_of_mem ho
        exact HT.out j hj (by rw [HN.out]; exact hj) e⟩)
      go_wp2_with fail
      go_ret
      exact ⟨-1, HG.out, HB.out, rfl⟩

theorem srtL_eq (xs : List Int) : srtL xs = srtR xs := by
  unfold srtL srtTo srtR
  congr 1
theorem hasB_iff (x : Int) (xs : List Int) : hasB x xs = true ↔ x ∈ xs := by unfold hasB; simp
theorem link_rng {o : ObjD} (h : objB o = true) : ∀ l ∈ o.links, 0 ≤ l ∧ l ≤ 990 := fun l hl => idsB_mem (objB_and h).1 l hl

set_option maxRecDepth 100000 in
set_option maxHeartbeats 6400000 in
theorem l1Reach_any (os : List ObjD) (frm : List Int) (A : Option Addr) (n c : Nat) (F : Option Addr) (m d : Nat) (w : World) (lo hi lo' hi' : Nat) (hh : hi ≤ w.heap.size) (hh' : hi' ≤ w.heap.size) (hv : ∀ o ∈ os, objB o = true) (hd : frm.Nodup) (hr : ∀ x ∈ frm, 0 ≤ x ∧ x ≤ 990) (h : D.rd w lo hi (dObjects os) (.slice A n c)) (hf : Ints w lo' hi' F m frm) :
    Calls Tryz.prog 54 #[.slice A n c, .slice F m d] w fun e w' => ∃ v, w'.ownsRow w.heap.size 3 1 v (reaL (getO os) frm).length ((reaL (getO os) frm).flatMap ci) ∧ Below w.heap.size w w' ∧ e = .returned v := by
  have HI := Lib.hid h
  have HF := Lib.hid hf
  have HV := Lib.hid hv
  have hlen := Lib.hid hf.1
  have hm991 : m ≤ 991 := by rw [← hf.1]; exact nodup_len hd hr
  have HW0 := Lib.hid (WorkI.start (M := getO os) hd hr)
  have HNIL := Lib.hid (own_nil_lit w 3 1)
  have HA0 : Hid (Below w.heap.size w (w.alloc (.cells #[] 3))) := Lib.hid ((Below.refl _ _).alloc (Nat.le_refl _) _)
  clear h hf hv hd hr
  go_enter Tryz.func54, Tryz.ntmps54
  go_wp2_with (at_builtin; go_must (refine wpList_app Tryz.elI (m := m) HNIL.out (HF.out.2.alloc hh' _) (by rw [flat_len ci 1 ci_len, hlen.out]) (by rw [flat_ci]; simp [Value.oneCell']) (by unfold maxLen; omega) (by omega) (by simp) rfl rfl rfl rfl ?_); intro v1 w1 hown1 hg1; rw [Nat.zero_add, List.nil_append] at hown1; have HO1 := Lib.hid hown1; have HB1 := Lib.hid (below_app HA0.out (Nat.le_refl _) (by simp) HNIL.out hg1); clear hown1 hg1)
  have HO1' : Hid (w1.ownsRow w.heap.size 3 1 v1 frm.length (frm.flatMap ci)) := Lib.hid (by rw [hlen.out]; exact HO1.out)
  go_loopw [5, 6] (fun v i wr => ∃ (k : Nat) (out : List Int), k ≤ out.length ∧ i = .int .i64 k ∧ Hid (WorkI (getO os) frm out k) ∧ wr.ownsRow w.heap.size 3 1 v out.length (out.flatMap ci) ∧ Below w.heap.size w wr) (fun _ i _ => 991 - (intOf i).toNat)
  case atStart => exact ⟨0, frm, Nat.zero_le _, rfl, HW0.out, HO1'.out, HB1.out⟩
  case round =>
    obtain ⟨k, out, hk, rfl, HW, hown, hb⟩ := hrel
    have hq991 := HW.out.len
    obtain ⟨q, hq⟩ : ∃ q, q = out.length := ⟨_, rfl⟩
    rw [← hq] at hk hown hq991
    have HQ := Lib.hid hq
    obtain ⟨A5, c5, rfl, hc51, hc52, hrd5⟩ := Rd.of_own hown
    unfold maxLen at hc52
    have HIX : Hid (Ints wr w.heap.size wr.heap.size A5 q out) := Lib.hid ⟨hq.symm, hrd5⟩
    have HO := Lib.hid hown
    have HB := Lib.hid hb
    have hws := hb.size
    clear hown hb hrd5 HO1 HO1' HB1 HW0 hq
    by_cases hlt : k < q
    · have hko : k < out.length := by rw [← HQ.out]; exact hlt
      obtain ⟨b, o, hl, rfl, _, hbh, hc⟩ := HIX.out.int hlt
      have hhr : hi ≤ wr.heap.size := Nat.le_trans hh hws
      obtain ⟨x, hx⟩ : ∃ x, x = out[k] := ⟨_, rfl⟩
      rw [← hx] at hc
      have HX := Lib.hid hx
      clear hx
      go_wp2_with fail
      refine (l1Get_any os x A n c wr lo hi hhr HV.out (HI.out.below HB.out hh)).mono ?_
      rintro e w2 ⟨r, hgr, hb2, rfl⟩
      have HG := Lib.hid hgr
      have HB2 := Lib.hid (bel_tr HB.out (Nat.le_refl _) hb2)
      have HO2 := Lib.hid (own_below HO.out hb2)
      have hws2 := HB2.out.size
      clear hgr hb2 hc
      rcases HG.out with ⟨rfl, hno⟩ | ⟨j0, hj0, rfl, hsome⟩
      · have HW2 := Lib.hid (HW.out.skip hko (by rw [← HX.out]; exact hno))
        have HO2' : Hid (w2.ownsRow w.heap.size 3 1 (.slice (some ⟨b, o, none⟩) q c5) out.length (out.flatMap ci)) := Lib.hid (by rw [← HQ.out]; exact HO2.out)
        clear hno
        go_wp2_with fail
        go_loopw [5, 8] (fun v j wx => v = .slice (some ⟨b, o, none⟩) q c5 ∧ j = .int .i64 0 ∧ wx = w2) (fun _ _ _ => 0)
        case atStart => exact ⟨rfl, rfl, rfl⟩
        case round =>
          obtain ⟨rfl, rfl, rfl⟩ := hrel
          go_wp2_with fail
          go_roundw
          case rel => exact ⟨k + 1, out, by rw [← HQ.out]; omega, by go_num, HW2, HO2'.out, HB2.out⟩
          case measure => simp [intOf]; omega
      · have HOV := Lib.hid (HV.out _ (List.getElem_mem hj0))
        have hjn : j0 < n := by have := HI.out.len.1; omega
        have h0j : decide ((0 : Int) ≤ (j0 : Int)) = true := decide_eq_true (Int.natCast_nonneg j0)
        obtain ⟨ob, hob⟩ : ∃ ob, ob = os[j0] := ⟨_, rfl⟩
        have HOB := Lib.hid hob
        have HW2 := Lib.hid (HW.out.step (o := ob) hko (by rw [← HX.out, hob]; exact hsome) (link_rng (by rw [hob]; exact HOV.out)))
        have hl4 : ob.links.length ≤ 4 := by rw [hob]; exact (objB_and HOV.out).2.1
        have HO2' : Hid (w2.ownsRow w.heap.size 3 1 (.slice (some ⟨b, o, none⟩) q c5) (addTo out ob.links 0).length ((addTo out ob.links 0).flatMap ci)) := Lib.hid (by rw [addTo_zero, ← HQ.out]; exact HO2.out)
        clear hsome hob
        go_wp2_with fail
        go_loopw [5, 8] (fun v j wx => ∃ i : Nat, i ≤ ob.links.length ∧ j = .int .i64 i ∧ wx.ownsRow w.heap.size 3 1 v (addTo out ob.links i).length ((addTo out ob.links i).flatMap ci) ∧ Below w.heap.size w wx) (fun _ j _ => ob.links.length - (intOf j).toNat)
        case atStart => exact ⟨0, Nat.zero_le _, rfl, HO2'.out, HB2.out⟩
        case round =>
          obtain ⟨i, hi4, rfl, hown, hb⟩ := hrel
          obtain ⟨w3, hw3⟩ : ∃ z, z = wr := ⟨_, rfl⟩
          subst hw3
          obtain ⟨q3, hq3⟩ : ∃ q3, q3 = (addTo out ob.links i).length := ⟨_, rfl⟩
          have HQ3 := Lib.hid hq3
          have hq3b : q3 ≤ 2000 := by
            have h1 := nodup_len (addTo_nodup HW.out.1 hi4) (fun z hz => by
              rcases (addTo_mem hi4 z).1 hz with h1 | h1
              · exact HW.out.2.1 z h1
              · exact link_rng (by rw [HOB.out]; exact HOV.out) z (List.mem_of_mem_take h1))
            omega
          rw [← hq3] at hown
          obtain ⟨A7, c7, rfl, hc71, hc72, hrd7⟩ := Rd.of_own hown
          unfold maxLen at hc72
          have HI7 : Hid (Ints w3 w.heap.size w3.heap.size A7 q3 (addTo out ob.links i)) := Lib.hid ⟨hq3.symm, hrd7⟩
          have HO3 := Lib.hid hown
          have HB3 := Lib.hid hb
          have hws3 := hb.size
          clear hown hb hrd7 HO2' hq3
          obtain ⟨b4, o4, hl4', A8, n8, c8, rfl, _, hbh4, hd0, hd1, hd2, ⟨hn8, hm8, hr8⟩, -⟩ := rd_Object (HI.out.below HB3.out hh) hjn
          rw [← HOB.out] at hr8
          obtain rfl : n8 = ob.links.length := hr8.len.1
          have HR8 := Lib.hid hr8.ints
          have hb4w : b4 < w3.heap.size := by omega
          clear hr8 hl4' hd0 hd2
          by_cases hlt3 : i < ob.links.length
          · obtain ⟨b5, o5, hl5, rfl, _, hbh5, hc5⟩ := HR8.out.int hlt3
            have hb5w : b5 < w3.heap.size := by omega
            obtain ⟨y, hy⟩ : ∃ y, y = ob.links[i] := ⟨_, rfl⟩
            rw [← hy] at hc5
            have HS := Lib.hid (addTo_succ (out := out) hlt3)
            rcases hvb : hasB y (addTo out ob.links i) with _ | _
            · have HE : Hid (addTo out ob.links (i + 1) = addTo out ob.links i ++ [y]) := Lib.hid (by rw [HS.out, ← hy, if_neg (fun hm => by rw [(hasB_iff _ _).2 hm] at hvb; cases hvb)])
              have HVB := Lib.hid hvb
              clear hvb hy
              go_wp2_with fail
              refine (l1Has_any A7 q3 c7 (addTo out ob.links i) y w3 w.heap.size w3.heap.size (by omega) HI7.out).mono ?_
              rintro e w4 ⟨rfl, rfl⟩
              rw [HVB.out]
              go_wp2_with (at_builtin; go_must (refine wpList_app Tryz.elI (m := 1) (HO3.out.alloc _) (rd_newn (n := w3.heap.size) rfl [.int .i64 y] 3) rfl (by simp [Value.oneCell']) (by unfold maxLen; omega) (by omega) (by simp; omega) rfl rfl rfl rfl ?_); intro v5 w5 hown5 hg5; have HO5 := Lib.hid hown5; have HB5 := Lib.hid (below_app (HB3.out.alloc hws3 _) (Nat.le_refl _) (by simp; omega) (HO3.out.alloc _) hg5); clear hown5 hg5)
              have HO6 : Hid (w5.ownsRow w.heap.size 3 1 v5 (addTo out ob.links (i + 1)).length ((addTo out ob.links (i + 1)).flatMap ci)) := Lib.hid (by rw [HE.out, List.length_append, ← HQ3.out, List.flatMap_append]; exact HO5.out)
              go_roundw
              case rel => exact ⟨i + 1, by omega, by go_num, HO6.out, HB5.out⟩
              case measure => simp [intOf]; omega
            · have HE : Hid (addTo out ob.links (i + 1) = addTo out ob.links i) := Lib.hid (by rw [HS.out, ← hy, if_pos ((hasB_iff _ _).1 hvb)])
              have HVB := Lib.hid hvb
              clear hvb hy
              go_wp2_with fail
              refine (l1Has_any A7 q3 c7 (addTo out ob.links i) y w3 w.heap.size w3.heap.size (by omega) HI7.out).mono ?_
              rintro e w4 ⟨rfl, rfl⟩
              rw [HVB.out]
              have HO6 : Hid (w3.ownsRow w.heap.size 3 1 (.slice A7 q3 c7) (addTo out ob.links (i + 1)).length ((addTo out ob.links (i + 1)).flatMap ci)) := Lib.hid (by rw [HE.out, ← HQ3.out]; exact HO3.out)
              go_wp2_with fail
              go_roundw
              case rel => exact ⟨i + 1, by omega, by go_num, HO6.out, HB3.out⟩
              case measure => simp [intOf]; omega
          · have hin : i = ob.links.length := by omega
            subst hin
            have HO6 : Hid (w3.ownsRow w.heap.size 3 1 (.slice A7 q3 c7) (addTo out ob.links ob.links.length).length ((addTo out ob.links ob.links.length).flatMap ci)) := Lib.hid (by rw [← HQ3.out]; exact HO3.out)
            have hkl : k + 1 ≤ (addTo out ob.links ob.links.length).length := by
              obtain ⟨rr, hrr⟩ := addTo_prefix (out := out) (ls := ob.links) (Nat.le_refl _)
              rw [hrr, List.length_append]; omega
            go_wp2_with fail
            go_roundw
            case rel => exact ⟨k + 1, addTo out ob.links ob.links.length, hkl, by go_num, HW2, HO6.out, HB3.out⟩
            case measure => simp [intOf]; omega
    · have hkq : k = q := by omega
      subst hkq
      have HR : Hid (reaL (getO os) frm = srtL out) := Lib.hid (by rw [srtL_eq]; exact reaL_of (HW.out.done (by rw [← HQ.out]; exact Nat.le_refl _)))
      go_wp2_with fail
      refine (l1Sorted_any A5 k c5 out wr w.heap.size wr.heap.size (Nat.le_refl _) (by omega) HIX.out).mono ?_
      rintro e w2 ⟨v2, hown2, hb2, rfl⟩
      have HB2 := Lib.hid (bel_tr HB.out (Nat.le_refl _) hb2)
      have HO2 : Hid (w2.ownsRow w.heap.size 3 1 v2 (reaL (getO os) frm).length ((reaL (getO os) frm).flatMap ci)) := Lib.hid (by
        rw [HR.out]
        refine ⟨hown2.1, ?_⟩
        rcases hown2.2 with h | ⟨a1, a2, a3, a4, a5, a6⟩
        · exact .inl h
        · exact .inr ⟨a1, a2, a3, a4, Nat.le_trans hws a5, a6⟩)
      clear hown2 hb2
      go_wp2_with fail
      go_ret
      exact ⟨v2, HO2.out, HB2.out, rfl⟩

end Go.Proofs.YtnaeglfochnikaaGreat

namespace Go.Proofs.YtnaeglfochnikaaGreat
set_option linter.unusedVariables false
set_option linter.unusedSimpArgs false
open Go.RowKit

theorem idsB_asc {xs : List Int} (h : idsB xs = true) : xs.Pairwise (· < ·) := by
  unfold idsB at h
  rw [allTo_iff] at h
  rw [List.pairwise_iff_getElem]
  intro i j hi hj hij
  induction j with
  | zero => omega
  | succ j ih =>
    have h1 := h _ hj
    unfold idAt at h1
    simp only [Bool.and_eq_true, Bool.or_eq_true, decide_eq_true_eq, Nat.add_sub_cancel] at h1
    have h2 : xs.getD j 0 < xs.getD (j + 1) 0 := by
      rcases h1.2 with h | h
      · omega
      · exact h
    rw [List.getD_eq_getElem?_getD, List.getD_eq_getElem?_getD, List.getElem?_eq_getElem (by omega), List.getElem?_eq_getElem hj] at h2
    simp only [Option.getD_some] at h2
    rcases Nat.lt_or_ge i j with h3 | h3
    · have := ih (by omega) h3; omega
    · have : i = j := by omega
      subst this; exact h2
theorem idsB_nodup {xs : List Int} (h : idsB xs = true) : xs.Nodup := by
  rw [List.nodup_iff_pairwise_ne]
  exact List.Pairwise.imp (fun hab => by omega) (idsB_asc h)
theorem linksB_and {xs : List Int} (h : linksB xs = true) : idsB xs = true ∧ xs.length ≤ 4 := by
  unfold linksB at h
  simpa using h

/-- what is reached and missing; what is needed -/
noncomputable def misL (M : Int → Option ObjD) (frm : List Int) : List Int := (reaL M frm).filter fun n => (M n).isNone
noncomputable def stoL (M : Int → Option ObjD) (frm : List Int) : List Int := (reaL M frm).filter fun n => (M n).isSome
noncomputable def needL (M : Int → Option ObjD) (wants haves : List Int) : List Int := (reaL M wants).filter fun n => !hasB n (reaL M haves)
theorem filter_snoc {p : Int → Bool} {xs : List Int} {k : Nat} (h : k < xs.length) : (xs.take (k + 1)).filter p = (xs.take k).filter p ++ (if p xs[k] = true then [xs[k]] else []) := by
  rw [List.take_succ_eq_append_getElem h, List.filter_append, List.filter_cons, List.filter_nil]
theorem reaL_len (M : Int → Option ObjD) (frm : List Int) : (reaL M frm).length ≤ 991 := by
  refine nodup_len ?_ fun n hn => ?_
  · rw [List.nodup_iff_pairwise_ne]
    exact List.Pairwise.imp (fun hab => by omega) (reaL_asc M frm)
  · unfold reaL at hn
    split at hn
    · exact ((srtR_mem _ n).1 hn).1
    · cases hn
theorem GetR.neg {os : List ObjD} {id r : Int} (h : GetR os id r) : (r < 0 ∧ (getO os id).isNone = true) ∨ (0 ≤ r ∧ (getO os id).isNone = false) := by
  rcases h with ⟨h1, h2⟩ | ⟨k, hk, h1, h2⟩
  · exact .inl ⟨by omega, by rw [h2]; rfl⟩
  · exact .inr ⟨by omega, by rw [h2]; rfl⟩

theorem Ints.grownR {w w' : World} {lo hi n : Nat} {A : Option Addr} {xs : List Int} {row : Option Nat} (h : Ints w lo hi A n xs) (hg : w.grownBy w' row) (hh : hi ≤ w.heap.size) (hr : ∀ g, row = some g → g < lo ∨ hi ≤ g) : Ints w' lo hi A n xs :=
  ⟨h.1, h.2.keep (fun p h1 h2 => World.cell?_of_block (hg.block p.block (by omega) (fun e => by have := hr _ e.symm; omega)))⟩
/-- a list that is gone through, beside a row of the call's own that grows -/
def FltB (w wr : World) (lo hi : Nat) (A : Option Addr) (q : Nat) (X : List Int) (v : Value) (ys : List Int) : Prop :=
  wr.ownsRow w.heap.size 3 1 v ys.length (ys.flatMap ci) ∧ Ints wr lo hi A q X ∧ (∀ g, v.ownBlock = some g → g < lo ∨ hi ≤ g) ∧ hi ≤ wr.heap.size ∧ Below w.heap.size w wr
section
variable {w wr w' : World} {lo hi q : Nat} {A : Option Addr} {X ys : List Int} {v : Value}
theorem FltB.fresh (h : FltB w wr lo hi A q X v ys) (hb : Below wr.heap.size wr w') : FltB w w' lo hi A q X v ys := by
  obtain ⟨h1, h2, h3, h4, h5⟩ := h
  exact ⟨own_below h1 hb, h2.grownR (grown_none hb none) h4 (fun g hg => by cases hg), h3, Nat.le_trans h4 hb.size, bel_tr h5 (Nat.le_refl _) hb⟩
theorem FltB.app {ob : Obj} {x : Int} {v' : Value} (h : FltB w wr lo hi A q X v ys) (ho : w'.ownsRow w.heap.size 3 1 v' (ys.length + 1) (ys.flatMap ci ++ [.int .i64 x])) (hg : (wr.alloc ob).grownBy w' v.ownBlock) (hat : v'.ownBlock = v.ownBlock ∨ v'.ownBlock = some (wr.alloc ob).heap.size) : FltB w w' lo hi A q X v' (ys ++ [x]) := by
  obtain ⟨h1, h2, h3, h4, h5⟩ := h
  have hs : (wr.alloc ob).heap.size = wr.heap.size + 1 := by simp
  have hgs := hg.size
  refine ⟨by rw [List.length_append, List.flatMap_append]; exact ho, (h2.grownR (World.grownBy_alloc wr ob none) h4 (fun g hg => by cases hg)).grownR hg (by omega) h3, fun g hg' => ?_, by omega, below_app (h5.alloc h5.size ob) (Nat.le_refl _) (by have := h5.size; omega) (h1.alloc ob) hg⟩
  rcases hat with e | e
  · rw [e] at hg'; exact h3 g hg'
  · rw [e] at hg'; injection hg' with hg'; right; omega
theorem FltB.slice (h : FltB w wr lo hi A q X v ys) : ∃ B c, v = .slice B ys.length c := by
  obtain ⟨B, c, e, -⟩ := Rd.of_own h.1
  exact ⟨B, c, e⟩
end

set_option maxRecDepth 100000 in
set_option maxHeartbeats 3200000 in
theorem l1Missing_any (os : List ObjD) (frm : List Int) (A : Option Addr) (n c : Nat) (F : Option Addr) (m d : Nat) (w : World) (lo hi lo' hi' : Nat) (hh : hi ≤ w.heap.size) (hh' : hi' ≤ w.heap.size) (hv : ∀ o ∈ os, objB o = true) (hd : frm.Nodup) (hr : ∀ x ∈ frm, 0 ≤ x ∧ x ≤ 990) (h : D.rd w lo hi (dObjects os) (.slice A n c)) (hf : Ints w lo' hi' F m frm) :
    Calls Tryz.prog 53 #[.slice A n c, .slice F m d] w fun e w' => ∃ v, w'.ownsRow w.heap.size 3 1 v (misL (getO os) frm).length ((misL (getO os) frm).flatMap ci) ∧ Below w.heap.size w w' ∧ e = .returned v := by
  have HI := Lib.hid h
  have HF := Lib.hid hf
  have HV := Lib.hid hv
  have HD := Lib.hid hd
  have HR := Lib.hid hr
  have hn63 : n ≤ 9223372036854775807 := by have := h.len; omega
  obtain ⟨e0, he0⟩ : ∃ z, z = w.heap.size := ⟨_, rfl⟩
  obtain ⟨w1, hw1⟩ : ∃ z, z = w.alloc (.cells #[] 3) := ⟨_, rfl⟩
  have hb1 : Below w.heap.size w w1 := by rw [hw1]; exact (Below.refl _ _).alloc (Nat.le_refl _) _
  have HN1 : Hid (w1.ownsRow w.heap.size 3 1 (.slice (some ⟨e0, 0, none⟩) 0 0) 0 []) := by rw [hw1, he0]; exact Lib.hid (own_nil_lit w 3 1)
  have HB1 := Lib.hid hb1
  have hl0 : e0 < w1.heap.size := by rw [hw1, he0]; simp
  clear h hf hv hd hr hb1
  go_enter Tryz.func53, Tryz.ntmps53
  go_upto_region 2 with (fail)
  rw [← hw1, ← he0]
  clear hw1 he0
  go_wp2_with fail
  refine (l1Reach_any os frm A n c F m d w1 lo hi lo' hi' (Nat.le_trans hh HB1.out.size) (Nat.le_trans hh' HB1.out.size) HV.out HD.out HR.out (HI.out.below HB1.out hh) (HF.out.below HB1.out hh')).mono ?_
  rintro e w2 ⟨v2, hown2, hb2, rfl⟩
  have HB2 := Lib.hid (bel_tr HB1.out (Nat.le_refl _) hb2)
  have HO2 := Lib.hid (own_below HN1.out hb2)
  obtain ⟨q, hq⟩ : ∃ q, q = (reaL (getO os) frm).length := ⟨_, rfl⟩
  have HQ := Lib.hid hq
  have hq991 : q ≤ 991 := by rw [hq]; exact reaL_len _ _
  rw [← hq] at hown2
  obtain ⟨A2, c2, rfl, hc21, hc22, hrd2⟩ := Rd.of_own hown2
  unfold maxLen at hc22
  have HFB : Hid (FltB w w2 w1.heap.size w2.heap.size A2 q (reaL (getO os) frm) (.slice (some ⟨e0, 0, none⟩) 0 0) []) := Lib.hid ⟨HO2.out, ⟨hq.symm, hrd2⟩, fun g hg => by injection hg with hg; left; rw [← hg]; exact hl0, Nat.le_refl _, HB2.out⟩
  clear hown2 hb2 hrd2 hq
  go_wp2_with fail
  go_loopw [5, 7] (fun v i wr => ∃ (k : Nat), k ≤ q ∧ i = .int .i64 k ∧ FltB w wr w1.heap.size w2.heap.size A2 q (reaL (getO os) frm) v ((reaL (getO os) frm).take k |>.filter fun n => (getO os n).isNone)) (fun _ i _ => q - (intOf i).toNat)
  case atStart => exact ⟨0, Nat.zero_le _, rfl, HFB.out⟩
  case round =>
    obtain ⟨k, hk, rfl, hfb⟩ := hrel
    obtain ⟨w3, hw3⟩ : ∃ z, z = wr := ⟨_, rfl⟩
    subst hw3
    obtain ⟨A5, c5, rfl⟩ := hfb.slice
    have HF3 := Lib.hid hfb
    have hws : w.heap.size ≤ w3.heap.size := hfb.2.2.2.2.size
    have hjk : ((reaL (getO os) frm).take k |>.filter fun n => (getO os n).isNone).length ≤ k := Nat.le_trans (List.length_filter_le _ _) (by rw [List.length_take]; exact Nat.min_le_left _ _)
    obtain ⟨ys, hys⟩ : ∃ ys, ys = ((reaL (getO os) frm).take k |>.filter fun n => (getO os n).isNone) := ⟨_, rfl⟩
    have HYS := Lib.hid hys
    rw [← hys] at HF3 hjk
    rw [← hys]
    clear hfb hys
    by_cases hlt : k < q
    · obtain ⟨b, o, hl, rfl, _, hbh, hc⟩ := HF3.out.2.1.int hlt
      have hbw : b < w3.heap.size := Nat.lt_of_lt_of_le hbh HF3.out.2.2.2.1
      have HSN := Lib.hid (filter_snoc (p := fun n => (getO os n).isNone) hl)
      obtain ⟨x, hx⟩ : ∃ x, x = (reaL (getO os) frm)[k] := ⟨_, rfl⟩
      rw [← hx] at hc
      have HXX := Lib.hid hx
      clear hx
      go_wp2_with fail
      refine (l1Get_any os x A n c w3 lo hi (Nat.le_trans hh hws) HV.out (HI.out.below HF3.out.2.2.2.2 hh)).mono ?_
      rintro e w4 ⟨r, hg, hb4, rfl⟩
      have HG := Lib.hid hg.neg
      have HF4 := Lib.hid (HF3.out.fresh hb4)
      have hc4 := (hb4.cell hbw).trans hc
      have hbw4 : b < w4.heap.size := Nat.lt_of_lt_of_le hbw hb4.size
      have hws4 : w.heap.size ≤ w4.heap.size := HF4.out.2.2.2.2.size
      clear hg hb4 hc
      rcases HG.out with ⟨hr0, hno⟩ | ⟨hr0, hno⟩
      · have HE : Hid (((reaL (getO os) frm).take (k + 1) |>.filter fun n => (getO os n).isNone) = ys ++ [x]) := Lib.hid (by rw [HSN.out, ← HXX.out, ← HYS.out]; simp only [hno, if_true])
        clear hno
        go_wp2_with (at_builtin; go_must (refine wpList_app_at Tryz.elI (m := 1) (HF4.out.1.alloc _) (rd_newn (n := w4.heap.size) rfl [.int .i64 x] 3) rfl (by simp [Value.oneCell']) (by unfold maxLen; omega) (by omega) (by simp; omega) rfl rfl rfl rfl ?_); intro v5 w5 hown5 hg5 hat5; go_must (have HF5 := Lib.hid (HF4.out.app hown5 hg5 hat5)); clear hown5 hg5 hat5)
        go_roundw
        case rel => exact ⟨k + 1, by omega, by go_num, by rw [HE.out]; exact HF5.out⟩
        case measure => simp [intOf]; omega
      · have HE : Hid (((reaL (getO os) frm).take (k + 1) |>.filter fun n => (getO os n).isNone) = ys) := Lib.hid (by rw [HSN.out, ← HXX.out, ← HYS.out]; simp [hno])
        have hr1 : ¬ (r < 0) := by omega
        clear hno
        go_wp2_with fail
        go_roundw
        case rel => exact ⟨k + 1, by omega, by go_num, by rw [HE.out]; exact HF4.out⟩
        case measure => simp [intOf]; omega
    · have hkq : k = q := by omega
      subst hkq
      have HE : Hid (ys = misL (getO os) frm) := Lib.hid (by rw [HYS.out]; unfold misL; rw [List.take_of_length_le (by rw [← HQ.out]; exact Nat.le_refl _)])
      go_wp2_with fail
      go_ret
      exact ⟨_, by rw [← HE.out]; exact HF3.out.1, HF3.out.2.2.2.2, rfl⟩

/-- a store and ids are valid -/
def fromB (os : List ObjD) (xs : List Int) : Bool := storeB os && linksB xs
theorem fromB_and {os : List ObjD} {xs : List Int} (h : fromB os xs = true) : storeB os = true ∧ idsB xs = true ∧ xs.length ≤ 4 := by
  unfold fromB at h
  rw [Bool.and_eq_true] at h
  exact ⟨h.1, linksB_and h.2⟩
set_option maxRecDepth 100000 in
set_option maxHeartbeats 1600000 in
theorem l1From_any (os : List ObjD) (xs : List Int) (A : Option Addr) (n c : Nat) (F : Option Addr) (m d : Nat) (w : World) (lo hi lo' hi' : Nat) (hh : hi ≤ w.heap.size) (hh' : hi' ≤ w.heap.size) (hm : m ≤ 9223372036854775807) (h : D.rd w lo hi (dObjects os) (.slice A n c)) (hf : Ints w lo' hi' F m xs) :
    Calls Tryz.prog 52 #[.slice A n c, .slice F m d] w fun e w' => e = .returned (.bool (fromB os xs)) ∧ Below w.heap.size w w' := by
  have HI := Lib.hid h
  have HF := Lib.hid hf
  have HN := Lib.hid hf.1
  clear h hf
  go_enter Tryz.func52, Tryz.ntmps52
  go_wp2_with fail
  refine (specStoreValid_any os A n c w lo hi hh HI.out).mono ?_
  rintro e w1 ⟨rfl, hb1⟩
  have HB1 := Lib.hid hb1
  have HF1 := Lib.hid (HF.out.below hb1 hh')
  clear hb1
  rcases hs : storeB os with _ | _
  · have HR : Hid (fromB os xs = false) := Lib.hid (by unfold fromB; rw [hs]; rfl)
    clear hs
    go_wp2_with fail
    go_ret
    exact ⟨by rw [HR.out]; rfl, HB1.out⟩
  · have HS := Lib.hid hs
    clear hs
    go_wp2_with fail
    refine (l1Ids_any F m d xs w1 lo' hi' hm HF1.out).mono ?_
    rintro e w2 ⟨rfl, q, rfl⟩
    have HB2 := Lib.hid (below_drewN HB1.out q)
    rcases hi2 : idsB xs with _ | _
    · have HR : Hid (fromB os xs = false) := Lib.hid (by unfold fromB linksB; rw [hi2]; simp)
      clear hi2
      go_wp2_with fail
      go_ret
      exact ⟨by rw [HR.out]; rfl, HB2.out⟩
    · by_cases h4 : m ≤ 4
      · have HR : Hid (fromB os xs = true) := Lib.hid (by unfold fromB linksB; rw [HS.out, hi2, decide_eq_true (by rw [HN.out]; exact h4)]; rfl)
        have h4i : (m : Int) ≤ 4 := by omega
        clear hi2
        go_wp2_with fail
        go_ret
        exact ⟨by rw [HR.out]; rfl, HB2.out⟩
      · have HR : Hid (fromB os xs = false) := Lib.hid (by unfold fromB linksB; rw [decide_eq_false (by rw [HN.out]; exact h4)]; simp)
        have h4i : ¬ (m : Int) ≤ 4 := by omega
        have h4b : decide ((m : Int) ≤ 4) = false := decide_eq_false h4i
        clear hi2 h4i h4
        go_wp2_with fail
        go_ret
        exact ⟨by rw [HR.out]; rfl, HB2.out⟩

open Classical in
/-- what is wanted is complete -/
noncomputable def okF (os : List ObjD) (ws hs : List Int) : Bool := fromB os ws && fromB os hs && decide (misL (getO os) ws = [])
set_option maxRecDepth 100000 in
set_option maxHeartbeats 1600000 in
theorem l32Ok_any (os : List ObjD) (ws hs : List Int) (A : Option Addr) (n c : Nat) (F : Option Addr) (m d : Nat) (G : Option Addr) (k e9 : Nat) (w : World) (lo hi : Nat) (hh : hi ≤ w.heap.size) (hm : m ≤ 9223372036854775807) (hk : k ≤ 9223372036854775807) (h : D.rd w lo hi (dObjects os) (.slice A n c)) (hf : Ints w lo hi F m ws) (hg : Ints w lo hi G k hs) :
    Calls Tryz.prog 25 #[.slice A n c, .slice F m d, .slice G k e9] w fun e w' => e = .returned (.bool (okF os ws hs)) ∧ Below w.heap.size w w' := by
  have HI := Lib.hid h
  have HF := Lib.hid hf
  have HG := Lib.hid hg
  clear h hf hg
  go_enter Tryz.func25, Tryz.ntmps25
  go_wp2_with fail
  refine (l1From_any os ws A n c F m d w lo hi lo hi hh hh hm HI.out HF.out).mono ?_
  rintro e w1 ⟨rfl, hb1⟩
  have HB1 := Lib.hid hb1
  have hh1 : hi ≤ w1.heap.size := Nat.le_trans hh hb1.size
  clear hb1
  rcases h1 : fromB os ws with _ | _
  · have HR : Hid (okF os ws hs = false) := Lib.hid (by unfold okF; rw [h1]; rfl)
    clear h1
    go_wp2_with fail
    go_ret
    exact ⟨by rw [HR.out]; rfl, HB1.out⟩
  have H1 := Lib.hid h1
  clear h1
  go_wp2_with fail
  refine (l1From_any os hs A n c G k e9 w1 lo hi lo hi hh1 hh1 hk (HI.out.below HB1.out hh) (HG.out.below HB1.out hh)).mono ?_
  rintro e w2 ⟨rfl, hb2⟩
  have HB2 := Lib.hid (bel_tr HB1.out (Nat.le_refl _) hb2)
  have hh2 : hi ≤ w2.heap.size := Nat.le_trans hh1 hb2.size
  clear hb2
  rcases h2 : fromB os hs with _ | _
  · have HR : Hid (okF os ws hs = false) := Lib.hid (by unfold okF; rw [h2]; simp)
    clear h2
    go_wp2_with fail
    go_ret
    exact ⟨by rw [HR.out]; rfl, HB2.out⟩
  have H2 := Lib.hid h2
  clear h2
  obtain ⟨s1, s2, s3⟩ := fromB_and H1.out
  have HO := Lib.hid ((storeB_iff _).1 s1).1
  have HD := Lib.hid (idsB_nodup s2)
  have HR0 := Lib.hid (idsB_mem s2)
  clear s1 s2 s3
  go_wp2_with fail
  refine (l1Missing_any os ws A n c F m d w2 lo hi lo hi hh2 hh2 HO.out HD.out HR0.out (HI.out.below HB2.out hh) (HF.out.below HB2.out hh)).mono ?_
  rintro e w3 ⟨v3, hown3, hb3, rfl⟩
  have HB3 := Lib.hid (bel_tr HB2.out (Nat.le_refl _) hb3)
  obtain ⟨q, hq⟩ : ∃ q, q = (misL (getO os) ws).length := ⟨_, rfl⟩
  rw [← hq] at hown3
  obtain ⟨A3, c3, rfl, -⟩ := Rd.of_own hown3
  have HR : Hid (okF os ws hs = decide (q = 0)) := Lib.hid (by
    unfold okF
    rw [H1.out, H2.out, Bool.true_and, Bool.true_and, Bool.eq_iff_iff, decide_eq_true_eq, decide_eq_true_eq, hq, List.length_eq_zero_iff])
  clear hown3 hb3 hq
  by_cases hq0 : q = 0
  · subst hq0
    go_wp2_with fail
    go_ret
    exact ⟨by rw [HR.out]; rfl, HB3.out⟩
  · have hqn : ((q : Int) == 0) = false := beq_false_of_ne (by omega)
    have hqm : (q == 0) = false := beq_false_of_ne hq0
    have HR2 : Hid (okF os ws hs = false) := Lib.hid (by rw [HR.out]; exact decide_eq_false hq0)
    clear hq0
    go_wp2_with fail
    go_ret
    exact ⟨by rw [HR2.out]; rfl, HB3.out⟩

/-- .. and a second list that is looked into -/
def FltB2 (w wr : World) (lo hi hi2 : Nat) (A : Option Addr) (q : Nat) (X : List Int) (A9 : Option Addr) (q9 : Nat) (Y : List Int) (v : Value) (ys : List Int) : Prop :=
  FltB w wr lo hi A q X v ys ∧ Ints wr hi hi2 A9 q9 Y ∧ (∀ g, v.ownBlock = some g → g < hi ∨ hi2 ≤ g) ∧ hi2 ≤ wr.heap.size
section
variable {w wr w' : World} {lo hi hi2 q q9 : Nat} {A A9 : Option Addr} {X Y ys : List Int} {v : Value}
theorem FltB2.app {ob : Obj} {x : Int} {v' : Value} (h : FltB2 w wr lo hi hi2 A q X A9 q9 Y v ys) (ho : w'.ownsRow w.heap.size 3 1 v' (ys.length + 1) (ys.flatMap ci ++ [.int .i64 x])) (hg : (wr.alloc ob).grownBy w' v.ownBlock) (hat : v'.ownBlock = v.ownBlock ∨ v'.ownBlock = some (wr.alloc ob).heap.size) : FltB2 w w' lo hi hi2 A q X A9 q9 Y v' (ys ++ [x]) := by
  obtain ⟨h1, h2, h3, h4⟩ := h
  have hs : (wr.alloc ob).heap.size = wr.heap.size + 1 := by simp
  have hgs := hg.size
  refine ⟨h1.app ho hg hat, (h2.grownR (World.grownBy_alloc wr ob none) h4 (fun g hg => by cases hg)).grownR hg (by omega) h3, fun g hg' => ?_, by omega⟩
  rcases hat with e | e
  · rw [e] at hg'; exact h3 g hg'
  · rw [e] at hg'; injection hg' with hg'; right; omega
theorem FltB2.slice (h : FltB2 w wr lo hi hi2 A q X A9 q9 Y v ys) : ∃ B c, v = .slice B ys.length c := h.1.slice
end
set_option maxRecDepth 100000 in
set_option maxHeartbeats 3200000 in
theorem l32Need_any (os : List ObjD) (frm : List Int) (A : Option Addr) (n c : Nat) (hs : List Int) (F : Option Addr) (m d : Nat) (G : Option Addr) (k9 e9 : Nat) (w : World) (lo hi lo' hi' : Nat) (hh : hi ≤ w.heap.size) (hh' : hi' ≤ w.heap.size) (hv : ∀ o ∈ os, objB o = true) (hd : frm.Nodup) (hr : ∀ x ∈ frm, 0 ≤ x ∧ x ≤ 990) (hd2 : hs.Nodup) (hr2 : ∀ x ∈ hs, 0 ≤ x ∧ x ≤ 990) (hg : Ints w lo' hi' G k9 hs) (h : D.rd w lo hi (dObjects os) (.slice A n c)) (hf : Ints w lo' hi' F m frm) :
    Calls Tryz.prog 26 #[.slice A n c, .slice F m d, .slice G k9 e9] w fun e w' => ∃ v, w'.ownsRow w.heap.size 3 1 v (needL (getO os) frm hs).length ((needL (getO os) frm hs).flatMap ci) ∧ Below w.heap.size w w' ∧ e = .returned v := by
  have HI := Lib.hid h
  have HF := Lib.hid hf
  have HV := Lib.hid hv
  have HD := Lib.hid hd
  have HR := Lib.hid hr
  have hn63 : n ≤ 9223372036854775807 := by have := h.len; omega
  obtain ⟨e0, he0⟩ : ∃ z, z = w.heap.size := ⟨_, rfl⟩
  obtain ⟨w1, hw1⟩ : ∃ z, z = w.alloc (.cells #[] 3) := ⟨_, rfl⟩
  have hb1 : Below w.heap.size w w1 := by rw [hw1]; exact (Below.refl _ _).alloc (Nat.le_refl _) _
  have HN1 : Hid (w1.ownsRow w.heap.size 3 1 (.slice (some ⟨e0, 0, none⟩) 0 0) 0 []) := by rw [hw1, he0]; exact Lib.hid (own_nil_lit w 3 1)
  have HB1 := Lib.hid hb1
  have hl0 : e0 < w1.heap.size := by rw [hw1, he0]; simp
  have HG := Lib.hid hg
  have HD2 := Lib.hid hd2
  have HR2 := Lib.hid hr2
  clear h hf hv hd hr hb1 hg hd2 hr2
  go_enter Tryz.func26, Tryz.ntmps26
  go_upto_region 2 with (fail)
  rw [← hw1, ← he0]
  clear hw1 he0
  go_wp2_with fail
  refine (l1Reach_any os frm A n c F m d w1 lo hi lo' hi' (Nat.le_trans hh HB1.out.size) (Nat.le_trans hh' HB1.out.size) HV.out HD.out HR.out (HI.out.below HB1.out hh) (HF.out.below HB1.out hh')).mono ?_
  rintro e w2 ⟨v2, hown2, hb2, rfl⟩
  have HB2 := Lib.hid (bel_tr HB1.out (Nat.le_refl _) hb2)
  have hb2s := hb2.size
  have HO2 := Lib.hid (own_below HN1.out hb2)
  obtain ⟨q, hq⟩ : ∃ q, q = (reaL (getO os) frm).length := ⟨_, rfl⟩
  have HQ := Lib.hid hq
  have hq991 : q ≤ 991 := by rw [hq]; exact reaL_len _ _
  rw [← hq] at hown2
  obtain ⟨A2, c2, rfl, hc21, hc22, hrd2⟩ := Rd.of_own hown2
  unfold maxLen at hc22
  have HFB : Hid (FltB w w2 w1.heap.size w2.heap.size A2 q (reaL (getO os) frm) (.slice (some ⟨e0, 0, none⟩) 0 0) []) := Lib.hid ⟨HO2.out, ⟨hq.symm, hrd2⟩, fun g hg => by injection hg with hg; left; rw [← hg]; exact hl0, Nat.le_refl _, HB2.out⟩
  clear hown2 hb2 hrd2 hq
  go_wp2_with fail
  refine (l1Reach_any os hs A n c G k9 e9 w2 lo hi lo' hi' (Nat.le_trans hh HB2.out.size) (Nat.le_trans hh' HB2.out.size) HV.out HD2.out HR2.out (HI.out.below HB2.out hh) (HG.out.below HB2.out hh')).mono ?_
  rintro e w9 ⟨v9, hown9, hb9, rfl⟩
  have HF9 := Lib.hid (HFB.out.fresh hb9)
  obtain ⟨q9, hq9⟩ : ∃ q, q = (reaL (getO os) hs).length := ⟨_, rfl⟩
  have HQ9 := Lib.hid hq9
  have hq991b : q9 ≤ 991 := by rw [hq9]; exact reaL_len _ _
  rw [← hq9] at hown9
  obtain ⟨A9, c9, rfl, -, -, hrd9⟩ := Rd.of_own hown9
  have HT9 : Hid (Ints w9 w2.heap.size w9.heap.size A9 q9 (reaL (getO os) hs)) := Lib.hid ⟨hq9.symm, hrd9⟩
  have HFT : Hid (FltB2 w w9 w1.heap.size w2.heap.size w9.heap.size A2 q (reaL (getO os) frm) A9 q9 (reaL (getO os) hs) (.slice (some ⟨e0, 0, none⟩) 0 0) []) := Lib.hid ⟨HF9.out, HT9.out, fun g hg => by injection hg with hg; left; dsimp only at hg; have := hb2s; omega, Nat.le_refl _⟩
  clear hown9 hb9 hrd9 hq9
  go_wp2_with fail
  go_loopw [7, 10] (fun v i wr => ∃ (k : Nat), k ≤ q ∧ i = .int .i64 k ∧ FltB2 w wr w1.heap.size w2.heap.size w9.heap.size A2 q (reaL (getO os) frm) A9 q9 (reaL (getO os) hs) v ((reaL (getO os) frm).take k |>.filter fun n => !hasB n (reaL (getO os) hs))) (fun _ i _ => q - (intOf i).toNat)
  case atStart => exact ⟨0, Nat.zero_le _, rfl, HFT.out⟩
  case round =>
    obtain ⟨k, hk, rfl, hfb⟩ := hrel
    obtain ⟨w3, hw3⟩ : ∃ z, z = wr := ⟨_, rfl⟩
    subst hw3
    obtain ⟨A5, c5, rfl⟩ := hfb.slice
    have HF3 := Lib.hid hfb
    have hws : w.heap.size ≤ w3.heap.size := hfb.1.2.2.2.2.size
    have hjk : ((reaL (getO os) frm).take k |>.filter fun n => !hasB n (reaL (getO os) hs)).length ≤ k := Nat.le_trans (List.length_filter_le _ _) (by rw [List.length_take]; exact Nat.min_le_left _ _)
    obtain ⟨ys, hys⟩ : ∃ ys, ys = ((reaL (getO os) frm).take k |>.filter fun n => !hasB n (reaL (getO os) hs)) := ⟨_, rfl⟩
    have HYS := Lib.hid hys
    rw [← hys] at HF3 hjk
    rw [← hys]
    clear hfb hys
    by_cases hlt : k < q
    · obtain ⟨b, o, hl, rfl, _, hbh, hc⟩ := HF3.out.1.2.1.int hlt
      have hbw : b < w3.heap.size := Nat.lt_of_lt_of_le hbh HF3.out.1.2.2.2.1
      have HSN := Lib.hid (filter_snoc (p := fun n => !hasB n (reaL (getO os) hs)) hl)
      obtain ⟨x, hx⟩ : ∃ x, x = (reaL (getO os) frm)[k] := ⟨_, rfl⟩
      rw [← hx] at hc
      have HXX := Lib.hid hx
      clear hx
      go_wp2_with fail
      refine (l1Has_any A9 q9 c9 (reaL (getO os) hs) x w3 w2.heap.size w9.heap.size (by omega) HF3.out.2.1).mono ?_
      rintro e w4 ⟨rfl, rfl⟩
      obtain ⟨r, hrr⟩ : ∃ r, r = hasB x (reaL (getO os) hs) := ⟨_, rfl⟩
      have HRR := Lib.hid hrr
      rw [← hrr]
      clear hrr
      rcases r with _ | _
      · have HE : Hid (((reaL (getO os) frm).take (k + 1) |>.filter fun n => !hasB n (reaL (getO os) hs)) = ys ++ [x]) := Lib.hid (by rw [HSN.out, ← HXX.out, ← HYS.out]; rw [← HRR.out]; rfl)
        go_wp2_with (at_builtin; go_must (refine wpList_app_at Tryz.elI (m := 1) (HF3.out.1.1.alloc _) (rd_newn (n := w3.heap.size) rfl [.int .i64 x] 3) rfl (by simp [Value.oneCell']) (by unfold maxLen; omega) (by omega) (by simp; omega) rfl rfl rfl rfl ?_); intro v5 w5 hown5 hg5 hat5; go_must (have HF5 := Lib.hid (HF3.out.app hown5 hg5 hat5)); clear hown5 hg5 hat5)
        go_roundw
        case rel => exact ⟨k + 1, by omega, by go_num, by rw [HE.out]; exact HF5.out⟩
        case measure => simp [intOf]; omega
      · have HE : Hid (((reaL (getO os) frm).take (k + 1) |>.filter fun n => !hasB n (reaL (getO os) hs)) = ys) := Lib.hid (by rw [HSN.out, ← HXX.out, ← HYS.out]; rw [← HRR.out]; simp)
        go_wp2_with fail
        go_roundw
        case rel => exact ⟨k + 1, by omega, by go_num, by rw [HE.out]; exact HF3.out⟩
        case measure => simp [intOf]; omega
    · have hkq : k = q := by omega
      subst hkq
      have HE : Hid (ys = needL (getO os) frm hs) := Lib.hid (by rw [HYS.out]; unfold needL; rw [List.take_of_length_le (by rw [← HQ.out]; exact Nat.le_refl _)])
      go_wp2_with fail
      go_ret
      exact ⟨_, by rw [← HE.out]; exact HF3.out.1.1, HF3.out.1.2.2.2.2, rfl⟩

/-- what FetchNeed answers -/
def FetR (w : World) (os : List ObjD) (ws hs : List Int) (e : Ending) (w' : World) : Prop :=
  ∃ v, w'.ownsRow w.heap.size 3 1 v (if okF os ws hs = true then needL (getO os) ws hs else []).length ((if okF os ws hs = true then needL (getO os) ws hs else []).flatMap ci) ∧ Below w.heap.size w w' ∧ e = .returned (.tuple #[v, .bool (okF os ws hs)])
theorem okF_and {os : List ObjD} {ws hs : List Int} (h : okF os ws hs = true) : fromB os ws = true ∧ fromB os hs = true ∧ misL (getO os) ws = [] := by
  unfold okF at h
  rw [Bool.and_eq_true, Bool.and_eq_true, decide_eq_true_eq] at h
  exact ⟨h.1.1, h.1.2, h.2⟩
set_option maxRecDepth 100000 in
set_option maxHeartbeats 1600000 in
theorem specFetch_any (os : List ObjD) (ws hs : List Int) (A : Option Addr) (n c : Nat) (F : Option Addr) (m d : Nat) (G : Option Addr) (k e9 : Nat) (w : World) (lo hi : Nat) (hh : hi ≤ w.heap.size) (hm : m ≤ 9223372036854775807) (hk : k ≤ 9223372036854775807) (h : D.rd w lo hi (dObjects os) (.slice A n c)) (hf : Ints w lo hi F m ws) (hg : Ints w lo hi G k hs) :
    Calls Tryz.prog 19 #[.slice A n c, .slice F m d, .slice G k e9] w fun e w' => FetR w os ws hs e w' := by
  have HI := Lib.hid h
  have HF := Lib.hid hf
  have HG := Lib.hid hg
  clear h hf hg
  go_enter Tryz.func19, Tryz.ntmps19
  go_wp2_with fail
  refine (l32Ok_any os ws hs A n c F m d G k e9 w lo hi hh hm hk HI.out HF.out HG.out).mono ?_
  rintro e w1 ⟨rfl, hb1⟩
  have HB1 := Lib.hid hb1
  have hh1 : hi ≤ w1.heap.size := Nat.le_trans hh hb1.size
  have hs1 := hb1.size
  clear hb1
  rcases hok : okF os ws hs with _ | _
  · have HK := Lib.hid hok
    clear hok
    go_wp2_with fail
    go_ret2
    refine ⟨_, ?_, HB1.out.alloc hs1 _, by rw [HK.out]; rfl⟩
    rw [HK.out]
    exact own_nil_heap (heap_alloc_new w1 _) hs1
  · have HK := Lib.hid hok
    obtain ⟨f1, f2, f3⟩ := okF_and hok
    obtain ⟨s1, s2, s3⟩ := fromB_and f1
    obtain ⟨t1, t2, t3⟩ := fromB_and f2
    have HO := Lib.hid ((storeB_iff _).1 s1).1
    have HD := Lib.hid (idsB_nodup s2)
    have HR0 := Lib.hid (idsB_mem s2)
    have HD2 := Lib.hid (idsB_nodup t2)
    have HR2 := Lib.hid (idsB_mem t2)
    clear hok f1 f2 f3 s1 s2 s3 t1 t2 t3
    go_wp2_with fail
    refine (l32Need_any os ws A n c hs F m d G k e9 w1 lo hi lo hi hh1 hh1 HO.out HD.out HR0.out HD2.out HR2.out (HG.out.below HB1.out hh) (HI.out.below HB1.out hh) (HF.out.below HB1.out hh)).mono ?_
    rintro e w2 ⟨v2, hown2, hb2, rfl⟩
    have HB2 := Lib.hid (bel_tr HB1.out (Nat.le_refl _) hb2)
    have HO2 : Hid (w2.ownsRow w.heap.size 3 1 v2 (needL (getO os) ws hs).length ((needL (getO os) ws hs).flatMap ci)) := Lib.hid (by
      refine ⟨hown2.1, ?_⟩
      rcases hown2.2 with h | ⟨a1, a2, a3, a4, a5, a6⟩
      · exact .inl h
      · exact .inr ⟨a1, a2, a3, a4, Nat.le_trans hs1 a5, a6⟩)
    clear hown2 hb2
    go_wp2_with fail
    go_ret2
    exact ⟨v2, by rw [HK.out]; exact HO2.out, HB2.out, by rw [HK.out]; rfl⟩

end Go.Proofs.YtnaeglfochnikaaGreat

namespace Go.Proofs.YtnaeglfochnikaaGreat
set_option linter.unusedVariables false
set_option linter.unusedSimpArgs false
open Go.RowKit

/-- an element of any kind is read as itself -/
def anyEl (v : Value) : Option (DataW Value × List MemPlace) := some (.held v, [])
/-- block b is a map of at most n entries that reads as C -/
def MapI (P : Program) (k : TypeId) (w : World) (b n : Nat) (C : Int → Option Value) : Prop :=
  ∃ D : DataW Value, w.ownsMap P k anyEl b n D ∧ ∀ i : Int, (Lit.int .i64 i).wf = true → Maps.has D (.int .i64 i) = (C i).isSome ∧ ∀ z : Value, D.atKey (.int .i64 i) (.held z) = .held ((C i).getD z)
section
variable {P : Program} {k e t : TypeId} {w w' : World} {b n : Nat} {C : Int → Option Value}
theorem MapI.made (w : World) (P : Program) (k : TypeId) : MapI P k (w.alloc (.map #[] 0)) w.heap.size 0 (fun _ => none) :=
  ⟨.map [], World.ownsMap_made w P k anyEl, fun _ _ => ⟨rfl, fun _ => rfl⟩⟩
theorem MapI.kept {row : Option Nat} (h : MapI P k w b n C) (hg : w.grownBy w' row) (hne : some b ≠ row) : MapI P k w' b n C := by
  obtain ⟨D, h1, h2⟩ := h
  exact ⟨D, h1.kept hg hne, h2⟩
theorem MapI.alloc (h : MapI P k w b n C) (o : Obj) : MapI P k (w.alloc o) b n C := h.kept (World.grownBy_alloc w o none) (by simp)
theorem MapI.drewN (h : MapI P k w b n C) (m : Nat) : MapI P k (w.drewN m) b n C := h
theorem MapI.lt (h : MapI P k w b n C) : b < w.heap.size := by obtain ⟨D, h1, _⟩ := h; exact h1.lt
theorem MapI.ask (h : MapI P k w b n C) (hk : P.underlying k = some (.int .i64)) (ht : P.underlying t = some (.map k e)) {z : Value} (hz : (zeroValue e).run P w = .ok z w) {i : Int} (hi : (Lit.int .i64 i).wf = true) :
    (Instr.lookup t (.map (some b)) (.int .i64 i) true).run P w = .ok (.tuple #[(C i).getD z, .bool (C i).isSome]) w := by
  obtain ⟨D, h1, h2⟩ := h
  obtain ⟨v, ps, hr, hv⟩ := h1.look_ok (Maps.int_keyed hk) ht hz (zd := .held z) (zp := []) rfl (Maps.keyOf_int_mk hk hi)
  obtain ⟨ha, hb⟩ := h2 i hi
  rw [hb z] at hv
  unfold anyEl at hv
  simp only [Option.some.injEq, Prod.mk.injEq, DataW.held.injEq] at hv
  rw [hr, ha, hv.1]
theorem MapI.get (h : MapI P k w b n C) (hk : P.underlying k = some (.int .i64)) (ht : P.underlying t = some (.map k e)) {z : Value} (hz : (zeroValue e).run P w = .ok z w) {i : Int} (hi : (Lit.int .i64 i).wf = true) :
    (Instr.lookup t (.map (some b)) (.int .i64 i) false).run P w = .ok ((C i).getD z) w := by
  obtain ⟨D, h1, h2⟩ := h
  obtain ⟨v, ps, hr, hv⟩ := h1.lookup (Maps.int_keyed hk) ht hz (zd := .held z) (zp := []) rfl (Maps.keyOf_int_mk hk hi)
  obtain ⟨ha, hb⟩ := h2 i hi
  rw [hb z] at hv
  unfold anyEl at hv
  simp only [Option.some.injEq, Prod.mk.injEq, DataW.held.injEq] at hv
  rw [hr, hv.1]
theorem MapI.set (h : MapI P k w b n C) (hk : P.underlying k = some (.int .i64)) (ht : P.underlying t = some (.map k e)) (hn : n < maxLen) {i : Int} (hi : (Lit.int .i64 i).wf = true) (v : Value) :
    ∃ w', (Instr.mapUpdate t (.map (some b)) (.int .i64 i) v).run P w = .ok () w' ∧ MapI P k w' b (n + 1) (fun j => if j = i then some v else C j) ∧ w.grownBy w' (some b) := by
  obtain ⟨D, h1, h2⟩ := h
  obtain ⟨w', hr, h3, h4⟩ := h1.update (Maps.int_keyed hk) ht hn (Maps.keyOf_int_mk hk hi) (val := v) (d := .held v) (ps := []) rfl
  refine ⟨w', hr, ⟨_, h3, fun j hj => ?_⟩, h4⟩
  have hkl : WideAt.IsKeyLit (.int .i64 i) := by simp [WideAt.IsKeyLit]
  dsimp only
  by_cases e : j = i
  · subst e
    rw [if_pos rfl]
    exact ⟨Maps.has_put_same h1.isMap hkl _, fun z => Maps.atKey_put_same h1.isMap hkl _ _⟩
  · rw [if_neg e]
    have hne : (Lit.int .i64 j) ≠ .int .i64 i := by intro h; injection h with _ h; exact e h
    rw [Maps.has_put_other hne]
    exact ⟨(h2 j hj).1, fun z => by rw [Maps.atKey_put_other hne]; exact (h2 j hj).2 z⟩
theorem MapI.del (h : MapI P k w b n C) (hk : P.underlying k = some (.int .i64)) (ht : P.underlying t = some (.map k e)) {i : Int} (hi : (Lit.int .i64 i).wf = true) (ty : TypeId) :
    ∃ w', (Builtin.delete_ #[t, k] ty #[.map (some b), .int .i64 i]).run P w = .ok (.tuple #[]) w' ∧ MapI P k w' b n (fun j => if j = i then none else C j) ∧ w.grownBy w' (some b) := by
  obtain ⟨D, h1, h2⟩ := h
  obtain ⟨w', hr, h3, h4⟩ := h1.drop (Maps.int_keyed hk) ht (Maps.keyOf_int_mk hk hi) ty
  refine ⟨w', hr, ⟨_, h3, fun j hj => ?_⟩, h4.grown⟩
  dsimp only
  by_cases e : j = i
  · subst e
    rw [if_pos rfl]
    exact ⟨Maps.has_del_same, fun z => Maps.atKey_del_same _⟩
  · rw [if_neg e]
    have hne : (Lit.int .i64 j) ≠ .int .i64 i := by intro h; injection h with _ h; exact e h
    rw [Maps.has_del_other hne]
    exact ⟨(h2 j hj).1, fun z => by rw [Maps.atKey_del_other hne]; exact (h2 j hj).2 z⟩
end

theorem wpList_setI {P : Program} (w : World) {ops : Array Oper} {rest : List Oper} {o : Oper} {a : Act} {Q : Exit → Act → World → Prop}
    (hg : o.guard = none) (m x v : Operand) (t : TypeId) (hop : o.op = Op.mapUpdate t m x v)
    (k e : TypeId) (hk : P.underlying k = some (.int .i64)) (ht : P.underlying t = some (.map k e)) (b n : Nat) (C : Int → Option Value)
    (hm : a.eval m = .map (some b)) (hown : MapI P k w b n C) (hn : n < maxLen) (i : Int) (val : Value) (hi : (Lit.int .i64 i).wf = true) (hx : a.eval x = .int .i64 i) (hv : a.eval v = val)
    (hK : ∀ w', MapI P k w' b (n + 1) (fun j => if j = i then some val else C j) → w.grownBy w' (some b) → wpList P ops Q rest (a.put o.dst undef) w') :
    wpList P ops Q (o :: rest) a w := by
  refine wpList_plain hg fun K' hK' => ?_
  obtain ⟨w', hrun, r1, r2⟩ := hown.set hk ht hn hi val
  unfold Oper.wp
  simp [execOp, hop, hm, hx, hv, hrun, Result.andThen]
  exact hK' _ _ (hK w' r1 r2)

end Go.Proofs.YtnaeglfochnikaaGreat
