/-
  The walks of the reference's l1Get, l1Reach, l1Missing, l1From and l32Need: what is reached over links. Condition: the objects and the ids are valid.
-/
import Derived.Test.YtgpjcmplnigmcaaReaP
import Derived.Test.YtgpjcmplnigmcaaM7
import Derived.Test.YtgpjcmplnigmcaaStorU
namespace Go.Proofs.Ytgpjcmplnigmcaa
set_option linter.unusedVariables false
set_option linter.unusedSimpArgs false
open Go.RowKit

/-- the place of the object with an id -/
def GetR (os : List ObjD) (id r : Int) : Prop := (r = -1 ∧ getO os id = none) ∨ ∃ (k : Nat) (h : k < os.length), r = k ∧ getO os id = some os[k]
theorem getO_first {os : List ObjD} {id : Int} {k : Nat} (h : k < os.length) (h1 : ∀ j (hj : j < os.length), j < k → idB os[j] ≠ id) (h2 : idB os[k] = id) : getO os id = some os[k] := by
  unfold getO
  rw [List.find?_eq_some_iff_append]
  refine ⟨by simpa using h2, os.take k, os.drop (k + 1), ?_, fun a ha => ?_⟩
  · rw [← List.drop_eq_getElem_cons h, List.take_append_drop]
  · obtain ⟨j, hj, rfl⟩ := List.getElem_of_mem ha
    rw [List.length_take] at hj
    rw [List.getElem_take]
    simpa using h1 j (by omega) (by omega)

set_option maxRecDepth 100000 in
set_option maxHeartbeats 1600000 in
theorem l1Get_any (os : List ObjD) (id : Int) (A : Option Addr) (n c : Nat) (w : World) (lo hi : Nat) (hh : hi ≤ w.heap.size) (hv : ∀ o ∈ os, objB o = true) (h : D.rd w lo hi (dObjects os) (.slice A n c)) :
    Calls Try.prog 107 #[.slice A n c, .int .i64 id] w fun e w' => ∃ r : Int, GetR os id r ∧ Below w.heap.size w w' ∧ e = .returned (.int .i64 r) := by
  have HI := Lib.hid h
  have HV := Lib.hid hv
  have HN := Lib.hid h.len.1
  have hn63 : n ≤ 9223372036854775807 := by have := h.len; omega
  clear h hv
  go_enter Try.func107, Try.ntmps107
  go_wp2_with fail
  go_loopw [5] (fun i wr => ∃ k : Nat, k ≤ n ∧ i = .int .i64 k ∧ Hid (∀ j (h : j < os.length), j < k → idB os[j] ≠ id) ∧ Below w.heap.size w wr) (fun i _ => n - (intOf i).toNat)
  case atStart => exact ⟨0, Nat.zero_le _, rfl, fun j _ h => by omega, Below.refl _ _⟩
  case round =>
    obtain ⟨k, hk, rfl, HT, hb⟩ := hrel
    have HB := Lib.hid hb
    have hws := hb.size
    clear hb
    by_cases hlt : k < n
    · obtain ⟨b, o, hl, A1, n1, c1, rfl, _, hbh, hc0, hc1, hc2, ⟨hn1, hm1, hr1⟩, -⟩ := rd_Object (HI.out.below HB.out hh) hlt
      have HOV := Lib.hid (HV.out _ (List.getElem_mem hl))
      have HR1 := Lib.hid hr1
      obtain ⟨o1, ho1⟩ : ∃ o1, o1 = os[k] := ⟨_, rfl⟩
      rw [← ho1] at hc0 hc2
      rw [← ho1] at HOV HR1
      have HO1 := Lib.hid ho1
      obtain ⟨kind, links, text⟩ := o1
      dsimp only at hc0 hc2 HR1
      have hhr : hi ≤ wr.heap.size := Nat.le_trans hh hws
      clear hr1 ho1
      go_wp2_with fail
      refine (l1Of_any kind links text A1 n1 c1 wr lo hi hhr HOV.out HR1.out).mono ?_
      rintro e w2 ⟨rfl, hb2⟩
      have HB2 := Lib.hid (bel_tr HB.out (Nat.le_refl _) hb2)
      clear hb2
      obtain ⟨x, hx⟩ : ∃ x, x = idB ⟨kind, links, text⟩ := ⟨_, rfl⟩
      rw [← hx]
      by_cases he : x = id
      · have HG : Hid (GetR os id k) := Lib.hid (.inr ⟨k, hl, rfl, getO_first hl HT.out (by rw [← HO1.out, ← hx]; exact he)⟩)
        have hd : (x == id) = true := by simp [he]
        clear he hx
        go_wp2_with fail
        go_ret
        exact ⟨k, HG.out, HB2.out, rfl⟩
      · have HT2 : Hid (∀ j (h : j < os.length), j < k + 1 → idB os[j] ≠ id) := Lib.hid fun j hj hjk e => by
          rcases Nat.lt_or_ge j k with h1 | h1
          · exact HT.out j hj h1 e
          · have : j = k := by omega
            subst this
            rw [← HO1.out, ← hx] at e; exact he e
        have hd : (x == id) = false := by simp [he]
        clear he hx
        go_wp2_with fail
        go_roundw
        case rel => exact ⟨k + 1, by omega, by go_num, HT2, HB2.out⟩
        case measure => simp [intOf]; omega
    · have hkn : k = n := by omega
      subst hkn
      have HG : Hid (GetR os id (-1)) := Lib.hid (.inl ⟨rfl, getO_none.2 fun o ho e => by
        obtain ⟨j, hj, rfl⟩ := List.getElem_of_mem ho
        exact HT.out j hj (by rw [HN.out]; exact hj) e⟩)
      go_wp2_with fail
      go_ret
      exact ⟨-1, HG.out, HB.out, rfl⟩

theorem srtL_eq (xs : List Int) : srtL xs = srtR xs := by
  unfold srtL srtTo srtR
  congr 1
theorem hasB_iff (x : Int) (xs : List Int) : hasB x xs = true ↔ x ∈ xs := by unfold hasB; simp
theorem link_rng {o : ObjD} (h : objB o = true) : ∀ l ∈ o.links, 0 ≤ l ∧ l ≤ 990 := fun l hl => idsB_mem (objB_and h).1 l hl

set_option maxRecDepth 100000 in
set_option maxHeartbeats 6400000 in
theorem l1Reach_any (os : List ObjD) (frm : List Int) (A : Option Addr) (n c : Nat) (F : Option Addr) (m d : Nat) (w : World) (lo hi lo' hi' : Nat) (hh : hi ≤ w.heap.size) (hh' : hi' ≤ w.heap.size) (hv : ∀ o ∈ os, objB o = true) (hd : frm.Nodup) (hr : ∀ x ∈ frm, 0 ≤ x ∧ x ≤ 990) (h : D.rd w lo hi (dObjects os) (.slice A n c)) (hf : Ints w lo' hi' F m frm) :
    Calls Try.prog 106 #[.slice A n c, .slice F m d] w fun e w' => ∃ v, w'.ownsRow w.heap.size 3 1 v (reaL (getO os) frm).length ((reaL (getO os) frm).flatMap ci) ∧ Below w.heap.size w w' ∧ e = .returned v := by
  have HI := Lib.hid h
  have HF := Lib.hid hf
  have HV := Lib.hid hv
  have hlen := Lib.hid hf.1
  have hm991 : m ≤ 991 := by rw [← hf.1]; exact nodup_len hd hr
  have HW0 := Lib.hid (WorkI.start (M := getO os) hd hr)
  have HNIL := Lib.hid (own_nil_lit w 3 1)
  have HA0 : Hid (Below w.heap.size w (w.alloc (.cells #[] 3))) := Lib.hid ((Below.refl _ _).alloc (Nat.le_refl _) _)
  clear h hf hv hd hr
  go_enter Try.func106, Try.ntmps106
  go_wp2_with (at_builtin; go_must (refine wpList_app Try.elI (m := m) HNIL.out (HF.out.2.alloc hh' _) (by rw [flat_len ci 1 ci_len, hlen.out]) (by rw [flat_ci]; simp [Value.oneCell']) (by unfold maxLen; omega) (by omega) (by simp) rfl rfl rfl rfl ?_); intro v1 w1 hown1 hg1; rw [Nat.zero_add, List.nil_append] at hown1; have HO1 := Lib.hid hown1; have HB1 := Lib.hid (below_app HA0.out (Nat.le_refl _) (by simp) HNIL.out hg1); clear hown1 hg1)
  have HO1' : Hid (w1.ownsRow w.heap.size 3 1 v1 frm.length (frm.flatMap ci)) := Lib.hid (by rw [hlen.out]; exact HO1.out)
  go_loopw [5, 6] (fun v i wr => ∃ (k : Nat) (out : List Int), k ≤ out.length ∧ i = .int .i64 k ∧ Hid (WorkI (getO os) frm out k) ∧ wr.ownsRow w.heap.size 3 1 v out.length (out.flatMap ci) ∧ Below w.heap.size w wr) (fun _ i _ => 991 - (intOf i).toNat)
  case atStart => exact ⟨0, frm, Nat.zero_le _, rfl, HW0.out, HO1'.out, HB1.out⟩
  case round =>
    obtain ⟨k, out, hk, rfl, HW, hown, hb⟩ := hrel
    have hq991 := HW.out.len
    obtain ⟨q, hq⟩ : ∃ q, q = out.length := ⟨_, rfl⟩
    rw [← hq] at hk hown hq991
    have HQ := Lib.hid hq
    obtain ⟨A5, c5, rfl, hc51, hc52, hrd5⟩ := Rd.of_own hown
    unfold maxLen at hc52
    have HIX : Hid (Ints wr w.heap.size wr.heap.size A5 q out) := Lib.hid ⟨hq.symm, hrd5⟩
    have HO := Lib.hid hown
    have HB := Lib.hid hb
    have hws := hb.size
    clear hown hb hrd5 HO1 HO1' HB1 HW0 hq
    by_cases hlt : k < q
    · have hko : k < out.length := by rw [← HQ.out]; exact hlt
      obtain ⟨b, o, hl, rfl, _, hbh, hc⟩ := HIX.out.int hlt
      have hhr : hi ≤ wr.heap.size := Nat.le_trans hh hws
      obtain ⟨x, hx⟩ : ∃ x, x = out[k] := ⟨_, rfl⟩
      rw [← hx] at hc
      have HX := Lib.hid hx
      clear hx
      go_wp2_with fail
      refine (l1Get_any os x A n c wr lo hi hhr HV.out (HI.out.below HB.out hh)).mono ?_
      rintro e w2 ⟨r, hgr, hb2, rfl⟩
      have HG := Lib.hid hgr
      have HB2 := Lib.hid (bel_tr HB.out (Nat.le_refl _) hb2)
      have HO2 := Lib.hid (own_below HO.out hb2)
      have hws2 := HB2.out.size
      clear hgr hb2 hc
      rcases HG.out with ⟨rfl, hno⟩ | ⟨j0, hj0, rfl, hsome⟩
      · have HW2 := Lib.hid (HW.out.skip hko (by rw [← HX.out]; exact hno))
        have HO2' : Hid (w2.ownsRow w.heap.size 3 1 (.slice (some ⟨b, o, none⟩) q c5) out.length (out.flatMap ci)) := Lib.hid (by rw [← HQ.out]; exact HO2.out)
        clear hno
        go_wp2_with fail
        go_loopw [5, 8] (fun v j wx => v = .slice (some ⟨b, o, none⟩) q c5 ∧ j = .int .i64 0 ∧ wx = w2) (fun _ _ _ => 0)
        case atStart => exact ⟨rfl, rfl, rfl⟩
        case round =>
          obtain ⟨rfl, rfl, rfl⟩ := hrel
          go_wp2_with fail
          go_roundw
          case rel => exact ⟨k + 1, out, by rw [← HQ.out]; omega, by go_num, HW2, HO2'.out, HB2.out⟩
          case measure => simp [intOf]; omega
      · have HOV := Lib.hid (HV.out _ (List.getElem_mem hj0))
        have hjn : j0 < n := by have := HI.out.len.1; omega
        have h0j : decide ((0 : Int) ≤ (j0 : Int)) = true := decide_eq_true (Int.natCast_nonneg j0)
        obtain ⟨ob, hob⟩ : ∃ ob, ob = os[j0] := ⟨_, rfl⟩
        have HOB := Lib.hid hob
        have HW2 := Lib.hid (HW.out.step (o := ob) hko (by rw [← HX.out, hob]; exact hsome) (link_rng (by rw [hob]; exact HOV.out)))
        have hl4 : ob.links.length ≤ 4 := by rw [hob]; exact (objB_and HOV.out).2.1
        have HO2' : Hid (w2.ownsRow w.heap.size 3 1 (.slice (some ⟨b, o, none⟩) q c5) (addTo out ob.links 0).length ((addTo out ob.links 0).flatMap ci)) := Lib.hid (by rw [addTo_zero, ← HQ.out]; exact HO2.out)
        clear hsome hob
        go_wp2_with fail
        go_loopw [5, 8] (fun v j wx => ∃ i : Nat, i ≤ ob.links.length ∧ j = .int .i64 i ∧ wx.ownsRow w.heap.size 3 1 v (addTo out ob.links i).length ((addTo out ob.links i).flatMap ci) ∧ Below w.heap.size w wx) (fun _ j _ => ob.links.length - (intOf j).toNat)
        case atStart => exact ⟨0, Nat.zero_le _, rfl, HO2'.out, HB2.out⟩
        case round =>
          obtain ⟨i, hi4, rfl, hown, hb⟩ := hrel
          obtain ⟨w3, hw3⟩ : ∃ z, z = wr := ⟨_, rfl⟩
          subst hw3
          obtain ⟨q3, hq3⟩ : ∃ q3, q3 = (addTo out ob.links i).length := ⟨_, rfl⟩
          have HQ3 := Lib.hid hq3
          have hq3b : q3 ≤ 2000 := by
            have h1 := nodup_len (addTo_nodup HW.out.1 hi4) (fun z hz => by
              rcases (addTo_mem hi4 z).1 hz with h1 | h1
              · exact HW.out.2.1 z h1
              · exact link_rng (by rw [HOB.out]; exact HOV.out) z (List.mem_of_mem_take h1))
            omega
          rw [← hq3] at hown
          obtain ⟨A7, c7, rfl, hc71, hc72, hrd7⟩ := Rd.of_own hown
          unfold maxLen at hc72
          have HI7 : Hid (Ints w3 w.heap.size w3.heap.size A7 q3 (addTo out ob.links i)) := Lib.hid ⟨hq3.symm, hrd7⟩
          have HO3 := Lib.hid hown
          have HB3 := Lib.hid hb
          have hws3 := hb.size
          clear hown hb hrd7 HO2' hq3
          obtain ⟨b4, o4, hl4', A8, n8, c8, rfl, _, hbh4, hd0, hd1, hd2, ⟨hn8, hm8, hr8⟩, -⟩ := rd_Object (HI.out.below HB3.out hh) hjn
          rw [← HOB.out] at hr8
          obtain rfl : n8 = ob.links.length := hr8.len.1
          have HR8 := Lib.hid hr8.ints
          have hb4w : b4 < w3.heap.size := by omega
          clear hr8 hl4' hd0 hd2
          by_cases hlt3 : i < ob.links.length
          · obtain ⟨b5, o5, hl5, rfl, _, hbh5, hc5⟩ := HR8.out.int hlt3
            have hb5w : b5 < w3.heap.size := by omega
            obtain ⟨y, hy⟩ : ∃ y, y = ob.links[i] := ⟨_, rfl⟩
            rw [← hy] at hc5
            have HS := Lib.hid (addTo_succ (out := out) hlt3)
            rcases hvb : hasB y (addTo out ob.links i) with _ | _
            · have HE : Hid (addTo out ob.links (i + 1) = addTo out ob.links i ++ [y]) := Lib.hid (by rw [HS.out, ← hy, if_neg (fun hm => by rw [(hasB_iff _ _).2 hm] at hvb; cases hvb)])
              have HVB := Lib.hid hvb
              clear hvb hy
              go_wp2_with fail
              refine (l1Has_any A7 q3 c7 (addTo out ob.links i) y w3 w.heap.size w3.heap.size (by omega) HI7.out).mono ?_
              rintro e w4 ⟨rfl, rfl⟩
              rw [HVB.out]
              go_wp2_with (at_builtin; go_must (refine wpList_app Try.elI (m := 1) (HO3.out.alloc _) (rd_newn (n := w3.heap.size) rfl [.int .i64 y] 3) rfl (by simp [Value.oneCell']) (by unfold maxLen; omega) (by omega) (by simp; omega) rfl rfl rfl rfl ?_); intro v5 w5 hown5 hg5; have HO5 := Lib.hid hown5; have HB5 := Lib.hid (below_app (HB3.out.alloc hws3 _) (Nat.le_refl _) (by simp; omega) (HO3.out.alloc _) hg5); clear hown5 hg5)
              have HO6 : Hid (w5.ownsRow w.heap.size 3 1 v5 (addTo out ob.links (i + 1)).length ((addTo out ob.links (i + 1)).flatMap ci)) := Lib.hid (by rw [HE.out, List.length_append, ← HQ3.out, List.flatMap_append]; exact HO5.out)
              go_roundw
              case rel => exact ⟨i + 1, by omega, by go_num, HO6.out, HB5.out⟩
              case measure => simp [intOf]; omega
            · have HE : Hid (addTo out ob.links (i + 1) = addTo out ob.links i) := Lib.hid (by rw [HS.out, ← hy, if_pos ((hasB_iff _ _).1 hvb)])
              have HVB := Lib.hid hvb
              clear hvb hy
              go_wp2_with fail
              refine (l1Has_any A7 q3 c7 (addTo out ob.links i) y w3 w.heap.size w3.heap.size (by omega) HI7.out).mono ?_
              rintro e w4 ⟨rfl, rfl⟩
              rw [HVB.out]
              have HO6 : Hid (w3.ownsRow w.heap.size 3 1 (.slice A7 q3 c7) (addTo out ob.links (i + 1)).length ((addTo out ob.links (i + 1)).flatMap ci)) := Lib.hid (by rw [HE.out, ← HQ3.out]; exact HO3.out)
              go_wp2_with fail
              go_roundw
              case rel => exact ⟨i + 1, by omega, by go_num, HO6.out, HB3.out⟩
              case measure => simp [intOf]; omega
          · have hin : i = ob.links.length := by omega
            subst hin
            have HO6 : Hid (w3.ownsRow w.heap.size 3 1 (.slice A7 q3 c7) (addTo out ob.links ob.links.length).length ((addTo out ob.links ob.links.length).flatMap ci)) := Lib.hid (by rw [← HQ3.out]; exact HO3.out)
            have hkl : k + 1 ≤ (addTo out ob.links ob.links.length).length := by
              obtain ⟨rr, hrr⟩ := addTo_prefix (out := out) (ls := ob.links) (Nat.le_refl _)
              rw [hrr, List.length_append]; omega
            go_wp2_with fail
            go_roundw
            case rel => exact ⟨k + 1, addTo out ob.links ob.links.length, hkl, by go_num, HW2, HO6.out, HB3.out⟩
            case measure => simp [intOf]; omega
    · have hkq : k = q := by omega
      subst hkq
      have HR : Hid (reaL (getO os) frm = srtL out) := Lib.hid (by rw [srtL_eq]; exact reaL_of (HW.out.done (by rw [← HQ.out]; exact Nat.le_refl _)))
      go_wp2_with fail
      refine (l1Sorted_any A5 k c5 out wr w.heap.size wr.heap.size (Nat.le_refl _) (by omega) HIX.out).mono ?_
      rintro e w2 ⟨v2, hown2, hb2, rfl⟩
      have HB2 := Lib.hid (bel_tr HB.out (Nat.le_refl _) hb2)
      have HO2 : Hid (w2.ownsRow w.heap.size 3 1 v2 (reaL (getO os) frm).length ((reaL (getO os) frm).flatMap ci)) := Lib.hid (by
        rw [HR.out]
        refine ⟨hown2.1, ?_⟩
        rcases hown2.2 with h | ⟨a1, a2, a3, a4, a5, a6⟩
        · exact .inl h
        · exact .inr ⟨a1, a2, a3, a4, Nat.le_trans hws a5, a6⟩)
      clear hown2 hb2
      go_wp2_with fail
      go_ret
      exact ⟨v2, HO2.out, HB2.out, rfl⟩

end Go.Proofs.Ytgpjcmplnigmcaa
