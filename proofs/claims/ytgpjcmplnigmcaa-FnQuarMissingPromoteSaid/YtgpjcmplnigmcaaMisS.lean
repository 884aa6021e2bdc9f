/-
  The walk of the reference's QuarantineMissing. Condition: few ids to begin with.
-/
import Derived.Test.YtgpjcmplnigmcaaMisI
import Derived.Test.YtgpjcmplnigmcaaSpecT
import Derived.Test.YtgpjcmplnigmcaaSpecW
import Derived.Test.YtgpjcmplnigmcaaReaT
namespace Go.Proofs.Ytgpjcmplnigmcaa
set_option linter.unusedVariables false
set_option linter.unusedSimpArgs false
open Go.RowKit

theorem bel_drewQ (w : World) (q : Nat) : Below w.heap.size w (w.drewN q) := ⟨rfl, rfl, rfl, Nat.le_refl _, fun _ _ => rfl⟩
theorem rdL_app {w : World} {lo hi : Nat} : ∀ {a b : List D} {x y : List Value}, D.rdL w lo hi a x → D.rdL w lo hi b y → D.rdL w lo hi (a ++ b) (x ++ y)
  | [], b, x, y, h, k => by unfold D.rdL at h; subst h; exact k
  | d :: a, b, x, y, h, k => by
    unfold D.rdL at h
    obtain ⟨v, r, rfl, g2, g3⟩ := h
    rw [List.cons_append, List.cons_append]
    unfold D.rdL
    exact ⟨v, r ++ y, rfl, g2, rdL_app g3 k⟩
theorem rd_row {w : World} {base n lo hi : Nat} {v : Value} {cs : List Value} {os : List ObjD} (h : w.ownsRow base 58 3 v n cs) (hl : D.rdL w lo hi (os.flatMap fObject) cs) (hn : n = os.length) (h1 : lo ≤ base) (h2 : w.heap.size ≤ hi) : ∃ A c, v = .slice A n c ∧ D.rd w lo hi (dObjects os) (.slice A n c) := by
  obtain ⟨A, c, e, hc1, hc2, hrd⟩ := Rd.of_own h
  subst hn
  refine ⟨A, c, e, ?_⟩
  unfold dObjects D.rd
  unfold maxLen at hc2
  exact ⟨A, c, cs, rfl, hc1, by omega, by rw [flat_lenG fObject 3 fObject_len], hrd.more h1 h2, hl⟩

set_option maxRecDepth 100000 in
set_option maxHeartbeats 3200000 in
theorem specQuaMissing_any (os : List ObjD) (zs : List AreaD) (t : Int) (frm : List Int) (A : Option Addr) (n c : Nat) (B : Option Addr) (m d : Nat) (F : Option Addr) (k e' : Nat) (w : World) (lo hi lo' hi' : Nat) (hh : hi ≤ w.heap.size) (hh' : hi' ≤ w.heap.size) (hk : k ≤ 1000) (h : D.rd w lo hi (dObjects os) (.slice A n c)) (h' : D.rd w lo hi (dAreas zs) (.slice B m d)) (hf : D.rd w lo' hi' (intsD frm) (.slice F k e')) :
    Calls Try.prog 24 #[.agg #[.slice A n c, .slice B m d], .int .i64 t, .slice F k e'] w fun e w' => MisR w (quaMis ⟨os, zs⟩ t frm) e w' := by
  obtain ⟨r, hr⟩ : ∃ r, r = w.heap.size := ⟨_, rfl⟩
  obtain ⟨w1, hw1⟩ : ∃ w1, w1 = w.alloc (.cells #[.slice A n c, .slice B m d] 31) := ⟨_, rfl⟩
  have hb1 : Below w.heap.size w w1 := by rw [hw1]; exact (Below.refl _ _).alloc (Nat.le_refl _) _
  have hx1 : w1.heap[r]? = some (.cells #[.slice A n c, .slice B m d] 31 (0, 0)) := by rw [hw1, hr]; exact heap_alloc_new w _
  have k0 : w1.cell? ⟨r, 0, none⟩ = some (.slice A n c) := cell_of_row _ _ _ _ _ _ hx1
  have k1 : w1.cell? ⟨r, 1, none⟩ = some (.slice B m d) := cell_of_row _ _ _ _ _ _ hx1
  have hrs : r < w1.heap.size := hltS hx1
  have HB1 := Lib.hid hb1
  have hh1 : hi ≤ w1.heap.size := Nat.le_trans hh hb1.size
  have hh1' : hi' ≤ w1.heap.size := Nat.le_trans hh' hb1.size
  have HJ1 := Lib.hid (h.below hb1 hh)
  have HI1 := Lib.hid (h'.below hb1 hh)
  have HF1 := Lib.hid (hf.below hb1 hh')
  have HN := Lib.hid h.len.1
  have HM := Lib.hid h'.len.1
  clear h h' hf hb1 hx1
  go_enter Try.func24, Try.ntmps24
  go_upto_region 1 with (fail)
  rw [← hw1, ← hr]
  clear hw1 hr
  go_wp2_with fail
  refine (specQuaValid_any os zs A n c B m d w1 lo hi hh1 HJ1.out HI1.out).mono ?_
  rintro e w2 ⟨rfl, hb2⟩
  have HB2 := Lib.hid (bel_tr HB1.out (Nat.le_refl _) hb2)
  have z0 : w2.cell? ⟨r, 0, none⟩ = some (.slice A n c) := (hb2.cell (p := ⟨r, 0, none⟩) hrs).trans k0
  have z1 : w2.cell? ⟨r, 1, none⟩ = some (.slice B m d) := (hb2.cell (p := ⟨r, 1, none⟩) hrs).trans k1
  have hrs2 : r < w2.heap.size := Nat.lt_of_lt_of_le hrs hb2.size
  have HJ2 := Lib.hid (HJ1.out.below hb2 hh1)
  have HI2 := Lib.hid (HI1.out.below hb2 hh1)
  have HF2 := Lib.hid (HF1.out.below hb2 hh1')
  have hh2 : hi ≤ w2.heap.size := Nat.le_trans hh1 hb2.size
  have hh2' : hi' ≤ w2.heap.size := Nat.le_trans hh1' hb2.size
  have hfl : frm.length = k := HF2.out.ints.1
  clear hb2 k0 k1
  have HE : Hid (∀ (wx : World) (mm : Nat), Below w2.heap.size w2 wx → quaMis ⟨os, zs⟩ t frm = [] → MisR w (quaMis ⟨os, zs⟩ t frm) (.returned (.slice (some ⟨wx.heap.size, 0, none⟩) 0 0)) (wx.alloc (.cells #[] 3))) := Lib.hid fun wx mm hb he => by
    have hb' := bel_tr HB2.out (Nat.le_refl _) hb
    have h0 := own_low (own_nil_lit wx 3 1) hb'.size
    rw [he]
    exact MisR.of_own (ys := []) h0 (hb'.alloc hb'.size _)
  rcases hv : quaB ⟨os, zs⟩ with _ | _
  · have HZ : Hid (proIn ⟨os, zs⟩ t = false) := Lib.hid (by unfold proIn; rw [hv]; rfl)
    clear hv
    go_wp2_with fail
    go_ret
    exact HE.out w2 0 (Below.refl _ _) (quaMis_no (.inl HZ.out))
  · rcases ht : txnB t with _ | _
    · have HZ : Hid (proIn ⟨os, zs⟩ t = false) := Lib.hid (by unfold proIn; rw [ht]; simp)
      have HT := Lib.hid ht
      clear ht hv
      go_wp2_with (go_at_call 43; refine (l12Txn_any t _).mono ?_; rintro e w' ⟨rfl, rfl⟩; rw [HT.out])
      go_ret
      exact HE.out _ 0 (Below.refl _ _) (quaMis_no (.inl HZ.out))
    · have HIN : Hid (proIn ⟨os, zs⟩ t = true) := Lib.hid (by unfold proIn; rw [ht, hv]; rfl)
      have HT := Lib.hid ht
      obtain ⟨⟨v1, v2⟩, v3, v4⟩ := (quaB_iff _).1 hv
      dsimp only at v1 v2 v3 v4
      have HAA := Lib.hid v2
      have HSM : Hid (storeB os = true) := Lib.hid v3
      have HSA : Hid (storeB (areaL zs t) = true) := Lib.hid (areaL_store (q := ⟨os, zs⟩) hv t)
      clear ht hv v1 v2 v3 v4
      rcases hib : idsB frm with _ | _
      · have HLN := Lib.hid hib
        have HLB : Hid (linksB frm = false) := Lib.hid (by unfold linksB; rw [hib]; rfl)
        clear hib
        go_wp2_with (first | (go_at_call 43; refine (l12Txn_any t _).mono ?_; rintro e w' ⟨rfl, rfl⟩; rw [HT.out]) | (go_at_call 72; refine (l1Ids_any F k e' frm w2 lo' hi' (by omega) HF2.out.ints).mono ?_; rintro e w' ⟨rfl, q, rfl⟩; rw [HLN.out]))
        go_ret
        exact HE.out _ 0 (bel_drewQ _ q) (quaMis_no (.inr HLB.out))
      · have HIB := Lib.hid hib
        by_cases h4 : k ≤ 4
        · have HLB : Hid (linksB frm = true) := Lib.hid (by unfold linksB; rw [hib, hfl]; simpa using h4)
          clear hib
          have h4i : ¬ ((4 : Int) < (k : Int)) := by omega
          go_upto_region 3 with (first | (go_at_call 43; refine (l12Txn_any t _).mono ?_; rintro e w' ⟨rfl, rfl⟩; rw [HT.out]) | (go_at_call 72; refine (l1Ids_any F k e' frm w2 lo' hi' (by omega) HF2.out.ints).mono ?_; rintro e w' ⟨rfl, q, rfl⟩; rw [HIB.out]))
          obtain ⟨w3, hw3⟩ : ∃ z, z = w2.drewN q := ⟨_, rfl⟩
          have hb3 : Below w2.heap.size w2 w3 := by rw [hw3]; exact bel_drewQ w2 q
          have y0 : w3.cell? ⟨r, 0, none⟩ = some (.slice A n c) := (hb3.cell (p := ⟨r, 0, none⟩) hrs2).trans z0
          have y1 : w3.cell? ⟨r, 1, none⟩ = some (.slice B m d) := (hb3.cell (p := ⟨r, 1, none⟩) hrs2).trans z1
          have hrs3 : r < w3.heap.size := Nat.lt_of_lt_of_le hrs2 hb3.size
          have HJ3 := HJ2.out.below hb3 hh2
          have HI3 := Lib.hid (HI2.out.below hb3 hh2)
          have HF3 := Lib.hid (HF2.out.below hb3 hh2')
          have HB3 := Lib.hid (bel_tr HB2.out (Nat.le_refl _) hb3)
          have hh3 : hi ≤ w3.heap.size := Nat.le_trans hh2 hb3.size
          have hh3' : hi' ≤ w3.heap.size := Nat.le_trans hh2' hb3.size
          unfold dObjects at HJ3
          obtain ⟨vs, hno, hnc, hc63, hel, hvl, hrd, hrl⟩ := rd_parts HJ3
          have hn16 : n ≤ 16 := by rw [HN.out]; exact ((storeB_iff _).1 HSM.out).2.2
          have HNO : Hid (n = os.length) := Lib.hid hno
          rw [← hno] at hvl
          have HVL := Lib.hid hvl
          have HRD := Lib.hid hrd
          have HRL := Lib.hid hrl
          have HNIL := Lib.hid (own_nil_lit w3 58 3)
          rw [← hw3]
          clear hw3 hb3 HJ3 hno hel hvl hrd hrl hnc hc63 z0 z1
          have y0' : (w3.alloc (.cells #[] 58)).cell? ⟨r, 0, none⟩ = some (.slice A n c) := (World.cell?_alloc_lt w3 _ ⟨r, 0, none⟩ hrs3).trans y0
          go_upto_region 4 with (at_builtin; go_must (refine wpList_app Try.elObj (m := n) HNIL.out (HRD.out.alloc hh3 _) HVL.out (fun u hu => D.rdL.one HRL.out u hu) (by unfold maxLen; omega) (by omega) (by simp) rfl rfl rfl rfl ?_); intro v4 w4 hown4 hg4; rw [Nat.zero_add, List.nil_append] at hown4; go_must (have HO4 := Lib.hid hown4); go_must (have HB34 : Hid (Below w3.heap.size w3 w4) := Lib.hid (below_app ((Below.refl _ w3).alloc (Nat.le_refl _) _) (Nat.le_refl _) (by simp) HNIL.out hg4)); clear hown4 hg4)
          have HB4 := Lib.hid (bel_tr HB3.out (Nat.le_refl _) HB34.out)
          have hs4 := HB34.out.size
          have x0 : w4.cell? ⟨r, 0, none⟩ = some (.slice A n c) := (HB34.out.cell (p := ⟨r, 0, none⟩) hrs3).trans y0
          have x1 : w4.cell? ⟨r, 1, none⟩ = some (.slice B m d) := (HB34.out.cell (p := ⟨r, 1, none⟩) hrs3).trans y1
          have hrs4 : r < w4.heap.size := Nat.lt_of_lt_of_le hrs3 hs4
          have HI4 := Lib.hid (HI3.out.below HB34.out hh3)
          have HF4 := Lib.hid (HF3.out.below HB34.out hh3')
          have HRL4 := Lib.hid (D.rdL.keep (fun q _ hq => HB34.out.cell (Nat.lt_of_lt_of_le hq hh3)) (Nat.le_refl _) (Nat.le_refl _) _ _ HRL.out)
          have hh4 : hi ≤ w4.heap.size := Nat.le_trans hh3 hs4
          have hh4' : hi' ≤ w4.heap.size := Nat.le_trans hh3' hs4
          clear y0 y1 y0'
          go_wp2_with fail
          refine (l13Find_any zs t A n c B m d w4 lo hi hh4 HAA.out HI4.out).mono ?_
          rintro e w5 ⟨rr, hfr, hb5, rfl⟩
          have u0 : w5.cell? ⟨r, 0, none⟩ = some (.slice A n c) := (hb5.cell (p := ⟨r, 0, none⟩) hrs4).trans x0
          have u1 : w5.cell? ⟨r, 1, none⟩ = some (.slice B m d) := (hb5.cell (p := ⟨r, 1, none⟩) hrs4).trans x1
          have HO5 := Lib.hid (own_below HO4.out hb5)
          have HI5 := Lib.hid (HI4.out.below hb5 hh4)
          have HF5 := Lib.hid (HF4.out.below hb5 hh4')
          have HRL5 := Lib.hid (D.rdL.keep (fun q _ hq => hb5.cell (Nat.lt_of_lt_of_le hq hh4)) (Nat.le_refl _) (Nat.le_refl _) _ _ HRL4.out)
          have HB5 := Lib.hid (bel_tr HB4.out (Nat.le_refl _) hb5)
          have hs5 := hb5.size
          have hh5 : hi ≤ w5.heap.size := Nat.le_trans hh4 hs5
          have hh5' : hi' ≤ w5.heap.size := Nat.le_trans hh4' hs5
          have HVM : Hid (∀ o ∈ os ++ areaL zs t, objB o = true) := Lib.hid fun o ho => by
            rcases List.mem_append.1 ho with h1 | h1
            · exact ((storeB_iff _).1 HSM.out).1 o h1
            · exact ((storeB_iff _).1 HSA.out).1 o h1
          have HND := Lib.hid (idsB_nodup HIB.out)
          have HRG := Lib.hid (idsB_mem HIB.out)
          have hm63 : m ≤ 9223372036854775807 := by have := HI5.out.len; omega
          have hws : w.heap.size ≤ w3.heap.size := HB3.out.size
          have hqm := quaMis_yes HIN.out HLB.out
          dsimp only at hqm
          have HQM := Lib.hid hqm
          clear hqm hb5 x0 x1
          rcases hfr.ways with ⟨rfl, -, hal⟩ | ⟨j, hj, rfl, -, hal⟩
          · obtain ⟨A6, c6, hv6, hr6⟩ := rd_row (lo := 0) (hi := w5.heap.size) (os := os ++ areaL zs t) HO5.out (by rw [hal, List.append_nil]; exact D.rdL.keep (fun _ _ _ => rfl) (Nat.zero_le _) hh5 _ _ HRL5.out) (by rw [hal, List.append_nil]; exact HNO.out) (Nat.zero_le _) (Nat.le_refl _)
            subst hv6
            have HR6 := Lib.hid hr6
            clear hr6 hal hfr
            go_wp2_with fail
            refine (l1Missing_any (os ++ areaL zs t) frm A6 n c6 F k e' w5 0 w5.heap.size lo' hi' (Nat.le_refl _) hh5' HVM.out HND.out HRG.out HR6.out HF5.out.ints).mono ?_
            rintro e w6 ⟨v6, hown6, hb6, rfl⟩
            have HO6 := Lib.hid (own_low hown6 HB5.out.size)
            have HB6 := Lib.hid (bel_tr HB5.out (Nat.le_refl _) hb6)
            clear hown6 hb6
            go_wp2_with fail
            go_ret
            rw [HQM.out]
            exact MisR.of_own HO6.out HB6.out
          · have hjm : j < m := by rw [HM.out]; exact hj
            have h0j : (0 : Int) ≤ (j : Int) := by omega
            obtain ⟨b1, o1, hl, A1, n1, c1, rfl, -, hbh, hc0, hc1, ⟨hn1, hm1, hr1⟩⟩ := rd_Area HI5.out hjm
            have hn116 : n1 ≤ 16 := by
              have h1 := hr1.len.1
              have h2 := ((storeB_iff _).1 HSA.out).2.2
              rw [hal] at h2
              omega
            unfold dObjects at hr1
            obtain ⟨vs2, hno2, -, -, -, hvl2, hrd2, hrl2⟩ := rd_parts hr1
            have HVL2 : Hid (vs2.length = n1 * 3) := Lib.hid (by rw [hno2]; exact hvl2)
            have HNO2 : Hid (n1 = zs[j].objs.length) := Lib.hid hno2
            have HRD2 := Lib.hid hrd2
            have HRL2 := Lib.hid hrl2
            have HAL : Hid (areaL zs t = zs[j].objs) := Lib.hid hal
            clear hno2 hvl2 hrd2 hrl2 hr1 hal hfr hc0
            go_wp2_with (at_builtin; go_must (refine wpList_app Try.elObj (m := n1) HO5.out HRD2.out HVL2.out (fun u hu => D.rdL.one HRL2.out u hu) (by unfold maxLen; omega) (by omega) (by omega) rfl rfl rfl rfl ?_); intro v6 w6 hown6 hg6; go_must (have HB56 : Hid (Below w3.heap.size w5 w6) := Lib.hid (below_app (Below.refl _ w5) (Nat.le_refl _) (by omega) HO5.out hg6)); go_must (have HRA := Lib.hid (D.rdL.keep (w' := w6) (lo' := 0) (hi' := w6.heap.size) (fun q _ hq => HB56.out.cell (Nat.lt_of_lt_of_le hq hh3)) (Nat.zero_le _) (Nat.le_trans hh5 HB56.out.size) _ _ HRL5.out)); go_must (have HRB := Lib.hid (D.rdL.keep (w' := w6) (lo' := 0) (hi' := w6.heap.size) (fun q _ hq => HB56.out.cell (Nat.lt_of_lt_of_le hq hh3)) (Nat.zero_le _) (Nat.le_trans hh5 HB56.out.size) _ _ HRL2.out)); go_must (have HF6 := Lib.hid (HF5.out.below HB56.out hh3')); go_must (have HB6 : Hid (Below w.heap.size w w6) := Lib.hid (HB5.out.trans (HB56.out.mono hws))); have hs6 := HB56.out.size; go_must (obtain ⟨A6, c6, hv6, hr6⟩ := rd_row (lo := 0) (hi := w6.heap.size) (os := os ++ areaL zs t) hown6 (by rw [HAL.out, List.flatMap_append]; exact rdL_app HRA.out HRB.out) (by rw [HAL.out, List.length_append, ← HNO.out, ← HNO2.out]) (Nat.zero_le _) (Nat.le_refl _)); subst hv6; have HR6 := Lib.hid hr6; clear hown6 hg6 hr6)
            refine (l1Missing_any (os ++ areaL zs t) frm A6 (n + n1) c6 F k e' w6 0 w6.heap.size lo' hi' (Nat.le_refl _) (by omega) HVM.out HND.out HRG.out HR6.out HF6.out.ints).mono ?_
            rintro e w7 ⟨v7, hown7, hb7, rfl⟩
            have HO7 := Lib.hid (own_low hown7 HB6.out.size)
            have HB7 := Lib.hid (bel_tr HB6.out (Nat.le_refl _) hb7)
            clear hown7 hb7
            go_wp2_with fail
            go_ret
            rw [HQM.out]
            exact MisR.of_own HO7.out HB7.out
        · have HLB : Hid (linksB frm = false) := Lib.hid (by unfold linksB; rw [hib, hfl]; simp; omega)
          clear hib
          have h4i : (4 : Int) < (k : Int) := by omega
          go_wp2_with (first | (go_at_call 43; refine (l12Txn_any t _).mono ?_; rintro e w' ⟨rfl, rfl⟩; rw [HT.out]) | (go_at_call 72; refine (l1Ids_any F k e' frm w2 lo' hi' (by omega) HF2.out.ints).mono ?_; rintro e w' ⟨rfl, q, rfl⟩; rw [HIB.out]))
          go_ret
          exact HE.out _ 0 (bel_drewQ _ q) (quaMis_no (.inr HLB.out))

end Go.Proofs.Ytgpjcmplnigmcaa
