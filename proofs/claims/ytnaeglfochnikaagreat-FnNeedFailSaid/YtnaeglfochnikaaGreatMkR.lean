/-
  The walk of the reference's PackMake over valid objects: the pack that the plain law says, in new memory. Condition: few objects.
-/
import Derived.Test.YtnaeglfochnikaaGreatMkQ
namespace Go.Proofs.YtnaeglfochnikaaGreat
set_option linter.unusedVariables false
set_option linter.unusedSimpArgs false
open Go.RowKit

theorem OwnT.own {w : World} {lo : Nat} {ds : List D} {us : List Value} (h : OwnT w lo ds us) : OwnL w lo ds us := by
  obtain ⟨G, h1, h2, h3, -⟩ := h
  exact ⟨G, h1, h2, h3⟩
/-- an entry's parts have been made behind a row of entries -/
theorem ent_made {w w3 w5 : World} {k lo1 lo2 nk d n5 c5 : Nat} {v : Value} {es : List D} {kind r : Int} {links : List Int} {b t : ByteArray} {B A5 : Option Addr} (hgr : Grow w3 w.heap.size 60 4 v k es) (hs : w.heap.size ≤ w3.heap.size) (hb : Below w3.heap.size w3 w5) (hl1 : w3.heap.size ≤ lo1) (hl2 : w3.heap.size ≤ lo2) (h1 : w5.ownsRow lo1 3 1 (.slice B nk d) nk (links.flatMap ci)) (h2 : w5.ownsRow lo2 96 3 (.slice A5 n5 c5) n5 ((makeB b t).flatMap co)) :
    ∃ vs, w5.ownsRow w.heap.size 60 4 v k vs ∧ ∃ F G, w5.ownsRow w.heap.size 60 4 v k vs ∧ D.ownL w5 es F vs ∧ D.ownL w5 (fPackEntry ⟨kind, links, r, makeB b t⟩) G [.int .i64 kind, .slice B nk d, .int .i64 r, .slice A5 n5 c5] ∧ (F ++ G).Nodup ∧ (∀ g ∈ F ++ G, w.heap.size ≤ g ∧ g < w5.heap.size) ∧ ∀ g, v.ownBlock = some g → g ∉ F ++ G := by
  obtain ⟨vs, F, G, hov, hrest⟩ := GrowP.mk_ hgr hb (OwnT.ent (kind := kind) (r := r) hl1 hl2 h1 h2 makeB_txt).own hs
  exact ⟨vs, hov, F, G, hov, hrest⟩

set_option maxHeartbeats 6400000 in
set_option maxRecDepth 100000 in
theorem specMk_any (os : List ObjD) (A : Option Addr) (n c : Nat) (w : World) (lo hi : Nat) (hh : hi ≤ w.heap.size) (hn : n ≤ 16) (ho : ∀ o ∈ os, objB o = true) (h : D.rd w lo hi (dObjects os) (.slice A n c)) :
    Calls Tryz.prog 28 #[.slice A n c] w fun e w' => ∃ B d, Own w' w.heap.size (dPackEntrys (mkL os)) (.slice B (mkL os).length d) ∧ Below w.heap.size w w' ∧ e = .returned (.tuple #[.slice B (mkL os).length d, .bool true]) := by
  have HI := Lib.hid h
  have HS := Lib.hid ho
  have HN := Lib.hid h.len.1
  have HNIL := Lib.hid (own_nil_lit w 60 4)
  have hs0 : w.heap.size ≤ (w.alloc (.cells #[] 60)).heap.size := by simp
  clear h ho
  go_enter Tryz.func28, Tryz.ntmps28
  go_wp2_with fail
  go_loopw [4, 5] (fun v i wr => ∃ (k : Nat) (ps : List PED), k ≤ n ∧ i = .int .i64 k ∧ Hid (ps.length = k) ∧ Hid (ps = mkTo os k) ∧ Grow wr w.heap.size 60 4 v k (ps.flatMap fPackEntry) ∧ Below w.heap.size w wr) (fun _ i _ => n - (intOf i).toNat)
  case atStart => exact ⟨0, [], Nat.zero_le _, rfl, rfl, Lib.hid rfl, Grow.nil HNIL.out, (Below.refl _ _).alloc (Nat.le_refl _) _⟩
  case round =>
    obtain ⟨k, ps, hk, rfl, HL, HPS, hgr, hb⟩ := hrel
    obtain ⟨B6, d6, rfl, hd61, hd62, -⟩ := hgr.own.rd.arr_inv
    have HGR := Lib.hid hgr
    have HB := Lib.hid hb
    have hwsz := hb.size
    clear hb hgr
    by_cases hlt : k < n
    · obtain ⟨b, o, hp, A1, nk, c1, rfl, _, hbh, hc0, hc1, hc2, ⟨hn1, hm1, hr1⟩, -⟩ := rd_Object (HI.out.below HB.out hh) hlt
      have HR1 := Lib.hid hr1
      have hob := objB_and (HS.out _ (List.getElem_mem hp))
      have ht9 : os[k].text.size ≤ 8 := hob.2.2.1
      have hnk : nk ≤ 4 := by have h9 := hr1.ints.1; have h8 := hob.2.1; omega
      have HVK : Hid (objB ⟨os[k].kind, os[k].links, os[k].text⟩ = true) := Lib.hid (HS.out _ (List.getElem_mem hp))
      have hhr : hi ≤ wr.heap.size := Nat.le_trans hh hwsz
      clear hr1 hob
      have hbw0 : b < w.heap.size := by omega
      have HCW : Hid (w.cell? ⟨b, o + k * 3, none⟩ = some (.int .i64 os[k].kind) ∧ w.cell? ⟨b, o + k * 3 + 1, none⟩ = some (.slice A1 nk c1) ∧ w.cell? ⟨b, o + k * 3 + 2, none⟩ = some (.string os[k].text)) := ⟨(HB.out.cell hbw0).symm.trans hc0, (HB.out.cell hbw0).symm.trans hc1, (HB.out.cell hbw0).symm.trans hc2⟩
      go_wp2_with fail
      refine (objValid_any os[k].kind os[k].links os[k].text A1 nk c1 wr lo hi hhr (by omega) HR1.out).mono ?_
      rintro e w1 ⟨rfl, hb1⟩
      have HB1 := Lib.hid (bel_tr HB.out (Nat.le_refl _) hb1)
      have HGR1 := Lib.hid (HGR.out.fresh hb1)
      have hbw : b < wr.heap.size := by omega
      have k0 := (hb1.cell (p := ⟨b, o + k * 3, none⟩) hbw).trans hc0
      have k1 := (hb1.cell (p := ⟨b, o + k * 3 + 1, none⟩) hbw).trans hc1
      have k2 := (hb1.cell (p := ⟨b, o + k * 3 + 2, none⟩) hbw).trans hc2
      have HI1 := Lib.hid (HI.out.below HB1.out hh)
      have HR11 := Lib.hid (HR1.out.below hb1 hhr)
      have hs1 := hb1.size
      have hh1 : hi ≤ w1.heap.size := by omega
      have hws1 : w.heap.size ≤ w1.heap.size := by omega
      clear hb1 hc0 hc1 hc2
      rw [HVK.out]
      have hbi : (n : Int) ≤ 16 := by omega
      · skip
        · skip
          have HRP : Hid (D.rd w1 w.heap.size w1.heap.size (dPackEntrys ps) (.slice B6 k d6)) := by
            show D.rd _ _ _ _ _
            unfold dPackEntrys
            rw [HL.out]
            exact HGR1.out.own.rd
          go_wp2_with fail
          refine (l3Best_ex ps os B6 (some ⟨b, o, none⟩) k d6 n c os[k].text _ w.heap.size w1.heap.size lo hi (Nat.le_refl _) hh1 (by omega) (by omega) (by omega) HS.out HRP.out HI1.out (by rw [HPS.out]; exact mkTo_all os k)).mono ?_
          rintro e w2 ⟨rfl, hb2⟩
          obtain ⟨r, hrr⟩ : ∃ z, z = bstTo ps os os[k].text k := ⟨_, rfl⟩
          obtain ⟨hr1, hr2, -⟩ := bstTo_bd ps os os[k].text k
          rw [← hrr] at hr1 hr2
          have HRR := Lib.hid hrr
          rw [← hrr]
          clear hrr
          have HB2 := Lib.hid (bel_tr HB1.out (Nat.le_refl _) hb2)
          have HGR2 := Lib.hid (HGR1.out.fresh hb2)
          have hb1w : b < w1.heap.size := by omega
          have j0 := (hb2.cell (p := ⟨b, o + k * 3, none⟩) hb1w).trans k0
          have j1 := (hb2.cell (p := ⟨b, o + k * 3 + 1, none⟩) hb1w).trans k1
          have j2 := (hb2.cell (p := ⟨b, o + k * 3 + 2, none⟩) hb1w).trans k2
          have HI2 := Lib.hid (HI1.out.below hb2 hh1)
          have HR2 := Lib.hid (HR11.out.below hb2 hh1)
          have hs2 := hb2.size
          clear hb2 k0 k1 k2 HRP HI1 HGR1 HB1 HR1 HR11
          go_upto_if 36 with (fail)
          go_cut [7] (fun v wx => (∃ bt, v = .string bt ∧ bt.size ≤ 9 ∧ Hid (bt = txtO os r)) ∧ wx = w2)
          case first =>
            by_cases h0 : 0 ≤ r
            · obtain ⟨j, rfl⟩ := Int.eq_ofNat_of_zero_le h0
              have hjk : j < k := by omega
              obtain ⟨b2, o2, hl2, A2, n2, c2, e2, -, hb2h, -, -, ht2, -, -⟩ := rd_Object HI2.out (k := j) (by omega)
              injection e2 with e2
              injection e2 with ea eb ec
              subst ea eb
              have hs2' : os[j].text.size ≤ 9 := by have := (objB_and (HS.out _ (List.getElem_mem hl2))).2.2.1; omega
              have HBT : Hid (os[j].text = txtO os (j : Int)) := Lib.hid (txtO_at hl2).symm
              go_wp2_with fail
              go_meet
              exact ⟨⟨_, rfl, hs2', HBT⟩, rfl⟩
            · go_wp2_with fail
              go_meet
              exact ⟨⟨_, rfl, by decide, Lib.hid (txtO_no (by omega)).symm⟩, rfl⟩
          case rest =>
            obtain ⟨⟨bt, rfl, hbt, HBT⟩, hwc⟩ := hcut
            obtain ⟨w3, hw3⟩ : ∃ w3, w3 = wc := ⟨_, rfl⟩
            subst hwc
            subst hw3
            have hh3 : hi ≤ w3.heap.size := by omega
            have hws3 : w.heap.size ≤ w3.heap.size := by omega
            have hb3w : b < w3.heap.size := by omega
            have HLA : Hid ((w3.drew.alloc (.cells #[] 3)).ownsRow w3.heap.size 3 1 (.slice (some ⟨w3.heap.size, 0, none⟩) 0 0) 0 []) := Lib.hid (own_nil_lit w3.drew 3 1)
            have HRA : Hid (Ints (w3.drew.alloc (.cells #[] 3)) lo hi A1 nk os[k].links) := Lib.hid (HR2.out.drew.ints.alloc hh3 _)
            have tok1 : True := trivial
            go_upto_region 11 with (fail)
            go_region_held_law (fun w' => w'.cell? ⟨b, o + k * 3, none⟩ = some (.int .i64 os[k].kind) ∧ w'.cell? ⟨b, o + k * 3 + 1, none⟩ = some (.slice A1 nk c1) ∧ w'.cell? ⟨b, o + k * 3 + 2, none⟩ = some (.string os[k].text)) (go_keep)
              (first
                | (have _t := tok1; refine step_app_at Tryz.elI HLA.out HRA.out.2 (by rw [flat_len ci 1 ci_len, HRA.out.1]) (by rw [flat_ci]; simp [Value.oneCell']) (by unfold maxLen; omega) (by omega) (by first | (simp; done) | (simp; omega)) rfl rfl rfl rfl ?_; intro v4 w4 hown4 hg4 hat4; rw [Nat.zero_add, List.nil_append] at hown4; obtain ⟨B4, d4, rfl, -, -, -⟩ := Rd.of_own hown4; go_must (have hb4 : Below w3.heap.size w3 w4 := (((Below.refl w3.heap.size w3).drew).alloc (Nat.le_refl _) (.cells #[] 3)).grown hg4 (by first | (simp; done) | (simp; omega)) (fun q hq => by have := (HLA.out.lt q hq).1; exact this)); have q0 := (hb4.cell hb3w).trans j0; have q1 := (hb4.cell hb3w).trans j1; have q2 := (hb4.cell hb3w).trans j2; have HO4 := Lib.hid hown4; have HB4 := Lib.hid hb4; have hl4 : b < w4.heap.size := Nat.lt_of_lt_of_le hb3w hb4.size; have tokP : True := trivial; clear tok1 hown4 hg4 hat4 hb4)
                | (have _t := tokP; go_simp; go_at_call 57; refine (specMake_fl bt os[k].text _ (by omega) (by omega)).mono ?_; rintro e w5 ⟨A5, c5, hown5, -, hb5, rfl⟩; obtain ⟨n5, hn5⟩ : ∃ z, z = (makeB bt os[k].text).length := ⟨_, rfl⟩; rw [← hn5] at hown5; rw [← hn5]; have hn58 : n5 ≤ 8 := (by rw [hn5]; exact make_len); clear hn5; have p0 := (hb5.cell hl4).trans q0; have p1 := (hb5.cell hl4).trans q1; have p2 := (hb5.cell hl4).trans q2; go_must (have HB5 := Lib.hid (bel_tr HB4.out (Nat.le_refl _) hb5)); go_must (obtain ⟨vs5, hov5, hrest5⟩ := ent_made (r := r) (kind := os[k].kind) HGR2.out hws3 HB5.out (Nat.le_refl _) HB4.out.size (own_below HO4.out hb5) hown5); have HOV := Lib.hid hov5; have HFG := Lib.hid hrest5; have tokQ : True := trivial; clear tokP hown5 hb5 hov5 hrest5)
                | (have _t := tokQ; refine step_app_at Tryz.elPE9 (m := 1) (news := [.int .i64 os[k].kind, .slice B4 nk d4, .int .i64 r, .slice A5 n5 c5]) (HOV.out.alloc _) (rd_newn rfl [.int .i64 os[k].kind, .slice B4 nk d4, .int .i64 r, .slice A5 n5 c5] 60) rfl (by simp [Value.oneCell']) (by unfold maxLen; omega) (by omega) (by have := HB5.out.size; simp; omega) rfl rfl rfl rfl ?_; intro v7 w7 hown7 hg7 hat7; go_must (have HGR7 := Lib.hid (GrowP.done HFG.out hown7 hg7 hat7)); go_must (have HB7 := Lib.hid (below_app ((bel_tr HB2.out (Nat.le_refl _) HB5.out).alloc (Nat.le_trans hws3 HB5.out.size) _) (Nat.le_refl _) (by have := HB5.out.size; simp; omega) (HOV.out.alloc _) hg7)); have z0 := (HB7.out.cell hbw0).trans HCW.out.1; have z1 := (HB7.out.cell hbw0).trans HCW.out.2.1; have z2 := (HB7.out.cell hbw0).trans HCW.out.2.2; clear tokQ hown7 hg7 hat7))
            all_goals
              go_wp2_with fail
              go_roundw
              case rel => exact ⟨k + 1, ps ++ [⟨os[k].kind, os[k].links, r, makeB bt os[k].text⟩], by omega, by go_num, by show _ = _; rw [List.length_append, HL.out]; rfl, Lib.hid (by rw [mkTo, entM_at hp, ← HPS.out, ← HRR.out, ← HBT.out]), by rw [List.flatMap_append]; simpa using HGR7.out, HB7.out⟩
              case measure => simp [intOf]; omega
    · have hkn : k = n := by omega
      subst hkn
      have HO2 := Lib.hid HGR.out.own
      have HNL : Hid (mkL os = ps) := Lib.hid (by unfold mkL; rw [← HN.out]; exact HPS.out.symm)
      go_wp2_with fail
      go_ret2
      have hml : (mkL os).length = k := by rw [HNL.out]; exact HL.out
      refine ⟨B6, d6, ?_, HB.out, by rw [hml]; rfl⟩
      unfold dPackEntrys
      rw [hml, HNL.out]
      exact HO2.out

end Go.Proofs.YtnaeglfochnikaaGreat
