/-
  The walk of the reference's l13Set: the areas with one replaced, put in or taken out. Condition: the quarantine is valid, lengths fit.
-/
import Derived.Test.YtgpjcmplnigmcaaSpecT
import Derived.Deep.DeepCutAuto
import Derived.Deep.CutBlock
namespace Go.Proofs.Ytgpjcmplnigmcaa
set_option linter.unusedVariables false
set_option linter.unusedSimpArgs false
open Go.RowKit

theorem setTo_len (zs : List AreaD) (t : Int) (l : List ObjD) : ∀ k, k ≤ zs.length → (setTo zs t l k).1.length ≤ 2 * k
  | 0, _ => by rw [setTo_zero]; simp
  | k + 1, h => by
    rw [setTo_succ t l (by omega)]
    have := setStep_len t l (setTo zs t l k) zs[k]
    have := setTo_len zs t l k (by omega)
    omega
theorem set_step {zs : List AreaD} {t : Int} {l : List ObjD} {k : Nat} {ys : List AreaD} {pb : Bool} (hk : k < zs.length) (hy : ys = (setTo zs t l k).1) (hp : pb = (setTo zs t l k).2) :
    (setTo zs t l (k + 1)).1 = ys ++ (if pb = false ∧ t ≤ zs[k].txn then [⟨t, l⟩] else []) ++ (if zs[k].txn = t then [] else [⟨zs[k].txn, zs[k].objs⟩]) ∧ (setTo zs t l (k + 1)).2 = (pb || decide (t ≤ zs[k].txn)) := by
  rw [setTo_succ t l hk, hy, hp]
  exact ⟨rfl, rfl⟩

theorem pb_no {pb d : Bool} (h : false = (!pb && d)) : pb = (pb || d) := by revert h; cases pb <;> cases d <;> decide
theorem pb_yes {pb d : Bool} (h : true = (!pb && d)) : true = (pb || d) := by revert h; cases pb <;> cases d <;> decide

attribute [local go_sem] loadQ
set_option maxRecDepth 100000 in
set_option maxHeartbeats 12800000 in
theorem l13Set_any (os : List ObjD) (zs : List AreaD) (A : Option Addr) (n c : Nat) (B : Option Addr) (m d : Nat) (t : Int) (l : List ObjD) (L : Option Addr) (nl cl : Nat) (w : World) (lo hi : Nat) (hh : hi ≤ w.heap.size) (hv : quaB ⟨os, zs⟩ = true) (h : D.rd w lo hi (dObjects os) (.slice A n c)) (h' : D.rd w lo hi (dAreas zs) (.slice B m d)) (hl : D.rd w lo hi (dObjects l) (.slice L nl cl)) (hlk : ∀ o ∈ l, o.links.length ≤ 1048576) (hln : l.length ≤ 1000) :
    Calls Try.prog 47 #[.agg #[.slice A n c, .slice B m d], .int .i64 t, .slice L nl cl] w fun e w' => ∃ C n' dc V m' cV, QuaG w' w.heap.size ⟨os, setA zs t l⟩ (.slice C n' dc) (.slice V m' cV) ∧ Below w.heap.size w w' ∧ e = .returned (.agg #[.slice C n' dc, .slice V m' cV]) := by
  obtain ⟨⟨v1, v2⟩, v3, v4⟩ := (quaB_iff _).1 hv
  obtain ⟨s1, s2, s3⟩ := (storeB_iff _).1 v3
  dsimp only at v1 v2 v3 v4 s1 s2 s3
  have hn16 : n ≤ 16 := by have := h.len.1; omega
  have hm4 : m ≤ 4 := by have := h'.len.1; omega
  have HN := Lib.hid h.len.1
  have HM := Lib.hid h'.len.1
  have HLK : Hid (∀ o ∈ os, o.links.length ≤ 1048576) := Lib.hid fun o ho => by have := (objB_and (s1 o ho)).2.1; omega
  have HZO : Hid (∀ a ∈ zs, (∀ o ∈ a.objs, o.links.length ≤ 1048576) ∧ a.objs.length ≤ 16) := Lib.hid fun a ha => by
    obtain ⟨q1, q2, q3⟩ := (storeB_iff _).1 ((fullB_iff _).1 (v1 a ha).2).2
    exact ⟨fun o ho => by have := (objB_and (q1 o ho)).2.1; omega, q3⟩
  obtain ⟨r, hr⟩ : ∃ r, r = w.heap.size := ⟨_, rfl⟩
  obtain ⟨r2, hr2⟩ : ∃ r2, r2 = w.heap.size + 1 := ⟨_, rfl⟩
  obtain ⟨w1, hw1⟩ : ∃ w1, w1 = (w.alloc (.cells #[.slice A n c, .slice B m d] 31)).alloc (.cells #[.slice none 0 0, .slice none 0 0] 31) := ⟨_, rfl⟩
  have hb1 : Below w.heap.size w w1 := by rw [hw1]; exact ((Below.refl _ _).alloc (Nat.le_refl _) _).alloc (by simp) _
  have hx1 : w1.heap[r]? = some (.cells #[.slice A n c, .slice B m d] 31 (0, 0)) := by rw [hw1, hr]; exact (Below.heap_alloc _ _ _ (by simp)).trans (heap_alloc_new w _)
  have hx2 : w1.heap[r2]? = some (.cells #[.slice none 0 0, .slice none 0 0] 31 (0, 0)) := by
    have := heap_alloc_new (w.alloc (.cells #[.slice A n c, .slice B m d] 31)) (.cells #[.slice none 0 0, .slice none 0 0] 31)
    rw [hw1, hr2]; simpa using this
  have HBX1 : Hid (Boxes w1 r r2 A n c B m d) := Lib.hid ⟨hx1, hx2⟩
  have hrw : w.heap.size ≤ r := by omega
  have hrw2 : w.heap.size ≤ r2 := by omega
  have HRR : Hid (r ≠ r2) := Lib.hid (by omega)
  have hrs := hltS hx1
  have hrs2 := hltS hx2
  have HJ1 := Lib.hid (h.below hb1 hh)
  have HI := Lib.hid h'
  have HB1 := Lib.hid hb1
  have hh1 : hi ≤ w1.heap.size := Nat.le_trans hh hb1.size
  have hww1 := hb1.size
  have HL := Lib.hid hl
  have HLL := Lib.hid hlk
  have HNL := Lib.hid hl.len.1
  have hnl : nl ≤ 1000 := by have := hl.len.1; omega
  obtain ⟨k0, k1, k2, k3, f0, f1, l0, l1⟩ := HBX1.out.cells
  have qr := hltS HBX1.out.1
  have qr2 := hltS HBX1.out.2
  clear hl hlk hln h h' hv v1 v2 v3 v4 s1 s2 s3 hb1 hx1 hx2
  go_enter Try.func47, Try.ntmps47
  go_upto_region 1 with (fail)
  rw [← hw1, ← hr2, ← hr]
  clear hw1 hr hr2
  go_wp2_with fail
  refine (l1Copy_any os A n c w1 lo hi hh1 (by omega) HLK.out HJ1.out).mono ?_
  rintro e w2 ⟨C, dc, hg2, hb2, rfl⟩
  have HO2 : Hid (Own w2 w1.heap.size (dObjects os) (.slice C n dc)) := Lib.hid (by have := hg2.own; unfold dObjects; rw [← HN.out]; exact this)
  obtain ⟨w3, hw3⟩ : ∃ w3, w3 = (w2.alloc (.cells #[] 69)).alloc (.cells #[.slice C n dc, .slice (some ⟨w2.heap.size, 0, none⟩) 0 0] 31) := ⟨_, rfl⟩
  obtain ⟨o9, ho9⟩ : ∃ o9, o9 = w2.heap.size + 1 := ⟨_, rfl⟩
  obtain ⟨e9, he9⟩ : ∃ e9, e9 = w2.heap.size := ⟨_, rfl⟩
  have hb23 : Below w2.heap.size w2 w3 := by rw [hw3]; exact ((Below.refl _ _).alloc (Nat.le_refl _) _).alloc (by simp) _
  have hxe : w3.heap[e9]? = some (.cells #[] 69 (0, 0)) := by rw [hw3, he9]; exact (Below.heap_alloc _ _ _ (by simp)).trans (heap_alloc_new w2 _)
  have hxo : w3.heap[o9]? = some (.cells #[.slice C n dc, .slice (some ⟨e9, 0, none⟩) 0 0] 31 (0, 0)) := by
    have := heap_alloc_new (w2.alloc (.cells #[] 69)) (.cells #[.slice C n dc, .slice (some ⟨w2.heap.size, 0, none⟩) 0 0] 31)
    rw [hw3, ho9, he9]; simpa using this
  have hw12 := hb2.size
  have HG3 := Lib.hid (QuaN.begin (o := o9) HO2.out hb23 (by omega) hxe (by omega) (by omega))
  have HXO3 := Lib.hid hxo
  have HB3 := Lib.hid (bel_tr (bel_tr HB1.out (Nat.le_refl _) hb2) (Nat.le_refl _) hb23)
  have HBX3 := Lib.hid ((HBX1.out.fresh hb2).fresh hb23)
  have HOW : Hid (w1.heap.size < o9) := Lib.hid (by omega)
  have HOR : Hid (r ≠ o9 ∧ r2 ≠ o9) := Lib.hid (by omega)
  have hw13 : w1.heap.size ≤ w3.heap.size := Nat.le_trans hw12 hb23.size
  clear hg2 hb2 hb23 hxe hxo k0 k1 k2 k3 f0 f1 l0 l1
  go_upto_region 2 with (fail)
  rw [← hw3, ← ho9]
  clear hw3 ho9 he9
  have HP0 : Hid (((nl : Int) == 0) = (setTo zs t l 0).2) := Lib.hid (by rw [setTo_zero, Bool.eq_iff_iff]; simp only [beq_iff_eq, decide_eq_true_eq]; have := HNL.out; omega)
  go_wp2_with fail
  go_loopw [8, 9] (fun p i wr => ∃ (k : Nat) (pb : Bool) (va : Value), k ≤ m ∧ i = .int .i64 k ∧ p = .bool pb ∧ Hid (pb = (setTo zs t l k).2) ∧ Hid (QuaN wr w1.heap.size o9 ⟨os, (setTo zs t l k).1⟩ (.slice C n dc) va) ∧ Hid (wr.heap[o9]? = some (.cells #[.slice C n dc, va] 31 (0, 0))) ∧ Hid (Boxes wr r r2 A n c B m d) ∧ Below w.heap.size w wr ∧ w1.heap.size ≤ wr.heap.size) (fun _ i _ => m - (intOf i).toNat)
  case atStart => exact ⟨0, _, _, Nat.zero_le _, rfl, rfl, HP0, HG3, HXO3, HBX3, HB3.out, hw13⟩
  case round =>
    obtain ⟨k, pb, va, hk, rfl, rfl, HPB, HG, HXO, HBX, hbw, hw1r⟩ := hrel
    obtain ⟨wq, hwq⟩ : ∃ wq, wq = wr := ⟨_, rfl⟩
    subst hwq
    obtain ⟨ys, hys⟩ : ∃ ys, ys = (setTo zs t l k).1 := ⟨_, rfl⟩
    have HYS := Lib.hid hys
    rw [← hys] at HG
    have HB := Lib.hid hbw
    have hwsz := hbw.size
    obtain ⟨vs6, hrow6⟩ := HG.out.row
    obtain ⟨V6, c6, rfl, -, -, -⟩ := Rd.of_own hrow6
    have hq8' : ys.length ≤ 8 := by have := setTo_len zs t l k (by have := HM.out; omega); rw [hys]; omega
    have ko1 : wq.cell? ⟨o9, 1, none⟩ = some (.slice V6 ys.length c6) := cell_of_row _ _ _ _ _ _ HXO.out
    have ko0 : wq.cell? ⟨o9, 0, none⟩ = some (.slice C n dc) := cell_of_row _ _ _ _ _ _ HXO.out
    have kof1 : wq.frozen? ⟨o9, 1, none⟩ = false := frozen_of_row _ _ _ _ _ HXO.out
    have lo9 := hltS HXO.out
    have HLR := Lib.hid (HL.out.below HB.out hh)
    obtain ⟨j0, j1, j2, j3, jf0, jf1, jl0, jl1⟩ := HBX.out.cells
    clear hbw HG3 HXO3 HBX3 hrow6 hys HP0
    by_cases hlt : k < m
    · obtain ⟨b, o, hl, A1, n1, c1, rfl, _, hbh, hc0, hc1, ⟨hn1, hm1, hr1⟩⟩ := rd_Area (HI.out.below HB.out hh) hlt
      obtain ⟨t1, ht1⟩ : ∃ t1, t1 = zs[k].txn := ⟨_, rfl⟩
      rw [← ht1] at hc0
      have HTE := Lib.hid ht1
      have HRD := Lib.hid hr1
      obtain ⟨hz1, hz2⟩ := HZO.out _ (List.getElem_mem hl)
      have HZ1 := Lib.hid hz1
      have hn116 : n1 ≤ 1000 := by have := hr1.len.1; omega
      have lb : b < wq.heap.size := by omega
      have qb : b < w1.heap.size := Nat.lt_of_lt_of_le hbh hh1
      have k0 := hc0
      have k1 := hc1
      have k2 := j1
      have lr := jl0
      have hbo : ¬ (b = o9) := by have := HOW.out; omega
      have hro : ¬ (r = o9) := HOR.out.1
      have hbo2 : ¬ (o9 = b) := fun e => hbo e.symm
      have hro2 : ¬ (o9 = r) := fun e => hro e.symm
      clear hc0 hc1 hr1 hz1 hz2 ht1 j0 j1 jl0
      have HCS : Hid ((setTo zs t l (k + 1)).1 = (ys ++ if (!pb && decide (t ≤ t1)) = true then [⟨t, l⟩] else []) ++ (if t1 = t then [] else [⟨t1, zs[k].objs⟩]) ∧ (setTo zs t l (k + 1)).2 = (pb || decide (t ≤ t1))) := by
        have hst := set_step hl HYS.out HPB.out
        rw [← HTE.out] at hst
        refine Lib.hid ⟨?_, hst.2⟩
        rw [hst.1]
        rcases pb with _ | _ <;> simp
      go_upto_region 6 with (fail)
      go_cut [36] (fun v wx => ∃ gb : Bool, v = .bool gb ∧ Hid (gb = (!pb && decide (t ≤ t1))) ∧ wq = wx)
      case first =>
        rcases pb with _ | _
        · by_cases hge : t ≤ t1
          · have hgd : decide (t ≤ t1) = true := decide_eq_true hge
            have HGX : Hid (true = (!false && decide (t ≤ t1))) := Lib.hid (by simp [hge])
            go_wp2_with fail
            go_meet
            exact ⟨true, rfl, HGX, rfl⟩
          · have hgd : decide (t ≤ t1) = false := decide_eq_false hge
            have HGX : Hid (false = (!false && decide (t ≤ t1))) := Lib.hid (by simp [hge])
            go_wp2_with fail
            go_meet
            exact ⟨false, rfl, HGX, rfl⟩
        · have HGX : Hid (false = (!true && decide (t ≤ t1))) := Lib.hid (by simp)
          go_wp2_with fail
          go_meet
          exact ⟨false, rfl, HGX, rfl⟩
      case rest =>
        obtain ⟨gb, rfl, HGB, rfl⟩ := hcut
        go_upto_if 36 with (fail)
        go_cut [8] (fun v wx => ∃ (pb2 : Bool) (ys2 : List AreaD) (V7 : Option Addr) (c7 : Nat), v = .bool pb2 ∧ Hid (pb2 = (pb || decide (t ≤ t1))) ∧ Hid (ys2 = (ys ++ if (!pb && decide (t ≤ t1)) = true then [⟨t, l⟩] else [])) ∧ ys2.length ≤ 9 ∧ Hid (QuaN wx w1.heap.size o9 ⟨os, ys2⟩ (.slice C n dc) (.slice V7 ys2.length c7)) ∧ Hid (wx.heap[o9]? = some (.cells #[.slice C n dc, .slice V7 ys2.length c7] 31 (0, 0))) ∧ Hid (Below w1.heap.size wq wx))
        case first =>
          rcases gb with _ | _
          · have HE1 : Hid (ys = (ys ++ if (!pb && decide (t ≤ t1)) = true then [⟨t, l⟩] else [])) := Lib.hid (by rw [← HGB.out]; simp)
            have HE2 : Hid (pb = (pb || decide (t ≤ t1))) := Lib.hid (pb_no HGB.out)
            have HBR : Hid (Below w1.heap.size wq wq) := Lib.hid (Below.refl _ _)
            have hys9 : ys.length ≤ 9 := by omega
            go_wp2_with fail
            go_meet
            exact ⟨pb, ys, V6, c6, rfl, HE2, HE1, hys9, HG, HXO, HBR⟩
          · have HE1 : Hid (ys ++ [⟨t, l⟩] = (ys ++ if (!pb && decide (t ≤ t1)) = true then [⟨t, l⟩] else [])) := Lib.hid (by rw [← HGB.out]; simp)
            have HE2 : Hid (true = (pb || decide (t ≤ t1))) := Lib.hid (pb_yes HGB.out)
            clear HGB
            go_upto_region 7 with (fail)
            have tok1 : True := trivial
            rw [show Op.load 29 (Operand.tmp 37) = loadQ 29 (Operand.tmp 37) from rfl]
            go_region_held_law (fun w' => True) (go_keep)
              (first
                | (have _t := tok1; go_at_call 86; refine (l1Copy_any l L nl cl wq.drew lo hi (Nat.le_trans hh1 hw1r) hnl HLL.out HLR.out.drew).mono ?_; rintro e wa1 ⟨Ca1, dca1, hga, hba', rfl⟩; have hba := below_of_drew hba'; have hoa : Own wa1 wq.heap.size (dObjects (l)) (.slice Ca1 _ dca1) := (by have := hga.own; unfold dObjects; rw [← HLR.out.len.1]; exact this); obtain ⟨vs, hrowa, hdone⟩ := QuaN.snoc (a := ⟨t, l⟩) HG.out hba hoa hw1r lo9; have HROW := Lib.hid hrowa; have HDONE := Lib.hid hdone;  have o0 : wa1.cell? ⟨o9, 1, none⟩ = some (.slice V6 _ c6) := (hba.cell lo9).trans ko1; have of1 : wa1.frozen? ⟨o9, 1, none⟩ = false := (hba.frozen lo9).trans kof1; have la9 : o9 < wa1.heap.size := Nat.lt_of_lt_of_le lo9 hba.size; have HFa := Lib.hid hba; have hsa := hba.size; have tok2 : True := trivial; clear tok1 hga hba hba' hoa hrowa hdone)
                | (have _t := tok2; refine step_app_at Try.elArea (m := 1) (HROW.out.alloc _) (rd_newn (n := wa1.heap.size) rfl [.int .i64 t, .slice Ca1 _ dca1] 69) rfl (by simp [Value.oneCell']) (by unfold maxLen; omega) (by omega) (by first | omega | (simp; done) | (simp; omega)) rfl rfl rfl rfl ?_; intro vb wb1 hownb hgb hatb; have HGb1 := Lib.hid (HDONE.out _ _ _ hownb hgb hatb); obtain ⟨V7, c7, rfl, -, -, -⟩ := Rd.of_own hownb; have hkb : Below w1.heap.size wq wb1 := Below.grown ((HFa.out.mono hw1r).alloc (Nat.le_trans hw1r hsa) _) hgb (by have := Nat.le_trans hw1r hsa; first | omega | (simp; done) | (simp; omega)) (fun q hq => (HROW.out.lt q hq).1);  have hxob : wb1.heap[o9]? = some (.cells #[.slice C n dc, .slice V6 _ c6] 31 (0, 0)) := (hgb.block o9 (by simp; omega) (fun e => HG.out.ne e.symm)).trans ((Below.heap_alloc wa1 _ _ la9).trans ((HFa.out.block o9 lo9).trans HXO.out)); have HXOb1 := Lib.hid hxob; have p0 := cell_of_row _ _ 1 _ _ _ hxob; have pf1 := frozen_of_row _ _ 1 _ _ hxob; have lb9 : o9 < wb1.heap.size := hltS hxob; have HKb1 := Lib.hid hkb; clear tok2 hownb hgb hatb hkb hxob))
            all_goals
              go_upto_region 8 with (fail)
              obtain ⟨wq2, hW2⟩ : ∃ z, z = wb1.setCell ⟨o9, 1, none⟩ (.slice V7 (ys.length + 1) c7) := ⟨_, rfl⟩
              obtain ⟨ys2, hys2⟩ : ∃ z, z = ys ++ [⟨t, l⟩] := ⟨_, rfl⟩
              have hlys2 : ys.length + 1 = ys2.length := by rw [hys2]; simp
              have Hys2 := Lib.hid hys2
              have HG2 : Hid (QuaN wq2 w1.heap.size o9 ⟨os, ys2⟩ (.slice C n dc) (.slice V7 ys2.length c7)) := by rw [hys2, ← hys2, ← hlys2, hys2, hW2]; exact Lib.hid (HGb1.out.set 1 _)
              have HXO2 : Hid (wq2.heap[o9]? = some (.cells #[.slice C n dc, .slice V7 ys2.length c7] 31 (0, 0))) := by rw [← hlys2, hW2]; exact Lib.hid (by rw [heap_setCell_same wb1 o9 1 _ _ _ HXOb1.out]; rfl)
              have HKwq2 : Hid (Below w1.heap.size wq wq2) := by rw [hW2]; exact Lib.hid (HKb1.out.setCell (Nat.le_of_lt HOW.out) _)
              have HBX2 : Hid (Boxes wq2 r r2 A n c (some ⟨b, o, none⟩) m d) := Lib.hid ⟨(HKwq2.out.block r qr).trans HBX.out.1, (HKwq2.out.block r2 qr2).trans HBX.out.2⟩
              have HB2 : Hid (Below w.heap.size w wq2) := Lib.hid (HB.out.trans (HKwq2.out.mono hww1))
              have hw12r : w1.heap.size ≤ wq2.heap.size := Nat.le_trans hw1r HKwq2.out.size
              have ko2 : wq2.cell? ⟨o9, 1, none⟩ = some (.slice V7 ys2.length c7) := cell_of_row _ _ _ _ _ _ HXO2.out
              have ko2z : wq2.cell? ⟨o9, 0, none⟩ = some (.slice C n dc) := cell_of_row _ _ _ _ _ _ HXO2.out
              have kof2 : wq2.frozen? ⟨o9, 1, none⟩ = false := frozen_of_row _ _ _ _ _ HXO2.out
              have lo92 := hltS HXO2.out
              have hqys2 : ys2.length ≤ 10 := by omega
              rw [← hW2]
              clear hW2 hys2 hlys2
              have HYY := Lib.hid (Hys2.out.trans HE1.out)
              have hys9 : ys2.length ≤ 9 := by rw [Hys2.out]; simp; omega
              go_wp2_with fail
              go_meet
              exact ⟨true, ys2, V7, c7, rfl, HE2, HYY, hys9, HG2, HXO2, HKwq2⟩
        case rest =>
          obtain ⟨pb2, ys2, V7, c7, rfl, HP2, HY2, hq9, HG2, HXO2, HKwq2⟩ := hcut
          obtain ⟨wq2, hwq2⟩ : ∃ z, z = wc := ⟨_, rfl⟩
          subst hwq2
          have HBX2 : Hid (Boxes wq2 r r2 A n c (some ⟨b, o, none⟩) m d) := Lib.hid ⟨(HKwq2.out.block r qr).trans HBX.out.1, (HKwq2.out.block r2 qr2).trans HBX.out.2⟩
          have HB2 : Hid (Below w.heap.size w wq2) := Lib.hid (HB.out.trans (HKwq2.out.mono hww1))
          have hw12r : w1.heap.size ≤ wq2.heap.size := Nat.le_trans hw1r HKwq2.out.size
          have ko2 : wq2.cell? ⟨o9, 1, none⟩ = some (.slice V7 ys2.length c7) := cell_of_row _ _ _ _ _ _ HXO2.out
          have kof2 : wq2.frozen? ⟨o9, 1, none⟩ = false := frozen_of_row _ _ _ _ _ HXO2.out
          have lo92 := hltS HXO2.out
          have k0 : wq2.cell? ⟨b, o + k * 2, none⟩ = some (.int .i64 t1) := (HKwq2.out.cell qb).trans k0
          have k1 : wq2.cell? ⟨b, o + k * 2 + 1, none⟩ = some (.slice A1 n1 c1) := (HKwq2.out.cell qb).trans k1
          have k2 : wq2.cell? ⟨r, 1, none⟩ = some (.slice (some ⟨b, o, none⟩) m d) := (HKwq2.out.cell qr).trans k2
          have lb : b < wq2.heap.size := Nat.lt_of_lt_of_le qb hw12r
          have lr : r < wq2.heap.size := Nat.lt_of_lt_of_le qr hw12r
          have HRD := Lib.hid (HRD.out.below HKwq2.out hh1)
          have hs2 := Lib.hid (HCS.out.2.trans HP2.out.symm)
          by_cases he : t1 = t
          · have hs1 : Hid ((setTo zs t l (k + 1)).1 = ys2) := Lib.hid (by rw [HCS.out.1, ← HY2.out, if_pos he, List.append_nil])
            have hea : (t1 == t) = true := by simp [he]
            have heb : (t1 != t) = false := by simp [he]
            clear he
            go_wp2_with fail
            go_roundw
            case rel => exact ⟨k + 1, _, _, by omega, by go_num, rfl, Lib.hid hs2.out.symm, (by rw [hs1.out]; exact HG2), HXO2, HBX2, HB2.out, hw12r⟩
            case measure => simp [intOf]; omega
          · have hs1 : Hid ((setTo zs t l (k + 1)).1 = ys2 ++ [⟨t1, zs[k].objs⟩]) := Lib.hid (by rw [HCS.out.1, ← HY2.out, if_neg he])
            have hea : (t1 == t) = false := by simp [he]
            have heb : (t1 != t) = true := by simp [he]
            clear he
            go_upto_region 10 with (fail)
            have tok1 : True := trivial
            rw [show Op.load 29 (Operand.tmp 54) = loadQ 29 (Operand.tmp 54) from rfl]
            go_region_held_law (fun w' => w'.cell? ⟨b, o + k * 2, none⟩ = some (.int .i64 t1) ∧ w'.cell? ⟨b, o + k * 2 + 1, none⟩ = some (.slice A1 n1 c1) ∧ w'.cell? ⟨r, 1, none⟩ = some (.slice (some ⟨b, o, none⟩) m d)) (go_keep)
              (first
                | (have _t := tok1; go_at_call 86; refine (l1Copy_any zs[k].objs A1 n1 c1 wq2.drew lo hi (Nat.le_trans hh1 hw12r) hn116 HZ1.out HRD.out.drew).mono ?_; rintro e wa2 ⟨Ca2, dca2, hga, hba', rfl⟩; have hba := below_of_drew hba'; have hoa : Own wa2 wq2.heap.size (dObjects (zs[k].objs)) (.slice Ca2 _ dca2) := (by have := hga.own; unfold dObjects; rw [← HRD.out.len.1]; exact this); obtain ⟨vs, hrowa, hdone⟩ := QuaN.snoc (a := ⟨t1, zs[k].objs⟩) HG2.out hba hoa hw12r lo92; have HROW := Lib.hid hrowa; have HDONE := Lib.hid hdone; have g0 : wa2.cell? ⟨b, o + k * 2, none⟩ = some (.int .i64 t1) := (hba.cell lb).trans k0; have g1 : wa2.cell? ⟨b, o + k * 2 + 1, none⟩ = some (.slice A1 n1 c1) := (hba.cell lb).trans k1; have g2 : wa2.cell? ⟨r, 1, none⟩ = some (.slice (some ⟨b, o, none⟩) m d) := (hba.cell lr).trans k2; have o0 : wa2.cell? ⟨o9, 1, none⟩ = some (.slice V7 _ c7) := (hba.cell lo92).trans ko2; have of1 : wa2.frozen? ⟨o9, 1, none⟩ = false := (hba.frozen lo92).trans kof2; have la9 : o9 < wa2.heap.size := Nat.lt_of_lt_of_le lo92 hba.size; have HFa := Lib.hid hba; have hsa := hba.size; have tok2 : True := trivial; clear tok1 hga hba hba' hoa hrowa hdone)
                | (have _t := tok2; refine step_app_at Try.elArea (m := 1) (HROW.out.alloc _) (rd_newn (n := wa2.heap.size) rfl [.int .i64 t1, .slice Ca2 _ dca2] 69) rfl (by simp [Value.oneCell']) (by unfold maxLen; omega) (by omega) (by first | omega | (simp; done) | (simp; omega)) rfl rfl rfl rfl ?_; intro vb wb2 hownb hgb hatb; have HGb2 := Lib.hid (HDONE.out _ _ _ hownb hgb hatb); obtain ⟨V8, c8, rfl, -, -, -⟩ := Rd.of_own hownb; have hkb : Below w1.heap.size wq2 wb2 := Below.grown ((HFa.out.mono hw12r).alloc (Nat.le_trans hw12r hsa) _) hgb (by have := Nat.le_trans hw12r hsa; first | omega | (simp; done) | (simp; omega)) (fun q hq => (HROW.out.lt q hq).1); have h0 : wb2.cell? ⟨b, o + k * 2, none⟩ = some (.int .i64 t1) := (hkb.cell qb).trans k0; have h1 : wb2.cell? ⟨b, o + k * 2 + 1, none⟩ = some (.slice A1 n1 c1) := (hkb.cell qb).trans k1; have h2 : wb2.cell? ⟨r, 1, none⟩ = some (.slice (some ⟨b, o, none⟩) m d) := (hkb.cell qr).trans k2; have hxob : wb2.heap[o9]? = some (.cells #[.slice C n dc, .slice V7 _ c7] 31 (0, 0)) := (hgb.block o9 (by simp; omega) (fun e => HG2.out.ne e.symm)).trans ((Below.heap_alloc wa2 _ _ la9).trans ((HFa.out.block o9 lo92).trans HXO2.out)); have HXOb2 := Lib.hid hxob; have p0 := cell_of_row _ _ 1 _ _ _ hxob; have pf1 := frozen_of_row _ _ 1 _ _ hxob; have lb9 : o9 < wb2.heap.size := hltS hxob; have HKb2 := Lib.hid hkb; clear tok2 hownb hgb hatb hkb hxob))
            all_goals
              go_wp2_with fail
              obtain ⟨wq3, hW2⟩ : ∃ z, z = wb2.setCell ⟨o9, 1, none⟩ (.slice V8 (ys2.length + 1) c8) := ⟨_, rfl⟩
              obtain ⟨ys3, hys3⟩ : ∃ z, z = ys2 ++ [⟨t1, zs[k].objs⟩] := ⟨_, rfl⟩
              have hlys3 : ys2.length + 1 = ys3.length := by rw [hys3]; simp
              have Hys3 := Lib.hid hys3
              have HG3 : Hid (QuaN wq3 w1.heap.size o9 ⟨os, ys3⟩ (.slice C n dc) (.slice V8 ys3.length c8)) := by rw [hys3, ← hys3, ← hlys3, hys3, hW2]; exact Lib.hid (HGb2.out.set 1 _)
              have HXO3 : Hid (wq3.heap[o9]? = some (.cells #[.slice C n dc, .slice V8 ys3.length c8] 31 (0, 0))) := by rw [← hlys3, hW2]; exact Lib.hid (by rw [heap_setCell_same wb2 o9 1 _ _ _ HXOb2.out]; rfl)
              have HKwq3 : Hid (Below w1.heap.size wq2 wq3) := by rw [hW2]; exact Lib.hid (HKb2.out.setCell (Nat.le_of_lt HOW.out) _)
              have HBX3 : Hid (Boxes wq3 r r2 A n c (some ⟨b, o, none⟩) m d) := Lib.hid ⟨(HKwq3.out.block r qr).trans HBX2.out.1, (HKwq3.out.block r2 qr2).trans HBX2.out.2⟩
              have HB3 : Hid (Below w.heap.size w wq3) := Lib.hid (HB2.out.trans (HKwq3.out.mono hww1))
              have hw13r : w1.heap.size ≤ wq3.heap.size := Nat.le_trans hw12r HKwq3.out.size
              have ko3 : wq3.cell? ⟨o9, 1, none⟩ = some (.slice V8 ys3.length c8) := cell_of_row _ _ _ _ _ _ HXO3.out
              have ko3z : wq3.cell? ⟨o9, 0, none⟩ = some (.slice C n dc) := cell_of_row _ _ _ _ _ _ HXO3.out
              have kof3 : wq3.frozen? ⟨o9, 1, none⟩ = false := frozen_of_row _ _ _ _ _ HXO3.out
              have lo93 := hltS HXO3.out
              have hqys3 : ys3.length ≤ 10 := by omega
              rw [← hW2]
              clear hW2 hys3 hlys3
              have hs3 : Hid ((setTo zs t l (k + 1)).1 = ys3) := Lib.hid (hs1.out.trans Hys3.out.symm)
              go_roundw
              case rel => exact ⟨k + 1, _, _, by omega, by go_num, rfl, Lib.hid hs2.out.symm, (by rw [hs3.out]; exact HG3), HXO3, HBX3, HB3.out, hw13r⟩
              case measure => simp [intOf]; omega
    · have hkm : k = m := by omega
      subst hkm
      rcases pb with _ | _
      · go_upto_region 12 with (fail)
        have tok1 : True := trivial
        rw [show Op.load 29 (Operand.tmp 75) = loadQ 29 (Operand.tmp 75) from rfl]
        go_region_held_law (fun w' => True) (go_keep)
          (first
            | (have _t := tok1; go_at_call 86; refine (l1Copy_any l L nl cl wq.drew lo hi (Nat.le_trans hh1 hw1r) hnl HLL.out HLR.out.drew).mono ?_; rintro e wa1 ⟨Ca1, dca1, hga, hba', rfl⟩; have hba := below_of_drew hba'; have hoa : Own wa1 wq.heap.size (dObjects (l)) (.slice Ca1 _ dca1) := (by have := hga.own; unfold dObjects; rw [← HLR.out.len.1]; exact this); obtain ⟨vs, hrowa, hdone⟩ := QuaN.snoc (a := ⟨t, l⟩) HG.out hba hoa hw1r lo9; have HROW := Lib.hid hrowa; have HDONE := Lib.hid hdone;  have o0 : wa1.cell? ⟨o9, 1, none⟩ = some (.slice V6 _ c6) := (hba.cell lo9).trans ko1; have of1 : wa1.frozen? ⟨o9, 1, none⟩ = false := (hba.frozen lo9).trans kof1; have la9 : o9 < wa1.heap.size := Nat.lt_of_lt_of_le lo9 hba.size; have HFa := Lib.hid hba; have hsa := hba.size; have tok2 : True := trivial; clear tok1 hga hba hba' hoa hrowa hdone)
            | (have _t := tok2; refine step_app_at Try.elArea (m := 1) (HROW.out.alloc _) (rd_newn (n := wa1.heap.size) rfl [.int .i64 t, .slice Ca1 _ dca1] 69) rfl (by simp [Value.oneCell']) (by unfold maxLen; omega) (by omega) (by first | omega | (simp; done) | (simp; omega)) rfl rfl rfl rfl ?_; intro vb wb1 hownb hgb hatb; have HGb1 := Lib.hid (HDONE.out _ _ _ hownb hgb hatb); obtain ⟨V7, c7, rfl, -, -, -⟩ := Rd.of_own hownb; have hkb : Below w1.heap.size wq wb1 := Below.grown ((HFa.out.mono hw1r).alloc (Nat.le_trans hw1r hsa) _) hgb (by have := Nat.le_trans hw1r hsa; first | omega | (simp; done) | (simp; omega)) (fun q hq => (HROW.out.lt q hq).1);  have hxob : wb1.heap[o9]? = some (.cells #[.slice C n dc, .slice V6 _ c6] 31 (0, 0)) := (hgb.block o9 (by simp; omega) (fun e => HG.out.ne e.symm)).trans ((Below.heap_alloc wa1 _ _ la9).trans ((HFa.out.block o9 lo9).trans HXO.out)); have HXOb1 := Lib.hid hxob; have p0 := cell_of_row _ _ 1 _ _ _ hxob; have pf1 := frozen_of_row _ _ 1 _ _ hxob; have lb9 : o9 < wb1.heap.size := hltS hxob; have HKb1 := Lib.hid hkb; clear tok2 hownb hgb hatb hkb hxob))
        all_goals
          go_upto_region 13 with (fail)
          obtain ⟨wq2, hW2⟩ : ∃ z, z = wb1.setCell ⟨o9, 1, none⟩ (.slice V7 (ys.length + 1) c7) := ⟨_, rfl⟩
          obtain ⟨ys2, hys2⟩ : ∃ z, z = ys ++ [⟨t, l⟩] := ⟨_, rfl⟩
          have hlys2 : ys.length + 1 = ys2.length := by rw [hys2]; simp
          have Hys2 := Lib.hid hys2
          have HG2 : Hid (QuaN wq2 w1.heap.size o9 ⟨os, ys2⟩ (.slice C n dc) (.slice V7 ys2.length c7)) := by rw [hys2, ← hys2, ← hlys2, hys2, hW2]; exact Lib.hid (HGb1.out.set 1 _)
          have HXO2 : Hid (wq2.heap[o9]? = some (.cells #[.slice C n dc, .slice V7 ys2.length c7] 31 (0, 0))) := by rw [← hlys2, hW2]; exact Lib.hid (by rw [heap_setCell_same wb1 o9 1 _ _ _ HXOb1.out]; rfl)
          have HKwq2 : Hid (Below w1.heap.size wq wq2) := by rw [hW2]; exact Lib.hid (HKb1.out.setCell (Nat.le_of_lt HOW.out) _)
          have HBX2 : Hid (Boxes wq2 r r2 A n c B k d) := Lib.hid ⟨(HKwq2.out.block r qr).trans HBX.out.1, (HKwq2.out.block r2 qr2).trans HBX.out.2⟩
          have HB2 : Hid (Below w.heap.size w wq2) := Lib.hid (HB.out.trans (HKwq2.out.mono hww1))
          have hw12r : w1.heap.size ≤ wq2.heap.size := Nat.le_trans hw1r HKwq2.out.size
          have ko2 : wq2.cell? ⟨o9, 1, none⟩ = some (.slice V7 ys2.length c7) := cell_of_row _ _ _ _ _ _ HXO2.out
          have ko2z : wq2.cell? ⟨o9, 0, none⟩ = some (.slice C n dc) := cell_of_row _ _ _ _ _ _ HXO2.out
          have kof2 : wq2.frozen? ⟨o9, 1, none⟩ = false := frozen_of_row _ _ _ _ _ HXO2.out
          have lo92 := hltS HXO2.out
          have hqys2 : ys2.length ≤ 10 := by omega
          rw [← hW2]
          clear hW2 hys2 hlys2
          have hfin : setA zs t l = ys2 := by
            unfold setA
            rw [← HM.out, ← HPB.out, ← HYS.out, Hys2.out]
            simp
          obtain ⟨j0, j1, j2, j3, jf0, jf1, jl0, jl1⟩ := HBX2.out.cells
          have hqe : QuaG wq2 w1.heap.size ⟨os, setA zs t l⟩ (.slice C n dc) (.slice V7 ys2.length c7) := by rw [hfin]; exact HG2.out.gen
          have HQE := Lib.hid hqe
          clear hqe hfin
          go_wp2_with fail
          refine bodyPost_ret (v := .agg #[.slice C n dc, .slice V7 ys2.length c7]) (by simp [results, Try.results47, go_sem, ko2, ko2z, j2, j3, jf0, jf1, HOR.out.1, HOR.out.2, HRR.out]) rfl ?_
          exact ⟨C, n, dc, V7, ys2.length, c7, ((HQE.out.set qr2 _ _).set qr2 _ _).low hww1, ((HB2.out.setCell hrw2 _).setCell hrw2 _), rfl⟩
      · have hfin : setA zs t l = ys := by
          unfold setA
          rw [← HM.out, ← HPB.out, ← HYS.out]
          simp
        obtain ⟨j0, j1, j2, j3, jf0, jf1, jl0, jl1⟩ := HBX.out.cells
        have hqe : QuaG wq w1.heap.size ⟨os, setA zs t l⟩ (.slice C n dc) (.slice V6 ys.length c6) := by rw [hfin]; exact HG.out.gen
        have HQE := Lib.hid hqe
        clear hqe hfin
        go_wp2_with fail
        refine bodyPost_ret (v := .agg #[.slice C n dc, .slice V6 ys.length c6]) (by simp [results, Try.results47, go_sem, ko1, ko0, j2, j3, jf0, jf1, HOR.out.1, HOR.out.2, HRR.out]) rfl ?_
        exact ⟨C, n, dc, V6, ys.length, c6, ((HQE.out.set qr2 _ _).set qr2 _ _).low hww1, ((HB.out.setCell hrw2 _).setCell hrw2 _), rfl⟩

end Go.Proofs.Ytgpjcmplnigmcaa
