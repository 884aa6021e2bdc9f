/-
  The walks of the reference's QuarantinePut and QuarantinePromote: objects are put in an area; an area is stored. Condition: lengths fit an int64.
-/
import Derived.Test.YtgpjcmplnigmcaaSpecV
namespace Go.Proofs.Ytgpjcmplnigmcaa
set_option linter.unusedVariables false
set_option linter.unusedSimpArgs false
open Go.RowKit

theorem rd_nilO (w : World) (lo hi c : Nat) (A : Option Addr) (hc : c ≤ 9223372036854775807) : D.rd w lo hi (dObjects []) (.slice A 0 c) := by
  unfold dObjects D.rd
  exact ⟨A, c, [], rfl, Nat.zero_le _, hc, rfl, fun h => absurd rfl h, by unfold D.rdL; rfl⟩
/-- another store takes the place of the first one -/
theorem QuaG.main {W0 w : World} {lo base : Nat} {os xs : List ObjD} {ys : List AreaD} {vm va v' : Value} (h : QuaG w base ⟨os, ys⟩ vm va) (ho : Own W0 lo (dObjects xs) v') (hb : Below W0.heap.size W0 w) (hbs : W0.heap.size ≤ base) (hlo : lo ≤ W0.heap.size) : QuaG w lo ⟨xs, ys⟩ v' va := by
  obtain ⟨Fm, vs, Fa, h1, h2, h3, h4, h5, h6⟩ := h
  obtain ⟨G, q1, q2, q3⟩ := ho
  refine ⟨G, vs, Fa, D.own.keep _ _ _ (fun g hg => hb.block g (q2 g hg).2) q3, ⟨h2.1, ?_⟩, h3, ?_, ?_, ?_⟩
  · rcases h2.2 with h | ⟨a1, a2, a3, a4, a5, a6⟩
    · exact .inl h
    · exact .inr ⟨a1, a2, a3, a4, by omega, a6⟩
  · refine List.nodup_append.2 ⟨q1, (List.nodup_append.1 h4).2.1, fun x hx y hy e => ?_⟩
    subst e
    have := (q2 x hx).2; have := (h5 x (List.mem_append_right _ hy)).1; omega
  · intro g hg
    rcases List.mem_append.1 hg with hg | hg
    · exact ⟨(q2 g hg).1, Nat.lt_of_lt_of_le (q2 g hg).2 hb.size⟩
    · have := h5 g (List.mem_append_right _ hg); exact ⟨by omega, this.2⟩
  · intro g hv hg
    rcases List.mem_append.1 hg with hg | hg
    · have := (q2 g hg).2; have := (h2.lt g hv).1; omega
    · exact h6 g hv (List.mem_append_right _ hg)
theorem FindR.ways {zs : List AreaD} {t r : Int} (h : FindR zs t r) : (r = -1 ∧ areaO zs t = none ∧ areaL zs t = []) ∨ ∃ (k : Nat) (h : k < zs.length), r = k ∧ (areaO zs t).isSome = true ∧ areaL zs t = zs[k].objs := by
  unfold FindR at h
  rcases h with ⟨h1, h2⟩ | ⟨k, hk, h1, h2, h3⟩
  · exact .inl ⟨h1, h2, by unfold areaL; rw [h2]; rfl⟩
  · exact .inr ⟨k, hk, h1, by rw [h3]; rfl, by unfold areaL; rw [h3]; rfl⟩
theorem putOk_inst (a : Bool) (p : Prop) (i1 i2 : Decidable p) (b : Bool) : (a && !(@decide p i1 && b)) = (a && !(@decide p i2 && b)) := by
  have : @decide p i1 = @decide p i2 := by congr
  rw [this]
theorem quaPut_ok {q : QuaD} {t : Int} {l : List ObjD} (h : putIn q t l = true) (h2 : putOk q t l = true) : quaPut q t l = ⟨q.main, setA q.areas t (newA q t l)⟩ ∧ quaPutB q t l = true := by
  unfold quaPut quaPutB; simp [h, h2]
theorem quaPut_not {q : QuaD} {t : Int} {l : List ObjD} (h : putIn q t l = true) (h2 : putOk q t l = false) : quaPut q t l = q ∧ quaPutB q t l = false := by
  unfold quaPut quaPutB; simp [h, h2]

set_option maxRecDepth 100000 in
set_option maxHeartbeats 6400000 in
theorem specQPut_any (os : List ObjD) (zs : List AreaD) (t : Int) (l : List ObjD) (A : Option Addr) (n c : Nat) (B : Option Addr) (m d : Nat) (L : Option Addr) (nl cl : Nat) (w : World) (lo hi lo' hi' : Nat) (hh : hi ≤ w.heap.size) (hh' : hi' ≤ w.heap.size) (h : D.rd w lo hi (dObjects os) (.slice A n c)) (h' : D.rd w lo hi (dAreas zs) (.slice B m d)) (hl : D.rd w lo' hi' (dObjects l) (.slice L nl cl)) :
    Calls Try.prog 13 #[.agg #[.slice A n c, .slice B m d], .int .i64 t, .slice L nl cl] w fun e w' => QuaR w (quaPut ⟨os, zs⟩ t l) (quaPutB ⟨os, zs⟩ t l) e w' := by
  obtain ⟨r, hr⟩ : ∃ r, r = w.heap.size := ⟨_, rfl⟩
  obtain ⟨r2, hr2⟩ : ∃ r2, r2 = w.heap.size + 1 := ⟨_, rfl⟩
  obtain ⟨w1, hw1⟩ : ∃ w1, w1 = (w.alloc (.cells #[.slice A n c, .slice B m d] 31)).alloc (.cells #[.slice none 0 0, .slice none 0 0] 31) := ⟨_, rfl⟩
  have hb1 : Below w.heap.size w w1 := by rw [hw1]; exact ((Below.refl _ _).alloc (Nat.le_refl _) _).alloc (by simp) _
  have hx1 : w1.heap[r]? = some (.cells #[.slice A n c, .slice B m d] 31 (0, 0)) := by rw [hw1, hr]; exact (Below.heap_alloc _ _ _ (by simp)).trans (heap_alloc_new w _)
  have hx2 : w1.heap[r2]? = some (.cells #[.slice none 0 0, .slice none 0 0] 31 (0, 0)) := by
    have := heap_alloc_new (w.alloc (.cells #[.slice A n c, .slice B m d] 31)) (.cells #[.slice none 0 0, .slice none 0 0] 31)
    rw [hw1, hr2]; simpa using this
  have HBX1 : Hid (Boxes w1 r r2 A n c B m d) := Lib.hid ⟨hx1, hx2⟩
  have hrw : w.heap.size ≤ r := by omega
  have hrw2 : w.heap.size ≤ r2 := by omega
  have hne : ¬ (r = r2) := by omega
  have hne2 : ¬ (r2 = r) := by omega
  have hrs : r < w1.heap.size := hltS hx1
  have hrs2 : r2 < w1.heap.size := hltS hx2
  have HB1 := Lib.hid hb1
  have hh1 : hi ≤ w1.heap.size := Nat.le_trans hh hb1.size
  have HJ1 := Lib.hid (h.below hb1 hh)
  have HI1 := Lib.hid (h'.below hb1 hh)
  have HL1 := Lib.hid (hl.below hb1 hh')
  have hh1' : hi' ≤ w1.heap.size := Nat.le_trans hh' hb1.size
  have HN := Lib.hid h.len.1
  have HM := Lib.hid h'.len.1
  clear h h' hl hb1 hx1 hx2
  go_enter Try.func13, Try.ntmps13
  go_upto_region 1 with (fail)
  rw [← hw1, ← hr2, ← hr]
  clear hw1 hr hr2
  obtain ⟨k0, k1, k2, k3, f0, f1, l0, l1⟩ := HBX1.out.cells
  go_wp2_with fail
  refine (specQuaValid_any os zs A n c B m d w1 lo hi hh1 HJ1.out HI1.out).mono ?_
  rintro e w2 ⟨rfl, hb2⟩
  have HB2 := Lib.hid (bel_tr HB1.out (Nat.le_refl _) hb2)
  have HBX2 := Lib.hid (HBX1.out.fresh hb2)
  have hs12 := hb2.size
  have HJ2 := Lib.hid (HJ1.out.below hb2 hh1)
  have HI2 := Lib.hid (HI1.out.below hb2 hh1)
  have hh2 : hi ≤ w2.heap.size := Nat.le_trans hh1 hb2.size
  have HL2 := Lib.hid (HL1.out.below hb2 hh1')
  have hh2' : hi' ≤ w2.heap.size := Nat.le_trans hh1' hb2.size
  clear hb2 k0 k1 k2 k3 f0 f1 l0 l1
  obtain ⟨z0, z1, z2, z3, f0, f1, l0, l1⟩ := HBX2.out.cells
  rcases hv : quaB ⟨os, zs⟩ with _ | _
  · have HZ := Lib.hid (putIn_no (q := ⟨os, zs⟩) (t := t) (l := l) (by unfold putIn; rw [hv]; rfl))
    clear hv
    go_wp2_with fail
    refine bodyPost_ret (v := .tuple #[.agg #[.slice none 0 0, .slice none 0 0], .bool false]) (by simp [results, Try.results13, go_sem, z0, z1, z2, z3]) rfl ?_
    refine ⟨none, 0, 0, none, 0, 0, by rw [HZ.out.1]; exact QuaG.nil _ _, ((HB2).out.setCell hrw2 _).setCell hrw2 _, by rw [HZ.out.2]⟩
  · rcases ht : txnB t with _ | _
    · have HZ := Lib.hid (putIn_no (q := ⟨os, zs⟩) (t := t) (l := l) (by unfold putIn; rw [ht]; simp))
      have HT := Lib.hid ht
      clear ht hv
      go_wp2_with (go_at_call 43; refine (l12Txn_any t _).mono ?_; rintro e w' ⟨rfl, rfl⟩; rw [HT.out])
      go_wp2_with fail
      refine bodyPost_ret (v := .tuple #[.agg #[.slice none 0 0, .slice none 0 0], .bool false]) (by simp [results, Try.results13, go_sem, z0, z1, z2, z3]) rfl ?_
      refine ⟨none, 0, 0, none, 0, 0, by rw [HZ.out.1]; exact QuaG.nil _ _, ((HB2).out.setCell hrw2 _).setCell hrw2 _, by rw [HZ.out.2]⟩
    · have HT := Lib.hid ht
      have HV := Lib.hid hv
      clear ht hv
      go_wp2_with (go_at_call 43; refine (l12Txn_any t _).mono ?_; rintro e w' ⟨rfl, rfl⟩; rw [HT.out])
      refine (specStoreValid_any l L nl cl w2 lo' hi' hh2' HL2.out).mono ?_
      rintro e w3 ⟨rfl, hb3⟩
      have HB3 := Lib.hid (bel_tr HB2.out (Nat.le_refl _) hb3)
      have HBX3 := Lib.hid (HBX2.out.fresh hb3)
      have HJ3 := Lib.hid (HJ2.out.below hb3 hh2)
      have HI3 := Lib.hid (HI2.out.below hb3 hh2)
      have hh3 : hi ≤ w3.heap.size := Nat.le_trans hh2 hb3.size
      have hw23 := hb3.size
      have HL3 := Lib.hid (HL2.out.below hb3 hh2')
      have hh3' : hi' ≤ w3.heap.size := Nat.le_trans hh2' hb3.size
      clear hb3 z0 z1 z2 z3 f0 f1 l0 l1
      obtain ⟨z0, z1, z2, z3, f0, f1, l0, l1⟩ := HBX3.out.cells
      have HNL := Lib.hid HL3.out.len.1
      rcases hsl : storeB l with _ | _
      · have HZ := Lib.hid (putIn_no (q := ⟨os, zs⟩) (t := t) (l := l) (by unfold putIn; rw [fullB_store hsl]; simp))
        clear hsl
        go_wp2_with fail
        refine bodyPost_ret (v := .tuple #[.agg #[.slice none 0 0, .slice none 0 0], .bool false]) (by simp [results, Try.results13, go_sem, z0, z1, z2, z3]) rfl ?_
        refine ⟨none, 0, 0, none, 0, 0, by rw [HZ.out.1]; exact QuaG.nil _ _, ((HB3).out.setCell hrw2 _).setCell hrw2 _, by rw [HZ.out.2]⟩
      · by_cases hl0 : nl = 0
        · have HZ := Lib.hid (putIn_no (q := ⟨os, zs⟩) (t := t) (l := l) (by unfold putIn; rw [fullB_none (by rw [← HNL.out]; exact hl0)]; simp))
          subst hl0
          clear hsl
          go_wp2_with fail
          refine bodyPost_ret (v := .tuple #[.agg #[.slice none 0 0, .slice none 0 0], .bool false]) (by simp [results, Try.results13, go_sem, z0, z1, z2, z3]) rfl ?_
          refine ⟨none, 0, 0, none, 0, 0, by rw [HZ.out.1]; exact QuaG.nil _ _, ((HB3).out.setCell hrw2 _).setCell hrw2 _, by rw [HZ.out.2]⟩
        · have HFL := Lib.hid (fullB_yes hsl (by rw [← HNL.out]; omega))
          have HIN : Hid (putIn ⟨os, zs⟩ t l = true) := Lib.hid (by unfold putIn; rw [HT.out, HV.out, HFL.out]; rfl)
          have HLO : Hid (∀ o ∈ l, objB o = true) := Lib.hid ((storeB_iff l).1 hsl).1
          have hnl16 : nl ≤ 16 := by rw [HNL.out]; exact ((storeB_iff l).1 hsl).2.2
          have hl1 : ((nl : Int) == 0) = false := by simp; omega
          have hl2 : (nl == 0) = false := by simp; omega
          clear hsl hl0
          obtain ⟨⟨v1, v2⟩, v3, v4⟩ := (quaB_iff _).1 HV.out
          obtain ⟨s1, s2, s3⟩ := (storeB_iff _).1 v3
          dsimp only at v1 v2 v3 v4 s1 s2 s3
          have hm4 : m ≤ 4 := by rw [HM.out]; omega
          have hn16 : n ≤ 16 := by rw [HN.out]; omega
          have HAA := Lib.hid v2
          have HSM : Hid (∀ o ∈ os, objB o = true) := Lib.hid s1
          have HSA0 : Hid (storeB (areaL zs t) = true) := Lib.hid (areaL_store (q := ⟨os, zs⟩) HV.out t)
          have HSA : Hid (∀ o ∈ areaL zs t, objB o = true) := Lib.hid ((storeB_iff _).1 HSA0.out).1
          clear v1 v2 v3 v4 s1 s2 s3
          go_wp2_with fail
          refine (l13Find_any zs t A n c B m d w3 lo hi hh3 HAA.out HI3.out).mono ?_
          rintro e w4 ⟨r9, hf9, hb4, rfl⟩
          have HF := Lib.hid hf9.ways
          clear hl1 hl2 hf9
          have HB4 := Lib.hid (bel_tr HB3.out (Nat.le_refl _) hb4)
          have HBX4 := Lib.hid (HBX3.out.fresh hb4)
          have HJ4 := Lib.hid (HJ3.out.below hb4 hh3)
          have HI4 := Lib.hid (HI3.out.below hb4 hh3)
          have hh4 : hi ≤ w4.heap.size := Nat.le_trans hh3 hb4.size
          have hw34 := hb4.size
          have HL4 := Lib.hid (HL3.out.below hb4 hh3')
          have hh4' : hi' ≤ w4.heap.size := Nat.le_trans hh3' hb4.size
          clear hb4 z0 z1 z2 z3 f0 f1 l0 l1
          obtain ⟨w5, hw5⟩ : ∃ w5, w5 = w4.alloc (.cells #[] 58) := ⟨_, rfl⟩
          have hb5 : Below w4.heap.size w4 w5 := by rw [hw5]; exact (Below.refl _ _).alloc (Nat.le_refl _) _
          have HB5 := Lib.hid (bel_tr HB4.out (Nat.le_refl _) hb5)
          have HBX5 := Lib.hid (HBX4.out.fresh hb5)
          have HJ5 := Lib.hid (HJ4.out.below hb5 hh4)
          have HI5 := Lib.hid (HI4.out.below hb5 hh4)
          have hh5 : hi ≤ w5.heap.size := Nat.le_trans hh4 hb5.size
          have hw45 := hb5.size
          have HL5 := Lib.hid (HL4.out.below hb5 hh4')
          have hh5' : hi' ≤ w5.heap.size := Nat.le_trans hh4' hb5.size
          clear hb5
          obtain ⟨z0, z1, z2, z3, f0, f1, l0, l1⟩ := HBX5.out.cells
          go_upto_if 38 with (fail)
          rw [← hw5]
          clear hw5
          go_cut [9] (fun v wx => ∃ (Ax : Option Addr) (mx cx : Nat), v = .slice Ax mx cx ∧ Hid (D.rd w5 0 w5.heap.size (dObjects (areaL zs t)) (.slice Ax mx cx)) ∧ w5 = wx)
          case first =>
            rcases HF.out with ⟨rfl, hn, he⟩ | ⟨k, hk, rfl, hn, he⟩
            · have HR : Hid (D.rd w5 0 w5.heap.size (dObjects (areaL zs t)) (.slice (some ⟨w4.heap.size, 0, none⟩) 0 0)) := by rw [he]; exact Lib.hid (rd_nilO _ _ _ _ _ (by omega))
              clear hn he
              go_wp2_with fail
              go_meet
              exact ⟨_, _, _, rfl, HR, rfl⟩
            · have hkm : k < m := by rw [HM.out]; exact hk
              obtain ⟨b, o, hl, A1, n1, c1, rfl, _, hbh, hc0, hc1, ⟨hn1, hm1, hr1⟩⟩ := rd_Area HI5.out hkm
              have hbw : b < w5.heap.size := by omega
              have HR : Hid (D.rd w5 0 w5.heap.size (dObjects (areaL zs t)) (.slice A1 n1 c1)) := by rw [he]; exact Lib.hid (hr1.more (Nat.zero_le _) hh5)
              have h0k : decide ((0 : Int) ≤ (k : Int)) = true := decide_eq_true (Int.natCast_nonneg k)
              clear hc0 hr1 hn he hl hk
              simp only [h0k]
              go_wp2_with fail
              go_meet
              exact ⟨_, _, _, rfl, HR, rfl⟩
          case rest =>
            obtain ⟨Ax, mx, cx, rfl, HRX, rfl⟩ := hcut
            have hmx : mx ≤ 16 := by have := HRX.out.len.1; have := ((storeB_iff _).1 HSA0.out).2.2; omega
            have HMX := Lib.hid HRX.out.len.1
            go_wp2_with fail
            refine (l13All_any (areaL zs t) l Ax mx cx L nl cl w5 0 w5.heap.size lo' hi' (Nat.le_refl _) hh5' (by omega) HSA.out HLO.out HRX.out HL5.out).mono ?_
            rintro e w6 ⟨C, q6, d6, hql6, hg6, hb6, rfl⟩
            have hq6 : q6 ≤ 32 := by have := allP_len (areaL zs t) l; have := HMX.out; have := HNL.out; omega
            have HO6 : Hid (Own w6 w5.heap.size (dObjects (newA ⟨os, zs⟩ t l)) (.slice C q6 d6)) := Lib.hid (by have := hg6.own; unfold newA dObjects; rw [← hql6]; exact this)
            have HSN : Hid (∀ o ∈ newA ⟨os, zs⟩ t l, objB o = true) := Lib.hid (allP_objs HSA.out HLO.out)
            have HB6 := Lib.hid (bel_tr HB5.out (Nat.le_refl _) hb6)
            have HBX6 := Lib.hid (HBX5.out.fresh hb6)
            have HJ6 := Lib.hid (HJ5.out.below hb6 hh5)
            have HI6 := Lib.hid (HI5.out.below hb6 hh5)
            have hh6 : hi ≤ w6.heap.size := Nat.le_trans hh5 hb6.size
            have hw56 := hb6.size
            clear hg6 hql6 hb6 z0 z1 z2 z3 f0 f1 l0 l1
            obtain ⟨z0, z1, z2, z3, f0, f1, l0, l1⟩ := HBX6.out.cells
            go_wp2_with fail
            refine (l13All_any os (newA ⟨os, zs⟩ t l) A n c C q6 d6 w6 lo hi w5.heap.size w6.heap.size hh6 (Nat.le_refl _) (by omega) HSM.out HSN.out HJ6.out HO6.out.rd).mono ?_
            rintro e w7 ⟨C7, q7, d7, hql7, hg7, hb7, rfl⟩
            have HO7 := Lib.hid (HO6.out.fresh hb7)
            have HB7 := Lib.hid (bel_tr HB6.out (Nat.le_refl _) hb7)
            have HBX7 := Lib.hid (HBX6.out.fresh hb7)
            have HJ7 := Lib.hid (HJ6.out.below hb7 hh6)
            have HI7 := Lib.hid (HI6.out.below hb7 hh6)
            have hh7 : hi ≤ w7.heap.size := Nat.le_trans hh6 hb7.size
            have hw67 := hb7.size
            clear hg7 hql7 hb7 z0 z1 z2 z3 f0 f1 l0 l1
            obtain ⟨z0, z1, z2, z3, f0, f1, l0, l1⟩ := HBX7.out.cells
            obtain ⟨b1, hb1⟩ : ∃ b1, b1 = (allP (areaL zs t) l).2 := ⟨_, rfl⟩
            obtain ⟨b2, hb2⟩ : ∃ b2, b2 = (allP os (newA ⟨os, zs⟩ t l)).2 := ⟨_, rfl⟩
            have HB1' := Lib.hid hb1
            have HB2' := Lib.hid hb2
            rw [← hb1, ← hb2]
            clear hb1 hb2
            go_upto_region 9 with (fail)
            go_cut [73] (fun v wx => ∃ ok : Bool, v = .bool (!ok) ∧ Hid (ok = putOk ⟨os, zs⟩ t l) ∧ w7 = wx)
            case first =>
              have HOK : Hid (putOk ⟨os, zs⟩ t l = (b1 && b2 && !(decide (areaO zs t = none) && decide (4 ≤ zs.length)))) := Lib.hid (by unfold putOk; dsimp only; rw [HB1'.out, HB2'.out]; exact putOk_inst _ _ _ _ _)
              rcases b1 with _ | _
              · have HZ : Hid (false = putOk ⟨os, zs⟩ t l) := Lib.hid (by rw [HOK.out]; rfl)
                go_wp2_with fail
                go_meet
                exact ⟨false, rfl, HZ, rfl⟩
              rcases b2 with _ | _
              · have HZ : Hid (false = putOk ⟨os, zs⟩ t l) := Lib.hid (by rw [HOK.out]; rfl)
                go_wp2_with fail
                go_meet
                exact ⟨false, rfl, HZ, rfl⟩
              rcases HF.out with ⟨rfl, hn, he⟩ | ⟨k, hk, rfl, hn, he⟩
              · by_cases h4 : 4 ≤ m
                · have HZ : Hid (false = putOk ⟨os, zs⟩ t l) := Lib.hid (by rw [HOK.out, hn, decide_eq_true (show 4 ≤ zs.length by rw [← HM.out]; exact h4)]; simp)
                  have h4i : (4 : Int) ≤ (m : Int) := by omega
                  clear hn he
                  go_wp2_with fail
                  go_meet
                  exact ⟨false, rfl, HZ, rfl⟩
                · have HZ : Hid (true = putOk ⟨os, zs⟩ t l) := Lib.hid (by rw [HOK.out, hn, decide_eq_false (show ¬ 4 ≤ zs.length by rw [← HM.out]; exact h4)]; simp)
                  have h4i : ¬ (4 : Int) ≤ (m : Int) := by omega
                  clear hn he
                  go_wp2_with fail
                  go_meet
                  exact ⟨true, rfl, HZ, rfl⟩
              · have HZ : Hid (true = putOk ⟨os, zs⟩ t l) := Lib.hid (by rw [HOK.out]; obtain ⟨x, hx⟩ := Option.isSome_iff_exists.1 hn; rw [hx]; simp)
                have h0k : decide ((k : Int) < (0 : Int)) = false := by simp
                clear hn he hk
                go_wp2_with fail
                go_meet
                exact ⟨true, rfl, HZ, rfl⟩
            case rest =>
              obtain ⟨ok, rfl, HOK, rfl⟩ := hcut
              rcases ok with _ | _
              · have HRES := Lib.hid (quaPut_not (q := ⟨os, zs⟩) HIN.out HOK.out.symm)
                go_wp2_with fail
                refine (l13Copy_any os zs A n c B m d w7 lo hi hh7 HV.out HJ7.out HI7.out).mono ?_
                rintro e w9 ⟨C6, n6, dc6, V6, m6, cV6, hq6, hb6, rfl⟩
                have HB9 := Lib.hid (bel_tr HB7.out (Nat.le_refl _) hb6)
                have HBX9 := Lib.hid (HBX7.out.fresh hb6)
                have HQ6 := Lib.hid hq6
                clear z0 z1 z2 z3 f0 f1 l0 l1
                obtain ⟨g0, g1, g2, g3, gf0, gf1, gl0, gl1⟩ := HBX9.out.cells
                clear hq6 hb6
                go_wp2_with fail
                refine bodyPost_ret (v := .tuple #[.agg #[.slice C6 n6 dc6, .slice V6 m6 cV6], .bool false]) (by simp [results, Try.results13, go_sem, g2, g3, gf0, gf1]) rfl ?_
                exact ⟨C6, n6, dc6, V6, m6, cV6, by rw [HRES.out.1]; exact ((HQ6.out.set (hltS HBX7.out.2) _ _).set (hltS HBX7.out.2) _ _).low (HB7.out.size), (HB9.out.setCell hrw2 _).setCell hrw2 _, by rw [HRES.out.2]⟩
              · have HRES := Lib.hid (quaPut_ok (q := ⟨os, zs⟩) HIN.out HOK.out.symm)
                go_wp2_with fail
                refine (l13Set_any os zs A n c B m d t (newA ⟨os, zs⟩ t l) C q6 d6 w7 0 w7.heap.size (Nat.le_refl _) HV.out (HJ7.out.more (Nat.zero_le _) hh7) (HI7.out.more (Nat.zero_le _) hh7) (HO7.out.rd.more (Nat.zero_le _) (Nat.le_refl _)) (fun o ho => by have := (objB_and (HSN.out o ho)).2.1; omega) (by have := HO7.out.rd.len.1; omega)).mono ?_
                rintro e w9 ⟨C6, n6, dc6, V6, m6, cV6, hq6', hb6, rfl⟩
                have HB9 := Lib.hid (bel_tr HB7.out (Nat.le_refl _) hb6)
                have HBX9 := Lib.hid (HBX7.out.fresh hb6)
                have HQ6 := Lib.hid hq6'
                clear z0 z1 z2 z3 f0 f1 l0 l1
                obtain ⟨g0, g1, g2, g3, gf0, gf1, gl0, gl1⟩ := HBX9.out.cells
                clear hq6' hb6
                go_wp2_with fail
                refine bodyPost_ret (v := .tuple #[.agg #[.slice C6 n6 dc6, .slice V6 m6 cV6], .bool true]) (by simp [results, Try.results13, go_sem, g2, g3, gf0, gf1]) rfl ?_
                exact ⟨C6, n6, dc6, V6, m6, cV6, by rw [HRES.out.1]; exact ((HQ6.out.set (hltS HBX7.out.2) _ _).set (hltS HBX7.out.2) _ _).low (HB7.out.size), (HB9.out.setCell hrw2 _).setCell hrw2 _, by rw [HRES.out.2]⟩
set_option maxRecDepth 100000 in
set_option maxHeartbeats 3200000 in
theorem specPromote_any (os : List ObjD) (zs : List AreaD) (t : Int) (A : Option Addr) (n c : Nat) (B : Option Addr) (m d : Nat) (w : World) (lo hi : Nat) (hh : hi ≤ w.heap.size) (h : D.rd w lo hi (dObjects os) (.slice A n c)) (h' : D.rd w lo hi (dAreas zs) (.slice B m d)) :
    Calls Try.prog 34 #[.agg #[.slice A n c, .slice B m d], .int .i64 t] w fun e w' => QuaR w (quaPro ⟨os, zs⟩ t) (quaProB ⟨os, zs⟩ t) e w' := by
  obtain ⟨r, hr⟩ : ∃ r, r = w.heap.size := ⟨_, rfl⟩
  obtain ⟨r2, hr2⟩ : ∃ r2, r2 = w.heap.size + 1 := ⟨_, rfl⟩
  obtain ⟨w1, hw1⟩ : ∃ w1, w1 = (w.alloc (.cells #[.slice A n c, .slice B m d] 31)).alloc (.cells #[.slice none 0 0, .slice none 0 0] 31) := ⟨_, rfl⟩
  have hb1 : Below w.heap.size w w1 := by rw [hw1]; exact ((Below.refl _ _).alloc (Nat.le_refl _) _).alloc (by simp) _
  have hx1 : w1.heap[r]? = some (.cells #[.slice A n c, .slice B m d] 31 (0, 0)) := by rw [hw1, hr]; exact (Below.heap_alloc _ _ _ (by simp)).trans (heap_alloc_new w _)
  have hx2 : w1.heap[r2]? = some (.cells #[.slice none 0 0, .slice none 0 0] 31 (0, 0)) := by
    have := heap_alloc_new (w.alloc (.cells #[.slice A n c, .slice B m d] 31)) (.cells #[.slice none 0 0, .slice none 0 0] 31)
    rw [hw1, hr2]; simpa using this
  have HBX1 : Hid (Boxes w1 r r2 A n c B m d) := Lib.hid ⟨hx1, hx2⟩
  have hrw : w.heap.size ≤ r := by omega
  have hrw2 : w.heap.size ≤ r2 := by omega
  have hne : ¬ (r = r2) := by omega
  have hne2 : ¬ (r2 = r) := by omega
  have hrs : r < w1.heap.size := hltS hx1
  have hrs2 : r2 < w1.heap.size := hltS hx2
  have HB1 := Lib.hid hb1
  have hh1 : hi ≤ w1.heap.size := Nat.le_trans hh hb1.size
  have HJ1 := Lib.hid (h.below hb1 hh)
  have HI1 := Lib.hid (h'.below hb1 hh)
  have HN := Lib.hid h.len.1
  have HM := Lib.hid h'.len.1
  clear h h' hb1 hx1 hx2
  go_enter Try.func34, Try.ntmps34
  go_upto_region 1 with (fail)
  rw [← hw1, ← hr2, ← hr]
  clear hw1 hr hr2
  obtain ⟨k0, k1, k2, k3, f0, f1, l0, l1⟩ := HBX1.out.cells
  go_wp2_with fail
  refine (specQuaValid_any os zs A n c B m d w1 lo hi hh1 HJ1.out HI1.out).mono ?_
  rintro e w2 ⟨rfl, hb2⟩
  have HB2 := Lib.hid (bel_tr HB1.out (Nat.le_refl _) hb2)
  have HBX2 := Lib.hid (HBX1.out.fresh hb2)
  have hs12 := hb2.size
  have HJ2 := Lib.hid (HJ1.out.below hb2 hh1)
  have HI2 := Lib.hid (HI1.out.below hb2 hh1)
  have hh2 : hi ≤ w2.heap.size := Nat.le_trans hh1 hb2.size
  clear hb2 k0 k1 k2 k3 f0 f1 l0 l1
  obtain ⟨z0, z1, z2, z3, f0, f1, l0, l1⟩ := HBX2.out.cells
  rcases hv : quaB ⟨os, zs⟩ with _ | _
  · have HZ := Lib.hid (proIn_no (q := ⟨os, zs⟩) (t := t) (by unfold proIn; rw [hv]; rfl)).2
    clear hv
    go_wp2_with fail
    refine bodyPost_ret (v := .tuple #[.agg #[.slice none 0 0, .slice none 0 0], .bool false]) (by simp [results, Try.results34, go_sem, z0, z1, z2, z3]) rfl ?_
    refine ⟨none, 0, 0, none, 0, 0, by rw [HZ.out.1]; exact QuaG.nil _ _, ((HB2).out.setCell hrw2 _).setCell hrw2 _, by rw [HZ.out.2]⟩
  · rcases ht : txnB t with _ | _
    · have HZ := Lib.hid (proIn_no (q := ⟨os, zs⟩) (t := t) (by unfold proIn; rw [ht]; simp)).2
      have HT := Lib.hid ht
      clear ht hv
      go_wp2_with (go_at_call 43; refine (l12Txn_any t _).mono ?_; rintro e w' ⟨rfl, rfl⟩; rw [HT.out])
      go_wp2_with fail
      refine bodyPost_ret (v := .tuple #[.agg #[.slice none 0 0, .slice none 0 0], .bool false]) (by simp [results, Try.results34, go_sem, z0, z1, z2, z3]) rfl ?_
      refine ⟨none, 0, 0, none, 0, 0, by rw [HZ.out.1]; exact QuaG.nil _ _, ((HB2).out.setCell hrw2 _).setCell hrw2 _, by rw [HZ.out.2]⟩
    · have HIN : Hid (proIn ⟨os, zs⟩ t = true) := Lib.hid (by unfold proIn; rw [ht, hv]; rfl)
      have HT := Lib.hid ht
      have HV := Lib.hid hv
      clear ht hv
      obtain ⟨⟨v1, v2⟩, v3, v4⟩ := (quaB_iff _).1 HV.out
      obtain ⟨s1, s2, s3⟩ := (storeB_iff _).1 v3
      dsimp only at v1 v2 v3 v4 s1 s2 s3
      have hm4 : m ≤ 4 := by rw [HM.out]; omega
      have hn16 : n ≤ 16 := by rw [HN.out]; omega
      have HAA := Lib.hid v2
      have HSM : Hid (∀ o ∈ os, objB o = true) := Lib.hid s1
      have HSA0 : Hid (storeB (areaL zs t) = true) := Lib.hid (areaL_store (q := ⟨os, zs⟩) HV.out t)
      have HSA : Hid (∀ o ∈ areaL zs t, objB o = true) := Lib.hid ((storeB_iff _).1 HSA0.out).1
      clear v1 v2 v3 v4 s1 s2 s3
      go_wp2_with (go_at_call 43; refine (l12Txn_any t _).mono ?_; rintro e w' ⟨rfl, rfl⟩; rw [HT.out])
      refine (l13Find_any zs t A n c B m d w2 lo hi hh2 HAA.out HI2.out).mono ?_
      rintro e w3 ⟨r9, hf9, hb3, rfl⟩
      have HF := Lib.hid hf9.ways
      clear hf9
      have HB3 := Lib.hid (bel_tr HB2.out (Nat.le_refl _) hb3)
      have HBX3 := Lib.hid (HBX2.out.fresh hb3)
      have HJ3 := Lib.hid (HJ2.out.below hb3 hh2)
      have HI3 := Lib.hid (HI2.out.below hb3 hh2)
      have hh3 : hi ≤ w3.heap.size := Nat.le_trans hh2 hb3.size
      have hw23 := hb3.size
      clear hb3 z0 z1 z2 z3 f0 f1 l0 l1
      obtain ⟨z0, z1, z2, z3, f0, f1, l0, l1⟩ := HBX3.out.cells
      rcases HF.out with ⟨rfl, hn, he⟩ | ⟨k, hk, rfl, hn, he⟩
      · have HRES := Lib.hid (quaPro_none (q := ⟨os, zs⟩) HIN.out (by show (areaO zs t).isSome = false; rw [hn]; rfl))
        clear hn he
        go_wp2_with fail
        refine (l13Copy_any os zs A n c B m d w3 lo hi hh3 HV.out HJ3.out HI3.out).mono ?_
        rintro e w9 ⟨C6, n6, dc6, V6, m6, cV6, hq6, hb6, rfl⟩
        have HB9 := Lib.hid (bel_tr HB3.out (Nat.le_refl _) hb6)
        have HBX9 := Lib.hid (HBX3.out.fresh hb6)
        have HQ6 := Lib.hid hq6
        clear z0 z1 z2 z3 f0 f1 l0 l1
        obtain ⟨g0, g1, g2, g3, gf0, gf1, gl0, gl1⟩ := HBX9.out.cells
        clear hq6 hb6
        go_wp2_with fail
        refine bodyPost_ret (v := .tuple #[.agg #[.slice C6 n6 dc6, .slice V6 m6 cV6], .bool false]) (by simp [results, Try.results34, go_sem, g2, g3, gf0, gf1]) rfl ?_
        exact ⟨C6, n6, dc6, V6, m6, cV6, by rw [HRES.out.1]; exact ((HQ6.out.set (hltS HBX3.out.2) _ _).set (hltS HBX3.out.2) _ _).low (HB3.out.size), (HB9.out.setCell hrw2 _).setCell hrw2 _, by rw [HRES.out.2]⟩
      · have hkm : k < m := by rw [HM.out]; exact hk
        obtain ⟨b, o, hl, A1, n1, c1, rfl, _, hbh, hc0, hc1, ⟨hn1, hm1, hr1⟩⟩ := rd_Area HI3.out hkm
        have HRX : Hid (D.rd w3.drew lo hi (dObjects (areaL zs t)) (.slice A1 n1 c1)) := by rw [he]; exact Lib.hid hr1.drew
        have hn116 : n1 ≤ 16 := by have := HRX.out.len.1; have := ((storeB_iff _).1 HSA0.out).2.2; omega
        have HN1 := Lib.hid hn
        have lb : b < w3.heap.size := by omega
        have hhd : hi ≤ w3.drew.heap.size := hh3
        have HJd := Lib.hid HJ3.out.drew
        clear hc0 hr1 hn he hk hl hn1 hm1
        go_upto_region 6 with (fail)
        have tok1 : True := trivial
        go_region_held_law (fun w' => w'.cell? ⟨b, o + k * 2 + 1, none⟩ = some (.slice A1 n1 c1) ∧ w'.cell? ⟨r, 0, none⟩ = some (.slice A n c) ∧ w'.cell? ⟨r, 1, none⟩ = some (.slice (some ⟨b, o, none⟩) m d)) (go_keep)
          ((go_at_call 45; have _t := tok1; refine (l13All_any os (areaL zs t) A n c A1 n1 c1 w3.drew lo hi lo hi hhd hhd (by omega) HSM.out HSA.out HJd.out HRX.out).mono ?_; rintro e w4 ⟨C, q4, d4, hql4, hg4, hb4', rfl⟩; have hb4 := below_of_drew hb4'; have HO4 : Hid (Own w4 w3.heap.size (dObjects (allP os (areaL zs t)).1) (.slice C q4 d4)) := Lib.hid (by have := hg4.own; unfold dObjects; rw [← hql4]; exact this); have g0 : w4.cell? ⟨b, o + k * 2 + 1, none⟩ = some (.slice A1 n1 c1) := (hb4.cell lb).trans hc1; have g1 : w4.cell? ⟨r, 0, none⟩ = some (.slice A n c) := (hb4.cell l0).trans z0; have g2 : w4.cell? ⟨r, 1, none⟩ = some (.slice (some ⟨b, o, none⟩) m d) := (hb4.cell l0).trans z1; have HC4 := Lib.hid hb4; clear tok1 hql4 hg4 hb4' hb4))
        all_goals
          have HB4 := Lib.hid (bel_tr HB3.out (Nat.le_refl _) HC4.out)
          have HBX4 := Lib.hid (HBX3.out.fresh HC4.out)
          have HJ4 := Lib.hid (HJ3.out.below HC4.out hh3)
          have HI4 := Lib.hid (HI3.out.below HC4.out hh3)
          have hh4 : hi ≤ w4.heap.size := Nat.le_trans hh3 HC4.out.size
          have hw34 := HC4.out.size
          clear g0 g1 g2 z0 z1 z2 z3 f0 f1 l0 l1
          obtain ⟨z0, z1, z2, z3, f0, f1, l0, l1⟩ := HBX4.out.cells
          rcases hp : (allP os (areaL zs t)).2 with _ | _
          · have HRES := Lib.hid (quaPro_fail (q := ⟨os, zs⟩) HIN.out hp)
            clear hp
            go_wp2_with fail
            refine (l13Copy_any os zs A n c (some ⟨b, o, none⟩) m d w4 lo hi hh4 HV.out HJ4.out HI4.out).mono ?_
            rintro e w9 ⟨C6, n6, dc6, V6, m6, cV6, hq6, hb6, rfl⟩
            have HB9 := Lib.hid (bel_tr HB4.out (Nat.le_refl _) hb6)
            have HBX9 := Lib.hid (HBX4.out.fresh hb6)
            have HQ6 := Lib.hid hq6
            clear z0 z1 z2 z3 f0 f1 l0 l1
            obtain ⟨g0, g1, g2, g3, gf0, gf1, gl0, gl1⟩ := HBX9.out.cells
            clear hq6 hb6
            go_wp2_with fail
            refine bodyPost_ret (v := .tuple #[.agg #[.slice C6 n6 dc6, .slice V6 m6 cV6], .bool false]) (by simp [results, Try.results34, go_sem, g2, g3, gf0, gf1]) rfl ?_
            exact ⟨C6, n6, dc6, V6, m6, cV6, by rw [HRES.out.1]; exact ((HQ6.out.set (hltS HBX4.out.2) _ _).set (hltS HBX4.out.2) _ _).low (HB4.out.size), (HB9.out.setCell hrw2 _).setCell hrw2 _, by rw [HRES.out.2]⟩
          · have HRES := Lib.hid (quaPro_yes (q := ⟨os, zs⟩) HIN.out HN1.out hp)
            clear hp
            obtain ⟨w5, hw5⟩ : ∃ w5, w5 = w4.alloc (.cells #[] 58) := ⟨_, rfl⟩
            have hb5 : Below w4.heap.size w4 w5 := by rw [hw5]; exact (Below.refl _ _).alloc (Nat.le_refl _) _
            have HO5 := Lib.hid (HO4.out.fresh hb5)
            have HB5 := Lib.hid (bel_tr HB4.out (Nat.le_refl _) hb5)
            have HBX5 := Lib.hid (HBX4.out.fresh hb5)
            have HJ5 := Lib.hid (HJ4.out.below hb5 hh4)
            have HI5 := Lib.hid (HI4.out.below hb5 hh4)
            have hh5 : hi ≤ w5.heap.size := Nat.le_trans hh4 hb5.size
            have hw45 := hb5.size
            clear hb5 z0 z1 z2 z3 f0 f1 l0 l1
            obtain ⟨z0, z1, z2, z3, f0, f1, l0, l1⟩ := HBX5.out.cells
            go_wp2_with fail
            rw [← hw5]
            clear hw5
            refine (l13Set_any os zs A n c (some ⟨b, o, none⟩) m d t [] (some ⟨w4.heap.size, 0, none⟩) 0 0 w5 lo hi hh5 HV.out HJ5.out HI5.out (rd_nilO _ _ _ _ _ (by omega)) (fun o ho => by cases ho) (by simp)).mono ?_
            rintro e w6 ⟨C6, n6, dc6, V6, m6, cV6, hq6, hb6, rfl⟩
            have HB6 := Lib.hid (bel_tr HB5.out (Nat.le_refl _) hb6)
            have HBX6 := Lib.hid (HBX5.out.fresh hb6)
            have HQ6 := Lib.hid (hq6.main HO5.out hb6 (Nat.le_refl _) (by omega))
            obtain ⟨w7, hw7⟩ : ∃ w7, w7 = w6.alloc (.cells #[.slice C6 n6 dc6, .slice V6 m6 cV6] 31) := ⟨_, rfl⟩
            have hb7 : Below w6.heap.size w6 w7 := by rw [hw7]; exact (Below.refl _ _).alloc (Nat.le_refl _) _
            have hx7 : w7.heap[w6.heap.size]? = some (.cells #[.slice C6 n6 dc6, .slice V6 m6 cV6] 31 (0, 0)) := by rw [hw7]; exact heap_alloc_new w6 _
            have HB7 := Lib.hid (bel_tr HB6.out (Nat.le_refl _) hb7)
            have HBX7 := Lib.hid (HBX6.out.fresh hb7)
            have HQ7 := Lib.hid hq6
            obtain ⟨p9, hp9⟩ : ∃ p9, p9 = w6.heap.size := ⟨_, rfl⟩
            rw [← hp9] at hx7
            have hne1 : ¬ (p9 = r2) := by have := hltS HBX6.out.2; omega
            have hne1' : ¬ (r2 = p9) := fun e => hne1 e.symm
            have hne3 : ¬ (p9 = r) := by have := hltS HBX6.out.1; omega
            have hne3' : ¬ (r = p9) := fun e => hne3 e.symm
            have q0 : w7.cell? ⟨p9, 0, none⟩ = some (.slice C6 n6 dc6) := cell_of_row _ _ _ _ _ _ hx7
            have q1 : w7.cell? ⟨p9, 1, none⟩ = some (.slice V6 m6 cV6) := cell_of_row _ _ _ _ _ _ hx7
            have qf0 : w7.frozen? ⟨p9, 0, none⟩ = false := frozen_of_row _ _ _ _ _ hx7
            have lq := hltS hx7
            have HHP : Hid (w.heap.size ≤ p9) := Lib.hid (by rw [hp9]; exact HB6.out.size)
            have HQM := Lib.hid (HQ6.out.kept (grown_none (hb7.setCell (p := ⟨p9, 0, none⟩) (by show w6.heap.size ≤ p9; omega) (.slice C q4 d4)) none) (fun g h => by cases h))
            have HLR3 : Hid (r2 < w3.heap.size) := Lib.hid (hltS HBX3.out.2)
            have HW3 : Hid (w.heap.size ≤ w3.heap.size) := Lib.hid HB3.out.size
            clear hb6 hb7 hx7 hq6 z0 z1 z2 z3 f0 f1 l0 l1
            obtain ⟨z0, z1, z2, z3, f0, f1, l0, l1⟩ := HBX7.out.cells
            go_upto_region 10 with (fail)
            rw [← hw7, ← hp9]
            clear hw7 hp9
            go_wp2_with fail
            refine bodyPost_ret (v := .tuple #[.agg #[.slice C q4 d4, .slice V6 m6 cV6], .bool true]) (by simp [results, Try.results34, go_sem, z2, z3, f0, f1, hne1, hne1']) rfl ?_
            exact ⟨C, q4, d4, V6, m6, cV6, by rw [HRES.out.1]; exact ((HQM.out.set HLR3.out _ _).set HLR3.out _ _).low HW3.out, ((HB7.out.setCell HHP.out _).setCell hrw2 _).setCell hrw2 _, by rw [HRES.out.2]⟩

end Go.Proofs.Ytgpjcmplnigmcaa
