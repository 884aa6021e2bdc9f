/-
  The walk of the program's Quarantine.areas: the areas as a map of the call's own. Condition: the areas are valid and in order.
  The walk of the program's quarantineOf: the quarantine of a store and a map of areas. Condition: the map's keys are transactions.
-/
import Derived.Test.YtgpjcmplnigmcaaM9
import Derived.Test.YtgpjcmplnigmcaaShelfK
namespace Go.Proofs.Ytgpjcmplnigmcaa
set_option linter.unusedVariables false
set_option linter.unusedSimpArgs false
open Go.RowKit

theorem areaO_snoc {zs : List AreaD} {a : AreaD} (h : AscA (zs ++ [a])) : areaO (zs ++ [a]) = fun j => if j = a.txn then some a.objs else areaO zs j := by
  have hz : AscA zs := by unfold AscA at h ⊢; exact (List.pairwise_append.1 h).1
  have hlt : ∀ b ∈ zs, b.txn < a.txn := fun b hb => by unfold AscA at h; exact (List.pairwise_append.1 h).2.2 b hb a (by simp)
  funext j
  refine Option.ext fun os => ?_
  rw [areaO_mem h, List.mem_append, List.mem_singleton]
  by_cases e : j = a.txn
  · rw [if_pos e]
    subst e
    constructor
    · rintro (h1 | h1)
      · have := hlt _ h1; simp only at this; omega
      · rw [← h1]
    · intro h1
      injection h1 with h1
      exact .inr (by rw [← h1])
  · rw [if_neg e, areaO_mem hz]
    constructor
    · rintro (h1 | h1)
      · exact h1
      · rw [← h1] at e; exact absurd rfl e
    · exact .inl
theorem areaO_take {zs : List AreaD} (h : AscA zs) {k : Nat} (hk : k < zs.length) : areaO (zs.take (k + 1)) = fun j => if j = zs[k].txn then some zs[k].objs else areaO (zs.take k) j := by
  rw [List.take_succ_eq_append_getElem hk]
  refine areaO_snoc ?_
  rw [← List.take_succ_eq_append_getElem hk]
  unfold AscA at h ⊢
  exact h.sublist (List.take_sublist _ _)

set_option maxRecDepth 100000 in
set_option maxHeartbeats 1600000 in
theorem areas_any (zs : List AreaD) (A : Option Addr) (n c : Nat) (B : Option Addr) (m d : Nat) (w : World) (lo hi : Nat) (hh : hi ≤ w.heap.size) (hv : ∀ a ∈ zs, txnB a.txn = true ∧ storeB a.objs = true) (ha : AscA zs) (hm : m ≤ 1000) (h : D.rd w lo hi (dAreas zs) (.slice B m d)) :
    Calls Try.prog 52 #[.agg #[.slice A n c, .slice B m d]] w fun e w' => ∃ b, QMap w' w.heap.size b m (areaO zs) ∧ Below w.heap.size w w' ∧ e = .returned (.map (some b)) := by
  have HN := Lib.hid h.len.1
  have HI := Lib.hid h
  have HV := Lib.hid hv
  have HA := Lib.hid ha
  obtain ⟨w1, hw1⟩ : ∃ w1, w1 = w.alloc (.cells #[.slice A n c, .slice B m d] 31) := ⟨_, rfl⟩
  have hb1 : Below w.heap.size w w1 := by rw [hw1]; exact (Below.refl _ _).alloc (Nat.le_refl _) _
  have HI1 := Lib.hid (h.below hb1 hh)
  have HB1 := Lib.hid hb1
  have HM : Hid (QMap (w1.alloc (.map #[] 0)) w1.heap.size w1.heap.size 0 (areaO (zs.take 0))) := Lib.hid (QMap.made w1)
  have HB2 : Hid (Below w.heap.size w (w1.alloc (.map #[] 0))) := Lib.hid (hb1.alloc hb1.size _)
  obtain ⟨b, hb⟩ : ∃ b, b = w1.heap.size := ⟨_, rfl⟩
  have hwb : w.heap.size ≤ b := by rw [hb]; exact hb1.size
  obtain ⟨p, hp⟩ : ∃ p, p = w.heap.size := ⟨_, rfl⟩
  have hx1 : w1.heap[p]? = some (.cells #[.slice A n c, .slice B m d] 31 (0, 0)) := by rw [hw1, hp]; exact heap_alloc_new w _
  have k1 : w1.cell? ⟨p, 1, none⟩ = some (.slice B m d) := cell_of_row _ _ _ _ _ _ hx1
  have kp : p < w1.heap.size := hltS hx1
  have k1' : (w1.alloc (.map #[] 0)).cell? ⟨p, 1, none⟩ = some (.slice B m d) := (World.cell?_alloc_lt w1 _ _ kp).trans k1
  clear h hv ha hb1
  go_enter Try.func52, Try.ntmps52
  go_upto_region 1 with (fail)
  rw [← hw1, ← hp]
  clear hw1 hp hx1
  have hmm := @run_makeMap Try.prog
  go_wp2_with fail
  clear hmm
  rw [← hb]
  rw [← hb] at HM
  clear hb
  go_loopw [10] (fun i wr => ∃ k : Nat, k ≤ m ∧ i = .int .i64 k ∧ Hid (QMap wr b b k (areaO (zs.take k))) ∧ Below w.heap.size w wr) (fun i _ => m - (intOf i).toNat)
  case atStart => exact ⟨0, Nat.zero_le _, rfl, HM, HB2.out⟩
  case round =>
    obtain ⟨k, hk, rfl, HQ, hbw⟩ := hrel
    have HB := Lib.hid hbw
    have hwsz := hbw.size
    clear hbw HM HB2
    by_cases hlt : k < m
    · obtain ⟨b2, o, hl, A1, n1, c1, rfl, _, hbh, hc0, hc1, ⟨hn1, hm1, hr1⟩⟩ := rd_Area (HI.out.below HB.out hh) hlt
      have hhr : hi ≤ wr.heap.size := Nat.le_trans hh hwsz
      obtain ⟨hvt, hvs⟩ := HV.out _ (List.getElem_mem hl)
      obtain ⟨hvo, -, hv16⟩ := (storeB_iff _).1 hvs
      have hn16 : n1 ≤ 16 := by have := hr1.len.1; omega
      have HVO := Lib.hid hvo
      have hwf := wf_txn hvt
      obtain ⟨t, ht⟩ : ∃ t, t = zs[k].txn := ⟨_, rfl⟩
      rw [← ht] at hc0 hwf
      have HT := Lib.hid ht
      clear ht
      obtain ⟨w1, hw1⟩ : ∃ w1, w1 = wr.alloc (.cells #[.int .i64 t, .slice A1 n1 c1] 69) := ⟨_, rfl⟩
      obtain ⟨q, hq⟩ : ∃ q, q = wr.heap.size := ⟨_, rfl⟩
      have hb1 : Below wr.heap.size wr w1 := by rw [hw1]; exact (Below.refl _ _).alloc (Nat.le_refl _) _
      have hx1 : w1.heap[q]? = some (.cells #[.int .i64 t, .slice A1 n1 c1] 69 (0, 0)) := by rw [hw1, hq]; exact heap_alloc_new wr _
      have k0 : w1.cell? ⟨q, 0, none⟩ = some (.int .i64 t) := cell_of_row _ _ _ _ _ _ hx1
      have k1 : w1.cell? ⟨q, 1, none⟩ = some (.slice A1 n1 c1) := cell_of_row _ _ _ _ _ _ hx1
      have lq : q < w1.heap.size := hltS hx1
      have HLQ : Hid (b ≠ q) := Lib.hid (by have := HQ.out.lt; omega)
      have HR1 := Lib.hid ((hr1.below hb1 hhr).drew)
      have HB1 := Lib.hid (bel_tr HB.out (Nat.le_refl _) hb1)
      have HQ1 := Lib.hid (HQ.out.fresh hb1)
      have hh1 : hi ≤ w1.drew.heap.size := Nat.le_trans hhr hb1.size
      have hbw1 : b ≤ w1.heap.size := by have := HQ1.out.lt; omega
      have HTK := Lib.hid (areaO_take HA.out hl)
      go_upto_region 5 with (fail)
      rw [← hw1, ← hq]
      clear hw1 hq hb1 hx1 hr1 hvt hvs hvo hc0 hc1
      go_wp2_with fail
      go_region_held3 (fun w' => w'.cell? ⟨q, 0, none⟩ = some (.int .i64 t) ∧ w'.cell? ⟨q, 1, none⟩ = some (.slice A1 n1 c1)) (go_keep)
        (first | (go_at_call 56; refine (copyObjs_row zs[k].objs A1 n1 c1 w1.drew lo hi hh1 (by omega) (fun o ho => by have := (objB_and (HVO.out o ho)).2.1; omega) HR1.out).mono ?_; rintro e w2 ⟨C, dc, hg2, hb2', rfl⟩; have hb2 := below_of_drew hb2'; have hown2 : Own w2 w1.heap.size (dObjects zs[k].objs) (.slice C n1 dc) := (by have := hg2.own; unfold dObjects; rw [← HR1.out.len.1]; exact this); obtain ⟨w3, hrun, hq3, hg3⟩ := QMap.put HQ1.out hb2 (by unfold maxLen; omega) hwf hbw1 hown2; have hl2 : q < w2.heap.size := Nat.lt_of_lt_of_le lq hb2.size; have g0 : w2.cell? ⟨q, 0, none⟩ = some (.int .i64 t) := (hb2.cell lq).trans k0; have g1 : w2.cell? ⟨q, 1, none⟩ = some (.slice A1 n1 c1) := (hb2.cell lq).trans k1; have hqb := HLQ.out; have m0 : w3.cell? ⟨q, 0, none⟩ = some (.int .i64 t) := (World.cell?_of_block (hg3.block q hl2 (fun e => hqb (by injection e with e; exact e.symm)))).trans g0; have m1 : w3.cell? ⟨q, 1, none⟩ = some (.slice A1 n1 c1) := (World.cell?_of_block (hg3.block q hl2 (fun e => hqb (by injection e with e; exact e.symm)))).trans g1; have HQ3 := Lib.hid hq3; have HB3 : Hid (Below w.heap.size w w3) := Lib.hid ((bel_tr HB1.out (Nat.le_refl _) hb2).grown hg3 (Nat.le_trans HB1.out.size hb2.size) (fun j hj => by injection hj with hj; omega)); clear hb2' hb2 hg2 hown2 hq3 hg3))
      go_wp2_with fail
      go_roundw
      case rel => exact ⟨k + 1, by omega, by go_num, by rw [HTK.out, ← HT.out]; exact HQ3, HB3.out⟩
      case measure => simp [intOf]; omega
    · have hkm : k = m := by omega
      subst hkm
      go_wp2_with fail
      go_ret
      refine ⟨b, ?_, HB.out, rfl⟩
      have := HQ.out.low hwb
      rwa [List.take_of_length_le (by rw [← HN.out]; exact Nat.le_refl _)] at this

end Go.Proofs.Ytgpjcmplnigmcaa

namespace Go.Proofs.Ytgpjcmplnigmcaa
set_option linter.unusedVariables false
set_option linter.unusedSimpArgs false
open Go.RowKit

theorem Try.elArea : ElemT Try.prog 29 69 (.agg #[.int .i64 0, .slice none 0 0]) 2 32 := ⟨Try.underlying29, by kernel_rfl, rfl, by decide⟩

/-- a map of areas and a store, all in memory of the call's own, apart from each other -/
def QPre (w : World) (base b n : Nat) (M : Int → Option (List ObjD)) (os : List ObjD) (vm : Value) : Prop :=
  ∃ (C : Int → Option Value) (F : Int → List Nat) (Fm : List Nat), MapI Try.prog 3 w b n C ∧
    (∀ i, (M i = none → C i = none ∧ F i = []) ∧ ∀ os, M i = some os → ∃ A m c, C i = some (.slice A m c) ∧ D.own w (dObjects os) (F i) (.slice A m c)) ∧
    (∀ i, (F i).Nodup ∧ ∀ g ∈ F i, base ≤ g ∧ g < w.heap.size) ∧ (∀ i j, i ≠ j → ∀ g ∈ F i, g ∉ F j) ∧
    D.own w (dObjects os) Fm vm ∧ Fm.Nodup ∧ (∀ g ∈ Fm, base ≤ g ∧ g < w.heap.size) ∧ (∀ i, ∀ g ∈ Fm, g ∉ F i)
theorem QPre.after {w w2 : World} {base b n : Nat} {M : Int → Option (List ObjD)} {os : List ObjD} {vm : Value} (h : QMap w base b n M) (hb : Below w.heap.size w w2) (ho : Own w2 w.heap.size (dObjects os) vm) (hbs : base ≤ w.heap.size) : QPre w2 base b n M os vm := by
  obtain ⟨C0, F0, a1, a2, a3, a4, a5⟩ := h
  obtain ⟨G, q1, q2, q3⟩ := ho
  refine ⟨C0, F0, G, a1.kept (grown_none hb none) (by simp), fun i => ⟨(a3 i).1, fun os' h => ?_⟩, fun i => ⟨(a4 i).1, fun g hg => ⟨((a4 i).2 g hg).1, Nat.lt_of_lt_of_le ((a4 i).2 g hg).2.1 hb.size⟩⟩, a5, q3, q1, fun g hg => ⟨Nat.le_trans hbs (q2 g hg).1, (q2 g hg).2⟩, fun i g hg hF => by have := (q2 g hg).1; have := ((a4 i).2 g hF).2.1; omega⟩
  obtain ⟨A, m, c, k1, k2⟩ := (a3 i).2 os' h
  exact ⟨A, m, c, k1, D.own.keep _ _ _ (fun g hg => hb.block g ((a4 i).2 g hg).2.1) k2⟩
theorem QPre.before {w w2 : World} {lo base b n : Nat} {M : Int → Option (List ObjD)} {os : List ObjD} {vm : Value} (ho : Own w lo (dObjects os) vm) (hb : Below w.heap.size w w2) (h : QMap w2 base b n M) (hbs : w.heap.size ≤ base) (hlo : lo ≤ base) : QPre w2 lo b n M os vm := by
  obtain ⟨C0, F0, a1, a2, a3, a4, a5⟩ := h
  obtain ⟨G, q1, q2, q3⟩ := ho
  exact ⟨C0, F0, G, a1, a3, fun i => ⟨(a4 i).1, fun g hg => ⟨Nat.le_trans hlo ((a4 i).2 g hg).1, ((a4 i).2 g hg).2.1⟩⟩, a5, D.own.keep _ _ _ (fun g hg => hb.block g (q2 g hg).2) q3, q1, fun g hg => ⟨(q2 g hg).1, Nat.lt_of_lt_of_le (q2 g hg).2 hb.size⟩, fun i g hg hF => by have := (q2 g hg).2; have := ((a4 i).2 g hF).1; omega⟩

/-- the cells of the areas of some transactions -/
def arC (C : Int → Option Value) (ks : List Int) : List Value := ks.flatMap fun t => [.int .i64 t, (C t).getD (.slice none 0 0)]
theorem arC_len (C : Int → Option Value) (ks : List Int) : (arC C ks).length = ks.length * 2 := flat_len _ 2 (fun _ => rfl) ks
theorem arC_own {w : World} {M : Int → Option (List ObjD)} {C : Int → Option Value} {F : Int → List Nat} (h : ∀ i, (M i = none → C i = none ∧ F i = []) ∧ ∀ os, M i = some os → ∃ A m c, C i = some (.slice A m c) ∧ D.own w (dObjects os) (F i) (.slice A m c)) :
    ∀ ks : List Int, (∀ t ∈ ks, (M t).isSome = true) → D.ownL w ((ks.map fun t => (⟨t, (M t).getD []⟩ : AreaD)).flatMap fArea) (ks.flatMap F) (arC C ks)
  | [], _ => D.ownL.nil w
  | t :: ks, hm => by
    have ih := arC_own h ks (fun t ht => hm t (List.mem_cons_of_mem _ ht))
    obtain ⟨os, hos⟩ := Option.isSome_iff_exists.1 (hm t List.mem_cons_self)
    obtain ⟨A, m, c, hC, hown⟩ := (h t).2 os hos
    have h1 : D.ownL w (fArea ⟨t, (M t).getD []⟩) (F t) [.int .i64 t, (C t).getD (.slice none 0 0)] := by
      rw [hos, hC]
      have := D.ownL.cons (D.own.int w t) (D.ownL.cons hown (D.ownL.nil w))
      simpa [fArea] using this
    have := D.ownL.app h1 ih
    simpa [arC] using this
theorem nodup_flat {F : Int → List Nat} (h1 : ∀ i, (F i).Nodup) (h2 : ∀ i j, i ≠ j → ∀ g ∈ F i, g ∉ F j) : ∀ ks : List Int, ks.Pairwise (· < ·) → (ks.flatMap F).Nodup
  | [], _ => List.nodup_nil
  | t :: ks, h => by
    obtain ⟨h3, h4⟩ := List.pairwise_cons.1 h
    rw [List.flatMap_cons]
    refine List.nodup_append.2 ⟨h1 t, nodup_flat h1 h2 ks h4, fun a ha b hb e => ?_⟩
    subst e
    obtain ⟨s, hs, hsa⟩ := List.mem_flatMap.1 hb
    exact h2 t s (by have := h3 s hs; omega) a ha hsa

set_option maxRecDepth 100000 in
set_option maxHeartbeats 3200000 in
theorem quaOf_any (os : List ObjD) (M : Int → Option (List ObjD)) (A : Option Addr) (n c base b nn : Nat) (w : World) (hM : ∀ i, (M i).isSome = true → txnB i = true) (hbs : base ≤ w.heap.size) (h : QPre w base b nn M os (.slice A n c)) :
    Calls Try.prog 55 #[.slice A n c, .map (some b)] w fun e w' => ∃ va, QuaG w' base ⟨os, mapA M⟩ (.slice A n c) va ∧ Below w.heap.size w w' ∧ e = .returned (.agg #[.slice A n c, va]) := by
  obtain ⟨C, F, Fm, h1, h2, h3, h4, h5, h6, h7, h8⟩ := h
  have hCM : ∀ i, (C i).isSome = (M i).isSome := fun i => by
    rcases hm : M i with _ | os
    · rw [((h2 i).1 hm).1]; rfl
    · obtain ⟨A, m, c, hC, -⟩ := (h2 i).2 os hm
      rw [hC]; rfl
  have HM := Lib.hid h1
  have H2 := Lib.hid h2
  have H3 := Lib.hid h3
  have H4 := Lib.hid h4
  have H5 := Lib.hid (show _ ∧ _ ∧ _ ∧ _ from ⟨h5, h6, h7, h8⟩)
  have HS := Lib.hid hM
  have HCM := Lib.hid hCM
  obtain ⟨w2, hw2⟩ : ∃ w2, w2 = (w.alloc (.cells #[.slice none 0 0, .slice none 0 0] 31)).alloc (.cells #[.slice A n c, .slice none 0 0] 31) := ⟨_, rfl⟩
  have hb2 : Below w.heap.size w w2 := by rw [hw2]; exact ((Below.refl _ _).alloc (Nat.le_refl _) _).alloc (by simp) _
  obtain ⟨r, hr⟩ : ∃ r, r = w.heap.size := ⟨_, rfl⟩
  obtain ⟨p, hp⟩ : ∃ p, p = w.heap.size + 1 := ⟨_, rfl⟩
  have HXR : Hid (w2.heap[r]? = some (.cells #[.slice none 0 0, .slice none 0 0] 31 (0, 0))) := by rw [hw2, hr]; exact Lib.hid ((Below.heap_alloc _ _ _ (by simp)).trans (heap_alloc_new w _))
  have HXP : Hid (w2.heap[p]? = some (.cells #[.slice A n c, .slice none 0 0] 31 (0, 0))) := by
    have := heap_alloc_new (w.alloc (.cells #[.slice none 0 0, .slice none 0 0] 31)) (.cells #[.slice A n c, .slice none 0 0] 31)
    rw [hw2, hp]; exact Lib.hid (by simpa using this)
  have hrw : w.heap.size ≤ r := by omega
  have hpw : w.heap.size ≤ p := by omega
  have hrp : ¬ (r = p) := by omega
  have hpr : ¬ (p = r) := by omega
  have HB2 := Lib.hid hb2
  have HM2 : Hid (MapI Try.prog 3 w2 b nn C) := Lib.hid (h1.kept (grown_none hb2 none) (by simp))
  clear h1 h2 h3 h4 h5 h6 h7 h8 hM hCM hb2
  go_enter Try.func55, Try.ntmps55
  go_upto_region 2 with (fail)
  rw [← hw2, ← hp, ← hr]
  clear hw2 hr hp
  go_wp2_with fail
  refine (Try.maps_Keys (some b) w2).mono ?_
  rintro e w3 ⟨rfl, hw3⟩
  obtain ⟨q, hq⟩ : ∃ q, q = w2.heap.size := ⟨_, rfl⟩
  rw [← hq]
  have hb3 : Below w2.heap.size w2 w3 := by rw [hw3]; exact (Below.refl _ _).alloc (Nat.le_refl _) _
  have hx3 : w3.heap[q]? = some (.cells #[.map (some b)] 76 (0, 0)) := by rw [hw3, hq]; exact heap_alloc_new w2 _
  have kq : w3.cell? ⟨q, 0, none⟩ = some (.map (some b)) := cell_of_row _ _ _ _ _ _ hx3
  have lq : q < w3.heap.size := hltS hx3
  have HM3 : Hid (MapI Try.prog 3 w3 b nn C) := Lib.hid (HM2.out.kept (grown_none hb3 none) (by simp))
  obtain ⟨DD, hD, hsz, hks⟩ := HM3.out.keys Try.underlying3 (fun i hi => HS.out i (by rw [← HCM.out i]; exact hi))
  obtain ⟨ks, hkd⟩ : ∃ ks, ks = keysC C := ⟨_, rfl⟩
  rw [← hkd] at hsz hks
  have hkl : ks.length ≤ 12 := by rw [hkd]; exact keysC_len C
  have HSRT := Lib.hid (Try.slices_Sorted_keys b nn q DD anyEl w3 kq lq hD (by rw [hsz]; unfold maxLen; omega) (by rw [hsz]; omega))
  have HKS := Lib.hid hks
  have HKD := Lib.hid hkd
  have HB3 := Lib.hid (bel_tr HB2.out (Nat.le_refl _) hb3)
  have HXR3 := Lib.hid ((hb3.block r (hltS HXR.out)).trans HXR.out)
  have HXP3 := Lib.hid ((hb3.block p (hltS HXP.out)).trans HXP.out)
  clear hw3 hq hb3 hx3 kq hD hsz hks hkd
  go_wp2_with fail
  refine HSRT.out.mono ?_
  rintro e w4 ⟨v, ss, rfl, hperm, hrow, hnil, hb4⟩
  obtain ⟨hss, hsl⟩ := HKS.out ss hperm
  rw [hss, hsl] at hrow
  have hrow' : w4.ownsRow w3.heap.size 3 1 v ks.length (ks.flatMap ci) := by rw [flat_ci]; exact hrow
  obtain ⟨V, vc, rfl, hvn, hvc, hrd⟩ := Rd.of_own hrow'
  have HKI : Hid (Ints w4 w3.heap.size w4.heap.size V ks.length ks) := Lib.hid ⟨rfl, hrd⟩
  have HB4 := Lib.hid (bel_tr HB3.out (Nat.le_refl _) hb4)
  have HXR4 := Lib.hid ((hb4.block r (hltS HXR3.out)).trans HXR3.out)
  have HXP4 := Lib.hid ((hb4.block p (hltS HXP3.out)).trans HXP3.out)
  obtain ⟨m, hm⟩ : ∃ m, m = ks.length := ⟨_, rfl⟩
  rw [← hm] at hkl hvn HKI
  have HMK := Lib.hid hm
  unfold maxLen at hvc
  have hz4 : w.heap.size ≤ w4.heap.size := HB4.out.size
  have hw34 := hb4.size
  have lp3 := hltS HXP3.out
  have lr3 := hltS HXR3.out
  have hw03 := HB3.out.size
  clear hperm hrow hnil hb4 hss hsl hrow' hrd HKS HSRT
  rw [← hm]
  clear hm
  go_wp2_with fail
  go_loopw [14] (fun i wr => ∃ (k : Nat) (va : Value), k ≤ m ∧ i = .int .i64 k ∧ Hid (wr.ownsRow w4.heap.size 69 2 va k (arC C (ks.take k))) ∧ Hid (wr.heap[r]? = some (.cells #[.slice none 0 0, .slice none 0 0] 31 (0, 0))) ∧ Hid (wr.heap[p]? = some (.cells #[.slice A n c, va] 31 (0, 0))) ∧ Hid (Ints wr w3.heap.size w4.heap.size V m ks) ∧ Below w.heap.size w wr ∧ w4.heap.size ≤ wr.heap.size) (fun i _ => m - (intOf i).toNat)
  case atStart => exact ⟨0, _, Nat.zero_le _, rfl, Lib.hid (World.ownsRow_nil _ _ _ _), HXR4, HXP4, HKI, HB4.out, Nat.le_refl _⟩
  case round =>
    obtain ⟨k, va, hk, rfl, HO, HR, HP, HK, hbw, hws⟩ := hrel
    have HB := Lib.hid hbw
    have hwsz := hbw.size
    clear hbw HKI HXR4 HXP4
    by_cases hlt : k < m
    · obtain ⟨b2, o, hl, rfl, _, hbh, hc⟩ := HK.out.int hlt
      have hmem : ks[k] ∈ keysC C := by rw [← HKD.out]; exact List.getElem_mem hl
      obtain ⟨htx, hsome⟩ := (keysC_mem C ks[k]).1 hmem
      have hwf := wf_txn htx
      obtain ⟨t, ht⟩ : ∃ t, t = ks[k] := ⟨_, rfl⟩
      rw [← ht] at hc hwf hsome
      obtain ⟨os', hos⟩ := Option.isSome_iff_exists.1 (by rw [← HCM.out t]; exact hsome : (M t).isSome = true)
      obtain ⟨Ax, mx, cx, hC, -⟩ := (H2.out t).2 os' hos
      have hlk := (HM.out.kept (grown_none HB.out none) (by simp) : MapI Try.prog 3 wr b nn C).get (t := 76) Try.underlying3 Try.underlying76 (Try.zeroValue28 wr) hwf
      rw [hC] at hlk
      have hlk2 : (Instr.lookup 76 (.map (some b)) (.int .i64 t) false).run Try.prog wr = .ok (.slice Ax mx cx) wr := hlk
      have HNX : Hid (arC C (ks.take (k + 1)) = arC C (ks.take k) ++ [.int .i64 t, .slice Ax mx cx]) := by
        show _ = _
        unfold arC
        rw [List.take_succ_eq_append_getElem hl, List.flatMap_append, ← ht]
        simp [hC]
      have kp1 : wr.cell? ⟨p, 1, none⟩ = some va := cell_of_row _ _ _ _ _ _ HP.out
      have kf1 : wr.frozen? ⟨p, 1, none⟩ = false := frozen_of_row _ _ _ _ _ HP.out
      have lp : p < wr.heap.size := hltS HP.out
      have lr : r < wr.heap.size := hltS HR.out
      have lb2 : b2 < wr.heap.size := by omega
      obtain ⟨V6, c6, rfl, hc61, hc62, -⟩ := Rd.of_own HO.out
      unfold maxLen at hc62
      have hob : ∀ g, (Value.slice V6 k c6).ownBlock = some g → w4.heap.size ≤ g := fun g hg => (HO.out.lt g hg).1
      have HXA : Hid (∀ w6 : World, (wr.alloc (.cells #[.int .i64 t, .slice Ax mx cx] 69)).grownBy w6 (Value.slice V6 k c6).ownBlock → w6.heap[p]? = some (.cells #[.slice A n c, .slice V6 k c6] 31 (0, 0))) := Lib.hid fun w6 hg => (hg.block p (by simp; omega) (fun e => by have := hob p e.symm; omega)).trans ((Below.heap_alloc _ _ _ lp).trans HP.out)
      clear hmem htx hsome ht hos hC hlk hob
      go_wp2_with (at_builtin; go_must (refine wpList_app Try.elArea (m := 1) (HO.out.alloc _) (rd_newn (n := wr.heap.size) rfl [.int .i64 t, .slice Ax mx cx] 69) rfl (by simp [Value.oneCell']) (by unfold maxLen; omega) (by omega) (by simp; omega) rfl rfl rfl rfl ?_); intro v6 w6 hown6 hg6; have HO6 := Lib.hid hown6; have HG6 := Lib.hid hg6; obtain ⟨V7, c7, rfl, -, -, -⟩ := Rd.of_own hown6; have hx6 : w6.heap[p]? = some (.cells #[.slice A n c, .slice V6 k c6] 31 (0, 0)) := HXA.out w6 hg6; have HX6 := Lib.hid hx6; have k61 : w6.cell? ⟨p, 1, none⟩ = some (.slice V6 k c6) := cell_of_row _ _ _ _ _ _ hx6; have kf61 : w6.frozen? ⟨p, 1, none⟩ = false := frozen_of_row _ _ _ _ _ hx6; clear hown6 hg6 hx6)
      have hne : (Value.slice V7 (k + 1) c7).ownBlock ≠ some p := fun e => by have := (HO6.out.lt p e).1; omega
      have hob6 : ∀ g, (Value.slice V6 k c6).ownBlock = some g → w4.heap.size ≤ g := fun g hg => (HO.out.lt g hg).1
      have hba : Below w.heap.size w (wr.alloc (.cells #[.int .i64 t, .slice Ax mx cx] 69)) := HB.out.alloc hwsz _
      exact ⟨⟨k + 1, _, by omega, by go_num, by show World.ownsRow _ _ _ _ _ _ _; rw [HNX.out]; exact HO6.out.kept (set_grownL w6 p 1 _) (.inr hne),
        by show _ = _; exact (Below.heap_setCell _ _ _ _ hrp).trans ((HG6.out.block r (by simp; omega) (fun e => by have := hob6 r e.symm; omega)).trans ((Below.heap_alloc _ _ _ lr).trans HR.out)),
        by show _ = _; rw [heap_setCell_same w6 p 1 _ _ _ HX6.out]; rfl,
        ((HK.out.alloc hws _).grown HG6.out (by simp; omega) (fun g hg => by have := hob6 g hg; omega)).setCell (by simp; omega) _,
        (hba.grown HG6.out (by simp; omega) (fun g hg => by have := hob6 g hg; omega)).setCell hpw _, by have := HG6.out.size; simp [World.setCell] at this ⊢; omega⟩, by simp [intOf]; omega⟩
    · have hkm : k = m := by omega
      subst hkm
      obtain ⟨V6, c6, rfl, hc61, hc62, -⟩ := Rd.of_own HO.out
      have kp0 : wr.cell? ⟨p, 0, none⟩ = some (.slice A n c) := cell_of_row _ _ _ _ _ _ HP.out
      have kp1 : wr.cell? ⟨p, 1, none⟩ = some (.slice V6 k c6) := cell_of_row _ _ _ _ _ _ HP.out
      have kr0 : wr.cell? ⟨r, 0, none⟩ = some (.slice none 0 0) := cell_of_row _ _ _ _ _ _ HR.out
      have kr1 : wr.cell? ⟨r, 1, none⟩ = some (.slice none 0 0) := cell_of_row _ _ _ _ _ _ HR.out
      have kf0 : wr.frozen? ⟨r, 0, none⟩ = false := frozen_of_row _ _ _ _ _ HR.out
      have kf1 : wr.frozen? ⟨r, 1, none⟩ = false := frozen_of_row _ _ _ _ _ HR.out
      have lp : p < wr.heap.size := hltS HP.out
      have lr : r < wr.heap.size := hltS HR.out
      go_wp2_with fail
      refine bodyPost_ret (v := .agg #[.slice A n c, .slice V6 k c6]) (by simp [results, Try.results55, go_sem, kp0, kp1, kr0, kr1, kf0, kf1, hrp, hpr]) rfl ?_
      have HBF : Below w.heap.size w ((wr.setCell ⟨r, 0, none⟩ (.slice A n c)).setCell ⟨r, 1, none⟩ (.slice V6 k c6)) := (HB.out.setCell hrw _).setCell hrw _
      have hne : (Value.slice V6 k c6).ownBlock ≠ some r := fun e => by have := (HO.out.lt r e).1; omega
      have hrowF := (HO.out.kept (set_grownL wr r 0 (.slice A n c)) (.inr hne)).kept (set_grownL _ r 1 (.slice V6 k c6)) (.inr hne)
      obtain ⟨g5, g6, g7, g8⟩ := H5.out
      have hkeep : ∀ g, g < w.heap.size → ((wr.setCell ⟨r, 0, none⟩ (.slice A n c)).setCell ⟨r, 1, none⟩ (.slice V6 k c6)).heap[g]? = w.heap[g]? := fun g hg => HBF.block g hg
      have hkall : ∀ t ∈ ks, (M t).isSome = true := fun t ht => by
        rw [HKD.out] at ht
        have := ((keysC_mem C t).1 ht).2
        rw [← HCM.out t]; exact this
      have hkM : ks = keysC M := by rw [HKD.out]; exact keysC_congr HCM.out
      have htk : ks.take k = ks := List.take_of_length_le (by rw [← HMK.out]; exact Nat.le_refl _)
      refine ⟨_, ⟨Fm, arC C ks, ks.flatMap F, D.own.keep _ Fm _ (fun g hg => hkeep g (g7 g hg).2) g5, ?_, ?_, ?_, ?_, ?_⟩, HBF, rfl⟩
      · have hlen : (mapA M).length = k := by rw [mapA_keys, List.length_map, ← hkM, ← HMK.out]
        show World.ownsRow _ _ _ _ _ (mapA M).length _
        rw [hlen, ← htk]
        exact ⟨hrowF.1, by
          rcases hrowF.2 with h | ⟨a1, a2, a3, a4, a5, a6⟩
          · exact .inl h
          · exact .inr ⟨a1, a2, a3, a4, by omega, a6⟩⟩
      · show D.ownL _ ((mapA M).flatMap fArea) _ _
        rw [mapA_keys, ← hkM]
        exact D.ownL.keep _ _ _ (fun g hg => by
          obtain ⟨t, _, hg⟩ := List.mem_flatMap.1 hg
          exact hkeep g ((H3.out t).2 g hg).2) (arC_own H2.out ks hkall)
      · refine List.nodup_append.2 ⟨g6, nodup_flat (fun i => (H3.out i).1) H4.out ks (by rw [HKD.out]; exact keysC_asc C), fun a ha b hb e => ?_⟩
        subst e
        obtain ⟨t, _, hb⟩ := List.mem_flatMap.1 hb
        exact g8 t a ha hb
      · intro g hg
        have hs := HBF.size
        rcases List.mem_append.1 hg with hg | hg
        · exact ⟨(g7 g hg).1, Nat.lt_of_lt_of_le (g7 g hg).2 hs⟩
        · obtain ⟨t, _, hg⟩ := List.mem_flatMap.1 hg
          exact ⟨((H3.out t).2 g hg).1, Nat.lt_of_lt_of_le ((H3.out t).2 g hg).2 hs⟩
      · intro g hv hg
        have h9 := (HO.out.lt g hv).1
        rcases List.mem_append.1 hg with hg | hg
        · have := (g7 g hg).2; omega
        · obtain ⟨t, _, hg⟩ := List.mem_flatMap.1 hg
          have := ((H3.out t).2 g hg).2; omega

end Go.Proofs.Ytgpjcmplnigmcaa
