/-
  The walk of the reference's l1Put: storing one object. Condition: the objects are valid and few.
-/
import Derived.Test.YtnaeglfochnikaaGreatZ16
import Derived.Test.YtnaeglfochnikaaGreatZ6
namespace Go.Proofs.YtnaeglfochnikaaGreat
set_option linter.unusedVariables false
set_option linter.unusedSimpArgs false
open Go.RowKit

theorem Rd.take {w : World} {lo hi : Nat} {A : Option Addr} {cs : List Value} (h : Rd w lo hi A cs) (k : Nat) : Rd w lo hi A (cs.take k) := fun hn => by
  obtain ⟨b, o, e, h1, h2, hc⟩ := h (fun e => hn (by rw [e]; simp))
  refine ⟨b, o, e, h1, h2, fun j u hu => ?_⟩
  rw [List.getElem?_take] at hu
  split at hu
  · exact hc j u hu
  · cases hu
theorem Rd.drop {w : World} {lo hi b o : Nat} {cs : List Value} (h : Rd w lo hi (some ⟨b, o, none⟩) cs) (k : Nat) : Rd w lo hi (some ⟨b, o + k, none⟩) (cs.drop k) := fun hn => by
  obtain ⟨b', o', e, h1, h2, hc⟩ := h (fun e => hn (by rw [e]; simp))
  injection e with e
  injection e with e1 e2
  subst e1 e2
  refine ⟨b, o + k, rfl, h1, h2, fun j u hu => ?_⟩
  rw [List.getElem?_drop] at hu
  have := hc _ _ hu
  rwa [← Nat.add_assoc] at this
theorem own_nilH {W : World} {base g size : Nat} {e : TypeId} (h : W.heap[g]? = some (.cells #[] e (0, 0))) (hb : base ≤ g) : W.ownsRow base e size (.slice (some ⟨g, 0, none⟩) 0 0) 0 [] :=
  ⟨by simp, .inr ⟨g, 0, #[], rfl, hb, h, Nat.le_refl _, Nat.zero_le _, by simp, by simp⟩⟩
theorem keep_gr {W W' : World} {row : Option Nat} (hg : W.grownBy W' row) : ∀ (g : Nat) (o : Obj), row ≠ some g → W.heap[g]? = some o → W'.heap[g]? = some o := fun g o hne h => (hg.block g (hltS h) (fun e => hne e.symm)).trans h
theorem D.rdL.app {w : World} {lo hi : Nat} : ∀ {a b : List D} {x y : List Value}, D.rdL w lo hi a x → D.rdL w lo hi b y → D.rdL w lo hi (a ++ b) (x ++ y)
  | [], b, x, y, h, k => by unfold D.rdL at h; subst h; exact k
  | d :: a, b, x, y, h, k => by
    unfold D.rdL at h
    obtain ⟨v, r, rfl, g2, g3⟩ := h
    rw [List.cons_append, List.cons_append]
    unfold D.rdL
    exact ⟨v, r ++ y, rfl, g2, D.rdL.app g3 k⟩
theorem rdL_obj {w : World} {lo hi n c : Nat} {kind : Int} {links : List Int} {text : ByteArray} {A : Option Addr} (h : D.rd w lo hi (intsD links) (.slice A n c)) (ht : text.size ≤ 9223372036854775807) : D.rdL w lo hi (fObject ⟨kind, links, text⟩) [.int .i64 kind, .slice A n c, .string text] := by
  unfold fObject
  refine D.rdL.mk rfl fun j d hd => ?_
  match j with
  | 0 => simp at hd; subst hd; exact ⟨_, rfl, by unfold D.rd; rfl⟩
  | 1 => simp at hd; subst hd; exact ⟨_, rfl, h⟩
  | 2 => simp at hd; subst hd; exact ⟨_, rfl, by unfold D.rd; exact ⟨rfl, ht⟩⟩
  | j + 3 => simp at hd
/-- the row into which an object has been put, as it reads -/
theorem rd_ins {w w' : World} {lo hi lo' hi' base k n m c cV : Nat} {V A1 : Option Addr} {os : List ObjD} {kind : Int} {links : List Int} {text : ByteArray} {vs : List Value} {n1 : Nat} (hn : os.length = n) (hk : k ≤ n) (hb : Below w.heap.size w w') (hh : hi ≤ w.heap.size) (hh' : hi' ≤ w.heap.size) (hr : D.rdL w lo hi (os.flatMap fObject) vs) (hj : D.rd w lo' hi' (intsD links) (.slice A1 n1 c)) (ht : text.size ≤ 9223372036854775807)
    (hm : m = n + 1) (ho : w'.ownsRow base 52 3 (.slice V m cV) m (vs.take (k * 3) ++ [.int .i64 kind, .slice A1 n1 c, .string text] ++ vs.drop (k * 3))) :
    D.rd w' 0 w'.heap.size (dObjects (os.take k ++ ⟨kind, links, text⟩ :: os.drop k)) (.slice V m cV) := by
  have hsz := hb.size
  have hl : (os.take k ++ (⟨kind, links, text⟩ : ObjD) :: os.drop k).length = m := by simp; omega
  have h1 : D.rdL w' 0 w'.heap.size (os.flatMap fObject) vs := D.rdL.keep (fun _ _ hp => hb.cell (Nat.lt_of_lt_of_le hp hh)) (Nat.zero_le _) (by omega) _ _ hr
  have h2 : D.rd w' 0 w'.heap.size (intsD links) (.slice A1 n1 c) := (hj.below hb hh').more (Nat.zero_le _) (by omega)
  have hsplit : os.flatMap fObject = (os.take k).flatMap fObject ++ (os.drop k).flatMap fObject := by rw [← List.flatMap_append, List.take_append_drop]
  rw [hsplit] at h1
  obtain ⟨x, y, rfl, a1, a2⟩ := D.rdL.app_inv h1
  have hxl : x.length = k * 3 := by rw [D.rdL.length a1, flat_lenG fObject 3 fObject_len, List.length_take, Nat.min_eq_left (by omega)]
  have e1 : (x ++ y).take (k * 3) = x := by rw [← hxl]; simp
  have e2 : (x ++ y).drop (k * 3) = y := by rw [← hxl]; simp
  rw [e1, e2] at ho
  obtain ⟨A', c', he, hc1, hc2, hrd⟩ := Rd.of_own ho
  injection he with he1 _ he2
  subst he1 he2
  unfold maxLen at hc2
  unfold dObjects D.rd
  refine ⟨V, cV, _, by rw [hl], by omega, by omega, by rw [flat_lenG fObject 3 fObject_len], hrd.more (Nat.zero_le _) (Nat.le_refl _), ?_⟩
  rw [List.flatMap_append, List.flatMap_cons, List.append_assoc]
  exact D.rdL.app a1 (D.rdL.app (rdL_obj h2 ht) a2)
theorem putL_full {os : List ObjD} {o : ObjD} (hn : 16 ≤ os.length) (h : fndB os (idB o) = false) : putB os o = false ∧ putL os o = os := by
  unfold putB putL
  rw [if_neg (by rw [h]; simp), if_neg (by rw [h]; simp), if_neg (by omega), decide_eq_false (by omega)]
  exact ⟨rfl, rfl⟩

set_option maxRecDepth 100000 in
set_option maxHeartbeats 6400000 in
theorem l1Put_any (os : List ObjD) (kind : Int) (links : List Int) (text : ByteArray) (A : Option Addr) (n c : Nat) (A1 : Option Addr) (n1 c1 : Nat) (w : World) (lo hi lo' hi' : Nat) (hh : hi ≤ w.heap.size) (hh' : hi' ≤ w.heap.size) (hn : n ≤ 900)
    (hv : ∀ o ∈ os, objB o = true) (ho : objB ⟨kind, links, text⟩ = true) (h : D.rd w lo hi (dObjects os) (.slice A n c)) (h' : D.rd w lo' hi' (intsD links) (.slice A1 n1 c1)) :
    Calls Tryz.prog 92 #[.slice A n c, .agg #[.int .i64 kind, .slice A1 n1 c1, .string text]] w fun e w' => PutR w (putL os ⟨kind, links, text⟩) (putB os ⟨kind, links, text⟩) e w' := by
  have ht8 : text.size ≤ 9223372036854775807 := by have := (objB_and ho).2.2.1; dsimp only at this; omega
  have hn14 : n1 ≤ 4 := by have := h'.len.1; have := (objB_and ho).2.1; dsimp only at this; omega
  obtain ⟨id, hid⟩ : ∃ id, idB ⟨kind, links, text⟩ = id := ⟨_, rfl⟩
  have hbd := idB_bd ho
  rw [hid] at hbd
  have hid0 := hbd.1
  have hid1 := hbd.2
  obtain ⟨i, hpl⟩ : ∃ i, plc os id = i := ⟨_, rfl⟩
  have hin : i ≤ n := by have := plc_le os id; have := h.len.1; omega
  obtain ⟨p, hp⟩ : ∃ p, p = w.heap.size := ⟨_, rfl⟩
  obtain ⟨w1, hw1⟩ : ∃ w1, w1 = w.alloc (.cells #[.int .i64 kind, .slice A1 n1 c1, .string text] 52) := ⟨_, rfl⟩
  have hb1 : Below w.heap.size w w1 := by rw [hw1]; exact (Below.refl _ _).alloc (Nat.le_refl _) _
  have hx1 : w1.heap[p]? = some (.cells #[.int .i64 kind, .slice A1 n1 c1, .string text] 52 (0, 0)) := by rw [hw1, hp]; exact heap_alloc_new w _
  have HX1 := Lib.hid hx1
  have HI := Lib.hid h
  have HJ := Lib.hid h'
  have HJ1 := Lib.hid (h'.below hb1 hh')
  have HB1 := Lib.hid hb1
  have HV := Lib.hid hv
  have HO := Lib.hid ho
  have HID := Lib.hid hid
  have HP := Lib.hid hpl
  have HN := Lib.hid h.len.1
  have HLK : Hid (∀ o ∈ os, o.links.length ≤ 1048576) := Lib.hid fun o ho => by have := (objB_and (hv o ho)).2.1; omega
  have HLK2 : Hid (∀ o ∈ os.take i ++ ⟨kind, links, text⟩ :: os.drop i, o.links.length ≤ 1048576) := Lib.hid fun o hm => by
    rcases List.mem_append.1 hm with hm | hm
    · exact HLK.out o (List.mem_of_mem_take hm)
    · rcases List.mem_cons.1 hm with rfl | hm
      · have := (objB_and HO.out).2.1; omega
      · exact HLK.out o (List.mem_of_mem_drop hm)
  have hnc := h.len.2
  rw [← h.len.1] at hnc
  have hcn := hnc.1
  have hc63 := hnc.2
  have hh1' : hi' ≤ w1.heap.size := Nat.le_trans hh' hb1.size
  have hpw : w.heap.size ≤ p := by omega
  obtain ⟨k0, k1, k2, -, lp⟩ := box_cells hx1
  clear h h' hv ho hid hpl hbd hb1 hx1 hnc
  go_enter Tryz.func92, Tryz.ntmps92
  go_upto_region 1 with (fail)
  rw [← hw1, ← hp]
  clear hw1 hp
  go_wp2_with fail
  refine (l1Of_any kind links text A1 n1 c1 w1 lo' hi' hh1' HO.out HJ1.out).mono ?_
  rintro e w2 ⟨rfl, hb2⟩
  rw [HID.out]
  have HB2 := Lib.hid (bel_tr HB1.out (Nat.le_refl _) hb2)
  have HX2 := Lib.hid ((hb2.block p lp).trans HX1.out)
  clear hb2 k0 k1 k2 lp
  go_wp2_with fail
  go_loopw [7] (fun v wr => ∃ k : Nat, k ≤ i ∧ v = .int .i64 k ∧ Hid (wr.heap[p]? = some (.cells #[.int .i64 kind, .slice A1 n1 c1, .string text] 52 (0, 0))) ∧ Below w.heap.size w wr) (fun v _ => i - (intOf v).toNat)
  case atStart => exact ⟨0, Nat.zero_le _, rfl, HX2, HB2.out⟩
  case round =>
    obtain ⟨k, hk, rfl, HX, hbw⟩ := hrel
    obtain ⟨wq, hwq⟩ : ∃ wq, wq = wr := ⟨_, rfl⟩
    subst hwq
    have HB := Lib.hid hbw
    have hwsz := hbw.size
    have hhr : hi ≤ wq.heap.size := Nat.le_trans hh hwsz
    have hhr' : hi' ≤ wq.heap.size := Nat.le_trans hh' hwsz
    clear hbw
    by_cases hlt : k < i
    · have hkn : k < n := by omega
      obtain ⟨b, o, hl, A3, n3, c3, rfl, _, hbh, hc0, hc1, hc2, ⟨hn3, hm3, hr3⟩, ht3⟩ := rd_Object (HI.out.below HB.out hh) hkn
      have HR3 := Lib.hid hr3
      have HVK := Lib.hid (show objB ⟨os[k].kind, os[k].links, os[k].text⟩ = true from HV.out _ (List.getElem_mem hl))
      have hlo := plc_lt (os := os) (n := id) (k := k) (by rw [HP.out]; exact hlt)
      obtain ⟨q, hq⟩ : ∃ q, idB ⟨os[k].kind, os[k].links, os[k].text⟩ = q := ⟨_, rfl⟩
      have hqi : q < id := by rw [← hq]; exact hlo
      have HQ := Lib.hid hq
      have lp := hltS HX.out
      clear hr3 hlo hq
      go_wp2_with fail
      refine (l1Of_any os[k].kind os[k].links os[k].text A3 n3 c3 wq lo hi hhr HVK.out HR3.out).mono ?_
      rintro e w3 ⟨rfl, hb3⟩
      rw [HQ.out]
      have HB3 := Lib.hid (bel_tr HB.out (Nat.le_refl _) hb3)
      have HX3 := Lib.hid ((hb3.block p lp).trans HX.out)
      clear hb3
      go_wp2_with fail
      exact ⟨⟨k + 1, by omega, by go_num, HX3, HB3.out⟩, by simp [intOf]; omega⟩
    · have hki : k = i := by omega
      subst hki
      clear hlt hk
      -- one more look at the place
      by_cases hkn : k < n
      · obtain ⟨b, o, hl, A3, n3, c3, rfl, _, hbh, hc0, hc1, hc2, ⟨hn3, hm3, hr3⟩, ht3⟩ := rd_Object (HI.out.below HB.out hh) hkn
        have HR3 := Lib.hid hr3
        have HVK := Lib.hid (show objB ⟨os[k].kind, os[k].links, os[k].text⟩ = true from HV.out _ (List.getElem_mem hl))
        have hge := plc_ge (os := os) (n := id) (by rw [HP.out]; exact hl)
        have hfa := fndB_at HP.out hl
        obtain ⟨q, hq⟩ : ∃ q, idB ⟨os[k].kind, os[k].links, os[k].text⟩ = q := ⟨_, rfl⟩
        have hq' : idB os[k] = q := hq
        have hqi : ¬ (q < id) := by
          have : id ≤ idB os[k] := by
            have e : idB (os[plc os id]'(by rw [HP.out]; exact hl)) = idB os[k] := by congr 1; simp only [HP.out]
            omega
          omega
        rw [hq'] at hfa
        have HQ := Lib.hid hq
        have HF := Lib.hid hfa
        have lp := hltS HX.out
        have lb : b < wq.heap.size := by omega
        have hb0 := Lib.hid (show _ ∧ _ ∧ _ from ⟨hc0, hc1, hc2⟩)
        clear hr3 hge hq hq' hfa
        go_wp2_with fail
        refine (l1Of_any os[k].kind os[k].links os[k].text A3 n3 c3 wq lo hi hhr HVK.out HR3.out).mono ?_
        rintro e w3 ⟨rfl, hb3⟩
        rw [HQ.out]
        have HB3 := Lib.hid (bel_tr HB.out (Nat.le_refl _) hb3)
        have HX3 := Lib.hid ((hb3.block p lp).trans HX.out)
        have HR33 := Lib.hid (HR3.out.below hb3 hhr)
        have hh3 : hi ≤ w3.heap.size := Nat.le_trans hhr hb3.size
        have hh3' : hi' ≤ w3.heap.size := Nat.le_trans hhr' hb3.size
        have lb3 : b < w3.heap.size := Nat.lt_of_lt_of_le lb hb3.size
        have d0 : w3.cell? ⟨b, o + k * 3, none⟩ = some (.int .i64 os[k].kind) := (hb3.cell lb).trans hb0.out.1
        have d1 : w3.cell? ⟨b, o + k * 3 + 1, none⟩ = some (.slice A3 n3 c3) := (hb3.cell lb).trans hb0.out.2.1
        have d2 : w3.cell? ⟨b, o + k * 3 + 2, none⟩ = some (.string os[k].text) := (hb3.cell lb).trans hb0.out.2.2
        obtain ⟨k0, k1, k2, -, lp3⟩ := box_cells HX3.out
        clear hb3 hc0 hc1 hc2 lp lb hb0
        go_wp2_with fail
        refine (l1Of_any os[k].kind os[k].links os[k].text A3 n3 c3 w3 lo hi hh3 HVK.out HR33.out).mono ?_
        rintro e w4 ⟨rfl, hb4⟩
        rw [HQ.out]
        have HB4 := Lib.hid (bel_tr HB3.out (Nat.le_refl _) hb4)
        have HX4 := Lib.hid ((hb4.block p lp3).trans HX3.out)
        have HR34 := Lib.hid (HR33.out.below hb4 hh3)
        have hh4 : hi ≤ w4.heap.size := Nat.le_trans hh3 hb4.size
        have hh4' : hi' ≤ w4.heap.size := Nat.le_trans hh3' hb4.size
        have HF0 : Hid (fndB os id = decide (q = id)) := HF
        have e0 : w4.cell? ⟨b, o + k * 3, none⟩ = some (.int .i64 os[k].kind) := (hb4.cell lb3).trans d0
        have e1 : w4.cell? ⟨b, o + k * 3 + 1, none⟩ = some (.slice A3 n3 c3) := (hb4.cell lb3).trans d1
        have e2 : w4.cell? ⟨b, o + k * 3 + 2, none⟩ = some (.string os[k].text) := (hb4.cell lb3).trans d2
        have lb4 : b < w4.heap.size := Nat.lt_of_lt_of_le lb3 hb4.size
        clear hb4 k0 k1 k2 lp3 d0 d1 d2 lb3 HF
        by_cases hqe : q = id
        · have hqb : (q == id) = true := by simp [hqe]
          have HPB := Lib.hid (putB_fnd (o := ⟨kind, links, text⟩) (i := k) (by rw [HID.out]; exact HP.out) hl (by rw [HID.out, HF0.out]; exact decide_eq_true hqe))
          obtain ⟨e3, e4, e5, -, lp4⟩ := box_cells HX4.out
          have HIW := Lib.hid ((HI.out.below HB4.out hh).drew)
          have HJ4 := Lib.hid (HJ.out.below HB4.out hh')
          have hh4d : hi ≤ w4.drew.heap.size := hh4
          have hwW : w.heap.size ≤ w4.heap.size := HB4.out.size
          clear hqe
          go_wp2_with fail
          have tok1 : True := trivial
          go_region_held3 (fun w' => w'.cell? ⟨b, o + k * 3, none⟩ = some (.int .i64 os[k].kind) ∧ w'.cell? ⟨b, o + k * 3 + 1, none⟩ = some (.slice A3 n3 c3) ∧ w'.cell? ⟨b, o + k * 3 + 2, none⟩ = some (.string os[k].text) ∧ w'.cell? ⟨p, 0, none⟩ = some (.int .i64 kind) ∧ w'.cell? ⟨p, 1, none⟩ = some (.slice A1 n1 c1) ∧ w'.cell? ⟨p, 2, none⟩ = some (.string text)) (go_keep)
            (first
              | (have _t := tok1; go_at_call 100; refine (l1Copy_any os _ n c w4.drew lo hi hh4d (by omega) HLK.out HIW.out).mono ?_; rintro e w5 ⟨C, dc, hg5, hb5', rfl⟩; have hb5 := below_of_drew hb5'; have f0 : w5.cell? ⟨b, o + k * 3, none⟩ = some (.int .i64 os[k].kind) := (hb5.cell lb4).trans e0; have f1 : w5.cell? ⟨b, o + k * 3 + 1, none⟩ = some (.slice A3 n3 c3) := (hb5.cell lb4).trans e1; have f2 : w5.cell? ⟨b, o + k * 3 + 2, none⟩ = some (.string os[k].text) := (hb5.cell lb4).trans e2; have f3 : w5.cell? ⟨p, 0, none⟩ = some (.int .i64 kind) := (hb5.cell lp4).trans e3; have f4 : w5.cell? ⟨p, 1, none⟩ = some (.slice A1 n1 c1) := (hb5.cell lp4).trans e4; have f5 : w5.cell? ⟨p, 2, none⟩ = some (.string text) := (hb5.cell lp4).trans e5; have lb5 : b < w5.heap.size := Nat.lt_of_lt_of_le lb4 hb5.size; have lp5 : p < w5.heap.size := Nat.lt_of_lt_of_le lp4 hb5.size; have HB5 := Lib.hid (bel_tr HB4.out (Nat.le_refl _) hb5); have HG5 : Hid (Grow w5 w4.heap.size 52 3 (.slice C n dc) n (os.flatMap fObject)) := Lib.hid hg5; have HR35 := Lib.hid (HR34.out.below hb5 hh4); have HJ5 := Lib.hid (HJ4.out.below hb5 hh4'); have hh5 : hi ≤ w5.heap.size := Nat.le_trans hh4 hb5.size; have hh5' : hi' ≤ w5.heap.size := Nat.le_trans hh4' hb5.size; have tok2 : True := trivial; clear tok1 hb5 hb5' hg5)
              | (have _t := tok2; go_at_call 101; refine (l1Same_any os[k].kind os[k].links os[k].text A3 n3 c3 kind links text A1 n1 c1 w5 lo hi lo' hi' hh5 hh5' HR35.out HJ5.out).mono ?_; rintro e w6 ⟨rfl, hb6⟩; have g0 : w6.cell? ⟨b, o + k * 3, none⟩ = some (.int .i64 os[k].kind) := (hb6.cell lb5).trans f0; have g1 : w6.cell? ⟨b, o + k * 3 + 1, none⟩ = some (.slice A3 n3 c3) := (hb6.cell lb5).trans f1; have g2 : w6.cell? ⟨b, o + k * 3 + 2, none⟩ = some (.string os[k].text) := (hb6.cell lb5).trans f2; have g3 : w6.cell? ⟨p, 0, none⟩ = some (.int .i64 kind) := (hb6.cell lp5).trans f3; have g4 : w6.cell? ⟨p, 1, none⟩ = some (.slice A1 n1 c1) := (hb6.cell lp5).trans f4; have g5 : w6.cell? ⟨p, 2, none⟩ = some (.string text) := (hb6.cell lp5).trans f5; have HB6 := Lib.hid (bel_tr HB5.out (Nat.le_refl _) hb6); have HG6 := Lib.hid (HG5.out.fresh hb6); clear tok2 hb6))
          go_wp2_with fail
          go_ret2
          exact ⟨C, n, dc, by rw [HPB.out.2]; exact HN.out, by rw [HPB.out.2]; exact HG6.out.low hwW, HB6.out, by rw [HPB.out.1]; rfl⟩
        · have hqb : (q == id) = false := by simp [hqe]
          have hkc : ¬ (c = k) := by omega
          have hf : fndB os id = false := by rw [HF0.out]; exact decide_eq_false hqe
          have HF := Lib.hid hf
          clear hf
          have HBW := Lib.hid HB4.out
          have HXW := Lib.hid HX4.out
          have hhW : hi ≤ w4.heap.size := hh4
          have hhW' : hi' ≤ w4.heap.size := hh4'
          have hwW : w.heap.size ≤ w4.heap.size := HBW.out.size
          have HIW := Lib.hid (HI.out.below HBW.out hh)
          have HJW := Lib.hid (HJ.out.below HBW.out hh')
          by_cases h16 : 16 ≤ n
          · have HPB := Lib.hid (putL_full (o := ⟨kind, links, text⟩) (by rw [← HN.out]; exact h16) (by rw [HID.out]; exact HF.out))
            have h16i : (16 : Int) ≤ (n : Int) := by omega
            go_wp2_with fail
            refine (l1Copy_any os _ n c w4 lo hi hhW (by omega) HLK.out HIW.out).mono ?_
            rintro e w5 ⟨C, dc, hg5, hb5, rfl⟩
            have HB5 := Lib.hid (bel_tr HBW.out (Nat.le_refl _) hb5)
            have HG5 := Lib.hid hg5
            clear hg5 hb5
            go_wp2_with fail
            go_ret2
            exact ⟨C, n, dc, by rw [HPB.out.2]; exact HN.out, by rw [HPB.out.2]; exact HG5.out.low hwW, HB5.out, by rw [HPB.out.1]; rfl⟩
          · have HPB := Lib.hid (putB_ins (o := ⟨kind, links, text⟩) (i := k) (by rw [HID.out]; exact HP.out) (by rw [← HN.out]; omega) (by rw [HID.out]; exact HF.out))
            have h16i : ¬ ((16 : Int) ≤ (n : Int)) := by omega
            obtain ⟨vs, -, -, -, -, hvl, hrv, hrl⟩ := rd_parts HIW.out
            rw [← HN.out] at hvl
            have HVL := Lib.hid hvl
            have HRV := Lib.hid hrv
            have HRL := Lib.hid hrl
            have H1V := Lib.hid (D.rdL.one hrl)
            have hr1 : (0 : Int) ≤ (k : Int) := by omega
            have hr2 : (k : Int) ≤ (n : Int) := by omega
            have hr3 : (k : Int) ≤ (c : Int) := by omega
            obtain ⟨x0, x1, x2, -, lx⟩ := box_cells HXW.out
            clear hvl hrv hrl h16
            go_wp2_with fail
            have tok1 : True := trivial
            go_region_held_law (fun w' => w'.cell? ⟨p, 0, none⟩ = some (.int .i64 kind) ∧ w'.cell? ⟨p, 1, none⟩ = some (.slice A1 n1 c1) ∧ w'.cell? ⟨p, 2, none⟩ = some (.string text)) (go_keep)
              (first
                | (have _t := tok1; refine step_app_at Tryz.elObj (v := .slice (some ⟨_, 0, none⟩) 0 0) (n := 0) (cs := []) (base := w4.heap.size) (A := some ⟨b, o, none⟩) (m := k) (c := c) (news := vs.take (k * 3)) (own_nilH (size := 3) (by (repeat' (first | (with_reducible refine heap_nw ?_; first | (simp; done) | (simp; omega)) | with_reducible refine heap_kp ?_ | with_reducible refine heap_kd ?_))) (by first | omega | (simp; omega))) ((HRV.out.below (by (repeat' (first | with_reducible exact Below.refl _ _ | with_reducible refine below_ka ?_ (Nat.le_refl _) _ | with_reducible refine below_kd ?_))) hhW).take _) (by rw [List.length_take, HVL.out, Nat.min_eq_left (by omega)]) (fun v hv => H1V.out v (List.mem_of_mem_take hv)) (by unfold maxLen; omega) (by omega) (by first | omega | (simp; done) | (simp; omega)) rfl rfl rfl rfl ?_; intro v5 w5 hown5 hg5 hat5; rw [Nat.zero_add, List.nil_append] at hown5; have HO5 := Lib.hid hown5; obtain ⟨V5, c5, rfl, -, -, -⟩ := Rd.of_own hown5; have HK5 := Lib.hid (keep_gr hg5); have HB5 : Hid (Below w4.heap.size w4 w5) := Lib.hid (Below.grown (by (repeat' (first | with_reducible exact Below.refl _ _ | with_reducible refine below_ka ?_ (Nat.le_refl _) _ | with_reducible refine below_kd ?_))) hg5 (by first | omega | (simp; done) | (simp; omega)) (fun q hq => by injection hq with hq; dsimp only at hq; first | omega | (simp at hq; omega))); have hs5 := hg5.size; have hw5 := HB5.out.size; have y0 : w5.cell? ⟨p, 0, none⟩ = some (.int .i64 kind) := (HB5.out.cell lx).trans x0; have y1 : w5.cell? ⟨p, 1, none⟩ = some (.slice A1 n1 c1) := (HB5.out.cell lx).trans x1; have y2 : w5.cell? ⟨p, 2, none⟩ = some (.string text) := (HB5.out.cell lx).trans x2; have tok2 : True := trivial; clear tok1 hown5 hg5 hat5)
                | (have _t := tok2; refine step_app_at Tryz.elObj (v := .slice V5 k c5) (n := k) (cs := vs.take (k * 3)) (base := w4.heap.size) (A := some ⟨_, 0, none⟩) (m := 1) (news := [.int .i64 kind, .slice A1 n1 c1, .string text]) (by (repeat' (first | with_reducible exact HO5.out | with_reducible refine own_ka ?_ _ | with_reducible refine own_kd ?_))) (rd_lit (by (repeat' (first | (with_reducible refine heap_nw ?_; first | (simp; done) | (simp; omega)) | with_reducible refine heap_kp ?_ | with_reducible refine heap_kd ?_ | refine HK5.out _ _ (by intro e; injection e with e; dsimp only at e; first | omega | (simp at e; omega) | (simp at e)) ?_)))) rfl (by simp [Value.oneCell']) (by unfold maxLen; omega) (by omega) (by first | omega | (simp; done) | (simp; omega)) rfl rfl rfl rfl ?_; intro v6 w6 hown6 hg6 hat6; have HO6 := Lib.hid hown6; obtain ⟨V6, c6, rfl, -, -, -⟩ := Rd.of_own hown6; have HB6 : Hid (Below w4.heap.size w4 w6) := Lib.hid (Below.grown (by (repeat' (first | with_reducible exact HB5.out | with_reducible refine below_ka ?_ (Nat.le_refl _) _ | with_reducible refine below_kd ?_))) hg6 (by first | omega | (simp; done) | (simp; omega)) (fun q hq => (HO5.out.lt q hq).1)); have z0 : w6.cell? ⟨p, 0, none⟩ = some (.int .i64 kind) := (HB6.out.cell lx).trans x0; have z1 : w6.cell? ⟨p, 1, none⟩ = some (.slice A1 n1 c1) := (HB6.out.cell lx).trans x1; have z2 : w6.cell? ⟨p, 2, none⟩ = some (.string text) := (HB6.out.cell lx).trans x2; have hw6 := HB6.out.size; have tok3 : True := trivial; clear tok2 hown6 hg6 hat6)
                | (have _t := tok3; refine step_app_at Tryz.elObj (v := .slice V6 (k + 1) c6) (n := k + 1) (cs := vs.take (k * 3) ++ [.int .i64 kind, .slice A1 n1 c1, .string text]) (base := w4.heap.size) (A := some ⟨b, o + k * 3, none⟩) (m := n - k) (c := c - k) (news := vs.drop (k * 3)) HO6.out ((HRV.out.drop (k * 3)).below HB6.out hhW) (by rw [List.length_drop, HVL.out]; omega) (fun v hv => H1V.out v (List.mem_of_mem_drop hv)) (by unfold maxLen; omega) (by omega) (by omega) rfl rfl rfl rfl ?_; intro v7 w7 hown7 hg7 hat7; have HO7 := Lib.hid hown7; obtain ⟨V7, c7, rfl, -, -, -⟩ := Rd.of_own hown7; have HB7 : Hid (Below w4.heap.size w4 w7) := Lib.hid (Below.grown HB6.out hg7 (by omega) (fun q hq => (HO6.out.lt q hq).1)); have z70 : w7.cell? ⟨p, 0, none⟩ = some (.int .i64 kind) := (HB7.out.cell lx).trans x0; have z71 : w7.cell? ⟨p, 1, none⟩ = some (.slice A1 n1 c1) := (HB7.out.cell lx).trans x1; have z72 : w7.cell? ⟨p, 2, none⟩ = some (.string text) := (HB7.out.cell lx).trans x2; have hw7 := HB7.out.size; have HR7 := Lib.hid (rd_ins HN.out.symm (by omega) HB7.out hhW hhW' HRL.out HJW.out ht8 (by omega) hown7); have tok4 : True := trivial; clear tok3 hown7 hg7 hat7)
                | (have _t := tok4; go_simp; go_at_call 100; refine (l1Copy_any _ V7 _ c7 w7 0 w7.heap.size (Nat.le_refl _) (by omega) HLK2.out HR7.out).mono ?_; rintro e w8 ⟨C, dc, hg8, hb8, rfl⟩; have HB8 := Lib.hid (bel_tr HB7.out (Nat.le_refl _) hb8); have HG8 := Lib.hid hg8; have z80 : w8.cell? ⟨p, 0, none⟩ = some (.int .i64 kind) := (HB8.out.cell lx).trans x0; have z81 : w8.cell? ⟨p, 1, none⟩ = some (.slice A1 n1 c1) := (HB8.out.cell lx).trans x1; have z82 : w8.cell? ⟨p, 2, none⟩ = some (.string text) := (HB8.out.cell lx).trans x2; clear tok4 hg8 hb8))
            all_goals
              go_wp2_with fail
              go_ret2
              refine ⟨C, _, dc, ?_, by rw [HPB.out.2]; exact HG8.out.low (Nat.le_trans hwW hw7), bel_tr HBW.out (Nat.le_refl _) HB8.out, by rw [HPB.out.1]; rfl⟩
              rw [HPB.out.2]
              have := HN.out
              simp only [List.length_append, List.length_take, List.length_cons, List.length_drop]
              omega
      · have hkn2 : k = n := by omega
        subst hkn2
        by_cases hcn2 : c = k
        · subst hcn2
          have hf : fndB os id = false := fndB_out HP.out (by rw [← HN.out]; omega)
          have HF := Lib.hid hf
          clear hf
          have HBW := Lib.hid HB.out
          have HXW := Lib.hid HX.out
          have hhW : hi ≤ wq.heap.size := hhr
          have hhW' : hi' ≤ wq.heap.size := hhr'
          have hwW : w.heap.size ≤ wq.heap.size := HBW.out.size
          have HIW := Lib.hid (HI.out.below HBW.out hh)
          have HJW := Lib.hid (HJ.out.below HBW.out hh')
          by_cases h16 : 16 ≤ c
          · have HPB := Lib.hid (putL_full (o := ⟨kind, links, text⟩) (by rw [← HN.out]; exact h16) (by rw [HID.out]; exact HF.out))
            have h16i : (16 : Int) ≤ (c : Int) := by omega
            go_wp2_with fail
            refine (l1Copy_any os _ c c wq lo hi hhW (by omega) HLK.out HIW.out).mono ?_
            rintro e w5 ⟨C, dc, hg5, hb5, rfl⟩
            have HB5 := Lib.hid (bel_tr HBW.out (Nat.le_refl _) hb5)
            have HG5 := Lib.hid hg5
            clear hg5 hb5
            go_wp2_with fail
            go_ret2
            exact ⟨C, c, dc, by rw [HPB.out.2]; exact HN.out, by rw [HPB.out.2]; exact HG5.out.low hwW, HB5.out, by rw [HPB.out.1]; rfl⟩
          · have HPB := Lib.hid (putB_ins (o := ⟨kind, links, text⟩) (i := c) (by rw [HID.out]; exact HP.out) (by rw [← HN.out]; omega) (by rw [HID.out]; exact HF.out))
            have h16i : ¬ ((16 : Int) ≤ (c : Int)) := by omega
            obtain ⟨vs, -, -, -, -, hvl, hrv, hrl⟩ := rd_parts HIW.out
            rw [← HN.out] at hvl
            have HVL := Lib.hid hvl
            have HRV := Lib.hid hrv
            have HRL := Lib.hid hrl
            have H1V := Lib.hid (D.rdL.one hrl)
            have hr1 : (0 : Int) ≤ (c : Int) := by omega
            have hr2 : (c : Int) ≤ (c : Int) := by omega
            have hr3 : (c : Int) ≤ (c : Int) := by omega
            obtain ⟨x0, x1, x2, -, lx⟩ := box_cells HXW.out
            clear hvl hrv hrl h16
            go_wp2_with fail
            have tok1 : True := trivial
            go_region_held_law (fun w' => w'.cell? ⟨p, 0, none⟩ = some (.int .i64 kind) ∧ w'.cell? ⟨p, 1, none⟩ = some (.slice A1 n1 c1) ∧ w'.cell? ⟨p, 2, none⟩ = some (.string text)) (go_keep)
              (first
                | (have _t := tok1; refine step_app_at Tryz.elObj (v := .slice (some ⟨_, 0, none⟩) 0 0) (n := 0) (cs := []) (base := wq.heap.size) (A := A) (m := c) (c := c) (news := vs.take (c * 3)) (own_nilH (size := 3) (by (repeat' (first | (with_reducible refine heap_nw ?_; first | (simp; done) | (simp; omega)) | with_reducible refine heap_kp ?_ | with_reducible refine heap_kd ?_))) (by first | omega | (simp; omega))) ((HRV.out.below (by (repeat' (first | with_reducible exact Below.refl _ _ | with_reducible refine below_ka ?_ (Nat.le_refl _) _ | with_reducible refine below_kd ?_))) hhW).take _) (by rw [List.length_take, HVL.out, Nat.min_eq_left (by omega)]) (fun v hv => H1V.out v (List.mem_of_mem_take hv)) (by unfold maxLen; omega) (by omega) (by first | omega | (simp; done) | (simp; omega)) rfl rfl rfl rfl ?_; intro v5 w5 hown5 hg5 hat5; rw [Nat.zero_add, List.nil_append] at hown5; have HO5 := Lib.hid hown5; obtain ⟨V5, c5, rfl, -, -, -⟩ := Rd.of_own hown5; have HK5 := Lib.hid (keep_gr hg5); have HB5 : Hid (Below wq.heap.size wq w5) := Lib.hid (Below.grown (by (repeat' (first | with_reducible exact Below.refl _ _ | with_reducible refine below_ka ?_ (Nat.le_refl _) _ | with_reducible refine below_kd ?_))) hg5 (by first | omega | (simp; done) | (simp; omega)) (fun q hq => by injection hq with hq; dsimp only at hq; first | omega | (simp at hq; omega))); have hs5 := hg5.size; have hw5 := HB5.out.size; have y0 : w5.cell? ⟨p, 0, none⟩ = some (.int .i64 kind) := (HB5.out.cell lx).trans x0; have y1 : w5.cell? ⟨p, 1, none⟩ = some (.slice A1 n1 c1) := (HB5.out.cell lx).trans x1; have y2 : w5.cell? ⟨p, 2, none⟩ = some (.string text) := (HB5.out.cell lx).trans x2; have tok2 : True := trivial; clear tok1 hown5 hg5 hat5)
                | (have _t := tok2; refine step_app_at Tryz.elObj (v := .slice V5 c c5) (n := c) (cs := vs.take (c * 3)) (base := wq.heap.size) (A := some ⟨_, 0, none⟩) (m := 1) (news := [.int .i64 kind, .slice A1 n1 c1, .string text]) (by (repeat' (first | with_reducible exact HO5.out | with_reducible refine own_ka ?_ _ | with_reducible refine own_kd ?_))) (rd_lit (by (repeat' (first | (with_reducible refine heap_nw ?_; first | (simp; done) | (simp; omega)) | with_reducible refine heap_kp ?_ | with_reducible refine heap_kd ?_ | refine HK5.out _ _ (by intro e; injection e with e; dsimp only at e; first | omega | (simp at e; omega) | (simp at e)) ?_)))) rfl (by simp [Value.oneCell']) (by unfold maxLen; omega) (by omega) (by first | omega | (simp; done) | (simp; omega)) rfl rfl rfl rfl ?_; intro v6 w6 hown6 hg6 hat6; have HO6 := Lib.hid hown6; obtain ⟨V6, c6, rfl, -, -, -⟩ := Rd.of_own hown6; have HB6 : Hid (Below wq.heap.size wq w6) := Lib.hid (Below.grown (by (repeat' (first | with_reducible exact HB5.out | with_reducible refine below_ka ?_ (Nat.le_refl _) _ | with_reducible refine below_kd ?_))) hg6 (by first | omega | (simp; done) | (simp; omega)) (fun q hq => (HO5.out.lt q hq).1)); have z0 : w6.cell? ⟨p, 0, none⟩ = some (.int .i64 kind) := (HB6.out.cell lx).trans x0; have z1 : w6.cell? ⟨p, 1, none⟩ = some (.slice A1 n1 c1) := (HB6.out.cell lx).trans x1; have z2 : w6.cell? ⟨p, 2, none⟩ = some (.string text) := (HB6.out.cell lx).trans x2; have hw6 := HB6.out.size; have tok3 : True := trivial; clear tok2 hown6 hg6 hat6)
                | (have _t := tok3; refine step_app_at Tryz.elObj (v := .slice V6 (c + 1) c6) (n := c + 1) (cs := vs.take (c * 3) ++ [.int .i64 kind, .slice A1 n1 c1, .string text]) (base := wq.heap.size) (A := _) (m := 0) (c := _) (news := vs.drop (c * 3)) HO6.out (by rw [List.drop_eq_nil_of_le (by rw [HVL.out]; omega)]; exact Rd.nil _ lo hi _) (by rw [List.length_drop, HVL.out]; omega) (fun v hv => H1V.out v (List.mem_of_mem_drop hv)) (by unfold maxLen; omega) (by omega) (by omega) rfl rfl rfl rfl ?_; intro v7 w7 hown7 hg7 hat7; have HO7 := Lib.hid hown7; obtain ⟨V7, c7, rfl, -, -, -⟩ := Rd.of_own hown7; have HB7 : Hid (Below wq.heap.size wq w7) := Lib.hid (Below.grown HB6.out hg7 (by omega) (fun q hq => (HO6.out.lt q hq).1)); have z70 : w7.cell? ⟨p, 0, none⟩ = some (.int .i64 kind) := (HB7.out.cell lx).trans x0; have z71 : w7.cell? ⟨p, 1, none⟩ = some (.slice A1 n1 c1) := (HB7.out.cell lx).trans x1; have z72 : w7.cell? ⟨p, 2, none⟩ = some (.string text) := (HB7.out.cell lx).trans x2; have hw7 := HB7.out.size; have HR7 := Lib.hid (rd_ins HN.out.symm (by omega) HB7.out hhW hhW' HRL.out HJW.out ht8 (by omega) hown7); have tok4 : True := trivial; clear tok3 hown7 hg7 hat7)
                | (have _t := tok4; go_simp; go_at_call 100; refine (l1Copy_any _ V7 _ c7 w7 0 w7.heap.size (Nat.le_refl _) (by omega) HLK2.out HR7.out).mono ?_; rintro e w8 ⟨C, dc, hg8, hb8, rfl⟩; have HB8 := Lib.hid (bel_tr HB7.out (Nat.le_refl _) hb8); have HG8 := Lib.hid hg8; have z80 : w8.cell? ⟨p, 0, none⟩ = some (.int .i64 kind) := (HB8.out.cell lx).trans x0; have z81 : w8.cell? ⟨p, 1, none⟩ = some (.slice A1 n1 c1) := (HB8.out.cell lx).trans x1; have z82 : w8.cell? ⟨p, 2, none⟩ = some (.string text) := (HB8.out.cell lx).trans x2; clear tok4 hg8 hb8))
            all_goals
              go_wp2_with fail
              go_ret2
              refine ⟨C, _, dc, ?_, by rw [HPB.out.2]; exact HG8.out.low (Nat.le_trans hwW hw7), bel_tr HBW.out (Nat.le_refl _) HB8.out, by rw [HPB.out.1]; rfl⟩
              rw [HPB.out.2]
              have := HN.out
              simp only [List.length_append, List.length_take, List.length_cons, List.length_drop]
              omega
        · have hkc : ¬ (k = c) := by omega
          have hf : fndB os id = false := fndB_out HP.out (by rw [← HN.out]; omega)
          have HF := Lib.hid hf
          clear hf
          have HBW := Lib.hid HB.out
          have HXW := Lib.hid HX.out
          have hhW : hi ≤ wq.heap.size := hhr
          have hhW' : hi' ≤ wq.heap.size := hhr'
          have hwW : w.heap.size ≤ wq.heap.size := HBW.out.size
          have HIW := Lib.hid (HI.out.below HBW.out hh)
          have HJW := Lib.hid (HJ.out.below HBW.out hh')
          by_cases h16 : 16 ≤ k
          · have HPB := Lib.hid (putL_full (o := ⟨kind, links, text⟩) (by rw [← HN.out]; exact h16) (by rw [HID.out]; exact HF.out))
            have h16i : (16 : Int) ≤ (k : Int) := by omega
            go_wp2_with fail
            refine (l1Copy_any os _ k c wq lo hi hhW (by omega) HLK.out HIW.out).mono ?_
            rintro e w5 ⟨C, dc, hg5, hb5, rfl⟩
            have HB5 := Lib.hid (bel_tr HBW.out (Nat.le_refl _) hb5)
            have HG5 := Lib.hid hg5
            clear hg5 hb5
            go_wp2_with fail
            go_ret2
            exact ⟨C, k, dc, by rw [HPB.out.2]; exact HN.out, by rw [HPB.out.2]; exact HG5.out.low hwW, HB5.out, by rw [HPB.out.1]; rfl⟩
          · have HPB := Lib.hid (putB_ins (o := ⟨kind, links, text⟩) (i := k) (by rw [HID.out]; exact HP.out) (by rw [← HN.out]; omega) (by rw [HID.out]; exact HF.out))
            have h16i : ¬ ((16 : Int) ≤ (k : Int)) := by omega
            obtain ⟨vs, -, -, -, -, hvl, hrv, hrl⟩ := rd_parts HIW.out
            rw [← HN.out] at hvl
            have HVL := Lib.hid hvl
            have HRV := Lib.hid hrv
            have HRL := Lib.hid hrl
            have H1V := Lib.hid (D.rdL.one hrl)
            have hr1 : (0 : Int) ≤ (k : Int) := by omega
            have hr2 : (k : Int) ≤ (k : Int) := by omega
            have hr3 : (k : Int) ≤ (c : Int) := by omega
            obtain ⟨x0, x1, x2, -, lx⟩ := box_cells HXW.out
            clear hvl hrv hrl h16
            go_wp2_with fail
            have tok1 : True := trivial
            go_region_held_law (fun w' => w'.cell? ⟨p, 0, none⟩ = some (.int .i64 kind) ∧ w'.cell? ⟨p, 1, none⟩ = some (.slice A1 n1 c1) ∧ w'.cell? ⟨p, 2, none⟩ = some (.string text)) (go_keep)
              (first
                | (have _t := tok1; refine step_app_at Tryz.elObj (v := .slice (some ⟨_, 0, none⟩) 0 0) (n := 0) (cs := []) (base := wq.heap.size) (A := A) (m := k) (c := c) (news := vs.take (k * 3)) (own_nilH (size := 3) (by (repeat' (first | (with_reducible refine heap_nw ?_; first | (simp; done) | (simp; omega)) | with_reducible refine heap_kp ?_ | with_reducible refine heap_kd ?_))) (by first | omega | (simp; omega))) ((HRV.out.below (by (repeat' (first | with_reducible exact Below.refl _ _ | with_reducible refine below_ka ?_ (Nat.le_refl _) _ | with_reducible refine below_kd ?_))) hhW).take _) (by rw [List.length_take, HVL.out, Nat.min_eq_left (by omega)]) (fun v hv => H1V.out v (List.mem_of_mem_take hv)) (by unfold maxLen; omega) (by omega) (by first | omega | (simp; done) | (simp; omega)) rfl rfl rfl rfl ?_; intro v5 w5 hown5 hg5 hat5; rw [Nat.zero_add, List.nil_append] at hown5; have HO5 := Lib.hid hown5; obtain ⟨V5, c5, rfl, -, -, -⟩ := Rd.of_own hown5; have HK5 := Lib.hid (keep_gr hg5); have HB5 : Hid (Below wq.heap.size wq w5) := Lib.hid (Below.grown (by (repeat' (first | with_reducible exact Below.refl _ _ | with_reducible refine below_ka ?_ (Nat.le_refl _) _ | with_reducible refine below_kd ?_))) hg5 (by first | omega | (simp; done) | (simp; omega)) (fun q hq => by injection hq with hq; dsimp only at hq; first | omega | (simp at hq; omega))); have hs5 := hg5.size; have hw5 := HB5.out.size; have y0 : w5.cell? ⟨p, 0, none⟩ = some (.int .i64 kind) := (HB5.out.cell lx).trans x0; have y1 : w5.cell? ⟨p, 1, none⟩ = some (.slice A1 n1 c1) := (HB5.out.cell lx).trans x1; have y2 : w5.cell? ⟨p, 2, none⟩ = some (.string text) := (HB5.out.cell lx).trans x2; have tok2 : True := trivial; clear tok1 hown5 hg5 hat5)
                | (have _t := tok2; refine step_app_at Tryz.elObj (v := .slice V5 k c5) (n := k) (cs := vs.take (k * 3)) (base := wq.heap.size) (A := some ⟨_, 0, none⟩) (m := 1) (news := [.int .i64 kind, .slice A1 n1 c1, .string text]) (by (repeat' (first | with_reducible exact HO5.out | with_reducible refine own_ka ?_ _ | with_reducible refine own_kd ?_))) (rd_lit (by (repeat' (first | (with_reducible refine heap_nw ?_; first | (simp; done) | (simp; omega)) | with_reducible refine heap_kp ?_ | with_reducible refine heap_kd ?_ | refine HK5.out _ _ (by intro e; injection e with e; dsimp only at e; first | omega | (simp at e; omega) | (simp at e)) ?_)))) rfl (by simp [Value.oneCell']) (by unfold maxLen; omega) (by omega) (by first | omega | (simp; done) | (simp; omega)) rfl rfl rfl rfl ?_; intro v6 w6 hown6 hg6 hat6; have HO6 := Lib.hid hown6; obtain ⟨V6, c6, rfl, -, -, -⟩ := Rd.of_own hown6; have HB6 : Hid (Below wq.heap.size wq w6) := Lib.hid (Below.grown (by (repeat' (first | with_reducible exact HB5.out | with_reducible refine below_ka ?_ (Nat.le_refl _) _ | with_reducible refine below_kd ?_))) hg6 (by first | omega | (simp; done) | (simp; omega)) (fun q hq => (HO5.out.lt q hq).1)); have z0 : w6.cell? ⟨p, 0, none⟩ = some (.int .i64 kind) := (HB6.out.cell lx).trans x0; have z1 : w6.cell? ⟨p, 1, none⟩ = some (.slice A1 n1 c1) := (HB6.out.cell lx).trans x1; have z2 : w6.cell? ⟨p, 2, none⟩ = some (.string text) := (HB6.out.cell lx).trans x2; have hw6 := HB6.out.size; have tok3 : True := trivial; clear tok2 hown6 hg6 hat6)
                | (have _t := tok3; refine step_app_at Tryz.elObj (v := .slice V6 (k + 1) c6) (n := k + 1) (cs := vs.take (k * 3) ++ [.int .i64 kind, .slice A1 n1 c1, .string text]) (base := wq.heap.size) (A := _) (m := 0) (c := _) (news := vs.drop (k * 3)) HO6.out (by rw [List.drop_eq_nil_of_le (by rw [HVL.out]; omega)]; exact Rd.nil _ lo hi _) (by rw [List.length_drop, HVL.out]; omega) (fun v hv => H1V.out v (List.mem_of_mem_drop hv)) (by unfold maxLen; omega) (by omega) (by omega) rfl rfl rfl rfl ?_; intro v7 w7 hown7 hg7 hat7; have HO7 := Lib.hid hown7; obtain ⟨V7, c7, rfl, -, -, -⟩ := Rd.of_own hown7; have HB7 : Hid (Below wq.heap.size wq w7) := Lib.hid (Below.grown HB6.out hg7 (by omega) (fun q hq => (HO6.out.lt q hq).1)); have z70 : w7.cell? ⟨p, 0, none⟩ = some (.int .i64 kind) := (HB7.out.cell lx).trans x0; have z71 : w7.cell? ⟨p, 1, none⟩ = some (.slice A1 n1 c1) := (HB7.out.cell lx).trans x1; have z72 : w7.cell? ⟨p, 2, none⟩ = some (.string text) := (HB7.out.cell lx).trans x2; have hw7 := HB7.out.size; have HR7 := Lib.hid (rd_ins HN.out.symm (by omega) HB7.out hhW hhW' HRL.out HJW.out ht8 (by omega) hown7); have tok4 : True := trivial; clear tok3 hown7 hg7 hat7)
                | (have _t := tok4; go_simp; go_at_call 100; refine (l1Copy_any _ V7 _ c7 w7 0 w7.heap.size (Nat.le_refl _) (by omega) HLK2.out HR7.out).mono ?_; rintro e w8 ⟨C, dc, hg8, hb8, rfl⟩; have HB8 := Lib.hid (bel_tr HB7.out (Nat.le_refl _) hb8); have HG8 := Lib.hid hg8; have z80 : w8.cell? ⟨p, 0, none⟩ = some (.int .i64 kind) := (HB8.out.cell lx).trans x0; have z81 : w8.cell? ⟨p, 1, none⟩ = some (.slice A1 n1 c1) := (HB8.out.cell lx).trans x1; have z82 : w8.cell? ⟨p, 2, none⟩ = some (.string text) := (HB8.out.cell lx).trans x2; clear tok4 hg8 hb8))
            all_goals
              go_wp2_with fail
              go_ret2
              refine ⟨C, _, dc, ?_, by rw [HPB.out.2]; exact HG8.out.low (Nat.le_trans hwW hw7), bel_tr HBW.out (Nat.le_refl _) HB8.out, by rw [HPB.out.1]; rfl⟩
              rw [HPB.out.2]
              have := HN.out
              simp only [List.length_append, List.length_take, List.length_cons, List.length_drop]
              omega

end Go.Proofs.YtnaeglfochnikaaGreat
