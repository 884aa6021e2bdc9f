/-
  The walk of the program's StorePut: storing one object in a store. Condition: the store and the object are valid.
  The walk of the program's storeAll: objects are stored one after the other. Condition: the store and the objects are valid.
  The datum of Area, and the walks of the laws' functions that count, copy and compare it (szArea, toArea, eqArea and those over slices). Condition: lengths fit an int64.
  A map of the call's own with integer keys and elements of any kind: block b reads as the function C. Plain laws over any program: made, kept, asked, written, deleted.
  A map from transactions to objects, all in memory of the call's own; its keys in order; a quarantine's fields in memory of their own. Plain laws; no condition.
-/
import Derived.Test.YtgpjcmplnigmcaaM8
import Derived.Test.YtgpjcmplnigmcaaM5
import Derived.Test.YtgpjcmplnigmcaaM6
import Derived.StillTailTactics
import Derived.Test.YtgpjcmplnigmcaaM1
import Derived.Maps.OwnSet
import Derived.Maps.Views
import Derived.Lib.SlKeysI
namespace Go.Proofs.Ytgpjcmplnigmcaa
set_option linter.unusedVariables false
set_option linter.unusedSimpArgs false
open Go.RowKit

/-- what storing an object leaves: the store as a row of its own, and whether it went -/
def PutR (w : World) (os : List ObjD) (b : Bool) (e : Ending) (w' : World) : Prop :=
  ∃ (B : Option Addr) (m d : Nat), m = os.length ∧ Grow w' w.heap.size 58 3 (.slice B m d) m (os.flatMap fObject) ∧ Below w.heap.size w w' ∧ e = .returned (.tuple #[.slice B m d, .bool b])
theorem Grow.low {w : World} {base base' m n : Nat} {E : TypeId} {v : Value} {es : List D} (h : Grow w base E m v n es) (hb : base' ≤ base) : Grow w base' E m v n es := by
  obtain ⟨vs, F, h1, h2, h3, h4, h5⟩ := h
  refine ⟨vs, F, ⟨h1.1, ?_⟩, h2, h3, fun g hg => ⟨Nat.le_trans hb (h4 g hg).1, (h4 g hg).2⟩, h5⟩
  rcases h1.2 with h | ⟨a1, a2, a3, a4, a5, a6⟩
  · exact .inl h
  · exact .inr ⟨a1, a2, a3, a4, Nat.le_trans hb a5, a6⟩
theorem box_cells {w : World} {p : Nat} {a b c : Value} {E : TypeId} (h : w.heap[p]? = some (.cells #[a, b, c] E (0, 0))) : w.cell? ⟨p, 0, none⟩ = some a ∧ w.cell? ⟨p, 1, none⟩ = some b ∧ w.cell? ⟨p, 2, none⟩ = some c ∧ w.frozen? ⟨p, 1, none⟩ = false ∧ p < w.heap.size :=
  ⟨cell_of_row w p 0 _ _ _ h, cell_of_row w p 1 _ _ _ h, cell_of_row w p 2 _ _ _ h, frozen_of_row w p 1 _ _ h, hltS h⟩
theorem putB_fnd {os : List ObjD} {o : ObjD} {i : Nat} (hp : plc os (idB o) = i) (hi : i < os.length) (h : fndB os (idB o) = true) : putB os o = sameB os[i] o ∧ putL os o = os := by
  subst hp
  unfold putB putL
  rw [if_pos h, if_pos h, objAt hi]
  exact ⟨rfl, rfl⟩
theorem putB_full {os : List ObjD} {o : ObjD} (hn : os.length = 16) (h : fndB os (idB o) = false) : putB os o = false ∧ putL os o = os := by
  unfold putB putL
  rw [if_neg (by rw [h]; simp), if_neg (by rw [h]; simp), hn]
  exact ⟨rfl, rfl⟩
theorem putB_ins {os : List ObjD} {o : ObjD} {i : Nat} (hp : plc os (idB o) = i) (hn : os.length < 16) (h : fndB os (idB o) = false) : putB os o = true ∧ putL os o = os.take i ++ o :: os.drop i := by
  subst hp
  unfold putB putL
  rw [if_neg (by rw [h]; simp), if_neg (by rw [h]; simp), if_pos hn, decide_eq_true hn]
  exact ⟨rfl, rfl⟩

set_option maxRecDepth 100000 in
set_option maxHeartbeats 3200000 in
theorem implPut_any (os : List ObjD) (kind : Int) (links : List Int) (text : ByteArray) (A : Option Addr) (n c : Nat) (A1 : Option Addr) (n1 c1 : Nat) (w : World) (lo hi lo' hi' : Nat) (hh : hi ≤ w.heap.size) (hh' : hi' ≤ w.heap.size)
    (hs : storeB os = true) (ho : objB ⟨kind, links, text⟩ = true) (h : D.rd w lo hi (dObjects os) (.slice A n c)) (h' : D.rd w lo' hi' (intsD links) (.slice A1 n1 c1)) :
    Calls Try.prog 91 #[.slice A n c, .agg #[.int .i64 kind, .slice A1 n1 c1, .string text]] w fun e w' => PutR w (putL os ⟨kind, links, text⟩) (putB os ⟨kind, links, text⟩) e w' := by
  obtain ⟨hv, ha, hn16⟩ := (storeB_iff os).1 hs
  have hnl := h.len.1
  have hn : n ≤ 16 := by omega
  have ht8 : text.size ≤ 9223372036854775807 := by have := (objB_and ho).2.2.1; dsimp only at this; omega
  have hl4 : links.length ≤ 4 := (objB_and ho).2.1
  have hn14 : n1 ≤ 4 := by have := h'.len.1; omega
  have hbd := idB_bd ho
  obtain ⟨id, hid⟩ : ∃ id, idB ⟨kind, links, text⟩ = id := ⟨_, rfl⟩
  rw [hid] at hbd
  have hid0 := hbd.1
  have hid1 := hbd.2
  obtain ⟨i, hpl⟩ : ∃ i, plc os id = i := ⟨_, rfl⟩
  have hin : i ≤ n := by have := plc_le os id; omega
  obtain ⟨p, hp⟩ : ∃ p, p = w.heap.size := ⟨_, rfl⟩
  obtain ⟨w1, hw1⟩ : ∃ w1, w1 = w.alloc (.cells #[.int .i64 kind, .slice A1 n1 c1, .string text] 58) := ⟨_, rfl⟩
  have hb1 : Below w.heap.size w w1 := by rw [hw1]; exact (Below.refl _ _).alloc (Nat.le_refl _) _
  have HX1 : Hid (w1.heap[p]? = some (.cells #[.int .i64 kind, .slice A1 n1 c1, .string text] 58 (0, 0))) := by rw [hw1, hp]; exact Lib.hid (heap_alloc_new w _)
  have HI1 := Lib.hid (h.below hb1 hh)
  have HJ1 := Lib.hid (h'.below hb1 hh')
  have HB1 := Lib.hid hb1
  have HS := Lib.hid hs
  have HO := Lib.hid ho
  have HV := Lib.hid hv
  have HA := Lib.hid ha
  have HID := Lib.hid hid
  have HP := Lib.hid hpl
  have HN := Lib.hid hnl
  have hh1 : hi ≤ w1.heap.size := Nat.le_trans hh hb1.size
  have hh1' : hi' ≤ w1.heap.size := Nat.le_trans hh' hb1.size
  have hpw : w.heap.size ≤ p := by omega
  have HCP := Lib.hid (box_cells HX1.out)
  clear h h' hs ho hv ha hid hpl hnl hb1 hbd
  go_enter Try.func91, Try.ntmps91
  go_upto_region 1 with (fail)
  rw [← hw1, ← hp]
  clear hw1 hp
  have kp1 := HCP.out.2.2.2.2
  go_wp2_with fail
  refine (implStoreValid_any os A n c w1 lo hi hh1 HI1.out).mono ?_
  rintro e w2 ⟨rfl, hb2⟩
  rw [HS.out]
  have HX2 := Lib.hid ((hb2.block p kp1).trans HX1.out)
  have HI2 := Lib.hid (HI1.out.below hb2 hh1)
  have HJ2 := Lib.hid (HJ1.out.below hb2 hh1')
  have HB2 := Lib.hid (bel_tr HB1.out (Nat.le_refl _) hb2)
  have hh2 : hi ≤ w2.heap.size := Nat.le_trans hh1 hb2.size
  have hh2' : hi' ≤ w2.heap.size := Nat.le_trans hh1' hb2.size
  obtain ⟨k20, k21, k22, -, kp2⟩ := box_cells HX2.out
  clear hb2 kp1
  go_wp2_with fail
  refine (objOk_any kind links text A1 n1 c1 w2 lo' hi' hh2' ht8 HJ2.out).mono ?_
  rintro e w3 ⟨rfl, hb3⟩
  rw [HO.out]
  have HX3 := Lib.hid ((hb3.block p kp2).trans HX2.out)
  have HI3 := Lib.hid (HI2.out.below hb3 hh2)
  have HJ3 := Lib.hid (HJ2.out.below hb3 hh2')
  have HB3 := Lib.hid (bel_tr HB2.out (Nat.le_refl _) hb3)
  have hh3 : hi ≤ w3.heap.size := Nat.le_trans hh2 hb3.size
  have hh3' : hi' ≤ w3.heap.size := Nat.le_trans hh2' hb3.size
  have kp3 : p < w3.heap.size := Nat.lt_of_lt_of_le kp2 hb3.size
  clear hb3 kp2 k20 k21 k22
  go_wp2_with fail
  refine (copyObjs_row os A n c w3 lo hi hh3 (by omega) (fun o ho => by have := (objB_and (HV.out o ho)).2.1; omega) HI3.out).mono ?_
  rintro e w4 ⟨B, d, hg4, hb4, rfl⟩
  have HX4 := Lib.hid ((hb4.block p kp3).trans HX3.out)
  have HJ4 := Lib.hid (HJ3.out.below hb4 hh3')
  have HB4 := Lib.hid (bel_tr HB3.out (Nat.le_refl _) hb4)
  have HG4 := Lib.hid hg4
  have hh4' : hi' ≤ w4.heap.size := Nat.le_trans hh3' hb4.size
  have hw34 := hb4.size
  obtain ⟨k40, k41, k42, -, kp4⟩ := box_cells HX4.out
  obtain ⟨B', d', he, hnd, hd63, -⟩ := hg4.own.rd.arr_inv
  injection he with he1 _ he2
  subst he1 he2
  clear hb4 hg4
  go_wp2_with fail
  refine (objId_any kind links text A1 n1 c1 w4 lo' hi' hh4' HO.out HJ4.out).mono ?_
  rintro e w5 ⟨rfl, hb5⟩
  rw [HID.out]
  have HX5 := Lib.hid ((hb5.block p kp4).trans HX4.out)
  have HJ5 := Lib.hid (HJ4.out.below hb5 hh4')
  have HB5 := Lib.hid (bel_tr HB4.out (Nat.le_refl _) hb5)
  have HG5 := Lib.hid (HG4.out.fresh hb5)
  have hh5' : hi' ≤ w5.heap.size := Nat.le_trans hh4' hb5.size
  have kp5 : p < w5.heap.size := Nat.lt_of_lt_of_le kp4 hb5.size
  have hw35 : w3.heap.size ≤ w5.heap.size := Nat.le_trans hw34 hb5.size
  have HR5 : Hid (D.rd w5 w3.heap.size w5.heap.size (dObjects os) (.slice B n d)) := by
    have h1 := HG5.out.own.rd
    show D.rd _ _ _ _ _
    unfold dObjects
    rw [← HN.out]; exact h1
  clear hb5 k40 k41 k42 kp4 hw34
  go_wp2_with fail
  refine (findO_any os B n d id w5 _ _ (Nat.le_refl _) (by omega) HV.out HA.out hid0 hid1 HR5.out).mono ?_
  rintro e w6 ⟨rfl, hb6⟩
  rw [HP.out]
  have HX6 := Lib.hid ((hb6.block p kp5).trans HX5.out)
  have HJ6 := Lib.hid (HJ5.out.below hb6 hh5')
  have HB6 := Lib.hid (bel_tr HB5.out (Nat.le_refl _) hb6)
  have HG6 := Lib.hid (HG5.out.fresh hb6)
  have HR6 := Lib.hid (HR5.out.below hb6 (Nat.le_refl _))
  have hh6' : hi' ≤ w6.heap.size := Nat.le_trans hh5' hb6.size
  have hw56 := hb6.size
  obtain ⟨k60, k61, k62, kf6, kp6⟩ := box_cells HX6.out
  clear hb6 kp5
  rcases hf : fndB os id with _ | _
  · have HF := Lib.hid hf
    clear hf
    by_cases hn16' : n = 16
    · have HPB := Lib.hid (putB_full (o := ⟨kind, links, text⟩) (by rw [← HN.out]; exact hn16') (by rw [HID.out]; exact HF.out))
      subst hn16'
      go_wp2_with fail
      go_ret2
      refine ⟨B, 16, d, by rw [HPB.out.2]; exact HN.out, by rw [HPB.out.2]; exact HG6.out.low (by have := HB3.out.size; omega), HB6.out, ?_⟩
      rw [HPB.out.1]; rfl
    · have hlt16 : n < 16 := by omega
      have HPB := Lib.hid (putB_ins (o := ⟨kind, links, text⟩) (i := i) (by rw [HID.out]; exact HP.out) (by rw [← HN.out]; exact hlt16) (by rw [HID.out]; exact HF.out))
      have hd16 : ((n : Int) == 16) = false := by simp; omega
      clear hn16'
      go_wp2_with fail
      refine (cloneInt_d links A1 n1 c1 w6 lo' hi' hh6' (by omega) HJ6.out).mono ?_
      rintro e w7 ⟨B1, d1, hown7, hb7, rfl⟩
      have HX7 := Lib.hid ((hb7.block p kp6).trans HX6.out)
      have HB7 := Lib.hid (bel_tr HB6.out (Nat.le_refl _) hb7)
      have HG7 := Lib.hid (HG6.out.fresh hb7)
      have HO7 := Lib.hid hown7
      have hw67 := hb7.size
      obtain ⟨k70, k71, k72, kf7, kp7⟩ := box_cells HX7.out
      clear hown7
      obtain ⟨w8, hw8⟩ : ∃ w8, w8 = w7.setCell ⟨p, 1, none⟩ (.slice B1 n1 d1) := ⟨_, rfl⟩
      have HX8 : Hid (w8.heap[p]? = some (.cells #[.int .i64 kind, .slice B1 n1 d1, .string text] 58 (0, 0))) := by
        show _ = _
        rw [hw8, heap_setCell_same w7 p 1 _ _ _ HX7.out]; rfl
      have HS8 : Hid (w8.heap.size = w7.heap.size) := by rw [hw8]; exact Lib.hid (by simp [World.setCell])
      have HB8 : Hid (Below w.heap.size w w8) := by rw [hw8]; exact Lib.hid (HB7.out.setCell hpw _)
      obtain ⟨cs, F, g1, g2, g3, g4, g5⟩ := HG6.out
      have hkb : ∀ g, g < w6.heap.size → g ≠ p → w8.heap[g]? = w6.heap[g]? := fun g hg hne => by
        rw [hw8]; exact (Below.heap_setCell _ _ _ _ hne).trans (hb7.block g hg)
      have hs68 : w6.heap.size ≤ w8.heap.size := by rw [HS8.out]; exact hw67
      have hob : ∀ g, ownA B = some g → g < w6.heap.size ∧ w3.heap.size ≤ g := fun g hg => by
        have := g1.lt g (by rw [ob_eq]; exact hg)
        exact ⟨this.2, this.1⟩
      have G1 : Hid (w8.ownsRow w3.heap.size 58 3 (.slice B n d) n cs) := by
        rw [hw8]
        exact Lib.hid ((own_below g1 hb7).kept (set_grownL w7 p 1 _) (.inr fun e => by rw [ob_eq] at e; have := (hob p e).2; omega))
      have G2 := Lib.hid (D.ownL.keep _ F cs (fun g hg => hkb g (g4 g hg).2 (fun e => by have := (g4 g hg).1; omega)) g2)
      have G3 := Lib.hid g3
      have G4 := Lib.hid g4
      have G5 : Hid (∀ g, ownA B = some g → g ∉ F) := fun g hg => g5 g (by rw [ob_eq]; exact hg)
      have HOB := Lib.hid hob
      have hs68' := Lib.hid hs68
      clear g1 g2 g3 g4 g5 hkb hob hs68 hb7
      have HO8 : Hid (Own w8 w6.heap.size (intsD links) (.slice B1 n1 d1)) := by
        rw [hw8]; exact Lib.hid (HO7.out.set (by omega) _ _)
      obtain ⟨k80, k81, k82, kf8, kp8⟩ := box_cells HX8.out
      go_upto_region 10 with (fail)
      rw [← hw8]
      clear hw8
      go_wp2_with fail
      obtain ⟨vb, hvb⟩ : ∃ vb, vb = w8.heap.size := ⟨_, rfl⟩
      rw [← hvb]
      obtain ⟨G, q1, q2, q3⟩ := HO8.out
      have hrow : (w8.alloc (.cells #[.int .i64 kind, .slice B1 n1 d1, .string text] 58)).ownsRow w3.heap.size 58 3 (.slice B n d) n cs := own_below G1.out ((Below.refl _ _).alloc (Nat.le_refl _) _)
      have hL : D.ownL w8 (fObject ⟨kind, links, text⟩) G [.int .i64 kind, .slice B1 n1 d1, .string text] := by
        have := D.ownL.cons (D.own.int w8 kind) (D.ownL.cons q3 (D.ownL.cons (D.own.str w8 ht8) (D.ownL.nil w8)))
        simpa [fObject] using this
      have hw38 : w3.heap.size ≤ w8.heap.size := by have := hs68'.out; omega
      have HINS := Lib.hid (insert_any cs [.int .i64 kind, .slice B1 n1 d1, .string text] B n d i vb w3.heap.size _ (by omega) hin (by simp; omega) hrow rfl (D.ownL.one hL) (D.ownL.one G2.out) (by rw [hvb]; exact heap_alloc_new w8 _) (fun e => by have := (HOB.out vb e).1; have := hs68'.out; omega))
      have HQ := Lib.hid (show _ ∧ _ ∧ _ from ⟨q1, q2, hL⟩)
      clear q1 q2 q3 hrow hL hvb
      refine HINS.out.mono ?_
      rintro e w9 hins
      obtain ⟨v', hg9, hgr9, rfl⟩ := Grow.ins (w := w8) (o := ⟨kind, links, text⟩) HN.out.symm hin G1.out G2.out G3.out (fun g hg => ⟨(G4.out g hg).1, Nat.lt_of_lt_of_le (G4.out g hg).2 hs68'.out⟩) G5.out HQ.out.2.2 HQ.out.1 (fun g hg => ⟨by have := (HQ.out.2.1 g hg).1; omega, (HQ.out.2.1 g hg).2⟩) (fun g e hg => by have := (HOB.out g e).1; have := (HQ.out.2.1 g hg).1; omega) (fun g hg hF => by have := (G4.out g hF).2; have := (HQ.out.2.1 g hg).1; omega) ⟨_, rfl⟩ hins
      have HG9 := Lib.hid hg9
      have HB9 := Lib.hid (Below.grown (HB8.out.alloc (o := .cells #[.int .i64 kind, .slice B1 n1 d1, .string text] 58) HB8.out.size) hgr9 (by simp; have := HB8.out.size; omega) (fun q hq => by have := (HOB.out q hq).2; have := HB3.out.size; omega))
      clear hg9 hgr9 hins
      obtain ⟨B9, d9, rfl, hnd9, -, -⟩ := HG9.out.own.rd.arr_inv
      go_wp2_with fail
      go_ret2
      refine ⟨B9, n + 1, d9, ?_, by rw [HPB.out.2]; exact HG9.out.low (by have := HB3.out.size; omega), HB9.out, ?_⟩
      · rw [HPB.out.2]
        have := HN.out
        simp only [List.length_append, List.length_take, List.length_cons, List.length_drop]
        omega
      · rw [HPB.out.1]; rfl
  · have HF := Lib.hid hf
    clear hf
    have hil : i < os.length := by
      obtain ⟨h1, -⟩ := (fndB_iff _ _).1 HF.out
      rw [HP.out] at h1; exact h1
    have hin' : i < n := by rw [HN.out]; exact hil
    have HPB := Lib.hid (putB_fnd (o := ⟨kind, links, text⟩) (i := i) (by rw [HID.out]; exact HP.out) hil (by rw [HID.out]; exact HF.out))
    obtain ⟨b, o, hl, A6, n6, c6, rfl, _, hbh, k63, k64, k65, ⟨hn6, hm6, hr6⟩, ht6⟩ := rd_Object HR6.out hin'
    have HR := Lib.hid hr6.drew
    have HJ := Lib.hid HJ6.out.drew
    have kb6 : b < w6.heap.size := by omega
    clear hr6
    go_wp2_with fail
    go_region_held3 (fun w' => w'.cell? ⟨p, 0, none⟩ = some (.int .i64 kind) ∧ w'.cell? ⟨p, 1, none⟩ = some (.slice A1 n1 c1) ∧ w'.cell? ⟨p, 2, none⟩ = some (.string text) ∧ w'.cell? ⟨b, o + i * 3, none⟩ = some (.int .i64 os[i].kind) ∧ w'.cell? ⟨b, o + i * 3 + 1, none⟩ = some (.slice A6 n6 c6) ∧ w'.cell? ⟨b, o + i * 3 + 2, none⟩ = some (.string os[i].text)) (go_keep)
      (first | (go_at_call 113; refine (implSame_any os[i].kind os[i].links os[i].text A6 n6 c6 kind links text A1 n1 c1 w6.drew _ w5.heap.size lo' hi' hw56 hh6' HR.out HJ.out).mono ?_; rintro e w7 ⟨rfl, hb7'⟩; have hb7 := below_of_drew hb7'; clear hb7'; have k70 : w7.cell? ⟨p, 0, none⟩ = some (.int .i64 kind) := (hb7.cell kp6).trans k60; have k71 : w7.cell? ⟨p, 1, none⟩ = some (.slice A1 n1 c1) := (hb7.cell kp6).trans k61; have k72 : w7.cell? ⟨p, 2, none⟩ = some (.string text) := (hb7.cell kp6).trans k62; have k73 : w7.cell? ⟨b, o + i * 3, none⟩ = some (.int .i64 os[i].kind) := (hb7.cell kb6).trans k63; have k74 : w7.cell? ⟨b, o + i * 3 + 1, none⟩ = some (.slice A6 n6 c6) := (hb7.cell kb6).trans k64; have k75 : w7.cell? ⟨b, o + i * 3 + 2, none⟩ = some (.string os[i].text) := (hb7.cell kb6).trans k65; have HB7 := Lib.hid (bel_tr HB6.out (Nat.le_refl _) hb7); have HG7 := Lib.hid (HG6.out.fresh hb7); clear hb7))
    go_wp2_with fail
    go_ret2
    refine ⟨_, n, d, by rw [HPB.out.2]; exact HN.out, by rw [HPB.out.2]; exact HG7.out.low (by have := HB3.out.size; omega), HB7.out, ?_⟩
    rw [HPB.out.1]; rfl

end Go.Proofs.Ytgpjcmplnigmcaa

namespace Go.Proofs.Ytgpjcmplnigmcaa
set_option linter.unusedVariables false
set_option linter.unusedSimpArgs false
open Go.RowKit

set_option maxRecDepth 100000 in
set_option maxHeartbeats 1600000 in
theorem storeAll_any (st list : List ObjD) (A : Option Addr) (n c : Nat) (B : Option Addr) (m d : Nat) (w : World) (lo hi lo' hi' : Nat) (hh : hi ≤ w.heap.size) (hh' : hi' ≤ w.heap.size)
    (hs : storeB st = true) (hl : ∀ o ∈ list, objB o = true) (h : D.rd w lo hi (dObjects st) (.slice A n c)) (h' : D.rd w lo' hi' (dObjects list) (.slice B m d)) :
    Calls Try.prog 53 #[.slice A n c, .slice B m d] w fun e w' => PutR w (allP st list).1 (allP st list).2 e w' := by
  obtain ⟨hv, ha, hn16⟩ := (storeB_iff st).1 hs
  have hnl := h.len.1
  have hn : n ≤ 16 := by omega
  have hm63 : m ≤ 9223372036854775807 := by have := h'.len; omega
  have HI := Lib.hid h
  have HJ := Lib.hid h'
  have HS := Lib.hid hs
  have HL := Lib.hid hl
  have HV := Lib.hid hv
  have HN := Lib.hid hnl
  have HM := Lib.hid h'.len.1
  clear h h' hs hl hv ha hn16 hnl
  go_enter Try.func53, Try.ntmps53
  go_wp2_with fail
  refine (copyObjs_row st A n c w lo hi hh (by omega) (fun o ho => by have := (objB_and (HV.out o ho)).2.1; omega) HI.out).mono ?_
  rintro e w1 ⟨C, d1, hg1, hb1, rfl⟩
  have HG1 : Hid (Grow w1 w.heap.size 58 3 (.slice C n d1) n ((allP st (list.take 0)).1.flatMap fObject)) := hg1
  have HB1 := Lib.hid hb1
  clear hg1 hb1
  go_wp2_with fail
  go_loopw [6, 15] (fun v i wr => ∃ (k : Nat) (C : Option Addr) (q dq : Nat), k ≤ m ∧ i = .int .i64 k ∧ v = .slice C q dq ∧ Hid ((allP st (list.take k)).2 = true) ∧ Hid (q = (allP st (list.take k)).1.length) ∧ Hid (Grow wr w.heap.size 58 3 (.slice C q dq) q ((allP st (list.take k)).1.flatMap fObject)) ∧ Below w.heap.size w wr) (fun _ i _ => m - (intOf i).toNat)
  case atStart => exact ⟨0, C, n, d1, Nat.zero_le _, rfl, rfl, rfl, HN, HG1, HB1.out⟩
  case round =>
    obtain ⟨k, C2, q, dq, hk, rfl, rfl, HT, HQ, HG, hbw⟩ := hrel
    have HB := Lib.hid hbw
    have hwsz := hbw.size
    clear hbw HG1 HB1
    by_cases hlt : k < m
    · obtain ⟨b, o, hlk, A3, n3, c3, rfl, _, hbh, hc0, hc1, hc2, ⟨hn3, hm3, hr3⟩, ht3⟩ := rd_Object (HJ.out.below HB.out hh') hlt
      have hhr : hi' ≤ wr.heap.size := Nat.le_trans hh' hwsz
      have HVK := Lib.hid (show objB ⟨list[k].kind, list[k].links, list[k].text⟩ = true from HL.out _ (List.getElem_mem hlk))
      obtain ⟨w1, hw1⟩ : ∃ w1, w1 = wr.alloc (.cells #[.int .i64 list[k].kind, .slice A3 n3 c3, .string list[k].text] 58) := ⟨_, rfl⟩
      obtain ⟨p, hp⟩ : ∃ p, p = wr.heap.size := ⟨_, rfl⟩
      have hb1 : Below wr.heap.size wr w1 := by rw [hw1]; exact (Below.refl _ _).alloc (Nat.le_refl _) _
      have HX1 : Hid (w1.heap[p]? = some (.cells #[.int .i64 list[k].kind, .slice A3 n3 c3, .string list[k].text] 58 (0, 0))) := by rw [hw1, hp]; exact Lib.hid (heap_alloc_new wr _)
      have HR3 := Lib.hid (hr3.below hb1 hhr)
      have HB1 := Lib.hid (bel_tr HB.out (Nat.le_refl _) hb1)
      have HG1 := Lib.hid (HG.out.fresh hb1)
      have hh1 : hi' ≤ w1.heap.size := Nat.le_trans hhr hb1.size
      have hww1 : w.heap.size ≤ w1.heap.size := HB1.out.size
      have HRS : Hid (D.rd w1 w.heap.size w1.heap.size (dObjects (allP st (list.take k)).1) (.slice C2 q dq)) := by
        have h1 := HG1.out.own.rd
        show D.rd _ _ _ _ _
        unfold dObjects
        rw [← HQ.out]; exact h1
      have HST : Hid (storeB (allP st (list.take k)).1 = true) := Lib.hid (allP_store HS.out fun o ho => HL.out o (List.mem_of_mem_take ho))
      obtain ⟨k0, k1, k2, -, kp⟩ := box_cells HX1.out
      go_upto_region 5 with (fail)
      rw [← hw1, ← hp]
      clear hw1 hp hb1 hr3
      go_wp2_with fail
      refine (implPut_any (allP st (list.take k)).1 list[k].kind list[k].links list[k].text C2 q dq A3 n3 c3 w1 w.heap.size w1.heap.size lo' hi' (Nat.le_refl _) hh1 HST.out HVK.out HRS.out HR3.out).mono ?_
      rintro e w2 ⟨C4, q4, d4, hq4, hg4, hb4, rfl⟩
      have HB2 := Lib.hid (bel_tr HB1.out (Nat.le_refl _) hb4)
      have HG2 := Lib.hid (hg4.low hww1)
      have HQ4 := Lib.hid hq4
      clear hg4 hb4 hq4
      rcases hpb : putB (allP st (list.take k)).1 ⟨list[k].kind, list[k].links, list[k].text⟩ with _ | _
      · have hno := Lib.hid (allP_fail hlk HT.out hpb)
        clear hpb
        go_wp2_with fail
        go_ret2
        exact ⟨none, 0, 0, by rw [hno.out]; rfl, by rw [hno.out]; exact Grow.nil (World.ownsRow_nil _ _ _ _), HB2.out, by rw [hno.out]; rfl⟩
      · have hst := Lib.hid (allP_step hlk HT.out hpb)
        clear hpb
        go_wp2_with fail
        go_roundw
        case rel => exact ⟨k + 1, C4, q4, d4, by omega, by go_num, rfl, by show _ = _; rw [hst.out], by show _ = _; rw [hst.out]; exact HQ4.out, by show Grow _ _ _ _ _ _ _; rw [hst.out]; exact HG2.out, HB2.out⟩
        case measure => simp [intOf]; omega
    · have hkm : k = m := by omega
      subst hkm
      have hall : list.take k = list := List.take_of_length_le (by rw [← HM.out]; exact Nat.le_refl _)
      have HALL := Lib.hid hall
      clear hall
      go_wp2_with fail
      go_ret2
      refine ⟨C2, q, dq, by rw [← HALL.out]; exact HQ.out, ?_, HB.out, ?_⟩
      · have := HG.out; rw [HALL.out] at this; exact this
      · have := HT.out; rw [HALL.out] at this; rw [this]; rfl

end Go.Proofs.Ytgpjcmplnigmcaa

namespace Go.Proofs.Ytgpjcmplnigmcaa
set_option linter.unusedVariables false
set_option linter.unusedSimpArgs false
open Go.RowKit

/-- the fields of a value of type Area -/
def fArea (x : AreaD) : List D := [.int x.txn, dObjects x.objs]
theorem fArea_len (x : AreaD) : (fArea x).length = 2 := rfl
/-- a slice of them -/
def dAreas (xs : List AreaD) : D := .arr 2 xs.length (xs.flatMap fArea)
theorem szL_fArea (x : AreaD) : D.szL (fArea x) = D.sz (dObjects x.objs) := by
  unfold fArea
  simp only [szL_cons, szL_nil, sz_int, sz_str]
  omega

theorem rd_Area {w : World} {lo hi n k c : Nat} {A : Option Addr} {xs : List AreaD} (h : D.rd w lo hi (dAreas xs) (.slice A n c)) (hk : k < n) :
    ∃ (b o : Nat) (hl : k < xs.length) (A1 : Option Addr) (n1 c1 : Nat), A = some ⟨b, o, none⟩ ∧ lo ≤ b ∧ b < hi ∧ w.cell? ⟨b, o + k * 2, none⟩ = some (.int .i64 xs[k].txn) ∧ w.cell? ⟨b, o + k * 2 + 1, none⟩ = some (.slice A1 n1 c1) ∧ (n1 ≤ c1 ∧ c1 ≤ 9223372036854775807 ∧ D.rd w lo hi (dObjects xs[k].objs) (.slice A1 n1 c1)) := by
  have hn := h.len.1
  obtain ⟨b, o, hl, rfl, g1, g2, hc⟩ := h.at_ fArea_len (by omega) (k := k) (by omega)
  obtain ⟨u0, hu0, hr0⟩ := hc 0 _ rfl
  obtain rfl := hr0.int_inv
  obtain ⟨u1, hu1, hr1⟩ := hc 1 _ rfl
  obtain ⟨A1, c1, rfl, hn1, hm1, hd1⟩ := D.rd.arr_inv hr1
  exact ⟨b, o, hl, A1, _, c1, rfl, g1, g2, hu0, hu1, ⟨hn1, hm1, hd1⟩⟩

theorem sz_Area_get {xs : List AreaD} {x : AreaD} (hx : x ∈ xs) : D.szL (fArea x) ≤ D.sz (dAreas xs) := by
  unfold dAreas
  rw [sz_arr]
  have := szL_get fArea xs hx
  omega

set_option maxRecDepth 100000 in
set_option maxHeartbeats 800000 in
theorem szArea_d (txn : Int) (objs : List ObjD) (A1 : Option Addr) (n1 c1 : Nat) (left : Int) (w : World) (lo hi : Nat) (hh : hi ≤ w.heap.size) (hr1 : D.rd w lo hi (dObjects objs) (.slice A1 n1 c1)) (h0 : 0 ≤ left) (hl : left ≤ 1048576) :
    Calls Try.prog 83 #[.agg #[.int .i64 txn, .slice A1 n1 c1], .int .i64 left] w fun e w' => SzR left (D.szL (fArea (⟨txn, objs⟩ : AreaD))) w e w' := by
  have HR1 := Lib.hid hr1
  have HB0 : Hid (Below w.heap.size w (w.alloc (.cells #[.int .i64 txn, .slice A1 n1 c1] 104))) := (Below.refl _ _).alloc (Nat.le_refl _) _
  clear hr1
  go_enter Try.func83, Try.ntmps83
  go_wp2_with fail
  refine (szObjectS_d objs A1 n1 c1 _ _ lo hi (Nat.le_trans hh HB0.out.size) (HR1.out.below HB0.out hh) (by omega) (by omega)).mono ?_
  rintro e w1 ⟨r1, ha1, hb1, hs1, hw1, rfl⟩
  have HB1 := Lib.hid (bel_tr HB0.out (Nat.le_refl _) hw1)
  obtain ⟨hcc1, hcf1⟩ := bcell hw1
  have hz1 : w.heap.size < w1.heap.size := by have h1 := hw1.size; first | (simp at h1; omega) | omega
  clear hw1
  by_cases hq1 : r1 < 0
  · go_wp2_with fail
    go_ret
    exact ⟨-1, by omega, by omega, by omega, HB1.out, rfl⟩
  have hp1 : 0 ≤ r1 := by omega
  have hs1' := hs1 hp1
  clear hq1 hs1
  go_wp2_with fail
  go_ret
  exact ⟨_, by omega, by omega, fun _ => by have h9 := szL_fArea ⟨txn, objs⟩; dsimp only at h9; omega, HB1.out, rfl⟩

set_option maxRecDepth 100000 in
set_option maxHeartbeats 800000 in
theorem szAreaS_d (xs : List AreaD) (A : Option Addr) (n c : Nat) (left : Int) (w : World) (lo hi : Nat) (hh : hi ≤ w.heap.size) (h : D.rd w lo hi (dAreas xs) (.slice A n c)) (h0 : 0 ≤ left) (hlf : left ≤ 1048576) :
    Calls Try.prog 41 #[.slice A n c, .int .i64 left] w fun e w' => SzR left (D.sz (dAreas xs)) w e w' := by
  have HI := Lib.hid h
  have HN := Lib.hid h.len.1
  have hnc := h.len.2.1
  have hcm := h.len.2.2
  rw [← h.len.1] at hnc
  clear h
  have HS : Hid (D.sz (dAreas xs) = n + D.szL (xs.flatMap fArea)) := by
    show D.sz (dAreas xs) = _
    unfold dAreas
    rw [sz_arr, HN.out]
  by_cases hbig : left < n
  · go_enter Try.func41, Try.ntmps41
    go_wp2_with fail
    go_ret
    exact ⟨-1, by omega, by omega, by omega, Below.refl _ _, rfl⟩
  · have hnl : (n : Int) ≤ left := by omega
    clear hbig
    go_enter Try.func41, Try.ntmps41
    go_wp2_with fail
    go_loopw [1, 5] (fun l i wr => ∃ (k : Nat) (q : Int), k ≤ n ∧ i = .int .i64 k ∧ l = .int .i64 q ∧ 0 ≤ q ∧ q ≤ left ∧ Hid (q + n + (D.szL ((xs.take k).flatMap fArea) : Nat) ≤ left) ∧ Below w.heap.size w wr) (fun _ i _ => n - (intOf i).toNat)
    case atStart => exact ⟨0, _, Nat.zero_le _, rfl, rfl, by omega, by omega, by show _ ≤ left; rw [List.take_zero, List.flatMap_nil, szL_nil]; omega, Below.refl _ _⟩
    case round =>
      obtain ⟨k, q, hk, rfl, rfl, hq0, hq1, HQ, hbw⟩ := hrel
      have HB := Lib.hid hbw
      have hwsz := hbw.size
      clear hbw
      by_cases hlt : k < n
      · obtain ⟨b, o, hl, A1, n1, c1, rfl, _, hbh, hc0, hc1, ⟨hn1, hm1, hr1⟩⟩ := rd_Area (HI.out.below HB.out hh) hlt
        have HR1 := Lib.hid hr1
        have HST := Lib.hid (szL_take fArea xs k hl)
        have hcm_ := hcm
        clear hr1
        go_wp2_with fail
        refine (szArea_d xs[k].txn xs[k].objs A1 n1 c1 q _ lo hi (Nat.le_trans hh HB.out.size) HR1.out hq0 (by omega)).mono ?_
        rintro e w2 ⟨r, hr1, hr2, hr3, hb2, rfl⟩
        have HB2 := Lib.hid (bel_tr HB.out (Nat.le_refl _) hb2)
        clear hb2
        by_cases hr0 : r < 0
        · go_wp2_with fail
          go_ret
          exact ⟨-1, by omega, by omega, by omega, HB2.out, rfl⟩
        · have hr4 : 0 ≤ r := by omega
          have HS3 := Lib.hid (hr3 hr4)
          clear hr0 hr3
          go_wp2_with fail
          exact ⟨⟨k + 1, r, by omega, by go_num, rfl, hr4, by omega, by have h1 : r + (D.szL (fArea xs[k]) : Nat) ≤ q := HS3.out; have h2 := HQ.out; show _ ≤ left; rw [HST.out]; omega, HB2.out⟩, by simp [intOf]; omega⟩
      · have hkn : k = n := by omega
        subst hkn
        go_wp2_with fail
        go_ret
        refine ⟨_, by omega, by omega, fun _ => ?_, HB.out, rfl⟩
        have h2 := HQ.out
        rw [List.take_of_length_le (by rw [HN.out]; exact Nat.le_refl _)] at h2
        rw [HS.out]
        omega

set_option maxRecDepth 100000 in
set_option maxHeartbeats 1600000 in
theorem toArea_d (txn : Int) (objs : List ObjD) (A1 : Option Addr) (n1 c1 : Nat) (w : World) (lo hi : Nat) (hh : hi ≤ w.heap.size) (hr1 : D.rd w lo hi (dObjects objs) (.slice A1 n1 c1)) (hs1 : D.sz (dObjects objs) ≤ 1048576) :
    Calls Try.prog 88 #[.agg #[.int .i64 txn, .slice A1 n1 c1]] w fun e w' => ∃ (B1 : Option Addr) (bc1 : Nat), OwnL w' w.heap.size (fArea (⟨txn, objs⟩ : AreaD)) [.int .i64 txn, .slice B1 n1 bc1] ∧ Below w.heap.size w w' ∧ e = .returned (.agg #[.int .i64 txn, .slice B1 n1 bc1]) := by
  have HR1 := Lib.hid hr1
  clear hr1
  go_enter Try.func88, Try.ntmps88
  have HB0 : Hid (Below w.heap.size w (((w.alloc (.cells #[.int .i64 txn, .slice A1 n1 c1] 104)).alloc (.cells #[.int .i64 0, .slice none 0 0] 69)).alloc (.cells #[.int .i64 txn, .slice none 0 0] 69))) := (((Below.refl _ _).alloc (Nat.le_refl _) _).alloc (by simp) _).alloc (by simp; omega) _
  have HL0 : Hid (OwnL (((w.alloc (.cells #[.int .i64 txn, .slice A1 n1 c1] 104)).alloc (.cells #[.int .i64 0, .slice none 0 0] 69)).alloc (.cells #[.int .i64 txn, .slice none 0 0] 69)) (w.heap.size + 1 + 1 + 1) [.int txn] [.int .i64 txn]) := Lib.hid ((OwnL.nil _ _).int _)
  go_wp2_with fail
  refine (toObjectS_d objs A1 n1 c1 _ lo hi (Nat.le_trans hh HB0.out.size) (HR1.out.below HB0.out hh) hs1).mono ?_
  rintro e w1 ⟨B1, bc1, ho1, hw1, rfl⟩
  have HL1 : Hid (OwnL w1 (w.heap.size + 1 + 1 + 1) [.int txn, dObjects objs] [.int .i64 txn, .slice B1 n1 bc1]) := Lib.hid (HL0.out.snoc (Nat.le_refl _) hw1 ho1 (by simp))
  have HB1 := Lib.hid (bel_tr HB0.out (Nat.le_refl _) hw1)
  obtain ⟨hcc1, hcf1⟩ := bcell hw1
  have hz1 : w.heap.size + 1 + 1 < w1.heap.size := by have h1 := hw1.size; simp at h1; omega
  have hz1a : w.heap.size + 1 < w1.heap.size := by omega
  have hz1b : w.heap.size < w1.heap.size := by omega
  clear hw1 ho1
  go_wp2_with fail
  exact bodyPost_ret (v := .agg #[.int .i64 txn, .slice B1 n1 bc1]) (by simp [results, Try.results88, go_sem, hcc1, hcf1, hz1, hz1a, hz1b]) rfl ⟨B1, bc1, ((((HL1.out).set (by omega) _ _).set (by omega) _ _).set (by omega) _ _).low (by omega), (((HB1.out).setCell (by first | (simp; done) | (simp; omega)) _).setCell (by first | (simp; done) | (simp; omega)) _).setCell (by first | (simp; done) | (simp; omega)) _, rfl⟩

theorem Try.infoArea : (Try.prog.info? 69).map (fun i => (i.zero, i.size, i.bytes)) = some (some (.agg #[.int .i64 0, .slice none 0 0]), 2, 32) := by kernel_rfl
def zArea : List Value := [.int .i64 0, .slice none 0 0]
set_option maxRecDepth 100000 in
set_option maxHeartbeats 1600000 in
theorem toAreaS_d (xs : List AreaD) (A : Option Addr) (n c : Nat) (w : World) (lo hi : Nat) (hh : hi ≤ w.heap.size) (h : D.rd w lo hi (dAreas xs) (.slice A n c)) (hs : D.sz (dAreas xs) ≤ 1048576) :
    Calls Try.prog 48 #[.slice A n c] w fun e w' => ∃ (B : Option Addr) (d : Nat), Own w' w.heap.size (dAreas xs) (.slice B n d) ∧ Below w.heap.size w w' ∧ e = .returned (.slice B n d) := by
  have HI := Lib.hid h
  have HN := Lib.hid h.len.1
  have HSZ := Lib.hid hs
  have hn20 : n ≤ 1048576 := by
    have h1 := h.len.1
    unfold dAreas at hs
    rw [sz_arr] at hs; omega
  clear h hs
  obtain ⟨i0, hi0, hz0, hz1, hz2⟩ := info_parts Try.infoArea
  have hmk := run_make_rowN (P := Try.prog) 29 69 i0 _ Try.underlying29 hi0 hz0 n (by rw [hz2]; omega) (by unfold maxLen; omega)
  rw [hz1] at hmk
  have hml := made_cells zArea (by simp [zArea]) n
  have hown : ∀ W : World, FillS fArea 2 zArea 69 (W.alloc (.cells (madeCells #[.int .i64 0, .slice none 0 0] (n * 2)) 69)) W.heap.size n 0 xs := fun W => by
    have := World.ownsRow_lit (e := 69) (size := 2) W (madeCells #[.int .i64 0, .slice none 0 0] (n * 2)) n (Nat.le_refl W.heap.size) (by unfold maxLen; omega) (by simp [madeCells])
    rw [show (madeCells #[.int .i64 0, .slice none 0 0] (n * 2)).toList = (List.replicate n zArea).flatten from hml] at this
    exact FillS.start this
  have HO := Lib.hid hown
  clear hown hml hi0 hz0 hz1 hz2
  go_enter Try.func48, Try.ntmps48
  go_wp2_with fail
  go_loopw [4] (fun i wr => ∃ k : Nat, k ≤ n ∧ i = .int .i64 k ∧ FillS fArea 2 zArea 69 wr w.heap.size n k xs ∧ Below w.heap.size w wr) (fun i _ => n - (intOf i).toNat)
  case atStart => exact ⟨0, Nat.zero_le _, rfl, HO.out w, (Below.refl _ _).alloc (Nat.le_refl _) _⟩
  case round =>
    obtain ⟨k, hk, rfl, hown, hb⟩ := hrel
    have HOW := Lib.hid hown
    have HB := Lib.hid hb
    have hwsz := hb.size
    have hlo := hown.lt
    clear hown hb
    by_cases hlt : k < n
    · obtain ⟨b, o, hl, A1, n1, c1, rfl, _, hbh, hc0, hc1, ⟨hn1, hm1, hr1⟩⟩ := rd_Area (HI.out.below HB.out hh) hlt
      have hsz0 := HSZ.out
      have HR1 := Lib.hid hr1
      clear hr1
      go_wp2_with fail
      refine (toArea_d xs[k].txn xs[k].objs A1 n1 c1 _ lo hi (Nat.le_trans hh HB.out.size) HR1.out (by have h1 := sz_Area_get (xs := xs) (List.getElem_mem hl); have h2 := szL_fArea xs[k]; omega)).mono ?_
      rintro e w2 ⟨B1, bc1, hd, hb2, rfl⟩
      have HB2 := Lib.hid (bel_tr HB.out (Nat.le_refl _) hb2)
      have hown2 := HOW.out.fresh hb2
      obtain ⟨u0, hg0, hf0⟩ := hown2.cell hlt 0 (by omega)
      obtain ⟨u1, hg1, hf1⟩ := hown2.cell hlt 1 (by omega)
      rw [Nat.add_zero] at hg0 hf0
      have HST := Lib.hid (HOW.out.step fArea_len rfl hl hlt hb2 hd)
      have hlo2 := hown2.lt
      clear hown2 hb2 hd hsz0
      go_wp2_with fail
      go_roundw
      case rel => exact ⟨k + 1, by omega, by go_num, HST.out, (HB2.out.setCell (Nat.le_refl _) _).setCell (Nat.le_refl _) _⟩
      case measure => simp [intOf]; omega
    · have hkn : k = n := by omega
      subst hkn
      go_wp2_with fail
      go_ret
      exact ⟨_, _, by have h1 := HOW.out.done HN.out.symm; rw [HN.out] at h1 ⊢; exact h1, HB.out, rfl⟩

set_option maxRecDepth 100000 in
set_option maxHeartbeats 1600000 in
theorem eqArea_d (txn : Int) (objs : List ObjD) (A1 : Option Addr) (n1 c1 : Nat) (B1 : Option Addr) (bn1 bc1 : Nat) (w : World) (lo hi lo' hi' : Nat) (hh : hi ≤ w.heap.size) (hh' : hi' ≤ w.heap.size) (hr1 : D.rd w lo hi (dObjects objs) (.slice A1 n1 c1)) (hq1 : D.rd w lo' hi' (dObjects objs) (.slice B1 bn1 bc1)) :
    Calls Try.prog 96 #[.agg #[.int .i64 txn, .slice A1 n1 c1], .agg #[.int .i64 txn, .slice B1 bn1 bc1]] w fun e w' => e = .returned (.bool true) ∧ Below w.heap.size w w' := by

  have HR1 := Lib.hid hr1
  have HQ1 := Lib.hid hq1
  clear hr1 hq1
  have he0 : (!(txn == txn)) = false := by simp
  have HB0 : Hid (Below w.heap.size w ((w.alloc (.cells #[.int .i64 txn, .slice A1 n1 c1] 69)).alloc (.cells #[.int .i64 txn, .slice B1 bn1 bc1] 69))) := ((Below.refl _ _).alloc (Nat.le_refl _) _).alloc (by simp) _
  go_enter Try.func96, Try.ntmps96
  go_wp2_with fail
  refine (eqObjectS_d objs A1 B1 n1 bn1 c1 bc1 _ lo hi lo' hi' (Nat.le_trans hh HB0.out.size) (Nat.le_trans hh' HB0.out.size) (HR1.out.below HB0.out hh) (HQ1.out.below HB0.out hh')).mono ?_
  rintro e w1 ⟨rfl, hw1⟩
  have HB1 := Lib.hid (bel_tr HB0.out (Nat.le_refl _) hw1)
  obtain ⟨hcc1, hcf1⟩ := bcell hw1
  have hz1 : w.heap.size + 1 < w1.heap.size := by have h1 := hw1.size; simp at h1; omega
  have hz1b : w.heap.size < w1.heap.size := by omega
  clear hw1
  go_wp2_with fail
  go_ret
  exact ⟨rfl, HB1.out⟩

set_option maxRecDepth 100000 in
set_option maxHeartbeats 1600000 in
theorem eqAreaS_d (xs : List AreaD) (A A' : Option Addr) (n n' c c' : Nat) (w : World) (lo hi lo' hi' : Nat) (hh : hi ≤ w.heap.size) (hh' : hi' ≤ w.heap.size) (h : D.rd w lo hi (dAreas xs) (.slice A n c)) (h' : D.rd w lo' hi' (dAreas xs) (.slice A' n' c')) :
    Calls Try.prog 57 #[.slice A n c, .slice A' n' c'] w fun e w' => e = .returned (.bool true) ∧ Below w.heap.size w w' := by
  have h1 := h.len
  have h2 := h'.len
  obtain rfl : n' = n := h2.1.trans h1.1.symm
  have hn63 : n' ≤ 9223372036854775807 := by omega
  have HI := Lib.hid h
  have HJ := Lib.hid h'
  clear h h' h1 h2
  go_enter Try.func57, Try.ntmps57
  go_wp2_with fail
  go_loopw [5] (fun i wr => ∃ k : Nat, k ≤ n' ∧ i = .int .i64 k ∧ Below w.heap.size w wr) (fun i _ => n' - (intOf i).toNat)
  case atStart => exact ⟨0, Nat.zero_le _, rfl, Below.refl _ _⟩
  case round =>
    obtain ⟨k, hk, rfl, hb⟩ := hrel
    have HB := Lib.hid hb
    have hwsz := hb.size
    clear hb
    by_cases hlt : k < n'
    · obtain ⟨b, o, hl, A1, n1, c1, rfl, _, hbh, hc0, hc1, ⟨hn1, hm1, hr1⟩⟩ := rd_Area (HI.out.below HB.out hh) hlt
      obtain ⟨b', o', hl', B1, bn1, bc1, rfl, _, hbh', hd0, hd1, ⟨-, -, hq1⟩⟩ := rd_Area (HJ.out.below HB.out hh') hlt
      have HR1 := Lib.hid hr1.drew
      have HQ1 := Lib.hid hq1.drew
      clear hr1 hq1
      go_wp2_with fail
      go_still_tail 8, (by kernel_rfl)
      change wpList _ _ _ _ _ wr.drew
      go_wp2_with fail
      refine (eqArea_d xs[k].txn xs[k].objs A1 n1 c1 B1 bn1 bc1 wr.drew lo hi lo' hi' (Nat.le_trans hh HB.out.size) (Nat.le_trans hh' HB.out.size) HR1.out HQ1.out).mono ?_
      rintro e w2 ⟨rfl, hb2⟩
      have HB2 : Hid (Below w.heap.size w w2) := HB.out.drew.trans (hb2.mono hwsz)
      clear hb2
      go_wp2_with fail
      go_roundw
      case rel => exact ⟨k + 1, by omega, by go_num, HB2.out⟩
      case measure => simp [intOf]; omega
    · have hkn : k = n' := by omega
      subst hkn
      go_wp2_with fail
      go_ret
      exact ⟨rfl, HB.out⟩

end Go.Proofs.Ytgpjcmplnigmcaa

namespace Go.Proofs.Ytgpjcmplnigmcaa
set_option linter.unusedVariables false
set_option linter.unusedSimpArgs false
open Go.RowKit

/-- an element of any kind is read as itself -/
def anyEl (v : Value) : Option (DataW Value × List MemPlace) := some (.held v, [])
/-- block b is a map of at most n entries that reads as C -/
def MapI (P : Program) (k : TypeId) (w : World) (b n : Nat) (C : Int → Option Value) : Prop :=
  ∃ D : DataW Value, w.ownsMap P k anyEl b n D ∧ ∀ i : Int, (Lit.int .i64 i).wf = true → Maps.has D (.int .i64 i) = (C i).isSome ∧ ∀ z : Value, D.atKey (.int .i64 i) (.held z) = .held ((C i).getD z)
section
variable {P : Program} {k e t : TypeId} {w w' : World} {b n : Nat} {C : Int → Option Value}
theorem MapI.made (w : World) (P : Program) (k : TypeId) : MapI P k (w.alloc (.map #[] 0)) w.heap.size 0 (fun _ => none) :=
  ⟨.map [], World.ownsMap_made w P k anyEl, fun _ _ => ⟨rfl, fun _ => rfl⟩⟩
theorem MapI.kept {row : Option Nat} (h : MapI P k w b n C) (hg : w.grownBy w' row) (hne : some b ≠ row) : MapI P k w' b n C := by
  obtain ⟨D, h1, h2⟩ := h
  exact ⟨D, h1.kept hg hne, h2⟩
theorem MapI.alloc (h : MapI P k w b n C) (o : Obj) : MapI P k (w.alloc o) b n C := h.kept (World.grownBy_alloc w o none) (by simp)
theorem MapI.drewN (h : MapI P k w b n C) (m : Nat) : MapI P k (w.drewN m) b n C := h
theorem MapI.lt (h : MapI P k w b n C) : b < w.heap.size := by obtain ⟨D, h1, _⟩ := h; exact h1.lt
theorem MapI.ask (h : MapI P k w b n C) (hk : P.underlying k = some (.int .i64)) (ht : P.underlying t = some (.map k e)) {z : Value} (hz : (zeroValue e).run P w = .ok z w) {i : Int} (hi : (Lit.int .i64 i).wf = true) :
    (Instr.lookup t (.map (some b)) (.int .i64 i) true).run P w = .ok (.tuple #[(C i).getD z, .bool (C i).isSome]) w := by
  obtain ⟨D, h1, h2⟩ := h
  obtain ⟨v, ps, hr, hv⟩ := h1.look_ok (Maps.int_keyed hk) ht hz (zd := .held z) (zp := []) rfl (Maps.keyOf_int_mk hk hi)
  obtain ⟨ha, hb⟩ := h2 i hi
  rw [hb z] at hv
  unfold anyEl at hv
  simp only [Option.some.injEq, Prod.mk.injEq, DataW.held.injEq] at hv
  rw [hr, ha, hv.1]
theorem MapI.get (h : MapI P k w b n C) (hk : P.underlying k = some (.int .i64)) (ht : P.underlying t = some (.map k e)) {z : Value} (hz : (zeroValue e).run P w = .ok z w) {i : Int} (hi : (Lit.int .i64 i).wf = true) :
    (Instr.lookup t (.map (some b)) (.int .i64 i) false).run P w = .ok ((C i).getD z) w := by
  obtain ⟨D, h1, h2⟩ := h
  obtain ⟨v, ps, hr, hv⟩ := h1.lookup (Maps.int_keyed hk) ht hz (zd := .held z) (zp := []) rfl (Maps.keyOf_int_mk hk hi)
  obtain ⟨ha, hb⟩ := h2 i hi
  rw [hb z] at hv
  unfold anyEl at hv
  simp only [Option.some.injEq, Prod.mk.injEq, DataW.held.injEq] at hv
  rw [hr, hv.1]
theorem MapI.set (h : MapI P k w b n C) (hk : P.underlying k = some (.int .i64)) (ht : P.underlying t = some (.map k e)) (hn : n < maxLen) {i : Int} (hi : (Lit.int .i64 i).wf = true) (v : Value) :
    ∃ w', (Instr.mapUpdate t (.map (some b)) (.int .i64 i) v).run P w = .ok () w' ∧ MapI P k w' b (n + 1) (fun j => if j = i then some v else C j) ∧ w.grownBy w' (some b) := by
  obtain ⟨D, h1, h2⟩ := h
  obtain ⟨w', hr, h3, h4⟩ := h1.update (Maps.int_keyed hk) ht hn (Maps.keyOf_int_mk hk hi) (val := v) (d := .held v) (ps := []) rfl
  refine ⟨w', hr, ⟨_, h3, fun j hj => ?_⟩, h4⟩
  have hkl : WideAt.IsKeyLit (.int .i64 i) := by simp [WideAt.IsKeyLit]
  dsimp only
  by_cases e : j = i
  · subst e
    rw [if_pos rfl]
    exact ⟨Maps.has_put_same h1.isMap hkl _, fun z => Maps.atKey_put_same h1.isMap hkl _ _⟩
  · rw [if_neg e]
    have hne : (Lit.int .i64 j) ≠ .int .i64 i := by intro h; injection h with _ h; exact e h
    rw [Maps.has_put_other hne]
    exact ⟨(h2 j hj).1, fun z => by rw [Maps.atKey_put_other hne]; exact (h2 j hj).2 z⟩
theorem MapI.del (h : MapI P k w b n C) (hk : P.underlying k = some (.int .i64)) (ht : P.underlying t = some (.map k e)) {i : Int} (hi : (Lit.int .i64 i).wf = true) (ty : TypeId) :
    ∃ w', (Builtin.delete_ #[t, k] ty #[.map (some b), .int .i64 i]).run P w = .ok (.tuple #[]) w' ∧ MapI P k w' b n (fun j => if j = i then none else C j) ∧ w.grownBy w' (some b) := by
  obtain ⟨D, h1, h2⟩ := h
  obtain ⟨w', hr, h3, h4⟩ := h1.drop (Maps.int_keyed hk) ht (Maps.keyOf_int_mk hk hi) ty
  refine ⟨w', hr, ⟨_, h3, fun j hj => ?_⟩, h4.grown⟩
  dsimp only
  by_cases e : j = i
  · subst e
    rw [if_pos rfl]
    exact ⟨Maps.has_del_same, fun z => Maps.atKey_del_same _⟩
  · rw [if_neg e]
    have hne : (Lit.int .i64 j) ≠ .int .i64 i := by intro h; injection h with _ h; exact e h
    rw [Maps.has_del_other hne]
    exact ⟨(h2 j hj).1, fun z => by rw [Maps.atKey_del_other hne]; exact (h2 j hj).2 z⟩
end

theorem wpList_setI {P : Program} (w : World) {ops : Array Oper} {rest : List Oper} {o : Oper} {a : Act} {Q : Exit → Act → World → Prop}
    (hg : o.guard = none) (m x v : Operand) (t : TypeId) (hop : o.op = Op.mapUpdate t m x v)
    (k e : TypeId) (hk : P.underlying k = some (.int .i64)) (ht : P.underlying t = some (.map k e)) (b n : Nat) (C : Int → Option Value)
    (hm : a.eval m = .map (some b)) (hown : MapI P k w b n C) (hn : n < maxLen) (i : Int) (val : Value) (hi : (Lit.int .i64 i).wf = true) (hx : a.eval x = .int .i64 i) (hv : a.eval v = val)
    (hK : ∀ w', MapI P k w' b (n + 1) (fun j => if j = i then some val else C j) → w.grownBy w' (some b) → wpList P ops Q rest (a.put o.dst undef) w') :
    wpList P ops Q (o :: rest) a w := by
  refine wpList_plain hg fun K' hK' => ?_
  obtain ⟨w', hrun, r1, r2⟩ := hown.set hk ht hn hi val
  unfold Oper.wp
  simp [execOp, hop, hm, hx, hv, hrun, Result.andThen]
  exact hK' _ _ (hK w' r1 r2)

end Go.Proofs.Ytgpjcmplnigmcaa

namespace Go.Proofs.Ytgpjcmplnigmcaa
set_option linter.unusedVariables false
set_option linter.unusedSimpArgs false
open Go.RowKit

/-- the keys of a map by transaction, in order -/
def keysC {α : Type} (C : Int → Option α) : List Int := ((List.range 12).map fun (i : Nat) => (i : Int)).filter fun i => (C i).isSome
theorem keysC_mem {α : Type} (C : Int → Option α) (x : Int) : x ∈ keysC C ↔ txnB x = true ∧ (C x).isSome = true := by
  unfold keysC txnB
  rw [inR_iff]
  simp only [List.mem_filter, List.mem_map, List.mem_range]
  constructor
  · rintro ⟨⟨i, hi, rfl⟩, h⟩; exact ⟨⟨by omega, by omega⟩, h⟩
  · rintro ⟨⟨h1, h2⟩, h⟩; exact ⟨⟨x.toNat, by omega, by omega⟩, h⟩
theorem keysC_asc {α : Type} (C : Int → Option α) : (keysC C).Pairwise (· < ·) := by
  unfold keysC
  refine List.Pairwise.filter _ ?_
  rw [List.pairwise_map]
  exact List.Pairwise.imp (fun {a b} h => by omega) List.pairwise_lt_range
theorem keysC_len {α : Type} (C : Int → Option α) : (keysC C).length ≤ 12 := by
  unfold keysC
  have := List.length_filter_le (fun i => (C i).isSome) ((List.range 12).map fun (i : Nat) => (i : Int))
  simpa using this
theorem keysC_congr {α β : Type} {C : Int → Option α} {M : Int → Option β} (h : ∀ i, (C i).isSome = (M i).isSome) : keysC C = keysC M := by
  unfold keysC
  congr 1
  funext i; exact h i
theorem mapA_keys (M : Int → Option (List ObjD)) : mapA M = (keysC M).map fun t => ⟨t, (M t).getD []⟩ := by
  unfold mapA keysC
  generalize List.range 12 = l
  induction l with
  | nil => rfl
  | cons i l ih =>
    rw [List.filterMap_cons, List.map_cons, List.filter_cons]
    rcases h : M (i : Int) with _ | os
    · simp [h, ih]
    · simp [h, ih]

theorem wf_txn {x : Int} (h : txnB x = true) : (Lit.int .i64 x).wf = true := by
  unfold txnB at h
  rw [inR_iff] at h
  have h3 : x = 0 ∨ x = 1 ∨ x = 2 ∨ x = 3 ∨ x = 4 ∨ x = 5 ∨ x = 6 ∨ x = 7 ∨ x = 8 ∨ x = 9 ∨ x = 10 ∨ x = 11 := by omega
  rcases h3 with rfl | rfl | rfl | rfl | rfl | rfl | rfl | rfl | rfl | rfl | rfl | rfl <;> decide
/-- the map's keys, sorted -/
theorem MapI.keys {P : Program} {k : TypeId} {w : World} {b n : Nat} {C : Int → Option Value} (h : MapI P k w b n C) (hk : P.underlying k = some (.int .i64)) (hsup : ∀ i, (C i).isSome = true → txnB i = true) :
    ∃ D : DataW Value, w.ownsMap P k anyEl b n D ∧ Maps.size D = (keysC C).length ∧ ∀ ss : List Int, ss.Perm (intKeys D) → (ss.mergeSort fun x y => decide (x ≤ y)) = keysC C ∧ ss.length = (keysC C).length := by
  obtain ⟨D, h1, h2⟩ := h
  obtain ⟨es, hD, hpw, _⟩ := h1.entries (Maps.int_keyed hk)
  obtain ⟨es', hD', hko⟩ := h1.keysOf
  obtain rfl : es = es' := by rw [hD] at hD'; simpa using hD'
  have hint : ∀ p ∈ es, ∃ x, p.1 = .int .i64 x ∧ (Lit.int .i64 x).wf = true := fun p hp => by
    obtain ⟨v, hv⟩ := hko p hp
    obtain ⟨x, _, hx, hw⟩ := Maps.keyOf_i64 hk hv
    exact ⟨x, hx, hw⟩
  have hperm : (keysC C).Perm (intKeys D) := by
    rw [hD]
    refine perm_intKeys hpw (fun p hp => by obtain ⟨x, hx, _⟩ := hint p hp; exact ⟨x, hx⟩) ((keysC_asc C).imp fun {a b} h => by omega) fun x => ?_
    rw [keysC_mem, ← hD]
    constructor
    · rintro ⟨ht, hc⟩
      rw [(h2 x (wf_txn ht)).1]
      exact hc
    · intro hh
      have hw : (Lit.int .i64 x).wf = true := by
        rw [hD, Maps.has_eq, List.any_eq_true] at hh
        obtain ⟨p, hp, hs⟩ := hh
        obtain ⟨y, hy, hyw⟩ := hint p hp
        rw [hy] at hs
        have : Lit.int .i64 y = Lit.int .i64 x := WideAt.sameKey_eq hs
        rw [← this]; exact hyw
      have hc := (h2 x hw).1
      rw [hh] at hc
      exact ⟨hsup x hc.symm, hc.symm⟩
  refine ⟨D, h1, ?_, fun ss hss => ⟨?_, ?_⟩⟩
  · rw [hperm.length_eq, hD]; simp [Maps.size, intKeys]
  · have h3 := mergeSort_of_perm_i (hss.trans hperm.symm)
    have h4 : (keysC C).mergeSort leI = keysC C := List.mergeSort_of_pairwise (by
      refine (keysC_asc C).imp fun {a b} h => ?_
      simp only [leI, decide_eq_true_eq]; omega)
    rw [h4] at h3
    exact h3
  · rw [(hss.trans hperm.symm).length_eq]

/-- block b is a map of at most n entries that reads as M, each row of objects in memory of its own -/
def QMap (w : World) (base b n : Nat) (M : Int → Option (List ObjD)) : Prop :=
  ∃ (C : Int → Option Value) (F : Int → List Nat), MapI Try.prog 3 w b n C ∧ base ≤ b ∧
    (∀ i, (M i = none → C i = none ∧ F i = []) ∧ ∀ os, M i = some os → ∃ A m c, C i = some (.slice A m c) ∧ D.own w (dObjects os) (F i) (.slice A m c)) ∧
    (∀ i, (F i).Nodup ∧ ∀ g ∈ F i, base ≤ g ∧ g < w.heap.size ∧ g ≠ b) ∧ (∀ i j, i ≠ j → ∀ g ∈ F i, g ∉ F j)
section
variable {w w' w2 : World} {base b n : Nat} {M : Int → Option (List ObjD)}
theorem QMap.made (w : World) : QMap (w.alloc (.map #[] 0)) w.heap.size w.heap.size 0 (fun _ => none) :=
  ⟨fun _ => none, fun _ => [], MapI.made w _ _, Nat.le_refl _, fun i => ⟨fun _ => ⟨rfl, rfl⟩, fun os h => by cases h⟩, fun i => ⟨List.nodup_nil, fun g h => by cases h⟩, fun i j _ g h => by cases h⟩
theorem QMap.lt (h : QMap w base b n M) : b < w.heap.size := by obtain ⟨C, F, h1, _⟩ := h; exact h1.lt
theorem QMap.blk_ge (h : QMap w base b n M) : base ≤ b := by obtain ⟨C, F, _, h2, _⟩ := h; exact h2
theorem QMap.kept {row : Option Nat} (h : QMap w base b n M) (hg : w.grownBy w' row) (hr : ∀ g, row = some g → g < base) : QMap w' base b n M := by
  obtain ⟨C, F, h1, h2, h3, h4, h5⟩ := h
  refine ⟨C, F, h1.kept hg (fun e => by have := hr b e.symm; omega), h2, fun i => ⟨(h3 i).1, fun os ho => ?_⟩, fun i => ⟨(h4 i).1, fun g hg' => ⟨((h4 i).2 g hg').1, Nat.lt_of_lt_of_le ((h4 i).2 g hg').2.1 hg.size, ((h4 i).2 g hg').2.2⟩⟩, h5⟩
  obtain ⟨A, m, c, k1, k2⟩ := (h3 i).2 os ho
  exact ⟨A, m, c, k1, D.own.keep _ _ _ (fun g hg' => hg.block g ((h4 i).2 g hg').2.1 (fun e => by have := hr g e.symm; have := ((h4 i).2 g hg').1; omega)) k2⟩
theorem QMap.fresh (h : QMap w base b n M) (hb : Below w.heap.size w w') : QMap w' base b n M := h.kept (grown_none hb none) (fun _ e => by cases e)
theorem QMap.low {base' : Nat} (h : QMap w base b n M) (hb : base' ≤ base) : QMap w base' b n M := by
  obtain ⟨C, F, h1, h2, h3, h4, h5⟩ := h
  exact ⟨C, F, h1, Nat.le_trans hb h2, h3, fun i => ⟨(h4 i).1, fun g hg => ⟨Nat.le_trans hb ((h4 i).2 g hg).1, ((h4 i).2 g hg).2⟩⟩, h5⟩
/-- an entry is set to objects that have been made since -/
theorem QMap.put {i : Int} {os : List ObjD} {A : Option Addr} {m c : Nat} (h : QMap w base b n M) (hb : Below w.heap.size w w2) (hn : n < maxLen) (hi : (Lit.int .i64 i).wf = true) (hbs : base ≤ w.heap.size) (hown : Own w2 w.heap.size (dObjects os) (.slice A m c)) :
    ∃ w3, (Instr.mapUpdate 76 (.map (some b)) (.int .i64 i) (.slice A m c)).run Try.prog w2 = .ok () w3 ∧ QMap w3 base b (n + 1) (fun j => if j = i then some os else M j) ∧ w2.grownBy w3 (some b) := by
  have hbl := h.lt
  obtain ⟨C, F, h1, h2, h3, h4, h5⟩ := h.fresh hb
  obtain ⟨C0, F0, a1, a2, a3, a4, a5⟩ := h
  have a1' : MapI Try.prog 3 w2 b n C0 := a1.kept (grown_none hb none) (by simp)
  obtain ⟨w3, hrun, hm, hg⟩ := a1'.set (t := 76) Try.underlying3 Try.underlying76 hn hi (.slice A m c)
  obtain ⟨G, q1, q2, q3⟩ := hown
  refine ⟨w3, hrun, ⟨_, fun j => if j = i then G else F0 j, hm, a2, fun j => ?_, fun j => ?_, fun j l hjl g => ?_⟩, hg⟩
  · by_cases e : j = i
    · simp only [if_pos e]
      refine ⟨fun h => (by cases h), fun os' h => ?_⟩
      injection h with h
      subst h
      exact ⟨A, m, c, rfl, D.own.keep _ G _ (fun g hg' => hg.block g (q2 g hg').2 (fun e => by injection e with e; have := (q2 g hg').1; omega)) q3⟩
    · simp only [if_neg e]
      refine ⟨(a3 j).1, fun os' h => ?_⟩
      obtain ⟨A', m', c', k1, k2⟩ := (a3 j).2 os' h
      exact ⟨A', m', c', k1, D.own.keep _ _ _ (fun g hg' => (hg.block g (Nat.lt_of_lt_of_le ((a4 j).2 g hg').2.1 hb.size) (fun e => by injection e with e; exact ((a4 j).2 g hg').2.2 e)).trans (hb.block g ((a4 j).2 g hg').2.1)) k2⟩
  · by_cases e : j = i
    · simp only [if_pos e]
      exact ⟨q1, fun g hg' => ⟨Nat.le_trans hbs (q2 g hg').1, Nat.lt_of_lt_of_le (q2 g hg').2 hg.size, by have := (q2 g hg').1; omega⟩⟩
    · simp only [if_neg e]
      exact ⟨(a4 j).1, fun g hg' => ⟨((a4 j).2 g hg').1, Nat.lt_of_lt_of_le ((a4 j).2 g hg').2.1 (Nat.le_trans hb.size hg.size), ((a4 j).2 g hg').2.2⟩⟩
  · by_cases e : j = i
    · have e2 : ¬ l = i := fun h => hjl (by rw [e, h])
      simp only [if_pos e, if_neg e2]
      intro h6 h7
      have := (q2 g h6).1
      have := ((a4 l).2 g h7).2.1; omega
    · by_cases e2 : l = i
      · simp only [if_neg e, if_pos e2]
        intro h6 h7
        have := (q2 g h7).1
        have := ((a4 j).2 g h6).2.1; omega
      · simp only [if_neg e, if_neg e2]
        exact a5 j l hjl g
/-- an entry is removed -/
theorem QMap.del (h : QMap w base b n M) {i : Int} (hi : (Lit.int .i64 i).wf = true) (ty : TypeId) :
    ∃ w3, (Builtin.delete_ #[76, 3] ty #[.map (some b), .int .i64 i]).run Try.prog w = .ok (.tuple #[]) w3 ∧ QMap w3 base b n (fun j => if j = i then none else M j) ∧ w.grownBy w3 (some b) := by
  obtain ⟨C, F, h1, h2, h3, h4, h5⟩ := h
  obtain ⟨w3, hrun, hm, hg⟩ := h1.del (t := 76) Try.underlying3 Try.underlying76 hi ty
  refine ⟨w3, hrun, ⟨_, fun j => if j = i then [] else F j, hm, h2, fun j => ?_, fun j => ?_, fun j l hjl g => ?_⟩, hg⟩
  · by_cases e : j = i
    · simp [if_pos e]
    · simp only [if_neg e]
      refine ⟨(h3 j).1, fun os' h => ?_⟩
      obtain ⟨A', m', c', k1, k2⟩ := (h3 j).2 os' h
      exact ⟨A', m', c', k1, D.own.keep _ _ _ (fun g hg' => hg.block g ((h4 j).2 g hg').2.1 (fun e => by injection e with e; exact ((h4 j).2 g hg').2.2 e)) k2⟩
  · by_cases e : j = i
    · simp only [if_pos e]; exact ⟨List.nodup_nil, fun g h => by cases h⟩
    · simp only [if_neg e]
      exact ⟨(h4 j).1, fun g hg' => ⟨((h4 j).2 g hg').1, Nat.lt_of_lt_of_le ((h4 j).2 g hg').2.1 hg.size, ((h4 j).2 g hg').2.2⟩⟩
  · by_cases e : j = i
    · simp only [if_pos e]; intro h; cases h
    · by_cases e2 : l = i
      · simp only [if_pos e2]; intro _ h; cases h
      · simp only [if_neg e, if_neg e2]; exact h5 j l hjl g
/-- what a key leads to -/
theorem QMap.ask (h : QMap w base b n M) {i : Int} (hi : (Lit.int .i64 i).wf = true) :
    ∃ A m c, (∀ ok, (Instr.lookup 76 (.map (some b)) (.int .i64 i) ok).run Try.prog w = .ok (if ok = true then .tuple #[.slice A m c, .bool (M i).isSome] else .slice A m c) w) ∧ D.rd w base w.heap.size (dObjects ((M i).getD [])) (.slice A m c) := by
  obtain ⟨C, F, h1, h2, h3, h4, h5⟩ := h
  have hz : (zeroValue 28).run Try.prog w = .ok (.slice none 0 0) w := Try.zeroValue28 w
  have hask := h1.ask (t := 76) Try.underlying3 Try.underlying76 hz hi
  have hget := h1.get (t := 76) Try.underlying3 Try.underlying76 hz hi
  rcases hM : M i with _ | os
  · obtain ⟨hC, -⟩ := (h3 i).1 hM
    rw [hC] at hask hget
    refine ⟨none, 0, 0, fun ok => ?_, ?_⟩
    · rcases ok with _ | _
      · exact hget
      · exact hask
    · show D.rd _ _ _ (dObjects []) _
      exact (Grow.own (Grow.nil (base := base) (m := 3) (E := 58) (World.ownsRow_nil w base _ _))).rd
  · obtain ⟨A, m, c, hC, hown⟩ := (h3 i).2 os hM
    rw [hC] at hask hget
    refine ⟨A, m, c, fun ok => ?_, ?_⟩
    · rcases ok with _ | _
      · exact hget
      · exact hask
    · exact D.own.rd _ (F i) _ (fun g hg => ⟨((h4 i).2 g hg).1, ((h4 i).2 g hg).2.1⟩) hown
end

/-- a quarantine's fields, all in memory of their own; the areas are a row that can grow -/
def QuaG (w : World) (base : Nat) (q : QuaD) (vm va : Value) : Prop :=
  ∃ Fm vs Fa, D.own w (dObjects q.main) Fm vm ∧ w.ownsRow base 69 2 va q.areas.length vs ∧ D.ownL w (q.areas.flatMap fArea) Fa vs ∧ (Fm ++ Fa).Nodup ∧ (∀ g ∈ Fm ++ Fa, base ≤ g ∧ g < w.heap.size) ∧ (∀ g, va.ownBlock = some g → g ∉ Fm ++ Fa)

end Go.Proofs.Ytgpjcmplnigmcaa
