/-
  The walks of the program's StoreMissing and QuarantineMissing: what is reached and not stored. Condition: few ids to begin with.
-/
import Derived.Test.YtgpjcmplnigmcaaMisP
import Derived.Test.YtgpjcmplnigmcaaQuaV
import Derived.Test.YtgpjcmplnigmcaaM10
import Derived.Deep.RegionHeldLaw
namespace Go.Proofs.Ytgpjcmplnigmcaa
set_option linter.unusedVariables false
set_option linter.unusedSimpArgs false
open Go.RowKit

/-- ids are handed back, or nil -/
def MisR (w : World) (ys : List Int) (e : Ending) (w' : World) : Prop :=
  ∃ A c, D.rd w' w.heap.size w'.heap.size (intsD ys) (.slice A ys.length c) ∧ Below w.heap.size w w' ∧ e = .returned (.slice A ys.length c)
theorem MisR.of_own {w w' : World} {ys : List Int} {v : Value} (h : w'.ownsRow w.heap.size 3 1 v ys.length (ys.flatMap ci)) (hb : Below w.heap.size w w') : MisR w ys (.returned v) w' := by
  obtain ⟨A, c, e, -⟩ := Rd.of_own h
  subst e
  exact ⟨A, c, (own_ints h).rd, hb, rfl⟩
open Classical in
/-- what StoreMissing answers -/
noncomputable def stoMis (os : List ObjD) (frm : List Int) : List Int := if storeB os = true ∧ linksB frm = true then misL (getO os) frm else []
theorem stoMis_yes {os : List ObjD} {frm : List Int} (h1 : storeB os = true) (h2 : linksB frm = true) : stoMis os frm = misL (getO os) frm := by unfold stoMis; rw [if_pos ⟨h1, h2⟩]
theorem stoMis_no {os : List ObjD} {frm : List Int} (h : storeB os = false ∨ linksB frm = false) : stoMis os frm = [] := by
  unfold stoMis
  rw [if_neg]
  rintro ⟨h1, h2⟩
  rcases h with h | h
  · rw [h] at h1; cases h1
  · rw [h] at h2; cases h2
theorem MisR.nil {w w' : World} {ys : List Int} (hy : ys = []) (hb : Below w.heap.size w w') : MisR w ys (.returned (.slice none 0 0)) w' := by
  subst hy
  exact MisR.of_own (World.ownsRow_nil w' w.heap.size _ 1) hb
theorem MisR.of_out {w w' : World} {ys : List Int} {v : Value} {e : Ending} (h : w'.ownsRow w.heap.size 3 1 v ys.length (ys.flatMap ci)) (hb : Below w.heap.size w w') (he : e = .returned v) : MisR w ys e w' := by
  subst he; exact MisR.of_own h hb

set_option maxRecDepth 100000 in
set_option maxHeartbeats 3200000 in
theorem implStoMissing_any (os : List ObjD) (frm : List Int) (A : Option Addr) (n c : Nat) (F : Option Addr) (m d : Nat) (w : World) (lo hi lo' hi' : Nat) (hh : hi ≤ w.heap.size) (hh' : hi' ≤ w.heap.size) (hm : m ≤ 1000) (h : D.rd w lo hi (dObjects os) (.slice A n c)) (hf : D.rd w lo' hi' (intsD frm) (.slice F m d)) :
    Calls Try.prog 28 #[.slice A n c, .slice F m d] w fun e w' => MisR w (stoMis os frm) e w' := by
  have HI := Lib.hid h
  have HF := Lib.hid hf.ints
  have HN := Lib.hid h.len.1
  have hrow0 := Lib.hid (World.ownsRow_nil w w.heap.size 3 1)
  clear h hf
  go_enter Try.func28, Try.ntmps28
  go_wp2_with fail
  refine (implStoreValid_any os A n c w lo hi hh HI.out).mono ?_
  rintro e w1 ⟨rfl, hb1⟩
  have HB1 := Lib.hid hb1
  have HI1 := Lib.hid (HI.out.below hb1 hh)
  have HF1 := Lib.hid (HF.out.1)
  have HF2 := Lib.hid (HF.out.2.below hb1 hh')
  have hs1 := hb1.size
  have hfl : frm.length = m := HF.out.1
  clear hb1
  rcases hsv : storeB os with _ | _
  · have HSN := Lib.hid hsv
    go_wp2_with fail
    go_ret
    exact MisR.nil (stoMis_no (.inl HSN.out)) HB1.out
  · have HSV := Lib.hid hsv
    go_wp2_with fail
    refine (idsOk_any F m d frm w1 lo' hi' (by omega) ⟨hfl, HF2.out⟩).mono ?_
    rintro e w2 ⟨rfl, rfl⟩
    rcases hlb : linksB frm with _ | _
    · have HLN := Lib.hid hlb
      go_wp2_with fail
      go_ret
      exact MisR.nil (stoMis_no (.inr HLN.out)) HB1.out
    · have HLB := Lib.hid hlb
      go_wp2_with fail
      obtain ⟨p, hp⟩ : ∃ z, z = w1.heap.size := ⟨_, rfl⟩
      obtain ⟨w2, hw2⟩ : ∃ z, z = w1.alloc (.cells #[.slice A n c] 28) := ⟨_, rfl⟩
      have hb2 : Below w1.heap.size w1 w2 := by rw [hw2]; exact (Below.refl _ _).alloc (Nat.le_refl _) _
      have hx2 : w2.heap[p]? = some (.cells #[.slice A n c] 28 (0, 0)) := by rw [hw2, hp]; exact heap_alloc_new w1 _
      have hr2 := HI1.out.below hb2 (Nat.le_trans hh hs1)
      have HF3 := Lib.hid (HF2.out.below hb2 (Nat.le_trans hh' hs1))
      have hs2 := hb2.size
      have HB2 := Lib.hid (bel_tr HB1.out (Nat.le_refl _) hb2)
      obtain ⟨s1, s2, s3⟩ := (storeB_iff _).1 HSV.out
      have hk0 : w2.cell? ⟨p, 0, none⟩ = some (.slice A n c) := cell_of_row _ _ _ _ _ _ hx2
      have hcx : ∀ (j : Nat) (h : j < 1), w2.cell? ⟨p, j, none⟩ = some (.slice A n c) := fun j h => by
        obtain rfl : j = 0 := by omega
        exact hk0
      rw [← hw2, ← hp]
      refine (byId_any 1 p 1 (fun _ => A) (fun _ => n) (fun _ => c) (fun _ => os) (by omega) w2 lo hi (by omega) (hlt_of hx2) (fun _ => s1) (fun _ => by omega) (fun _ => hr2) hcx).mono ?_
      rintro e w3 ⟨rfl, hom, hb3⟩
      rw [byL_one (fun _ => os) s2] at hom
      have HOM := Lib.hid hom
      have HF4 := Lib.hid (HF3.out.below hb3 (by omega))
      have HB3 := Lib.hid (bel_tr HB2.out (Nat.le_refl _) hb3)
      have hs3 := hb3.size
      have hbl : w2.heap.size < w3.heap.size := by obtain ⟨_, _, h1, _⟩ := hom; exact h1.lt
      obtain ⟨b, hbb⟩ : ∃ z, z = w2.heap.size := ⟨_, rfl⟩
      rw [← hbb] at HOM hbl
      rw [← hbb]
      have hrng := idsB_mem (linksB_and HLB.out).1
      have HV := Lib.hid (fun (i : Int) (o : ObjD) (h : getO os i = some o) => s1 o (getO_some h).1)
      clear hb2 hx2 hr2 hw2 hp hk0 hcx hom hb3 hbb s1 s2
      go_wp2_with fail
      refine (reach_any (getO os) frm b F m d w3 lo hi lo' hi' (by omega) (by omega) hbl HV.out (by omega) hrng HOM.out ⟨hfl, HF4.out⟩).mono ?_
      rintro e w4 ⟨vs, vm, st, ms, hW, hos, hom, -, hb4, rfl⟩
      obtain ⟨e1, -, e2, -⟩ := reach_mis hW
      rw [e1, e2] at hom
      have HO4 := Lib.hid (own_low hom HB3.out.size)
      have HB4 := Lib.hid (bel_tr HB3.out (Nat.le_refl _) hb4)
      clear hos hom hb4 e1 e2 hW
      go_wp2_with fail
      go_ret
      rw [stoMis_yes HSV.out HLB.out]
      exact MisR.of_own HO4.out HB4.out

/-- byId of two lists -/
theorem byTwo_any (os l : List ObjD) (A : Option Addr) (n c : Nat) (Ax : Option Addr) (mx cx : Nat) (p X : Nat) (w : World) (lo hi : Nat) (hX : X = w.heap.size) (hh : hi ≤ w.heap.size) (hs : storeB os = true) (hl : storeB l = true) (h : D.rd w lo hi (dObjects os) (.slice A n c)) (h' : D.rd w lo hi (dObjects l) (.slice Ax mx cx))
    (hx : w.heap[p]? = some (.cells #[.slice A n c, .slice Ax mx cx] 28 (0, 0))) :
    Calls Try.prog 71 #[.slice (some ⟨p, 0, none⟩) 2 2] w fun e w' => e = .returned (.map (some X)) ∧ OMap w' lo hi X (getO (os ++ l)) ∧ Below w.heap.size w w' ∧ X < w'.heap.size := by
  subst hX
  obtain ⟨s1, s2, s3⟩ := (storeB_iff _).1 hs
  obtain ⟨q1, q2, q3⟩ := (storeB_iff _).1 hl
  have hoss : ∀ x : Fin 2, x = 0 ∨ x = 1 := fun x => by
    rcases x with ⟨v, hv⟩
    rcases v with _ | _ | v
    · exact .inl rfl
    · exact .inr rfl
    · omega
  have hcx : ∀ (j : Nat) (h : j < 2), w.cell? ⟨p, j, none⟩ = some (.slice ((fun x : Fin 2 => if x.val = 0 then A else Ax) ⟨j, h⟩) ((fun x : Fin 2 => if x.val = 0 then n else mx) ⟨j, h⟩) ((fun x : Fin 2 => if x.val = 0 then c else cx) ⟨j, h⟩)) := fun j h => by
    rcases j with _ | _ | j
    · exact cell_of_row _ _ _ _ _ _ hx
    · exact cell_of_row _ _ _ _ _ _ hx
    · omega
  have hb := byL_two (fun x : Fin 2 => if x.val = 0 then os else l) s2 q2
  refine (byId_any 2 p 2 (fun x => if x.val = 0 then A else Ax) (fun x => if x.val = 0 then n else mx) (fun x => if x.val = 0 then c else cx) (fun x => if x.val = 0 then os else l) (by omega) w lo hi hh (hlt_of hx) (fun x => ?_) (fun x => ?_) (fun x => ?_) hcx).mono ?_
  · rcases hoss x with rfl | rfl
    · exact s1
    · exact q1
  · rcases hoss x with rfl | rfl
    · show os.length ≤ 1000; omega
    · show l.length ≤ 1000; omega
  · rcases hoss x with rfl | rfl
    · exact h
    · exact h'
  · rintro e w3 ⟨rfl, hom, hb3⟩
    rw [hb] at hom
    exact ⟨rfl, hom, hb3, by obtain ⟨_, _, h1, _⟩ := hom; exact h1.lt⟩

open Classical in
/-- what QuarantineMissing answers -/
noncomputable def quaMis (q : QuaD) (t : Int) (frm : List Int) : List Int := if proIn q t = true ∧ linksB frm = true then misL (getO (q.main ++ areaL q.areas t)) frm else []
theorem quaMis_yes {q : QuaD} {t : Int} {frm : List Int} (h1 : proIn q t = true) (h2 : linksB frm = true) : quaMis q t frm = misL (getO (q.main ++ areaL q.areas t)) frm := by unfold quaMis; rw [if_pos ⟨h1, h2⟩]
theorem quaMis_no {q : QuaD} {t : Int} {frm : List Int} (h : proIn q t = false ∨ linksB frm = false) : quaMis q t frm = [] := by
  unfold quaMis
  rw [if_neg]
  rintro ⟨h1, h2⟩
  rcases h with h | h
  · rw [h] at h1; cases h1
  · rw [h] at h2; cases h2

set_option maxRecDepth 100000 in
set_option maxHeartbeats 3200000 in
theorem implQuaMissing_any (os : List ObjD) (zs : List AreaD) (t : Int) (frm : List Int) (A : Option Addr) (n c : Nat) (B : Option Addr) (m d : Nat) (F : Option Addr) (k e' : Nat) (w : World) (lo hi lo' hi' : Nat) (hh : hi ≤ w.heap.size) (hh' : hi' ≤ w.heap.size) (hk : k ≤ 1000) (h : D.rd w lo hi (dObjects os) (.slice A n c)) (h' : D.rd w lo hi (dAreas zs) (.slice B m d)) (hf : D.rd w lo' hi' (intsD frm) (.slice F k e')) :
    Calls Try.prog 23 #[.agg #[.slice A n c, .slice B m d], .int .i64 t, .slice F k e'] w fun e w' => MisR w (quaMis ⟨os, zs⟩ t frm) e w' := by
  obtain ⟨r, hr⟩ : ∃ r, r = w.heap.size := ⟨_, rfl⟩
  obtain ⟨w1, hw1⟩ : ∃ w1, w1 = w.alloc (.cells #[.slice A n c, .slice B m d] 31) := ⟨_, rfl⟩
  have hb1 : Below w.heap.size w w1 := by rw [hw1]; exact (Below.refl _ _).alloc (Nat.le_refl _) _
  have hx1 : w1.heap[r]? = some (.cells #[.slice A n c, .slice B m d] 31 (0, 0)) := by rw [hw1, hr]; exact heap_alloc_new w _
  have k0 : w1.cell? ⟨r, 0, none⟩ = some (.slice A n c) := cell_of_row _ _ _ _ _ _ hx1
  have k1 : w1.cell? ⟨r, 1, none⟩ = some (.slice B m d) := cell_of_row _ _ _ _ _ _ hx1
  have hrs : r < w1.heap.size := hltS hx1
  have HB1 := Lib.hid hb1
  have hh1 : hi ≤ w1.heap.size := Nat.le_trans hh hb1.size
  have hh1' : hi' ≤ w1.heap.size := Nat.le_trans hh' hb1.size
  have HJ1 := Lib.hid (h.below hb1 hh)
  have HI1 := Lib.hid (h'.below hb1 hh)
  have HF1 := Lib.hid (hf.below hb1 hh')
  have HN := Lib.hid h.len.1
  have HM := Lib.hid h'.len.1
  clear h h' hf hb1 hx1
  go_enter Try.func23, Try.ntmps23
  go_upto_region 1 with (fail)
  rw [← hw1, ← hr]
  clear hw1 hr
  go_wp2_with fail
  refine (implQuaValid_any os zs A n c B m d w1 lo hi hh1 HJ1.out HI1.out).mono ?_
  rintro e w2 ⟨rfl, hb2⟩
  have HB2 := Lib.hid (bel_tr HB1.out (Nat.le_refl _) hb2)
  have z0 : w2.cell? ⟨r, 0, none⟩ = some (.slice A n c) := (hb2.cell (p := ⟨r, 0, none⟩) hrs).trans k0
  have z1 : w2.cell? ⟨r, 1, none⟩ = some (.slice B m d) := (hb2.cell (p := ⟨r, 1, none⟩) hrs).trans k1
  have hrs2 : r < w2.heap.size := Nat.lt_of_lt_of_le hrs hb2.size
  have HJ2 := Lib.hid (HJ1.out.below hb2 hh1)
  have HI2 := Lib.hid (HI1.out.below hb2 hh1)
  have HF2 := Lib.hid (HF1.out.below hb2 hh1')
  have hh2 : hi ≤ w2.heap.size := Nat.le_trans hh1 hb2.size
  have hh2' : hi' ≤ w2.heap.size := Nat.le_trans hh1' hb2.size
  clear hb2 k0 k1
  rcases hv : quaB ⟨os, zs⟩ with _ | _
  · have HZ : Hid (proIn ⟨os, zs⟩ t = false) := Lib.hid (by unfold proIn; rw [hv]; rfl)
    clear hv
    go_wp2_with fail
    go_ret
    exact MisR.nil (quaMis_no (.inl HZ.out)) HB2.out
  · rcases ht : txnB t with _ | _
    · have HZ : Hid (proIn ⟨os, zs⟩ t = false) := Lib.hid (by unfold proIn; rw [ht]; simp)
      have HT := Lib.hid ht
      clear ht hv
      go_wp2_with (go_at_call 50; refine (isTxn_any t _).mono ?_; rintro e w' ⟨rfl, rfl⟩; rw [HT.out])
      go_ret
      exact MisR.nil (quaMis_no (.inl HZ.out)) HB2.out
    · have HIN : Hid (proIn ⟨os, zs⟩ t = true) := Lib.hid (by unfold proIn; rw [ht, hv]; rfl)
      have HT := Lib.hid ht
      obtain ⟨⟨v1, v2⟩, v3, v4⟩ := (quaB_iff _).1 hv
      dsimp only at v1 v2 v3 v4
      have hm4 : m ≤ 1000 := by rw [HM.out]; omega
      have hwf := wf_txn ht
      have HAV : Hid (∀ a ∈ zs, txnB a.txn = true ∧ storeB a.objs = true) := Lib.hid fun a ha => ⟨(v1 a ha).1, ((fullB_iff _).1 (v1 a ha).2).2⟩
      have HAA := Lib.hid v2
      have HSM : Hid (storeB os = true) := Lib.hid v3
      have HSA : Hid (storeB (areaL zs t) = true) := Lib.hid (areaL_store (q := ⟨os, zs⟩) hv t)
      have hfl : frm.length = k := HF2.out.ints.1
      clear ht hv v1 v2 v3 v4
      rcases hlb : linksB frm with _ | _
      · have HLN := Lib.hid hlb
        clear hlb
        go_wp2_with (first | (go_at_call 50; refine (isTxn_any t _).mono ?_; rintro e w' ⟨rfl, rfl⟩; rw [HT.out]) | (go_at_call 69; refine (idsOk_any F k e' frm w2 lo' hi' (by omega) HF2.out.ints).mono ?_; rintro e w' ⟨rfl, rfl⟩; rw [HLN.out]))
        go_ret
        exact MisR.nil (quaMis_no (.inr HLN.out)) HB2.out
      · have HLB := Lib.hid hlb
        clear hlb
        go_upto_region 3 with (first | (go_at_call 50; refine (isTxn_any t _).mono ?_; rintro e w' ⟨rfl, rfl⟩; rw [HT.out]) | (go_at_call 69; refine (idsOk_any F k e' frm w2 lo' hi' (by omega) HF2.out.ints).mono ?_; rintro e w' ⟨rfl, rfl⟩; rw [HLB.out]))
        have hne0 := World.new_ne w2 ⟨r, 0, none⟩ z0
        have HI2d : Hid (D.rd w2.drew lo hi (dAreas zs) (.slice B m d)) := Lib.hid HI2.out.drew
        have hh2d : hi ≤ w2.drew.heap.size := hh2
        have z0d := z0
        have hrng := idsB_mem (linksB_and HLB.out).1
        have HRG := Lib.hid hrng
        have HVM : Hid (∀ (i : Int) (o : ObjD), getO (os ++ areaL zs t) i = some o → objB o = true) := Lib.hid fun i o ho => by
          rcases List.mem_append.1 (getO_some ho).1 with h1 | h1
          · exact ((storeB_iff _).1 HSM.out).1 o h1
          · exact ((storeB_iff _).1 HSA.out).1 o h1
        clear hrng z0d
        go_region_held_law (fun w' => w'.cell? ⟨r, 0, none⟩ = some (.slice A n c) ∧ w'.cell? ⟨r, 1, none⟩ = some (.slice B m d)) (go_keep)
          (first
            | (go_at_call 52; refine (areas_any zs A n c B m d w2.drew lo hi hh2d HAV.out HAA.out hm4 HI2d.out).mono ?_; rintro e w3 ⟨b, hq3, hb3', rfl⟩; have hb3 : Below w2.heap.size w2 w3 := below_of_drew hb3'; have j0 : w3.cell? ⟨r, 0, none⟩ = some (.slice A n c) := (hb3.cell (p := ⟨r, 0, none⟩) hrs2).trans z0; have j1 : w3.cell? ⟨r, 1, none⟩ = some (.slice B m d) := (hb3.cell (p := ⟨r, 1, none⟩) hrs2).trans z1; obtain ⟨Ax, mx, cx, hask, hrx⟩ := hq3.ask hwf; have haskf : (Instr.lookup 76 (.map (some b)) (.int .i64 t) false).run Try.prog w3 = .ok (.slice Ax mx cx) w3 := hask false; have hs3 : w2.heap.size ≤ w3.heap.size := hb3.size; have hrs3 : r < w3.heap.size := Nat.lt_of_lt_of_le hrs2 hs3; have HX3 := Lib.hid (hrx.more (lo' := 0) (hi' := w3.heap.size) (Nat.zero_le _) (Nat.le_refl _)); have HJ3 := Lib.hid ((HJ2.out.below hb3 hh2).more (lo' := 0) (hi' := w3.heap.size) (Nat.zero_le _) (Nat.le_trans hh2 hs3)); have HF3 := Lib.hid (HF2.out.below hb3 hh2'); have HB3 := Lib.hid (bel_tr HB2.out (Nat.le_refl _) hb3); have hne3 := World.new_ne w3 ⟨r, 0, none⟩ j0; clear hask hrx hq3 hb3 hb3')
            | (go_at_call 71; refine (byTwo_any os (areaL zs t) A n c Ax mx cx w3.heap.size (w3.heap.size + 1) (w3.alloc (.cells #[.slice A n c, .slice Ax mx cx] 28)) 0 w3.heap.size (by simp) (by simp) HSM.out HSA.out (HJ3.out.alloc (Nat.le_refl _) _) (HX3.out.alloc (Nat.le_refl _) _) (heap_alloc_new w3 _)).mono ?_; rintro e w5 ⟨rfl, hom, hb5, hbl⟩; have HOM := Lib.hid hom; have HB5 := Lib.hid (bel_tr (HB3.out.alloc HB3.out.size (.cells #[.slice A n c, .slice Ax mx cx] 28)) (Nat.le_refl _) hb5); have HF5 := Lib.hid ((HF3.out.alloc (Nat.le_trans hh2' hs3) (.cells #[.slice A n c, .slice Ax mx cx] 28)).below hb5 (by simp; omega)); have hs5 := hb5.size; have y0 : w5.cell? ⟨r, 0, none⟩ = some (.slice A n c) := (hb5.cell (p := ⟨r, 0, none⟩) (by simp; omega)).trans ((World.cell?_alloc_lt w3 _ ⟨r, 0, none⟩ hrs3).trans j0); have y1 : w5.cell? ⟨r, 1, none⟩ = some (.slice B m d) := (hb5.cell (p := ⟨r, 1, none⟩) (by simp; omega)).trans ((World.cell?_alloc_lt w3 _ ⟨r, 1, none⟩ hrs3).trans j1); have hrs5 : r < w5.heap.size := (by rw [World.size_alloc] at hs5; omega); rw [World.size_alloc] at hs5; have hw3w5 : w3.heap.size ≤ w5.heap.size := (by omega); clear hom hb5)
            | (go_at_call 70; refine (reach_any (getO (os ++ areaL zs t)) frm (w3.heap.size + 1) F k e' w5 0 w3.heap.size lo' hi' hw3w5 (by omega) hbl HVM.out (by omega) HRG.out HOM.out ⟨hfl, HF5.out.ints.2⟩).mono ?_; rintro e w6 ⟨vs, vm, st, ms, hW, hos, hom, -, hb6, rfl⟩; obtain ⟨e1, -, e2, -⟩ := reach_mis hW; rw [e1, e2] at hom; have HO6 := Lib.hid (own_low hom HB5.out.size); have HB6 := Lib.hid (bel_tr HB5.out (Nat.le_refl _) hb6); have y0' : w6.cell? ⟨r, 0, none⟩ = some (.slice A n c) := (hb6.cell (p := ⟨r, 0, none⟩) hrs5).trans y0; have y1' : w6.cell? ⟨r, 1, none⟩ = some (.slice B m d) := (hb6.cell (p := ⟨r, 1, none⟩) hrs5).trans y1; clear hos hom hb6 e1 e2 hW))
        all_goals
          go_wp2_with fail
          go_ret
          have HQ := quaMis_yes HIN.out HLB.out
          dsimp only at HQ
          rw [HQ]
          exact MisR.of_own HO6.out HB6.out

end Go.Proofs.Ytgpjcmplnigmcaa
