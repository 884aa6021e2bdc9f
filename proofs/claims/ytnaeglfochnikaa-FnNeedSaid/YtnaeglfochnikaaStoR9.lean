/-
  The walks of the program's StoreReach and StoreMissing: what is reached and stored, and what is reached and not stored. Condition: few ids to begin with.
-/
import Derived.Test.YtnaeglfochnikaaM12
import Derived.Deep.RegionHeldLaw
namespace Go.Proofs.Ytnaeglfochnikaa
set_option linter.unusedVariables false
set_option linter.unusedSimpArgs false
open Go.RowKit

/-- ids are handed back, or nil -/
def MisR (w : World) (ys : List Int) (e : Ending) (w' : World) : Prop :=
  ∃ A c, D.rd w' w.heap.size w'.heap.size (intsD ys) (.slice A ys.length c) ∧ Below w.heap.size w w' ∧ e = .returned (.slice A ys.length c)
theorem MisR.of_own {w w' : World} {ys : List Int} {v : Value} (h : w'.ownsRow w.heap.size 3 1 v ys.length (ys.flatMap ci)) (hb : Below w.heap.size w w') : MisR w ys (.returned v) w' := by
  obtain ⟨A, c, e, -⟩ := Rd.of_own h
  subst e
  exact ⟨A, c, (own_ints h).rd, hb, rfl⟩
theorem MisR.nil {w w' : World} {ys : List Int} (hy : ys = []) (hb : Below w.heap.size w w') : MisR w ys (.returned (.slice none 0 0)) w' := by
  subst hy
  exact MisR.of_own (World.ownsRow_nil w' w.heap.size _ 1) hb
theorem MisR.of_out {w w' : World} {ys : List Int} {v : Value} {e : Ending} (h : w'.ownsRow w.heap.size 3 1 v ys.length (ys.flatMap ci)) (hb : Below w.heap.size w w') (he : e = .returned v) : MisR w ys e w' := by
  subst he; exact MisR.of_own h hb

open Classical in
/-- what StoreReach answers -/
noncomputable def stoRea (os : List ObjD) (frm : List Int) : List Int := if storeB os = true ∧ linksB frm = true then stoL (getO os) frm else []
theorem stoRea_yes {os : List ObjD} {frm : List Int} (h1 : storeB os = true) (h2 : linksB frm = true) : stoRea os frm = stoL (getO os) frm := by unfold stoRea; rw [if_pos ⟨h1, h2⟩]
theorem stoRea_no {os : List ObjD} {frm : List Int} (h : storeB os = false ∨ linksB frm = false) : stoRea os frm = [] := by
  unfold stoRea
  rw [if_neg]
  rintro ⟨h1, h2⟩
  rcases h with h | h
  · rw [h] at h1; cases h1
  · rw [h] at h2; cases h2
set_option maxRecDepth 100000 in
set_option maxHeartbeats 3200000 in
theorem implStoReach_any (os : List ObjD) (frm : List Int) (A : Option Addr) (n c : Nat) (F : Option Addr) (m d : Nat) (w : World) (lo hi lo' hi' : Nat) (hh : hi ≤ w.heap.size) (hh' : hi' ≤ w.heap.size) (hm : m ≤ 1000) (h : D.rd w lo hi (dObjects os) (.slice A n c)) (hf : D.rd w lo' hi' (intsD frm) (.slice F m d)) :
    Calls Try.prog 20 #[.slice A n c, .slice F m d] w fun e w' => MisR w (stoRea os frm) e w' := by
  have HI := Lib.hid h
  have HF := Lib.hid hf.ints
  have HN := Lib.hid h.len.1
  have hrow0 := Lib.hid (World.ownsRow_nil w w.heap.size 3 1)
  clear h hf
  go_enter Try.func20, Try.ntmps20
  go_wp2_with fail
  refine (implStoreValid_any os A n c w lo hi hh HI.out).mono ?_
  rintro e w1 ⟨rfl, hb1⟩
  have HB1 := Lib.hid hb1
  have HI1 := Lib.hid (HI.out.below hb1 hh)
  have HF1 := Lib.hid (HF.out.1)
  have HF2 := Lib.hid (HF.out.2.below hb1 hh')
  have hs1 := hb1.size
  have hfl : frm.length = m := HF.out.1
  clear hb1
  rcases hsv : storeB os with _ | _
  · have HSN := Lib.hid hsv
    go_wp2_with fail
    go_ret
    exact MisR.nil (stoRea_no (.inl HSN.out)) HB1.out
  · have HSV := Lib.hid hsv
    go_wp2_with fail
    refine (idsOk_any F m d frm w1 lo' hi' (by omega) ⟨hfl, HF2.out⟩).mono ?_
    rintro e w2 ⟨rfl, rfl⟩
    rcases hlb : linksB frm with _ | _
    · have HLN := Lib.hid hlb
      go_wp2_with fail
      go_ret
      exact MisR.nil (stoRea_no (.inr HLN.out)) HB1.out
    · have HLB := Lib.hid hlb
      go_wp2_with fail
      obtain ⟨p, hp⟩ : ∃ z, z = w1.heap.size := ⟨_, rfl⟩
      obtain ⟨w2, hw2⟩ : ∃ z, z = w1.alloc (.cells #[.slice A n c] 27) := ⟨_, rfl⟩
      have hb2 : Below w1.heap.size w1 w2 := by rw [hw2]; exact (Below.refl _ _).alloc (Nat.le_refl _) _
      have hx2 : w2.heap[p]? = some (.cells #[.slice A n c] 27 (0, 0)) := by rw [hw2, hp]; exact heap_alloc_new w1 _
      have hr2 := HI1.out.below hb2 (Nat.le_trans hh hs1)
      have HF3 := Lib.hid (HF2.out.below hb2 (Nat.le_trans hh' hs1))
      have hs2 := hb2.size
      have HB2 := Lib.hid (bel_tr HB1.out (Nat.le_refl _) hb2)
      obtain ⟨s1, s2, s3⟩ := (storeB_iff _).1 HSV.out
      have hk0 : w2.cell? ⟨p, 0, none⟩ = some (.slice A n c) := cell_of_row _ _ _ _ _ _ hx2
      have hcx : ∀ (j : Nat) (h : j < 1), w2.cell? ⟨p, j, none⟩ = some (.slice A n c) := fun j h => by
        obtain rfl : j = 0 := by omega
        exact hk0
      rw [← hw2, ← hp]
      refine (byId_any 1 p 1 (fun _ => A) (fun _ => n) (fun _ => c) (fun _ => os) (by omega) w2 lo hi (by omega) (hltS hx2) (fun _ => s1) (fun _ => by omega) (fun _ => hr2) hcx).mono ?_
      rintro e w3 ⟨rfl, hom, hb3⟩
      rw [byL_one (fun _ => os) s2] at hom
      have HOM := Lib.hid hom
      have HF4 := Lib.hid (HF3.out.below hb3 (by omega))
      have HB3 := Lib.hid (bel_tr HB2.out (Nat.le_refl _) hb3)
      have hs3 := hb3.size
      have hbl : w2.heap.size < w3.heap.size := by obtain ⟨_, _, h1, _⟩ := hom; exact h1.lt
      obtain ⟨b, hbb⟩ : ∃ z, z = w2.heap.size := ⟨_, rfl⟩
      rw [← hbb] at HOM hbl
      rw [← hbb]
      have hrng := idsB_mem (linksB_and HLB.out).1
      have HV := Lib.hid (fun (i : Int) (o : ObjD) (h : getO os i = some o) => s1 o (getO_some h).1)
      clear hb2 hx2 hr2 hw2 hp hk0 hcx hom hb3 hbb s1 s2
      go_wp2_with fail
      refine (reach_any (getO os) frm b F m d w3 lo hi lo' hi' (by omega) (by omega) hbl HV.out (by omega) hrng HOM.out ⟨hfl, HF4.out⟩).mono ?_
      rintro e w4 ⟨vs, vm, st, ms, hW, hos, hom, -, hb4, rfl⟩
      obtain ⟨-, e1, -, e2⟩ := reach_mis hW
      rw [e1, e2] at hos
      have HO4 := Lib.hid (own_low hos HB3.out.size)
      have HB4 := Lib.hid (bel_tr HB3.out (Nat.le_refl _) hb4)
      clear hos hom hb4 e1 e2 hW
      go_wp2_with fail
      go_ret
      rw [stoRea_yes HSV.out HLB.out]
      exact MisR.of_own HO4.out HB4.out


end Go.Proofs.Ytnaeglfochnikaa
