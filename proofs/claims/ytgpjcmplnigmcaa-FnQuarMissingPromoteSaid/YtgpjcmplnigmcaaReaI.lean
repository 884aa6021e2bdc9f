/-
  The walk of the program's reach: what is reached and stored, what is reached and not stored. Condition: valid objects; few ids to begin with.
-/
import Derived.Test.YtgpjcmplnigmcaaRowR
import Derived.Test.YtgpjcmplnigmcaaReaS
namespace Go.Proofs.Ytgpjcmplnigmcaa
set_option linter.unusedVariables false
set_option linter.unusedSimpArgs false
open Go.RowKit

/-- the length of a slice -/
def lenV : Value → Nat
  | .slice _ n _ => n
  | _ => 0

theorem own_low {w : World} {base base' size n : Nat} {e : TypeId} {v : Value} {cs : List Value} (h : w.ownsRow base e size v n cs) (hb : base' ≤ base) : w.ownsRow base' e size v n cs := by
  refine ⟨h.1, ?_⟩
  rcases h.2 with h2 | ⟨g, cap, cur, h2, h3, h4⟩
  · exact .inl h2
  · exact .inr ⟨g, cap, cur, h2, Nat.le_trans hb h3, h4⟩

set_option maxRecDepth 100000 in
set_option maxHeartbeats 3200000 in
theorem reach_any (M : Int → Option ObjD) (frm : List Int) (b : Nat) (F : Option Addr) (m d : Nat) (w : World) (lo hi lo' hi' : Nat) (hh : hi ≤ w.heap.size) (hh' : hi' ≤ w.heap.size) (hb : b < w.heap.size) (hv : ∀ i o, M i = some o → objB o = true) (hl : frm.length ≤ 1000) (hr : ∀ x ∈ frm, 0 ≤ x ∧ x ≤ 990)
    (hm : OMap w lo hi b M) (hf : Ints w lo' hi' F m frm) :
    Calls Try.prog 70 #[.map (some b), .slice F m d] w fun e w' => ∃ vs vm st ms, WorkQ M frm [] st ms ∧ w'.ownsRow w.heap.size 3 1 vs st.length ((srt st).flatMap ci) ∧ w'.ownsRow w.heap.size 3 1 vm ms.length ((srt ms).flatMap ci) ∧
      (∀ g, vs.ownBlock = some g → vm.ownBlock ≠ some g) ∧ Below w.heap.size w w' ∧ e = .returned (.tuple #[vs, vm]) := by
  have hmm := @run_makeMap Try.prog
  have HM0 := Lib.hid hm
  have HF0 := Lib.hid hf
  have HV := Lib.hid hv
  have hm1 : m ≤ 1000 := by rw [← hf.1]; exact hl
  have HW0 := Lib.hid (WorkQ.start (M := M) hr)
  have HFL := Lib.hid hl
  clear hm hf hv hr hl
  go_enter Try.func70, Try.ntmps70
  go_wp2_with fail
  refine (cloneInt_row frm F m d _ lo' hi' (by simp; omega) (by omega) (HF0.out.alloc hh' _)).mono ?_
  rintro e w1 ⟨B, q, hown, hb1, rfl⟩
  obtain ⟨X, hX⟩ : ∃ X, X = w.heap.size := ⟨_, rfl⟩
  have hs1 : (w.alloc (.map #[] 0)).heap.size = X + 1 := by rw [hX]; simp
  rw [hs1] at hown hb1
  have hS0 : SeenR w1 X [] [] := by
    rw [hX]
    exact (SeenR.made w).kept (row := none) (by rw [← hs1] at hb1; exact grown_none hb1 none) (fun g e => by cases e)
  have hB0 : Below X w w1 := by
    rw [hX]
    exact ((Below.refl _ w).alloc (Nat.le_refl _) _).trans (hb1.mono (by omega))
  have hfl := HF0.out.1
  rw [← hfl] at hown
  have hR0 : RowsR w1 (X + 1) (.slice none 0 0) (.slice none 0 0) (.slice B frm.length q) [] [] frm :=
    ⟨World.ownsRow_nil w1 (X + 1) _ 1, World.ownsRow_nil w1 (X + 1) _ 1, QRow.of_own hown, (fun g hg => by cases hg), (fun g hg => by cases hg)⟩
  have HS0 := Lib.hid hS0
  have HB0 := Lib.hid hB0
  have HR0 := Lib.hid hR0
  subst hfl
  have HX := Lib.hid hX
  rw [← hX]
  clear hown hb1 hs1 hS0 hB0 hR0 hmm hX
  go_wp2_with fail
  go_loopw [4, 5, 7] (fun vs vm vq wr => ∃ qs st ms, Hid (WorkQ M frm qs st ms) ∧ qs.length ≤ 1000 + 4 * st.length ∧ Hid (RowsR wr (X + 1) vs vm vq st ms qs) ∧ Hid (SeenR wr X st ms) ∧ Hid (Below X w wr)) (fun vs vm vq _ => 5 * (991 - (lenV vs + lenV vm)) + lenV vq)
  case atStart => exact ⟨frm, [], [], HW0, by simp; omega, HR0, HS0, HB0⟩
  case round =>
    obtain ⟨qs, st, ms, HW, hql, HR, HS, HB⟩ := hrel
    have hl991 := HW.out.len
    have hXl : X < wr.heap.size := by
      obtain ⟨_, _, _, h, _⟩ := HS.out
      exact h.lt
    have hXw : X ≤ wr.heap.size := Nat.le_of_lt hXl
    obtain ⟨As, cs, rfl, hcs1, hcs2, -⟩ := Rd.of_own HR.out.1
    obtain ⟨Am, cm, rfl, hcm1, hcm2, -⟩ := Rd.of_own HR.out.2.1
    rcases qs with _ | ⟨x, qs⟩
    · obtain ⟨Aq, cq, rfl⟩ := HR.out.2.2.1.shape
      go_wp2_with fail
      refine (sortInt_g st As st.length cs (X + 1) wr (by omega) HR.out.1).mono ?_
      rintro e w2 ⟨rfl, hown2, hg2⟩
      have hm2 := HR.out.2.1.kept hg2 (ownNe fun q hq e => (HR.out.2.2.2.1 q e).1 hq)
      have HO2 := Lib.hid hown2
      have HM2 := Lib.hid hm2
      have HB2 : Hid (Below X w w2) := HB.out.grown hg2 hXw (fun q e => by have := (HR.out.1.lt q e).1; omega)
      have hs2 := hg2.size
      clear hown2 hm2 hg2
      go_wp2_with fail
      refine (sortInt_g ms Am ms.length cm (X + 1) w2 (by omega) HM2.out).mono ?_
      rintro e w3 ⟨rfl, hown3, hg3⟩
      have hm3 := HO2.out.kept hg3 (ownNe fun q hq e => (HR.out.2.2.2.1 q hq).1 e)
      have HO3 := Lib.hid hown3
      have HM3 := Lib.hid hm3
      have HB3 : Hid (Below X w w3) := HB2.out.grown hg3 (by omega) (fun q e => by have := (HM2.out.lt q e).1; omega)
      clear hown3 hm3 hg3
      go_wp2_with fail
      go_ret2
      rw [← HX.out]
      exact ⟨_, _, st, ms, HW.out, own_low HM3.out (by omega), own_low HO3.out (by omega), fun q hq => (HR.out.2.2.2.1 q hq).1, HB3.out, by rfl⟩
    · obtain ⟨Aq, cq, rfl⟩ := HR.out.2.2.1.shape
      obtain ⟨g, off, rfl, -, hnc, hcq, hcell, hrest, hblk⟩ := HR.out.2.2.1.rest
      obtain ⟨A2, c2, hv2⟩ := hrest.shape
      obtain ⟨l, hl⟩ : ∃ l, l = qs.length := ⟨_, rfl⟩
      have hl1 : (x :: qs).length = l + 1 := by rw [hl]; simp
      rw [hl1] at hnc hrest hblk hv2 HR hql
      rw [hl1]
      rw [hv2, ← hl] at hrest
      rw [hv2, ← hl] at hblk
      rw [← hl] at hv2
      unfold maxLen at hcq
      have HV3 : Hid (Value.slice (if cq = 1 then some ⟨g, off, none⟩ else some ⟨g, off + 1, none⟩) l (cq - 1) = .slice A2 l c2) := by show _ = _; rw [← hv2]; simp [sliced, Addr.add]
      have hx := HW.out.2.1 x (by simp)
      have hwf : (Lit.int .i64 x).wf = true := WalkArith.wf_i64 (by omega)
      have HR2 : Hid (RowsR wr (X + 1) (.slice As st.length cs) (.slice Am ms.length cm) (.slice A2 l c2) st ms qs) := Lib.hid (HR.out.cut hrest hblk)
      have hask := HS.out.ask hwf
      by_cases hse : x ∈ st ++ ms
      · have HW2 := Lib.hid (HW.out.seen hse)
        rw [decide_eq_true hse] at hask
        have HLq := Lib.hid hl
        clear hrest hblk hv2 hse hl hl1
        go_upto_region 6 with (fail)
        rw [HV3.out]
        go_wp2_with fail
        go_roundw
        case rel => exact ⟨qs, st, ms, HW2, by rw [← HLq.out]; omega, HR2, HS, HB⟩
        case measure => simp [lenV]
      · rw [decide_eq_false hse] at hask
        obtain ⟨w2, hrun, hS1, hS2, hg2⟩ := HS.out.put hwf (by omega)
        have HS1 := Lib.hid hS1
        have HS2 := Lib.hid hS2
        have HG2 := Lib.hid hg2
        have HR3 := Lib.hid (HR2.out.kept hg2 (fun q e => by injection e with e; omega))
        have hbX : b < X := by rw [HX.out]; exact hb
        have hhX : hi ≤ X := by rw [HX.out]; exact hh
        have HB2 : Hid (Below X w w2) := HB.out.grown hg2 hXw (fun q e => by injection e with e; omega)
        have hs2 := hg2.size
        have HM2 : Hid (OMap w2 lo hi b M) := (HM0.out.kept hh (grown_none (HX.out ▸ HB2.out) none) (fun q e => by cases e))
        obtain ⟨A3, n3, c3, hask2, hlk⟩ := HM2.out.ask hwf
        clear hrest hblk hv2 hS1 hS2 hg2
        rcases hMx : M x with _ | o
        · have HW2 := Lib.hid (HW.out.miss hse hMx)
          rw [hMx] at hask2
          have HLq := Lib.hid hl
          clear hse hMx hlk hl hl1
          go_upto_region 6 with (fail)
          rw [HV3.out]
          go_wp2_with (at_builtin; go_must (refine wpList_app_at Try.elI (m := 1) ((HR3.out.alloc _).alloc _).2.1 (rd_newn (w := w2.alloc (.cells #[.int .i64 0, .slice A3 n3 c3, .string ⟨#[]⟩] 58)) (n := w2.heap.size + 1) (by simp) [.int .i64 x] 3) rfl (by simp [Value.oneCell']) (by unfold maxLen; omega) (by omega) (by simp; omega) rfl rfl rfl rfl ?_); intro v4 w4 hown4 hg4 hat4; go_must (have HR4 := Lib.hid (((HR3.out.alloc _).alloc _).appM hown4 hg4 hat4)); go_must (have HS4 : Hid (SeenR w4 X st (ms ++ [x])) := ((HS2.out.kept (World.grownBy_alloc w2 _ none) (fun _ e => by cases e)).kept (World.grownBy_alloc _ _ none) (fun _ e => by cases e)).kept hg4 (fun q e => by have := (HR3.out.2.1.lt q e).1; omega)); go_must (have HB4 : Hid (Below X w w4) := ((HB2.out.alloc (by omega) _).alloc (by simp; omega) _).grown hg4 (by simp; omega) (fun q e => by have := (HR3.out.2.1.lt q e).1; omega)); go_must (obtain ⟨A4, c4, rfl, -⟩ := Rd.of_own hown4); clear hown4 hg4 hat4)
          go_roundw
          case rel => exact ⟨qs, st, ms ++ [x], HW2, by rw [← HLq.out]; omega, HR4, HS4, HB4⟩
          case measure => simp [lenV]; omega
        · have hob := HV.out x o hMx
          have hl4 : o.links.length ≤ 4 := (objB_and hob).2.1
          have HW2 := Lib.hid (HW.out.have_ hse hMx (link_rng hob))
          have HLK := Lib.hid (hlk o hMx)
          rw [hMx] at hask2
          simp only [Option.getD_some, Option.isSome_some] at hask2
          have HLq := Lib.hid hl
          have HOB := Lib.hid hob
          obtain ⟨p, hp⟩ : ∃ p, p = w2.heap.size := ⟨_, rfl⟩
          obtain ⟨w3, hw3⟩ : ∃ w3, w3 = w2.alloc (.cells #[.int .i64 o.kind, .slice A3 n3 c3, .string o.text] 58) := ⟨_, rfl⟩
          have HC3 : Hid (w3.heap[p]? = some (.cells #[.int .i64 o.kind, .slice A3 n3 c3, .string o.text] 58 (0, 0))) := by rw [hw3, hp]; exact heap_alloc_new w2 _
          have HR31 : Hid (RowsR w3 (X + 1) (.slice As st.length cs) (.slice Am ms.length cm) (.slice A2 l c2) st ms qs) := by rw [hw3]; exact HR3.out.alloc _
          have HS31 : Hid (SeenR w3 X (st ++ [x]) ms) := by rw [hw3]; exact HS1.out.kept (World.grownBy_alloc w2 _ none) (fun _ e => by cases e)
          have HB31 : Hid (Below X w w3) := by rw [hw3]; exact HB2.out.alloc (by omega) _
          have HLK3 : Hid (D.rd w3 lo hi (intsD o.links) (.slice A3 n3 c3)) := by rw [hw3]; exact HLK.out.alloc (by omega) _
          have hlp : p < w3.heap.size := by rw [hw3, hp]; simp
          have hxp : X < p := by rw [hp]; omega
          have hob2 : ∀ q, (Value.slice As st.length cs).ownBlock = some q → q < p := by
            intro q e; rw [hp]; exact (HR3.out.1.lt q e).2
          clear hse hMx hlk hl hl1 hob
          go_upto_region 9 with (fail)
          rw [HV3.out, ← hw3, ← hp]
          clear hw3 hp
          go_upto_region 12 with (at_builtin; go_must (refine wpList_app_at Try.elI (m := 1) (HR31.out.alloc _).1 (rd_newn (w := w3) (n := w3.heap.size) rfl [.int .i64 x] 3) rfl (by simp [Value.oneCell']) (by unfold maxLen; omega) (by omega) (by simp; omega) rfl rfl rfl rfl ?_); intro v4 w4 hown4 hg4 hat4; go_must (have HR4 := Lib.hid ((HR31.out.alloc _).appS hown4 hg4 hat4)); go_must (have HS4 : Hid (SeenR w4 X (st ++ [x]) ms) := (HS31.out.kept (World.grownBy_alloc w3 _ none) (fun _ e => by cases e)).kept hg4 (fun q e => by have := (HR31.out.1.lt q e).1; omega)); go_must (have HB4 : Hid (Below X w w4) := (HB31.out.alloc (by omega) _).grown hg4 (by simp; omega) (fun q e => by have := (HR31.out.1.lt q e).1; omega)); go_must (have hcell4 : w4.cell? ⟨p, 1, none⟩ = some (.slice A3 n3 c3) := (cell_grown hg4 (p := ⟨p, 1, none⟩) (by simp; omega) (fun e => by have := hob2 p e.symm; omega)).trans ((World.cell?_alloc_lt w3 _ ⟨p, 1, none⟩ hlp).trans (cell_of_row _ _ _ _ _ _ HC3.out))); go_must (have HLK4 : Hid (D.rd w4 lo hi (intsD o.links) (.slice A3 n3 c3)) := (HLK3.out.alloc (by omega) _).grown hg4 (by simp; omega) (fun q e => .inr (by have := (HR31.out.1.lt q e).1; omega))); have hs4 := hg4.size; go_must (obtain ⟨A4, c4, rfl, -⟩ := Rd.of_own hown4); clear hown4 hg4 hat4)
          have HIN := Lib.hid HLK4.out.ints
          have hX4 : X + 1 ≤ w4.heap.size := by rw [World.size_alloc] at hs4; omega
          go_wp2_with (at_builtin; go_must (refine wpList_app_q (ls := o.links) Try.elI HR4.out.2.2.1 HIN.out.2 HIN.out.1.symm (by rw [← HLq.out]; omega) hX4 rfl rfl rfl rfl ?_); intro v5 w5 hq5 hg5 hat5; go_must (have HR5 := Lib.hid (HR4.out.appQ hq5 hg5 hat5)); go_must (have HS5 : Hid (SeenR w5 X (st ++ [x]) ms) := HS4.out.kept hg5 (fun q e => by have := (HR4.out.2.2.1.lt q e).1; omega)); go_must (have HB5 : Hid (Below X w w5) := HB4.out.grown hg5 (by omega) (fun q e => by have := (HR4.out.2.2.1.lt q e).1; omega)); go_must (obtain ⟨A5, c5, rfl⟩ := hq5.shape); clear hq5 hg5 hat5)
          rw [List.length_append] at HR5
          have h99 := HW2.out.len
          rw [List.length_append, List.length_singleton] at h99
          go_roundw
          case rel => exact ⟨qs ++ o.links, st ++ [x], ms, HW2, by simp only [List.length_append, List.length_singleton]; rw [← HLq.out]; omega, HR5, HS5, HB5⟩
          case measure => simp only [lenV, List.length_append]; rw [← HLq.out]; omega

end Go.Proofs.Ytgpjcmplnigmcaa
