/-
  For every code: ShardDecide of a drawn shard answers as the reference, and a commit is the last of the committed transactions. No condition.
-/
import Derived.Test.YtgnhanbdfohjaaaK6
namespace Go.Proofs.Ytgnhanbdfohjaaa.fnCommittedAdd
set_option linter.unusedVariables false
set_option linter.unusedSimpArgs false
open Go.ChangeShapes Go.WideShapes Go.ChangeAt Go.RowKit

set_option maxRecDepth 100000 in
set_option maxHeartbeats 40000000 in
theorem walk (a0 : Option Addr) (len0 cap0 : Nat) (z0 : List Int) (w : World) (w0 : IsRow .u8 w a0 len0 cap0 z0) :
    Calls Try.prog 12 #[.slice a0 len0 cap0] w fun e w' => e = .returned (.bool true) ∧ Below w.heap.size w w' := by
  have hn := w0.bd
  have HI := Lib.hid w0
  clear w0
  by_cases hbig : 1048576 < len0
  · go_enter Try.func12, Try.ntmps12
    go_wp2
    go_ret
    exact ⟨rfl, Below.refl _ _⟩
  · have hs_len0 : len0 ≤ 1048576 := by omega
    clear hbig
    go_enter Try.func12, Try.ntmps12
    go_wp2_with fail
    refine (drawShardDecide_any _ _ _ z0 _ HI.out).mono ?_
    rintro e w1 ⟨A, n, c, rs, t, commit, ⟨hd, hrec, hnc, hcm, hn31, hn4, hb1⟩, rfl⟩
    have HC := Lib.hid (calm_drawn hd)
    have HN4 : Hid (∀ r ∈ rs, r.n ≤ 4) := hn4
    have HN : Hid (∀ r ∈ rs, r.n ≤ 1000) := fun r hr => Nat.le_trans (hn4 r hr) (by omega)
    have HX1 := Lib.hid (Bx.mk0 (c := c) hrec)
    have HB1 : Hid (Below w.heap.size w (w1.alloc (.cells #[.slice A n c] 25))) := hb1.alloc hb1.size _
    clear hd hrec hn4 hb1
    go_wp2_with fail
    refine (implDecide_any commit A n c rs t _ w.heap.size (by omega) hnc hcm HN.out HB1.out.size HX1.out.recs HC.out).mono ?_
    rintro e w2 ⟨v2, n2, rs2, hab2, hro2, hb2, rfl⟩
    obtain ⟨A2, c2, rfl, hnc2, hcm2, hrec2⟩ := hro2.recs
    have HAB2 := Lib.hid hab2
    have hn2 : n2 ≤ 32 := dec_n hab2 hrec2 HX1.out.recs hn31
    have HN2 := Lib.hid (dec_ns hab2 hrec2 HX1.out.recs HN4.out)
    have HX2 := Lib.hid ((HX1.out.bel hb2).alloc (.cells #[.slice A2 n2 c2] 25))
    have HO2 := Lib.hid (Bx.mk0 (c := c2) (hrec2.low (lo' := w.heap.size) HB1.out.size))
    have HB2 : Hid (Below w.heap.size w (w2.alloc (.cells #[.slice A2 n2 c2] 25))) := (below_tr HB1.out (Nat.le_refl _) hb2).alloc (below_tr HB1.out (Nat.le_refl _) hb2).size _
    have p2 := (HX1.out.bel hb2).cell
    have l2 := (HX1.out.bel hb2).lt
    clear hab2 hro2 hrec2 hb2
    go_wp2_with fail
    refine (specDecide_any commit A n c rs t _ w.heap.size (by omega) hnc hcm HN.out HB2.out.size HX2.out.recs).mono ?_
    rintro e w3 ⟨v3, n3, rs3, hab3, hro3, hb3, rfl⟩
    obtain ⟨A3, c3, rfl, hnc3, hcm3, hrec3⟩ := hro3.recs
    obtain rfl : n3 = n2 := abs_n (hab3.trans HAB2.out.symm) hrec3 HO2.out.recs
    have HE3 := Lib.hid (HAB2.out.trans hab3.symm)
    have HX3 := Lib.hid ((HX2.out.bel hb3).alloc (.cells #[.slice A3 n3 c3] 25))
    have HO3 := Lib.hid ((HO2.out.bel hb3).alloc (.cells #[.slice A3 n3 c3] 25))
    have HT3 := Lib.hid (Bx.mk0 (c := c3) (hrec3.low (lo' := w.heap.size) HB2.out.size))
    have HB3 : Hid (Below w.heap.size w (w3.alloc (.cells #[.slice A3 n3 c3] 25))) := (below_tr HB2.out (Nat.le_refl _) hb3).alloc (below_tr HB2.out (Nat.le_refl _) hb3).size _
    have p3 := (HX2.out.bel hb3).cell
    have l3 := (HX2.out.bel hb3).lt
    have q3 := (HO2.out.bel hb3).cell
    have m3 := (HO2.out.bel hb3).lt
    have hq : (decB (abs rs) t commit != decB (abs rs) t commit) = false := by simp
    have hq2 : (decB (abs rs) t commit == decB (abs rs) t commit) = true := by simp
    clear hab3 hro3 hrec3 hb3
    go_wp2_with fail
    refine (sameShard_any A2 A3 n3 c2 c3 rs2 rs3 _ w.heap.size w.heap.size (by omega) HN2.out HE3.out HO3.out.recs HT3.out.recs).mono ?_
    rintro e w4 ⟨rfl, hb4⟩
    have HX4 := Lib.hid (HX3.out.bel hb4)
    have HO4 := Lib.hid (HO3.out.bel hb4)
    have HT4 := Lib.hid (HT3.out.bel hb4)
    have HB4 := Lib.hid (below_tr HB3.out (Nat.le_refl _) hb4)
    have p4 := HX4.out.cell
    have l4 := HX4.out.lt
    have q4 := HO4.out.cell
    have m4 := HO4.out.lt
    have t4 := HT4.out.cell
    have n4 := HT4.out.lt
    clear hb4 HX1 HB1 HX2 HO2 HB2 p2 l2 HX3 HO3 HT3 HB3 p3 l3 q3 m3
    rcases hv : decB (abs rs) t commit with _ | _
    · simp only [hv] at hq hq2
      go_wp2_with fail
      refine (sameShard_any A2 A3 n3 c2 c3 rs2 rs3 _ w.heap.size w.heap.size (by omega) HN2.out HE3.out HO4.out.recs HT4.out.recs).mono ?_
      rintro e w9 ⟨rfl, hb9⟩
      have HB9 := Lib.hid (below_tr HB4.out (Nat.le_refl _) hb9)
      go_wp2_with fail
      go_ret
      exact ⟨rfl, HB9.out⟩
    rcases commit with _ | _
    · simp only [hv] at hq hq2
      go_wp2_with fail
      refine (sameShard_any A2 A3 n3 c2 c3 rs2 rs3 _ w.heap.size w.heap.size (by omega) HN2.out HE3.out HO4.out.recs HT4.out.recs).mono ?_
      rintro e w9 ⟨rfl, hb9⟩
      have HB9 := Lib.hid (below_tr HB4.out (Nat.le_refl _) hb9)
      go_wp2_with fail
      go_ret
      exact ⟨rfl, HB9.out⟩
    · simp only [hv] at hq hq2
      obtain ⟨h1, h2, h3, h4⟩ := dec_ok hv
      have HV1 := Lib.hid h1
      have HV2 := Lib.hid h2
      have HDB := Lib.hid hv
      clear h1 h2 h3 h4
      go_wp2_with fail
      refine (specAsk_any A n c rs t _ w.heap.size hnc hcm HB4.out.size HX4.out.recs).mono ?_
      rintro e w5 ⟨rfl, hb5⟩
      have HX5 := Lib.hid (HX4.out.bel hb5)
      have HO5 := Lib.hid (HO4.out.bel hb5)
      have HT5 := Lib.hid (HT4.out.bel hb5)
      have HB5 := Lib.hid (below_tr HB4.out (Nat.le_refl _) hb5)
      have p5 := HX5.out.cell
      have l5 := HX5.out.lt
      have q5 := HO5.out.cell
      have m5 := HO5.out.lt
      have t5 := HT5.out.cell
      have n5 := HT5.out.lt
      clear hb5 HX4 HO4 HT4 HB4 p4 l4 q4 m4 t4 n4
      obtain ⟨x, hx⟩ : ∃ x, askV (abs rs) t = x := ⟨_, rfl⟩
      rw [hx]
      by_cases hx1 : x = 1
      · subst hx1
        have hak : askK (abs rs) t = 1 := by rw [askV_yes HV1.out HV2.out] at hx; exact hx
        obtain ⟨d1, d2, d3, d4, d5⟩ := dec_commit HV1.out HV2.out hak HDB.out
        have HE : Hid (abs rs2 = abs rs ++ [⟨2, t, []⟩]) := HAB2.out.trans d1
        have HVO := Lib.hid d2
        have HAK := Lib.hid d3
        have HCM := Lib.hid d4
        have HLK := Lib.hid d5
        have HCO : Hid (Calm (abs rs2)) := calm_valid (by rw [HE.out]; exact recov_valid d2)
        clear hak hx d1 d2 d3 d4 d5
        have HXL := Lib.hid HX5.out.recs.1.1
        have HCM2 : Hid (comV (abs rs2) = comV (abs rs) ++ [t]) := by show _ = _; rw [HE.out]; exact HCM.out
        have HNY : Hid (comV (abs rs2) ≠ []) := Lib.hid (by rw [HCM2.out]; simp)
        have tok1 : True := trivial
        go_wp2_with fail
        go_region_held_law (fun w' => w'.cell? ⟨w2.heap.size, 0, none⟩ = some (.slice A2 n3 c2) ∧ w'.cell? ⟨w1.heap.size, 0, none⟩ = some (.slice A n c)) (go_keep)
          (first
            | (have _t := tok1; go_simp; go_at_call 23; refine (implCommitted_any A2 n3 c2 rs2 _ w.heap.size (by omega) hnc2 hcm2 (by (repeat' (first | with_reducible refine Recs.alloc ?_ _ | with_reducible refine recs_dr ?_ | with_reducible exact HO5.out.recs))) HCO.out).mono ?_; rintro e w6 ⟨D, md, cd, rfl, hmd, hcd, hF6, hb6'⟩; have hb6 : Below w5.heap.size w5 w6 := (by first | exact hb6' | exact bel_drew hb6' | exact bel_alloc (bel_drew hb6') | exact bel_alloc (bel_alloc (bel_drew hb6')) | exact bel_alloc hb6' | exact bel_alloc (bel_alloc hb6')); have hs6 := hb6.size; have HK6 := Lib.hid (keep_of hb6'); have HDB := Lib.hid (dblock HCM2.out hF6); have HX6 := Lib.hid (HX5.out.bel hb6); have HO6 := Lib.hid (HO5.out.bel hb6); have HB6 := Lib.hid (below_tr HB5.out (Nat.le_refl _) hb6); have p6 := HX6.out.cell; have l6 := HX6.out.lt; have q6 := HO6.out.cell; have m6 := HO6.out.lt; have HF6 := Lib.hid hF6; have tok2 : True := trivial; clear tok1 hb6' hb6 hF6; dsimp only)
            | (have _t := tok2; go_simp; go_at_call 23; refine (implCommitted_any A n c rs _ w.heap.size (by omega) hnc hcm (by (repeat' (first | with_reducible refine Recs.alloc ?_ _ | with_reducible refine recs_dr ?_ | with_reducible exact HX6.out.recs))) HC.out).mono ?_; rintro e w7 ⟨G, mg, cg, rfl, hmg, hcg, hF7, hb7'⟩; obtain rfl : md = mg + 1 := (by rw [← HF6.out.1, ← hF7.1, HCM2.out, List.length_append]; rfl); have hb7 : Below w6.heap.size w6 w7 := (by first | exact hb7' | exact bel_drew hb7' | exact bel_alloc (bel_drew hb7') | exact bel_alloc (bel_alloc (bel_drew hb7')) | exact bel_alloc hb7' | exact bel_alloc (bel_alloc hb7')); have hs7 := hb7.size; have hs57 : w5.heap.size ≤ w7.heap.size := (by omega); have HK7 := Lib.hid (keep_of hb7'); have p7 := (HX6.out.bel hb7).cell; have l7 := (HX6.out.bel hb7).lt; have q7 := (HO6.out.bel hb7).cell; have m7 := (HO6.out.bel hb7).lt; have HB7 := Lib.hid (below_tr HB6.out (Nat.le_refl _) hb7); have HD7 := Lib.hid (HF6.out.bel hb7); have HF7 := Lib.hid hF7; have hmgl : mg ≤ 31 := (by have h1 := hF7.1; have h2 := comV_len (abs rs); rw [abs_len, HXL.out] at h2; omega); have tok3 : True := trivial; clear tok2 hb7' hb7 hF7; dsimp only)
            | (have _t := tok3; refine step_lit (w7 := w7) (base := w5.heap.size) (t := t) (by (repeat' (first | with_reducible refine bel_alX ?_ _ | with_reducible refine bel_drX ?_ | with_reducible exact Below.refl _ _))) (by (repeat' (first | (with_reducible refine heap_new' ?_; simp only [World.size_alloc, size_dr]; done) | with_reducible refine heap_keep ?_ | with_reducible refine heap_keep_drew ?_ | with_reducible refine HK7.out _ _ ?_ | with_reducible refine HK6.out _ _ ?_))) (by first | omega | ((repeat' (first | with_reducible refine le_al ?_ | with_reducible refine le_dr ?_ | with_reducible exact Nat.le_refl _ | with_reducible exact hs6 | with_reducible exact hs57)); done) | (simp only [World.size_alloc, size_dr]; omega)) HF7.out (by omega) hs57 HD7.out HNY.out rfl rfl rfl rfl ?_; intro A9 c9 w9 hown9 hD9 hne9 hb9 hk9; have HO9 := Lib.hid hown9; have HD9 := Lib.hid hD9; have HNE9 := Lib.hid hne9; have HK9 := Lib.hid hk9; have hs9 : w7.heap.size ≤ w9.heap.size := hb9.size; have hs59 : w5.heap.size ≤ w9.heap.size := (by omega); have p9 : w9.cell? ⟨w1.heap.size, 0, none⟩ = some (.slice A n c) := (hb9.cell (p := ⟨w1.heap.size, 0, none⟩) l5).trans p7; have q9 : w9.cell? ⟨w2.heap.size, 0, none⟩ = some (.slice A2 n3 c2) := (hb9.cell (p := ⟨w2.heap.size, 0, none⟩) m5).trans q7; have l9 : w1.heap.size < w9.heap.size := (by omega); have m9 : w2.heap.size < w9.heap.size := (by omega); have HB9 : Hid (Below w.heap.size w w9) := Lib.hid (HB7.out.trans (hb9.mono HB5.out.size)); have tok4 : True := trivial; clear tok3 hown9 hD9 hne9 hb9 hk9; go_simp)
            | (have _t := tok4; refine step_last (w9 := w9) (base := w5.heap.size) (by (repeat' (first | with_reducible refine bel_alX ?_ _ | with_reducible refine bel_drX ?_ | with_reducible exact Below.refl _ _))) (by (repeat' (first | (with_reducible refine heap_new' ?_; simp only [World.size_alloc, size_dr]; done) | with_reducible refine heap_keep ?_ | with_reducible refine heap_keep_drew ?_ | with_reducible refine HK9.out _ ?_ | with_reducible refine HK7.out _ _ ?_ | with_reducible refine HK6.out _ _ ?_))) HO9.out (by omega) hs59 HD9.out HNE9.out rfl rfl rfl rfl ?_; intro A10 c10 w10 hF10 hD10 hb10; have HF10 : Hid (FlH ci w10 w5.heap.size A10 (mg + 1) (comV (abs rs2))) := Lib.hid (by rw [HCM2.out]; exact hF10); have HD10 := Lib.hid hD10; have hs10 : w9.heap.size ≤ w10.heap.size := hb10.size; have p10 : w10.cell? ⟨w1.heap.size, 0, none⟩ = some (.slice A n c) := (hb10.cell (p := ⟨w1.heap.size, 0, none⟩) l5).trans p9; have q10 : w10.cell? ⟨w2.heap.size, 0, none⟩ = some (.slice A2 n3 c2) := (hb10.cell (p := ⟨w2.heap.size, 0, none⟩) m5).trans q9; have l10 : w1.heap.size < w10.heap.size := (by omega); have m10 : w2.heap.size < w10.heap.size := (by omega); have HB10 : Hid (Below w.heap.size w w10) := Lib.hid (HB9.out.trans (hb10.mono HB5.out.size)); have tok5 : True := trivial; clear tok4 hF10 hD10 hb10; go_simp)
            | (have _t := tok5; go_simp; go_at_call 21; refine (sameInts_any D A10 (mg + 1) cd c10 (comV (abs rs2)) _ _ _ _ _ (by omega) (by first | exact HD10.out | exact FlH.alloc HD10.out _ | exact fl_dr HD10.out) (by first | exact HF10.out | exact FlH.alloc HF10.out _ | exact fl_dr HF10.out)).mono ?_; rintro e w11 ⟨rfl, q11, rfl⟩; have HB11 := Lib.hid (below_draw HB10.out q11); clear tok5; dsimp only))
        all_goals
          go_wp2_with fail
          go_ret
          exact ⟨rfl, HB11.out⟩
      · have hxb : (x != 1) = true := by simpa using hx1
        clear hx
        go_wp2_with fail
        refine (sameShard_any A2 A3 n3 c2 c3 rs2 rs3 _ w.heap.size w.heap.size (by omega) HN2.out HE3.out HO5.out.recs HT5.out.recs).mono ?_
        rintro e w9 ⟨rfl, hb9⟩
        have HB9 := Lib.hid (below_tr HB5.out (Nat.le_refl _) hb9)
        go_wp2_with fail
        go_ret
        exact ⟨rfl, HB9.out⟩

set_option linter.unusedVariables false
set_option maxRecDepth 100000 in
theorem lifted (os : Os) (started : os.Started) (H : Type) (enc : TypeId × Value → H) :
    ReturnsInHanded {} Try.checked os 12 .any (Rows.fnCommittedAddSpec.pre6 enc Try.prog Try.f12 Rows.fnCommittedAddRow.domain false) (Rows.fnCommittedAddSpec.post enc Try.prog Try.f12 false true false false) := by
  refine returnsInHanded_of_change (C := Try.checked) Try.own started (by kernel_rfl) Try.func12
    (ChangeSpec.witness6 (enc := enc) (C := Try.checked) false ⟨#[], #[.slice none 0 0], []⟩ 8 (by kernel_rfl) (by kernel_rfl) (by kernel_rfl) (by kernel_rfl)) ?_
  intro W base args ds gs before hval0 hW hcnd _
  have hval : ∀ (j : Nat) t v, Try.f12.params[j]? = some t → args[j]? = some v → Value.okWide Try.prog W .any base t v := hval0
  have hW' := hW
  obtain ⟨p, q, hA0, hV, rfl, hfz, hnd⟩ := hW
  have hA : DataW.TrodAll enc Try.prog W 0 (fun _ => true) true Try.f12.params.toList args.toList ds p := hA0
  rw [Try.params12] at hA hval
  obtain ⟨v0, vs0, d0, ds0, p0, q0, hargs, rfl, rfl, h0, r0⟩ := trodAll_cons hA
  obtain ⟨rfl, rfl, rfl⟩ := trodAll_nil r0
  obtain rfl : args = #[v0] := by cases args; simp_all
  obtain ⟨rfl, rfl⟩ := trodVars_none hV
  have k0 := h0
  have lt0 : ∀ x ∈ p0, x.block < W.heap.size := by obtain ⟨m, hm⟩ := k0; exact DataW.trod_lt m _ _ _ hm
  obtain ⟨a0, len0, cap0, rfl⟩ := okWide_slice Try.underlying22 (hval 0 22 v0 rfl rfl)
  obtain ⟨z0, w0⟩ := open_row (k := .u8) Try.underlying22 Try.underlying5 (by kernel_rfl) h0 (fun _ => rfl)
  clear hA0 hval0
  refine (walk a0 len0 cap0 z0 W w0).mono fun e W' ⟨he, bel⟩ => ?_
  subst he
  exact ⟨_, rfl, _, _, _, [], _, [], hW', trodAll_mk1 (shut_bool Try.underlying4 _), (trodAll_cons_mk (Below.trod Try.laidOut (by kernel_rfl) (of_decide_eq_true (by kernel_rfl)) k0 bel lt0) trodAll_mk0), rfl, bel.frame _, fun h => by cases h⟩

theorem proved : Rows.FnCommittedAddSaid :=
  OpenClaim.holds_of_wide 12 Try.f12 rfl rfl rfl rfl rfl rfl rfl ⟨rfl, rfl, rfl, rfl, rfl⟩ rfl rfl rfl rfl rfl (by kernel_rfl) Try.func12 (by kernel_rfl)
    (of_decide_eq_true (by kernel_rfl)) (by unfold Func.isWrapper; first | (rw [if_pos (by decide +kernel)]; kernel_rfl) | (rw [if_neg (by decide +kernel)]; exact ⟨rfl, rfl⟩))
    (fun os started H enc _ => lifted os started H enc)

#print axioms proved
end Go.Proofs.Ytgnhanbdfohjaaa.fnCommittedAdd
