/-
  For every code: ShardDecide of a drawn shard answers as the reference, and a commit performs the updates and frees the refs. No condition.
-/
import Derived.Test.YtgnhanbdfohjaaaLawD
namespace Go.Proofs.Ytgnhanbdfohjaaa.fnDecide
set_option linter.unusedVariables false
set_option linter.unusedSimpArgs false
open Go.ChangeShapes Go.WideShapes Go.ChangeAt Go.RowKit

set_option maxRecDepth 100000 in
set_option maxHeartbeats 1600000 in
theorem walk (a0 : Option Addr) (len0 cap0 : Nat) (z0 : List Int) (w : World) (w0 : IsRow .u8 w a0 len0 cap0 z0) :
    Calls Try.prog 11 #[.slice a0 len0 cap0] w fun e w' => e = .returned (.bool true) ∧ Below w.heap.size w w' := by
  have hn := w0.bd
  have HI := Lib.hid w0
  clear w0
  by_cases hbig : 1048576 < len0
  · go_enter Try.func11, Try.ntmps11
    go_wp2
    go_ret
    exact ⟨rfl, Below.refl _ _⟩
  · have hs_len0 : len0 ≤ 1048576 := by omega
    clear hbig
    go_enter Try.func11, Try.ntmps11
    go_wp2_with fail
    refine (drawShardDecide_any _ _ _ z0 _ HI.out).mono ?_
    rintro e w1 ⟨A, n, c, rs, t, commit, ⟨hd, hrec, hnc, hcm, hn31, hn4, hb1⟩, rfl⟩
    have HC := Lib.hid (calm_drawn hd)
    have HN4 : Hid (∀ r ∈ rs, r.n ≤ 4) := hn4
    have HN : Hid (∀ r ∈ rs, r.n ≤ 1000) := fun r hr => Nat.le_trans (hn4 r hr) (by omega)
    have HX1 := Lib.hid (Bx.mk0 (c := c) hrec)
    have HB1 : Hid (Below w.heap.size w (w1.alloc (.cells #[.slice A n c] 25))) := hb1.alloc hb1.size _
    clear hd hrec hn4 hb1
    go_wp2_with fail
    refine (implDecide_any commit A n c rs t _ w.heap.size (by omega) hnc hcm HN.out HB1.out.size HX1.out.recs HC.out).mono ?_
    rintro e w2 ⟨v2, n2, rs2, hab2, hro2, hb2, rfl⟩
    obtain ⟨A2, c2, rfl, hnc2, hcm2, hrec2⟩ := hro2.recs
    have HAB2 := Lib.hid hab2
    have hn2 : n2 ≤ 32 := dec_n hab2 hrec2 HX1.out.recs hn31
    have HN2 := Lib.hid (dec_ns hab2 hrec2 HX1.out.recs HN4.out)
    have HX2 := Lib.hid ((HX1.out.bel hb2).alloc (.cells #[.slice A2 n2 c2] 25))
    have HO2 := Lib.hid (Bx.mk0 (c := c2) (hrec2.low (lo' := w.heap.size) HB1.out.size))
    have HB2 : Hid (Below w.heap.size w (w2.alloc (.cells #[.slice A2 n2 c2] 25))) := (below_tr HB1.out (Nat.le_refl _) hb2).alloc (below_tr HB1.out (Nat.le_refl _) hb2).size _
    have p2 := (HX1.out.bel hb2).cell
    have l2 := (HX1.out.bel hb2).lt
    clear hab2 hro2 hrec2 hb2
    go_wp2_with fail
    refine (specDecide_any commit A n c rs t _ w.heap.size (by omega) hnc hcm HN.out HB2.out.size HX2.out.recs).mono ?_
    rintro e w3 ⟨v3, n3, rs3, hab3, hro3, hb3, rfl⟩
    obtain ⟨A3, c3, rfl, hnc3, hcm3, hrec3⟩ := hro3.recs
    obtain rfl : n3 = n2 := abs_n (hab3.trans HAB2.out.symm) hrec3 HO2.out.recs
    have HE3 := Lib.hid (HAB2.out.trans hab3.symm)
    have HX3 := Lib.hid ((HX2.out.bel hb3).alloc (.cells #[.slice A3 n3 c3] 25))
    have HO3 := Lib.hid ((HO2.out.bel hb3).alloc (.cells #[.slice A3 n3 c3] 25))
    have HT3 := Lib.hid (Bx.mk0 (c := c3) (hrec3.low (lo' := w.heap.size) HB2.out.size))
    have HB3 : Hid (Below w.heap.size w (w3.alloc (.cells #[.slice A3 n3 c3] 25))) := (below_tr HB2.out (Nat.le_refl _) hb3).alloc (below_tr HB2.out (Nat.le_refl _) hb3).size _
    have p3 := (HX2.out.bel hb3).cell
    have l3 := (HX2.out.bel hb3).lt
    have q3 := (HO2.out.bel hb3).cell
    have m3 := (HO2.out.bel hb3).lt
    have hq : (decB (abs rs) t commit != decB (abs rs) t commit) = false := by simp
    have hq2 : (decB (abs rs) t commit == decB (abs rs) t commit) = true := by simp
    clear hab3 hro3 hrec3 hb3
    go_wp2_with fail
    refine (sameShard_any A2 A3 n3 c2 c3 rs2 rs3 _ w.heap.size w.heap.size (by omega) HN2.out HE3.out HO3.out.recs HT3.out.recs).mono ?_
    rintro e w4 ⟨rfl, hb4⟩
    have HX4 := Lib.hid (HX3.out.bel hb4)
    have HO4 := Lib.hid (HO3.out.bel hb4)
    have HT4 := Lib.hid (HT3.out.bel hb4)
    have HB4 := Lib.hid (below_tr HB3.out (Nat.le_refl _) hb4)
    have p4 := HX4.out.cell
    have l4 := HX4.out.lt
    have q4 := HO4.out.cell
    have m4 := HO4.out.lt
    have t4 := HT4.out.cell
    have n4 := HT4.out.lt
    clear hb4 HX1 HB1 HX2 HO2 HB2 p2 l2 HX3 HO3 HT3 HB3 p3 l3 q3 m3
    rcases hv : decB (abs rs) t commit with _ | _
    · simp only [hv] at hq hq2
      go_wp2_with fail
      refine (sameShard_any A2 A3 n3 c2 c3 rs2 rs3 _ w.heap.size w.heap.size (by omega) HN2.out HE3.out HO4.out.recs HT4.out.recs).mono ?_
      rintro e w9 ⟨rfl, hb9⟩
      have HB9 := Lib.hid (below_tr HB4.out (Nat.le_refl _) hb9)
      go_wp2_with fail
      go_ret
      exact ⟨rfl, HB9.out⟩
    rcases commit with _ | _
    · simp only [hv] at hq hq2
      go_wp2_with fail
      refine (sameShard_any A2 A3 n3 c2 c3 rs2 rs3 _ w.heap.size w.heap.size (by omega) HN2.out HE3.out HO4.out.recs HT4.out.recs).mono ?_
      rintro e w9 ⟨rfl, hb9⟩
      have HB9 := Lib.hid (below_tr HB4.out (Nat.le_refl _) hb9)
      go_wp2_with fail
      go_ret
      exact ⟨rfl, HB9.out⟩
    · simp only [hv] at hq hq2
      obtain ⟨h1, h2, h3, h4⟩ := dec_ok hv
      have HV1 := Lib.hid h1
      have HV2 := Lib.hid h2
      have HDB := Lib.hid hv
      clear h1 h2 h3 h4
      go_wp2_with fail
      refine (specAsk_any A n c rs t _ w.heap.size hnc hcm HB4.out.size HX4.out.recs).mono ?_
      rintro e w5 ⟨rfl, hb5⟩
      have HX5 := Lib.hid (HX4.out.bel hb5)
      have HO5 := Lib.hid (HO4.out.bel hb5)
      have HT5 := Lib.hid (HT4.out.bel hb5)
      have HB5 := Lib.hid (below_tr HB4.out (Nat.le_refl _) hb5)
      have p5 := HX5.out.cell
      have l5 := HX5.out.lt
      have q5 := HO5.out.cell
      have m5 := HO5.out.lt
      have t5 := HT5.out.cell
      have n5 := HT5.out.lt
      clear hb5 HX4 HO4 HT4 HB4 p4 l4 q4 m4 t4 n4
      obtain ⟨x, hx⟩ : ∃ x, askV (abs rs) t = x := ⟨_, rfl⟩
      rw [hx]
      by_cases hx1 : x = 1
      · subst hx1
        have hak : askK (abs rs) t = 1 := by rw [askV_yes HV1.out HV2.out] at hx; exact hx
        obtain ⟨d1, d2, d3, d4, d5⟩ := dec_commit HV1.out HV2.out hak HDB.out
        have HE : Hid (abs rs2 = abs rs ++ [⟨2, t, []⟩]) := HAB2.out.trans d1
        have HVO := Lib.hid d2
        have HAK := Lib.hid d3
        have HCM := Lib.hid d4
        have HLK := Lib.hid d5
        have HCO : Hid (Calm (abs rs2)) := calm_valid (by rw [HE.out]; exact recov_valid d2)
        clear hak hx d1 d2 d3 d4 d5
        have HSH2 : Hid (shardB (abs rs2) = true) := by show _ = _; rw [HE.out]; exact HVO.out
        have HR2 : Hid (recov (abs rs2) = recov (abs rs ++ [⟨2, t, []⟩])) := by show _ = _; rw [HE.out]
        have HAK2 : Hid (askV (abs rs2) t = 2) := by show _ = _; rw [HE.out]; exact HAK.out
        go_wp2_with fail
        refine (implRecover_any A n c rs _ w.heap.size hnc hcm HX5.out.recs HC.out).mono ?_
        rintro e w6 ⟨A1, k1, c1, B1, j1, d1, x1, y1, hF1, hF2, hy, -, hb6, rfl⟩
        obtain ⟨rfl, rfl, rfl, rfl⟩ := hy HV1.out
        have HO6 := Lib.hid ((HO5.out.bel hb6).alloc (.cells #[.slice A1 4 c1, .slice B1 4 d1] 30))
        have HS6 := Lib.hid (Sx.mk0 (c1 := c1) (c2 := d1) (FlH.low (lo' := w.heap.size) hF1 HB5.out.size) (FlH.low hF2 HB5.out.size))
        have HB6 : Hid (Below w.heap.size w (w6.alloc (.cells #[.slice A1 4 c1, .slice B1 4 d1] 30))) := (below_tr HB5.out (Nat.le_refl _) hb6).alloc (below_tr HB5.out (Nat.le_refl _) hb6).size _
        have q6 := (HO5.out.bel hb6).cell
        have m6 := (HO5.out.bel hb6).lt
        clear hF1 hF2 hy hb6 HX5 HT5 HB5 p5 l5 q5 m5 t5 n5 HO5
        go_wp2_with fail
        refine (implRecover_any A2 n3 c2 rs2 _ w.heap.size hnc2 hcm2 HO6.out.recs HCO.out).mono ?_
        rintro e w7 ⟨A7, k7, c7, B7, j7, d7, x7, y7, hF1, hF2, hy, -, hb7, rfl⟩
        obtain ⟨rfl, rfl, rfl, rfl⟩ := hy HSH2.out
        have HO7 := Lib.hid ((HO6.out.bel hb7).alloc (.cells #[.slice A7 4 c7, .slice B7 4 d7] 30))
        have HS7 := Lib.hid ((HS6.out.bel hb7).alloc (.cells #[.slice A7 4 c7, .slice B7 4 d7] 30))
        have HV7 := Lib.hid (Sx.mk0 (c1 := c7) (c2 := d7) (FlH.low (lo' := w.heap.size) hF1 HB6.out.size) (FlH.low hF2 HB6.out.size))
        have HB7 : Hid (Below w.heap.size w (w7.alloc (.cells #[.slice A7 4 c7, .slice B7 4 d7] 30))) := (below_tr HB6.out (Nat.le_refl _) hb7).alloc (below_tr HB6.out (Nat.le_refl _) hb7).size _
        clear hF1 hF2 hy hb7 HO6 HS6 HB6 q6 m6
        rw [HSH2.out]
        go_wp2_with fail
        go_loopw [14] (fun u wr => ∃ k : Nat, k ≤ 4 ∧ u = .int .i64 k ∧ Bx w.heap.size wr w2.heap.size A2 n3 c2 rs2 ∧ Sx w.heap.size wr w6.heap.size A1 4 c1 B1 4 d1 (recov (abs rs)).1.refs (recov (abs rs)).1.locks ∧ Sx w.heap.size wr w7.heap.size A7 4 c7 B7 4 d7 (recov (abs rs2)).1.refs (recov (abs rs2)).1.locks ∧ Below w.heap.size w wr) (fun u _ => 4 - (intOf u).toNat)
        case atStart => exact ⟨0, Nat.zero_le _, rfl, HO7.out, HS7.out, HV7.out, HB7.out⟩
        case round =>
          obtain ⟨k, hk, rfl, ho, hs, hv, hb⟩ := hrel
          have HOR := Lib.hid ho
          have HSR := Lib.hid hs
          have HVR := Lib.hid hv
          have HBR := Lib.hid hb
          have qr := ho.cell
          have mr := ho.lt
          have s0 := hs.cell0
          have s1 := hs.cell1
          have sl := hs.lt
          have v0 := hv.cell0
          have v1 := hv.cell1
          have vl := hv.lt
          clear ho hs hv hb HO7 HS7 HV7 HB7
          by_cases hlt : k < 4
          · obtain ⟨b1, o1, rfl, -, hbl1, hc1⟩ := Sx.at0 HSR.out hlt
            obtain ⟨b2, o2, rfl, -, hbl2, hc2⟩ := Sx.at1 HSR.out hlt
            obtain ⟨b3, o3, rfl, -, hbl3, hc3⟩ := Sx.at0 HVR.out hlt
            obtain ⟨b4, o4, rfl, -, hbl4, hc4⟩ := Sx.at1 HVR.out hlt
            have hlk := HLK.out (k : Int) (by omega) (by omega)
            rw [← HR2.out] at hlk
            generalize getR (recov (abs rs)).1.refs k = e1 at hc1 hlk
            generalize getR (recov (abs rs)).1.locks k = e2 at hc2 hlk
            generalize getR (recov (abs rs2)).1.refs k = e3 at hc3 hlk
            generalize getR (recov (abs rs2)).1.locks k = e4 at hc4 hlk
            by_cases hlt2 : e2 = t
            · obtain ⟨g1, g2⟩ := hlk.2 hlt2
              subst hlt2 g1
              have gb : (e3 == e1) = false := by rw [beq_eq_false_iff_ne]; exact g2
              have gt : (e2 == e2) = true := by simp
              have gtn : (e2 != e2) = false := by simp
              clear hlk g2
              go_wp2_with fail
              go_quiet (fail)
              go_wp2_with fail
              exact ⟨⟨k + 1, by omega, by go_num, HOR.out.drewN nq, HSR.out.drewN nq, HVR.out.drewN nq, below_draw HBR.out nq⟩, by simp [intOf]; omega⟩
            · obtain ⟨g1, g2⟩ := hlk.1 hlt2
              subst g1 g2
              have gt : (e4 == t) = false := by rw [beq_eq_false_iff_ne]; exact hlt2
              have gtn : (e4 != t) = true := by simpa using hlt2
              have g3 : (e3 != e3) = false := by simp
              have g4 : (e4 != e4) = false := by simp
              clear hlk
              go_wp2_with fail
              go_quiet (fail)
              go_wp2_with fail
              exact ⟨⟨k + 1, by omega, by go_num, HOR.out.drewN nq, HSR.out.drewN nq, HVR.out.drewN nq, below_draw HBR.out nq⟩, by simp [intOf]; omega⟩
          · have hk4 : k = 4 := by omega
            subst hk4
            go_wp2_with fail
            refine (implAsk_any A2 n3 c2 rs2 t _ w.heap.size hnc2 hcm2 HOR.out.recs HCO.out).mono ?_
            rintro e w8 ⟨rfl, hb8⟩
            rw [HAK2.out]
            have HB8 := Lib.hid (below_tr HBR.out (Nat.le_refl _) hb8)
            go_wp2_with fail
            go_ret
            exact ⟨rfl, HB8.out⟩
      · have hxb : (x != 1) = true := by simpa using hx1
        clear hx
        go_wp2_with fail
        refine (sameShard_any A2 A3 n3 c2 c3 rs2 rs3 _ w.heap.size w.heap.size (by omega) HN2.out HE3.out HO5.out.recs HT5.out.recs).mono ?_
        rintro e w9 ⟨rfl, hb9⟩
        have HB9 := Lib.hid (below_tr HB5.out (Nat.le_refl _) hb9)
        go_wp2_with fail
        go_ret
        exact ⟨rfl, HB9.out⟩

set_option linter.unusedVariables false
set_option maxRecDepth 100000 in
theorem lifted (os : Os) (started : os.Started) (H : Type) (enc : TypeId × Value → H) :
    ReturnsInHanded {} Try.checked os 11 .any (Rows.fnDecideSpec.pre6 enc Try.prog Try.f11 Rows.fnDecideRow.domain false) (Rows.fnDecideSpec.post enc Try.prog Try.f11 false true false false) := by
  refine returnsInHanded_of_change (C := Try.checked) Try.own started (by kernel_rfl) Try.func11
    (ChangeSpec.witness6 (enc := enc) (C := Try.checked) false ⟨#[], #[.slice none 0 0], []⟩ 8 (by kernel_rfl) (by kernel_rfl) (by kernel_rfl) (by kernel_rfl)) ?_
  intro W base args ds gs before hval0 hW hcnd _
  have hval : ∀ (j : Nat) t v, Try.f11.params[j]? = some t → args[j]? = some v → Value.okWide Try.prog W .any base t v := hval0
  have hW' := hW
  obtain ⟨p, q, hA0, hV, rfl, hfz, hnd⟩ := hW
  have hA : DataW.TrodAll enc Try.prog W 0 (fun _ => true) true Try.f11.params.toList args.toList ds p := hA0
  rw [Try.params11] at hA hval
  obtain ⟨v0, vs0, d0, ds0, p0, q0, hargs, rfl, rfl, h0, r0⟩ := trodAll_cons hA
  obtain ⟨rfl, rfl, rfl⟩ := trodAll_nil r0
  obtain rfl : args = #[v0] := by cases args; simp_all
  obtain ⟨rfl, rfl⟩ := trodVars_none hV
  have k0 := h0
  have lt0 : ∀ x ∈ p0, x.block < W.heap.size := by obtain ⟨m, hm⟩ := k0; exact DataW.trod_lt m _ _ _ hm
  obtain ⟨a0, len0, cap0, rfl⟩ := okWide_slice Try.underlying22 (hval 0 22 v0 rfl rfl)
  obtain ⟨z0, w0⟩ := open_row (k := .u8) Try.underlying22 Try.underlying5 (by kernel_rfl) h0 (fun _ => rfl)
  clear hA0 hval0
  refine (walk a0 len0 cap0 z0 W w0).mono fun e W' ⟨he, bel⟩ => ?_
  subst he
  exact ⟨_, rfl, _, _, _, [], _, [], hW', trodAll_mk1 (shut_bool Try.underlying4 _), (trodAll_cons_mk (Below.trod Try.laidOut (by kernel_rfl) (of_decide_eq_true (by kernel_rfl)) k0 bel lt0) trodAll_mk0), rfl, bel.frame _, fun h => by cases h⟩

theorem proved : Rows.FnDecideSaid :=
  OpenClaim.holds_of_wide 11 Try.f11 rfl rfl rfl rfl rfl rfl rfl ⟨rfl, rfl, rfl, rfl, rfl⟩ rfl rfl rfl rfl rfl (by kernel_rfl) Try.func11 (by kernel_rfl)
    (of_decide_eq_true (by kernel_rfl)) (by unfold Func.isWrapper; first | (rw [if_pos (by decide +kernel)]; kernel_rfl) | (rw [if_neg (by decide +kernel)]; exact ⟨rfl, rfl⟩))
    (fun os started H enc _ => lifted os started H enc)

#print axioms proved
end Go.Proofs.Ytgnhanbdfohjaaa.fnDecide
