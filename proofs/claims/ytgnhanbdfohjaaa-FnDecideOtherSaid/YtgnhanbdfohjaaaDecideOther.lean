/-
  For every code: ShardDecide of a drawn shard answers as the reference, and a decision concerns one transaction. No condition.
-/
import Derived.Test.YtgnhanbdfohjaaaLawD
namespace Go.Proofs.Ytgnhanbdfohjaaa.fnDecideOther
set_option linter.unusedVariables false
set_option linter.unusedSimpArgs false
open Go.ChangeShapes Go.WideShapes Go.ChangeAt Go.RowKit

set_option maxRecDepth 100000 in
set_option maxHeartbeats 1600000 in
theorem walk (a0 : Option Addr) (len0 cap0 : Nat) (z0 : List Int) (w : World) (w0 : IsRow .u8 w a0 len0 cap0 z0) :
    Calls Try.prog 9 #[.slice a0 len0 cap0] w fun e w' => e = .returned (.bool true) ∧ Below w.heap.size w w' := by
  have hn := w0.bd
  have HI := Lib.hid w0
  clear w0
  by_cases hbig : 1048576 < len0
  · go_enter Try.func9, Try.ntmps9
    go_wp2
    go_ret
    exact ⟨rfl, Below.refl _ _⟩
  · have hs_len0 : len0 ≤ 1048576 := by omega
    clear hbig
    go_enter Try.func9, Try.ntmps9
    go_wp2_with fail
    refine (drawShardDecide_any _ _ _ z0 _ HI.out).mono ?_
    rintro e w1 ⟨A, n, c, rs, t, commit, ⟨hd, hrec, hnc, hcm, hn31, hn4, hb1⟩, rfl⟩
    have HC := Lib.hid (calm_drawn hd)
    have HN4 : Hid (∀ r ∈ rs, r.n ≤ 4) := hn4
    have HN : Hid (∀ r ∈ rs, r.n ≤ 1000) := fun r hr => Nat.le_trans (hn4 r hr) (by omega)
    have HX1 := Lib.hid (Bx.mk0 (c := c) hrec)
    have HB1 : Hid (Below w.heap.size w (w1.alloc (.cells #[.slice A n c] 25))) := hb1.alloc hb1.size _
    clear hd hrec hn4 hb1
    go_wp2_with fail
    refine (implDecide_any commit A n c rs t _ w.heap.size (by omega) hnc hcm HN.out HB1.out.size HX1.out.recs HC.out).mono ?_
    rintro e w2 ⟨v2, n2, rs2, hab2, hro2, hb2, rfl⟩
    obtain ⟨A2, c2, rfl, hnc2, hcm2, hrec2⟩ := hro2.recs
    have HAB2 := Lib.hid hab2
    have hn2 : n2 ≤ 32 := dec_n hab2 hrec2 HX1.out.recs hn31
    have HN2 := Lib.hid (dec_ns hab2 hrec2 HX1.out.recs HN4.out)
    have HX2 := Lib.hid ((HX1.out.bel hb2).alloc (.cells #[.slice A2 n2 c2] 25))
    have HO2 := Lib.hid (Bx.mk0 (c := c2) (hrec2.low (lo' := w.heap.size) HB1.out.size))
    have HB2 : Hid (Below w.heap.size w (w2.alloc (.cells #[.slice A2 n2 c2] 25))) := (below_tr HB1.out (Nat.le_refl _) hb2).alloc (below_tr HB1.out (Nat.le_refl _) hb2).size _
    have p2 := (HX1.out.bel hb2).cell
    have l2 := (HX1.out.bel hb2).lt
    clear hab2 hro2 hrec2 hb2
    go_wp2_with fail
    refine (specDecide_any commit A n c rs t _ w.heap.size (by omega) hnc hcm HN.out HB2.out.size HX2.out.recs).mono ?_
    rintro e w3 ⟨v3, n3, rs3, hab3, hro3, hb3, rfl⟩
    obtain ⟨A3, c3, rfl, hnc3, hcm3, hrec3⟩ := hro3.recs
    obtain rfl : n3 = n2 := abs_n (hab3.trans HAB2.out.symm) hrec3 HO2.out.recs
    have HE3 := Lib.hid (HAB2.out.trans hab3.symm)
    have HX3 := Lib.hid ((HX2.out.bel hb3).alloc (.cells #[.slice A3 n3 c3] 25))
    have HO3 := Lib.hid ((HO2.out.bel hb3).alloc (.cells #[.slice A3 n3 c3] 25))
    have HT3 := Lib.hid (Bx.mk0 (c := c3) (hrec3.low (lo' := w.heap.size) HB2.out.size))
    have HB3 : Hid (Below w.heap.size w (w3.alloc (.cells #[.slice A3 n3 c3] 25))) := (below_tr HB2.out (Nat.le_refl _) hb3).alloc (below_tr HB2.out (Nat.le_refl _) hb3).size _
    have p3 := (HX2.out.bel hb3).cell
    have l3 := (HX2.out.bel hb3).lt
    have q3 := (HO2.out.bel hb3).cell
    have m3 := (HO2.out.bel hb3).lt
    have hq : (decB (abs rs) t commit != decB (abs rs) t commit) = false := by simp
    have hq2 : (decB (abs rs) t commit == decB (abs rs) t commit) = true := by simp
    clear hab3 hro3 hrec3 hb3
    go_wp2_with fail
    refine (sameShard_any A2 A3 n3 c2 c3 rs2 rs3 _ w.heap.size w.heap.size (by omega) HN2.out HE3.out HO3.out.recs HT3.out.recs).mono ?_
    rintro e w4 ⟨rfl, hb4⟩
    have HX4 := Lib.hid (HX3.out.bel hb4)
    have HO4 := Lib.hid (HO3.out.bel hb4)
    have HT4 := Lib.hid (HT3.out.bel hb4)
    have HB4 := Lib.hid (below_tr HB3.out (Nat.le_refl _) hb4)
    have p4 := HX4.out.cell
    have l4 := HX4.out.lt
    have q4 := HO4.out.cell
    have m4 := HO4.out.lt
    have t4 := HT4.out.cell
    have n4 := HT4.out.lt
    clear hb4 HX1 HB1 HX2 HO2 HB2 p2 l2 HX3 HO3 HT3 HB3 p3 l3 q3 m3
    by_cases h0 : n3 = 0
    · have h0b : ((n3 : Int) == 0) = true := by rw [beq_iff_eq]; omega
      clear h0
      go_wp2_with fail
      refine (sameShard_any A2 A3 n3 c2 c3 rs2 rs3 _ w.heap.size w.heap.size (by omega) HN2.out HE3.out HO4.out.recs HT4.out.recs).mono ?_
      rintro e w9 ⟨rfl, hb9⟩
      have HB9 := Lib.hid (below_tr HB4.out (Nat.le_refl _) hb9)
      go_wp2_with fail
      go_ret
      exact ⟨rfl, HB9.out⟩
    · have h0b : ((n3 : Int) == 0) = false := by rw [beq_eq_false_iff_ne]; omega
      have hne : decL (abs rs) t commit ≠ [] := by
        rw [← HAB2.out]
        intro h
        have := HO4.out.recs.1.1
        have h2 : (abs rs2).length = 0 := by rw [h]; rfl
        rw [abs_len] at h2
        omega
      obtain ⟨h1, h2, h3⟩ := dec_other hne
      rw [← HAB2.out] at h2 h3
      have HEQ := Lib.hid h3
      have HCO := Lib.hid (calm_valid (recov_valid h2))
      clear hne h1 h2 h3 h0
      go_wp2_with fail
      go_loopw [10] (fun u wr => ∃ k : Nat, k ≤ 12 ∧ u = .int .i64 k ∧ Bx w.heap.size wr w1.heap.size A n c rs ∧ Bx w.heap.size wr w2.heap.size A2 n3 c2 rs2 ∧ Below w.heap.size w wr) (fun u _ => 12 - (intOf u).toNat)
      case atStart => exact ⟨0, Nat.zero_le _, rfl, HX4.out, HO4.out, HB4.out⟩
      case round =>
        obtain ⟨k, hk, rfl, hx, ho, hb⟩ := hrel
        have HXR := Lib.hid hx
        have HOR := Lib.hid ho
        have HBR := Lib.hid hb
        have pr := hx.cell
        have lr := hx.lt
        have qr := ho.cell
        have mr := ho.lt
        clear hx ho hb HX4 HO4 HT4 HB4 p4 l4 q4 m4 t4 n4
        by_cases hlt : k < 12
        · by_cases hkt : (k : Int) = t
          · have hkb : ((k : Int) != t) = false := by simp [hkt]
            clear hkt
            go_wp2_with fail
            go_quiet (fail)
            go_wp2_with fail
            exact ⟨⟨k + 1, by omega, by go_num, HXR.out.drewN nq, HOR.out.drewN nq, below_draw HBR.out nq⟩, by simp [intOf]; omega⟩
          · have hkb : ((k : Int) != t) = true := by simp [hkt]
            obtain ⟨x, hx⟩ : ∃ x, askV (abs rs) k = x := ⟨_, rfl⟩
            have HX0 := Lib.hid hx
            have HX2 : Hid (askV (abs rs2) k = x) := (HEQ.out _ hkt).trans hx
            have hxx : (x != x) = false := by simp
            clear hx hkt
            have tok1 : True := trivial
            go_wp2_with fail
            go_region_held3 (fun w' => w'.cell? ⟨w2.heap.size, 0, none⟩ = some (.slice A2 n3 c2) ∧ w'.cell? ⟨w1.heap.size, 0, none⟩ = some (.slice A n c)) (go_keep)
              (first
                | (go_at_call 17; have _t := tok1; (refine (implAsk_any A2 n3 c2 rs2 k _ w.heap.size hnc2 hcm2 (HOR.out.recs.drewN 1) HCO.out).mono ?_); rintro e w7 ⟨rfl, hb7'⟩; have hb7 : Below wr.heap.size wr w7 := ⟨hb7'.os, hb7'.tape, hb7'.output, hb7'.size, hb7'.block⟩; rw [HX2.out]; have HX7 := Lib.hid (HXR.out.bel hb7); have HO7 := Lib.hid (HOR.out.bel hb7); have HB7 := Lib.hid (below_tr HBR.out (Nat.le_refl _) hb7); have p7 : w7.cell? ⟨w1.heap.size, 0, none⟩ = some (.slice A n c) := (HXR.out.bel hb7).cell; have q7 : w7.cell? ⟨w2.heap.size, 0, none⟩ = some (.slice A2 n3 c2) := (HOR.out.bel hb7).cell; have tok2 : True := trivial; clear hb7 hb7' tok1)
                | (go_at_call 17; have _t := tok2; (refine (implAsk_any A n c rs k _ w.heap.size hnc hcm HX7.out.recs HC.out).mono ?_); rintro e w8 ⟨rfl, hb8⟩; rw [HX0.out]; have HX8 := Lib.hid (HX7.out.bel hb8); have HO8 := Lib.hid (HO7.out.bel hb8); have HB8 := Lib.hid (below_tr HB7.out (Nat.le_refl _) hb8); have p8 : w8.cell? ⟨w1.heap.size, 0, none⟩ = some (.slice A n c) := (HX7.out.bel hb8).cell; have q8 : w8.cell? ⟨w2.heap.size, 0, none⟩ = some (.slice A2 n3 c2) := (HO7.out.bel hb8).cell; clear hb8 tok2))
            go_wp2_with fail
            exact ⟨⟨k + 1, by omega, by go_num, HX8.out, HO8.out, HB8.out⟩, by simp [intOf]; omega⟩
        · have hk12 : k = 12 := by omega
          subst hk12
          go_wp2_with fail
          go_ret
          exact ⟨rfl, HBR.out⟩

set_option linter.unusedVariables false
set_option maxRecDepth 100000 in
theorem lifted (os : Os) (started : os.Started) (H : Type) (enc : TypeId × Value → H) :
    ReturnsInHanded {} Try.checked os 9 .any (Rows.fnDecideOtherSpec.pre6 enc Try.prog Try.f9 Rows.fnDecideOtherRow.domain false) (Rows.fnDecideOtherSpec.post enc Try.prog Try.f9 false true false false) := by
  refine returnsInHanded_of_change (C := Try.checked) Try.own started (by kernel_rfl) Try.func9
    (ChangeSpec.witness6 (enc := enc) (C := Try.checked) false ⟨#[], #[.slice none 0 0], []⟩ 8 (by kernel_rfl) (by kernel_rfl) (by kernel_rfl) (by kernel_rfl)) ?_
  intro W base args ds gs before hval0 hW hcnd _
  have hval : ∀ (j : Nat) t v, Try.f9.params[j]? = some t → args[j]? = some v → Value.okWide Try.prog W .any base t v := hval0
  have hW' := hW
  obtain ⟨p, q, hA0, hV, rfl, hfz, hnd⟩ := hW
  have hA : DataW.TrodAll enc Try.prog W 0 (fun _ => true) true Try.f9.params.toList args.toList ds p := hA0
  rw [Try.params9] at hA hval
  obtain ⟨v0, vs0, d0, ds0, p0, q0, hargs, rfl, rfl, h0, r0⟩ := trodAll_cons hA
  obtain ⟨rfl, rfl, rfl⟩ := trodAll_nil r0
  obtain rfl : args = #[v0] := by cases args; simp_all
  obtain ⟨rfl, rfl⟩ := trodVars_none hV
  have k0 := h0
  have lt0 : ∀ x ∈ p0, x.block < W.heap.size := by obtain ⟨m, hm⟩ := k0; exact DataW.trod_lt m _ _ _ hm
  obtain ⟨a0, len0, cap0, rfl⟩ := okWide_slice Try.underlying22 (hval 0 22 v0 rfl rfl)
  obtain ⟨z0, w0⟩ := open_row (k := .u8) Try.underlying22 Try.underlying5 (by kernel_rfl) h0 (fun _ => rfl)
  clear hA0 hval0
  refine (walk a0 len0 cap0 z0 W w0).mono fun e W' ⟨he, bel⟩ => ?_
  subst he
  exact ⟨_, rfl, _, _, _, [], _, [], hW', trodAll_mk1 (shut_bool Try.underlying4 _), (trodAll_cons_mk (Below.trod Try.laidOut (by kernel_rfl) (of_decide_eq_true (by kernel_rfl)) k0 bel lt0) trodAll_mk0), rfl, bel.frame _, fun h => by cases h⟩

theorem proved : Rows.FnDecideOtherSaid :=
  OpenClaim.holds_of_wide 9 Try.f9 rfl rfl rfl rfl rfl rfl rfl ⟨rfl, rfl, rfl, rfl, rfl⟩ rfl rfl rfl rfl rfl (by kernel_rfl) Try.func9 (by kernel_rfl)
    (of_decide_eq_true (by kernel_rfl)) (by unfold Func.isWrapper; first | (rw [if_pos (by decide +kernel)]; kernel_rfl) | (rw [if_neg (by decide +kernel)]; exact ⟨rfl, rfl⟩))
    (fun os started H enc _ => lifted os started H enc)

#print axioms proved
end Go.Proofs.Ytgnhanbdfohjaaa.fnDecideOther
