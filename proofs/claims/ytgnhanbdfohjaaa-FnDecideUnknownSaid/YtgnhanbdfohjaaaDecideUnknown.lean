/-
  For every code: ShardDecide of a drawn shard answers as the reference, and only what is prepared can be committed. No condition.
-/
import Derived.Test.YtgnhanbdfohjaaaLawD
namespace Go.Proofs.Ytgnhanbdfohjaaa.fnDecideUnknown
set_option linter.unusedVariables false
set_option linter.unusedSimpArgs false
open Go.ChangeShapes Go.WideShapes Go.ChangeAt Go.RowKit

set_option maxRecDepth 100000 in
set_option maxHeartbeats 1600000 in
theorem walk (a0 : Option Addr) (len0 cap0 : Nat) (z0 : List Int) (w : World) (w0 : IsRow .u8 w a0 len0 cap0 z0) :
    Calls Try.prog 10 #[.slice a0 len0 cap0] w fun e w' => e = .returned (.bool true) ∧ Below w.heap.size w w' := by
  have hn := w0.bd
  have HI := Lib.hid w0
  clear w0
  by_cases hbig : 1048576 < len0
  · go_enter Try.func10, Try.ntmps10
    go_wp2
    go_ret
    exact ⟨rfl, Below.refl _ _⟩
  · have hs_len0 : len0 ≤ 1048576 := by omega
    clear hbig
    go_enter Try.func10, Try.ntmps10
    go_wp2_with fail
    refine (drawShardDecide_any _ _ _ z0 _ HI.out).mono ?_
    rintro e w1 ⟨A, n, c, rs, t, commit, ⟨hd, hrec, hnc, hcm, hn31, hn4, hb1⟩, rfl⟩
    have HC := Lib.hid (calm_drawn hd)
    have HN4 : Hid (∀ r ∈ rs, r.n ≤ 4) := hn4
    have HN : Hid (∀ r ∈ rs, r.n ≤ 1000) := fun r hr => Nat.le_trans (hn4 r hr) (by omega)
    have HX1 := Lib.hid (Bx.mk0 (c := c) hrec)
    have HB1 : Hid (Below w.heap.size w (w1.alloc (.cells #[.slice A n c] 25))) := hb1.alloc hb1.size _
    clear hd hrec hn4 hb1
    go_wp2_with fail
    refine (implDecide_any commit A n c rs t _ w.heap.size (by omega) hnc hcm HN.out HB1.out.size HX1.out.recs HC.out).mono ?_
    rintro e w2 ⟨v2, n2, rs2, hab2, hro2, hb2, rfl⟩
    obtain ⟨A2, c2, rfl, hnc2, hcm2, hrec2⟩ := hro2.recs
    have HAB2 := Lib.hid hab2
    have hn2 : n2 ≤ 32 := dec_n hab2 hrec2 HX1.out.recs hn31
    have HN2 := Lib.hid (dec_ns hab2 hrec2 HX1.out.recs HN4.out)
    have HX2 := Lib.hid ((HX1.out.bel hb2).alloc (.cells #[.slice A2 n2 c2] 25))
    have HO2 := Lib.hid (Bx.mk0 (c := c2) (hrec2.low (lo' := w.heap.size) HB1.out.size))
    have HB2 : Hid (Below w.heap.size w (w2.alloc (.cells #[.slice A2 n2 c2] 25))) := (below_tr HB1.out (Nat.le_refl _) hb2).alloc (below_tr HB1.out (Nat.le_refl _) hb2).size _
    have p2 := (HX1.out.bel hb2).cell
    have l2 := (HX1.out.bel hb2).lt
    clear hab2 hro2 hrec2 hb2
    go_wp2_with fail
    refine (specDecide_any commit A n c rs t _ w.heap.size (by omega) hnc hcm HN.out HB2.out.size HX2.out.recs).mono ?_
    rintro e w3 ⟨v3, n3, rs3, hab3, hro3, hb3, rfl⟩
    obtain ⟨A3, c3, rfl, hnc3, hcm3, hrec3⟩ := hro3.recs
    obtain rfl : n3 = n2 := abs_n (hab3.trans HAB2.out.symm) hrec3 HO2.out.recs
    have HE3 := Lib.hid (HAB2.out.trans hab3.symm)
    have HX3 := Lib.hid ((HX2.out.bel hb3).alloc (.cells #[.slice A3 n3 c3] 25))
    have HO3 := Lib.hid ((HO2.out.bel hb3).alloc (.cells #[.slice A3 n3 c3] 25))
    have HT3 := Lib.hid (Bx.mk0 (c := c3) (hrec3.low (lo' := w.heap.size) HB2.out.size))
    have HB3 : Hid (Below w.heap.size w (w3.alloc (.cells #[.slice A3 n3 c3] 25))) := (below_tr HB2.out (Nat.le_refl _) hb3).alloc (below_tr HB2.out (Nat.le_refl _) hb3).size _
    have p3 := (HX2.out.bel hb3).cell
    have l3 := (HX2.out.bel hb3).lt
    have q3 := (HO2.out.bel hb3).cell
    have m3 := (HO2.out.bel hb3).lt
    have hq : (decB (abs rs) t commit != decB (abs rs) t commit) = false := by simp
    have hq2 : (decB (abs rs) t commit == decB (abs rs) t commit) = true := by simp
    clear hab3 hro3 hrec3 hb3
    go_wp2_with fail
    refine (sameShard_any A2 A3 n3 c2 c3 rs2 rs3 _ w.heap.size w.heap.size (by omega) HN2.out HE3.out HO3.out.recs HT3.out.recs).mono ?_
    rintro e w4 ⟨rfl, hb4⟩
    have HX4 := Lib.hid (HX3.out.bel hb4)
    have HO4 := Lib.hid (HO3.out.bel hb4)
    have HT4 := Lib.hid (HT3.out.bel hb4)
    have HB4 := Lib.hid (below_tr HB3.out (Nat.le_refl _) hb4)
    have p4 := HX4.out.cell
    have l4 := HX4.out.lt
    have q4 := HO4.out.cell
    have m4 := HO4.out.lt
    have t4 := HT4.out.cell
    have n4 := HT4.out.lt
    clear hb4 HX1 HB1 HX2 HO2 HB2 p2 l2 HX3 HO3 HT3 HB3 p3 l3 q3 m3
    rcases commit with _ | _
    · skip
      go_wp2_with fail
      refine (sameShard_any A2 A3 n3 c2 c3 rs2 rs3 _ w.heap.size w.heap.size (by omega) HN2.out HE3.out HO4.out.recs HT4.out.recs).mono ?_
      rintro e w9 ⟨rfl, hb9⟩
      have HB9 := Lib.hid (below_tr HB4.out (Nat.le_refl _) hb9)
      go_wp2_with fail
      go_ret
      exact ⟨rfl, HB9.out⟩
    · go_wp2_with fail
      refine (specValid_any A n c rs _ w.heap.size hnc hcm HB4.out.size HX4.out.recs).mono ?_
      rintro e w5 ⟨rfl, hb5⟩
      have HX5 := Lib.hid (HX4.out.bel hb5)
      have HO5 := Lib.hid (HO4.out.bel hb5)
      have HT5 := Lib.hid (HT4.out.bel hb5)
      have HB5 := Lib.hid (below_tr HB4.out (Nat.le_refl _) hb5)
      have p5 := HX5.out.cell
      have l5 := HX5.out.lt
      have q5 := HO5.out.cell
      have m5 := HO5.out.lt
      have t5 := HT5.out.cell
      have n5 := HT5.out.lt
      clear hb5 HX4 HO4 HT4 HB4 p4 l4 q4 m4 t4 n4
      rcases hv : shardB (abs rs) with _ | _
      · skip
        go_wp2_with fail
        refine (sameShard_any A2 A3 n3 c2 c3 rs2 rs3 _ w.heap.size w.heap.size (by omega) HN2.out HE3.out HO5.out.recs HT5.out.recs).mono ?_
        rintro e w9 ⟨rfl, hb9⟩
        have HB9 := Lib.hid (below_tr HB5.out (Nat.le_refl _) hb9)
        go_wp2_with fail
        go_ret
        exact ⟨rfl, HB9.out⟩
      · by_cases ht0 : t < 0
        · skip
          go_wp2_with fail
          refine (sameShard_any A2 A3 n3 c2 c3 rs2 rs3 _ w.heap.size w.heap.size (by omega) HN2.out HE3.out HO5.out.recs HT5.out.recs).mono ?_
          rintro e w9 ⟨rfl, hb9⟩
          have HB9 := Lib.hid (below_tr HB5.out (Nat.le_refl _) hb9)
          go_wp2_with fail
          go_ret
          exact ⟨rfl, HB9.out⟩
        by_cases ht12 : 12 ≤ t
        · skip
          go_wp2_with fail
          refine (sameShard_any A2 A3 n3 c2 c3 rs2 rs3 _ w.heap.size w.heap.size (by omega) HN2.out HE3.out HO5.out.recs HT5.out.recs).mono ?_
          rintro e w9 ⟨rfl, hb9⟩
          have HB9 := Lib.hid (below_tr HB5.out (Nat.le_refl _) hb9)
          go_wp2_with fail
          go_ret
          exact ⟨rfl, HB9.out⟩
        have htx : txB t = true := by rw [txB_iff]; omega
        obtain ⟨hb, hno⟩ := dec_unknown hv htx
        have hrl : (abs rs).length = n := by rw [abs_len]; exact HX5.out.recs.1.1
        rw [hrl] at hb
        have HDB := Lib.hid hb
        have HNO := Lib.hid hno
        have hlen := len_valid hv
        rw [hrl] at hlen
        obtain ⟨x, hx⟩ : ∃ x, askV (abs rs) t = x := ⟨_, rfl⟩
        have HXX := Lib.hid hx
        clear hb hno hrl hx
        go_wp2_with fail
        refine (implAsk_any A n c rs t _ w.heap.size hnc hcm HX5.out.recs HC.out).mono ?_
        rintro e w6 ⟨rfl, hb6⟩
        rw [HXX.out]
        have HX6 := Lib.hid (HX5.out.bel hb6)
        have HO6 := Lib.hid (HO5.out.bel hb6)
        have HB6 := Lib.hid (below_tr HB5.out (Nat.le_refl _) hb6)
        have p6 := HX6.out.cell
        have l6 := HX6.out.lt
        have q6 := HO6.out.cell
        have m6 := HO6.out.lt
        clear hb6 HX5 HO5 HT5 HB5 p5 l5 q5 m5 t5 n5
        have hdb := HDB.out
        rw [HXX.out] at hdb
        rcases hok : decB (abs rs) t true with _ | _
        · have HE6 : Hid (abs rs2 = abs rs) := HAB2.out.trans (HNO.out hok)
          have hnn : n3 = n := abs_n HE6.out HO6.out.recs HX6.out.recs
          rw [hok] at hdb
          simp only [hok] at hq hq2
          have h2 : ¬ x = 2 := fun h => by rw [h] at hdb; simp at hdb
          have h2b : (x == 2) = false := by simpa using h2
          by_cases h1 : x = 1
          · have h1b : (x == 1) = true := by simpa using h1
            have h30 : ¬ ((n : Int) < 30) := fun h => by
              have h' : n < 30 := by omega
              rw [h1] at hdb; simp [h'] at hdb
            subst hnn
            clear hdb h1
            go_wp2_with fail
            refine (sameShard_any A2 A n3 c2 c rs2 rs _ w.heap.size w.heap.size (by omega) HN2.out HE6.out HO6.out.recs HX6.out.recs).mono ?_
            rintro e w9 ⟨rfl, hb9⟩
            have HB9 := Lib.hid (below_tr HB6.out (Nat.le_refl _) hb9)
            go_wp2_with fail
            go_ret
            exact ⟨ret_bool (by rw [decide_eq_false (by omega)]; rfl), HB9.out⟩
          · have h1b : (x == 1) = false := by simpa using h1
            subst hnn
            clear hdb h1
            go_wp2_with fail
            refine (sameShard_any A2 A n3 c2 c rs2 rs _ w.heap.size w.heap.size (by omega) HN2.out HE6.out HO6.out.recs HX6.out.recs).mono ?_
            rintro e w9 ⟨rfl, hb9⟩
            have HB9 := Lib.hid (below_tr HB6.out (Nat.le_refl _) hb9)
            go_wp2_with fail
            go_ret
            exact ⟨rfl, HB9.out⟩
        · rw [hok] at hdb
          simp only [hok] at hq hq2
          by_cases h2 : x = 2
          · have h2b : (x == 2) = true := by simpa using h2
            clear hdb h2
            go_wp2_with fail
            go_ret
            exact ⟨rfl, HB6.out⟩
          · have h2b : (x == 2) = false := by simpa using h2
            rw [decide_eq_false h2, Bool.false_or] at hdb
            have hdb' := hdb.symm
            rw [Bool.and_eq_true, decide_eq_true_iff, decide_eq_true_iff] at hdb'
            have h1b : (x == 1) = true := by simpa using hdb'.1
            have h30 : (n : Int) < 30 := by have := hdb'.2; omega
            clear hdb hdb' h2
            go_wp2_with fail
            go_ret
            exact ⟨rfl, HB6.out⟩

set_option linter.unusedVariables false
set_option maxRecDepth 100000 in
theorem lifted (os : Os) (started : os.Started) (H : Type) (enc : TypeId × Value → H) :
    ReturnsInHanded {} Try.checked os 10 .any (Rows.fnDecideUnknownSpec.pre6 enc Try.prog Try.f10 Rows.fnDecideUnknownRow.domain false) (Rows.fnDecideUnknownSpec.post enc Try.prog Try.f10 false true false false) := by
  refine returnsInHanded_of_change (C := Try.checked) Try.own started (by kernel_rfl) Try.func10
    (ChangeSpec.witness6 (enc := enc) (C := Try.checked) false ⟨#[], #[.slice none 0 0], []⟩ 8 (by kernel_rfl) (by kernel_rfl) (by kernel_rfl) (by kernel_rfl)) ?_
  intro W base args ds gs before hval0 hW hcnd _
  have hval : ∀ (j : Nat) t v, Try.f10.params[j]? = some t → args[j]? = some v → Value.okWide Try.prog W .any base t v := hval0
  have hW' := hW
  obtain ⟨p, q, hA0, hV, rfl, hfz, hnd⟩ := hW
  have hA : DataW.TrodAll enc Try.prog W 0 (fun _ => true) true Try.f10.params.toList args.toList ds p := hA0
  rw [Try.params10] at hA hval
  obtain ⟨v0, vs0, d0, ds0, p0, q0, hargs, rfl, rfl, h0, r0⟩ := trodAll_cons hA
  obtain ⟨rfl, rfl, rfl⟩ := trodAll_nil r0
  obtain rfl : args = #[v0] := by cases args; simp_all
  obtain ⟨rfl, rfl⟩ := trodVars_none hV
  have k0 := h0
  have lt0 : ∀ x ∈ p0, x.block < W.heap.size := by obtain ⟨m, hm⟩ := k0; exact DataW.trod_lt m _ _ _ hm
  obtain ⟨a0, len0, cap0, rfl⟩ := okWide_slice Try.underlying22 (hval 0 22 v0 rfl rfl)
  obtain ⟨z0, w0⟩ := open_row (k := .u8) Try.underlying22 Try.underlying5 (by kernel_rfl) h0 (fun _ => rfl)
  clear hA0 hval0
  refine (walk a0 len0 cap0 z0 W w0).mono fun e W' ⟨he, bel⟩ => ?_
  subst he
  exact ⟨_, rfl, _, _, _, [], _, [], hW', trodAll_mk1 (shut_bool Try.underlying4 _), (trodAll_cons_mk (Below.trod Try.laidOut (by kernel_rfl) (of_decide_eq_true (by kernel_rfl)) k0 bel lt0) trodAll_mk0), rfl, bel.frame _, fun h => by cases h⟩

theorem proved : Rows.FnDecideUnknownSaid :=
  OpenClaim.holds_of_wide 10 Try.f10 rfl rfl rfl rfl rfl rfl rfl ⟨rfl, rfl, rfl, rfl, rfl⟩ rfl rfl rfl rfl rfl (by kernel_rfl) Try.func10 (by kernel_rfl)
    (of_decide_eq_true (by kernel_rfl)) (by unfold Func.isWrapper; first | (rw [if_pos (by decide +kernel)]; kernel_rfl) | (rw [if_neg (by decide +kernel)]; exact ⟨rfl, rfl⟩))
    (fun os started H enc _ => lifted os started H enc)

#print axioms proved
end Go.Proofs.Ytgnhanbdfohjaaa.fnDecideUnknown
