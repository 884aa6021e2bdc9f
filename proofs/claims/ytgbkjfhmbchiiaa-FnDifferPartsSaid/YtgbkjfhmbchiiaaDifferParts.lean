/-
  For every code: SnapshotDiffer of a drawn coordinator answers as the reference; the shards that one transaction turns have a part in it. No condition.
-/
import Derived.Test.YtgbkjfhmbchiiaaM14
import Derived.Test.YtgbkjfhmbchiiaaM16
import Derived.Test.YtgbkjfhmbchiiaaSnapE
import Derived.Test.YtgbkjfhmbchiiaaM17
import Derived.Test.YtgbkjfhmbchiiaaDifLaw
namespace Go.Proofs.Ytgbkjfhmbchiiaa.fnDifferParts
set_option linter.unusedVariables false
set_option linter.unusedSimpArgs false
open Go.ChangeShapes Go.WideShapes Go.ChangeAt Go.RowKit

theorem wf_small {n : Nat} {ts : List TxnD} {os : List Int} (h : DrB n ts os) : ∀ t ∈ ts, ∀ v ∈ t.votes, (Lit.int .i64 v).wf = true := fun t ht v hv => by
  have h1 := h.2.2 t ht v hv
  have h2 : v = -2 ∨ v = -1 ∨ v = 0 ∨ v = 1 := by omega
  rcases h2 with rfl | rfl | rfl | rfl <;> decide
theorem below_dn (w : World) : ∀ (k C : Nat), Below C w (w.drewN k)
  | 0, C => Below.refl _ _
  | k + 1, C => (below_dn w k C).trans (Below.refl _ _).drew

set_option maxRecDepth 100000 in
set_option maxHeartbeats 1600000 in
theorem walk (a0 : Option Addr) (len0 cap0 : Nat) (z0 : List Int) (w : World) (w0 : IsRow .u8 w a0 len0 cap0 z0) :
    Calls Try.prog 5 #[.slice a0 len0 cap0] w fun e w' => e = .returned (.bool true) ∧ Below w.heap.size w w' := by
  have hn := w0.bd
  have HI := Lib.hid w0
  clear w0
  by_cases hbig : 1048576 < len0
  · go_enter Try.func5, Try.ntmps5
    go_wp2
    go_ret
    exact ⟨rfl, Below.refl _ _⟩
  · have hs_len0 : len0 ≤ 1048576 := by omega
    clear hbig
    go_enter Try.func5, Try.ntmps5
    go_wp2_with fail
    refine (drawDiffer_any _ _ _ z0 _ HI.out).mono ?_
    rintro e w1 ⟨A0, c0, A1, c1, ts, os, a, b, hco, hdb, hb1, rfl⟩
    have HDB := Lib.hid hdb
    have HWF := Lib.hid (wf_small hdb)
    have ht12 : ts.length ≤ 1048576 := by have := hdb.1; omega
    have ho13 : os.length ≤ 1048576 := by have := hdb.2.1; omega
    obtain ⟨y, hy⟩ : ∃ y, y = w1.heap.size := ⟨_, rfl⟩
    obtain ⟨w2, hw2⟩ : ∃ w2, w2 = w1.alloc (.cells #[.slice A0 ts.length c0, .slice A1 os.length c1] 26) := ⟨_, rfl⟩
    have hb2 : Below w1.heap.size w1 w2 := by rw [hw2]; exact (Below.refl _ _).alloc (Nat.le_refl _) _
    have HB2 := Lib.hid (bel_tr hb1 (Nat.le_refl _) hb2)
    have HCO2 := Lib.hid (hco.fresh hb2)
    have HY2 : Hid (w2.heap[y]? = some (.cells #[.slice A0 ts.length c0, .slice A1 os.length c1] 26 (0, 0))) := by rw [hw2, hy]; exact Lib.hid (heap_alloc_new w1 _)
    clear hco hdb hb1
    go_upto_region 4 with (fail)
    rw [← hw2, ← hy]
    clear hw2 hy hb2
    have y0 : w2.cell? ⟨y, 0, none⟩ = some (.slice A0 ts.length c0) := cell_of_row _ _ _ _ _ _ HY2.out
    have y1 : w2.cell? ⟨y, 1, none⟩ = some (.slice A1 os.length c1) := cell_of_row _ _ _ _ _ _ HY2.out
    have hyl : y < w2.heap.size := hlt_of HY2.out
    go_wp2_with fail
    refine (implSnapD_any ts os a b A0 _ c0 A1 _ c1 w2 _ w2.heap.size (Nat.le_refl _) HCO2.out.rd.1 HCO2.out.rd.2 ht12 ho13 HWF.out).mono ?_
    rintro e w3 ⟨v3, m3, hv3, hm3, hb3, rfl⟩
    obtain ⟨B3, d3, rfl, -, -, -⟩ := Rd.of_own hv3
    have HV3 := Lib.hid (own_ints hv3).rd.ints
    have hwl3 : w2.heap.size ≤ w3.heap.size := hb3.size
    have HB3 := Lib.hid (bel_tr HB2.out (Nat.le_refl _) hb3)
    have HCO3 := Lib.hid (HCO2.out.fresh hb3)
    have HY3 := Lib.hid ((hb3.block _ hyl).trans HY2.out)
    have y30 : w3.cell? ⟨y, 0, none⟩ = some (.slice A0 ts.length c0) := cell_of_row _ _ _ _ _ _ HY3.out
    have y31 : w3.cell? ⟨y, 1, none⟩ = some (.slice A1 os.length c1) := cell_of_row _ _ _ _ _ _ HY3.out
    have hyl3 : y < w3.heap.size := hlt_of HY3.out
    clear hb3 hv3 y0 y1
    go_wp2_with fail
    refine (specSnapD_any ts os a b A0 _ c0 A1 _ c1 w3 _ w3.heap.size (Nat.le_refl _) HCO3.out.rd.1 HCO3.out.rd.2 ho13).mono ?_
    rintro e w4 ⟨v4, m4, hv4, hm4, hb4, rfl⟩
    obtain ⟨B4, d4, rfl, -, -, -⟩ := Rd.of_own hv4
    have HV4 := Lib.hid (own_ints hv4).rd.ints
    have HV34 := Lib.hid (HV3.out.below hb4 (Nat.le_refl _))
    have hmm : m4 = m3 := by have h1 := HV4.out.1; have h2 := HV3.out.1; omega
    subst hmm
    have HB4 := Lib.hid (bel_tr HB3.out (Nat.le_refl _) hb4)
    have HCO4 := Lib.hid (HCO3.out.fresh hb4)
    have HY4 := Lib.hid ((hb4.block _ hyl3).trans HY3.out)
    have y40 : w4.cell? ⟨y, 0, none⟩ = some (.slice A0 ts.length c0) := cell_of_row _ _ _ _ _ _ HY4.out
    have y41 : w4.cell? ⟨y, 1, none⟩ = some (.slice A1 os.length c1) := cell_of_row _ _ _ _ _ _ HY4.out
    have hyl4 : y < w4.heap.size := hlt_of HY4.out
    have hwl4 : w3.heap.size ≤ w4.heap.size := hb4.size
    clear hb4 hv4 y30 y31 HV3
    have hm60 : m4 ≤ 9223372036854775807 := by omega
    go_wp2_with fail
    refine (sameInts_any B3 B4 m4 d3 d4 (difL ⟨ts, os⟩ a b) w4 _ _ _ _ hm60 HV34.out HV4.out).mono ?_
    rintro e w5 ⟨rfl, k5, hw5⟩
    have hb5 : Below w4.heap.size w4 w5 := by rw [hw5]; exact below_dn w4 k5 _
    have HB5 := Lib.hid (bel_tr HB4.out (Nat.le_refl _) hb5)
    have HCO5 := Lib.hid (HCO4.out.fresh hb5)
    have HY5 := Lib.hid ((hb5.block _ hyl4).trans HY4.out)
    have HV35 := Lib.hid (HV34.out.below hb5 (by omega))
    have HV45 := Lib.hid (HV4.out.below hb5 (Nat.le_refl _))
    have y50 : w5.cell? ⟨y, 0, none⟩ = some (.slice A0 ts.length c0) := cell_of_row _ _ _ _ _ _ HY5.out
    have y51 : w5.cell? ⟨y, 1, none⟩ = some (.slice A1 os.length c1) := cell_of_row _ _ _ _ _ _ HY5.out
    have hyl5 : y < w5.heap.size := hlt_of HY5.out
    have hs45 : w4.heap.size ≤ w5.heap.size := hb5.size
    clear hb5 hw5 y40 y41
    go_wp2_with fail
    refine (specCoord_any ts os A0 _ c0 A1 _ c1 w5 _ w5.heap.size (Nat.le_refl _) HCO5.out.rd.1 HCO5.out.rd.2).mono ?_
    rintro e w6 ⟨rfl, hb6⟩
    have HB6 := Lib.hid (bel_tr HB5.out (Nat.le_refl _) hb6)
    have HCO6 := Lib.hid (HCO5.out.fresh hb6)
    have HY6 := Lib.hid ((hb6.block _ hyl5).trans HY5.out)
    have hs56 := hb6.size
    have HV36 := Lib.hid (HV35.out.below hb6 (by omega))
    have HV46 := Lib.hid (HV45.out.below hb6 hs45)
    have y60 : w6.cell? ⟨y, 0, none⟩ = some (.slice A0 ts.length c0) := cell_of_row _ _ _ _ _ _ HY6.out
    have y61 : w6.cell? ⟨y, 1, none⟩ = some (.slice A1 os.length c1) := cell_of_row _ _ _ _ _ _ HY6.out
    have hyl6 : y < w6.heap.size := hlt_of HY6.out
    clear hb6 y50 y51
    rcases hv : coordB ⟨ts, os⟩ with _ | _
    · clear hv
      go_wp2_with fail
      refine (sameInts_any B3 B4 m4 d3 d4 (difL ⟨ts, os⟩ a b) w6 _ _ _ _ hm60 HV36.out HV46.out).mono ?_
      rintro e w7 ⟨rfl, k7, hw7⟩
      have HB7 : Hid (Below w.heap.size w w7) := by rw [hw7]; exact Lib.hid (HB6.out.trans (below_dn w6 k7 _))
      clear hw7
      go_wp2_with fail
      go_ret
      exact ⟨rfl, HB7.out⟩
    · have HV := Lib.hid hv
      clear hv
      by_cases hbn : b = wrap64 (a + 1)
      · have hbn1 : (b != wrap64 (a + 1)) = false := by simp [hbn]
        have HBN := Lib.hid hbn
        clear hbn
        by_cases ha : a < 0
        · go_wp2_with fail
          refine (sameInts_any B3 B4 m4 d3 d4 (difL ⟨ts, os⟩ a b) w6 _ _ _ _ hm60 HV36.out HV46.out).mono ?_
          rintro e w7 ⟨rfl, k7, hw7⟩
          have HB7 : Hid (Below w.heap.size w w7) := by rw [hw7]; exact Lib.hid (HB6.out.trans (below_dn w6 k7 _))
          clear hw7
          go_wp2_with fail
          go_ret
          exact ⟨rfl, HB7.out⟩
        · have ha0 : 0 ≤ a := by omega
          clear ha
          go_wp2_with fail
          go_loopw [8] (fun i wr => ∃ k : Nat, k ≤ m4 ∧ i = .int .i64 k ∧ Below w6.heap.size w6 wr) (fun i _ => m4 - (intOf i).toNat)
          case atStart => exact ⟨0, Nat.zero_le _, rfl, Below.refl _ _⟩
          case round =>
            obtain ⟨k, hk, rfl, hb⟩ := hrel
            obtain ⟨wo, hwo⟩ : ∃ wo, wo = wr := ⟨_, rfl⟩
            subst hwo
            have HBR := Lib.hid (HB6.out.trans (hb.mono HB6.out.size))
            have HCOR := Lib.hid (HCO6.out.fresh hb)
            have HYR := Lib.hid ((hb.block _ hyl6).trans HY6.out)
            have HVR := Lib.hid (HV36.out.below hb (by omega))
            have HBW := Lib.hid hb
            have hyr := hlt_of HYR.out
            clear hb
            by_cases hlt : k < m4
            · obtain ⟨b8, o8, hl8, rfl, _, hb8, hc8⟩ := HVR.out.int hlt
              have hb8l : b8 < wo.heap.size := World.block_lt_of_cell? _ _ hc8
              obtain ⟨x, hx, hmem⟩ : ∃ x, (difL ⟨ts, os⟩ a b)[k] = x ∧ x ∈ difL ⟨ts, os⟩ a b := ⟨_, rfl, List.getElem_mem hl8⟩
              rw [hx] at hc8
              clear hx
              have hok : okSn ⟨ts, os⟩ a b = true := by
                rcases h : okSn ⟨ts, os⟩ a b with _ | _
                · rw [difL_no h] at hmem; cases hmem
                · rfl
              unfold okSn at hok
              simp only [Bool.and_eq_true, inR_iff] at hok
              obtain ⟨⟨-, -, hal⟩, -, hbl⟩ := hok
              obtain ⟨n, rfl⟩ : ∃ n : Nat, a = n := ⟨a.toNat, by omega⟩
              have hb1 : b = (n : Int) + 1 := by rw [HBN.out, ← IntWalk.i64_left, IntWalk.i64_in _ (by have := HDB.out.2.1; omega)]
              have hnl : n < os.length := by omega
              obtain ⟨j, hj, hje⟩ := dif_part (c := ⟨ts, os⟩) hnl (by rw [← hb1]; exact hmem)
              obtain ⟨h0, h1, -⟩ := ord_txn (c := ⟨ts, os⟩) HV.out hnl
              have h0' : 0 ≤ os[n] := h0
              obtain ⟨t, ht⟩ : ∃ t : Nat, os[n] = (t : Int) := ⟨os[n].toNat, by omega⟩
              have htl : t < ts.length := by have h2 : os[n].toNat < ts.length := h1; omega
              obtain ⟨b9, o9, hl9, he9, _, hb9, hc9⟩ := HCOR.out.rd.2.ints.int hnl
              subst he9
              rw [ht] at hc9
              obtain ⟨bt, ot, hlt', Ap, np, cp, Av, nv, cv, het, _, hbt, hcp, -, -, ⟨hp1, hp2, hp3⟩, -⟩ := rd_Txn HCOR.out.rd.1 (k := t) htl
              subst het
              have HP := Lib.hid hp3
              have hjp : ∃ (j : Nat) (hj : j < ts[t].parts.length), ts[t].parts[j].shard = x := by
                have e : (ts.getD os[n].toNat ⟨[], [], 0⟩) = ts[t] := by rw [show os[n].toNat = t by omega, List.getD_eq_getElem?_getD, List.getElem?_eq_getElem htl]; rfl
                have hj' : j < (ts.getD os[n].toNat ⟨[], [], 0⟩).parts.length := hj
                exact ⟨j, by rw [← e]; exact hj', by simp only [← e]; exact hje⟩
              have HJ := Lib.hid hjp
              have y0 : wo.cell? ⟨y, 0, none⟩ = some (.slice (some ⟨bt, ot, none⟩) ts.length c0) := cell_of_row _ _ _ _ _ _ HYR.out
              have y1 : wo.cell? ⟨y, 1, none⟩ = some (.slice (some ⟨b9, o9, none⟩) os.length c1) := cell_of_row _ _ _ _ _ _ HYR.out
              have hb9l : b9 < wo.heap.size := World.block_lt_of_cell? _ _ hc9
              have hbtl : bt < wo.heap.size := World.block_lt_of_cell? _ _ hcp
              have hnp63 : np ≤ 9223372036854775807 := by omega
              clear hjp hj hje hb1 hbl hal h0 h0' h1 hp1 hp2 hp3 hmem ht
              go_upto_region 12 with (fail)
              go_cut [10] (fun v wx => v = .slice Ap np cp ∧ Below wo.heap.size wo wx)
              case first =>
                go_region_with (fail)
                all_goals
                  go_wp2_with fail
                  go_meet
                  exact ⟨rfl, (Below.refl _ _).drew⟩
              case rest =>
                obtain ⟨rfl, hbc⟩ := hcut
                have HBC := Lib.hid hbc
                clear hbc y0 y1 hc9 hcp
                go_wp2_with fail
                go_loopw [9, 11] (fun f i wr => ∃ (j : Nat) (fb : Bool), j ≤ np ∧ i = .int .i64 j ∧ f = .bool fb ∧ Below wo.heap.size wo wr ∧ Hid (fb = decide (x ∈ (ts[t].parts.take j).map (·.shard)))) (fun _ i _ => np - (intOf i).toNat)
                case atStart => exact ⟨0, false, Nat.zero_le _, rfl, rfl, HBC.out, Lib.hid (by simp)⟩
                case round =>
                  obtain ⟨j, fb, hjn, rfl, rfl, hbs, HF⟩ := hrel
                  have HBS := Lib.hid hbs
                  have hws := hbs.size
                  have HPS := Lib.hid (HP.out.below hbs (Nat.le_refl _))
                  have hc8s : wr.cell? ⟨b8, o8 + k, none⟩ = some (.int .i64 x) := (hbs.cell (p := ⟨b8, o8 + k, none⟩) hb8l).trans hc8
                  have hb8s : b8 < wr.heap.size := Nat.lt_of_lt_of_le hb8l hws
                  clear hbs
                  by_cases hjl : j < np
                  · obtain ⟨bq, oq, hlq, Aq, nq, cq, rfl, _, hbq, hcq, _⟩ := rd_Part HPS.out hjl
                    have hbqs : bq < wr.heap.size := World.block_lt_of_cell? _ _ hcq
                    obtain ⟨y, hy⟩ : ∃ y, y = (ts[t].parts[j]).shard := ⟨_, rfl⟩
                    rw [← hy] at hcq
                    have HST : Hid ((fb || (y == x)) = decide (x ∈ (ts[t].parts.take (j + 1)).map (·.shard))) := by
                      show _ = _
                      rw [HF.out, hy, List.take_succ_eq_append_getElem hlq, List.map_append, Bool.eq_iff_iff]
                      simp only [Bool.or_eq_true, decide_eq_true_eq, beq_iff_eq, List.mem_append, List.map_cons, List.map_nil, List.mem_singleton]
                      rw [eq_comm (a := x)]
                    clear hy HF
                    rcases fb with _ | _
                    · rcases hyx : (y == x) with _ | _
                      · rw [hyx] at HST
                        go_wp2_with fail
                        go_quiet (fail)
                        go_wp2_with fail
                        exact ⟨⟨j + 1, _, by omega, by go_num, rfl, (below_drewN HBS.out _), HST⟩, by simp [intOf]; omega⟩
                      · rw [hyx] at HST
                        go_wp2_with fail
                        go_quiet (fail)
                        go_wp2_with fail
                        exact ⟨⟨j + 1, _, by omega, by go_num, rfl, (below_drewN HBS.out _), HST⟩, by simp [intOf]; omega⟩
                    · go_wp2_with fail
                      go_quiet (fail)
                      go_wp2_with fail
                      exact ⟨⟨j + 1, _, by omega, by go_num, rfl, (below_drewN HBS.out _), HST⟩, by simp [intOf]; omega⟩
                  · have hjn2 : j = np := by omega
                    have hfb : fb = true := by
                      rw [HF.out, decide_eq_true_eq, List.take_of_length_le (by have := HP.out.len.1; omega)]
                      obtain ⟨j', hj', he⟩ := HJ.out
                      exact List.mem_map.2 ⟨_, List.getElem_mem hj', he⟩
                    subst hjn2 hfb
                    go_wp2_with fail
                    exact ⟨⟨k + 1, by omega, by go_num, bel_tr HBW.out (Nat.le_refl _) HBS.out⟩, by simp [intOf]; omega⟩
            · have hkm : k = m4 := by omega
              subst hkm
              go_wp2_with fail
              go_ret
              exact ⟨rfl, HBR.out⟩
      · have hbn1 : (b != wrap64 (a + 1)) = true := by simpa using hbn
        clear hbn
        go_wp2_with fail
        refine (sameInts_any B3 B4 m4 d3 d4 (difL ⟨ts, os⟩ a b) w6 _ _ _ _ hm60 HV36.out HV46.out).mono ?_
        rintro e w7 ⟨rfl, k7, hw7⟩
        have HB7 : Hid (Below w.heap.size w w7) := by rw [hw7]; exact Lib.hid (HB6.out.trans (below_dn w6 k7 _))
        clear hw7
        go_wp2_with fail
        go_ret
        exact ⟨rfl, HB7.out⟩

set_option linter.unusedVariables false
set_option maxRecDepth 100000 in
theorem lifted (os : Os) (started : os.Started) (H : Type) (enc : TypeId × Value → H) :
    ReturnsInHanded {} Try.checked os 5 .any (Rows.fnDifferPartsSpec.pre6 enc Try.prog Try.f5 Rows.fnDifferPartsRow.domain false) (Rows.fnDifferPartsSpec.post enc Try.prog Try.f5 false true false false) := by
  refine returnsInHanded_of_change (C := Try.checked) Try.own started (by kernel_rfl) Try.func5
    (ChangeSpec.witness6 (enc := enc) (C := Try.checked) false ⟨#[], #[.slice none 0 0], []⟩ 8 (by kernel_rfl) (by kernel_rfl) (by kernel_rfl) (by kernel_rfl)) ?_
  intro W base args ds gs before hval0 hW hcnd _
  have hval : ∀ (j : Nat) t v, Try.f5.params[j]? = some t → args[j]? = some v → Value.okWide Try.prog W .any base t v := hval0
  have hW' := hW
  obtain ⟨p, q, hA0, hV, rfl, hfz, hnd⟩ := hW
  have hA : DataW.TrodAll enc Try.prog W 0 (fun _ => true) true Try.f5.params.toList args.toList ds p := hA0
  rw [Try.params5] at hA hval
  obtain ⟨v0, vs0, d0, ds0, p0, q0, hargs, rfl, rfl, h0, r0⟩ := trodAll_cons hA
  obtain ⟨rfl, rfl, rfl⟩ := trodAll_nil r0
  obtain rfl : args = #[v0] := by cases args; simp_all
  obtain ⟨rfl, rfl⟩ := trodVars_none hV
  have k0 := h0
  have lt0 : ∀ x ∈ p0, x.block < W.heap.size := by obtain ⟨m, hm⟩ := k0; exact DataW.trod_lt m _ _ _ hm
  obtain ⟨a0, len0, cap0, rfl⟩ := okWide_slice Try.underlying22 (hval 0 22 v0 rfl rfl)
  obtain ⟨z0, w0⟩ := open_row (k := .u8) Try.underlying22 Try.underlying5 (by kernel_rfl) h0 (fun _ => rfl)
  clear hA0 hval0
  refine (walk a0 len0 cap0 z0 W w0).mono fun e W' ⟨he, bel⟩ => ?_
  subst he
  exact ⟨_, rfl, _, _, _, [], _, [], hW', trodAll_mk1 (shut_bool Try.underlying4 _), (trodAll_cons_mk (Below.trod Try.laidOut (by kernel_rfl) (of_decide_eq_true (by kernel_rfl)) k0 bel lt0) trodAll_mk0), rfl, bel.frame _, fun h => by cases h⟩

theorem proved : Rows.FnDifferPartsSaid :=
  OpenClaim.holds_of_wide 5 Try.f5 rfl rfl rfl rfl rfl rfl rfl ⟨rfl, rfl, rfl, rfl, rfl⟩ rfl rfl rfl rfl rfl (by kernel_rfl) Try.func5 (by kernel_rfl)
    (of_decide_eq_true (by kernel_rfl)) (by unfold Func.isWrapper; first | (rw [if_pos (by decide +kernel)]; kernel_rfl) | (rw [if_neg (by decide +kernel)]; exact ⟨rfl, rfl⟩))
    (fun os started H enc _ => lifted os started H enc)

#print axioms proved
end Go.Proofs.Ytgbkjfhmbchiiaa.fnDifferParts
