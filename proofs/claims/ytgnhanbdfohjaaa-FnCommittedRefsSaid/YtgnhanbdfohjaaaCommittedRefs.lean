/-
  For every code: ShardCommitted of a drawn shard answers as the reference, and the refs are those that the committed transactions leave, one behind the other. No condition.
-/
import Derived.Test.YtgnhanbdfohjaaaShRefs
namespace Go.Proofs.Ytgnhanbdfohjaaa.fnCommittedRefs
set_option linter.unusedVariables false
set_option linter.unusedSimpArgs false
open Go.ChangeShapes Go.WideShapes Go.ChangeAt Go.RowKit

set_option maxRecDepth 100000 in
set_option maxHeartbeats 1600000 in
theorem walk (a0 : Option Addr) (len0 cap0 : Nat) (z0 : List Int) (w : World) (w0 : IsRow .u8 w a0 len0 cap0 z0) :
    Calls Try.prog 8 #[.slice a0 len0 cap0] w fun e w' => e = .returned (.bool true) ∧ Below w.heap.size w w' := by
  have hn := w0.bd
  have HI := Lib.hid w0
  clear w0
  by_cases hbig : 1048576 < len0
  · go_enter Try.func8, Try.ntmps8
    go_wp2
    go_ret
    exact ⟨rfl, Below.refl _ _⟩
  · have hs_len0 : len0 ≤ 1048576 := by omega
    clear hbig
    go_enter Try.func8, Try.ntmps8
    go_wp2_with fail
    refine (drawShardCommitted_any _ _ _ z0 _ HI.out).mono ?_
    rintro e w1 ⟨A, n, c, rs, ⟨hd, hrec, hnc, hcm, hn31, hn4, hb1⟩, rfl⟩
    have HC := Lib.hid (calm_drawn hd)
    have HX1 := Lib.hid (Bx.mk0 (c := c) hrec)
    have HB1 : Hid (Below w.heap.size w (w1.alloc (.cells #[.slice A n c] 25))) := hb1.alloc hb1.size _
    have HN4 := Lib.hid hn4
    clear hd hrec hn4 hb1
    go_wp2_with fail
    refine (implCommitted_any A n c rs _ w.heap.size (by omega) hnc hcm HX1.out.recs HC.out).mono ?_
    rintro e w2 ⟨B1, m1, d1, rfl, hmd1, hd1, hF1, hb2⟩
    have HX2 := Lib.hid (HX1.out.bel hb2)
    have HB2 := Lib.hid (below_tr HB1.out (Nat.le_refl _) hb2)
    have k2 := HX2.out.cell
    have l2 := HX2.out.lt
    have HF2 := Lib.hid (hF1.low (lo' := w.heap.size) HB1.out.size)
    clear hF1 hb2
    go_wp2_with fail
    refine (specCommitted_any A n c rs _ w.heap.size (by omega) hnc hcm HB2.out.size HX2.out.recs).mono ?_
    rintro e w3 ⟨B2, m2, d2, rfl, hmd2, hd2, hG1, hb3⟩
    obtain rfl : m2 = m1 := hG1.1.symm.trans HF2.out.1
    have HX3 := Lib.hid (HX2.out.bel hb3)
    have HB3 := Lib.hid (below_tr HB2.out (Nat.le_refl _) hb3)
    have k3 := HX3.out.cell
    have l3 := HX3.out.lt
    have HF3 := Lib.hid (HF2.out.bel hb3)
    have HG3 := Lib.hid (hG1.low (lo' := w.heap.size) HB2.out.size)
    have hm63 : m2 ≤ 9223372036854775807 := by omega
    clear hG1 hb3
    go_wp2_with fail
    refine (sameInts_any B1 B2 m2 d1 d2 (comV (abs rs)) _ _ _ _ _ hm63 HF3.out HG3.out).mono ?_
    rintro e w4 ⟨rfl, q4, rfl⟩
    go_wp2_with fail
    refine (specValid_any A n c rs (w3.drewN q4) w.heap.size hnc hcm HB3.out.size (HX3.out.recs.drewN q4)).mono ?_
    rintro e w5 ⟨rfl, hb5⟩
    have HX5 := Lib.hid ((HX3.out.drewN q4).bel hb5)
    have HB5 := Lib.hid (below_tr (below_draw HB3.out q4) (Nat.le_refl _) hb5)
    have k5 := HX5.out.cell
    have l5 := HX5.out.lt
    have HF5 := Lib.hid ((HF3.out.drewN q4).bel hb5)
    have HG5 := Lib.hid ((HG3.out.drewN q4).bel hb5)
    clear hb5
    rcases hv : shardB (abs rs) with _ | _
    · go_wp2_with fail
      refine (sameInts_any B1 B2 m2 d1 d2 (comV (abs rs)) _ _ _ _ _ hm63 HF5.out HG5.out).mono ?_
      rintro e w6 ⟨rfl, q6, rfl⟩
      go_wp2_with fail
      go_ret
      exact ⟨rfl, below_draw HB5.out q6⟩
    · have HV := Lib.hid hv
      have HCV := Lib.hid (comV_yes hv)
      have HRF := Lib.hid (refs_fold (hist_valid hv))
      have hf5 := HF5.out
      rw [HCV.out] at hf5
      have HF6 := Lib.hid (hf5.alloc (.cells #[.int .i64 (-1), .int .i64 (-1), .int .i64 (-1), .int .i64 (-1)] 3))
      have HX6 := Lib.hid (HX5.out.alloc (.cells #[.int .i64 (-1), .int .i64 (-1), .int .i64 (-1), .int .i64 (-1)] 3))
      have HB6 : Hid (Below w.heap.size w (w5.alloc (.cells #[.int .i64 (-1), .int .i64 (-1), .int .i64 (-1), .int .i64 (-1)] 3))) := HB5.out.alloc HB5.out.size _
      have hlit : TabX (w5.alloc (.cells #[.int .i64 (-1), .int .i64 (-1), .int .i64 (-1), .int .i64 (-1)] 3)) w5.heap.size 3 [-1, -1, -1, -1] [] := by
        have := heap_alloc_new w5 (.cells #[.int .i64 (-1), .int .i64 (-1), .int .i64 (-1), .int .i64 (-1)] 3)
        simpa [TabX] using this
      have HL6 := Lib.hid (hlit.fl (base := w.heap.size) HB5.out.size)
      clear hf5 hlit HF5 HG5 HX5 HB5 k5 l5 HX3 HB3 HF3 HG3 k3 l3 HX2 HB2 HF2 k2 l2 HX1 HB1
      go_wp2_with fail
      go_loopw [6, 7] (fun v u wr => ∃ (i : Nat) (B : Option Addr) (d : Nat), i ≤ m2 ∧ u = .int .i64 i ∧ v = .slice B 4 d ∧ FlH ci wr w.heap.size B 4 (foldP (abs rs) ((comL (abs rs)).take i)) ∧ Bx w.heap.size wr w1.heap.size A n c rs ∧ FlH ci wr w.heap.size B1 m2 (comL (abs rs)) ∧ Below w.heap.size w wr) (fun _ u _ => m2 - (intOf u).toNat)
      case atStart => exact ⟨0, _, _, Nat.zero_le _, rfl, rfl, HL6.out, HX6.out, HF6.out, HB6.out⟩
      case round =>
        obtain ⟨i, B, d, hi, rfl, rfl, hl, hx, hf, hb⟩ := hrel
        have HLR := Lib.hid hl
        have HXR := Lib.hid hx
        have HFR := Lib.hid hf
        have HBR := Lib.hid hb
        have kr := hx.cell
        have lr := hx.lt
        clear hl hx hf hb HL6 HX6 HF6 HB6
        by_cases hlt : i < m2
        · obtain ⟨b1, o1, hil, rfl, _, hbl1, hci⟩ := Fl.int HFR.out hlt
          obtain ⟨ti, hti⟩ : ∃ ti, (comL (abs rs))[i] = ti := ⟨_, rfl⟩
          rw [hti] at hci
          have HAP : Hid (applyB (foldP (abs rs) ((comL (abs rs)).take i)) (prepU (abs rs) ti) = true) := HRF.out.2 _ ((comL (abs rs)).drop (i + 1)) ti (by rw [← hti, ← List.drop_eq_getElem_cons hil, List.take_append_drop])
          have HNX : Hid (foldP (abs rs) ((comL (abs rs)).take (i + 1)) = setR (foldP (abs rs) ((comL (abs rs)).take i)) (prepU (abs rs) ti)) := by
            show _ = _
            rw [List.take_succ_eq_append_getElem hil, foldP_snoc, hti]
          have HCI := Lib.hid hci
          have HRL := Lib.hid HXR.out.recs.1.1
          have HIZ : Hid (FlH ci wr w.heap.size B 4 (innR (abs rs) ti (foldP (abs rs) ((comL (abs rs)).take i)) 0)) := HLR.out
          generalize hR : foldP (abs rs) ((comL (abs rs)).take i) = R at *
          clear hti hR hci kr lr
          go_wp2_with fail
          go_loopw [6, 8] (fun v u wq => ∃ (k : Nat) (B : Option Addr) (d : Nat), k ≤ n ∧ u = .int .i64 k ∧ v = .slice B 4 d ∧ FlH ci wq w.heap.size B 4 (innR (abs rs) ti R k) ∧ Bx w.heap.size wq w1.heap.size A n c rs ∧ FlH ci wq w.heap.size (some ⟨b1, o1, none⟩) m2 (comL (abs rs)) ∧ wq.cell? ⟨b1, o1 + i, none⟩ = some (.int .i64 ti) ∧ b1 < wq.heap.size ∧ Below w.heap.size w wq) (fun _ u _ => n - (intOf u).toNat)
          case atStart => exact ⟨0, _, _, Nat.zero_le _, rfl, rfl, HIZ.out, HXR.out, HFR.out, HCI.out, hbl1, HBR.out⟩
          case round =>
            obtain ⟨k, B, d, hk, rfl, rfl, hl, hx, hf, hci, hbl, hb⟩ := hrel
            have HLQ := Lib.hid hl
            have HXQ := Lib.hid hx
            have HFQ := Lib.hid hf
            have HCQ := Lib.hid hci
            have HBQ := Lib.hid hb
            have kq := hx.cell
            have lq := hx.lt
            clear hl hx hf hb HIZ HXR HFR HBR HLR
            by_cases hkl : k < n
            · obtain ⟨b, o, hll, rfl, _, hblt, hc0, hc1, hc2, hin⟩ := HXQ.out.recs.at_ hkl
              have hle : k < (abs rs).length := by rw [abs_len]; exact hll
              have he : (abs rs)[k] = rs[k].ab := abs_at hll
              have HSK : Hid (¬ (rs[k].txn = ti ∧ rs[k].kind = 1) → innR (abs rs) ti R (k + 1) = innR (abs rs) ti R k) := fun h => innR_skip hle (by rw [he]; exact h)
              have HTK : Hid (rs[k].txn = ti → rs[k].kind = 1 → innR (abs rs) ti R k = R ∧ innR (abs rs) ti R (k + 1) = setR R rs[k].us ∧ prepU (abs rs) ti = rs[k].us) := fun h1 h2 => by
                have := innR_take (t := ti) (hist_valid HV.out) (R := R) hle (by rw [he]; exact h1) (by rw [he]; exact h2)
                rw [he] at this; exact this
              have HIN := Lib.hid hin.1
              have hr4 := HN4.out _ (List.getElem_mem hll)
              have hrb := hin.2
              clear hle he hin
              by_cases ht : rs[k].txn = ti
              · have htb : (rs[k].txn == ti) = true := by simpa using ht
                by_cases hkd : rs[k].kind = 1
                · obtain ⟨e1, e2, e3⟩ := HTK.out ht hkd
                  have hap := HAP.out
                  rw [e3] at hap
                  have hlq := HLQ.out
                  rw [e1] at hlq
                  have HLQ' := Lib.hid hlq
                  have HAP' := Lib.hid hap
                  have HNXT := Lib.hid e2
                  have hkb : (rs[k].kind == 1) = true := by simpa using hkd
                  clear HSK HTK e1 e2 e3 hap hlq ht hkd
                  go_wp2_with fail
                  go_quiet (fail)
                  go_wp2_with fail
                  refine (implAns4_any B rs[k].A 4 d rs[k].n rs[k].c R rs[k].us (wr.drewN nq) w.heap.size w.heap.size w.heap.size (by omega) (by omega) HBQ.out.size HAP'.out (HLQ'.out.drewN nq) (HIN.out.drewN nq)).mono ?_
                  rintro e w7 ⟨B7, d7, rfl, hl7, hb7'⟩
                  have hb7 : Below wr.heap.size wr w7 := ⟨hb7'.os, hb7'.tape, hb7'.output, hb7'.size, hb7'.block⟩
                  have HL7 := Lib.hid hl7
                  have HBL7 := Lib.hid hb7
                  clear hl7 hb7 hb7'
                  go_wp2_with fail
                  exact ⟨⟨k + 1, B7, d7, by omega, by go_num, rfl, by rw [HNXT.out]; exact HL7.out, HXQ.out.bel HBL7.out, HFQ.out.bel HBL7.out, (HBL7.out.cell hbl).trans HCQ.out, Nat.lt_of_lt_of_le hbl HBL7.out.size, below_tr HBQ.out (Nat.le_refl _) HBL7.out⟩, by simp [intOf]; omega⟩
                · have hkb : (rs[k].kind == 1) = false := by simpa using hkd
                  have HS := Lib.hid (HSK.out (fun h => hkd h.2))
                  clear HSK HTK ht hkd
                  go_wp2_with fail
                  go_quiet (fail)
                  go_wp2_with fail
                  exact ⟨⟨k + 1, B, d, by omega, by go_num, rfl, by rw [HS.out]; exact HLQ.out.drewN nq, HXQ.out.drewN nq, HFQ.out.drewN nq, HCQ.out, hbl, below_draw HBQ.out nq⟩, by simp [intOf]; omega⟩
              · have htb : (rs[k].txn == ti) = false := by simpa using ht
                have HS := Lib.hid (HSK.out (fun h => ht h.1))
                clear HSK HTK ht
                go_wp2_with fail
                go_quiet (fail)
                go_wp2_with fail
                exact ⟨⟨k + 1, B, d, by omega, by go_num, rfl, by rw [HS.out]; exact HLQ.out.drewN nq, HXQ.out.drewN nq, HFQ.out.drewN nq, HCQ.out, hbl, below_draw HBQ.out nq⟩, by simp [intOf]; omega⟩
            · have hkn : k = n := by omega
              subst hkn
              have hla := HLQ.out
              rw [innR_all _ _ _ (by rw [abs_len]; exact HRL.out), ← HNX.out] at hla
              have HLA := Lib.hid hla
              clear hla
              go_wp2_with fail
              exact ⟨⟨i + 1, B, d, by omega, by go_num, rfl, HLA.out, HXQ.out, HFQ.out, HBQ.out⟩, by simp [intOf]; omega⟩
        · have him : i = m2 := by omega
          subst him
          have hla := HLR.out
          rw [List.take_of_length_le (by rw [HFR.out.1]; exact Nat.le_refl _), ← HRF.out.1] at hla
          have HLA := Lib.hid hla
          clear hla
          go_wp2_with fail
          refine (implRecover_any A n c rs _ w.heap.size hnc hcm HXR.out.recs HC.out).mono ?_
          rintro e w7 ⟨A1, k1, c1, A2, k2, c2, x1, x2, hF1, hF2, hy, -, hb7, rfl⟩
          obtain ⟨rfl, rfl, rfl, rfl⟩ := hy HV.out
          rw [HV.out]
          have HR7 := Lib.hid ((hF1.low (lo' := w.heap.size) HBR.out.size).alloc (.cells #[.slice A1 4 c1, .slice A2 4 c2] 30))
          have HL7 := Lib.hid ((HLA.out.bel hb7).alloc (.cells #[.slice A1 4 c1, .slice A2 4 c2] 30))
          have HB7 : Hid (Below w.heap.size w (w7.alloc (.cells #[.slice A1 4 c1, .slice A2 4 c2] 30))) := (below_tr HBR.out (Nat.le_refl _) hb7).alloc (below_tr HBR.out (Nat.le_refl _) hb7).size _
          clear hF1 hF2 hy hb7
          go_wp2_with fail
          refine (sameInts_any A1 B 4 c1 d _ _ _ _ _ _ (by omega) HR7.out HL7.out).mono ?_
          rintro e w8 ⟨rfl, q8, rfl⟩
          go_wp2_with fail
          go_ret
          exact ⟨rfl, below_draw HB7.out q8⟩

set_option linter.unusedVariables false
set_option maxRecDepth 100000 in
theorem lifted (os : Os) (started : os.Started) (H : Type) (enc : TypeId × Value → H) :
    ReturnsInHanded {} Try.checked os 8 .any (Rows.fnCommittedRefsSpec.pre6 enc Try.prog Try.f8 Rows.fnCommittedRefsRow.domain false) (Rows.fnCommittedRefsSpec.post enc Try.prog Try.f8 false true false false) := by
  refine returnsInHanded_of_change (C := Try.checked) Try.own started (by kernel_rfl) Try.func8
    (ChangeSpec.witness6 (enc := enc) (C := Try.checked) false ⟨#[], #[.slice none 0 0], []⟩ 8 (by kernel_rfl) (by kernel_rfl) (by kernel_rfl) (by kernel_rfl)) ?_
  intro W base args ds gs before hval0 hW hcnd _
  have hval : ∀ (j : Nat) t v, Try.f8.params[j]? = some t → args[j]? = some v → Value.okWide Try.prog W .any base t v := hval0
  have hW' := hW
  obtain ⟨p, q, hA0, hV, rfl, hfz, hnd⟩ := hW
  have hA : DataW.TrodAll enc Try.prog W 0 (fun _ => true) true Try.f8.params.toList args.toList ds p := hA0
  rw [Try.params8] at hA hval
  obtain ⟨v0, vs0, d0, ds0, p0, q0, hargs, rfl, rfl, h0, r0⟩ := trodAll_cons hA
  obtain ⟨rfl, rfl, rfl⟩ := trodAll_nil r0
  obtain rfl : args = #[v0] := by cases args; simp_all
  obtain ⟨rfl, rfl⟩ := trodVars_none hV
  have k0 := h0
  have lt0 : ∀ x ∈ p0, x.block < W.heap.size := by obtain ⟨m, hm⟩ := k0; exact DataW.trod_lt m _ _ _ hm
  obtain ⟨a0, len0, cap0, rfl⟩ := okWide_slice Try.underlying22 (hval 0 22 v0 rfl rfl)
  obtain ⟨z0, w0⟩ := open_row (k := .u8) Try.underlying22 Try.underlying5 (by kernel_rfl) h0 (fun _ => rfl)
  clear hA0 hval0
  refine (walk a0 len0 cap0 z0 W w0).mono fun e W' ⟨he, bel⟩ => ?_
  subst he
  exact ⟨_, rfl, _, _, _, [], _, [], hW', trodAll_mk1 (shut_bool Try.underlying4 _), (trodAll_cons_mk (Below.trod Try.laidOut (by kernel_rfl) (of_decide_eq_true (by kernel_rfl)) k0 bel lt0) trodAll_mk0), rfl, bel.frame _, fun h => by cases h⟩

theorem proved : Rows.FnCommittedRefsSaid :=
  OpenClaim.holds_of_wide 8 Try.f8 rfl rfl rfl rfl rfl rfl rfl ⟨rfl, rfl, rfl, rfl, rfl⟩ rfl rfl rfl rfl rfl (by kernel_rfl) Try.func8 (by kernel_rfl)
    (of_decide_eq_true (by kernel_rfl)) (by unfold Func.isWrapper; first | (rw [if_pos (by decide +kernel)]; kernel_rfl) | (rw [if_neg (by decide +kernel)]; exact ⟨rfl, rfl⟩))
    (fun os started H enc _ => lifted os started H enc)

#print axioms proved
end Go.Proofs.Ytgnhanbdfohjaaa.fnCommittedRefs
