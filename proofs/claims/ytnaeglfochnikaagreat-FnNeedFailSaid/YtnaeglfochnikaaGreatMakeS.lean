/-
  The walks of the reference's l2Longest and DeltaMake: each answers what the plain functions say. Condition: lengths fit an int64.
-/
import Derived.Test.YtnaeglfochnikaaGreatZ2
import Derived.Test.YtnaeglfochnikaaGreatZ4
import Derived.Test.YtnaeglfochnikaaGreatZ5
import Derived.StillTailTactics
namespace Go.Proofs.YtnaeglfochnikaaGreat
set_option linter.unusedVariables false
set_option linter.unusedSimpArgs false
open Go.RowKit

theorem ret_ii' {a b c d : Int} (h : a = c) (k : b = d) : Ending.returned (.tuple #[.int .i64 a, .int .i64 b]) = .returned (.tuple #[.int .i64 c, .int .i64 d]) := by rw [h, k]
theorem lcp_end (x y : List UInt8) (n : Nat) (h : n ≤ lcp x y) (he : ¬ (n < x.length ∧ n < y.length)) : lcp x y = n := by
  have h1 := lcp_left x y
  have h2 := lcp_right x y
  omega

set_option maxHeartbeats 800000 in
set_option maxRecDepth 100000 in
theorem l2Longest_any (b t : ByteArray) (w : World) (hb : b.size ≤ 8) (ht : t.size ≤ 8) :
    Calls Tryz.prog 82 #[.string b, .string t] w fun e w' => e = .returned (.tuple #[.int .i64 ((bestB b t).1 : Nat), .int .i64 ((bestB b t).2 : Nat)]) ∧ ∃ q, w' = w.drewN q := by
  go_enter Tryz.func82, Tryz.ntmps82
  go_wp2_with fail
  go_loopw [6, 7, 8] (fun a m i wr => ∃ (k A M : Nat), k ≤ b.size ∧ i = .int .i64 k ∧ a = .int .i64 A ∧ m = .int .i64 M ∧ Hid ((A, M) = bestTo b.data.toList t.data.toList k) ∧ M ≤ 8 ∧ ∃ q, wr = w.drewN q) (fun _ _ i _ => b.size - (intOf i).toNat)
  case atStart => exact ⟨0, 0, 0, Nat.zero_le _, rfl, rfl, rfl, rfl, by omega, 0, rfl⟩
  case round =>
    obtain ⟨k, A, M, hk, rfl, rfl, rfl, HE, hM, q, rfl⟩ := hrel
    by_cases hlt : k < b.size
    · go_wp2_with fail
      go_loopw [9] (fun n wr => ∃ (j : Nat), n = .int .i64 j ∧ j ≤ lcp (b.data.toList.drop k) t.data.toList ∧ ∃ q, wr = w.drewN q) (fun n _ => 8 - (intOf n).toNat)
      case atStart => exact ⟨0, rfl, Nat.zero_le _, q, rfl⟩
      case round =>
        obtain ⟨j, rfl, hj, q2, rfl⟩ := hrel
        have hjl := lcp_left (b.data.toList.drop k) t.data.toList
        have hjr := lcp_right (b.data.toList.drop k) t.data.toList
        rw [List.length_drop, len_data] at hjl
        rw [len_data] at hjr
        have hw1 : IntKind.i64.wrap ((k : Int) + (j : Int)) = (k : Int) + (j : Int) := IntWalk.i64_in _ (by omega)
        have hd3 : (0 : Int) ≤ (k : Int) + (j : Int) := by omega
        have hd4 : ((k : Int) + (j : Int)).toNat = k + j := by omega
        by_cases h1 : j < t.size
        · have hd1 : decide ((j : Int) < (t.size : Int)) = true := by simp; omega
          by_cases h2 : k + j < b.size
          · have hd2 : decide ((k : Int) + (j : Int) < (b.size : Int)) = true := by simp; omega
            by_cases h3 : b[k + j] = t[j]
            · have hmore := lcp_more (b.data.toList.drop k) t.data.toList j (by rw [List.length_drop, len_data]; omega) (by rw [len_data]; exact h1) hj (by rw [List.getElem_drop]; exact h3)
              go_wp2_with fail
              go_quiet (fail)
              go_wp2_with fail
              exact ⟨⟨j + 1, by go_num, hmore, q2 + nq, rfl⟩, by simp [intOf]; omega⟩
            · have hdone := lcp_done (b.data.toList.drop k) t.data.toList j (by rw [List.length_drop, len_data]; omega) (by rw [len_data]; exact h1) hj (by rw [List.getElem_drop]; exact h3)
              have HN := Lib.hid hdone
              have hj8 : j ≤ 8 := by omega
              have h4 : (((b[k + j].toNat : Nat) : Int) == ((t[j].toNat : Nat) : Int)) = false := by
                rw [beq_eq_false_iff_ne]
                exact fun e => h3 (UInt8.toNat_inj.1 (Int.ofNat.inj e))
              have HJ := Lib.hid h3
              have hi2 : (k : Int) + (j : Int) < (b.size : Int) := by omega
              clear hdone h3 hj hjl hjr
              go_wp2_with fail
              go_quiet (fail)
              by_cases hm : M < j
              · have HE2 : Hid ((k, j) = bestTo b.data.toList t.data.toList (k + 1)) := by
                  have h5 := HE.out
                  show (k, j) = _
                  rw [bestTo_yes (by rw [← h5, HN.out]; exact hm), HN.out]
                go_wp2_with fail
                exact ⟨⟨k + 1, k, j, by omega, by go_num, rfl, rfl, HE2, hj8, q2 + nq, rfl⟩, by simp [intOf]; omega⟩
              · have HE2 : Hid ((A, M) = bestTo b.data.toList t.data.toList (k + 1)) := by
                  have h5 := HE.out
                  show (A, M) = _
                  rw [bestTo_no (by rw [← h5, HN.out]; exact hm)]; exact h5
                go_wp2_with fail
                exact ⟨⟨k + 1, A, M, by omega, by go_num, rfl, rfl, HE2, hM, q2 + nq, rfl⟩, by simp [intOf]; omega⟩
          · have hd2 : decide ((k : Int) + (j : Int) < (b.size : Int)) = false := by simp; omega
            have HN := Lib.hid (lcp_end (b.data.toList.drop k) t.data.toList j hj (by rw [List.length_drop, len_data, len_data]; omega))
            have hj8 : j ≤ 8 := by omega
            clear hj hjl hjr
            go_wp2_with fail
            go_quiet (fail)
            by_cases hm : M < j
            · have HE2 : Hid ((k, j) = bestTo b.data.toList t.data.toList (k + 1)) := by
                have h5 := HE.out
                show (k, j) = _
                rw [bestTo_yes (by rw [← h5, HN.out]; exact hm), HN.out]
              go_wp2_with fail
              exact ⟨⟨k + 1, k, j, by omega, by go_num, rfl, rfl, HE2, hj8, q2 + nq, rfl⟩, by simp [intOf]; omega⟩
            · have HE2 : Hid ((A, M) = bestTo b.data.toList t.data.toList (k + 1)) := by
                have h5 := HE.out
                show (A, M) = _
                rw [bestTo_no (by rw [← h5, HN.out]; exact hm)]; exact h5
              go_wp2_with fail
              exact ⟨⟨k + 1, A, M, by omega, by go_num, rfl, rfl, HE2, hM, q2 + nq, rfl⟩, by simp [intOf]; omega⟩
        · have hd1 : decide ((j : Int) < (t.size : Int)) = false := by simp; omega
          have HN := Lib.hid (lcp_end (b.data.toList.drop k) t.data.toList j hj (by rw [List.length_drop, len_data, len_data]; omega))
          have hj8 : j ≤ 8 := by omega
          clear hj hjl hjr
          go_wp2_with fail
          go_quiet (fail)
          by_cases hm : M < j
          · have HE2 : Hid ((k, j) = bestTo b.data.toList t.data.toList (k + 1)) := by
              have h5 := HE.out
              show (k, j) = _
              rw [bestTo_yes (by rw [← h5, HN.out]; exact hm), HN.out]
            go_wp2_with fail
            exact ⟨⟨k + 1, k, j, by omega, by go_num, rfl, rfl, HE2, hj8, q2 + nq, rfl⟩, by simp [intOf]; omega⟩
          · have HE2 : Hid ((A, M) = bestTo b.data.toList t.data.toList (k + 1)) := by
              have h5 := HE.out
              show (A, M) = _
              rw [bestTo_no (by rw [← h5, HN.out]; exact hm)]; exact h5
            go_wp2_with fail
            exact ⟨⟨k + 1, A, M, by omega, by go_num, rfl, rfl, HE2, hM, q2 + nq, rfl⟩, by simp [intOf]; omega⟩
    · have hkn : k = b.size := by omega
      subst hkn
      go_wp2_with fail
      go_ret2
      exact ⟨ret_ii' (by unfold bestB; rw [← HE.out]) (by unfold bestB; rw [← HE.out]), q, rfl⟩

theorem own_row_ex' {w : World} {base n c size : Nat} {e : TypeId} {A : Option Addr} {cs : List Value} (h : w.ownsRow base e size (.slice A n c) n cs) (hn : 0 < n) : ∃ g, A = some ⟨g, 0, none⟩ ∧ base ≤ g ∧ g < w.heap.size := by
  have h0 := h
  rcases h.2 with ⟨h1, rfl⟩ | ⟨g, cap, cur, h1, h2, _⟩
  · omega
  · injection h1 with h3 h4 h5
    subst h3
    exact ⟨g, rfl, h2, (h0.lt g rfl).2⟩
theorem flat_join (o : OpD) (r : List OpD) (t : ByteArray) : (((o :: r).reverse).flatMap co).set (r.length * 3 + 2) (.string t) = ((⟨o.at_, o.size, t⟩ :: r : List OpD).reverse).flatMap co := by
  rw [List.reverse_cons, List.reverse_cons, List.flatMap_append, List.flatMap_append, List.set_append_right _ _ (by rw [flat_len co 3 co_len, List.length_reverse]; omega), flat_len co 3 co_len, List.length_reverse]
  congr 1
  rw [show r.length * 3 + 2 - r.length * 3 = 2 from by omega]
  rfl
theorem flat_snoc3 (o : OpD) (r : List OpD) : r.reverse.flatMap co ++ co o = ((o :: r : List OpD).reverse).flatMap co := by
  rw [List.reverse_cons, List.flatMap_append]; simp

set_option maxHeartbeats 1600000 in
set_option maxRecDepth 100000 in
theorem specMake_any (b t : ByteArray) (w : World) (hbs : b.size ≤ 9223372036854775807) (hts : t.size ≤ 9223372036854775807) :
    Calls Tryz.prog 57 #[.string b, .string t] w fun e w' => ∃ v, w'.ownsRow w.heap.size 96 3 v (makeB b t).length ((makeB b t).flatMap co) ∧ Below w.heap.size w w' ∧ e = .returned v := by
  have HNIL := Lib.hid (own_nil_lit w 96 3)
  by_cases hbig : 8 < b.size
  · have hno := Lib.hid (makeB_no (b := b) (t := t) (.inl hbig))
    go_enter Tryz.func57, Tryz.ntmps57
    go_wp2_with fail
    go_ret
    exact ⟨_, by rw [hno.out]; exact HNIL.out, (Below.refl _ _).alloc (Nat.le_refl _) _, rfl⟩
  by_cases hbig2 : 8 < t.size
  · have hno := Lib.hid (makeB_no (b := b) (t := t) (.inr hbig2))
    go_enter Tryz.func57, Tryz.ntmps57
    go_wp2_with fail
    go_ret
    exact ⟨_, by rw [hno.out]; exact HNIL.out, (Below.refl _ _).alloc (Nat.le_refl _) _, rfl⟩
  have hb8 : b.size ≤ 8 := by omega
  have ht8 : t.size ≤ 8 := by omega
  clear hbig hbig2 hbs hts
  have HY := Lib.hid (makeB_yes hb8 ht8)
  go_enter Tryz.func57, Tryz.ntmps57
  go_wp2_with fail
  go_loopw [1, 5] (fun x l wr => ∃ (s : ByteArray) (r : List OpD), x = .string s ∧ s.size ≤ 8 ∧ MkI b t s r ∧ Hid (mkD b s r = mkD b t []) ∧ wr.ownsRow w.heap.size 96 3 l r.length (r.reverse.flatMap co) ∧ Below w.heap.size w wr) (fun x _ _ => strLen x)
  case atStart => exact ⟨t, [], rfl, ht8, ⟨by simp [catD], by simp, by simp⟩, rfl, HNIL.out, (Below.refl _ _).alloc (Nat.le_refl _) _⟩
  case round =>
    obtain ⟨s, r, rfl, hs8, hI, HE, hown, hb⟩ := hrel
    obtain ⟨A, c, rfl, hrc, hcm, -⟩ := Rd.of_own hown
    have HI := Lib.hid hI
    have HO := Lib.hid hown
    have HB := Lib.hid hb
    have hwsz := hb.size
    have hlen : r.length ≤ 8 := by
      have h1 := hI.len
      have h2 := congrArg ByteArray.size hI.cat
      rw [ByteArray.size_append] at h2
      omega
    clear hI hown hb
    by_cases h0 : 0 < s.size
    · have hrr := bestB_right b s
      have hll := bestB_left b s
      by_cases hc : 2 ≤ (bestB b s).2
      · have htk : Hid (takeD b s = (bestB b s).2) := Lib.hid (if_pos hc)
        have hst := HI.out.step h0 ht8 hb8
        have hmk := mkD_step (b := b) (r := r) h0
        rw [htk.out, addD_copy hc] at hst hmk
        have HST := Lib.hid hst
        have HMK := Lib.hid hmk
        clear hst hmk
        go_wp2_with fail
        refine (l2Longest_any b s _ hb8 hs8).mono ?_
        rintro e w2 ⟨rfl, q, rfl⟩
        go_wp2_with (at_builtin; go_must (refine wpList_app Tryz.elOp ((own_drew HO.out q).alloc _) (rd_new _ (co ⟨(bestB b s).1, (bestB b s).2, ByteArray.empty⟩) _) rfl (by simp [Value.oneCell', co]) (by unfold maxLen; omega) (by omega) (by simp; omega) rfl rfl rfl rfl ?_); intro v' w4 hown4 hg4)
        have HB4 : Below w.heap.size w w4 := below_app ((below_drewN HB.out q).alloc hwsz _) (Nat.le_refl _) (by simp; omega) ((own_drew HO.out q).alloc _) hg4
        rw [flat_snoc3] at hown4
        exact ⟨⟨_, _, rfl, by rw [ByteArray.size_extract]; omega, HST.out, Lib.hid (HMK.out.symm.trans HE.out), hown4, HB4⟩, by simp [strLen, ByteArray.size_extract]; omega⟩
      · have htk : Hid (takeD b s = 1) := Lib.hid (if_neg hc)
        have hst := HI.out.step h0 ht8 hb8
        have hmk := mkD_step (b := b) (r := r) h0
        rw [htk.out] at hst hmk
        rcases r with _ | ⟨o, r⟩
        · rw [addD_nil hc] at hst hmk
          have HST := Lib.hid hst
          have HMK := Lib.hid hmk
          clear hst hmk
          go_wp2_with fail
          refine (l2Longest_any b s _ hb8 hs8).mono ?_
          rintro e w2 ⟨rfl, q, rfl⟩
          go_wp2_with (at_builtin; go_must (refine wpList_app Tryz.elOp ((own_drew HO.out q).alloc _) (rd_new _ (co ⟨0, 0, s.extract 0 1⟩) _) rfl (by simp [Value.oneCell', co]) (by unfold maxLen; omega) (by omega) (by simp; omega) rfl rfl rfl rfl ?_); intro v' w4 hown4 hg4)
          have HB4 : Below w.heap.size w w4 := below_app ((below_drewN HB.out q).alloc hwsz _) (Nat.le_refl _) (by simp; omega) ((own_drew HO.out q).alloc _) hg4
          rw [flat_snoc3] at hown4
          exact ⟨⟨_, _, rfl, by rw [ByteArray.size_extract]; omega, HST.out, Lib.hid (HMK.out.symm.trans HE.out), hown4, HB4⟩, by simp [strLen, ByteArray.size_extract]; omega⟩
        · have hof := HI.out.fit o (List.mem_cons_self ..)
          have htx : o.text.size ≤ 8 := fit_text hof
          clear hof
          obtain ⟨g, rfl, hgb, hgl⟩ := own_row_ex' HO.out (by simp)
          have hget : (((o :: r).reverse).flatMap co)[r.length * 3 + 0]? = some (.int .i64 o.at_) ∧ (((o :: r).reverse).flatMap co)[r.length * 3 + 1]? = some (.int .i64 o.size) ∧ (((o :: r).reverse).flatMap co)[r.length * 3 + 2]? = some (.string o.text) := by
            have hk : r.length < ((o :: r).reverse).length := by simp
            have h1 := flat_get co 3 co_len ((o :: r).reverse) r.length hk
            have h2 : ((o :: r).reverse)[r.length] = o := by simp
            rw [h2] at h1
            exact ⟨h1 0 (by omega), h1 1 (by omega), h1 2 (by omega)⟩
          have hc1 : wr.cell? ⟨g, r.length * 3 + 1, none⟩ = some (.int .i64 o.size) := (HO.out.cellAt _ (by simp; omega)).trans hget.2.1
          have hc2 : wr.cell? ⟨g, r.length * 3 + 2, none⟩ = some (.string o.text) := (HO.out.cellAt _ (by simp; omega)).trans hget.2.2
          have hfz : wr.frozen? ⟨g, r.length * 3 + 2, none⟩ = false := HO.out.frozenAt _
          have hrl : r.length ≤ 7 := by simp at hlen; omega
          have hix : (r.length : Int) < (r.length : Int) + 1 := by omega
          clear hget
          by_cases ho : o.size = 0
          · have hd : (o.size == 0) = true := by simp [ho]
            rw [addD_join hc ho] at hst hmk
            have HST := Lib.hid hst
            have HMK := Lib.hid hmk
            clear hst hmk
            clear ho
            go_wp2_with fail
            refine (l2Longest_any b s _ hb8 hs8).mono ?_
            rintro e w2 ⟨rfl, q, hw2⟩
            have hc1' : w2.cell? ⟨g, r.length * 3 + 1, none⟩ = some (.int .i64 o.size) := by rw [hw2]; exact hc1
            have hc2' : w2.cell? ⟨g, r.length * 3 + 2, none⟩ = some (.string o.text) := by rw [hw2]; exact hc2
            have hfz' : w2.frozen? ⟨g, r.length * 3 + 2, none⟩ = false := by rw [hw2]; exact hfz
            have HO2 : Hid (w2.ownsRow w.heap.size 96 3 (.slice (some ⟨g, 0, none⟩) (o :: r).length c) (o :: r).length ((o :: r).reverse.flatMap co)) := Lib.hid (by rw [hw2]; exact own_drew HO.out q)
            have HB2 : Hid (Below w.heap.size w w2) := Lib.hid (by rw [hw2]; exact below_drewN HB.out q)
            clear hw2 hc1 hc2 hfz
            have h2 : (1 : Int) ≤ (s.size : Int) := by omega
            have hn1 : ¬ (9223372036854775807 < o.text.size + min 1 s.size) := by omega
            have hn2 : o.text.size + min 1 s.size ≤ 9223372036854775807 := by omega
            go_wp2_with fail
            go_still_tail 12, (by kernel_rfl)
            change wpList _ _ _ _ _ w2.drew
            go_wp2_with fail
            have hst2 := (HO2.out.stored (r.length * 3 + 2) (.string (o.text ++ s.extract 0 1))).1
            rw [flat_join] at hst2
            exact ⟨⟨_, ⟨o.at_, o.size, o.text ++ s.extract 0 1⟩ :: r, rfl, by rw [ByteArray.size_extract]; omega, HST.out, Lib.hid (HMK.out.symm.trans HE.out), hst2, below_drewN (HB2.out.setCell hgb _) 1⟩, by simp [strLen, ByteArray.size_extract]; omega⟩
          · have hd : (o.size == 0) = false := by simp [ho]
            rw [addD_ins hc ho] at hst hmk
            have HST := Lib.hid hst
            have HMK := Lib.hid hmk
            clear hst hmk
            clear ho
            go_wp2_with fail
            refine (l2Longest_any b s _ hb8 hs8).mono ?_
            rintro e w2 ⟨rfl, q, rfl⟩
            go_wp2_with (at_builtin; go_must (refine wpList_app Tryz.elOp ((own_drew HO.out q).alloc _) (rd_new _ (co ⟨0, 0, s.extract 0 1⟩) _) rfl (by simp [Value.oneCell', co]) (by unfold maxLen; omega) (by omega) (by simp; omega) rfl rfl rfl rfl ?_); intro v' w4 hown4 hg4)
            have HB4 : Below w.heap.size w w4 := below_app ((below_drewN HB.out q).alloc hwsz _) (Nat.le_refl _) (by simp; omega) ((own_drew HO.out q).alloc _) hg4
            rw [flat_snoc3] at hown4
            exact ⟨⟨_, _, rfl, by rw [ByteArray.size_extract]; omega, HST.out, Lib.hid (HMK.out.symm.trans HE.out), hown4, HB4⟩, by simp [strLen, ByteArray.size_extract]; omega⟩
    · have hs0 : s.size = 0 := by omega
      have hmk := mkD_nil (b := b) (r := r) hs0
      have HMK := Lib.hid hmk
      clear hmk
      go_wp2_with fail
      go_ret
      exact ⟨_, by rw [HY.out, ← HE.out, HMK.out, List.length_reverse]; exact HO.out, HB.out, rfl⟩

end Go.Proofs.YtnaeglfochnikaaGreat
