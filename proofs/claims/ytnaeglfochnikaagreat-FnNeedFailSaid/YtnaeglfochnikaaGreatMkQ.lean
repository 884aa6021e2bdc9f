/-
  The walks of the reference's l3Best and PackMake over valid objects: the pack that the plain law says, in new memory. Condition: few objects.
-/
import Derived.Test.YtnaeglfochnikaaGreatZ14
import Derived.Test.YtnaeglfochnikaaGreatPackS9
import Derived.Test.YtnaeglfochnikaaGreatTObject
import Derived.Deep.RegionHeldLaw
namespace Go.Proofs.YtnaeglfochnikaaGreat
set_option linter.unusedVariables false
set_option linter.unusedSimpArgs false
open Go.RowKit

theorem specMake_fl (b t : ByteArray) (w : World) (hbs : b.size ≤ 9223372036854775807) (hts : t.size ≤ 9223372036854775807) :
    Calls Tryz.prog 57 #[.string b, .string t] w fun e w' => ∃ (A : Option Addr) (c : Nat), w'.ownsRow w.heap.size 96 3 (.slice A (makeB b t).length c) (makeB b t).length ((makeB b t).flatMap co) ∧ Hid (Fl co w' w.heap.size w'.heap.size A (makeB b t).length (makeB b t)) ∧ Below w.heap.size w w' ∧ e = .returned (.slice A (makeB b t).length c) := by
  refine (specMake_any b t w hbs hts).mono ?_
  rintro e w' ⟨v, h1, h2, rfl⟩
  obtain ⟨A, c, rfl, hc, hm, hr⟩ := Rd.of_own h1
  exact ⟨A, c, h1, Lib.hid ⟨rfl, hr⟩, h2, rfl⟩

set_option maxHeartbeats 1600000 in
set_option maxRecDepth 100000 in
theorem l3Best_ex (ps : List PED) (os : List ObjD) (A B : Option Addr) (n c m d : Nat) (t : ByteArray) (w : World) (lo hi lo' hi' : Nat) (hh : hi ≤ w.heap.size) (hh' : hi' ≤ w.heap.size) (hn : n ≤ 1000) (hnm : n ≤ m) (ht : t.size ≤ 9) (ho : ∀ o ∈ os, objB o = true)
    (h : D.rd w lo hi (dPackEntrys ps) (.slice A n c)) (h' : D.rd w lo' hi' (dObjects os) (.slice B m d)) (hB : allTo (baseOk ps) n = true) :
    Calls Tryz.prog 56 #[.slice A n c, .slice B m d, .string t] w fun e w' => e = .returned (.int .i64 (bstTo ps os t n)) ∧ Below w.heap.size w w' := by
  have HI := Lib.hid h
  have HJ := Lib.hid h'
  have HO := Lib.hid ho
  have HBS : Hid (∀ k, k ≤ n → allTo (baseOk ps) k = true) := Lib.hid fun k hk => (allTo_iff _ _).2 fun i hi => (allTo_iff _ _).1 hB i (by omega)
  have HML := Lib.hid h'.len.1
  have hm63 : m ≤ 9223372036854775807 := by have := h'.len; omega
  clear h h' ho hB
  go_enter Tryz.func56, Tryz.ntmps56
  go_wp2_with fail
  refine (specMake_fl ⟨#[]⟩ t _ (by decide) (by omega)).mono ?_
  rintro e w1 ⟨A1, c1, hown1, HF1, hb1, rfl⟩
  obtain ⟨l1, hl1⟩ : ∃ z, z = (makeB ⟨#[]⟩ t).length := ⟨_, rfl⟩
  have hl18 : l1 ≤ 8 := by rw [hl1]; exact make_len
  rw [← hl1] at HF1
  rw [← hl1]
  have HB1 := Lib.hid hb1
  clear hown1 hb1 hl1
  go_wp2_with fail
  refine (specSize_ex A1 l1 c1 (makeB ⟨#[]⟩ t) _ _ _ (by omega) HF1.out (fun o ho => by have := makeB_txt o ho; omega)).mono ?_
  rintro e w2 ⟨rfl, rfl⟩
  obtain ⟨q1, hq1⟩ : ∃ z, z = szO (makeB ⟨#[]⟩ t) := ⟨_, rfl⟩
  have HQ1 : Hid (q1 = dsz (txtO os (bstTo ps os t 0)) t) := Lib.hid (by rw [hq1]; unfold bstTo dsz; rw [txtO_no (by omega)]; rfl)
  have hq72 : q1 ≤ 72 := by rw [HQ1.out]; exact dsz_le _ _
  rw [← hq1]
  clear HF1 hq1
  go_wp2_with fail
  go_loopw [7, 8, 9] (fun b s i wr => ∃ (k q : Nat) (r : Int), k ≤ n ∧ i = .int .i64 k ∧ b = .int .i64 r ∧ Hid (r = bstTo ps os t k) ∧ s = .int .i64 (q : Int) ∧ q ≤ 10000 ∧ Hid (q = dsz (txtO os r) t) ∧ Below w.heap.size w wr) (fun _ _ i _ => n - (intOf i).toNat)
  case atStart => exact ⟨0, q1, -1, Nat.zero_le _, rfl, rfl, Lib.hid rfl, rfl, by omega, HQ1, HB1.out⟩
  case round =>
    obtain ⟨k, q, r, hk, rfl, rfl, HR, rfl, hq, HQ, hb⟩ := hrel
    have HB := Lib.hid hb
    have hws := hb.size
    clear hb
    by_cases hlt : k < n
    · obtain ⟨b2, o2, hl2, A2, n2, c2, rfl, -, hb2h, -, -, ht2, -, -⟩ := rd_Object (HJ.out.below HB.out hh') (k := k) (by omega)
      have hs2 : os[k].text.size ≤ 8 := (objB_and (HO.out _ (List.getElem_mem hl2))).2.2.1
      obtain ⟨tj, htj⟩ : ∃ z, z = os[k].text := ⟨_, rfl⟩
      rw [← htj] at ht2 hs2
      have HTJ : Hid (tj = txtO os (k : Int)) := Lib.hid (by rw [htj, txtO_at hl2])
      clear htj
      go_wp2_with fail
      refine (specMake_fl tj t _ (by omega) (by omega)).mono ?_
      rintro e w3 ⟨A3, c3, hown3, HF3, hb3, rfl⟩
      obtain ⟨l3, hl3⟩ : ∃ z, z = (makeB tj t).length := ⟨_, rfl⟩
      have hl38 : l3 ≤ 8 := by rw [hl3]; exact make_len
      rw [← hl3] at HF3
      rw [← hl3]
      have HB3 := Lib.hid (bel_tr HB.out (Nat.le_refl _) hb3)
      clear hown3 hb3 ht2 hl3
      go_wp2_with fail
      refine (specSize_ex A3 l3 c3 (makeB tj t) _ _ _ (by omega) HF3.out (fun o ho => by have := makeB_txt o ho; omega)).mono ?_
      rintro e w4 ⟨rfl, rfl⟩
      obtain ⟨q3, hq3⟩ : ∃ z, z = szO (makeB tj t) := ⟨_, rfl⟩
      have HQ3 : Hid (q3 = dsz (txtO os (k : Int)) t) := Lib.hid (by rw [hq3, ← HTJ.out]; rfl)
      have hq72 : q3 ≤ 72 := by rw [HQ3.out]; exact dsz_le _ _
      rw [← hq3]
      clear HF3 hq3
      by_cases hlt3 : q3 < q
      · have hlti : (q3 : Int) < (q : Int) := by omega
        obtain ⟨dp, hdp⟩ : ∃ dp, dp = depP ps k := ⟨_, rfl⟩
        have hdpk : dp ≤ k := by rw [hdp]; exact depP_le k
        have HDP := Lib.hid hdp
        clear hlt3
        go_wp2_with fail
        refine (l3Depth_any ps A n c k _ lo hi (by omega) (HI.out.below HB3.out hh) (HBS.out (k + 1) (by omega)) hlt).mono ?_
        rintro e w5 ⟨rfl, rfl⟩
        rw [← hdp]
        clear hdp
        by_cases hd2 : dp < 2
        · have hd2i : (dp : Int) < 2 := by omega
          have HRR : Hid ((k : Int) = bstTo ps os t (k + 1)) := Lib.hid ((bstTo_yes (by rw [← HR.out, ← HQ.out, ← HQ3.out]; omega) (by rw [← HDP.out]; exact hd2)).symm)
          clear hd2
          go_wp2_with fail
          go_roundw
          case rel => exact ⟨k + 1, q3, k, by omega, by go_num, rfl, HRR, rfl, by omega, HQ3, HB3.out⟩
          case measure => simp [intOf]; omega
        · have hd2i : ¬ ((dp : Int) < 2) := by omega
          have HRR : Hid (r = bstTo ps os t (k + 1)) := Lib.hid (by rw [bstTo_no (.inr (by rw [← HDP.out]; exact hd2))]; exact HR.out)
          clear hd2
          go_wp2_with fail
          go_roundw
          case rel => exact ⟨k + 1, q, r, by omega, by go_num, rfl, HRR, rfl, by omega, HQ, HB3.out⟩
          case measure => simp [intOf]; omega
      · have hlti : ¬ ((q3 : Int) < (q : Int)) := by omega
        have HRR : Hid (r = bstTo ps os t (k + 1)) := Lib.hid (by rw [bstTo_no (.inl (by rw [← HR.out, ← HQ.out, ← HQ3.out]; omega))]; exact HR.out)
        clear hlt3
        go_wp2_with fail
        go_roundw
        case rel => exact ⟨k + 1, q, r, by omega, by go_num, rfl, HRR, rfl, by omega, HQ, HB3.out⟩
        case measure => simp [intOf]; omega
    · have hkn : k = n := by omega
      subst hkn
      go_wp2_with fail
      go_ret
      exact ⟨ret_int HR.out, HB.out⟩

end Go.Proofs.YtnaeglfochnikaaGreat
