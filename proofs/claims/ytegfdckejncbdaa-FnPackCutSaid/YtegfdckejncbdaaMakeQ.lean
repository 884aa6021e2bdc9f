/-
  The walks of the reference's DeltaSize, l3Best and PackMake: a pack of objects, in new memory. Condition: lengths are small.
-/
import Derived.Test.YtegfdckejncbdaaDrawQ
import Derived.Test.YtegfdckejncbdaaMakeS
namespace Go.Proofs.Ytegfdckejncbdaa
set_option linter.unusedVariables false
set_option linter.unusedSimpArgs false
open Go.RowKit

theorem makeB_text {b t : ByteArray} : ∀ o ∈ makeB b t, o.text.size ≤ 8 := by
  intro o ho
  by_cases h1 : b.size ≤ 8
  · by_cases h2 : t.size ≤ 8
    · exact fit_text (okD_fit (make_ok h1 h2).1 o ho)
    · rw [makeB_no (.inr (by omega))] at ho; cases ho
  · rw [makeB_no (.inl (by omega))] at ho; cases ho

theorem specMake_ex (b t : ByteArray) (w : World) (hbs : b.size ≤ 9223372036854775807) (hts : t.size ≤ 9223372036854775807) :
    Calls Try.prog 68 #[.string b, .string t] w fun e w' => ∃ (xs : List OpD) (A : Option Addr) (n c : Nat), n ≤ 8 ∧ n ≤ c ∧ c ≤ 9223372036854775807 ∧ Hid (xs.length = n) ∧ Hid (∀ o ∈ xs, o.text.size ≤ 8) ∧ w'.ownsRow w.heap.size 87 3 (.slice A n c) n (xs.flatMap co) ∧ Below w.heap.size w w' ∧ e = .returned (.slice A n c) := by
  refine (specMake_any b t w hbs hts).mono ?_
  rintro e w' ⟨v, h1, h2, rfl⟩
  obtain ⟨A, c, rfl, hc, hm, -⟩ := Rd.of_own h1
  exact ⟨makeB b t, A, _, c, make_len, hc, hm, rfl, makeB_text, h1, h2, rfl⟩

set_option maxHeartbeats 800000 in
set_option maxRecDepth 100000 in
theorem specSize_any (A : Option Addr) (n c : Nat) (xs : List OpD) (w : World) (lo hi : Nat) (hn : n ≤ 1000) (h : Fl co w lo hi A n xs) (ht : ∀ o ∈ xs, o.text.size ≤ 1000) :
    Calls Try.prog 73 #[.slice A n c] w fun e w' => (∃ q : Nat, q ≤ 1001 * n ∧ e = .returned (.int .i64 (q : Int))) ∧ w = w' := by
  have HI := Lib.hid h
  have HT := Lib.hid ht
  clear h ht
  go_enter Try.func73, Try.ntmps73
  go_wp2_with fail
  go_loop [3, 4] (fun t i => ∃ k q : Nat, k ≤ n ∧ i = .int .i64 k ∧ t = .int .i64 (q : Int) ∧ q ≤ 1001 * k) (fun _ i => n - (intOf i).toNat)
  case atStart => exact ⟨0, 0, Nat.zero_le _, rfl, rfl, by omega⟩
  case round =>
    obtain ⟨k, q, hk, rfl, rfl, hq⟩ := hrel
    by_cases hlt : k < n
    · obtain ⟨b, o, hl, rfl, _, hbh, hc1, hc2, hc3⟩ := fl_op HI.out hlt
      have htx := HT.out xs[k] (List.getElem_mem hl)
      go_wp2_with fail
      go_round
      case rel => exact ⟨k + 1, q + 1 + xs[k].text.size, by omega, by go_num, by go_num, by omega⟩
      case measure => simp [intOf]; omega
    · have hkn : k = n := by omega
      subst hkn
      go_wp2_with fail
      go_ret
      exact ⟨⟨q, hq, rfl⟩, rfl⟩

/-- every base comes earlier -/
def basesOk (ps : List PED) : Prop := ∀ i (h : i < ps.length), -1 ≤ ps[i].base ∧ ps[i].base ≤ (i : Int) - 1
theorem basesOk_all {ps : List PED} (h : basesOk ps) (n : Nat) (hn : n ≤ ps.length) : allTo (baseOk ps) n = true := by
  rw [allTo_iff]
  intro k hk
  rw [baseOk_iff, base_at (by omega : k < ps.length)]
  exact h k (by omega)
theorem basesOk_snoc {ps : List PED} (h : basesOk ps) (e : PED) (h1 : -1 ≤ e.base) (h2 : e.base ≤ (ps.length : Int) - 1) : basesOk (ps ++ [e]) := by
  intro i hi
  rw [List.getElem_append]
  split
  · exact h i _
  · rename_i hge
    have : i = ps.length := by simp at hi; omega
    subst this
    simpa using ⟨h1, h2⟩

set_option maxHeartbeats 1600000 in
set_option maxRecDepth 100000 in
theorem l3Best_any (ps : List PED) (os : List ObjD) (A B : Option Addr) (n c m d : Nat) (t : ByteArray) (w : World) (lo hi lo' hi' : Nat) (hh : hi ≤ w.heap.size) (hh' : hi' ≤ w.heap.size) (hn : n ≤ 1000) (hnm : n ≤ m) (ht : t.size ≤ 9) (ho : ∀ o ∈ os, smallO o)
    (h : D.rd w lo hi (dPackEntrys ps) (.slice A n c)) (h' : D.rd w lo' hi' (dObjects os) (.slice B m d)) (hB : basesOk ps) :
    Calls Try.prog 67 #[.slice A n c, .slice B m d, .string t] w fun e w' => (∃ r : Int, -1 ≤ r ∧ r ≤ (n : Int) - 1 ∧ e = .returned (.int .i64 r)) ∧ Below w.heap.size w w' := by
  have HI := Lib.hid h
  have HJ := Lib.hid h'
  have HO := Lib.hid ho
  have HBS : Hid (∀ k, k ≤ n → allTo (baseOk ps) k = true) := fun k hk => basesOk_all hB k (by have := h.len.1; omega)
  have hm63 : m ≤ 9223372036854775807 := by have := h'.len; omega
  clear h h' ho hB
  go_enter Try.func67, Try.ntmps67
  go_wp2_with fail
  refine (specMake_ex ⟨#[]⟩ t _ (by decide) (by omega)).mono ?_
  rintro e w1 ⟨xs1, A1, n1, c1, hn1, hc11, hc12, HL1, HX1, hown1, hb1, rfl⟩
  have HF1 : Hid (Fl co w1 w.heap.size w1.heap.size A1 n1 xs1) := by
    obtain ⟨A', c', e, -, -, hr⟩ := Rd.of_own hown1
    injection e with e1 e2 e3
    subst e1
    exact ⟨HL1.out, hr⟩
  have HB1 := Lib.hid hb1
  clear hown1 hb1
  go_wp2_with fail
  refine (specSize_any A1 n1 c1 xs1 _ _ _ (by omega) HF1.out (fun o ho => by have := HX1.out o ho; omega)).mono ?_
  rintro e w2 ⟨⟨q1, hq1, rfl⟩, rfl⟩
  clear HF1
  go_wp2_with fail
  go_loopw [7, 8, 9] (fun b s i wr => ∃ (k q : Nat) (r : Int), k ≤ n ∧ i = .int .i64 k ∧ b = .int .i64 r ∧ -1 ≤ r ∧ r ≤ (k : Int) - 1 ∧ s = .int .i64 (q : Int) ∧ q ≤ 10000 ∧ Below w.heap.size w wr) (fun _ _ i _ => n - (intOf i).toNat)
  case atStart => exact ⟨0, q1, -1, Nat.zero_le _, rfl, rfl, by omega, by omega, rfl, by omega, HB1.out⟩
  case round =>
    obtain ⟨k, q, r, hk, rfl, rfl, hr1, hr2, rfl, hq, hb⟩ := hrel
    have HB := Lib.hid hb
    have hws := hb.size
    clear hb
    by_cases hlt : k < n
    · obtain ⟨b2, o2, hl2, A2, n2, c2, rfl, -, hb2h, -, -, ht2, -, -⟩ := rd_Object (HJ.out.below HB.out hh') (k := k) (by omega)
      have hs2 : os[k].text.size ≤ 9 := (HO.out _ (List.getElem_mem hl2)).2
      go_wp2_with fail
      refine (specMake_ex os[k].text t _ (by omega) (by omega)).mono ?_
      rintro e w3 ⟨xs3, A3, n3, c3, hn3, hc31, hc32, HL3, HX3, hown3, hb3, rfl⟩
      have HF3 : Hid (Fl co w3 wr.heap.size w3.heap.size A3 n3 xs3) := by
        obtain ⟨A', c', e, -, -, hr⟩ := Rd.of_own hown3
        injection e with e1 e2 e3
        subst e1
        exact ⟨HL3.out, hr⟩
      have HB3 := Lib.hid (bel_tr HB.out (Nat.le_refl _) hb3)
      clear hown3 hb3 ht2
      go_wp2_with fail
      refine (specSize_any A3 n3 c3 xs3 _ _ _ (by omega) HF3.out (fun o ho => by have := HX3.out o ho; omega)).mono ?_
      rintro e w4 ⟨⟨q3, hq3, rfl⟩, rfl⟩
      clear HF3
      by_cases hlt3 : (q3 : Int) < q
      · obtain ⟨dp, hdp⟩ : ∃ dp, dp = depP ps k := ⟨_, rfl⟩
        have hdpk : dp ≤ k := by rw [hdp]; exact depP_le k
        go_wp2_with fail
        refine (l3Depth_any ps A n c k _ lo hi (by omega) (HI.out.below HB3.out hh) (HBS.out (k + 1) (by omega)) hlt).mono ?_
        rintro e w5 ⟨rfl, rfl⟩
        rw [← hdp]
        clear hdp
        by_cases hd2 : (dp : Int) < 2
        · go_wp2_with fail
          go_roundw
          case rel => exact ⟨k + 1, q3, k, by omega, by go_num, rfl, by omega, by omega, rfl, by omega, HB3.out⟩
          case measure => simp [intOf]; omega
        · go_wp2_with fail
          go_roundw
          case rel => exact ⟨k + 1, q, r, by omega, by go_num, rfl, hr1, by omega, rfl, by omega, HB3.out⟩
          case measure => simp [intOf]; omega
      · go_wp2_with fail
        go_roundw
        case rel => exact ⟨k + 1, q, r, by omega, by go_num, rfl, hr1, by omega, rfl, by omega, HB3.out⟩
        case measure => simp [intOf]; omega
    · have hkn : k = n := by omega
      subst hkn
      go_wp2_with fail
      go_ret
      exact ⟨⟨r, hr1, hr2, rfl⟩, HB.out⟩

end Go.Proofs.Ytegfdckejncbdaa
