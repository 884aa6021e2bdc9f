/-
  How arguments with depth are opened: a slice of numbers, a slice of structs with slices in them, as data. No condition.
  How an argument of type []laws.Object is opened, as data. No condition.
  How many numbers the objects of a law hold; how an argument of type []int is opened, as data. No condition.
  The walks of markOpS and heldOpS: numbers and texts are turned into marks; such marks are told. Condition: few elements, small marks.
  The walks of markPackEntryS and heldPackEntryS: numbers and texts are turned into marks; such marks are told. Condition: few elements, small marks.
-/
import Derived.Test.YtnaeglfochnikaaGreatZ5
import Derived.Test.YtnaeglfochnikaaGreatZ17
import Derived.Test.YtnaeglfochnikaaGreatTObject
import Derived.Test.YtnaeglfochnikaaGreatZ12
import Derived.Test.YtnaeglfochnikaaGreatZ13
namespace Go.Proofs.YtnaeglfochnikaaGreat
set_option linter.unusedVariables false
set_option linter.unusedSimpArgs false
open Go.ChangeShapes Go.WideShapes Go.Deep Go.RowKit

/-- fields that are told element by element -/
theorem rd_of_cells {α : Type} {f : α → List D} {m n c : Nat} (hf : ∀ x, (f x).length = m) (hm : 0 < m) {w : World} {a : Addr} {xs : List α} (hl : xs.length = n) (hn : n ≤ c) (hc : c ≤ 9223372036854775807)
    (h : ∀ i (hi : i < xs.length) j d, (f xs[i])[j]? = some d → ∃ u, w.cell? (a.add (i * m + j)) = some u ∧ D.rd w 0 w.heap.size d u) : D.rd w 0 w.heap.size (.arr m n (xs.flatMap f)) (.slice (some a) n c) := by
  subst hl
  have hfl := flat_lenG f m hf xs
  have key : ∀ q d, (xs.flatMap f)[q]? = some d → ∃ u, w.cell? (a.add q) = some u ∧ D.rd w 0 w.heap.size d u := by
    intro q d hd
    have hq : q < (xs.flatMap f).length := (List.getElem?_eq_some_iff.1 hd).1
    rw [hfl] at hq
    have hk : q / m < xs.length := Nat.div_lt_of_lt_mul (by rw [Nat.mul_comm]; exact hq)
    have e : q = q / m * m + q % m := by rw [Nat.mul_comm]; exact (Nat.div_add_mod q m).symm
    rw [e, flat_getG f m hf xs (q / m) hk (q % m) (Nat.mod_lt _ hm)] at hd
    have := h (q / m) hk (q % m) d hd
    rwa [← e] at this
  unfold D.rd
  refine ⟨some a, c, (List.range (xs.length * m)).map (fun q => (w.cell? (a.add q)).getD (.bool false)), rfl, hn, hc, hfl, fun hne => ?_, D.rdL.mk (by simp [hfl]) fun q d hd => ?_⟩
  · have h0 : 0 < xs.length * m := by
      rcases Nat.eq_zero_or_pos (xs.length * m) with h0 | h0
      · rw [h0] at hne; exact absurd rfl hne
      · exact h0
    obtain ⟨d, hd⟩ : ∃ d, (xs.flatMap f)[0]? = some d := ⟨_, List.getElem?_eq_getElem (by rw [hfl]; exact h0)⟩
    obtain ⟨u, hu, -⟩ := key 0 d hd
    have ha := addr_plain hu
    have hb : a.block < w.heap.size := World.block_lt_of_cell? w (a.add 0) hu
    refine ⟨a.block, a.off, by rw [← ha], Nat.zero_le _, hb, fun j u hu => ?_⟩
    have hj : j < xs.length * m := by
      have := (List.getElem?_eq_some_iff.1 hu).1
      simpa using this
    obtain ⟨d, hd⟩ : ∃ d, (xs.flatMap f)[j]? = some d := ⟨_, List.getElem?_eq_getElem (by rw [hfl]; exact hj)⟩
    obtain ⟨u', hu', -⟩ := key j d hd
    rw [List.getElem?_map, List.getElem?_range hj] at hu
    simp only [Option.map_some, hu', Option.getD_some, Option.some.injEq] at hu
    subst hu
    rw [← addr_lit hu']; exact hu'
  · obtain ⟨u, hu, hr⟩ := key q d hd
    have hq : q < xs.length * m := by
      have := (List.getElem?_eq_some_iff.1 hd).1
      rwa [hfl] at this
    exact ⟨u, by rw [List.getElem?_map, List.getElem?_range hq]; simp [hu], hr⟩
theorem rd_nil_arr (w : World) (lo hi m c : Nat) (A : Option Addr) (hc : c ≤ 9223372036854775807) : D.rd w lo hi (.arr m 0 []) (.slice A 0 c) := by
  unfold D.rd
  refine ⟨A, c, [], rfl, Nat.zero_le _, hc, by simp, Rd.nil _ _ _ _, ?_⟩
  unfold D.rdL; rfl

theorem openc_ints {H : Type} {enc : TypeId × Value → H} {w : World} {fuel : Nat} {cs : List Value} {x : DataW H × List MemPlace} (h : DataW.trod enc Tryz.prog w 0 (fun _ => true) true fuel 23 cs = some x) :
    ∃ A n c xs, cs = [.slice A n c] ∧ D.rd w 0 w.heap.size (intsD xs) (.slice A n c) := by
  rcases open_ints Tryz.underlying23 Tryz.underlying3 (by kernel_rfl) h with ⟨hcs, _⟩ | ⟨a, l, c, zs, hcs, _, hl, hm, hz, _, hcell, _⟩
  · exact ⟨none, 0, 0, [], hcs, rd_nil_arr _ _ _ _ _ _ (by omega)⟩
  · refine ⟨some a, l, c, zs.take l, hcs, ?_⟩
    have hz' : zs.length = c := by rw [hz]; simp
    have hlen : (zs.take l).length = l := by rw [List.length_take]; omega
    have e : intsD (zs.take l) = .arr 1 l ((zs.take l).flatMap fun x => [D.int x]) := by
      unfold intsD
      rw [hlen]
      congr 1
      induction (zs.take l) with
      | nil => rfl
      | cons y ys ih => simp [ih]
    rw [e]
    refine rd_of_cells (m := 1) (fun _ => rfl) (by omega) hlen hl (by unfold maxLen at hm; exact hm) fun i hi j d hd => ?_
    rcases j with _ | j
    · simp at hd
      subst hd
      have hi2 : i < zs.length := by rw [List.length_take] at hi; omega
      have := hcell i hi2
      rw [List.getD_eq_getElem?_getD, List.getElem?_eq_getElem hi2] at this
      refine ⟨_, by simpa using this, ?_⟩
      unfold D.rd
      simp
    · simp at hd

end Go.Proofs.YtnaeglfochnikaaGreat

namespace Go.Proofs.YtnaeglfochnikaaGreat
set_option linter.unusedVariables false
set_option linter.unusedSimpArgs false
open Go.ChangeShapes Go.WideShapes Go.Deep Go.RowKit

set_option maxRecDepth 100000 in
theorem openc_Object {H : Type} {enc : TypeId × Value → H} {w : World} {fuel : Nat} {cs : List Value} {x : DataW H × List MemPlace} (h : DataW.trod enc Tryz.prog w 0 (fun _ => true) true fuel 22 cs = some x) :
    ∃ A n c xs, cs = [.slice A n c] ∧ D.rd w 0 w.heap.size (dObjects xs) (.slice A n c) := by
  rcases open_slice_fields Tryz.underlying22 Tryz.underlying49 (by kernel_rfl) (by kernel_rfl) h with ⟨hcs, _⟩ | ⟨a, n, c, mm, DD, Pl, hcs, _, hl, hm, hmm, _, hi⟩
  · exact ⟨none, 0, 0, [], hcs, rd_nil_arr _ _ _ _ _ _ (by omega)⟩
  · have key : ∀ i, i < n → ∃ x : ObjD, ∀ j d, (fObject x)[j]? = some d → ∃ u, w.cell? (a.add (i * 3 + j)) = some u ∧ D.rd w 0 w.heap.size d u := by
      intro i hin
      obtain ⟨ys, q, _, _, _, hfl⟩ := hi i (by rw [hmm]; split <;> omega)
      obtain ⟨v0, y0, hc0, _, ht0⟩ := hfl 0 _ rfl
      obtain ⟨x0, e0, _, _⟩ := DataW.trod_int Tryz.underlying3 ht0
      simp at e0
      subst e0
      obtain ⟨v1, y1, hc1, _, ht1⟩ := hfl 1 _ rfl
      obtain ⟨A1, n1, c1, x1, e1, hr1⟩ := openc_ints ht1
      simp at e1
      subst e1
      obtain ⟨v2, y2, hc2, _, ht2⟩ := hfl 2 _ rfl
      obtain ⟨x2, e2, _, hx2⟩ := DataW.trod_string Tryz.underlying9 ht2
      simp at e2
      subst e2
      refine ⟨⟨x0, x1, x2⟩, fun j d hd => ?_⟩
      match j with
      | 0 =>
        simp [fObject] at hd
        subst hd
        refine ⟨_, hc0, ?_⟩
        unfold D.rd; rfl
      | 1 =>
        simp [fObject] at hd
        subst hd
        refine ⟨_, hc1, ?_⟩
        exact hr1
      | 2 =>
        simp [fObject] at hd
        subst hd
        refine ⟨_, hc2, ?_⟩
        unfold D.rd; exact ⟨rfl, by unfold maxLen at hx2; exact hx2⟩
      | j + 3 => simp [fObject] at hd
    obtain ⟨xs, hxl, hx⟩ := list_of n key
    refine ⟨some a, n, c, xs, hcs, ?_⟩
    unfold dObjects
    have h1 := rd_of_cells fObject_len (by omega) hxl hl (by unfold maxLen at hm; exact hm) hx
    rw [← hxl] at h1 ⊢
    exact h1

set_option maxRecDepth 100000 in
theorem open_Object {H : Type} {enc : TypeId × Value → H} {w : World} {v : Value} {d : DataW H} {pl : List MemPlace} (hv : Value.okWide Tryz.prog w .any 0 22 v)
    (h : DataW.Trod enc Tryz.prog w 0 (fun _ => true) true 22 v d pl) : ∃ A n c xs, v = .slice A n c ∧ D.rd w 0 w.heap.size (dObjects xs) (.slice A n c) := by
  obtain ⟨A, n, c, rfl⟩ := okWide_slice Tryz.underlying22 hv
  obtain ⟨fuel, hf⟩ := h
  obtain ⟨A2, n2, c2, xs, e, hr⟩ := openc_Object hf
  simp [Value.cells] at e
  obtain ⟨rfl, rfl, rfl⟩ := e
  exact ⟨_, _, _, xs, rfl, hr⟩

end Go.Proofs.YtnaeglfochnikaaGreat

namespace Go.Proofs.YtnaeglfochnikaaGreat
set_option linter.unusedVariables false
set_option linter.unusedSimpArgs false
open Go.ChangeShapes Go.WideShapes Go.Deep Go.RowKit

theorem cnt_dObjects (xs : List ObjD) : D.cnt (dObjects xs) ≤ 3 * D.sz (dObjects xs) :=
  cnt_arr_le fObject (fun x => by
    rw [szL_fObject]
    unfold fObject
    simp only [cntL_cons, cntL_nil, cnt_int, cnt_str, cnt_ints]
    have h2 := sz_ints x.links
    omega) 3 xs
set_option maxRecDepth 100000 in
theorem open_IntsD {H : Type} {enc : TypeId × Value → H} {w : World} {v : Value} {d : DataW H} {pl : List MemPlace} (hv : Value.okWide Tryz.prog w .any 0 23 v)
    (h : DataW.Trod enc Tryz.prog w 0 (fun _ => true) true 23 v d pl) : ∃ A n c xs, v = .slice A n c ∧ D.rd w 0 w.heap.size (intsD xs) (.slice A n c) := by
  obtain ⟨A, n, c, rfl⟩ := okWide_slice Tryz.underlying23 hv
  obtain ⟨fuel, hf⟩ := h
  obtain ⟨A2, n2, c2, xs, e, hr⟩ := openc_ints hf
  simp [Value.cells] at e
  obtain ⟨rfl, rfl, rfl⟩ := e
  exact ⟨_, _, _, xs, rfl, hr⟩

end Go.Proofs.YtnaeglfochnikaaGreat

namespace Go.Proofs.YtnaeglfochnikaaGreat
set_option linter.unusedVariables false
set_option linter.unusedSimpArgs false
open Go.RowKit

theorem dOps_flat (xs : List OpD) : dOps xs = .arr 3 xs.length (xs.flatMap fOp) := rfl

set_option maxRecDepth 100000 in
set_option maxHeartbeats 3200000 in
theorem markOpS_d (xs : List OpD) (A : Option Addr) (n c k : Nat) (ki : Int) (FF : List Nat) (w : World) (hki : ki = (k : Int)) (h1 : 1 ≤ k) (hk : k + D.cnt (dOps xs) ≤ 1099511627776) (hF : FF.Nodup) (hlt : ∀ x ∈ FF, x < w.heap.size) (h : D.own w (dOps xs) FF (.slice A n c)) :
    Calls Tryz.prog 35 #[.slice A n c, .int .i64 ki] w fun e w' => MarkR (dOps xs) k FF (.slice A n c) w e w' := by
  subst hki
  rw [dOps_flat] at h hk ⊢
  have hl := own_len h
  have hn : xs.length = n := hl.1.symm
  have hnc := hl.2.1
  have hc63 := hl.2.2.1
  clear hl
  rw [hn] at h hk hnc ⊢
  rw [cnt_arr] at hk
  rcases Nat.eq_zero_or_pos n with h0 | h0
  · subst h0
    have hx : xs = [] := List.eq_nil_of_length_eq_zero hn
    subst hx
    have HO := Lib.hid h
    clear h hn
    go_enter Tryz.func35, Tryz.ntmps35
    go_wp2_with fail
    refine wp_loop_rounds 1 ?_
    rw [rounds_succ]
    go_wp2_with fail
    go_ret
    refine ⟨?_, Chg.refl _ _, ?_⟩
    · rw [mark_arr, List.flatMap_nil, markL_nil]; exact HO.out
    · rw [cnt_arr, List.flatMap_nil, cntL_nil]; rfl
  · obtain ⟨g, o, rfl, hgF⟩ := own_row h h0 (by omega)
    have HO := Lib.hid h
    have HF := Lib.hid hF
    have HLT := Lib.hid hlt
    have HK := Lib.hid hk
    have HN := Lib.hid hn
    clear h hF hlt hk hn
    go_enter Tryz.func35, Tryz.ntmps35
    go_wp2_with fail
    go_loopw [1, 5] (fun l i wr => ∃ j : Nat, j ≤ n ∧ i = .int .i64 j ∧ l = .int .i64 ((k + cntTo fOp xs j : Nat) : Int) ∧ D.own wr (.arr 3 n (markTo fOp xs k j)) FF (.slice (some ⟨g, o, none⟩) n c) ∧ Chg w wr FF) (fun _ i _ => n - (intOf i).toNat)
    case atStart => exact ⟨0, Nat.zero_le _, rfl, by rw [cntTo_zero]; rfl, by rw [markTo_zero]; exact HO.out, Chg.refl _ _⟩
    case round =>
      obtain ⟨j, hj, rfl, rfl, hown, hch⟩ := hrel
      have H0 := Lib.hid hown
      have HC0 := Lib.hid hch
      have hws := hch.2.2.2.1
      have HL0 : Hid (∀ x ∈ FF, x < wr.heap.size) := fun x hx => Nat.lt_of_lt_of_le (HLT.out x hx) hws
      clear hown hch
      by_cases hlt : j < n
      · have hjl : j < xs.length := by rw [HN.out]; exact hlt
        obtain ⟨q, hq⟩ : ∃ q, k + cntTo fOp xs j = q := ⟨_, rfl⟩
        have hq00 : 1 ≤ q := by omega
        have hqk : q + D.cntL (fOp xs[j]) ≤ 1099511627776 := by
          have h2 := cntTo_le (f := fOp) (xs := xs) (j := j + 1) (by omega)
          rw [cntTo_succ hjl] at h2
          have h3 := HK.out
          omega
        have HQ := Lib.hid hq
        have hcs : D.cntL (fOp xs[j]) = 1 + 1 + 1 := by
          unfold fOp
          simp only [cntL_cons, cntL_nil, cnt_int, cnt_str]
          try omega
        have HCS := Lib.hid hcs
        rw [hcs] at hqk
        rw [hq]
        clear hq hcs
        obtain ⟨⟨u0, hg0⟩, hf0, -, hp0⟩ := own_put H0.out HF.out (p := j * 3) (i := 0) (markTo_get fOp_len hjl (by omega)) (.inl ⟨_, rfl⟩) (.int (((q : Nat) : Int))) (.int .i64 (((q : Nat) : Int))) (fun W => D.own.int W _)
        simp only [Nat.add_zero, Nat.mul_one] at hg0 hf0 hp0
        have HP0 := Lib.hid hp0
        clear hp0
        have HC100 := Lib.hid (HC0.out.set hgF (o + j * 3) (.int .i64 (((q : Nat) : Int))))
        have HL100 : Hid (∀ x ∈ FF, x < (wr.setCell ⟨g, o + j * 3, none⟩ (.int .i64 (((q : Nat) : Int)))).heap.size) := fun x hx => by simpa [World.setCell] using HL0.out x hx
        obtain ⟨⟨u1, hg1⟩, hf1, -, hp1⟩ := own_put HP0.out HF.out (p := j * 3) (i := 1) ((List.getElem?_set_ne (by omega)).trans (markTo_get fOp_len hjl (by omega))) (.inl ⟨_, rfl⟩) (.int (((q : Nat) : Int) + 1)) (.int .i64 (((q : Nat) : Int) + 1)) (fun W => D.own.int W _)
        have HP1 := Lib.hid hp1
        clear hp1
        have HC101 := Lib.hid (HC100.out.set hgF (o + j * 3 + 1) (.int .i64 (((q : Nat) : Int) + 1)))
        have HL101 : Hid (∀ x ∈ FF, x < ((wr.setCell ⟨g, o + j * 3, none⟩ (.int .i64 (((q : Nat) : Int)))).setCell ⟨g, o + j * 3 + 1, none⟩ (.int .i64 (((q : Nat) : Int) + 1))).heap.size) := fun x hx => by simpa [World.setCell] using HL100.out x hx
        go_wp2_with fail
        refine (markText_d (q + 2) _ _ (by first | rfl | (simp; done) | omega) (by omega) (by omega)).mono ?_
        rintro e w2 ⟨rfl, hb2⟩
        have HC202 := Lib.hid (HC101.out.bel hb2)
        have HL202 : Hid (∀ x ∈ FF, x < w2.heap.size) := fun x hx => Nat.lt_of_lt_of_le (HL101.out x hx) hb2.size
        have HT2 := Lib.hid (D.own.keep _ FF _ (fun x hx => hb2.block x (HL101.out x hx)) HP1.out)
        clear hb2
        obtain ⟨⟨u2, hg2⟩, hf2, -, hp2⟩ := own_put HT2.out HF.out (p := j * 3) (i := 2) ((List.getElem?_set_ne (by omega)).trans ((List.getElem?_set_ne (by omega)).trans (markTo_get fOp_len hjl (by omega)))) (.inr ⟨_, rfl⟩) (.str (markT (q + 2))) (.string (markT (q + 2))) (fun W => D.own.str W (by have := markT_size (q + 2); omega))
        have HP2 := Lib.hid hp2
        clear hp2
        have HC102 := Lib.hid (HC202.out.set hgF (o + j * 3 + 2) (.string (markT (q + 2))))
        have HL102 : Hid (∀ x ∈ FF, x < (w2.setCell ⟨g, o + j * 3 + 2, none⟩ (.string (markT (q + 2)))).heap.size) := fun x hx => by simpa [World.setCell] using HL202.out x hx
        have hm : D.markL (fOp xs[j]) q = [.int (((q : Nat) : Int)), .int (((q : Nat) : Int) + 1), .str (markT (q + 2))] := by
          unfold fOp
          simp only [markL_cons, markL_nil, mark_int, mark_str, cnt_int, cnt_str]
          try rfl
        have HFIN : Hid (setsD (markTo fOp xs k j) (j * 3) [.int (((q : Nat) : Int)), .int (((q : Nat) : Int) + 1), .str (markT (q + 2))] = markTo fOp xs k (j + 1)) := by
          show _ = _
          rw [← markTo_step fOp_len hjl, HQ.out, hm]
        clear hm
        have HCN : Hid ((((q + 3 : Nat) : Int)) = ((k + cntTo fOp xs (j + 1) : Nat) : Int)) := by
          show _ = _
          have h1 := HQ.out
          have h2 := HCS.out
          rw [cntTo_succ hjl, h2]
          omega
        go_wp2_with fail
        exact ⟨⟨j + 1, by omega, by go_num, by first | (rw [← HCN.out]; done) | (rw [← HCN.out]; rfl) | (rw [← HCN.out]; congr 1), by rw [← HFIN.out]; first | exact HP2.out | simpa [setsD] using HP2.out, HC102.out⟩, by simp [intOf]; omega⟩
      · have hjn : j = n := by omega
        subst hjn
        go_wp2_with fail
        go_ret
        exact ⟨by rw [mark_arr, ← markTo_all HN.out]; exact H0.out, HC0.out, by rw [cnt_arr, ← cntTo_all HN.out]; rfl⟩

set_option maxRecDepth 100000 in
set_option maxHeartbeats 3200000 in
theorem heldOpS_d (xs : List OpD) (A : Option Addr) (n c k : Nat) (ki : Int) (w : World) (lo hi : Nat) (hh : hi ≤ w.heap.size) (hki : ki = (k : Int)) (h1 : 1 ≤ k) (hk : k + D.cnt (dOps xs) ≤ 1099511627776) (h : D.rd w lo hi (D.mark (dOps xs) k) (.slice A n c)) :
    Calls Tryz.prog 37 #[.slice A n c, .int .i64 ki] w fun e w' => HeldR (dOps xs) k w e w' := by
  subst hki
  rw [dOps_flat] at h hk ⊢
  rw [mark_arr] at h
  rw [cnt_arr] at hk
  have hn : xs.length = n := h.len.1.symm
  have hnc := h.len.2.1
  have hc63 := h.len.2.2
  rw [hn] at h hnc ⊢
  have HI := Lib.hid h
  have HK := Lib.hid hk
  have HN := Lib.hid hn
  clear h hk hn
  go_enter Tryz.func37, Tryz.ntmps37
  go_wp2_with fail
  go_loopw [1, 5] (fun l i wr => ∃ j : Nat, j ≤ n ∧ i = .int .i64 j ∧ l = .int .i64 ((k + cntTo fOp xs j : Nat) : Int) ∧ Below w.heap.size w wr) (fun _ i _ => n - (intOf i).toNat)
  case atStart => exact ⟨0, Nat.zero_le _, rfl, by rw [cntTo_zero]; rfl, Below.refl _ _⟩
  case round =>
    obtain ⟨j, hj, rfl, rfl, hb⟩ := hrel
    have HB0 := Lib.hid hb
    have hws0 := hb.size
    clear hb
    by_cases hlt : j < n
    · have hjl : j < xs.length := by rw [HN.out]; exact hlt
      obtain ⟨b, o, rfl, _, hbh, hc⟩ := rd_row (HI.out.below HB0.out hh) (by omega) (by omega)
      obtain ⟨q, hq⟩ : ∃ q, k + cntTo fOp xs j = q := ⟨_, rfl⟩
      have hq00 : 1 ≤ q := by omega
      have hqk : q + D.cntL (fOp xs[j]) ≤ 1099511627776 := by
        have h2 := cntTo_le (f := fOp) (xs := xs) (j := j + 1) (by omega)
        rw [cntTo_succ hjl] at h2
        have h3 := HK.out
        omega
      have HQ := Lib.hid hq
      have hcs : D.cntL (fOp xs[j]) = 1 + 1 + 1 := by
        unfold fOp
        simp only [cntL_cons, cntL_nil, cnt_int, cnt_str]
        try omega
      have HCS := Lib.hid hcs
      rw [hcs] at hqk
      rw [hq]
      have hbw : b < wr.heap.size := by omega
      clear hq hcs
      have hm : D.markL (fOp xs[j]) q = [.int (((q : Nat) : Int)), .int (((q : Nat) : Int) + 1), .str (markT (q + 2))] := by
        unfold fOp
        simp only [markL_cons, markL_nil, mark_int, mark_str, cnt_int, cnt_str]
        try rfl
      obtain ⟨u0, hg0, hr0⟩ := hc (j * 3) 0 (.int (((q : Nat) : Int))) ((markL_get fOp_len hjl (by omega)).trans (by rw [HQ.out, hm]; rfl))
      simp only [Nat.add_zero, Nat.mul_one] at hg0
      obtain rfl := hr0.int_inv
      obtain ⟨u1, hg1, hr1⟩ := hc (j * 3) 1 (.int (((q : Nat) : Int) + 1)) ((markL_get fOp_len hjl (by omega)).trans (by rw [HQ.out, hm]; rfl))
      obtain rfl := hr1.int_inv
      obtain ⟨u2, hg2, hr2⟩ := hc (j * 3) 2 (.str (markT (q + 2))) ((markL_get fOp_len hjl (by omega)).trans (by rw [HQ.out, hm]; rfl))
      obtain ⟨rfl, -⟩ := hr2.str_inv
      have hte2 : (!((markT (q + 2)).toList == (markT (q + 2)).toList)) = false := by simp
      clear hm hc
      go_wp2_with fail
      have hk2d : wr.drew.heap.size = wr.heap.size := rfl
      go_region_held3 (fun w' => w'.cell? ⟨b, o + j * 3 + 2, none⟩ = some (.string (markT (q + 2)))) (go_keep)
        (first | (go_at_call 34; refine (markText_d (q + 2) _ _ (by first | rfl | (simp; done) | omega) (by omega) (by omega)).mono ?_; rintro e w2 ⟨rfl, hb2'⟩; have hb2 := bel_dr2 hb2'; have hgk2 : w2.cell? ⟨b, o + j * 3 + 2, none⟩ = some (.string (markT (q + 2))) := (hb2.cell hbw).trans hg2; have hltk2 : b < w2.heap.size := Nat.lt_of_lt_of_le hbw hb2.size; clear hb2'))
      have HB302 := Lib.hid (bel_tr HB0.out (Nat.le_refl _) hb2)
      have hbw2 : b < w2.heap.size := Nat.lt_of_lt_of_le hbw hb2.size
      clear hb2
      have HCN : Hid ((((q + 3 : Nat) : Int)) = ((k + cntTo fOp xs (j + 1) : Nat) : Int)) := by
        show _ = _
        have h1 := HQ.out
        have h2 := HCS.out
        rw [cntTo_succ hjl, h2]
        omega
      go_wp2_with fail
      exact ⟨⟨j + 1, by omega, by go_num, by first | (rw [← HCN.out]; done) | (rw [← HCN.out]; rfl) | (rw [← HCN.out]; congr 1), HB302.out⟩, by simp [intOf]; omega⟩
    · have hjn : j = n := by omega
      subst hjn
      go_wp2_with fail
      go_ret
      exact ⟨HB0.out, by rw [cnt_arr, ← cntTo_all HN.out]; rfl⟩

end Go.Proofs.YtnaeglfochnikaaGreat

namespace Go.Proofs.YtnaeglfochnikaaGreat
set_option linter.unusedVariables false
set_option linter.unusedSimpArgs false
open Go.RowKit

theorem dPackEntrys_flat (xs : List PED) : dPackEntrys xs = .arr 4 xs.length (xs.flatMap fPackEntry) := rfl

set_option maxRecDepth 100000 in
set_option maxHeartbeats 3200000 in
theorem markPackEntryS_d (xs : List PED) (A : Option Addr) (n c k : Nat) (ki : Int) (FF : List Nat) (w : World) (hki : ki = (k : Int)) (h1 : 1 ≤ k) (hk : k + D.cnt (dPackEntrys xs) ≤ 1099511627776) (hF : FF.Nodup) (hlt : ∀ x ∈ FF, x < w.heap.size) (h : D.own w (dPackEntrys xs) FF (.slice A n c)) :
    Calls Tryz.prog 15 #[.slice A n c, .int .i64 ki] w fun e w' => MarkR (dPackEntrys xs) k FF (.slice A n c) w e w' := by
  subst hki
  rw [dPackEntrys_flat] at h hk ⊢
  have hl := own_len h
  have hn : xs.length = n := hl.1.symm
  have hnc := hl.2.1
  have hc63 := hl.2.2.1
  clear hl
  rw [hn] at h hk hnc ⊢
  rw [cnt_arr] at hk
  rcases Nat.eq_zero_or_pos n with h0 | h0
  · subst h0
    have hx : xs = [] := List.eq_nil_of_length_eq_zero hn
    subst hx
    have HO := Lib.hid h
    clear h hn
    go_enter Tryz.func15, Tryz.ntmps15
    go_wp2_with fail
    refine wp_loop_rounds 1 ?_
    rw [rounds_succ]
    go_wp2_with fail
    go_ret
    refine ⟨?_, Chg.refl _ _, ?_⟩
    · rw [mark_arr, List.flatMap_nil, markL_nil]; exact HO.out
    · rw [cnt_arr, List.flatMap_nil, cntL_nil]; rfl
  · obtain ⟨g, o, rfl, hgF⟩ := own_row h h0 (by omega)
    have HO := Lib.hid h
    have HF := Lib.hid hF
    have HLT := Lib.hid hlt
    have HK := Lib.hid hk
    have HN := Lib.hid hn
    clear h hF hlt hk hn
    go_enter Tryz.func15, Tryz.ntmps15
    go_wp2_with fail
    go_loopw [1, 5] (fun l i wr => ∃ j : Nat, j ≤ n ∧ i = .int .i64 j ∧ l = .int .i64 ((k + cntTo fPackEntry xs j : Nat) : Int) ∧ D.own wr (.arr 4 n (markTo fPackEntry xs k j)) FF (.slice (some ⟨g, o, none⟩) n c) ∧ Chg w wr FF) (fun _ i _ => n - (intOf i).toNat)
    case atStart => exact ⟨0, Nat.zero_le _, rfl, by rw [cntTo_zero]; rfl, by rw [markTo_zero]; exact HO.out, Chg.refl _ _⟩
    case round =>
      obtain ⟨j, hj, rfl, rfl, hown, hch⟩ := hrel
      have H0 := Lib.hid hown
      have HC0 := Lib.hid hch
      have hws := hch.2.2.2.1
      have HL0 : Hid (∀ x ∈ FF, x < wr.heap.size) := fun x hx => Nat.lt_of_lt_of_le (HLT.out x hx) hws
      clear hown hch
      by_cases hlt : j < n
      · have hjl : j < xs.length := by rw [HN.out]; exact hlt
        obtain ⟨q, hq⟩ : ∃ q, k + cntTo fPackEntry xs j = q := ⟨_, rfl⟩
        have hq00 : 1 ≤ q := by omega
        have hqk : q + D.cntL (fPackEntry xs[j]) ≤ 1099511627776 := by
          have h2 := cntTo_le (f := fPackEntry) (xs := xs) (j := j + 1) (by omega)
          rw [cntTo_succ hjl] at h2
          have h3 := HK.out
          omega
        have HQ := Lib.hid hq
        have hcs : D.cntL (fPackEntry xs[j]) = 1 + D.cnt (intsD xs[j].links) + 1 + D.cnt (dOps xs[j].ops) := by
          unfold fPackEntry
          simp only [cntL_cons, cntL_nil, cnt_int, cnt_str]
          try omega
        have HCS := Lib.hid hcs
        rw [hcs] at hqk
        rw [hq]
        clear hq hcs
        obtain ⟨⟨u0, hg0⟩, hf0, -, hp0⟩ := own_put H0.out HF.out (p := j * 4) (i := 0) (markTo_get fPackEntry_len hjl (by omega)) (.inl ⟨_, rfl⟩) (.int (((q : Nat) : Int))) (.int .i64 (((q : Nat) : Int))) (fun W => D.own.int W _)
        simp only [Nat.add_zero, Nat.mul_one] at hg0 hf0 hp0
        have HP0 := Lib.hid hp0
        clear hp0
        have HC100 := Lib.hid (HC0.out.set hgF (o + j * 4) (.int .i64 (((q : Nat) : Int))))
        have HL100 : Hid (∀ x ∈ FF, x < (wr.setCell ⟨g, o + j * 4, none⟩ (.int .i64 (((q : Nat) : Int)))).heap.size) := fun x hx => by simpa [World.setCell] using HL0.out x hx
        obtain ⟨A1, c1, F1, hs1, ho1, hn1, hsub1, -, hgn1, hre1⟩ := own_arr HP0.out HF.out (p := j * 4) (i := 1) ((List.getElem?_set_ne (by omega)).trans (markTo_get fPackEntry_len hjl (by omega)))
        have HO1 := Lib.hid ho1
        have HS1 := Lib.hid hsub1
        have HR1 := Lib.hid hre1
        have HND1 := Lib.hid hn1
        clear ho1 hsub1 hre1 hn1 hgn1
        go_wp2_with fail
        refine (markIntS_d xs[j].links A1 _ c1 (q + 1) _ F1 _ (by first | rfl | (simp; done) | omega) (by omega) (by omega) HND1.out (fun x hx => HL100.out x (HS1.out x hx)) HO1.out).mono ?_
        rintro e w1 ⟨ho1, hch1, rfl⟩
        have HC101 := Lib.hid (HC100.out.tr (hch1.more HS1.out))
        have HL101 : Hid (∀ x ∈ FF, x < w1.heap.size) := fun x hx => Nat.lt_of_lt_of_le (HL100.out x hx) hch1.2.2.2.1
        have HP1 := Lib.hid (HR1.out w1 _ hch1 HL100.out ho1)
        clear ho1 hch1
        obtain ⟨q1, hq1⟩ : ∃ q1 : Nat, q1 = q + 1 + D.cnt (intsD xs[j].links) := ⟨_, rfl⟩
        rw [← hq1]
        have hqb1 : q1 ≤ 1099511627776 := by omega
        have hqc1 : 1 ≤ q1 := by omega
        have HQ1 := Lib.hid hq1
        have hqe1 : q + 1 + D.cnt (intsD xs[j].links) ≤ q1 := by omega
        have hqf1 : q1 ≤ q + 1 + D.cnt (intsD xs[j].links) := by omega
        clear hq1
        obtain ⟨⟨u2, hg2⟩, hf2, -, hp2⟩ := own_put HP1.out HF.out (p := j * 4) (i := 2) ((List.getElem?_set_ne (by omega)).trans ((List.getElem?_set_ne (by omega)).trans (markTo_get fPackEntry_len hjl (by omega)))) (.inl ⟨_, rfl⟩) (.int (((q1 : Nat) : Int))) (.int .i64 (((q1 : Nat) : Int))) (fun W => D.own.int W _)
        have HP2 := Lib.hid hp2
        clear hp2
        have HC102 := Lib.hid (HC101.out.set hgF (o + j * 4 + 2) (.int .i64 (((q1 : Nat) : Int))))
        have HL102 : Hid (∀ x ∈ FF, x < (w1.setCell ⟨g, o + j * 4 + 2, none⟩ (.int .i64 (((q1 : Nat) : Int)))).heap.size) := fun x hx => by simpa [World.setCell] using HL101.out x hx
        obtain ⟨A3, c3, F3, hs3, ho3, hn3, hsub3, -, hgn3, hre3⟩ := own_arr HP2.out HF.out (p := j * 4) (i := 3) ((List.getElem?_set_ne (by omega)).trans ((List.getElem?_set_ne (by omega)).trans ((List.getElem?_set_ne (by omega)).trans (markTo_get fPackEntry_len hjl (by omega)))))
        have HO3 := Lib.hid ho3
        have HS3 := Lib.hid hsub3
        have HR3 := Lib.hid hre3
        have HND3 := Lib.hid hn3
        clear ho3 hsub3 hre3 hn3 hgn3
        go_wp2_with fail
        refine (markOpS_d xs[j].ops A3 _ c3 (q1 + 1) _ F3 _ (by first | rfl | (simp; done) | omega) (by omega) (by omega) HND3.out (fun x hx => HL102.out x (HS3.out x hx)) HO3.out).mono ?_
        rintro e w3 ⟨ho3, hch3, rfl⟩
        have HC103 := Lib.hid (HC102.out.tr (hch3.more HS3.out))
        have HL103 : Hid (∀ x ∈ FF, x < w3.heap.size) := fun x hx => Nat.lt_of_lt_of_le (HL102.out x hx) hch3.2.2.2.1
        have HP3 := Lib.hid (HR3.out w3 _ hch3 HL102.out ho3)
        clear ho3 hch3
        obtain ⟨q2, hq2⟩ : ∃ q2 : Nat, q2 = q1 + 1 + D.cnt (dOps xs[j].ops) := ⟨_, rfl⟩
        rw [← hq2]
        have hqb2 : q2 ≤ 1099511627776 := by omega
        have hqc2 : 1 ≤ q2 := by omega
        have HQ2 := Lib.hid hq2
        have hqe2 : q1 + 1 + D.cnt (dOps xs[j].ops) ≤ q2 := by omega
        have hqf2 : q2 ≤ q1 + 1 + D.cnt (dOps xs[j].ops) := by omega
        clear hq2
        have hm : D.markL (fPackEntry xs[j]) q = [.int (((q : Nat) : Int)), D.mark (intsD xs[j].links) (q + 1), .int (((q1 : Nat) : Int)), D.mark (dOps xs[j].ops) (q1 + 1)] := by
          unfold fPackEntry
          simp only [markL_cons, markL_nil, mark_int, mark_str, cnt_int, cnt_str]
          try rw [HQ2.out]
          try rw [HQ1.out]
          try rfl
        have HFIN : Hid (setsD (markTo fPackEntry xs k j) (j * 4) [.int (((q : Nat) : Int)), D.mark (intsD xs[j].links) (q + 1), .int (((q1 : Nat) : Int)), D.mark (dOps xs[j].ops) (q1 + 1)] = markTo fPackEntry xs k (j + 1)) := by
          show _ = _
          rw [← markTo_step fPackEntry_len hjl, HQ.out, hm]
        clear hm
        have HCN : Hid ((((q2 : Nat) : Int)) = ((k + cntTo fPackEntry xs (j + 1) : Nat) : Int)) := by
          show _ = _
          have h1 := HQ.out
          have h2 := HCS.out
          rw [cntTo_succ hjl, h2]
          omega
        go_wp2_with fail
        exact ⟨⟨j + 1, by omega, by go_num, by first | (rw [← HCN.out]; done) | (rw [← HCN.out]; rfl) | (rw [← HCN.out]; congr 1), by rw [← HFIN.out]; first | exact HP3.out | simpa [setsD] using HP3.out, HC103.out⟩, by simp [intOf]; omega⟩
      · have hjn : j = n := by omega
        subst hjn
        go_wp2_with fail
        go_ret
        exact ⟨by rw [mark_arr, ← markTo_all HN.out]; exact H0.out, HC0.out, by rw [cnt_arr, ← cntTo_all HN.out]; rfl⟩

set_option maxRecDepth 100000 in
set_option maxHeartbeats 3200000 in
theorem heldPackEntryS_d (xs : List PED) (A : Option Addr) (n c k : Nat) (ki : Int) (w : World) (lo hi : Nat) (hh : hi ≤ w.heap.size) (hki : ki = (k : Int)) (h1 : 1 ≤ k) (hk : k + D.cnt (dPackEntrys xs) ≤ 1099511627776) (h : D.rd w lo hi (D.mark (dPackEntrys xs) k) (.slice A n c)) :
    Calls Tryz.prog 16 #[.slice A n c, .int .i64 ki] w fun e w' => HeldR (dPackEntrys xs) k w e w' := by
  subst hki
  rw [dPackEntrys_flat] at h hk ⊢
  rw [mark_arr] at h
  rw [cnt_arr] at hk
  have hn : xs.length = n := h.len.1.symm
  have hnc := h.len.2.1
  have hc63 := h.len.2.2
  rw [hn] at h hnc ⊢
  have HI := Lib.hid h
  have HK := Lib.hid hk
  have HN := Lib.hid hn
  clear h hk hn
  go_enter Tryz.func16, Tryz.ntmps16
  go_wp2_with fail
  go_loopw [1, 5] (fun l i wr => ∃ j : Nat, j ≤ n ∧ i = .int .i64 j ∧ l = .int .i64 ((k + cntTo fPackEntry xs j : Nat) : Int) ∧ Below w.heap.size w wr) (fun _ i _ => n - (intOf i).toNat)
  case atStart => exact ⟨0, Nat.zero_le _, rfl, by rw [cntTo_zero]; rfl, Below.refl _ _⟩
  case round =>
    obtain ⟨j, hj, rfl, rfl, hb⟩ := hrel
    have HB0 := Lib.hid hb
    have hws0 := hb.size
    clear hb
    by_cases hlt : j < n
    · have hjl : j < xs.length := by rw [HN.out]; exact hlt
      obtain ⟨b, o, rfl, _, hbh, hc⟩ := rd_row (HI.out.below HB0.out hh) (by omega) (by omega)
      obtain ⟨q, hq⟩ : ∃ q, k + cntTo fPackEntry xs j = q := ⟨_, rfl⟩
      have hq00 : 1 ≤ q := by omega
      have hqk : q + D.cntL (fPackEntry xs[j]) ≤ 1099511627776 := by
        have h2 := cntTo_le (f := fPackEntry) (xs := xs) (j := j + 1) (by omega)
        rw [cntTo_succ hjl] at h2
        have h3 := HK.out
        omega
      have HQ := Lib.hid hq
      have hcs : D.cntL (fPackEntry xs[j]) = 1 + D.cnt (intsD xs[j].links) + 1 + D.cnt (dOps xs[j].ops) := by
        unfold fPackEntry
        simp only [cntL_cons, cntL_nil, cnt_int, cnt_str]
        try omega
      have HCS := Lib.hid hcs
      rw [hcs] at hqk
      rw [hq]
      have hbw : b < wr.heap.size := by omega
      clear hq hcs
      obtain ⟨q1, hq1⟩ : ∃ q1 : Nat, q1 = q + 1 + D.cnt (intsD xs[j].links) := ⟨_, rfl⟩
      have hqb1 : q1 ≤ 1099511627776 := by omega
      have hqc1 : 1 ≤ q1 := by omega
      have HQ1 := Lib.hid hq1
      have hqe1 : q + 1 + D.cnt (intsD xs[j].links) ≤ q1 := by omega
      have hqf1 : q1 ≤ q + 1 + D.cnt (intsD xs[j].links) := by omega
      clear hq1
      obtain ⟨q2, hq2⟩ : ∃ q2 : Nat, q2 = q1 + 1 + D.cnt (dOps xs[j].ops) := ⟨_, rfl⟩
      have hqb2 : q2 ≤ 1099511627776 := by omega
      have hqc2 : 1 ≤ q2 := by omega
      have HQ2 := Lib.hid hq2
      have hqe2 : q1 + 1 + D.cnt (dOps xs[j].ops) ≤ q2 := by omega
      have hqf2 : q2 ≤ q1 + 1 + D.cnt (dOps xs[j].ops) := by omega
      clear hq2
      have hm : D.markL (fPackEntry xs[j]) q = [.int (((q : Nat) : Int)), D.mark (intsD xs[j].links) (q + 1), .int (((q1 : Nat) : Int)), D.mark (dOps xs[j].ops) (q1 + 1)] := by
        unfold fPackEntry
        simp only [markL_cons, markL_nil, mark_int, mark_str, cnt_int, cnt_str]
        try rw [HQ2.out]
        try rw [HQ1.out]
        try rfl
      obtain ⟨u0, hg0, hr0⟩ := hc (j * 4) 0 (.int (((q : Nat) : Int))) ((markL_get fPackEntry_len hjl (by omega)).trans (by rw [HQ.out, hm]; rfl))
      simp only [Nat.add_zero, Nat.mul_one] at hg0
      obtain rfl := hr0.int_inv
      obtain ⟨u1, hg1, hr1⟩ := hc (j * 4) 1 (D.mark (intsD xs[j].links) (q + 1)) ((markL_get fPackEntry_len hjl (by omega)).trans (by rw [HQ.out, hm]; rfl))
      obtain ⟨A1, c1, rfl, hr1' ⟩ := mark_rd_inv hr1
      have HR1 := Lib.hid hr1'
      clear hr1'
      obtain ⟨u2, hg2, hr2⟩ := hc (j * 4) 2 (.int (((q1 : Nat) : Int))) ((markL_get fPackEntry_len hjl (by omega)).trans (by rw [HQ.out, hm]; rfl))
      obtain rfl := hr2.int_inv
      obtain ⟨u3, hg3, hr3⟩ := hc (j * 4) 3 (D.mark (dOps xs[j].ops) (q1 + 1)) ((markL_get fPackEntry_len hjl (by omega)).trans (by rw [HQ.out, hm]; rfl))
      obtain ⟨A3, c3, rfl, hr3' ⟩ := mark_rd_inv hr3
      have HR3 := Lib.hid hr3'
      clear hr3'
      clear hm hc
      go_wp2_with fail
      refine (heldIntS_d xs[j].links A1 _ c1 (q + 1) _ _ lo hi (Nat.le_trans hh HB0.out.size) (by first | rfl | (simp; done) | omega) (by omega) (by omega) (HR1.out)).mono ?_
      rintro e w1 ⟨hb1, rfl⟩
      rw [← HQ1.out]
      have HB301 := Lib.hid (bel_tr HB0.out (Nat.le_refl _) hb1)
      have hbw1 : b < w1.heap.size := Nat.lt_of_lt_of_le hbw hb1.size
      have hg2_1 := (hb1.cell (p := ⟨b, o + j * 4 + 2, none⟩) hbw).trans hg2
      have hg3_1 := (hb1.cell (p := ⟨b, o + j * 4 + 3, none⟩) hbw).trans hg3
      have HR3_1 := Lib.hid (D.rd.below (HR3.out) hb1 (Nat.le_trans hh HB0.out.size))
      clear hb1
      go_wp2_with fail
      refine (heldOpS_d xs[j].ops A3 _ c3 (q1 + 1) _ _ lo hi (Nat.le_trans hh HB301.out.size) (by first | rfl | (simp; done) | omega) (by omega) (by omega) (HR3_1.out)).mono ?_
      rintro e w3 ⟨hb3, rfl⟩
      rw [← HQ2.out]
      have HB303 := Lib.hid (bel_tr HB301.out (Nat.le_refl _) hb3)
      have hbw3 : b < w3.heap.size := Nat.lt_of_lt_of_le hbw1 hb3.size
      clear hb3
      have HCN : Hid ((((q2 : Nat) : Int)) = ((k + cntTo fPackEntry xs (j + 1) : Nat) : Int)) := by
        show _ = _
        have h1 := HQ.out
        have h2 := HCS.out
        rw [cntTo_succ hjl, h2]
        omega
      go_wp2_with fail
      exact ⟨⟨j + 1, by omega, by go_num, by first | (rw [← HCN.out]; done) | (rw [← HCN.out]; rfl) | (rw [← HCN.out]; congr 1), HB303.out⟩, by simp [intOf]; omega⟩
    · have hjn : j = n := by omega
      subst hjn
      go_wp2_with fail
      go_ret
      exact ⟨HB0.out, by rw [cnt_arr, ← cntTo_all HN.out]; rfl⟩

end Go.Proofs.YtnaeglfochnikaaGreat
