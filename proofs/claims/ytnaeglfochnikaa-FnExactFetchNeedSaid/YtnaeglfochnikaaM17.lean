/-
  The walks of markObjectS and heldObjectS: numbers and texts are turned into marks; such marks are told. Condition: few elements, small marks.
  How an argument that is a slice of structs of one-cell fields is opened to a list (after the guide's small lemmas on structs). No condition.
  How arguments with depth are opened: a slice of numbers, a slice of structs with slices in them, as data. No condition.
  How an argument of type []laws.Object is opened, as data. No condition.
-/
import Derived.Test.YtnaeglfochnikaaM16
import Derived.Test.YtnaeglfochnikaaTObject
import Derived.Test.YtnaeglfochnikaaM1
import Derived.Deep.Slices
import Derived.Deep.Fields
import Derived.ChangeSame
import Derived.Test.YtnaeglfochnikaaM4
namespace Go.Proofs.Ytnaeglfochnikaa
set_option linter.unusedVariables false
set_option linter.unusedSimpArgs false
open Go.RowKit

theorem dObjects_flat (xs : List ObjD) : dObjects xs = .arr 3 xs.length (xs.flatMap fObject) := rfl

set_option maxRecDepth 100000 in
set_option maxHeartbeats 3200000 in
theorem markObjectS_d (xs : List ObjD) (A : Option Addr) (n c k : Nat) (ki : Int) (FF : List Nat) (w : World) (hki : ki = (k : Int)) (h1 : 1 ≤ k) (hk : k + D.cnt (dObjects xs) ≤ 1099511627776) (hF : FF.Nodup) (hlt : ∀ x ∈ FF, x < w.heap.size) (h : D.own w (dObjects xs) FF (.slice A n c)) :
    Calls Try.prog 14 #[.slice A n c, .int .i64 ki] w fun e w' => MarkR (dObjects xs) k FF (.slice A n c) w e w' := by
  subst hki
  rw [dObjects_flat] at h hk ⊢
  have hl := own_len h
  have hn : xs.length = n := hl.1.symm
  have hnc := hl.2.1
  have hc63 := hl.2.2.1
  clear hl
  rw [hn] at h hk hnc ⊢
  rw [cnt_arr] at hk
  rcases Nat.eq_zero_or_pos n with h0 | h0
  · subst h0
    have hx : xs = [] := List.eq_nil_of_length_eq_zero hn
    subst hx
    have HO := Lib.hid h
    clear h hn
    go_enter Try.func14, Try.ntmps14
    go_wp2_with fail
    refine wp_loop_rounds 1 ?_
    rw [rounds_succ]
    go_wp2_with fail
    go_ret
    refine ⟨?_, Chg.refl _ _, ?_⟩
    · rw [mark_arr, List.flatMap_nil, markL_nil]; exact HO.out
    · rw [cnt_arr, List.flatMap_nil, cntL_nil]; rfl
  · obtain ⟨g, o, rfl, hgF⟩ := own_row h h0 (by omega)
    have HO := Lib.hid h
    have HF := Lib.hid hF
    have HLT := Lib.hid hlt
    have HK := Lib.hid hk
    have HN := Lib.hid hn
    clear h hF hlt hk hn
    go_enter Try.func14, Try.ntmps14
    go_wp2_with fail
    go_loopw [1, 5] (fun l i wr => ∃ j : Nat, j ≤ n ∧ i = .int .i64 j ∧ l = .int .i64 ((k + cntTo fObject xs j : Nat) : Int) ∧ D.own wr (.arr 3 n (markTo fObject xs k j)) FF (.slice (some ⟨g, o, none⟩) n c) ∧ Chg w wr FF) (fun _ i _ => n - (intOf i).toNat)
    case atStart => exact ⟨0, Nat.zero_le _, rfl, by rw [cntTo_zero]; rfl, by rw [markTo_zero]; exact HO.out, Chg.refl _ _⟩
    case round =>
      obtain ⟨j, hj, rfl, rfl, hown, hch⟩ := hrel
      have H0 := Lib.hid hown
      have HC0 := Lib.hid hch
      have hws := hch.2.2.2.1
      have HL0 : Hid (∀ x ∈ FF, x < wr.heap.size) := fun x hx => Nat.lt_of_lt_of_le (HLT.out x hx) hws
      clear hown hch
      by_cases hlt : j < n
      · have hjl : j < xs.length := by rw [HN.out]; exact hlt
        obtain ⟨q, hq⟩ : ∃ q, k + cntTo fObject xs j = q := ⟨_, rfl⟩
        have hq00 : 1 ≤ q := by omega
        have hqk : q + D.cntL (fObject xs[j]) ≤ 1099511627776 := by
          have h2 := cntTo_le (f := fObject) (xs := xs) (j := j + 1) (by omega)
          rw [cntTo_succ hjl] at h2
          have h3 := HK.out
          omega
        have HQ := Lib.hid hq
        have hcs : D.cntL (fObject xs[j]) = 1 + D.cnt (intsD xs[j].links) + 1 := by
          unfold fObject
          simp only [cntL_cons, cntL_nil, cnt_int, cnt_str]
          try omega
        have HCS := Lib.hid hcs
        rw [hcs] at hqk
        rw [hq]
        clear hq hcs
        obtain ⟨⟨u0, hg0⟩, hf0, -, hp0⟩ := own_put H0.out HF.out (p := j * 3) (i := 0) (markTo_get fObject_len hjl (by omega)) (.inl ⟨_, rfl⟩) (.int (((q : Nat) : Int))) (.int .i64 (((q : Nat) : Int))) (fun W => D.own.int W _)
        simp only [Nat.add_zero, Nat.mul_one] at hg0 hf0 hp0
        have HP0 := Lib.hid hp0
        clear hp0
        have HC100 := Lib.hid (HC0.out.set hgF (o + j * 3) (.int .i64 (((q : Nat) : Int))))
        have HL100 : Hid (∀ x ∈ FF, x < (wr.setCell ⟨g, o + j * 3, none⟩ (.int .i64 (((q : Nat) : Int)))).heap.size) := fun x hx => by simpa [World.setCell] using HL0.out x hx
        obtain ⟨A1, c1, F1, hs1, ho1, hn1, hsub1, -, hgn1, hre1⟩ := own_arr HP0.out HF.out (p := j * 3) (i := 1) ((List.getElem?_set_ne (by omega)).trans (markTo_get fObject_len hjl (by omega)))
        have HO1 := Lib.hid ho1
        have HS1 := Lib.hid hsub1
        have HR1 := Lib.hid hre1
        have HND1 := Lib.hid hn1
        clear ho1 hsub1 hre1 hn1 hgn1
        go_wp2_with fail
        refine (markIntS_d xs[j].links A1 _ c1 (q + 1) _ F1 _ (by first | rfl | (simp; done) | omega) (by omega) (by omega) HND1.out (fun x hx => HL100.out x (HS1.out x hx)) HO1.out).mono ?_
        rintro e w1 ⟨ho1, hch1, rfl⟩
        have HC101 := Lib.hid (HC100.out.tr (hch1.more HS1.out))
        have HL101 : Hid (∀ x ∈ FF, x < w1.heap.size) := fun x hx => Nat.lt_of_lt_of_le (HL100.out x hx) hch1.2.2.2.1
        have HP1 := Lib.hid (HR1.out w1 _ hch1 HL100.out ho1)
        clear ho1 hch1
        obtain ⟨q1, hq1⟩ : ∃ q1 : Nat, q1 = q + 1 + D.cnt (intsD xs[j].links) := ⟨_, rfl⟩
        rw [← hq1]
        have hqb1 : q1 ≤ 1099511627776 := by omega
        have hqc1 : 1 ≤ q1 := by omega
        have HQ1 := Lib.hid hq1
        have hqe1 : q + 1 + D.cnt (intsD xs[j].links) ≤ q1 := by omega
        have hqf1 : q1 ≤ q + 1 + D.cnt (intsD xs[j].links) := by omega
        clear hq1
        go_wp2_with fail
        refine (markText_d (q1) _ _ (by first | rfl | (simp; done) | omega) (by omega) (by omega)).mono ?_
        rintro e w2 ⟨rfl, hb2⟩
        have HC202 := Lib.hid (HC101.out.bel hb2)
        have HL202 : Hid (∀ x ∈ FF, x < w2.heap.size) := fun x hx => Nat.lt_of_lt_of_le (HL101.out x hx) hb2.size
        have HT2 := Lib.hid (D.own.keep _ FF _ (fun x hx => hb2.block x (HL101.out x hx)) HP1.out)
        clear hb2
        obtain ⟨⟨u2, hg2⟩, hf2, -, hp2⟩ := own_put HT2.out HF.out (p := j * 3) (i := 2) ((List.getElem?_set_ne (by omega)).trans ((List.getElem?_set_ne (by omega)).trans (markTo_get fObject_len hjl (by omega)))) (.inr ⟨_, rfl⟩) (.str (markT (q1))) (.string (markT (q1))) (fun W => D.own.str W (by have := markT_size (q1); omega))
        have HP2 := Lib.hid hp2
        clear hp2
        have HC102 := Lib.hid (HC202.out.set hgF (o + j * 3 + 2) (.string (markT (q1))))
        have HL102 : Hid (∀ x ∈ FF, x < (w2.setCell ⟨g, o + j * 3 + 2, none⟩ (.string (markT (q1)))).heap.size) := fun x hx => by simpa [World.setCell] using HL202.out x hx
        have hm : D.markL (fObject xs[j]) q = [.int (((q : Nat) : Int)), D.mark (intsD xs[j].links) (q + 1), .str (markT (q1))] := by
          unfold fObject
          simp only [markL_cons, markL_nil, mark_int, mark_str, cnt_int, cnt_str]
          try rw [HQ1.out]
          try rfl
        have HFIN : Hid (setsD (markTo fObject xs k j) (j * 3) [.int (((q : Nat) : Int)), D.mark (intsD xs[j].links) (q + 1), .str (markT (q1))] = markTo fObject xs k (j + 1)) := by
          show _ = _
          rw [← markTo_step fObject_len hjl, HQ.out, hm]
        clear hm
        have HCN : Hid ((((q1 + 1 : Nat) : Int)) = ((k + cntTo fObject xs (j + 1) : Nat) : Int)) := by
          show _ = _
          have h1 := HQ.out
          have h2 := HCS.out
          rw [cntTo_succ hjl, h2]
          omega
        go_wp2_with fail
        exact ⟨⟨j + 1, by omega, by go_num, by first | (rw [← HCN.out]; done) | (rw [← HCN.out]; rfl) | (rw [← HCN.out]; congr 1), by rw [← HFIN.out]; first | exact HP2.out | simpa [setsD] using HP2.out, HC102.out⟩, by simp [intOf]; omega⟩
      · have hjn : j = n := by omega
        subst hjn
        go_wp2_with fail
        go_ret
        exact ⟨by rw [mark_arr, ← markTo_all HN.out]; exact H0.out, HC0.out, by rw [cnt_arr, ← cntTo_all HN.out]; rfl⟩

end Go.Proofs.Ytnaeglfochnikaa

namespace Go.Proofs.Ytnaeglfochnikaa
set_option linter.unusedVariables false
set_option linter.unusedSimpArgs false
open Go.ChangeShapes Go.WideShapes Go.Deep Go.RowKit

section
variable {H : Type} {enc : TypeId × Value → H} {P : Program} {w : World} {base : Nat} {spare : Nat → Bool} {held : Bool}
theorem open_slice_fields {t e : TypeId} {fs : Array Field} {fuel : Nat} {cs : List Value} {x : DataW H × List MemPlace} (ht : P.underlying t = some (.slice e)) (he : P.underlying e = some (.struct fs))
    (hone : oneCellFields P fs = true) (hC : P.cellsOf e = fs.size) (h : DataW.trod enc P w base spare held fuel t cs = some x) :
    (cs = [.slice none 0 0] ∧ x = (.nil, [])) ∨
    ∃ (a : Addr) (len cap m : Nat) (D : Nat → DataW H) (Pl : Nat → List MemPlace), cs = [.slice (some a) len cap] ∧ base ≤ a.block ∧ len ≤ cap ∧ cap ≤ maxLen ∧ m = (if spare a.block then cap else len) ∧
      x = (.slice ((List.range len).map D) ((List.range (m - len)).map fun j => D (len + j)), MemPlace.row a (m * fs.size) ++ (List.range m).flatMap Pl) ∧
      ∀ i, i < m → ∃ (ys : List (DataW H × List MemPlace)) (n : Nat), D i = .agg (ys.map (·.1)) ∧ Pl i = ys.flatMap (·.2) ∧ ys.length = fs.size ∧
        ∀ (j : Nat) (f : Field), fs[j]? = some f → ∃ (v : Value) (y : DataW H × List MemPlace), w.cell? (a.add (i * fs.size + j)) = some v ∧ ys[j]? = some y ∧ DataW.trod enc P w base spare held n f.type [v] = some y := by
  rcases open_slice ht h with h0 | ⟨a, len, cap, m, n, D, Pl, hcs, hb, hl, hm, hmm, hx, hi⟩
  · exact .inl h0
  · refine .inr ⟨a, len, cap, m, D, Pl, hcs, hb, hl, hm, hmm, by rw [hC] at hx; exact hx, fun i him => ?_⟩
    obtain ⟨cs', hc, ht'⟩ := hi i him
    rw [hC] at hc
    obtain ⟨ys, n', hn', hy, hlen, hyl, hf⟩ := DataW.trod_struct he ht'
    obtain ⟨_, hcl, hat⟩ := World.cells?_some hc
    simp only [Prod.mk.injEq] at hy
    refine ⟨ys, n', hy.1, hy.2, hyl, fun j f hj => ?_⟩
    obtain ⟨ho, hk⟩ := hone_of hone j f hj
    have hjl : j < fs.size := (Array.getElem?_eq_some_iff.1 hj).1
    have hcell := hat j hjl
    have hv : cs'[j]? = some (cs'[j]'(by omega)) := List.getElem?_eq_getElem (by omega)
    have h1 := hf j f hj
    rw [ho, hk] at h1
    have hone' : (cs'.drop j).take 1 = [cs'[j]'(by omega)] := by
      rw [List.drop_eq_getElem_cons (by omega)]
      rfl
    rw [hone'] at h1
    have hys : ys[j]? = some (ys[j]'(by omega)) := List.getElem?_eq_getElem (by omega)
    refine ⟨_, _, ?_, hys, h1.trans hys⟩
    rw [← Go.Deep.add_add, hcell, hv]
end

theorem addr_lit {w : World} {a : Addr} {j : Nat} {v : Value} (h : w.cell? (a.add j) = some v) : a.add j = ⟨a.block, a.off + j, none⟩ := by
  rcases a with ⟨b, o, _ | s⟩
  · unfold Addr.add; by_cases hj : j = 0 <;> simp [hj]
  · by_cases hj : j = 0
    · subst hj; simp [Addr.add, World.cell?] at h; split at h <;> simp at h
    · simp [Addr.add, hj]
/-- a row behind an address whose first cell is there is a row behind a plain address -/
theorem addr_plain {w : World} {a : Addr} {v : Value} (h : w.cell? (a.add 0) = some v) : a = ⟨a.block, a.off, none⟩ := by
  have := addr_lit h
  simpa [Addr.add] using this

theorem list_of {α : Type} {P : Nat → α → Prop} (n : Nat) (h : ∀ i, i < n → ∃ x, P i x) : ∃ xs : List α, xs.length = n ∧ ∀ i (hi : i < xs.length), P i xs[i] := by
  induction n with
  | zero => exact ⟨[], rfl, fun i hi => absurd hi (by simp)⟩
  | succ n ih =>
    obtain ⟨xs, hl, hp⟩ := ih fun i hi => h i (by omega)
    obtain ⟨x, hx⟩ := h n (by omega)
    refine ⟨xs ++ [x], by simp [hl], fun i hi => ?_⟩
    by_cases hin : i < xs.length
    · rw [List.getElem_append_left hin]; exact hp i hin
    · have : i = n := by simp at hi; omega
      subst this
      rw [List.getElem_append_right (by omega)]
      simpa [hl] using hx

/-- cells that are told element by element lie in a row -/
theorem fl_of_cells {α : Type} {f : α → List Value} {m : Nat} (hf : ∀ x, (f x).length = m) (hm : 0 < m) {w : World} {a : Addr} {xs : List α}
    (h : ∀ i (hi : i < xs.length) j u, (f xs[i])[j]? = some u → w.cell? (a.add (i * m + j)) = some u) : Fl f w 0 w.heap.size (some a) xs.length xs := by
  refine ⟨rfl, fun hne => ?_⟩
  have hl : 0 < xs.length := by
    rcases xs with _ | ⟨x, xs⟩
    · exact absurd rfl hne
    · simp
  have h00 : (f xs[0])[0]? = some ((f xs[0])[0]'(by rw [hf]; exact hm)) := List.getElem?_eq_getElem _
  have hc0 := h 0 hl 0 _ h00
  simp only [Nat.zero_mul, Nat.add_zero] at hc0
  have ha := addr_plain hc0
  have hb : a.block < w.heap.size := World.block_lt_of_cell? w (a.add 0) hc0
  refine ⟨a.block, a.off, by rw [← ha], Nat.zero_le _, hb, fun j u hu => ?_⟩
  have hj : j < (xs.flatMap f).length := (List.getElem?_eq_some_iff.1 hu).1
  rw [flat_len f m hf] at hj
  have hk : j / m < xs.length := Nat.div_lt_of_lt_mul (by rw [Nat.mul_comm]; exact hj)
  have e : j = j / m * m + j % m := by rw [Nat.mul_comm]; exact (Nat.div_add_mod j m).symm
  rw [e, flat_get f m hf xs (j / m) hk (j % m) (Nat.mod_lt _ hm)] at hu
  have := h (j / m) hk (j % m) u hu
  rw [← e] at this
  rw [← addr_lit this]; exact this

end Go.Proofs.Ytnaeglfochnikaa

namespace Go.Proofs.Ytnaeglfochnikaa
set_option linter.unusedVariables false
set_option linter.unusedSimpArgs false
open Go.ChangeShapes Go.WideShapes Go.Deep Go.RowKit

/-- fields that are told element by element -/
theorem rd_of_cells {α : Type} {f : α → List D} {m n c : Nat} (hf : ∀ x, (f x).length = m) (hm : 0 < m) {w : World} {a : Addr} {xs : List α} (hl : xs.length = n) (hn : n ≤ c) (hc : c ≤ 9223372036854775807)
    (h : ∀ i (hi : i < xs.length) j d, (f xs[i])[j]? = some d → ∃ u, w.cell? (a.add (i * m + j)) = some u ∧ D.rd w 0 w.heap.size d u) : D.rd w 0 w.heap.size (.arr m n (xs.flatMap f)) (.slice (some a) n c) := by
  subst hl
  have hfl := flat_lenG f m hf xs
  have key : ∀ q d, (xs.flatMap f)[q]? = some d → ∃ u, w.cell? (a.add q) = some u ∧ D.rd w 0 w.heap.size d u := by
    intro q d hd
    have hq : q < (xs.flatMap f).length := (List.getElem?_eq_some_iff.1 hd).1
    rw [hfl] at hq
    have hk : q / m < xs.length := Nat.div_lt_of_lt_mul (by rw [Nat.mul_comm]; exact hq)
    have e : q = q / m * m + q % m := by rw [Nat.mul_comm]; exact (Nat.div_add_mod q m).symm
    rw [e, flat_getG f m hf xs (q / m) hk (q % m) (Nat.mod_lt _ hm)] at hd
    have := h (q / m) hk (q % m) d hd
    rwa [← e] at this
  unfold D.rd
  refine ⟨some a, c, (List.range (xs.length * m)).map (fun q => (w.cell? (a.add q)).getD (.bool false)), rfl, hn, hc, hfl, fun hne => ?_, D.rdL.mk (by simp [hfl]) fun q d hd => ?_⟩
  · have h0 : 0 < xs.length * m := by
      rcases Nat.eq_zero_or_pos (xs.length * m) with h0 | h0
      · rw [h0] at hne; exact absurd rfl hne
      · exact h0
    obtain ⟨d, hd⟩ : ∃ d, (xs.flatMap f)[0]? = some d := ⟨_, List.getElem?_eq_getElem (by rw [hfl]; exact h0)⟩
    obtain ⟨u, hu, -⟩ := key 0 d hd
    have ha := addr_plain hu
    have hb : a.block < w.heap.size := World.block_lt_of_cell? w (a.add 0) hu
    refine ⟨a.block, a.off, by rw [← ha], Nat.zero_le _, hb, fun j u hu => ?_⟩
    have hj : j < xs.length * m := by
      have := (List.getElem?_eq_some_iff.1 hu).1
      simpa using this
    obtain ⟨d, hd⟩ : ∃ d, (xs.flatMap f)[j]? = some d := ⟨_, List.getElem?_eq_getElem (by rw [hfl]; exact hj)⟩
    obtain ⟨u', hu', -⟩ := key j d hd
    rw [List.getElem?_map, List.getElem?_range hj] at hu
    simp only [Option.map_some, hu', Option.getD_some, Option.some.injEq] at hu
    subst hu
    rw [← addr_lit hu']; exact hu'
  · obtain ⟨u, hu, hr⟩ := key q d hd
    have hq : q < xs.length * m := by
      have := (List.getElem?_eq_some_iff.1 hd).1
      rwa [hfl] at this
    exact ⟨u, by rw [List.getElem?_map, List.getElem?_range hq]; simp [hu], hr⟩
theorem rd_nil_arr (w : World) (lo hi m c : Nat) (A : Option Addr) (hc : c ≤ 9223372036854775807) : D.rd w lo hi (.arr m 0 []) (.slice A 0 c) := by
  unfold D.rd
  refine ⟨A, c, [], rfl, Nat.zero_le _, hc, by simp, Rd.nil _ _ _ _, ?_⟩
  unfold D.rdL; rfl

theorem openc_ints {H : Type} {enc : TypeId × Value → H} {w : World} {fuel : Nat} {cs : List Value} {x : DataW H × List MemPlace} (h : DataW.trod enc Try.prog w 0 (fun _ => true) true fuel 23 cs = some x) :
    ∃ A n c xs, cs = [.slice A n c] ∧ D.rd w 0 w.heap.size (intsD xs) (.slice A n c) := by
  rcases open_ints Try.underlying23 Try.underlying3 (by kernel_rfl) h with ⟨hcs, _⟩ | ⟨a, l, c, zs, hcs, _, hl, hm, hz, _, hcell, _⟩
  · exact ⟨none, 0, 0, [], hcs, rd_nil_arr _ _ _ _ _ _ (by omega)⟩
  · refine ⟨some a, l, c, zs.take l, hcs, ?_⟩
    have hz' : zs.length = c := by rw [hz]; simp
    have hlen : (zs.take l).length = l := by rw [List.length_take]; omega
    have e : intsD (zs.take l) = .arr 1 l ((zs.take l).flatMap fun x => [D.int x]) := by
      unfold intsD
      rw [hlen]
      congr 1
      induction (zs.take l) with
      | nil => rfl
      | cons y ys ih => simp [ih]
    rw [e]
    refine rd_of_cells (m := 1) (fun _ => rfl) (by omega) hlen hl (by unfold maxLen at hm; exact hm) fun i hi j d hd => ?_
    rcases j with _ | j
    · simp at hd
      subst hd
      have hi2 : i < zs.length := by rw [List.length_take] at hi; omega
      have := hcell i hi2
      rw [List.getD_eq_getElem?_getD, List.getElem?_eq_getElem hi2] at this
      refine ⟨_, by simpa using this, ?_⟩
      unfold D.rd
      simp
    · simp at hd

end Go.Proofs.Ytnaeglfochnikaa

namespace Go.Proofs.Ytnaeglfochnikaa
set_option linter.unusedVariables false
set_option linter.unusedSimpArgs false
open Go.ChangeShapes Go.WideShapes Go.Deep Go.RowKit

set_option maxRecDepth 100000 in
theorem openc_Object {H : Type} {enc : TypeId × Value → H} {w : World} {fuel : Nat} {cs : List Value} {x : DataW H × List MemPlace} (h : DataW.trod enc Try.prog w 0 (fun _ => true) true fuel 22 cs = some x) :
    ∃ A n c xs, cs = [.slice A n c] ∧ D.rd w 0 w.heap.size (dObjects xs) (.slice A n c) := by
  rcases open_slice_fields Try.underlying22 Try.underlying44 (by kernel_rfl) (by kernel_rfl) h with ⟨hcs, _⟩ | ⟨a, n, c, mm, DD, Pl, hcs, _, hl, hm, hmm, _, hi⟩
  · exact ⟨none, 0, 0, [], hcs, rd_nil_arr _ _ _ _ _ _ (by omega)⟩
  · have key : ∀ i, i < n → ∃ x : ObjD, ∀ j d, (fObject x)[j]? = some d → ∃ u, w.cell? (a.add (i * 3 + j)) = some u ∧ D.rd w 0 w.heap.size d u := by
      intro i hin
      obtain ⟨ys, q, _, _, _, hfl⟩ := hi i (by rw [hmm]; split <;> omega)
      obtain ⟨v0, y0, hc0, _, ht0⟩ := hfl 0 _ rfl
      obtain ⟨x0, e0, _, _⟩ := DataW.trod_int Try.underlying3 ht0
      simp at e0
      subst e0
      obtain ⟨v1, y1, hc1, _, ht1⟩ := hfl 1 _ rfl
      obtain ⟨A1, n1, c1, x1, e1, hr1⟩ := openc_ints ht1
      simp at e1
      subst e1
      obtain ⟨v2, y2, hc2, _, ht2⟩ := hfl 2 _ rfl
      obtain ⟨x2, e2, _, hx2⟩ := DataW.trod_string Try.underlying9 ht2
      simp at e2
      subst e2
      refine ⟨⟨x0, x1, x2⟩, fun j d hd => ?_⟩
      match j with
      | 0 =>
        simp [fObject] at hd
        subst hd
        refine ⟨_, hc0, ?_⟩
        unfold D.rd; rfl
      | 1 =>
        simp [fObject] at hd
        subst hd
        refine ⟨_, hc1, ?_⟩
        exact hr1
      | 2 =>
        simp [fObject] at hd
        subst hd
        refine ⟨_, hc2, ?_⟩
        unfold D.rd; exact ⟨rfl, by unfold maxLen at hx2; exact hx2⟩
      | j + 3 => simp [fObject] at hd
    obtain ⟨xs, hxl, hx⟩ := list_of n key
    refine ⟨some a, n, c, xs, hcs, ?_⟩
    unfold dObjects
    have h1 := rd_of_cells fObject_len (by omega) hxl hl (by unfold maxLen at hm; exact hm) hx
    rw [← hxl] at h1 ⊢
    exact h1

set_option maxRecDepth 100000 in
theorem open_Object {H : Type} {enc : TypeId × Value → H} {w : World} {v : Value} {d : DataW H} {pl : List MemPlace} (hv : Value.okWide Try.prog w .any 0 22 v)
    (h : DataW.Trod enc Try.prog w 0 (fun _ => true) true 22 v d pl) : ∃ A n c xs, v = .slice A n c ∧ D.rd w 0 w.heap.size (dObjects xs) (.slice A n c) := by
  obtain ⟨A, n, c, rfl⟩ := okWide_slice Try.underlying22 hv
  obtain ⟨fuel, hf⟩ := h
  obtain ⟨A2, n2, c2, xs, e, hr⟩ := openc_Object hf
  simp [Value.cells] at e
  obtain ⟨rfl, rfl, rfl⟩ := e
  exact ⟨_, _, _, xs, rfl, hr⟩

end Go.Proofs.Ytnaeglfochnikaa
