/-
  The comparison of two tables of refs: whether they differ. Condition: the refs are refs.
  The walk of the program's SnapshotDiffer: the shards whose refs differ. Condition: lengths are small, the votes are ints.
-/
import Derived.Test.YtgbkjfhmbchiiaaSnapR
import Derived.Laws.StructEq
import Derived.DeepKeys
import Derived.Test.YtgbkjfhmbchiiaaM2
import Derived.Test.YtgbkjfhmbchiiaaM10
namespace Go.Proofs.Ytgbkjfhmbchiiaa
set_option linter.unusedVariables false
set_option linter.unusedSimpArgs false
open Go.RowKit

theorem rid_wf {x : Int} (h : rid x = true) : (Lit.int .i64 x).wf = true := by
  unfold rid at h
  rw [inR_iff] at h
  simp [Lit.wf, IntKind.min, IntKind.max, IntKind.signed, IntKind.bits]
  omega
theorem refs4 {xs : List Int} (h : refsB xs = true) : ∃ a b c d, xs = [a, b, c, d] ∧ (Lit.int .i64 a).wf = true ∧ (Lit.int .i64 b).wf = true ∧ (Lit.int .i64 c).wf = true ∧ (Lit.int .i64 d).wf = true := by
  obtain ⟨a, b, c, d, rfl⟩ := lst4 (refsB_len h)
  unfold refsB ridsB at h
  simp only [Bool.and_eq_true, List.all_cons, List.all_nil] at h
  exact ⟨a, b, c, d, rfl, rid_wf h.2.1, rid_wf h.2.2.1, rid_wf h.2.2.2.1, rid_wf h.2.2.2.2.1⟩
set_option maxRecDepth 100000 in
theorem keyLits_r4 {a b c d : Int} (ha : (Lit.int .i64 a).wf = true) (hb : (Lit.int .i64 b).wf = true) (hc : (Lit.int .i64 c).wf = true) (hd : (Lit.int .i64 d).wf = true) :
    Try.prog.keyLits 3 65 [.int .i64 a, .int .i64 b, .int .i64 c, .int .i64 d] = some [.int .i64 a, .int .i64 b, .int .i64 c, .int .i64 d] := by
  have u := Try.underlying65
  have ui := Try.underlying3
  have c4 : Try.prog.cellsOf 65 = 4 := by kernel_rfl
  have c1 : Try.prog.cellsOf 3 = 1 := by kernel_rfl
  simp [Program.keyLits, u, ui, c4, c1, List.range, List.range.loop, ha, hb, hc, hd]
set_option maxRecDepth 100000 in
theorem neq_r4 {xs ys : List Int} (hx : refsB xs = true) (hy : refsB ys = true) (w : World) : (binOp .neq 65 (r4 xs) (r4 ys)).run Try.prog w = .ok (.bool (!decide (xs = ys))) w := by
  obtain ⟨a, b, c, d, rfl, ha, hb, hc, hd⟩ := refs4 hx
  obtain ⟨a', b', c', d', rfl, ha', hb', hc', hd'⟩ := refs4 hy
  rw [r4_at, r4_at, run_neq_struct]
  obtain ⟨r, hr, hiff⟩ := run_equalIn_deep (P := Try.prog) 9990 10 65 (by kernel_rfl) w 3 3 (.agg #[.int .i64 a, .int .i64 b, .int .i64 c, .int .i64 d]) (.agg #[.int .i64 a', .int .i64 b', .int .i64 c', .int .i64 d']) [.int .i64 a, .int .i64 b, .int .i64 c, .int .i64 d] [.int .i64 a', .int .i64 b', .int .i64 c', .int .i64 d'] (by kernel_rfl) (by kernel_rfl) (keyLits_r4 ha hb hc hd) (keyLits_r4 ha' hb' hc' hd')
  rw [show (10000 : Nat) = 9990 + 10 from rfl, hr]
  show Result.ok (Value.bool (!r)) w = _
  have : r = decide ([a, b, c, d] = [a', b', c', d']) := by
    rw [Bool.eq_iff_iff, hiff, decide_eq_true_eq]
    simp
  rw [this]
set_option maxRecDepth 100000 in
theorem guard_r4 (xs ys : List Int) (x y : Operand) (w : World) : (eqGuard .neq 65 x y (r4 xs) (r4 ys)).run Try.prog w = .ok () w := run_eqGuard_agg w .neq 65 x y _ _ (by kernel_rfl)

end Go.Proofs.Ytgbkjfhmbchiiaa

namespace Go.Proofs.Ytgbkjfhmbchiiaa
set_option linter.unusedVariables false
set_option linter.unusedSimpArgs false
open Go.RowKit

theorem okSn_mk {c : CoordD} {a b : Int} (h1 : coordB c = true) (h2 : inR a 0 c.order.length = true) (h3 : inR b 0 c.order.length = true) : okSn c a b = true := by unfold okSn; rw [h1, h2, h3]; rfl
theorem okSn_no1 {c : CoordD} {a b : Int} (h1 : coordB c = false) : okSn c a b = false := by unfold okSn; rw [h1]; rfl
theorem okSn_no2 {c : CoordD} {a b : Int} (h1 : inR a 0 c.order.length = false) : okSn c a b = false := by unfold okSn; rw [h1]; simp
theorem okSn_no3 {c : CoordD} {a b : Int} (h1 : inR b 0 c.order.length = false) : okSn c a b = false := by unfold okSn; rw [h1]; simp
theorem ord_room {c : CoordD} (h : coordB c = true) {n : Nat} (hn : c.order.length = n) : n ≤ 12 := by have := coordB_len h; omega

set_option maxHeartbeats 3200000 in
set_option maxRecDepth 100000 in
theorem implSnapD_any (txns : List TxnD) (order : List Int) (a b : Int) (A0 : Option Addr) (n0 c0 : Nat) (A1 : Option Addr) (n1 c1 : Nat) (w : World) (lo hi : Nat) (hh : hi ≤ w.heap.size) (hr0 : D.rd w lo hi (dTxns txns) (.slice A0 n0 c0)) (hr1 : D.rd w lo hi (intsD order) (.slice A1 n1 c1)) (hn0 : n0 ≤ 1048576) (hn1 : n1 ≤ 1048576)
    (hwf : ∀ t ∈ txns, ∀ v ∈ t.votes, (Lit.int .i64 v).wf = true) :
    Calls Try.prog 17 #[.agg #[.slice A0 n0 c0, .slice A1 n1 c1], .int .i64 a, .int .i64 b] w fun e w' => ∃ (v : Value) (m : Nat), w'.ownsRow w.heap.size 3 1 v m ((difL ⟨txns, order⟩ a b).flatMap ci) ∧ m ≤ 3 ∧ Below w.heap.size w w' ∧ e = .returned v := by
  have HB0 : Hid (Below w.heap.size w (w.alloc (.cells #[.slice A0 n0 c0, .slice A1 n1 c1] 26))) := (Below.refl _ _).alloc (Nat.le_refl _) _
  have HX0 : Hid ((w.alloc (.cells #[.slice A0 n0 c0, .slice A1 n1 c1] 26)).heap[w.heap.size]? = some (.cells #[.slice A0 n0 c0, .slice A1 n1 c1] 26 (0, 0))) := Lib.hid (heap_alloc_new w _)
  have HT := Lib.hid hr0
  have HO := Lib.hid hr1
  have HL := Lib.hid hr1.ints.1
  have HWF := Lib.hid hwf
  clear hr0 hr1 hwf
  go_enter Try.func17, Try.ntmps17
  go_wp2_with fail
  refine (implCoord_any txns order A0 n0 c0 A1 n1 c1 _ lo hi (by simp; omega) (HT.out.alloc hh _) (HO.out.alloc hh _) hn0 hn1 HWF.out).mono ?_
  rintro e w1 ⟨rfl, hb1⟩
  have HB1 := Lib.hid (bel_tr HB0.out (Nat.le_refl _) hb1)
  have HX1 := Lib.hid ((hb1.block _ (hlt_of HX0.out)).trans HX0.out)
  have hz1 : w.heap.size < w1.heap.size := hlt_of HX1.out
  have d0 := cell_of_row w1 w.heap.size 0 _ _ _ HX1.out
  have d1 := cell_of_row w1 w.heap.size 1 _ _ _ HX1.out
  clear hb1
  rcases hv : coordB ⟨txns, order⟩ with _ | _
  · have hno := Lib.hid (difL_no (okSn_no1 (a := a) (b := b) hv))
    clear hv
    go_wp2_with fail
    go_ret
    exact ⟨_, 0, by rw [hno.out]; exact World.ownsRow_nil _ _ _ _, by omega, HB1.out, rfl⟩
  have HV := Lib.hid hv
  clear hv
  rcases ha : inR a 0 n1 with _ | _
  · have hno := Lib.hid (difL_no (okSn_no2 (c := ⟨txns, order⟩) (a := a) (b := b) (by show inR a 0 order.length = false; rw [HL.out]; exact ha)))
    go_wp2_with (go_at_call 39; refine (inRange_any _ _ _ _).mono ?_; rintro e w' ⟨rfl, rfl⟩)
    go_ret
    exact ⟨_, 0, by rw [hno.out]; exact World.ownsRow_nil _ _ _ _, by omega, HB1.out, rfl⟩
  rcases hb : inR b 0 n1 with _ | _
  · have hno := Lib.hid (difL_no (okSn_no3 (c := ⟨txns, order⟩) (a := a) (b := b) (by show inR b 0 order.length = false; rw [HL.out]; exact hb)))
    go_wp2_with (go_at_call 39; refine (inRange_any _ _ _ _).mono ?_; rintro e w' ⟨rfl, rfl⟩)
    go_ret
    exact ⟨_, 0, by rw [hno.out]; exact World.ownsRow_nil _ _ _ _, by omega, HB1.out, rfl⟩
  have hok := Lib.hid (difL_yes (okSn_mk (c := ⟨txns, order⟩) (a := a) (b := b) HV.out (by show inR a 0 order.length = true; rw [HL.out]; exact ha) (by show inR b 0 order.length = true; rw [HL.out]; exact hb)))
  go_wp2_with (go_at_call 39; refine (inRange_any _ _ _ _).mono ?_; rintro e w' ⟨rfl, rfl⟩)
  have ha' := (inR_iff _ _ _).1 ha
  have hb' := (inR_iff _ _ _).1 hb
  clear ha hb
  obtain ⟨p, rfl⟩ := Int.eq_ofNat_of_zero_le ha'.1
  obtain ⟨q, rfl⟩ := Int.eq_ofNat_of_zero_le hb'.1
  have hp : p ≤ n1 := by omega
  have hq : q ≤ n1 := by omega
  clear ha' hb'
  have HR0 : Hid (w1.ownsRow (w.heap.size + 1) 3 1 (.slice none 0 0) 0 ((difTo ⟨txns, order⟩ p q 0).flatMap ci)) := Lib.hid (World.ownsRow_nil _ _ _ _)
  go_loopw [8, 31] (fun y i wr => ∃ (k m : Nat) (v : Value), k ≤ 3 ∧ m ≤ k ∧ i = .int .i64 k ∧ v = y ∧ Hid (wr.ownsRow (w.heap.size + 1) 3 1 v m ((difTo ⟨txns, order⟩ p q k).flatMap ci)) ∧ Hid (wr.heap[w.heap.size]? = some (.cells #[.slice A0 n0 c0, .slice A1 n1 c1] 26 (0, 0))) ∧ Below w.heap.size w wr) (fun _ i _ => 3 - (intOf i).toNat)
  case atStart => exact ⟨0, 0, _, by omega, by omega, rfl, rfl, HR0.out, HX1.out, HB1.out⟩
  case round =>
    obtain ⟨k, m, v, hk, hmk, rfl, rfl, HR, HX, hb⟩ := hrel
    have HB := Lib.hid hb
    have hwsz : w.heap.size < wr.heap.size := hlt_of HX.out
    clear hb HR0 HX1
    by_cases hlt : k < 3
    · have hhr : hi ≤ wr.heap.size := by omega
      have HLR := Lib.hid (refsTo_len (c := ⟨txns, order⟩) HV.out k (k := p) (by show p ≤ order.length; rw [HL.out]; exact hp))
      have HLQ := Lib.hid (refsTo_len (c := ⟨txns, order⟩) HV.out k (k := q) (by show q ≤ order.length; rw [HL.out]; exact hq))
      go_wp2_with fail
      refine (refsAfter_any txns order k p A0 n0 c0 A1 n1 c1 wr lo hi hhr (HT.out.below HB.out hh) (HO.out.below HB.out hh) HV.out hp).mono ?_
      rintro e w2 ⟨rfl, hb2⟩
      have HB2 := Lib.hid (bel_tr HB.out (Nat.le_refl _) hb2)
      have HX2 := Lib.hid ((hb2.block _ hwsz).trans HX.out)
      have HR2 := Lib.hid (own_below HR.out hb2)
      have hhr2 : hi ≤ w2.heap.size := Nat.le_trans hhr hb2.size
      clear hb2
      go_wp2_with fail
      refine (refsAfter_any txns order k q A0 n0 c0 A1 n1 c1 w2 lo hi hhr2 (HT.out.below HB2.out hh) (HO.out.below HB2.out hh) HV.out hq).mono ?_
      rintro e w3 ⟨rfl, hb3⟩
      have HB3 := Lib.hid (bel_tr HB2.out (Nat.le_refl _) hb3)
      have HX3 := Lib.hid ((hb3.block _ (hlt_of HX2.out)).trans HX2.out)
      have HR3 := Lib.hid (own_below HR2.out hb3)
      have HRP := Lib.hid (refsTo_refs (c := ⟨txns, order⟩) HV.out k (k := p) (by show p ≤ order.length; rw [HL.out]; exact hp))
      have HRQ := Lib.hid (refsTo_refs (c := ⟨txns, order⟩) HV.out k (k := q) (by show q ≤ order.length; rw [HL.out]; exact hq))
      have hneq := neq_r4 HRP.out HRQ.out w3
      have hgrd := fun x y => guard_r4 (refsTo txns (k : Int) order p) (refsTo txns (k : Int) order q) x y w3
      have HDS := Lib.hid (difTo_succ ⟨txns, order⟩ (p : Int) (q : Int) k)
      have hz3 : w.heap.size < w3.heap.size := hlt_of HX3.out
      clear hb3
      by_cases he : refsTo txns (k : Int) order p = refsTo txns (k : Int) order q
      · have hdd : decide (refsTo txns (k : Int) order p = refsTo txns (k : Int) order q) = true := decide_eq_true he
        have hda : Hid (difAt ⟨txns, order⟩ p q k = false) := by
          show difAt _ _ _ _ = _
          unfold difAt
          show (!decide (refsTo txns (k : Int) order p = refsTo txns (k : Int) order q)) = false
          rw [hdd]; rfl
        rw [hdd] at hneq
        have HO3 : Hid (w3.ownsRow (w.heap.size + 1) 3 1 v m ((difTo ⟨txns, order⟩ p q (k + 1)).flatMap ci)) := by
          show World.ownsRow _ _ _ _ _ _ _
          rw [HDS.out, hda.out]; exact HR3.out
        clear he hdd
        go_wp2_with fail
        exact ⟨⟨k + 1, m, _, by omega, by omega, by go_num, rfl, HO3.out, HX3.out, HB3.out⟩, by simp [intOf]; omega⟩
      · have hdd : decide (refsTo txns (k : Int) order p = refsTo txns (k : Int) order q) = false := decide_eq_false he
        have hda : Hid (difAt ⟨txns, order⟩ p q k = true) := by
          show difAt _ _ _ _ = _
          unfold difAt
          show (!decide (refsTo txns (k : Int) order p = refsTo txns (k : Int) order q)) = true
          rw [hdd]; rfl
        rw [hdd] at hneq
        clear he hdd
        go_wp2_with (at_builtin; go_must (refine wpList_app Try.elI (m := 1) (HR3.out.alloc _) (rd_newn (n := w3.heap.size) rfl [.int .i64 (k : Int)] 3) rfl (by simp [Value.oneCell']) (by unfold maxLen; omega) (by omega) (by simp; omega) rfl rfl rfl rfl ?_); intro v2 w4 hown2 hg2; have HO2 := Lib.hid hown2; have HB4 := Lib.hid (below_app (HB3.out.alloc (by omega) _) (by omega : w.heap.size ≤ w.heap.size + 1) (by simp; omega) (HR3.out.alloc _) hg2); have HX4 := Lib.hid ((hg2.block _ (by simp; omega) (fun e => by have := (HR3.out.lt w.heap.size e.symm).1; omega)).trans ((Below.heap_alloc w3 _ _ hz3).trans HX3.out)); clear hown2 hg2)
        have HO3 : Hid (w4.ownsRow (w.heap.size + 1) 3 1 v2 (m + 1) ((difTo ⟨txns, order⟩ p q (k + 1)).flatMap ci)) := by
          have := HO2.out
          show World.ownsRow _ _ _ _ _ _ _
          rw [HDS.out, if_pos hda.out, List.flatMap_append]; exact this
        go_wp2_with fail
        exact ⟨⟨k + 1, m + 1, _, by omega, by omega, by go_num, rfl, HO3.out, HX4, HB4.out⟩, by simp [intOf]; omega⟩
    · have hkm : k = 3 := by omega
      subst hkm
      go_wp2_with fail
      go_ret
      exact ⟨_, m, by rw [hok.out]; exact own_base HR.out (by omega), by omega, HB.out, rfl⟩

end Go.Proofs.Ytgbkjfhmbchiiaa
