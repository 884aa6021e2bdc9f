/-
  The walk of the reference's CoordinatorBegin: a coordinator in memory of its own. Condition: lengths fit an int64.
  The walks of the program's Txn.partAt and of the closure that it hands to slices.IndexFunc: the place of the part for a shard. Condition: lengths fit an int64.
  The walk of the reference's CoordinatorVote: a coordinator in memory of its own and whether it has turned. No condition.
  The walk of the reference's CoordinatorTimeout: a coordinator in memory of its own and whether it has turned. No condition.
-/
import Derived.Test.YtgbkjfhmbchiiaaM11
import Derived.Test.YtgbkjfhmbchiiaaM4
import Derived.Test.YtgbkjfhmbchiiaaRefsV
import Derived.Test.YtgbkjfhmbchiiaaM9
import Derived.StillTailTactics
section
namespace Go.Proofs.Ytgbkjfhmbchiiaa
set_option linter.unusedVariables false
set_option linter.unusedSimpArgs false
open Go.RowKit

theorem asc_len4 {us : List Upd} : ∀ {lo : Int}, Asc lo us → lo ≤ 4 → (us.length : Int) ≤ 4 - lo := by
  induction us with
  | nil => intro lo _ h; simp; omega
  | cons u us ih =>
    intro lo h hl
    obtain ⟨h1, h2, h3⟩ := h
    have := ((uokB_iff u).1 h1).1
    have := ih h3 (by omega)
    simp; omega
theorem upds_len {us : List Upd} (h : updsB us = true) : us.length ≤ 4 := by
  have := asc_len4 (updsB_asc h).1 (by omega)
  omega
theorem small_valid {c : CoordD} (h : coordB c = true) : Small c := by
  have hl := coordB_len h
  refine ⟨by omega, by omega, fun t ht => ?_⟩
  obtain ⟨k, hk, rfl⟩ := List.getElem_of_mem ht
  have h1 := (coordB_all h k hk).1
  rw [List.getD_eq_getElem?_getD, List.getElem?_eq_getElem hk] at h1
  have h2 := txnB_and h1
  have h3 := partsB_len h2.1
  refine ⟨by show c.txns[k].parts.length ≤ 100; have : ((some c.txns[k]).getD ⟨[], [], 0⟩).parts.length ≤ 3 := h3; exact Nat.le_trans this (by omega), by have h4 := h2.2.1; have h4' : c.txns[k].votes.length = c.txns[k].parts.length := h4; have : c.txns[k].parts.length ≤ 3 := h3; omega, fun p hp => ?_⟩
  have := upds_len (partsB_upds h2.1 hp)
  omega
theorem co_nil {w : World} {base p : Nat} : CoO w base p (.slice none 0 0) [] (.slice none 0 0) [] :=
  ⟨[], [], World.ownsRow_nil _ _ _ _, D.ownL.nil w, World.ownsRow_nil _ _ _ _, List.nodup_nil, fun _ h => (by cases h), fun _ h => (by cases h), fun _ h => (by cases h)⟩
/-- a coordinator and whether it has turned, handed back -/
def CoR (w : World) (e : Ending) (w' : World) : Prop := ∃ (v1 v2 : Value) (ts : List TxnD) (os : List Int) (b : Bool), CoO w' (w.heap.size + 1) w.heap.size v1 ts v2 os ∧ Below w.heap.size w w' ∧ e = .returned (.tuple #[.agg #[v1, v2], .bool b])
theorem made_ints {w : World} {n : Nat} (hn : n ≤ maxLen) : Own (w.alloc (.cells (madeCells #[.int .i64 0] n) 3)) w.heap.size (intsD (List.replicate n 0)) (.slice (some ⟨w.heap.size, 0, none⟩) n n) := by
  have h := World.ownsRow_lit (e := 3) (size := 1) w (madeCells #[.int .i64 0] n) n (Nat.le_refl w.heap.size) hn (by simp [madeCells])
  have e1 : (madeCells #[.int .i64 0] n).toList = (List.replicate n (0 : Int)).flatMap ci := by
    have := made_cells [.int .i64 0] (by simp) n
    rw [show (madeCells #[.int .i64 0] n).toList = (List.replicate n [Value.int .i64 0]).flatten from by simpa using this]
    clear h hn
    clear this
    induction n with
    | zero => rfl
    | succ n ih => rw [List.replicate_succ, List.flatten_cons, ih, List.replicate_succ, List.flatMap_cons]; rfl
  rw [e1] at h
  exact own_ints h
theorem Try.infoI0 : (Try.prog.info? 3).map (fun i => (i.zero, i.size, i.bytes)) = some (some (.int .i64 0), 1, 8) := by kernel_rfl
theorem mk_ints (W : World) (n : Nat) (hn : n ≤ 1000) : (Instr.makeSlice 24 (.int .i64 (n : Int)) (.int .i64 (n : Int))).run Try.prog W = .ok (.slice (some ⟨W.heap.size, 0, none⟩) n n) (W.alloc (.cells (madeCells #[.int .i64 0] n) 3)) := by
  obtain ⟨i0, hi0, hz0, hz1, hz2⟩ := info_parts Try.infoI0
  have := run_make_rowN (P := Try.prog) 24 3 i0 _ Try.underlying24 hi0 hz0 n (by rw [hz2]; omega) (by unfold maxLen; omega) W
  rw [hz1, Nat.mul_one] at this
  exact this

attribute [local go_sem] loadP
set_option maxHeartbeats 6400000 in
set_option maxRecDepth 100000 in
theorem begin_any (txns : List TxnD) (order : List Int) (ps : List PartD) (A0 : Option Addr) (n0 c0 : Nat) (A1 : Option Addr) (n1 c1 : Nat) (A : Option Addr) (n c : Nat) (w : World) (lo hi lo' hi' : Nat) (hh : hi ≤ w.heap.size) (hh' : hi' ≤ w.heap.size) (hr0 : D.rd w lo hi (dTxns txns) (.slice A0 n0 c0)) (hr1 : D.rd w lo hi (intsD order) (.slice A1 n1 c1)) (hr : D.rd w lo' hi' (dParts ps) (.slice A n c)) :
    Calls Try.prog 54 #[.agg #[.slice A0 n0 c0, .slice A1 n1 c1], .slice A n c] w fun e w' => CoR w e w' := by
  have HT := Lib.hid hr0
  have HO := Lib.hid hr1
  have HPS := Lib.hid hr
  have HN := Lib.hid hr.len.1
  clear hr0 hr1 hr
  obtain ⟨w1, hw1⟩ : ∃ w1 : World, w1 = (w.alloc (.cells #[.slice A0 n0 c0, .slice A1 n1 c1] 26)).alloc (.cells #[.slice none 0 0, .slice none 0 0] 26) := ⟨_, rfl⟩
  have hz1 : w.heap.size + 1 < w1.heap.size := by rw [hw1]; simp
  have HB1 : Hid (Below w.heap.size w w1) := by rw [hw1]; exact Lib.hid (((Below.refl _ _).alloc (Nat.le_refl _) _).alloc (by simp) _)
  have HX1 : Hid (w1.heap[w.heap.size]? = some (.cells #[.slice A0 n0 c0, .slice A1 n1 c1] 26 (0, 0))) := by
    rw [hw1]
    exact Lib.hid ((Below.heap_alloc _ _ _ (by simp)).trans (heap_alloc_new w _))
  have HC1 : Hid (w1.heap[w.heap.size + 1]? = some (.cells #[.slice none 0 0, .slice none 0 0] 26 (0, 0))) := by
    rw [hw1]
    have := heap_alloc_new (w.alloc (.cells #[.slice A0 n0 c0, .slice A1 n1 c1] 26)) (.cells #[.slice none 0 0, .slice none 0 0] 26)
    exact Lib.hid (by simpa using this)
  go_enter Try.func54, Try.ntmps54
  go_wp2_with fail
  rw [← hw1]
  clear hw1
  refine (specCoord_any txns order A0 n0 c0 A1 n1 c1 w1 lo hi (by have := HB1.out.size; omega) (HT.out.below HB1.out hh) (HO.out.below HB1.out hh)).mono ?_
  rintro e w2 ⟨rfl, hb2⟩
  have HB2 := Lib.hid (bel_tr HB1.out (Nat.le_refl _) hb2)
  have HX2 := Lib.hid ((hb2.block _ (by omega)).trans HX1.out)
  have HC2 := Lib.hid ((hb2.block _ hz1).trans HC1.out)
  have hz2 : w.heap.size + 1 < w2.heap.size := Nat.lt_of_lt_of_le hz1 hb2.size
  have f0 : w2.frozen? ⟨w.heap.size + 1, 0, none⟩ = false := frozen_of_row _ _ _ _ _ HC2.out
  have f1 : w2.frozen? ⟨w.heap.size + 1, 1, none⟩ = false := frozen_of_row _ _ _ _ _ HC2.out
  have k0 : w2.cell? ⟨w.heap.size + 1, 0, none⟩ = some (.slice none 0 0) := cell_of_row _ _ _ _ _ _ HC2.out
  have k1 : w2.cell? ⟨w.heap.size + 1, 1, none⟩ = some (.slice none 0 0) := cell_of_row _ _ _ _ _ _ HC2.out
  clear hb2
  rcases hv : coordB ⟨txns, order⟩ with _ | _
  · clear hv
    go_wp2_with fail
    exact bodyPost_ret (v := .tuple #[.agg #[.slice none 0 0, .slice none 0 0], .bool false]) (by simp [results, Try.results54, go_sem, f0, f1, k0, k1]) rfl ⟨_, _, [], [], false, co_nil, (HB2.out.setCell (by simp) _).setCell (by simp) _, rfl⟩
  have HV := Lib.hid hv
  have HSM := Lib.hid (small_valid hv)
  have hn12 : n0 ≤ 12 := by have h1 := HT.out.len; have h2 := (coordB_len hv).1; dsimp only at h2; unfold dTxns at h1; omega
  clear hv
  go_wp2_with fail
  refine (l22Parts_any ps A n c w2 lo' hi' (by have := HB2.out.size; omega) (HPS.out.below HB2.out hh')).mono ?_
  rintro e w3 ⟨rfl, hb3⟩
  have HB3 := Lib.hid (bel_tr HB2.out (Nat.le_refl _) hb3)
  have HX3 := Lib.hid ((hb3.block _ (by omega)).trans HX2.out)
  have HC3 := Lib.hid ((hb3.block _ hz2).trans HC2.out)
  have hz3 : w.heap.size + 1 < w3.heap.size := Nat.lt_of_lt_of_le hz2 hb3.size
  have hz3a : w.heap.size < w3.heap.size := by omega
  have f30 : w3.frozen? ⟨w.heap.size + 1, 0, none⟩ = false := frozen_of_row _ _ _ _ _ HC3.out
  have f31 : w3.frozen? ⟨w.heap.size + 1, 1, none⟩ = false := frozen_of_row _ _ _ _ _ HC3.out
  have k30 : w3.cell? ⟨w.heap.size + 1, 0, none⟩ = some (.slice none 0 0) := cell_of_row _ _ _ _ _ _ HC3.out
  have k31 : w3.cell? ⟨w.heap.size + 1, 1, none⟩ = some (.slice none 0 0) := cell_of_row _ _ _ _ _ _ HC3.out
  have b30 : w3.cell? ⟨w.heap.size, 0, none⟩ = some (.slice A0 n0 c0) := cell_of_row _ _ _ _ _ _ HX3.out
  have b31 : w3.cell? ⟨w.heap.size, 1, none⟩ = some (.slice A1 n1 c1) := cell_of_row _ _ _ _ _ _ HX3.out
  clear hb3 f0 f1 k0 k1
  rcases hp : partsB ps with _ | _
  · clear hp
    go_wp2_with fail
    exact bodyPost_ret (v := .tuple #[.agg #[.slice none 0 0, .slice none 0 0], .bool false]) (by simp [results, Try.results54, go_sem, f30, f31, k30, k31]) rfl ⟨_, _, [], [], false, co_nil, (HB3.out.setCell (by simp) _).setCell (by simp) _, rfl⟩
  have hn3 : n ≤ 3 := by have := partsB_len hp; rw [HN.out]; exact this
  have HUL : Hid (∀ p ∈ ps, p.us.length ≤ 1000) := Lib.hid fun p hq => by have := upds_len (partsB_upds hp hq); omega
  clear hp
  go_wp2_with fail
  refine (copy_any txns order A0 n0 c0 A1 n1 c1 w3 lo hi (by have := HB3.out.size; omega) (HT.out.below HB3.out hh) (HO.out.below HB3.out hh) HSM.out).mono ?_
  rintro e w4 ⟨v1, v2, hco, hb4, hs4, rfl⟩
  obtain ⟨B1, d1, B2, d2, rfl, rfl⟩ := hco.vals
  have HB4 := Lib.hid (bel_tr HB3.out (Nat.le_refl _) hb4)
  have HX4 := Lib.hid ((hb4.block _ (by omega)).trans HX3.out)
  have HC4 := Lib.hid ((hb4.block _ hz3).trans HC3.out)
  have hz4 : w.heap.size + 1 < w4.heap.size := Nat.lt_of_lt_of_le hz3 hb4.size
  have hz4a : w.heap.size < w4.heap.size := by omega
  have HCO4 := Lib.hid (hco.other (q := w4.heap.size) (.inl (Nat.le_refl _)))
  have b40 : w4.cell? ⟨w.heap.size, 0, none⟩ = some (.slice A0 n0 c0) := cell_of_row _ _ _ _ _ _ HX4.out
  have hs34 := hb4.size
  clear hb4 hco
  obtain ⟨w5, hw5⟩ : ∃ w5, w5 = w4.alloc (.cells #[.slice B1 txns.length d1, .slice B2 order.length d2] 26) := ⟨_, rfl⟩
  obtain ⟨p, hp⟩ : ∃ p, p = w4.heap.size := ⟨_, rfl⟩
  have hz5 : w5.heap.size = p + 1 := by rw [hw5, hp]; simp
  have hb5 : Below w4.heap.size w4 w5 := by rw [hw5]; exact (Below.refl _ _).alloc (Nat.le_refl _) _
  have HP5 : Hid (w5.heap[p]? = some (.cells #[.slice B1 txns.length d1, .slice B2 order.length d2] 26 (0, 0))) := by rw [hw5, hp]; exact Lib.hid (heap_alloc_new w4 _)
  have HB5 := Lib.hid (bel_tr HB4.out (Nat.le_refl _) hb5)
  have HC5 := Lib.hid ((hb5.block _ hz4).trans HC4.out)
  have HX5 := Lib.hid ((hb5.block _ hz4a).trans HX4.out)
  have HCO5 : Hid (CoO w5 (w3.heap.size + 2) p (.slice B1 txns.length d1) txns (.slice B2 order.length d2) order) := by rw [hp]; exact Lib.hid (HCO4.out.fresh hb5)
  have b50 : w5.cell? ⟨w.heap.size, 0, none⟩ = some (.slice A0 n0 c0) := cell_of_row _ _ _ _ _ _ HX5.out
  have p50 : w5.cell? ⟨p, 0, none⟩ = some (.slice B1 txns.length d1) := cell_of_row _ _ _ _ _ _ HP5.out
  have p51 : w5.cell? ⟨p, 1, none⟩ = some (.slice B2 order.length d2) := cell_of_row _ _ _ _ _ _ HP5.out
  have c50 : w5.cell? ⟨w.heap.size + 1, 0, none⟩ = some (.slice none 0 0) := cell_of_row _ _ _ _ _ _ HC5.out
  have c51 : w5.cell? ⟨w.heap.size + 1, 1, none⟩ = some (.slice none 0 0) := cell_of_row _ _ _ _ _ _ HC5.out
  have g50 : w5.frozen? ⟨w.heap.size + 1, 0, none⟩ = false := frozen_of_row _ _ _ _ _ HC5.out
  have g51 : w5.frozen? ⟨w.heap.size + 1, 1, none⟩ = false := frozen_of_row _ _ _ _ _ HC5.out
  have hpw : w.heap.size + 1 < p := by omega
  have h3p : w3.heap.size + 4 ≤ p := by omega
  have hp5 : p < w5.heap.size := by omega
  have hzp : w3.heap.size ≤ p := by omega
  go_upto_region 4 with (fail)
  rw [← hw5, ← hp]
  clear hw5 hp hb5 hz5
  by_cases h12 : 12 ≤ n0
  · have h12' : (12 : Int) ≤ (n0 : Int) := by omega
    go_wp2_with fail
    exact bodyPost_ret (v := .tuple #[.agg #[.slice B1 txns.length d1, .slice B2 order.length d2], .bool false]) (by simp [results, Try.results54, go_sem, c50, c51, g50, g51]) rfl ⟨_, _, _, _, false, ((((HCO5.out.low (by omega) _ _).low (by omega) _ _).base_le (by omega)).other (.inr (by omega))), (HB5.out.setCell (by simp) _).setCell (by simp) _, rfl⟩
  · have h12' : ¬ (12 : Int) ≤ (n0 : Int) := by omega
    have hmk := fun W => mk_ints W n (by omega)
    have hh5 : hi' ≤ w5.heap.size := by have := HB5.out.size; omega
    have hh5d : hi' ≤ w5.drew.heap.size := hh5
    have hh5a : hi' ≤ (w5.alloc (.cells (madeCells #[.int .i64 0] n) 3)).drew.heap.size := by show hi' ≤ (w5.alloc (.cells (madeCells #[.int .i64 0] n) 3)).heap.size; simp; omega
    have HRd := Lib.hid (HPS.out.below HB5.out hh').drew
    have HRa := Lib.hid ((HPS.out.below HB5.out hh').alloc hh5 (.cells (madeCells #[.int .i64 0] n) 3)).drew
    have hn1000 : n ≤ 1000 := by omega
    have hpne : (Value.slice B1 txns.length d1).ownBlock ≠ some p := fun e => by
      obtain ⟨vs, F, -, -, -, -, -, h6, -⟩ := HCO5.out
      exact (h6 p e).2.1 rfl
    have HMA : Hid (Own (w5.alloc (.cells (madeCells #[.int .i64 0] n) 3)).drew w5.heap.size (intsD (List.replicate n 0)) (.slice (some ⟨w5.heap.size, 0, none⟩) n n)) := Lib.hid ((made_ints (by unfold maxLen; omega)).drewN 1)
    have HT5 : Hid (txns.length ≤ 100) := Lib.hid HSM.out.1
    have htl : txns.length ≤ 100 := HT5.out
    have tokA : True := trivial
    clear c50 c51 g50 g51
    go_wp2_with fail
    rw [show Op.load 23 (Operand.tmp 23) = loadP 23 (Operand.tmp 23) from rfl]
    go_region_held_law (fun _ => True) (trivial)
      (first
        | (go_at_call 74; have _t := tokA; (with_reducible refine (parts2_any ps A n c w5.drew lo' hi' hh5d hn1000 HUL.out HRd.out).mono ?_); rintro e w6 ⟨Bp, dp, hop, hb6', rfl⟩; have hb6 : Below w5.heap.size w5 w6 := (Below.refl _ _).drew.trans hb6'; have HPV : Hid (OwnV w6 w5.heap.size w6.heap.size (dParts ps) (.slice Bp n dp)) := Lib.hid (OwnV.of hop); have hs67 := hb6.size; have hp6 : p < w6.heap.size := Nat.lt_of_lt_of_le hp5 hb6.size; have q60 : w6.cell? ⟨p, 0, none⟩ = some (.slice B1 txns.length d1) := (hb6.cell hp5).trans p50; have hbm : Below w6.heap.size w6 (w6.alloc (.cells (madeCells #[.int .i64 0] n) 3)) := (Below.refl _ _).alloc (Nat.le_refl _) _; have hb7 : Below w5.heap.size w5 (w6.alloc (.cells (madeCells #[.int .i64 0] n) 3)) := hb6.trans (hbm.mono hb6.size); have hd7 : OwnL (w6.alloc (.cells (madeCells #[.int .i64 0] n) 3)) w5.heap.size (fTxn ⟨ps, List.replicate n 0, 0⟩) [.slice Bp n dp, .slice (some ⟨w6.heap.size, 0, none⟩) n n, .int .i64 0] := txn_parts (HPV.out.below hbm (Nat.le_refl _)) (OwnV.of (made_ints (by unfold maxLen; omega))) (.inl (Nat.le_refl _)) (Nat.le_refl _) hb6.size hbm.size (Nat.le_refl _); obtain ⟨vs, hov, hcl⟩ := HCO5.out.app hb7 hd7 (by omega) hp5; have HOV := Lib.hid hov; have HCL := Lib.hid hcl; have HB7 := Lib.hid (bel_tr HB5.out (Nat.le_refl _) hb7); have HW7 := Lib.hid hb7; have hs7 := hb7.size; have tokB : True := trivial; clear tokA _t hop hb6 hb6' hbm hb7 hd7 hov hcl)
        | (go_at_call 74; have _t := tokA; (with_reducible refine (parts2_any ps A n c (w5.alloc (.cells (madeCells #[.int .i64 0] n) 3)).drew lo' hi' hh5a hn1000 HUL.out HRa.out).mono ?_); rintro e w6 ⟨Bp, dp, hop, hb6', rfl⟩; have hz6 : (w5.alloc (.cells (madeCells #[.int .i64 0] n) 3)).drew.heap.size = w5.heap.size + 1 := (by show (w5.alloc _).heap.size = _; simp); have HMV : OwnV w6 w5.heap.size (w5.heap.size + 1) (intsD (List.replicate n 0)) (.slice (some ⟨w5.heap.size, 0, none⟩) n n) := (OwnV.of HMA.out).below hb6' (Nat.le_refl _) |>.more (Nat.le_refl _) (by rw [hz6]; exact Nat.le_refl _); (rw [hz6] at hop hb6'); have hb7 : Below w5.heap.size w5 w6 := (((Below.refl w5.heap.size w5).alloc (Nat.le_refl _) (.cells (madeCells #[.int .i64 0] n) 3)).drew).trans (hb6'.mono (Nat.le_succ _)); have hs67 : w5.heap.size + 1 ≤ w6.heap.size := (by have h9 := hb6'.size; rw [hz6] at h9; exact h9); have hp6 : p < w6.heap.size := Nat.lt_of_lt_of_le hp5 hb7.size; have q60 : w6.cell? ⟨p, 0, none⟩ = some (.slice B1 txns.length d1) := (hb7.cell hp5).trans p50; have hd7 : OwnL w6 w5.heap.size (fTxn ⟨ps, List.replicate n 0, 0⟩) [.slice Bp n dp, .slice (some ⟨w5.heap.size, 0, none⟩) n n, .int .i64 0] := txn_parts (OwnV.of hop) HMV (.inr (Nat.le_refl _)) (by omega) (Nat.le_refl _) (Nat.le_refl _) hs67; obtain ⟨vs, hov, hcl⟩ := HCO5.out.app hb7 hd7 (by omega) hp5; have HOV := Lib.hid hov; have HCL := Lib.hid hcl; have HB7 := Lib.hid (bel_tr HB5.out (Nat.le_refl _) hb7); have HW7 := Lib.hid hb7; have hs7 := hb7.size; have tokB2 : True := trivial; clear tokA _t hop hb6' hb7 hd7 hov hcl HMV hz6)
        | (have _t := tokB; refine step_app_at Try.elTxn (m := 1) (news := [.slice Bp n dp, .slice (some ⟨w6.heap.size, 0, none⟩) n n, .int .i64 0]) (HOV.out.alloc _) (rd_newn (n := w6.heap.size + 1) (by simp) [.slice Bp n dp, .slice (some ⟨w6.heap.size, 0, none⟩) n n, .int .i64 0] 46) rfl (by simp [Value.oneCell']) (by unfold maxLen; omega) (by omega) (by first | (simp; done) | (simp; omega)) rfl rfl rfl rfl ?_; intro v8 w8 hown8 hg8 hat8; have HCO8 := Lib.hid (HCL.out w8 v8 _ hown8 hg8 hat8); have HB8 := Lib.hid (below_app (HB7.out.alloc (by omega) _) (by omega : w.heap.size ≤ w3.heap.size + 2) (by first | (simp; done) | (simp; omega)) (HOV.out.alloc _) hg8); have hkb : ∀ y, y < w5.heap.size → (Value.slice B1 txns.length d1).ownBlock ≠ some y → w8.heap[y]? = w5.heap[y]? := fun y hy hne => ((hg8.block y (by first | (simp; done) | (simp; omega)) (fun e => hne e.symm)).trans (Below.heap_alloc _ _ _ (by first | (simp; done) | (simp; omega)))).trans (HW7.out.block y hy); have HP8 := Lib.hid ((hkb p (by omega) hpne).trans HP5.out); have hlow : ∀ y, y < w3.heap.size + 2 → (Value.slice B1 txns.length d1).ownBlock ≠ some y := fun y hy e => (by have := (HOV.out.lt y e).1; omega); have HC8 := Lib.hid ((hkb _ (by omega) (hlow _ (by omega))).trans HC5.out); have s0 : w8.cell? ⟨p, 0, none⟩ = some (.slice B1 txns.length d1) := cell_of_row _ _ _ _ _ _ HP8.out; have sf : w8.frozen? ⟨p, 0, none⟩ = false := frozen_of_row _ _ _ _ _ HP8.out; obtain ⟨B8, d8, rfl, -, -, -⟩ := Rd.of_own hown8; clear tokB _t hown8 hg8 hat8 hkb hlow)
        | (have _t := tokB2; refine step_app_at Try.elTxn (m := 1) (news := [.slice Bp n dp, .slice (some ⟨w5.heap.size, 0, none⟩) n n, .int .i64 0]) (HOV.out.alloc _) (rd_newn (n := w6.heap.size) rfl [.slice Bp n dp, .slice (some ⟨w5.heap.size, 0, none⟩) n n, .int .i64 0] 46) rfl (by simp [Value.oneCell']) (by unfold maxLen; omega) (by omega) (by first | (simp; done) | (simp; omega)) rfl rfl rfl rfl ?_; intro v8 w8 hown8 hg8 hat8; have HCO8 := Lib.hid (HCL.out w8 v8 _ hown8 hg8 hat8); have HB8 := Lib.hid (below_app (HB7.out.alloc (by omega) _) (by omega : w.heap.size ≤ w3.heap.size + 2) (by first | (simp; done) | (simp; omega)) (HOV.out.alloc _) hg8); have hkb : ∀ y, y < w5.heap.size → (Value.slice B1 txns.length d1).ownBlock ≠ some y → w8.heap[y]? = w5.heap[y]? := fun y hy hne => ((hg8.block y (by first | (simp; done) | (simp; omega)) (fun e => hne e.symm)).trans (Below.heap_alloc _ _ _ (by omega))).trans (HW7.out.block y hy); have HP8 := Lib.hid ((hkb p (by omega) hpne).trans HP5.out); have hlow : ∀ y, y < w3.heap.size + 2 → (Value.slice B1 txns.length d1).ownBlock ≠ some y := fun y hy e => (by have := (HOV.out.lt y e).1; omega); have HC8 := Lib.hid ((hkb _ (by omega) (hlow _ (by omega))).trans HC5.out); have s0 : w8.cell? ⟨p, 0, none⟩ = some (.slice B1 txns.length d1) := cell_of_row _ _ _ _ _ _ HP8.out; have sf : w8.frozen? ⟨p, 0, none⟩ = false := frozen_of_row _ _ _ _ _ HP8.out; obtain ⟨B8, d8, rfl, -, -, -⟩ := Rd.of_own hown8; clear tokB2 _t hown8 hg8 hat8 hkb hlow))
    all_goals
      have HP9 : Hid ((w8.setCell ⟨p, 0, none⟩ (.slice B8 (txns.length + 1) d8)).heap[p]? = some (.cells #[.slice B8 (txns.length + 1) d8, .slice B2 order.length d2] 26 (0, 0))) := Lib.hid (by rw [heap_setCell_same _ p 0 _ _ _ HP8.out]; rfl)
      have HC9 := Lib.hid ((Below.heap_setCell w8 ⟨p, 0, none⟩ (.slice B8 (txns.length + 1) d8) (w.heap.size + 1) (by simp; omega)).trans HC8.out)
      have HCO9 := Lib.hid (HCO8.out.box 0 (.slice B8 (txns.length + 1) d8))
      have HB9 := Lib.hid (HB8.out.setCell (p := ⟨p, 0, none⟩) (by simp; omega) (.slice B8 (txns.length + 1) d8))
      generalize w8.setCell ⟨p, 0, none⟩ (.slice B8 (txns.length + 1) d8) = w9 at HP9 HC9 HCO9 HB9 ⊢
      have p90 : w9.cell? ⟨p, 0, none⟩ = some (.slice B8 (txns.length + 1) d8) := cell_of_row _ _ _ _ _ _ HP9.out
      have p91 : w9.cell? ⟨p, 1, none⟩ = some (.slice B2 order.length d2) := cell_of_row _ _ _ _ _ _ HP9.out
      have c90 : w9.cell? ⟨w.heap.size + 1, 0, none⟩ = some (.slice none 0 0) := cell_of_row _ _ _ _ _ _ HC9.out
      have c91 : w9.cell? ⟨w.heap.size + 1, 1, none⟩ = some (.slice none 0 0) := cell_of_row _ _ _ _ _ _ HC9.out
      have g90 : w9.frozen? ⟨w.heap.size + 1, 0, none⟩ = false := frozen_of_row _ _ _ _ _ HC9.out
      have g91 : w9.frozen? ⟨w.heap.size + 1, 1, none⟩ = false := frozen_of_row _ _ _ _ _ HC9.out
      clear s0 sf HP8 HC8 HCO8 HB8 hmk
      go_wp2_with fail
      exact bodyPost_ret (v := .tuple #[.agg #[.slice B8 (txns.length + 1) d8, .slice B2 order.length d2], .bool true]) (by simp [results, Try.results54, go_sem, c90, c91, g90, g91]) rfl ⟨_, _, _, _, true, ((((HCO9.out.low (by omega) _ _).low (by omega) _ _).base_le (by omega)).other (.inr (by omega))), (HB9.out.setCell (by simp) _).setCell (by simp) _, rfl⟩

end Go.Proofs.Ytgbkjfhmbchiiaa
end

namespace Go.Proofs.Ytgbkjfhmbchiiaa
set_option linter.unusedVariables false
set_option linter.unusedSimpArgs false
open Go.RowKit

theorem run_fn1 {P : Program} {fn : FuncId} {F : Func} (h : P.funcs[fn]? = some F) (hb : F.body.isSome = true) (hn : (F.name == "runtime.NumGoroutine") = false) (args : Array Value) (w : World) : (callFunc fn args).run P w = .ok (.enter fn args) w := by
  obtain ⟨b, hb⟩ := Option.isSome_iff_exists.1 hb
  have hn' : ¬ F.name = "runtime.NumGoroutine" := by simpa using hn
  simp [callFunc, go_sem, h, hb, hn']

set_option maxHeartbeats 400000 in
theorem partAt1_any (x s : Int) (A : Option Addr) (n c : Nat) (b : Nat) (w : World) (hb : b < w.heap.size) (hc : w.cell? ⟨b, 0, none⟩ = some (.int .i64 s)) :
    Calls Try.prog 78 #[.agg #[.int .i64 x, .slice A n c], .pointer (some ⟨b, 0, none⟩)] w fun e w' => e = .returned (.bool (x == s)) ∧ Below w.heap.size w w' := by
  go_enter Try.func78, Try.ntmps78
  go_wp2
  go_ret
  exact ⟨rfl, (Below.refl _ _).alloc (Nat.le_refl _) _⟩

set_option maxRecDepth 100000 in
set_option maxHeartbeats 800000 in
theorem indexFP_any (s : Int) (gb : Nat) (ps : List PartD) (A : Option Addr) (n c : Nat) (w : World) (lo hi : Nat) (hh : hi ≤ w.heap.size) (h : D.rd w lo hi (dParts ps) (.slice A n c)) (hg : gb < w.heap.size) (hc : w.cell? ⟨gb, 0, none⟩ = some (.int .i64 s)) :
    Calls Try.prog 77 #[.slice A n c, .func (.func 78) #[] #[.pointer (some ⟨gb, 0, none⟩)]] w fun e w' => e = .returned (.int .i64 (partIx ps s)) ∧ Below w.heap.size w w' := by
  have HI := Lib.hid h
  have HN := Lib.hid h.len.1
  have hn63 : n ≤ 9223372036854775807 := by have := h.len; omega
  clear h
  go_enter Try.func77, Try.ntmps77
  go_wp2_with fail
  go_loopw [8] (fun i wr => ∃ k : Nat, k ≤ n ∧ i = .int .i64 k ∧ Hid (s ∉ (ps.map (·.shard)).take k) ∧ Below w.heap.size w wr) (fun i _ => n - (intOf i).toNat)
  case atStart => exact ⟨0, Nat.zero_le _, rfl, by show _ ∉ _; simp, Below.refl _ _⟩
  case round =>
    obtain ⟨k, hk, rfl, HX, hb⟩ := hrel
    have HB := Lib.hid hb
    have hwsz := hb.size
    clear hb
    by_cases hlt : k < n
    · obtain ⟨b, o, hl, A1, n1, c1, rfl, _, hbh, hc0, hc1, -⟩ := rd_Part (HI.out.below HB.out hh) hlt
      have hcw : wr.cell? ⟨gb, 0, none⟩ = some (.int .i64 s) := (HB.out.cell hg).trans hc
      have hgw : gb < wr.heap.size := by omega
      by_cases he : ps[k].shard = s
      · have HA := Lib.hid (partIx_at hl HX.out he)
        have hd : (ps[k].shard == s) = true := by simpa using he
        clear he
        go_wp2_with fail
        refine (partAt1_any ps[k].shard s A1 n1 c1 gb wr hgw hcw).mono ?_
        rintro e w1 ⟨rfl, hb1⟩
        have HB1 := Lib.hid (bel_tr HB.out (Nat.le_refl _) hb1)
        clear hb1
        rw [hd]
        go_wp2_with fail
        go_ret
        exact ⟨ret_int HA.out.symm, HB1.out⟩
      · have HX2 := Lib.hid (part_next hl HX.out he)
        have hd : (ps[k].shard == s) = false := by simpa using he
        clear he
        go_wp2_with fail
        refine (partAt1_any ps[k].shard s A1 n1 c1 gb wr hgw hcw).mono ?_
        rintro e w1 ⟨rfl, hb1⟩
        have HB1 := Lib.hid (bel_tr HB.out (Nat.le_refl _) hb1)
        clear hb1
        rw [hd]
        go_wp2_with fail
        exact ⟨⟨k + 1, by omega, by go_num, HX2.out, HB1.out⟩, by simp [intOf]; omega⟩
    · have hkn : k = n := by omega
      subst hkn
      have HA := Lib.hid (partIx_none HN.out.symm HX.out)
      go_wp2_with fail
      go_ret
      exact ⟨ret_int HA.out.symm, HB.out⟩

set_option maxHeartbeats 800000 in
theorem partAt_any (s : Int) (ps : List PartD) (A0 : Option Addr) (n0 c0 : Nat) (A1 : Option Addr) (n1 c1 : Nat) (dec : Int) (w : World) (lo hi : Nat) (hh : hi ≤ w.heap.size) (h : D.rd w lo hi (dParts ps) (.slice A0 n0 c0)) :
    Calls Try.prog 59 #[.agg #[.slice A0 n0 c0, .slice A1 n1 c1, .int .i64 dec], .int .i64 s] w fun e w' => e = .returned (.int .i64 (partIx ps s)) ∧ Below w.heap.size w w' := by
  have HB0 : Hid (Below w.heap.size w ((w.alloc (.cells #[.slice A0 n0 c0, .slice A1 n1 c1, .int .i64 dec] 46)).alloc (.cells #[.int .i64 s] 3))) := ((Below.refl _ _).alloc (Nat.le_refl _) _).alloc (by simp) _
  have HX0 := Lib.hid (cell_of_row _ _ 0 _ _ _ (heap_alloc_new (w.alloc (.cells #[.slice A0 n0 c0, .slice A1 n1 c1, .int .i64 dec] 46)) (.cells #[.int .i64 s] 3)))
  have HP := Lib.hid ((h.alloc hh (.cells #[.slice A0 n0 c0, .slice A1 n1 c1, .int .i64 dec] 46)).alloc (by simp; omega) (.cells #[.int .i64 s] 3))
  clear h
  go_enter Try.func59, Try.ntmps59
  go_wp2_with fail
  refine (indexFP_any s (w.heap.size + 1) ps A0 n0 c0 _ lo hi (by simp; omega) HP.out (by simp) (by have := HX0.out; simp at this ⊢)).mono ?_
  rintro e w1 ⟨rfl, hb1⟩
  have HB1 := Lib.hid (bel_tr HB0.out (Nat.le_refl _) hb1)
  clear hb1
  go_wp2_with fail
  go_ret
  exact ⟨rfl, HB1.out⟩

set_option maxHeartbeats 800000 in
theorem l22Shard_any (s : Int) (ps : List PartD) (A : Option Addr) (n c : Nat) (w : World) (lo hi : Nat) (h : D.rd w lo hi (dParts ps) (.slice A n c)) :
    Calls Try.prog 63 #[.slice A n c, .int .i64 s] w fun e w' => e = .returned (.int .i64 (partIx ps s)) ∧ w = w' := by
  have HI := Lib.hid h
  have HN := Lib.hid h.len.1
  have hn63 : n ≤ 9223372036854775807 := by have := h.len; omega
  clear h
  go_enter Try.func63, Try.ntmps63
  go_wp2_with fail
  go_loop [5] (fun i => ∃ k : Nat, k ≤ n ∧ i = .int .i64 k ∧ Hid (s ∉ (ps.map (·.shard)).take k)) (fun i => n - (intOf i).toNat)
  case atStart => exact ⟨0, Nat.zero_le _, rfl, by show _ ∉ _; simp⟩
  case round =>
    obtain ⟨k, hk, rfl, HX⟩ := hrel
    by_cases hlt : k < n
    · obtain ⟨b, o, hl, A1, n1, c1, rfl, _, hbh, hc0, hc1, -⟩ := rd_Part HI.out hlt
      by_cases he : ps[k].shard = s
      · have HA := Lib.hid (partIx_at hl HX.out he)
        rw [he] at hc0
        clear he
        go_wp2_with fail
        go_ret
        exact ⟨ret_int HA.out.symm, rfl⟩
      · have HX2 := Lib.hid (part_next hl HX.out he)
        have hd : (ps[k].shard == s) = false := by simpa using he
        clear he
        go_wp2_with fail
        go_round
        case rel => exact ⟨k + 1, by omega, by go_num, HX2.out⟩
        case measure => simp [intOf]; omega
    · have hkn : k = n := by omega
      subst hkn
      have HA := Lib.hid (partIx_none HN.out.symm HX.out)
      go_wp2_with fail
      go_ret
      exact ⟨ret_int HA.out.symm, rfl⟩

end Go.Proofs.Ytgbkjfhmbchiiaa

namespace Go.Proofs.Ytgbkjfhmbchiiaa
set_option linter.unusedVariables false
set_option linter.unusedSimpArgs false
open Go.RowKit

set_option maxHeartbeats 6400000 in
set_option maxRecDepth 100000 in
theorem cvote_any (txns : List TxnD) (order : List Int) (t : Nat) (s : Int) (yes : Bool) (A0 : Option Addr) (n0 c0 : Nat) (A1 : Option Addr) (n1 c1 : Nat) (w : World) (lo hi : Nat) (hh : hi ≤ w.heap.size) (hr0 : D.rd w lo hi (dTxns txns) (.slice A0 n0 c0)) (hr1 : D.rd w lo hi (intsD order) (.slice A1 n1 c1)) :
    Calls Try.prog 57 #[.agg #[.slice A0 n0 c0, .slice A1 n1 c1], .int .i64 (t : Int), .int .i64 s, .bool yes] w fun e w' => CoR w e w' := by
  have HT := Lib.hid hr0
  have HO := Lib.hid hr1
  clear hr0 hr1
  obtain ⟨w1, hw1⟩ : ∃ w1 : World, w1 = (w.alloc (.cells #[.slice A0 n0 c0, .slice A1 n1 c1] 26)).alloc (.cells #[.slice none 0 0, .slice none 0 0] 26) := ⟨_, rfl⟩
  have hz1 : w.heap.size + 1 < w1.heap.size := by rw [hw1]; simp
  have HB1 : Hid (Below w.heap.size w w1) := by rw [hw1]; exact Lib.hid (((Below.refl _ _).alloc (Nat.le_refl _) _).alloc (by simp) _)
  have HX1 : Hid (w1.heap[w.heap.size]? = some (.cells #[.slice A0 n0 c0, .slice A1 n1 c1] 26 (0, 0))) := by
    rw [hw1]
    exact Lib.hid ((Below.heap_alloc _ _ _ (by simp)).trans (heap_alloc_new w _))
  have HC1 : Hid (w1.heap[w.heap.size + 1]? = some (.cells #[.slice none 0 0, .slice none 0 0] 26 (0, 0))) := by
    rw [hw1]
    have := heap_alloc_new (w.alloc (.cells #[.slice A0 n0 c0, .slice A1 n1 c1] 26)) (.cells #[.slice none 0 0, .slice none 0 0] 26)
    exact Lib.hid (by simpa using this)
  go_enter Try.func57, Try.ntmps57
  go_wp2_with fail
  rw [← hw1]
  clear hw1
  refine (specCoord_any txns order A0 n0 c0 A1 n1 c1 w1 lo hi (by have := HB1.out.size; omega) (HT.out.below HB1.out hh) (HO.out.below HB1.out hh)).mono ?_
  rintro e w2 ⟨rfl, hb2⟩
  have HB2 := Lib.hid (bel_tr HB1.out (Nat.le_refl _) hb2)
  have HX2 := Lib.hid ((hb2.block _ (by omega)).trans HX1.out)
  have HC2 := Lib.hid ((hb2.block _ hz1).trans HC1.out)
  have hz2 : w.heap.size + 1 < w2.heap.size := Nat.lt_of_lt_of_le hz1 hb2.size
  have hz2a : w.heap.size < w2.heap.size := by omega
  have f0 : w2.frozen? ⟨w.heap.size + 1, 0, none⟩ = false := frozen_of_row _ _ _ _ _ HC2.out
  have f1 : w2.frozen? ⟨w.heap.size + 1, 1, none⟩ = false := frozen_of_row _ _ _ _ _ HC2.out
  have k0 : w2.cell? ⟨w.heap.size + 1, 0, none⟩ = some (.slice none 0 0) := cell_of_row _ _ _ _ _ _ HC2.out
  have k1 : w2.cell? ⟨w.heap.size + 1, 1, none⟩ = some (.slice none 0 0) := cell_of_row _ _ _ _ _ _ HC2.out
  clear hb2
  rcases hv : coordB ⟨txns, order⟩ with _ | _
  · clear hv
    go_wp2_with fail
    exact bodyPost_ret (v := .tuple #[.agg #[.slice none 0 0, .slice none 0 0], .bool false]) (by simp [results, Try.results57, go_sem, f0, f1, k0, k1]) rfl ⟨_, _, [], [], false, co_nil, (HB2.out.setCell (by simp) _).setCell (by simp) _, rfl⟩
  have HV := Lib.hid hv
  have HSM := Lib.hid (small_valid hv)
  have hn0 : n0 = txns.length := by have h1 := HT.out.len.1; unfold dTxns at h1; simpa using h1
  have hn12 : n0 ≤ 12 := by have h2 := (coordB_len hv).1; dsimp only at h2; omega
  have b20 : w2.cell? ⟨w.heap.size, 0, none⟩ = some (.slice A0 n0 c0) := cell_of_row _ _ _ _ _ _ HX2.out
  have b21 : w2.cell? ⟨w.heap.size, 1, none⟩ = some (.slice A1 n1 c1) := cell_of_row _ _ _ _ _ _ HX2.out
  have HCP := Lib.hid (copy_any txns order A0 n0 c0 A1 n1 c1 w2 lo hi (by have := HB2.out.size; omega) (HT.out.below HB2.out hh) (HO.out.below HB2.out hh) HSM.out)
  -- a copy handed back, unchanged
  have HEND : ∀ v1 v2 w3, Hid (CoO w3 (w2.heap.size + 2) w2.heap.size v1 txns v2 order ∧ Below w2.heap.size w2 w3) → ∃ A' c' A'' c'', v1 = .slice A' txns.length c' ∧ v2 = .slice A'' order.length c'' ∧ w3.cell? ⟨w.heap.size + 1, 0, none⟩ = some (.slice none 0 0) ∧ w3.cell? ⟨w.heap.size + 1, 1, none⟩ = some (.slice none 0 0) ∧ w3.frozen? ⟨w.heap.size + 1, 0, none⟩ = false ∧ w3.frozen? ⟨w.heap.size + 1, 1, none⟩ = false ∧
      Hid (CoR w (.returned (.tuple #[.agg #[.slice A' txns.length c', .slice A'' order.length c''], .bool false])) ((w3.setCell ⟨w.heap.size + 1, 0, none⟩ (.slice A' txns.length c')).setCell ⟨w.heap.size + 1, 1, none⟩ (.slice A'' order.length c''))) := by
    intro v1 v2 w3 h3
    obtain ⟨hco, hb⟩ := h3.out
    obtain ⟨A', c', A'', c'', rfl, rfl⟩ := hco.vals
    have hC := (hb.block _ hz2).trans HC2.out
    exact ⟨A', c', A'', c'', rfl, rfl, cell_of_row _ _ _ _ _ _ hC, cell_of_row _ _ _ _ _ _ hC, frozen_of_row _ _ _ _ _ hC, frozen_of_row _ _ _ _ _ hC, Lib.hid ⟨_, _, _, _, _, (((hco.low (by omega) _ _).low (by omega) _ _).base_le (by omega)).other (.inr (by omega)), ((bel_tr HB2.out (Nat.le_refl _) hb).setCell (by simp) _).setCell (by simp) _, rfl⟩⟩
  clear hn0 f0 f1 k0 k1 hv
  by_cases ht : t < n0
  · have hR : inR (t : Int) 0 ((n0 : Int) - 1) = true := by unfold inR; simp; omega
    obtain ⟨b, o, hl, Ap, np, cp, Av, nv, cv, rfl, _, hbh, hc0, hc1, hc2, ⟨hp1, hp2, hp3⟩, ⟨hq1, hq2, hq3⟩⟩ := rd_Txn (HT.out.below HB2.out hh) (k := t) ht
    have HP := Lib.hid hp3
    have HVO := Lib.hid hq3.ints
    have hb2 : b < w2.heap.size := World.block_lt_of_cell? _ _ hc0
    have HNV := Lib.hid hq3.len.1
    have hnv100 : nv ≤ 9223372036854775807 := by omega
    have HVP : Hid (txns[t].votes.length = txns[t].parts.length) := Lib.hid (by
      have h1 := (coordB_all HV.out t hl).1
      dsimp only at h1
      rw [List.getD_eq_getElem?_getD, List.getElem?_eq_getElem hl] at h1
      exact (txnB_and h1).2.1)
    clear hp1 hp2 hp3 hq1 hq2 hq3
    go_wp2_with (go_at_call 41; refine (l6In_any _ _ _ _).mono ?_; rintro e w' ⟨rfl, rfl⟩)
    refine (l22Shard_any s txns[t].parts Ap np cp w2 lo hi HP.out).mono ?_
    rintro e w' ⟨rfl, rfl⟩
    have hx1 : -1 ≤ partIx txns[t].parts s := (partIx_lt _ _).1
    have HX2 := Lib.hid (partIx_lt txns[t].parts s).2
    have HVT : Hid (∀ k (hk : k < txns[t].votes.length), Calls Try.prog 76 #[.agg #[.slice (some ⟨b, o, none⟩) n0 c0, .slice A1 n1 c1], .int .i64 (t : Int), .int .i64 (k : Int), .bool yes] w2 fun e w' => CoV w2 e w') := Lib.hid fun k hk => vote_any txns order t k yes _ n0 c0 A1 n1 c1 w2 lo hi (by have := HB2.out.size; omega) (HT.out.below HB2.out hh) (HO.out.below HB2.out hh) HSM.out hl hk
    by_cases hneg : partIx txns[t].parts s < 0
    · generalize partIx txns[t].parts s = x at hx1 HX2 hneg ⊢
      clear HVT HVO
      go_wp2_with fail
      refine HCP.out.mono ?_
      rintro e w3 ⟨v1, v2, hco, hb, -, rfl⟩
      obtain ⟨A', c', A'', c'', rfl, rfl, x0, x1, y0, y1, HE⟩ := HEND v1 v2 w3 (Lib.hid ⟨hco, hb⟩)
      clear hco hb
      go_wp2_with fail
      exact bodyPost_ret (v := .tuple #[.agg #[.slice A' txns.length c', .slice A'' order.length c''], .bool false]) (by simp [results, Try.results57, go_sem, x0, x1, y0, y1]) rfl HE.out
    · obtain ⟨k, hk⟩ : ∃ k : Nat, partIx txns[t].parts s = k := ⟨(partIx txns[t].parts s).toNat, by omega⟩
      have hkv : k < nv := by
        have h1 := HX2.out
        have h2 := HVP.out
        have h3 := HNV.out
        rw [hk] at h1
        omega
      have hkl : k < txns[t].votes.length := by
        have h3 := HNV.out
        omega
      have HVK := Lib.hid (HVT.out k hkl)
      obtain ⟨b7, o7, hl7, rfl, _, hb7, hc7⟩ := HVO.out.int hkv
      rw [hk]
      clear hk hx1 HX2 hneg HVT HVO hkl HVP HNV
      have hbb7 : b7 < w2.heap.size := World.block_lt_of_cell? _ _ hc7
      generalize txns[t].votes[k] = x at hc7
      generalize txns[t].dec = d at hc2
      by_cases hd0 : d = 0
      · subst hd0
        by_cases hx0 : x = 0
        · subst hx0
          go_wp2_with fail
          refine HVK.out.mono ?_
          rintro e w3 ⟨v1, v2, ts', os', hco, hb, rfl⟩
          obtain ⟨A', c', A'', c'', rfl, rfl⟩ := hco.vals
          have HC3 := Lib.hid ((hb.block _ hz2).trans HC2.out)
          have x0 : w3.cell? ⟨w.heap.size + 1, 0, none⟩ = some (.slice none 0 0) := cell_of_row _ _ _ _ _ _ HC3.out
          have x1 : w3.cell? ⟨w.heap.size + 1, 1, none⟩ = some (.slice none 0 0) := cell_of_row _ _ _ _ _ _ HC3.out
          have y0 : w3.frozen? ⟨w.heap.size + 1, 0, none⟩ = false := frozen_of_row _ _ _ _ _ HC3.out
          have y1 : w3.frozen? ⟨w.heap.size + 1, 1, none⟩ = false := frozen_of_row _ _ _ _ _ HC3.out
          have HE : Hid (CoR w (.returned (.tuple #[.agg #[.slice A' ts'.length c', .slice A'' os'.length c''], .bool true])) ((w3.setCell ⟨w.heap.size + 1, 0, none⟩ (.slice A' ts'.length c')).setCell ⟨w.heap.size + 1, 1, none⟩ (.slice A'' os'.length c''))) := Lib.hid ⟨_, _, _, _, _, (((hco.low (by omega) _ _).low (by omega) _ _).base_le (by omega)).other (.inr (by omega)), ((bel_tr HB2.out (Nat.le_refl _) hb).setCell (by simp) _).setCell (by simp) _, rfl⟩
          clear hco hb
          go_wp2_with fail
          exact bodyPost_ret (v := .tuple #[.agg #[.slice A' ts'.length c', .slice A'' os'.length c''], .bool true]) (by simp [results, Try.results57, go_sem, x0, x1, y0, y1]) rfl HE.out
        · have hx0b : (x != 0) = true := by simpa using hx0
          have hx0c : (x == 0) = false := by simpa using hx0
          clear hx0 HVK
          go_wp2_with fail
          refine HCP.out.mono ?_
          rintro e w3 ⟨v1, v2, hco, hb, -, rfl⟩
          obtain ⟨A', c', A'', c'', rfl, rfl, x0, x1, y0, y1, HE⟩ := HEND v1 v2 w3 (Lib.hid ⟨hco, hb⟩)
          clear hco hb
          go_wp2_with fail
          exact bodyPost_ret (v := .tuple #[.agg #[.slice A' txns.length c', .slice A'' order.length c''], .bool false]) (by simp [results, Try.results57, go_sem, x0, x1, y0, y1]) rfl HE.out
      · have hd0b : (d != 0) = true := by simpa using hd0
        have hd0c : (d == 0) = false := by simpa using hd0
        clear hd0 HVK hc7
        go_wp2_with fail
        refine HCP.out.mono ?_
        rintro e w3 ⟨v1, v2, hco, hb, -, rfl⟩
        obtain ⟨A', c', A'', c'', rfl, rfl, x0, x1, y0, y1, HE⟩ := HEND v1 v2 w3 (Lib.hid ⟨hco, hb⟩)
        clear hco hb
        go_wp2_with fail
        exact bodyPost_ret (v := .tuple #[.agg #[.slice A' txns.length c', .slice A'' order.length c''], .bool false]) (by simp [results, Try.results57, go_sem, x0, x1, y0, y1]) rfl HE.out
  · have hR : inR (t : Int) 0 ((n0 : Int) - 1) = false := by unfold inR; simp; omega
    go_wp2_with (go_at_call 41; refine (l6In_any _ _ _ _).mono ?_; rintro e w' ⟨rfl, rfl⟩)
    refine HCP.out.mono ?_
    rintro e w3 ⟨v1, v2, hco, hb, -, rfl⟩
    obtain ⟨A', c', A'', c'', rfl, rfl, x0, x1, y0, y1, HE⟩ := HEND v1 v2 w3 (Lib.hid ⟨hco, hb⟩)
    clear hco hb
    go_wp2_with fail
    exact bodyPost_ret (v := .tuple #[.agg #[.slice A' txns.length c', .slice A'' order.length c''], .bool false]) (by simp [results, Try.results57, go_sem, x0, x1, y0, y1]) rfl HE.out

end Go.Proofs.Ytgbkjfhmbchiiaa

namespace Go.Proofs.Ytgbkjfhmbchiiaa
set_option linter.unusedVariables false
set_option linter.unusedSimpArgs false
open Go.RowKit

set_option maxHeartbeats 6400000 in
set_option maxRecDepth 100000 in
theorem ctimeout_any (txns : List TxnD) (order : List Int) (t : Nat) (A0 : Option Addr) (n0 c0 : Nat) (A1 : Option Addr) (n1 c1 : Nat) (w : World) (lo hi : Nat) (hh : hi ≤ w.heap.size) (hr0 : D.rd w lo hi (dTxns txns) (.slice A0 n0 c0)) (hr1 : D.rd w lo hi (intsD order) (.slice A1 n1 c1)) :
    Calls Try.prog 56 #[.agg #[.slice A0 n0 c0, .slice A1 n1 c1], .int .i64 (t : Int)] w fun e w' => CoR w e w' := by
  have HT := Lib.hid hr0
  have HO := Lib.hid hr1
  clear hr0 hr1
  obtain ⟨w1, hw1⟩ : ∃ w1 : World, w1 = (w.alloc (.cells #[.slice A0 n0 c0, .slice A1 n1 c1] 26)).alloc (.cells #[.slice none 0 0, .slice none 0 0] 26) := ⟨_, rfl⟩
  have hz1 : w.heap.size + 1 < w1.heap.size := by rw [hw1]; simp
  have HB1 : Hid (Below w.heap.size w w1) := by rw [hw1]; exact Lib.hid (((Below.refl _ _).alloc (Nat.le_refl _) _).alloc (by simp) _)
  have HX1 : Hid (w1.heap[w.heap.size]? = some (.cells #[.slice A0 n0 c0, .slice A1 n1 c1] 26 (0, 0))) := by
    rw [hw1]
    exact Lib.hid ((Below.heap_alloc _ _ _ (by simp)).trans (heap_alloc_new w _))
  have HC1 : Hid (w1.heap[w.heap.size + 1]? = some (.cells #[.slice none 0 0, .slice none 0 0] 26 (0, 0))) := by
    rw [hw1]
    have := heap_alloc_new (w.alloc (.cells #[.slice A0 n0 c0, .slice A1 n1 c1] 26)) (.cells #[.slice none 0 0, .slice none 0 0] 26)
    exact Lib.hid (by simpa using this)
  go_enter Try.func56, Try.ntmps56
  go_wp2_with fail
  rw [← hw1]
  clear hw1
  refine (specCoord_any txns order A0 n0 c0 A1 n1 c1 w1 lo hi (by have := HB1.out.size; omega) (HT.out.below HB1.out hh) (HO.out.below HB1.out hh)).mono ?_
  rintro e w2 ⟨rfl, hb2⟩
  have HB2 := Lib.hid (bel_tr HB1.out (Nat.le_refl _) hb2)
  have HX2 := Lib.hid ((hb2.block _ (by omega)).trans HX1.out)
  have HC2 := Lib.hid ((hb2.block _ hz1).trans HC1.out)
  have hz2 : w.heap.size + 1 < w2.heap.size := Nat.lt_of_lt_of_le hz1 hb2.size
  have hz2a : w.heap.size < w2.heap.size := by omega
  have f0 : w2.frozen? ⟨w.heap.size + 1, 0, none⟩ = false := frozen_of_row _ _ _ _ _ HC2.out
  have f1 : w2.frozen? ⟨w.heap.size + 1, 1, none⟩ = false := frozen_of_row _ _ _ _ _ HC2.out
  have k0 : w2.cell? ⟨w.heap.size + 1, 0, none⟩ = some (.slice none 0 0) := cell_of_row _ _ _ _ _ _ HC2.out
  have k1 : w2.cell? ⟨w.heap.size + 1, 1, none⟩ = some (.slice none 0 0) := cell_of_row _ _ _ _ _ _ HC2.out
  clear hb2
  rcases hv : coordB ⟨txns, order⟩ with _ | _
  · clear hv
    go_wp2_with fail
    exact bodyPost_ret (v := .tuple #[.agg #[.slice none 0 0, .slice none 0 0], .bool false]) (by simp [results, Try.results56, go_sem, f0, f1, k0, k1]) rfl ⟨_, _, [], [], false, co_nil, (HB2.out.setCell (by simp) _).setCell (by simp) _, rfl⟩
  have HV := Lib.hid hv
  have HSM := Lib.hid (small_valid hv)
  have hn0 : n0 = txns.length := by have h1 := HT.out.len.1; unfold dTxns at h1; simpa using h1
  have hn12 : n0 ≤ 12 := by have h2 := (coordB_len hv).1; dsimp only at h2; omega
  have b20 : w2.cell? ⟨w.heap.size, 0, none⟩ = some (.slice A0 n0 c0) := cell_of_row _ _ _ _ _ _ HX2.out
  have b21 : w2.cell? ⟨w.heap.size, 1, none⟩ = some (.slice A1 n1 c1) := cell_of_row _ _ _ _ _ _ HX2.out
  clear f0 f1 k0 k1 hv hn0
  go_wp2_with fail
  refine (copy_any txns order A0 n0 c0 A1 n1 c1 w2 lo hi (by have := HB2.out.size; omega) (HT.out.below HB2.out hh) (HO.out.below HB2.out hh) HSM.out).mono ?_
  rintro e w3 ⟨v1, v2, hco, hb3, -, rfl⟩
  obtain ⟨B1, d1, B2, d2, rfl, rfl⟩ := hco.vals
  have HB3 := Lib.hid (bel_tr HB2.out (Nat.le_refl _) hb3)
  have HX3 := Lib.hid ((hb3.block _ hz2a).trans HX2.out)
  have HC3 := Lib.hid ((hb3.block _ hz2).trans HC2.out)
  have hz3 : w.heap.size + 1 < w3.heap.size := Nat.lt_of_lt_of_le hz2 hb3.size
  have hz3a : w.heap.size < w3.heap.size := by omega
  have HCO3 := Lib.hid (hco.other (q := w3.heap.size) (.inl (Nat.le_refl _)))
  have hh2 := hb3.size
  clear hco hb3 b20 b21
  obtain ⟨w4, hw4⟩ : ∃ w4, w4 = w3.alloc (.cells #[.slice B1 txns.length d1, .slice B2 order.length d2] 26) := ⟨_, rfl⟩
  obtain ⟨p, hp⟩ : ∃ p, p = w3.heap.size := ⟨_, rfl⟩
  have hb4 : Below w3.heap.size w3 w4 := by rw [hw4]; exact (Below.refl _ _).alloc (Nat.le_refl _) _
  have HP4 : Hid (w4.heap[p]? = some (.cells #[.slice B1 txns.length d1, .slice B2 order.length d2] 26 (0, 0))) := by rw [hw4, hp]; exact Lib.hid (heap_alloc_new w3 _)
  have HB4 := Lib.hid (bel_tr HB3.out (Nat.le_refl _) hb4)
  have HX4 := Lib.hid ((hb4.block _ hz3a).trans HX3.out)
  have HC4 := Lib.hid ((hb4.block _ hz3).trans HC3.out)
  have HCO4 : Hid (CoO w4 (w2.heap.size + 2) p (.slice B1 txns.length d1) txns (.slice B2 order.length d2) order) := by rw [hp]; exact Lib.hid (HCO3.out.fresh hb4)
  have HT4 := Lib.hid (HT.out.below HB4.out hh)
  have hpw : w.heap.size + 1 < p := by omega
  have hp4 : p < w4.heap.size := hlt_of HP4.out
  have b40 : w4.cell? ⟨w.heap.size, 0, none⟩ = some (.slice A0 n0 c0) := cell_of_row _ _ _ _ _ _ HX4.out
  have p40 : w4.cell? ⟨p, 0, none⟩ = some (.slice B1 txns.length d1) := cell_of_row _ _ _ _ _ _ HP4.out
  have p41 : w4.cell? ⟨p, 1, none⟩ = some (.slice B2 order.length d2) := cell_of_row _ _ _ _ _ _ HP4.out
  have c40 : w4.cell? ⟨w.heap.size + 1, 0, none⟩ = some (.slice none 0 0) := cell_of_row _ _ _ _ _ _ HC4.out
  have c41 : w4.cell? ⟨w.heap.size + 1, 1, none⟩ = some (.slice none 0 0) := cell_of_row _ _ _ _ _ _ HC4.out
  have g40 : w4.frozen? ⟨w.heap.size + 1, 0, none⟩ = false := frozen_of_row _ _ _ _ _ HC4.out
  have g41 : w4.frozen? ⟨w.heap.size + 1, 1, none⟩ = false := frozen_of_row _ _ _ _ _ HC4.out
  have HE : Hid (CoR w (.returned (.tuple #[.agg #[.slice B1 txns.length d1, .slice B2 order.length d2], .bool false])) ((w4.setCell ⟨w.heap.size + 1, 0, none⟩ (.slice B1 txns.length d1)).setCell ⟨w.heap.size + 1, 1, none⟩ (.slice B2 order.length d2))) := Lib.hid ⟨_, _, _, _, _, (((HCO4.out.low (by omega) _ _).low (by omega) _ _).base_le (by omega)).other (.inr (by omega)), (HB4.out.setCell (by simp) _).setCell (by simp) _, rfl⟩
  go_upto_region 4 with (fail)
  rw [← hw4, ← hp]
  clear hw4 hp hb4
  have hw4s : w.heap.size < w4.heap.size := by omega
  by_cases ht : t < n0
  · have hR : inR (t : Int) 0 ((n0 : Int) - 1) = true := by unfold inR; simp; omega
    obtain ⟨b, o, hl, Ap, np, cp, Av, nv, cv, rfl, _, hbh, -, -, hc2, -, -⟩ := rd_Txn HT4.out (k := t) ht
    have hb4 : b < w4.heap.size := World.block_lt_of_cell? _ _ hc2
    obtain ⟨g, rfl, -, -, -, hgb⟩ := HCO4.out.at_ (by omega)
    obtain ⟨⟨u, q0⟩, q1, q2⟩ := HCO4.out.setDec (i := t) hl 3
    have HCO5 := Lib.hid q2
    have hgp : ¬ (g = p) := by
      obtain ⟨vs, F, -, -, -, -, -, h6, -⟩ := HCO4.out
      exact (h6 g rfl).2.1
    have hgp2 : ¬ (p = g) := fun e => hgp e.symm
    have hgl : g < w4.heap.size := World.block_lt_of_cell? _ _ q0
    clear q2
    generalize txns[t].dec = d at hc2
    by_cases hd0 : d = 0
    · subst hd0
      go_upto_region 6 with (go_at_call 41; refine (l6In_any _ _ _ _).mono ?_; rintro e w' ⟨rfl, rfl⟩)
      go_upto_region 7 with (fail)
      have HP5 := Lib.hid ((Below.heap_setCell w4 ⟨g, t * 3 + 2, none⟩ (.int .i64 3) p (by simpa using hgp2)).trans HP4.out)
      have HC5 := Lib.hid ((Below.heap_setCell w4 ⟨g, t * 3 + 2, none⟩ (.int .i64 3) (w.heap.size + 1) (by simp; omega)).trans HC4.out)
      have HB5 := Lib.hid (HB4.out.setCell (p := ⟨g, t * 3 + 2, none⟩) (by simp; omega) (.int .i64 3))
      generalize w4.setCell ⟨g, t * 3 + 2, none⟩ (.int .i64 3) = w5 at HP5 HC5 HCO5 HB5 ⊢
      have p50 : w5.cell? ⟨p, 0, none⟩ = some (.slice (some ⟨g, 0, none⟩) txns.length d1) := cell_of_row _ _ _ _ _ _ HP5.out
      have p51 : w5.cell? ⟨p, 1, none⟩ = some (.slice B2 order.length d2) := cell_of_row _ _ _ _ _ _ HP5.out
      have c50 : w5.cell? ⟨w.heap.size + 1, 0, none⟩ = some (.slice none 0 0) := cell_of_row _ _ _ _ _ _ HC5.out
      have c51 : w5.cell? ⟨w.heap.size + 1, 1, none⟩ = some (.slice none 0 0) := cell_of_row _ _ _ _ _ _ HC5.out
      have g50 : w5.frozen? ⟨w.heap.size + 1, 0, none⟩ = false := frozen_of_row _ _ _ _ _ HC5.out
      have g51 : w5.frozen? ⟨w.heap.size + 1, 1, none⟩ = false := frozen_of_row _ _ _ _ _ HC5.out
      clear p40 p41 c40 c41 g40 g41 b40 hc2 q0 q1
      go_wp2_with fail
      exact bodyPost_ret (v := .tuple #[.agg #[.slice (some ⟨g, 0, none⟩) txns.length d1, .slice B2 order.length d2], .bool true]) (by simp [results, Try.results56, go_sem, c50, c51, g50, g51]) rfl ⟨_, _, _, _, true, (((HCO5.out.low (by omega) _ _).low (by omega) _ _).base_le (by omega)).other (.inr (by omega)), (HB5.out.setCell (by simp) _).setCell (by simp) _, rfl⟩
    · have hd0b : (d != 0) = true := by simpa using hd0
      have hd0c : (d == 0) = false := by simpa using hd0
      clear hd0 q0 q1
      go_wp2_with (go_at_call 41; refine (l6In_any _ _ _ _).mono ?_; rintro e w' ⟨rfl, rfl⟩)
      exact bodyPost_ret (v := .tuple #[.agg #[.slice (some ⟨g, 0, none⟩) txns.length d1, .slice B2 order.length d2], .bool false]) (by simp [results, Try.results56, go_sem, c40, c41, g40, g41]) rfl HE.out
  · have hR : inR (t : Int) 0 ((n0 : Int) - 1) = false := by unfold inR; simp; omega
    go_wp2_with (go_at_call 41; refine (l6In_any _ _ _ _).mono ?_; rintro e w' ⟨rfl, rfl⟩)
    exact bodyPost_ret (v := .tuple #[.agg #[.slice B1 txns.length d1, .slice B2 order.length d2], .bool false]) (by simp [results, Try.results56, go_sem, c40, c41, g40, g41]) rfl HE.out

end Go.Proofs.Ytgbkjfhmbchiiaa
