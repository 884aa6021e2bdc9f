/-
  The walks of l91Text, l91Ops and DrawDeltaApply: a short text; at most three operations in new memory. Condition: the reader's place is small.
-/
import Derived.Test.YtegfdckejncbdaaDrawKit
import Derived.Test.YtegfdckejncbdaaDeltaX
import Derived.Deep.DeepCutAuto
import Derived.Deep.CutBlock
import Derived.Laws.BytesString
namespace Go.Proofs.Ytegfdckejncbdaa
set_option linter.unusedVariables false
set_option linter.unusedSimpArgs false
open Go.RowKit

theorem conv_one (W : World) (x : Int) : (convert 29 9 (.slice (some ⟨W.heap.size, 0, none⟩) 1 1)).run Try.prog (W.alloc (.cells #[.int .u8 x] 5)) = .ok (.string (strOfNums [x])) (W.alloc (.cells #[.int .u8 x] 5)) :=
  run_convert_bytes_arg _ 29 5 Try.underlying29 Try.underlying5 _ _ 1 1 [x] rfl (fun i hi => by
    have : i = 0 := by omega
    subst this
    rw [cell_of_row _ W.heap.size _ _ _ _ (heap_alloc_new W _)]; rfl) _ Try.underlying9

set_option maxHeartbeats 800000 in
theorem l91Text_any (g K : Nat) (w : World) (hK : K ≤ 1000000000 - 20) (h : Rdr w g K) :
    Calls Try.prog 56 #[.pointer (some ⟨g, 0, none⟩)] w fun e w' => ∃ s : ByteArray, s.size ≤ 9 ∧ DrawT w w' g (K + 20) ∧ e = .returned (.string s) := by
  have HR := Lib.hid (DrawT.refl h)
  clear h
  go_enter Try.func56, Try.ntmps56
  go_wp2_with fail
  refine (pick_any g K 9 _ (by omega) HR.out.2).mono ?_
  rintro e w1 ⟨r1, hr1, hR1, hg1, -, rfl⟩
  have HS1 := Lib.hid (HR.out.step hg1 hR1)
  obtain ⟨q1, rfl⟩ := Int.eq_ofNat_of_zero_le hr1.1
  have hq1 := hr1.2 (by omega)
  clear hR1 hg1 hr1 HR
  go_upto_if 10 with (go_at_call 54; refine (pick_any g (K + 1) 24 _ (by omega) HS1.out.2).mono ?_; rintro e w2 ⟨r2, -, hR2, hg2, -, rfl⟩; have HS2 := Lib.hid (HS1.out.step hg2 hR2); clear hR2 hg2 HS1)
  go_cut [4] (fun v wx => ∃ m : Nat, m ≤ 9 ∧ v = .int .i64 m ∧ DrawT w wx g (K + 3))
  case first =>
    by_cases hr0 : r2 = 0
    · have hd : (r2 == 0) = true := by simp [hr0]
      clear hr0
      go_wp2_with fail
      refine (pick_any g (K + 1 + 1) 2 _ (by omega) HS2.out.2).mono ?_
      rintro e w3 ⟨r3, hr3, hR3, hg3, -, rfl⟩
      have HS3 := Lib.hid (HS2.out.step hg3 hR3)
      obtain ⟨q3, rfl⟩ := Int.eq_ofNat_of_zero_le hr3.1
      have hq3 := hr3.2 (by omega)
      clear hR3 hg3 hr3 HS2
      go_wp2_with fail
      go_meet
      exact ⟨8 + q3, by omega, by go_num, HS3.out.more (by omega)⟩
    · have hd : (r2 == 0) = false := by simp [hr0]
      clear hr0
      go_wp2_with fail
      go_meet
      exact ⟨q1, by omega, rfl, HS2.out.more (by omega)⟩
  case rest =>
    clear HS2
    obtain ⟨m, hm, rfl, hS⟩ := hcut
    have HS := Lib.hid hS
    clear hS
    go_wp2_with fail
    go_loopw [3, 5] (fun t i wr => ∃ k : Nat, k ≤ m ∧ i = .int .i64 k ∧ (∃ s : ByteArray, t = .string s ∧ s.size ≤ k) ∧ DrawT w wr g (K + 3 + k)) (fun _ i _ => m - (intOf i).toNat)
    case atStart => exact ⟨0, Nat.zero_le _, rfl, ⟨_, rfl, by decide⟩, HS.out⟩
    case round =>
      obtain ⟨k, hk, rfl, ⟨s, rfl, hs⟩, hS⟩ := hrel
      have HR := Lib.hid hS
      clear hS HS
      by_cases hlt : k < m
      · go_wp2_with fail
        refine (pick_any g (K + 3 + k) 3 _ (by omega) HR.out.2).mono ?_
        rintro e w3 ⟨r3, hr3, hR3, hg3, -, rfl⟩
        have HS3 := Lib.hid (HR.out.step hg3 hR3)
        obtain ⟨q3, rfl⟩ := Int.eq_ofNat_of_zero_le hr3.1
        have hq3 := hr3.2 (by omega)
        clear hR3 hg3 hr3 HR
        have hcv := conv_one w3 (97 + (q3 : Int))
        have hcs : (strOfNums [97 + (q3 : Int)]).size ≤ 1 := by rw [strOfNums_size]; simp
        go_wp2_with fail
        have HS4 := Lib.hid (HS3.out.alloc (.cells #[.int .u8 (97 + (q3 : Int))] 5))
        go_roundw
        case rel => exact ⟨k + 1, by omega, by go_num, ⟨_, rfl, by rw [ByteArray.size_append]; omega⟩, HS4.out⟩
        case measure => simp [intOf]; omega
      · have hkm : k = m := by omega
        subst hkm
        go_wp2_with fail
        go_ret
        exact ⟨s, by omega, HR.out.more (by omega), rfl⟩

theorem Try.elOp : ElemT Try.prog 48 87 (.agg #[.int .i64 0, .int .i64 0, .string ⟨#[]⟩]) 3 32 := ⟨Try.underlying48, by kernel_rfl, rfl, by decide⟩

/-- a row of k operations of the call's own, behind a reader in block g, made from base on -/
def OpsS (w wr : World) (g k K : Nat) (v : Value) : Prop :=
  ∃ vs : List OpD, vs.length = k ∧ (∀ o ∈ vs, o.text.size ≤ 9) ∧ wr.ownsRow w.heap.size 87 3 v k (vs.flatMap co) ∧ DrawT w wr g K
theorem OpsS.row {w wr w' : World} {g k K K' : Nat} {v : Value} (hg0 : g < w.heap.size) (h : OpsS w wr g k K v) (h' : DrawT wr w' g K') : OpsS w w' g k K' v := by
  obtain ⟨vs, h1, h2, h3, h4⟩ := h
  exact ⟨vs, h1, h2, own_kept_row h3 h'.1 hg0, h4.tr h'⟩

theorem OpsS.app {w wr w' : World} {g k K : Nat} {v v' : Value} {vs : List OpD} {o : OpD} {ob : Obj} (hg0 : g < w.heap.size) (h1 : vs.length = k) (h2 : ∀ o ∈ vs, o.text.size ≤ 9) (h3 : wr.ownsRow w.heap.size 87 3 v k (vs.flatMap co)) (h4 : DrawT w wr g K)
    (ho : o.text.size ≤ 9) (hown : w'.ownsRow w.heap.size 87 3 v' (k + 1) (vs.flatMap co ++ co o)) (hg : (wr.alloc ob).grownBy w' v.ownBlock) : OpsS w w' g (k + 1) K v' := by
  refine ⟨vs ++ [o], by simp [h1], fun x hx => ?_, by rw [List.flatMap_append]; simpa using hown, (h4.alloc ob).own hg0 (h3.alloc ob) hg⟩
  rcases List.mem_append.1 hx with hx | hx
  · exact h2 x hx
  · rw [List.mem_singleton.1 hx]; exact ho

/-- the same, with the box p of the operation that is being drawn -/
def OpsB (w wr : World) (g k K p : Nat) (v : Value) : Prop :=
  ∃ o : OpD, o.text.size ≤ 9 ∧ wr.heap[p]? = some (.cells #[.int .i64 o.at_, .int .i64 o.size, .string o.text] 87 (0, 0)) ∧ OpsS w wr g k K v ∧ (∀ q, v.ownBlock = some q → q < p) ∧ w.heap.size ≤ p
theorem OpsB.mk_ {w wr : World} {g k K : Nat} {v : Value} (h : OpsS w wr g k K v) (o : OpD) (ho : o.text.size ≤ 9) :
    OpsB w (wr.alloc (.cells #[.int .i64 o.at_, .int .i64 o.size, .string o.text] 87)) g k K wr.heap.size v := by
  obtain ⟨vs, h1, h2, h3, h4⟩ := h
  exact ⟨o, ho, heap_alloc_new wr _, ⟨vs, h1, h2, h3.alloc _, h4.alloc _⟩, fun q hq => (h3.lt q hq).2, h4.1.size⟩
theorem OpsB.lt {w wr : World} {g k K p : Nat} {v : Value} (h : OpsB w wr g k K p v) : p < wr.heap.size := by
  obtain ⟨o, _, h, _⟩ := h
  rcases Nat.lt_or_ge p wr.heap.size with hlt | hge
  · exact hlt
  · rw [Array.getElem?_eq_none hge] at h; cases h
theorem OpsB.rdr {w wr : World} {g k K p : Nat} {v : Value} (h : OpsB w wr g k K p v) : Rdr wr g K := by
  obtain ⟨_, _, _, ⟨_, _, _, _, h⟩, _⟩ := h
  exact h.2
theorem OpsB.draw {w wr w' : World} {g k K K' p : Nat} {v : Value} (hg0 : g < w.heap.size) (h : OpsB w wr g k K p v) (h' : DrawT wr w' g K') : OpsB w w' g k K' p v := by
  have hl := h.lt
  obtain ⟨o, h1, h2, h3, h4, h5⟩ := h
  exact ⟨o, h1, (h'.1.block p hl (fun e => by injection e with e; omega)).trans h2, h3.row hg0 h', h4, h5⟩
theorem OpsB.more {w wr : World} {g k K K' p : Nat} {v : Value} (h : OpsB w wr g k K p v) (hK : K ≤ K') : OpsB w wr g k K' p v := by
  obtain ⟨o, h1, h2, ⟨vs, a1, a2, a3, a4⟩, h4, h5⟩ := h
  exact ⟨o, h1, h2, ⟨vs, a1, a2, a3, a4.more hK⟩, h4, h5⟩
theorem OpsB.cells {w wr : World} {g k K p : Nat} {v : Value} (h : OpsB w wr g k K p v) : ∃ (a b : Int) (t : ByteArray), t.size ≤ 9 ∧ wr.cell? ⟨p, 0, none⟩ = some (.int .i64 a) ∧ wr.cell? ⟨p, 1, none⟩ = some (.int .i64 b) ∧ wr.cell? ⟨p, 2, none⟩ = some (.string t) ∧
    wr.frozen? ⟨p, 0, none⟩ = false ∧ wr.frozen? ⟨p, 1, none⟩ = false ∧ wr.frozen? ⟨p, 2, none⟩ = false := by
  obtain ⟨o, h1, h2, _⟩ := h
  exact ⟨o.at_, o.size, o.text, h1, cell_of_row wr p 0 _ _ _ h2, cell_of_row wr p 1 _ _ _ h2, cell_of_row wr p 2 _ _ _ h2, frozen_of_row wr p 0 _ _ h2, frozen_of_row wr p 1 _ _ h2, frozen_of_row wr p 2 _ _ h2⟩
theorem OpsB.keep {w wr : World} {g k K p j : Nat} {v u : Value} (hg0 : g < w.heap.size) (h : OpsB w wr g k K p v) : OpsS w (wr.setCell ⟨p, j, none⟩ u) g k K v := by
  obtain ⟨o, h1, h2, ⟨vs, a1, a2, a3, a4⟩, h4, h5⟩ := h
  refine ⟨vs, a1, a2, a3.kept (row := some p) ⟨rfl, rfl, rfl, by simp [World.setCell], fun i hi hne => Below.heap_setCell _ _ _ _ (fun e => hne (by rw [e]))⟩ ?_, a4.setCell h5 hg0 u⟩
  rcases hv : v.ownBlock with _ | q
  · exact .inl rfl
  · refine .inr (fun e => ?_)
    injection e with e
    have := h4 q hv; omega
theorem OpsB.set0 {w wr : World} {g k K p : Nat} {v : Value} (hg0 : g < w.heap.size) (h : OpsB w wr g k K p v) (x : Int) : OpsB w (wr.setCell ⟨p, 0, none⟩ (.int .i64 x)) g k K p v := by
  have h3 := h.keep (j := 0) (u := .int .i64 x) hg0
  obtain ⟨o, h1, h2, _, h4, h5⟩ := h
  exact ⟨⟨x, o.size, o.text⟩, h1, heap_setCell_same wr p 0 _ _ _ h2, h3, h4, h5⟩
theorem OpsB.set1 {w wr : World} {g k K p : Nat} {v : Value} (hg0 : g < w.heap.size) (h : OpsB w wr g k K p v) (x : Int) : OpsB w (wr.setCell ⟨p, 1, none⟩ (.int .i64 x)) g k K p v := by
  have h3 := h.keep (j := 1) (u := .int .i64 x) hg0
  obtain ⟨o, h1, h2, _, h4, h5⟩ := h
  exact ⟨⟨o.at_, x, o.text⟩, h1, heap_setCell_same wr p 1 _ _ _ h2, h3, h4, h5⟩
theorem OpsB.set2 {w wr : World} {g k K p : Nat} {v : Value} (hg0 : g < w.heap.size) (h : OpsB w wr g k K p v) (x : ByteArray) (hx : x.size ≤ 9) : OpsB w (wr.setCell ⟨p, 2, none⟩ (.string x)) g k K p v := by
  have h3 := h.keep (j := 2) (u := .string x) hg0
  obtain ⟨o, h1, h2, _, h4, h5⟩ := h
  exact ⟨⟨o.at_, o.size, x⟩, hx, heap_setCell_same wr p 2 _ _ _ h2, h3, h4, h5⟩

set_option maxHeartbeats 1600000 in
theorem l91Ops_any (g K : Nat) (base : ByteArray) (w : World) (hK : K ≤ 1000000000 - 200) (hbs : base.size ≤ 9) (h : Rdr w g K) :
    Calls Try.prog 55 #[.pointer (some ⟨g, 0, none⟩), .string base] w fun e w' => ∃ k v, k ≤ 3 ∧ OpsS w w' g k (K + 200) v ∧ e = .returned v := by
  have hgw := h.lt
  have HR := Lib.hid (DrawT.refl h)
  clear h
  have HS0 : Hid (OpsS w (w.alloc (.cells #[] 87)) g 0 K (.slice (some ⟨w.heap.size, 0, none⟩) 0 0)) :=
    ⟨[], rfl, by simp, own_nil_lit w _ 3, HR.out.alloc _⟩
  clear HR
  go_enter Try.func55, Try.ntmps55
  go_wp2_with fail
  refine (pick_any g K 4 _ (by omega) HS0.out.choose_spec.2.2.2.2).mono ?_
  rintro e w1 ⟨r1, hr1, hR1, hg1, -, rfl⟩
  have HS1 := Lib.hid (HS0.out.row hgw ⟨hg1, hR1⟩)
  obtain ⟨q, rfl⟩ := Int.eq_ofNat_of_zero_le hr1.1
  have hq1 := hr1.2 (by omega)
  clear hR1 hg1 hr1 HS0
  go_wp2_with fail
  go_loopw [5, 7] (fun v i wr => ∃ k : Nat, k ≤ q ∧ i = .int .i64 k ∧ OpsS w wr g k (K + 1 + 40 * k) v) (fun _ i _ => q - (intOf i).toNat)
  case atStart => exact ⟨0, Nat.zero_le _, rfl, HS1.out⟩
  case round =>
    obtain ⟨k, hk, rfl, hS⟩ := hrel
    have HS := Lib.hid hS
    clear hS HS1
    by_cases hlt : k < q
    · go_upto_region 7 with fail
      have HB := Lib.hid (OpsB.mk_ HS.out ⟨0, 0, ⟨#[98]⟩⟩ (by decide))
      obtain ⟨p, hp⟩ : ∃ p : Nat, wr.heap.size = p := ⟨_, rfl⟩
      rw [hp] at HB ⊢
      clear hp HS
      go_cut [26] (fun b wx => (∃ x, b = .bool x ∧ (x = true → 0 < base.size)) ∧ OpsB w wx g k (K + 2 + 40 * k) p u5)
      case first =>
        by_cases hb0 : base.size = 0
        · go_wp2_with fail
          go_meet
          exact ⟨⟨false, by simp, by simp⟩, HB.out.more (by omega)⟩
        · have hb1 : 0 < base.size := by omega
          clear hb0
          go_wp2_with fail
          refine (pick_any g (K + 1 + 40 * k) 2 _ (by omega) HB.out.rdr).mono ?_
          rintro e w2 ⟨r2, -, hR2, hg2, -, rfl⟩
          have HB2 := Lib.hid (HB.out.draw hgw ⟨hg2, hR2⟩)
          clear hR2 hg2 HB
          go_wp2_with fail
          go_meet
          exact ⟨⟨_, rfl, fun _ => hb1⟩, HB2.out.more (by omega)⟩
      case rest =>
        clear HB
        obtain ⟨⟨x, rfl, hx⟩, hB⟩ := hcut
        have HB := Lib.hid hB
        clear hB
        go_upto_if 26 with (fail)
        go_cut [9] (fun _ wx => OpsB w wx g k (K + 4 + 40 * k) p u5)
        case first =>
          rcases x with _ | _
          · clear hx
            go_wp2_with fail
            go_meet
            exact HB.out.more (by omega)
          · have hb1 := hx rfl
            clear hx
            go_wp2_with fail
            refine (pick_any g (K + 2 + 40 * k) base.size _ (by omega) HB.out.rdr).mono ?_
            rintro e w2 ⟨r2, hr2, hR2, hg2, -, rfl⟩
            have HB2 := Lib.hid (HB.out.draw hgw ⟨hg2, hR2⟩)
            obtain ⟨q2, rfl⟩ := Int.eq_ofNat_of_zero_le hr2.1
            have hq2 := hr2.2 (by omega)
            clear hR2 hg2 HB hr2
            go_wp2_with fail
            all_goals
              refine (pick_any g (K + 2 + 40 * k + 1) _ _ (by omega) HB2.out.rdr).mono ?_
              rintro e w3 ⟨r3, hr3, hR3, hg3, -, rfl⟩
              have HB3 := Lib.hid (HB2.out.draw hgw ⟨hg3, hR3⟩)
              have hr31 := hr3.1
              have hr32 := hr3.2 (by omega)
              clear hR3 hg3 HB2 hr3
              obtain ⟨ya, yb, yt, -, hc0, hc1, hc2, hf0, hf1, hf2⟩ := HB3.out.cells
              have HB4 := Lib.hid (((HB3.out.set0 hgw (q2 : Int)).set1 hgw (1 + r3)).set2 hgw ⟨#[]⟩ (by decide))
              go_wp2_with fail
              go_meet
              exact HB4.out.more (by omega)
        case rest =>
          clear HB
          have HB := Lib.hid hcut
          clear hcut hx
          go_wp2_with fail
          refine (pick_any g (K + 4 + 40 * k) 24 _ (by omega) HB.out.rdr).mono ?_
          rintro e w2 ⟨r, -, hR2, hg2, -, rfl⟩
          have HB2 := Lib.hid (HB.out.draw hgw ⟨hg2, hR2⟩)
          clear hR2 hg2 HB
          go_upto_block 2 with (fail)
          go_cut [9] (fun _ wx => OpsB w wx g k (K + 30 + 40 * k) p u5)
          case first =>
            obtain ⟨ya, yb, yt, -, hc0, hc1, hc2, hf0, hf1, hf2⟩ := HB2.out.cells
            by_cases h0 : r = 0
            · have hd : (r == 0) = true := by simp [h0]
              clear h0 hc0 hc1 hc2 hf0 hf1 hf2
              go_wp2_with fail
              refine (pick_any g (K + 4 + 40 * k + 1) 10 _ (by omega) HB2.out.rdr).mono ?_
              rintro e w3 ⟨r3, hr3, hR3, hg3, -, rfl⟩
              have HB3 := Lib.hid (HB2.out.draw hgw ⟨hg3, hR3⟩)
              have hr31 := hr3.1
              have hr32 := hr3.2 (by omega)
              clear hR3 hg3 HB2 hr3
              obtain ⟨ya, yb, yt, -, hc0, hc1, hc2, hf0, hf1, hf2⟩ := HB3.out.cells
              have HB4 := Lib.hid (HB3.out.set0 hgw (r3 - 1))
              go_wp2_with fail
              go_meet
              exact HB4.out.more (by omega)
            · have hd0 : (r == 0) = false := by simp [h0]
              by_cases h1 : r = 1
              · have hd : (r == 1) = true := by simp [h1]
                clear h1 h0 hc0 hc1 hc2 hf0 hf1 hf2
                go_wp2_with fail
                refine (pick_any g (K + 4 + 40 * k + 1) 10 _ (by omega) HB2.out.rdr).mono ?_
                rintro e w3 ⟨r3, hr3, hR3, hg3, -, rfl⟩
                have HB3 := Lib.hid (HB2.out.draw hgw ⟨hg3, hR3⟩)
                clear hR3 hg3 HB2 hr3
                obtain ⟨ya, yb, yt, -, hc0, hc1, hc2, hf0, hf1, hf2⟩ := HB3.out.cells
                have HB4 := Lib.hid (HB3.out.set1 hgw r3)
                go_wp2_with fail
                go_meet
                exact HB4.out.more (by omega)
              · have hd1 : (r == 1) = false := by simp [h1]
                by_cases h2 : r = 2
                · have hd : (r == 2) = true := by simp [h2]
                  clear h2 h1 h0 hc0 hc1 hc2 hf0 hf1 hf2
                  go_wp2_with fail
                  refine (l91Text_any g (K + 4 + 40 * k + 1) _ (by omega) HB2.out.rdr).mono ?_
                  rintro e w3 ⟨s3, hs3, hD3, rfl⟩
                  have HB3 := Lib.hid (HB2.out.draw hgw hD3)
                  clear hD3 HB2
                  obtain ⟨ya, yb, yt, -, hc0, hc1, hc2, hf0, hf1, hf2⟩ := HB3.out.cells
                  have HB4 := Lib.hid (HB3.out.set2 hgw s3 hs3)
                  go_wp2_with fail
                  go_meet
                  exact HB4.out.more (by omega)
                · have hd2 : (r == 2) = false := by simp [h2]
                  clear h2 h1 h0 hc0 hc1 hc2 hf0 hf1 hf2
                  go_wp2_with fail
                  go_meet
                  exact HB2.out.more (by omega)
          case rest =>
            clear HB2
            obtain ⟨o, ho1, ho2, ⟨vs, hv1, hv2, hv3, hv4⟩, ho4, ho5⟩ := hcut
            have hwsz := hv4.1.size
            have hc0 : wc.cell? ⟨p, 0, none⟩ = some (.int .i64 o.at_) := cell_of_row _ p 0 _ _ _ ho2
            have hc1 : wc.cell? ⟨p, 1, none⟩ = some (.int .i64 o.size) := cell_of_row _ p 1 _ _ _ ho2
            have hc2 : wc.cell? ⟨p, 2, none⟩ = some (.string o.text) := cell_of_row _ p 2 _ _ _ ho2
            have HV := Lib.hid hv3
            have HD := Lib.hid hv4
            have HX := Lib.hid hv2
            have H4 := Lib.hid ho4
            clear ho2 hv3 hv4 hv2 ho4
            go_wp2_with (at_builtin; go_must (refine wpList_app Try.elOp (HV.out.alloc _) (rd_new _ (co o) _) rfl (by simp [Value.oneCell', co]) (by unfold maxLen; omega) (by omega) (by simp; omega) rfl rfl rfl rfl ?_); intro v' w4 hown4 hg4)
            exact ⟨⟨k + 1, by omega, by go_num, OpsS.app hgw hv1 HX.out HV.out (HD.out.more (by omega)) ho1 hown4 hg4⟩, by simp [intOf]; omega⟩
    · have hkq : k = q := by omega
      subst hkq
      go_wp2_with fail
      go_ret
      obtain ⟨vs, h1, h2, h3, h4⟩ := HS.out
      exact ⟨k, _, by omega, ⟨vs, h1, h2, h3, h4.more (by omega)⟩, rfl⟩

def textSum (xs : List OpD) : Nat := (xs.map fun o => o.text.size).sum
theorem textSum_take_succ {xs : List OpD} {k : Nat} (hk : k < xs.length) : textSum (xs.take (k + 1)) = textSum (xs.take k) + xs[k].text.size := by
  unfold textSum
  rw [List.take_succ_eq_append_getElem hk, List.map_append, List.sum_append]; simp
theorem textSum_le {xs : List OpD} (h : ∀ o ∈ xs, o.text.size ≤ 1000) : textSum xs ≤ 1000 * xs.length := by
  unfold textSum
  induction xs with
  | nil => simp
  | cons x xs ih =>
    have h1 := h x (List.mem_cons_self ..)
    have h2 := ih fun o ho => h o (List.mem_cons_of_mem _ ho)
    simp only [List.map_cons, List.sum_cons, List.length_cons]; omega

theorem fl_drop {α : Type} {f : α → List Value} {m : Nat} (hf : ∀ x, (f x).length = m) (hm : 0 < m) {w : World} {lo hi : Nat} {A : Option Addr} {n k : Nat} {xs : List α} (h : Fl f w lo hi A n xs) (_ : k ≤ n) : Fl f w lo hi (A.map (·.add (k * m))) (n - k) (xs.drop k) := by
  refine ⟨by rw [List.length_drop, h.1], fun hne => ?_⟩
  have hkn : k < n := by
    rcases Nat.lt_or_ge k n with hlt | hge
    · exact hlt
    · rw [List.drop_eq_nil_of_le (by rw [h.1]; exact hge)] at hne; exact absurd rfl hne
  obtain ⟨b, o, hl, rfl, g1, g2, _⟩ := h.at_ hf hm hkn
  refine ⟨b, o + k * m, ?_, g1, g2, fun j u hu => ?_⟩
  · simp only [Option.map_some, Addr.add]
    by_cases h0 : k * m = 0
    · rw [if_pos h0, h0]; rfl
    · rw [if_neg h0]
  · have hjm : j < ((xs.drop k).flatMap f).length := (List.getElem?_eq_some_iff.1 hu).1
    rw [flat_len f m hf, List.length_drop] at hjm
    have hd : j / m < (xs.drop k).length := by rw [List.length_drop]; exact Nat.div_lt_of_lt_mul (by rw [Nat.mul_comm]; exact hjm)
    have e : j = j / m * m + j % m := by rw [Nat.mul_comm]; exact (Nat.div_add_mod j m).symm
    rw [e, flat_get f m hf _ (j / m) hd (j % m) (Nat.mod_lt _ hm)] at hu
    rw [List.length_drop] at hd
    obtain ⟨b', o', hl', hA, _, _, hc⟩ := h.at_ hf hm (k := k + j / m) (by rw [← h.1]; omega)
    simp only [Option.some.injEq, Addr.mk.injEq, and_true] at hA
    obtain ⟨rfl, rfl⟩ := hA
    rw [List.getElem_drop] at hu
    have := hc (j % m) u hu
    rw [show b = b from rfl]
    have e3 : o + k * m + j = o + (k + j / m) * m + j % m := by rw [Nat.add_mul]; omega
    rw [e3]; exact this

theorem fl_drop0 {α : Type} {f : α → List Value} {w : World} {lo hi : Nat} {A A' : Option Addr} {n k : Nat} {xs : List α} (h : Fl f w lo hi A n xs) (hk : n ≤ k) : Fl f w lo hi A' (n - k) (xs.drop k) := by
  rw [List.drop_eq_nil_of_le (by rw [h.1]; exact hk), show n - k = 0 from by omega]; exact Fl.nil _ _ _ _ _

/-- what is left behind the draw of a base and operations -/
def DrawnD (w w' : World) (e : Ending) : Prop :=
  ∃ (s : ByteArray) (A : Option Addr) (n c : Nat) (xs : List OpD), e = .returned (.tuple #[.string s, .slice A n c]) ∧ s.size ≤ 9 ∧ n ≤ 3 ∧ n ≤ c ∧ c ≤ maxLen ∧ Fl co w' w.heap.size w'.heap.size A n xs ∧ (∀ o ∈ xs, o.text.size ≤ 9) ∧ Below w.heap.size w w'

end Go.Proofs.Ytegfdckejncbdaa
