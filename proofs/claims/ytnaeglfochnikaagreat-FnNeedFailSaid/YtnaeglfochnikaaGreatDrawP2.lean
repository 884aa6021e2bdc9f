/-
  The walk of the reference's l91Object: a drawn object. Condition: the reader's place is small.
-/
import Derived.Test.YtnaeglfochnikaaGreatZ7
namespace Go.Proofs.YtnaeglfochnikaaGreat
set_option linter.unusedVariables false
set_option linter.unusedSimpArgs false
open Go.RowKit

/-- an object that is being drawn, in block p, and the block r of the result -/
def ObB (w wr : World) (g K r p : Nat) (kind : Int) (v : Value) (t : ByteArray) : Prop :=
  wr.heap[r]? = some (.cells #[.int .i64 0, .slice none 0 0, .string ⟨#[]⟩] 52 (0, 0)) ∧ wr.heap[p]? = some (.cells #[.int .i64 kind, v, .string t] 52 (0, 0)) ∧ w.heap.size ≤ r ∧ w.heap.size ≤ p ∧ r ≠ p ∧ DrawT w wr g K ∧ t.size ≤ 9
theorem hlt_of {w : World} {g : Nat} {o : Obj} (h : w.heap[g]? = some o) : g < w.heap.size := by
  rcases Nat.lt_or_ge g w.heap.size with hlt | hge
  · exact hlt
  · rw [Array.getElem?_eq_none hge] at h; cases h
section
variable {w wr w' : World} {g K K' r p n : Nat} {kind : Int} {v u : Value} {t : ByteArray} {cs : List Value}
theorem ObB.rdr (h : ObB w wr g K r p kind v t) : Rdr wr g K := h.2.2.2.2.2.1.2
theorem ObB.drw (h : ObB w wr g K r p kind v t) : DrawT w wr g K := h.2.2.2.2.2.1
theorem ObB.more (h : ObB w wr g K r p kind v t) (hK : K ≤ K') : ObB w wr g K' r p kind v t := by
  obtain ⟨h1, h2, h3, h4, h5, h6, h7⟩ := h
  exact ⟨h1, h2, h3, h4, h5, h6.more hK, h7⟩
theorem ObB.draw (hg0 : g < w.heap.size) (h : ObB w wr g K r p kind v t) (h' : DrawT wr w' g K') : ObB w w' g K' r p kind v t := by
  obtain ⟨h1, h2, h3, h4, h5, h6, h7⟩ := h
  exact ⟨(h'.1.block _ (hlt_of h1) (fun e => by injection e with e; omega)).trans h1, (h'.1.block _ (hlt_of h2) (fun e => by injection e with e; omega)).trans h2, h3, h4, h5, h6.tr h', h7⟩
theorem ObB.fresh (h : ObB w wr g K r p kind v t) (hb : Below wr.heap.size wr w') : ObB w w' g K r p kind v t := by
  obtain ⟨h1, h2, h3, h4, h5, h6, h7⟩ := h
  exact ⟨(hb.block _ (hlt_of h1)).trans h1, (hb.block _ (hlt_of h2)).trans h2, h3, h4, h5, ⟨grown_tr h6.1 (grown_none hb _), h6.2.grown (grown_none hb none) (fun q hq => by cases hq)⟩, h7⟩
theorem ObB.alloc (h : ObB w wr g K r p kind v t) (o : Obj) : ObB w (wr.alloc o) g K r p kind v t := h.fresh ((Below.refl _ _).alloc (Nat.le_refl _) o)
/-- a row of numbers of the call's own has grown -/
theorem ObB.row (hg0 : g < w.heap.size) (h : ObB w wr g K r p kind v t) (ho : wr.ownsRow w.heap.size 3 1 u n cs) (hg : wr.grownBy w' u.ownBlock) : ObB w w' g K r p kind v t := by
  obtain ⟨h1, h2, h3, h4, h5, h6, h7⟩ := h
  have key : ∀ q, (∃ C, wr.heap[q]? = some (.cells C 52 (0, 0))) → u.ownBlock ≠ some q := fun q hq e => by
    obtain ⟨C, hC⟩ := hq
    obtain ⟨cur, hc⟩ := own_blk ho e
    rw [hC] at hc
    injection hc with hc
    injection hc with _ hc _
    exact absurd hc (by decide)
  exact ⟨(hg.block _ (hlt_of h1) (fun e => key r ⟨_, h1⟩ e.symm)).trans h1, (hg.block _ (hlt_of h2) (fun e => key p ⟨_, h2⟩ e.symm)).trans h2, h3, h4, h5, h6.own hg0 ho hg, h7⟩
theorem ObB.set {j : Nat} {x : Value} {kind' : Int} {v' : Value} {t' : ByteArray} (hg0 : g < w.heap.size) (h : ObB w wr g K r p kind v t) (he : (#[.int .i64 kind, v, .string t] : Array Value).setIfInBounds j x = #[.int .i64 kind', v', .string t']) (ht : t'.size ≤ 9) : ObB w (wr.setCell ⟨p, j, none⟩ x) g K r p kind' v' t' := by
  obtain ⟨h1, h2, h3, h4, h5, h6, h7⟩ := h
  refine ⟨(Below.heap_setCell _ _ _ _ (fun e => h5 e)).trans h1, ?_, h3, h4, h5, h6.setCell h4 hg0 x, ht⟩
  rw [heap_setCell_same wr p j _ _ _ h2, he]
theorem own_put_ne {j : Nat} {x : Value} (ho : wr.ownsRow w.heap.size 3 1 u n cs) (h : ObB w wr g K r p kind v t) : (wr.setCell ⟨p, j, none⟩ x).ownsRow w.heap.size 3 1 u n cs :=
  ho.kept (set_grownL wr p j x) (.inr fun e => by
    obtain ⟨cur, hc⟩ := own_blk ho e
    rw [h.2.1] at hc
    injection hc with hc
    injection hc with _ hc _
    exact absurd hc (by decide))
theorem ObB.cells (h : ObB w wr g K r p kind v t) : wr.cell? ⟨p, 0, none⟩ = some (.int .i64 kind) ∧ wr.cell? ⟨p, 1, none⟩ = some v ∧ wr.cell? ⟨p, 2, none⟩ = some (.string t) ∧ wr.frozen? ⟨p, 0, none⟩ = false ∧ wr.frozen? ⟨p, 1, none⟩ = false ∧ wr.frozen? ⟨p, 2, none⟩ = false ∧ p < wr.heap.size :=
  ⟨cell_of_row wr p 0 _ _ _ h.2.1, cell_of_row wr p 1 _ _ _ h.2.1, cell_of_row wr p 2 _ _ _ h.2.1, frozen_of_row wr p 0 _ _ h.2.1, frozen_of_row wr p 1 _ _ h.2.1, frozen_of_row wr p 2 _ _ h.2.1, hlt_of h.2.1⟩
theorem ObB.res (h : ObB w wr g K r p kind v t) : wr.cell? ⟨r, 0, none⟩ = some (.int .i64 0) ∧ wr.cell? ⟨r, 1, none⟩ = some (.slice none 0 0) ∧ wr.cell? ⟨r, 2, none⟩ = some (.string ⟨#[]⟩) ∧ wr.frozen? ⟨r, 0, none⟩ = false ∧ wr.frozen? ⟨r, 1, none⟩ = false ∧ wr.frozen? ⟨r, 2, none⟩ = false ∧ r < wr.heap.size :=
  ⟨cell_of_row wr r 0 _ _ _ h.1, cell_of_row wr r 1 _ _ _ h.1, cell_of_row wr r 2 _ _ _ h.1, frozen_of_row wr r 0 _ _ h.1, frozen_of_row wr r 1 _ _ h.1, frozen_of_row wr r 2 _ _ h.1, hlt_of h.1⟩
end
/-- .. with its links -/
def ObL (w wr : World) (g K r p : Nat) (kind : Int) (v : Value) (t : ByteArray) (links : List Int) : Prop :=
  ObB w wr g K r p kind v t ∧ wr.ownsRow w.heap.size 3 1 v links.length (links.flatMap ci) ∧ links.length ≤ 993
/-- what is left behind the draw of an object -/
def DrawnO (w w' : World) (g K : Nat) (e : Ending) : Prop :=
  ∃ (kind : Int) (links : List Int) (t : ByteArray) (B : Option Addr) (n d : Nat), OwnL w' w.heap.size (fObject ⟨kind, links, t⟩) [.int .i64 kind, .slice B n d, .string t] ∧ n ≤ 1000 ∧ n = links.length ∧ t.size ≤ 9 ∧ DrawT w w' g K ∧ e = .returned (.agg #[.int .i64 kind, .slice B n d, .string t])
theorem ObL.drawn {w wr : World} {g K r p : Nat} {kind : Int} {B : Option Addr} {n d : Nat} {t : ByteArray} {links : List Int} (hg0 : g < w.heap.size) (h : ObL w wr g K r p kind (.slice B n d) t links) (x0 x1 x2 : Value) :
    DrawnO w (((wr.setCell ⟨r, 0, none⟩ x0).setCell ⟨r, 1, none⟩ x1).setCell ⟨r, 2, none⟩ x2) g K (.returned (.agg #[.int .i64 kind, .slice B n d, .string t])) := by
  obtain ⟨h1, h2, h3⟩ := h
  have hn : n = links.length := by
    obtain ⟨A, c, e, -⟩ := Rd.of_own h2
    injection e
  subst hn
  have hrne : (Value.slice B links.length d).ownBlock ≠ some r := fun e => by
    obtain ⟨cur, hc⟩ := own_blk h2 e
    rw [h1.1] at hc
    injection hc with hc
    injection hc with _ hc _
    exact absurd hc (by decide)
  have k1 := h2.kept (set_grownL wr r 0 x0) (.inr hrne)
  have k2 := k1.kept (set_grownL _ r 1 x1) (.inr hrne)
  have k3 := k2.kept (set_grownL _ r 2 x2) (.inr hrne)
  exact ⟨kind, links, t, B, _, d, OwnL.obj (own_ints k3) (by have := h1.2.2.2.2.2.2; omega), by omega, rfl, h1.2.2.2.2.2.2, ((h1.drw.setCell h1.2.2.1 hg0 _).setCell h1.2.2.1 hg0 _).setCell h1.2.2.1 hg0 _, rfl⟩

set_option maxHeartbeats 6400000 in
set_option maxRecDepth 100000 in
theorem l91Object_any (g K : Nat) (A : Option Addr) (n c : Nat) (xs : List Int) (w : World) (lo hi : Nat) (hK : K ≤ 1000000) (hh : hi ≤ w.heap.size) (hn : n ≤ 40) (hlo : g < lo) (h : Rdr w g K) (hx : Ints w lo hi A n xs) :
    Calls Tryz.prog 91 #[.pointer (some ⟨g, 0, none⟩), .slice A n c] w fun e w' => DrawnO w w' g (K + 130) e := by
  have hg0 := h.lt
  have HI := Lib.hid hx
  have HR0 := Lib.hid ((DrawT.refl h).alloc (.cells #[.int .i64 0, .slice none 0 0, .string ⟨#[]⟩] 52))
  clear h hx
  go_enter Tryz.func91, Tryz.ntmps91
  go_wp2_with fail
  refine (pick_any g K 3 _ (by omega) HR0.out.2).mono ?_
  rintro e w1 ⟨r1, hr1, hR1, hg1, hsz1, rfl⟩
  have hr11 := hr1.1
  have hr12 := hr1.2 (by omega)
  have HD1 := Lib.hid (HR0.out.step hg1 hR1)
  have hx1 : w1.heap[w.heap.size]? = some (.cells #[.int .i64 0, .slice none 0 0, .string ⟨#[]⟩] 52 (0, 0)) := (hg1.block _ (by simp) (fun e => by injection e with e; omega)).trans (heap_alloc_new w _)
  have HX1 := Lib.hid hx1
  rw [World.size_alloc] at hsz1
  have hws1 : w.heap.size < w1.heap.size := by omega
  clear hR1 hg1 hr1 hx1 hsz1
  go_wp2_with fail
  refine (l91Text_any g (K + 1) _ (by omega) (HD1.out.alloc _).2).mono ?_
  rintro e w2 ⟨s, hs, hD2, rfl⟩
  have hlit : w2.heap[w1.heap.size]? = some (.cells #[] 3 (0, 0)) := (hD2.1.block _ (by simp) (fun e => by injection e with e; omega)).trans (heap_alloc_new w1 _)
  have hx2 := (hD2.1.block w.heap.size (by simp; omega) (fun e => by injection e with e; omega)).trans ((Below.heap_alloc w1 _ _ hws1).trans HX1.out)
  have HD2 := Lib.hid ((HD1.out.alloc _).tr hD2)
  have hs2 := hD2.1.size
  rw [World.size_alloc] at hs2
  have HB2 : Hid (ObB w (w2.alloc (.cells #[.int .i64 (1 + r1), .slice (some ⟨w1.heap.size, 0, none⟩) 0 0, .string s] 52)) g (K + 1 + 20) w.heap.size w2.heap.size (1 + r1) (.slice (some ⟨w1.heap.size, 0, none⟩) 0 0) s) :=
    ⟨(Below.heap_alloc w2 _ _ (by omega)).trans hx2, heap_alloc_new w2 _, Nat.le_refl _, by omega, by omega, HD2.out.alloc _, hs⟩
  have HL2 : Hid ((w2.alloc (.cells #[.int .i64 (1 + r1), .slice (some ⟨w1.heap.size, 0, none⟩) 0 0, .string s] 52)).ownsRow w.heap.size 3 1 (.slice (some ⟨w1.heap.size, 0, none⟩) 0 0) 0 []) := own_nil_heap ((Below.heap_alloc w2 _ _ (by omega)).trans hlit) (by omega)
  have hw2s : w.heap.size ≤ w2.heap.size := by omega
  clear hD2 hlit hx2 HD1 HX1 HD2 hs2
  go_upto_if 17 with (fail)
  obtain ⟨p, hp⟩ : ∃ p, p = w2.heap.size := ⟨_, rfl⟩
  obtain ⟨w3, hw3⟩ : ∃ w3, w3 = w2.alloc (.cells #[.int .i64 (1 + r1), .slice (some ⟨w1.heap.size, 0, none⟩) 0 0, .string s] 52) := ⟨_, rfl⟩
  have HB3 : Hid (ObB w w3 g (K + 1 + 20) w.heap.size p (1 + r1) (.slice (some ⟨w1.heap.size, 0, none⟩) 0 0) s) := by rw [hw3, hp]; exact HB2
  have HL3 : Hid (w3.ownsRow w.heap.size 3 1 (.slice (some ⟨w1.heap.size, 0, none⟩) 0 0) 0 []) := by rw [hw3]; exact HL2
  rw [← hw3, ← hp]
  clear HB2 HL2 hw3 hp
  go_cut [5] (fun v wx => v = .pointer (some ⟨p, 0, none⟩) ∧ ∃ kind u t links, ObL w wx g (K + 100) w.heap.size p kind u t links ∧ links.length ≤ 992)
  case first =>
    by_cases h0 : r1 = 0
    · subst h0
      go_wp2_with fail
      go_meet
      exact ⟨rfl, _, _, s, [], ⟨HB3.out.more (by omega), HL3.out, by simp⟩, by simp⟩
    · have hd : ((1 + r1) != 1) = true := by simp; omega
      have hd2 : ((1 + r1) == 1) = false := by simp; omega
      have hws3 : w.heap.size ≤ w3.heap.size := HB3.out.drw.1.size
      have HBL := Lib.hid (HB3.out.alloc (.cells #[] 3))
      have HLL : Hid ((w3.alloc (.cells #[] 3)).ownsRow w.heap.size 3 1 (.slice (some ⟨w3.heap.size, 0, none⟩) 0 0) 0 []) := own_nil_heap (heap_alloc_new w3 _) hws3
      clear HB3 HL3
      simp only [hd]
      go_wp2_with fail
      clear hd hd2
      go_loopw [6, 7] (fun v i wr => ∃ (k m : Nat) (ys : List Int), k ≤ n ∧ i = .int .i64 k ∧ m ≤ k ∧ Hid (ys.length = m) ∧ wr.ownsRow w.heap.size 3 1 v m (ys.flatMap ci) ∧ ObB w wr g (K + 21 + k) w.heap.size p (1 + r1) (.slice (some ⟨w1.heap.size, 0, none⟩) 0 0) s) (fun _ i _ => n - (intOf i).toNat)
      case atStart => exact ⟨0, 0, [], Nat.zero_le _, rfl, Nat.le_refl _, rfl, HLL.out, HBL.out⟩
      case round =>
        obtain ⟨k, m, ys, hk, rfl, hmk, HY, hown, hob⟩ := hrel
        obtain ⟨A6, c6, rfl, hc61, hc62, -⟩ := Rd.of_own hown
        unfold maxLen at hc62
        have HO := Lib.hid hown
        have HB := Lib.hid hob
        have hwsr := hob.drw.1.size
        clear hown hob HBL HLL
        by_cases hcd : k < n ∧ m < 4
        · obtain ⟨hlt, hm4⟩ := hcd
          have hm4i : (m : Int) < 4 := by omega
          obtain ⟨b, o, hl, rfl, _, hbh, hc⟩ := (HI.out.draw HB.out.drw hh hlo).int hlt
          have hbw : b < wr.heap.size := by omega
          go_wp2_with fail
          refine (pick_any g (K + 21 + k) 3 _ (by omega) HB.out.rdr).mono ?_
          rintro e w4 ⟨r4, hr4, hR4, hg4, -, rfl⟩
          have HB4 := Lib.hid (HB.out.draw hg0 ⟨hg4, hR4⟩)
          have HO4 := Lib.hid (own_kept_row HO.out hg4 hg0)
          have hc4 : w4.cell? ⟨b, o + k, none⟩ = some (.int .i64 xs[k]) := (World.cell?_of_block (hg4.block b hbw (fun e => by injection e with e; omega))).trans hc
          have hws4 := hg4.size
          clear hR4 hg4 hr4
          by_cases h4 : r4 = 0
          · have hd4 : (r4 == 0) = true := by simp [h4]
            clear h4
            go_wp2_with (at_builtin; go_must (refine wpList_app Tryz.elI (m := 1) (HO4.out.alloc _) (rd_newn (n := w4.heap.size) rfl [.int .i64 xs[k]] 3) rfl (by simp [Value.oneCell']) (by unfold maxLen; omega) (by omega) (by simp; omega) rfl rfl rfl rfl ?_); intro v5 w5 hown5 hg5; have HO5 := Lib.hid hown5; have HB5 := Lib.hid ((HB4.out.alloc _).row hg0 (HO4.out.alloc _) hg5); clear hown5 hg5)
            go_roundw
            case rel => exact ⟨k + 1, m + 1, ys ++ [xs[k]], by omega, by go_num, by omega, by show _ = _; rw [List.length_append, HY.out]; rfl, by rw [List.flatMap_append]; exact HO5.out, HB5.out.more (by omega)⟩
            case measure => simp [intOf]; omega
          · have hd4 : (r4 == 0) = false := by simp [h4]
            clear h4
            go_wp2_with fail
            go_roundw
            case rel => exact ⟨k + 1, m, ys, by omega, by go_num, by omega, HY, HO4.out, HB4.out.more (by omega)⟩
            case measure => simp [intOf]; omega
        · have hm10 : m ≤ 40 := by omega
          have HBk := Lib.hid (HB.out.more (K' := K + 61) (by omega))
          clear HB
          have hpk := pick_any g (K + 61) 8 wr (by omega) HBk.out.rdr
          have HPK := Lib.hid hpk
          clear hpk
          by_cases hlt : k < n
          all_goals
            first
              | (have hm4i : ¬ ((m : Int) < 4) := by omega)
              | skip
            clear hcd
            go_upto_if 42 with (go_at_call 70; refine HPK.out.mono ?_; rintro e w4 ⟨r4, hr4, hR4, hg4, -, rfl⟩; have HB4 := Lib.hid (HBk.out.draw hg0 ⟨hg4, hR4⟩); have HO4 := Lib.hid (own_kept_row HO.out hg4 hg0); have hws4 := hg4.size; clear hR4 hg4 hr4)
            go_cut [6] (fun v wx => ∃ (m : Nat) (ys : List Int), m ≤ 41 ∧ ys.length = m ∧ wx.ownsRow w.heap.size 3 1 v m (ys.flatMap ci) ∧ ObB w wx g (K + 63) w.heap.size p (1 + r1) (.slice (some ⟨w1.heap.size, 0, none⟩) 0 0) s)
            case first =>
              by_cases h4 : r4 = 0
              · have hd4 : (r4 == 0) = true := by simp [h4]
                clear h4
                go_wp2_with fail
                refine (pick_any g (K + 61 + 1) 99 _ (by omega) HB4.out.rdr).mono ?_
                rintro e w5 ⟨r5, hr5, hR5, hg5, -, rfl⟩
                have HB5 := Lib.hid (HB4.out.draw hg0 ⟨hg5, hR5⟩)
                have HO5 := Lib.hid (own_kept_row HO4.out hg5 hg0)
                have hr51 := hr5.1
                have hr52 := hr5.2 (by omega)
                have hws5 := hg5.size
                clear hR5 hg5 hr5
                go_wp2_with (at_builtin; go_must (refine wpList_app Tryz.elI (m := 1) (HO5.out.alloc _) (rd_newn (n := w5.heap.size) rfl [.int .i64 (10 * r5)] 3) rfl (by simp [Value.oneCell']) (by unfold maxLen; omega) (by omega) (by simp; omega) rfl rfl rfl rfl ?_); intro v6 w6 hown6 hg6; have HO6 := Lib.hid hown6; have HB6 := Lib.hid ((HB5.out.alloc _).row hg0 (HO5.out.alloc _) hg6); clear hown6 hg6)
                go_meet
                exact ⟨m + 1, ys ++ [10 * r5], by omega, by rw [List.length_append, HY.out]; rfl, by rw [List.flatMap_append]; exact HO6.out, HB6.out.more (by omega)⟩
              · have hd4 : (r4 == 0) = false := by simp [h4]
                clear h4
                go_wp2_with fail
                go_meet
                exact ⟨m, ys, by omega, HY.out, HO4.out, HB4.out.more (by omega)⟩
            case rest =>
              obtain ⟨m2, ys2, hm2, hyl2, hown2, hob2⟩ := hcut
              obtain ⟨w5, hw5⟩ : ∃ w5, w5 = wc := ⟨_, rfl⟩
              subst hw5
              obtain ⟨A7, c7, rfl, hc71, hc72, hrd7⟩ := Rd.of_own hown2
              have HI7 : Hid (Ints w5 w.heap.size w5.heap.size A7 m2 ys2) := ⟨hyl2, hrd7⟩
              have HB5 := Lib.hid hob2
              have hws5 := hob2.drw.1.size
              clear hown2 hob2 hrd7 HB4 HO4 HO HPK HBk
              go_wp2_with fail
              refine (l1Sorted_any A7 m2 c7 ys2 _ w.heap.size w5.heap.size (Nat.le_refl _) (by omega) HI7.out).mono ?_
              rintro e w6 ⟨v6, hown6, hb6, rfl⟩
              have HB6 := Lib.hid (HB5.out.fresh hb6)
              have HS := Lib.hid (srtTo_len ys2 991)
              obtain ⟨q, hq⟩ : ∃ q, (srtL ys2).length = q := ⟨_, rfl⟩
              have hq991 : q ≤ 991 := by rw [← hq]; exact HS.out
              have HQ := Lib.hid hq
              rw [hq] at hown6
              have hown6' : w6.ownsRow w.heap.size 3 1 v6 q ((srtL ys2).flatMap ci) := by
                refine ⟨hown6.1, ?_⟩
                rcases hown6.2 with h | ⟨a1, a2, a3, a4, a5, a6⟩
                · exact .inl h
                · exact .inr ⟨a1, a2, a3, a4, Nat.le_trans hws5 a5, a6⟩
              obtain ⟨A8, c8, rfl, hc81, hc82, -⟩ := Rd.of_own hown6'
              obtain ⟨d0, d1, d2, f0, f1, f2, hpl⟩ := HB6.out.cells
              have HO7 := Lib.hid (own_put_ne (j := 1) (x := .slice A8 q c8) hown6' HB6.out)
              have HB7 := Lib.hid (HB6.out.set (j := 1) (x := .slice A8 q c8) (kind' := 1 + r1) (v' := .slice A8 q c8) (t' := s) hg0 rfl hs)
              clear hown6 hown6' hb6 hq HB5
              by_cases h2 : r1 = 1
              · subst h2
                have HB8 := Lib.hid (HB7.out.set (j := 2) (x := .string ⟨#[]⟩) (kind' := 1 + 1) (v' := .slice A8 q c8) (t' := ⟨#[]⟩) hg0 rfl (by decide))
                have HO8 := Lib.hid (own_put_ne (j := 2) (x := .string ⟨#[]⟩) HO7.out HB7.out)
                go_wp2_with fail
                go_meet
                exact ⟨rfl, _, _, _, srtL ys2, ⟨HB8.out.more (by omega), by rw [HQ.out]; exact HO8.out, by rw [HQ.out]; omega⟩, by rw [HQ.out]; omega⟩
              · have he2 : ((1 + r1) == 2) = false := by simp; omega
                by_cases hq0 : q = 0
                · subst hq0
                  have HB8 := Lib.hid (HB7.out.set (j := 0) (x := .int .i64 1) (kind' := 1) (v' := .slice A8 0 c8) (t' := s) hg0 rfl hs)
                  have HO8 := Lib.hid (own_put_ne (j := 0) (x := .int .i64 1) HO7.out HB7.out)
                  go_wp2_with fail
                  go_meet
                  exact ⟨rfl, _, _, _, srtL ys2, ⟨HB8.out.more (by omega), by rw [HQ.out]; exact HO8.out, by rw [HQ.out]; omega⟩, by rw [HQ.out]; omega⟩
                · have hq1 : ((q : Int) == 0) = false := by simp; omega
                  have hq2 : (q == 0) = false := by simp; omega
                  go_wp2_with fail
                  go_meet
                  exact ⟨rfl, _, _, _, srtL ys2, ⟨HB7.out.more (by omega), by rw [HQ.out]; exact HO7.out, by rw [HQ.out]; omega⟩, by rw [HQ.out]; omega⟩
  case rest =>
    obtain ⟨rfl, kind, u, t, links, hO, hln2⟩ := hcut
    obtain ⟨w5, hw5⟩ : ∃ w5, w5 = wc := ⟨_, rfl⟩
    subst hw5
    obtain ⟨hB, hown, hln⟩ := hO
    obtain ⟨A7, c7, rfl, hc71, hc72, -⟩ := Rd.of_own hown
    unfold maxLen at hc72
    have HO5 := Lib.hid hown
    have HB5 := Lib.hid hB
    have hrp : ¬ (w.heap.size = p) := hB.2.2.2.2.1
    have hpr : ¬ (p = w.heap.size) := fun e => hrp e.symm
    have htz := hB.2.2.2.2.2.2
    have hws5 := hB.drw.1.size
    clear hown hB
    go_wp2_with fail
    refine (pick_any g (K + 100) 40 _ (by omega) HB5.out.rdr).mono ?_
    rintro e w6 ⟨r6, hr6, hR6, hg6, -, rfl⟩
    have HB6 := Lib.hid (HB5.out.draw hg0 ⟨hg6, hR6⟩)
    have HO6 := Lib.hid (own_kept_row HO5.out hg6 hg0)
    have hws6 := hg6.size
    clear hR6 hg6 hr6
    by_cases h0 : r6 = 0
    · have hd : (r6 == 0) = true := by simp [h0]
      clear h0
      go_wp2_with fail
      refine (pick_any g (K + 101) 6 _ (by omega) HB6.out.rdr).mono ?_
      rintro e w7 ⟨r7, hr7, hR7, hg7, -, rfl⟩
      have HB7 := Lib.hid (HB6.out.draw hg0 ⟨hg7, hR7⟩)
      have HO7 := Lib.hid (own_kept_row HO6.out hg7 hg0)
      have hr71 := hr7.1
      have hr72 := hr7.2 (by omega)
      clear hR7 hg7 hr7
      obtain ⟨d0, d1, d2, f0, f1, f2, hpl⟩ := HB7.out.cells
      obtain ⟨e0, e1, e2, y0, y1, y2, hrl⟩ := HB7.out.res
      have HB8 := Lib.hid (HB7.out.set (j := 0) (x := .int .i64 (r7 - 1)) (kind' := r7 - 1) (v' := .slice A7 links.length c7) (t' := t) hg0 rfl htz)
      have HO8 := Lib.hid (own_put_ne (j := 0) (x := .int .i64 (r7 - 1)) HO7.out HB7.out)
      go_wp2_with fail
      exact bodyPost_ret (v := .agg #[.int .i64 (r7 - 1), .slice A7 links.length c7, .string t]) (by simp [results, Tryz.results91, go_sem, e0, e1, e2, hrp, hpr]) rfl (ObL.drawn hg0 ⟨HB8.out.more (by omega), HO8.out, hln⟩ _ _ _)
    · have hd : (r6 == 0) = false := by simp [h0]
      clear h0
      by_cases h1 : r6 = 1
      · have hd1 : (r6 == 1) = true := by simp [h1]
        clear h1
        obtain ⟨z0, z1, z2, -, -, -, hpl⟩ := HB6.out.cells
        have HRD : Hid (Rdr w6.drew g (K + 101)) := HB6.out.rdr
        have tok1 : True := trivial
        go_wp2_with fail
        go_region_law (first
          | (have _t := tok1; go_simp; go_at_call 72; refine (l91Id_any g _ _ (by omega) HRD.out).mono ?_; rintro e w7 ⟨x, -, hD7', rfl⟩; have hD7 : DrawT w6 w7 g (K + 101 + 4) := ⟨⟨hD7'.1.os, hD7'.1.tape, hD7'.1.output, hD7'.1.size, hD7'.1.block⟩, hD7'.2⟩; have HB7 := Lib.hid (HB6.out.draw hg0 hD7); have HO7 := Lib.hid (own_kept_row HO6.out hD7.1 hg0); have hws7 := hD7.1.size; have z71 : w7.cell? ⟨p, 1, none⟩ = some (.slice A7 links.length c7) := HB7.out.cells.2.1; have hpl7 : p < w7.heap.size := HB7.out.cells.2.2.2.2.2.2; have tok2 : True := trivial; clear tok1 hD7' hD7)
          | (have _t := tok2; refine step_app_at Tryz.elI (m := 1) (HO7.out.alloc _) (rd_newn (n := w7.heap.size) rfl [.int .i64 x] 3) rfl (by simp [Value.oneCell']) (by unfold maxLen; omega) (by omega) (by simp; omega) rfl rfl rfl rfl ?_; intro v8 w8 hown8 hg8 hat8; have HB8 := Lib.hid ((HB7.out.alloc _).row hg0 (HO7.out.alloc _) hg8); have HO8 := Lib.hid hown8; obtain ⟨A8, c8, rfl, -, -, -⟩ := Rd.of_own hown8; obtain ⟨d0, d1, d2, f0, f1, f2, hpl8⟩ := HB8.out.cells; obtain ⟨e0, e1, e2, y0, y1, y2, hrl8⟩ := HB8.out.res; clear tok2 hown8 hg8 hat8))
        all_goals
          go_wp2_with fail
          have HB9 := Lib.hid (HB8.out.set (j := 1) (x := .slice A8 (links.length + 1) c8) (kind' := kind) (v' := .slice A8 (links.length + 1) c8) (t' := t) hg0 rfl htz)
          have HO9 := Lib.hid (own_put_ne (j := 1) (x := .slice A8 (links.length + 1) c8) HO8.out HB8.out)
          exact bodyPost_ret (v := .agg #[.int .i64 kind, .slice A8 (links.length + 1) c8, .string t]) (by simp [results, Tryz.results91, go_sem, e0, e1, e2, hrp, hpr]) rfl (ObL.drawn (links := links ++ [x]) hg0 ⟨HB9.out.more (by omega), by rw [List.length_append, List.flatMap_append]; exact HO9.out, by simp; omega⟩ _ _ _)
      · have hd1 : (r6 == 1) = false := by simp [h1]
        clear h1
        obtain ⟨d0, d1, d2, f0, f1, f2, hpl⟩ := HB6.out.cells
        obtain ⟨e0, e1, e2, y0, y1, y2, hrl⟩ := HB6.out.res
        go_wp2_with fail
        exact bodyPost_ret (v := .agg #[.int .i64 kind, .slice A7 links.length c7, .string t]) (by simp [results, Tryz.results91, go_sem, e0, e1, e2, hrp, hpr]) rfl (ObL.drawn hg0 ⟨HB6.out.more (by omega), HO6.out, hln⟩ _ _ _)

end Go.Proofs.YtnaeglfochnikaaGreat
