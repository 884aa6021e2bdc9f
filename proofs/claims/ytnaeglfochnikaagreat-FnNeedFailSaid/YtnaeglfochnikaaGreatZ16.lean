/-
  The walk of the program's StorePut: storing one object in a store. Condition: the store and the object are valid.
  The walks of the reference's l1One and l1Copy: an object, and objects, in memory of their own. Condition: few elements.
  The walk of the reference's l1Same: whether two objects are equal; facts carried along a region that makes literals in an open order. No condition.
-/
import Derived.Test.YtnaeglfochnikaaGreatZ15
import Derived.Test.YtnaeglfochnikaaGreatZ13
namespace Go.Proofs.YtnaeglfochnikaaGreat
set_option linter.unusedVariables false
set_option linter.unusedSimpArgs false
open Go.RowKit

/-- what storing an object leaves: the store as a row of its own, and whether it went -/
def PutR (w : World) (os : List ObjD) (b : Bool) (e : Ending) (w' : World) : Prop :=
  ∃ (B : Option Addr) (m d : Nat), m = os.length ∧ Grow w' w.heap.size 52 3 (.slice B m d) m (os.flatMap fObject) ∧ Below w.heap.size w w' ∧ e = .returned (.tuple #[.slice B m d, .bool b])
theorem Grow.low {w : World} {base base' m n : Nat} {E : TypeId} {v : Value} {es : List D} (h : Grow w base E m v n es) (hb : base' ≤ base) : Grow w base' E m v n es := by
  obtain ⟨vs, F, h1, h2, h3, h4, h5⟩ := h
  refine ⟨vs, F, ⟨h1.1, ?_⟩, h2, h3, fun g hg => ⟨Nat.le_trans hb (h4 g hg).1, (h4 g hg).2⟩, h5⟩
  rcases h1.2 with h | ⟨a1, a2, a3, a4, a5, a6⟩
  · exact .inl h
  · exact .inr ⟨a1, a2, a3, a4, Nat.le_trans hb a5, a6⟩
theorem box_cells {w : World} {p : Nat} {a b c : Value} {E : TypeId} (h : w.heap[p]? = some (.cells #[a, b, c] E (0, 0))) : w.cell? ⟨p, 0, none⟩ = some a ∧ w.cell? ⟨p, 1, none⟩ = some b ∧ w.cell? ⟨p, 2, none⟩ = some c ∧ w.frozen? ⟨p, 1, none⟩ = false ∧ p < w.heap.size :=
  ⟨cell_of_row w p 0 _ _ _ h, cell_of_row w p 1 _ _ _ h, cell_of_row w p 2 _ _ _ h, frozen_of_row w p 1 _ _ h, hltS h⟩
theorem putB_fnd {os : List ObjD} {o : ObjD} {i : Nat} (hp : plc os (idB o) = i) (hi : i < os.length) (h : fndB os (idB o) = true) : putB os o = sameB os[i] o ∧ putL os o = os := by
  subst hp
  unfold putB putL
  rw [if_pos h, if_pos h, objAt hi]
  exact ⟨rfl, rfl⟩
theorem putB_full {os : List ObjD} {o : ObjD} (hn : os.length = 16) (h : fndB os (idB o) = false) : putB os o = false ∧ putL os o = os := by
  unfold putB putL
  rw [if_neg (by rw [h]; simp), if_neg (by rw [h]; simp), hn]
  exact ⟨rfl, rfl⟩
theorem putB_ins {os : List ObjD} {o : ObjD} {i : Nat} (hp : plc os (idB o) = i) (hn : os.length < 16) (h : fndB os (idB o) = false) : putB os o = true ∧ putL os o = os.take i ++ o :: os.drop i := by
  subst hp
  unfold putB putL
  rw [if_neg (by rw [h]; simp), if_neg (by rw [h]; simp), if_pos hn, decide_eq_true hn]
  exact ⟨rfl, rfl⟩

end Go.Proofs.YtnaeglfochnikaaGreat

namespace Go.Proofs.YtnaeglfochnikaaGreat
set_option linter.unusedVariables false
set_option linter.unusedSimpArgs false
open Go.RowKit

set_option maxRecDepth 100000 in
set_option maxHeartbeats 800000 in
theorem l1One_any (kind : Int) (links : List Int) (text : ByteArray) (A : Option Addr) (n c : Nat) (w : World) (lo hi : Nat) (hh : hi ≤ w.heap.size) (hn : n ≤ 1048576) (ht : text.size ≤ 9223372036854775807) (h : D.rd w lo hi (intsD links) (.slice A n c)) :
    Calls Tryz.prog 115 #[.agg #[.int .i64 kind, .slice A n c, .string text]] w fun e w' => ∃ B d, OwnL w' w.heap.size (fObject ⟨kind, links, text⟩) [.int .i64 kind, .slice B n d, .string text] ∧ Below w.heap.size w w' ∧ e = .returned (.agg #[.int .i64 kind, .slice B n d, .string text]) := by
  obtain ⟨p, hp⟩ : ∃ p, p = w.heap.size := ⟨_, rfl⟩
  obtain ⟨r, hr⟩ : ∃ r, r = w.heap.size + 1 := ⟨_, rfl⟩
  obtain ⟨w1, hw1⟩ : ∃ w1, w1 = (w.alloc (.cells #[.int .i64 kind, .slice A n c, .string text] 52)).alloc (.cells #[.int .i64 0, .slice none 0 0, .string ⟨#[]⟩] 52) := ⟨_, rfl⟩
  have hb1 : Below w.heap.size w w1 := by rw [hw1]; exact ((Below.refl _ _).alloc (Nat.le_refl _) _).alloc (by simp) _
  have hx1 : w1.heap[p]? = some (.cells #[.int .i64 kind, .slice A n c, .string text] 52 (0, 0)) := by rw [hw1, hp]; exact (Below.heap_alloc _ _ _ (by simp)).trans (heap_alloc_new w _)
  have hx2 : w1.heap[r]? = some (.cells #[.int .i64 0, .slice none 0 0, .string ⟨#[]⟩] 52 (0, 0)) := by
    have := heap_alloc_new (w.alloc (.cells #[.int .i64 kind, .slice A n c, .string text] 52)) (.cells #[.int .i64 0, .slice none 0 0, .string ⟨#[]⟩] 52)
    rw [hw1, hr]; simpa using this
  have hpw : w.heap.size ≤ p := by omega
  have hrw : w.heap.size ≤ r := by omega
  have hrp : ¬ (r = p) := by omega
  have hpr : ¬ (p = r) := by omega
  have lp := hltS hx1
  have lr := hltS hx2
  have HI := Lib.hid (h.ints.below hb1 hh)
  have HB1 := Lib.hid hb1
  have HX1 := Lib.hid hx1
  have HX2 := Lib.hid hx2
  have hlen := Lib.hid h.ints.1
  have hh1 : hi ≤ w1.heap.size := Nat.le_trans hh hb1.size
  have HNIL := Lib.hid (own_nil_lit w1 3 1)
  have kp1 : w1.cell? ⟨p, 1, none⟩ = some (.slice A n c) := cell_of_row _ _ _ _ _ _ hx1
  have kp1' : (w1.alloc (.cells #[] 3)).cell? ⟨p, 1, none⟩ = some (.slice A n c) := (World.cell?_alloc_lt w1 _ _ lp).trans kp1
  clear h hb1 hx1 hx2
  go_enter Tryz.func115, Tryz.ntmps115
  go_upto_region 1 with (fail)
  rw [← hw1, ← hr, ← hp]
  clear hw1 hp hr
  go_wp2_with (at_builtin; go_must (refine wpList_app Tryz.elI (m := n) HNIL.out (HI.out.2.alloc hh1 _) (by rw [flat_len ci 1 ci_len, hlen.out]) (by rw [flat_ci]; simp [Value.oneCell']) (by unfold maxLen; omega) (by omega) (by simp) rfl rfl rfl rfl ?_); intro v2 w2 hown2 hg2; rw [Nat.zero_add, List.nil_append] at hown2; have HO2 := Lib.hid hown2; have HB2 := Lib.hid (below_app (HB1.out.alloc HB1.out.size (.cells #[] 3)) HB1.out.size (by simp) HNIL.out hg2); have hgb : ∀ q, q < w1.heap.size → w2.heap[q]? = w1.heap[q]? := (fun q hq => (hg2.block q (by simp; omega) (fun e => by injection e with e; dsimp only at e; omega)).trans (Below.heap_alloc _ _ _ hq)); have HXA := Lib.hid ((hgb p lp).trans HX1.out); have HXB := Lib.hid ((hgb r lr).trans HX2.out); obtain ⟨B, d, rfl, -, -, -⟩ := Rd.of_own hown2; obtain ⟨g0, g1, g2, gf1, lp2⟩ := box_cells HXA.out; have e0 : w2.cell? ⟨r, 0, none⟩ = some (.int .i64 0) := cell_of_row _ _ _ _ _ _ HXB.out; have e1 : w2.cell? ⟨r, 1, none⟩ = some (.slice none 0 0) := cell_of_row _ _ _ _ _ _ HXB.out; have e2 : w2.cell? ⟨r, 2, none⟩ = some (.string ⟨#[]⟩) := cell_of_row _ _ _ _ _ _ HXB.out; have y0 : w2.frozen? ⟨r, 0, none⟩ = false := frozen_of_row _ _ _ _ _ HXB.out; have y1 : w2.frozen? ⟨r, 1, none⟩ = false := frozen_of_row _ _ _ _ _ HXB.out; have y2 : w2.frozen? ⟨r, 2, none⟩ = false := frozen_of_row _ _ _ _ _ HXB.out; have lr2 := hltS HXB.out; clear hown2 hg2 hgb)
  refine bodyPost_ret (v := .agg #[.int .i64 kind, .slice B n d, .string text]) (by simp [results, Tryz.results115, go_sem, e0, e1, e2, y0, y1, y2, hrp, hpr]) rfl ?_
  have hO : OwnL w2 w1.heap.size (fObject ⟨kind, links, text⟩) [.int .i64 kind, .slice B n d, .string text] := by
    obtain ⟨F, h1, h2, h3⟩ := own_ints HO2.out
    refine ⟨F, h1, h2, ?_⟩
    have := D.ownL.cons (D.own.int w2 kind) (D.ownL.cons h3 (D.ownL.cons (D.own.str w2 ht) (D.ownL.nil w2)))
    simpa [fObject] using this
  refine ⟨B, d, ?_, ?_, rfl⟩
  · exact ((((hO.set lp _ _).set lr _ _).set lr _ _).set lr _ _).low HB1.out.size
  · exact (((HB2.out.setCell hpw _).setCell hrw _).setCell hrw _).setCell hrw _

set_option maxRecDepth 100000 in
set_option maxHeartbeats 1600000 in
theorem l1Copy_any (os : List ObjD) (A : Option Addr) (n c : Nat) (w : World) (lo hi : Nat) (hh : hi ≤ w.heap.size) (hn : n ≤ 1000) (hl : ∀ o ∈ os, o.links.length ≤ 1048576) (h : D.rd w lo hi (dObjects os) (.slice A n c)) :
    Calls Tryz.prog 100 #[.slice A n c] w fun e w' => ∃ (B : Option Addr) (d : Nat), Grow w' w.heap.size 52 3 (.slice B n d) n (os.flatMap fObject) ∧ Below w.heap.size w w' ∧ e = .returned (.slice B n d) := by
  have HI := Lib.hid h
  have HN := Lib.hid h.len.1
  have HLK := Lib.hid hl
  have HNIL := Lib.hid (own_nil_lit w 52 3)
  have HB0 : Hid (Below w.heap.size w (w.alloc (.cells #[] 52))) := Lib.hid ((Below.refl _ _).alloc (Nat.le_refl _) _)
  clear h hl
  go_enter Tryz.func100, Tryz.ntmps100
  go_wp2_with fail
  go_loopw [3, 4] (fun v i wr => ∃ k : Nat, k ≤ n ∧ i = .int .i64 k ∧ Hid (Grow wr w.heap.size 52 3 v k ((os.take k).flatMap fObject)) ∧ Below w.heap.size w wr) (fun _ i _ => n - (intOf i).toNat)
  case atStart => exact ⟨0, Nat.zero_le _, rfl, Lib.hid (Grow.nil HNIL.out), HB0.out⟩
  case round =>
    obtain ⟨k, hk, rfl, HG, hbw⟩ := hrel
    have HB := Lib.hid hbw
    have hwsz := hbw.size
    clear hbw HNIL HB0
    obtain ⟨B6, d6, rfl, hd61, hd62, -⟩ := HG.out.own.rd.arr_inv
    by_cases hlt : k < n
    · obtain ⟨b, o, hkl, A1, n1, c1, rfl, _, hbh, hc0, hc1, hc2, ⟨hn1, hm1, hr1⟩, ht2⟩ := rd_Object (HI.out.below HB.out hh) hlt
      have HR1 := Lib.hid hr1
      have hl1 : n1 ≤ 1048576 := by rw [hr1.len.1]; exact HLK.out _ (List.getElem_mem hkl)
      have hhr : hi ≤ wr.heap.size := Nat.le_trans hh hwsz
      clear hr1
      go_wp2_with fail
      refine (l1One_any os[k].kind os[k].links os[k].text A1 n1 c1 wr lo hi hhr hl1 ht2 HR1.out).mono ?_
      rintro e w2 ⟨B2, d2, hd2, hb2, rfl⟩
      have HB2 := Lib.hid (bel_tr HB.out (Nat.le_refl _) hb2)
      have hP := GrowP.mk_ HG.out hb2 hd2 hwsz
      obtain ⟨vs, hP⟩ := hP
      have HPP := Lib.hid hP
      obtain ⟨F, G, hrow, -⟩ := hP
      have HROW := Lib.hid hrow
      have hw2 : w.heap.size ≤ w2.heap.size := HB2.out.size
      clear hd2 hb2 hrow
      go_wp2_with (at_builtin; go_must (refine wpList_app_at Tryz.elObj (m := 1) (HROW.out.alloc _) (rd_newn (n := w2.heap.size) rfl [.int .i64 os[k].kind, .slice B2 n1 d2, .string os[k].text] 52) rfl (by simp [Value.oneCell']) (by unfold maxLen; omega) (by omega) (by simp; omega) rfl rfl rfl rfl ?_); intro v3 w3 hown3 hg3 hat3; have HG3 := Lib.hid (GrowP.done HPP.out hown3 hg3 hat3); have HB3 := Lib.hid (below_app (HB2.out.alloc hw2 _) (Nat.le_refl _) (by simp; omega) (HROW.out.alloc _) hg3); clear hown3 hg3 hat3)
      go_roundw
      case rel => exact ⟨k + 1, by omega, by go_num, by rw [List.take_succ_eq_append_getElem hkl, List.flatMap_append, List.flatMap_cons, List.flatMap_nil, List.append_nil]; exact HG3, HB3.out⟩
      case measure => simp [intOf]; omega
    · have hkn : k = n := by omega
      subst hkn
      go_wp2_with fail
      go_ret
      refine ⟨B6, d6, ?_, HB.out, rfl⟩
      have := HG.out
      rwa [List.take_of_length_le (by rw [← HN.out]; exact Nat.le_refl _)] at this

end Go.Proofs.YtnaeglfochnikaaGreat

namespace Go.Proofs.YtnaeglfochnikaaGreat
set_option linter.unusedVariables false
set_option linter.unusedSimpArgs false
open Go.RowKit

theorem heap_nw {W : World} {o : Obj} {g : Nat} (h : W.heap.size = g) : (W.alloc o).heap[g]? = some o := by subst h; exact heap_alloc_new W o
theorem heap_kp {W : World} {o o' : Obj} {g : Nat} (h : W.heap[g]? = some o') : (W.alloc o).heap[g]? = some o' := (Below.heap_alloc _ _ _ (hltS h)).trans h
theorem heap_kd {W : World} {o' : Obj} {g : Nat} (h : W.heap[g]? = some o') : W.drew.heap[g]? = some o' := h
theorem below_ka {C : Nat} {w W : World} (h : Below C w W) (hC : C ≤ w.heap.size) (o : Obj) : Below C w (W.alloc o) := h.alloc (Nat.le_trans hC h.size) o
theorem below_kd {C : Nat} {w W : World} (h : Below C w W) : Below C w W.drew := h.drew
theorem own_kd {W : World} {base size n : Nat} {e : TypeId} {v : Value} {cs : List Value} (h : W.ownsRow base e size v n cs) : W.drew.ownsRow base e size v n cs := h
theorem own_ka {W : World} {base size n : Nat} {e : TypeId} {v : Value} {cs : List Value} (h : W.ownsRow base e size v n cs) (o : Obj) : (W.alloc o).ownsRow base e size v n cs := h.alloc o
theorem rd_lit {W : World} {g : Nat} {e : TypeId} {cs : List Value} (h : W.heap[g]? = some (.cells cs.toArray e (0, 0))) : Rd W g (g + 1) (some ⟨g, 0, none⟩) cs := fun _ =>
  ⟨g, 0, rfl, Nat.le_refl _, Nat.lt_succ_self _, fun j u hu => by
    rw [Nat.zero_add, cell_of_row W g j _ _ _ h]
    simpa using hu⟩

set_option maxRecDepth 100000 in
set_option maxHeartbeats 800000 in
theorem l1Same_any (k1 : Int) (l1 : List Int) (t1 : ByteArray) (A : Option Addr) (n c : Nat) (k2 : Int) (l2 : List Int) (t2 : ByteArray) (B : Option Addr) (m d : Nat) (w : World) (lo hi lo' hi' : Nat) (hh : hi ≤ w.heap.size) (hh' : hi' ≤ w.heap.size) (h : D.rd w lo hi (intsD l1) (.slice A n c)) (h' : D.rd w lo' hi' (intsD l2) (.slice B m d)) :
    Calls Tryz.prog 101 #[.agg #[.int .i64 k1, .slice A n c, .string t1], .agg #[.int .i64 k2, .slice B m d, .string t2]] w fun e w' => e = .returned (.bool (sameB ⟨k1, l1, t1⟩ ⟨k2, l2, t2⟩)) ∧ Below w.heap.size w w' := by
  have hn : n ≤ 9223372036854775807 := by have := h.len; omega
  have hm : m ≤ 9223372036854775807 := by have := h'.len; omega
  obtain ⟨p, hp⟩ : ∃ p, p = w.heap.size := ⟨_, rfl⟩
  obtain ⟨r, hr⟩ : ∃ r, r = w.heap.size + 1 := ⟨_, rfl⟩
  obtain ⟨w1, hw1⟩ : ∃ w1, w1 = (w.alloc (.cells #[.int .i64 k1, .slice A n c, .string t1] 52)).alloc (.cells #[.int .i64 k2, .slice B m d, .string t2] 52) := ⟨_, rfl⟩
  have hb1 : Below w.heap.size w w1 := by rw [hw1]; exact ((Below.refl _ _).alloc (Nat.le_refl _) _).alloc (by simp) _
  have hx1 : w1.heap[p]? = some (.cells #[.int .i64 k1, .slice A n c, .string t1] 52 (0, 0)) := by rw [hw1, hp]; exact (Below.heap_alloc _ _ _ (by simp)).trans (heap_alloc_new w _)
  have hx2 : w1.heap[r]? = some (.cells #[.int .i64 k2, .slice B m d, .string t2] 52 (0, 0)) := by
    have := heap_alloc_new (w.alloc (.cells #[.int .i64 k1, .slice A n c, .string t1] 52)) (.cells #[.int .i64 k2, .slice B m d, .string t2] 52)
    rw [hw1, hr]; simpa using this
  obtain ⟨p0, p1, p2, -, lp⟩ := box_cells hx1
  obtain ⟨r0, r1, r2, -, lr⟩ := box_cells hx2
  have HI := Lib.hid (h.ints.below hb1 hh)
  have HJ := Lib.hid (h'.ints.below hb1 hh')
  have HL := Lib.hid h.ints.1
  have HM := Lib.hid h'.ints.1
  have HB := Lib.hid hb1
  clear h h' hb1 hx1 hx2
  by_cases hk : k1 = k2
  · by_cases ht : t1.toList = t2.toList
    · by_cases hnm : n = m
      · subst hnm
        have HS : Hid (sameB ⟨k1, l1, t1⟩ ⟨k2, l2, t2⟩ = decide (l1 = l2)) := by
          show _ = _
          unfold sameB
          dsimp only
          rw [← ByteArray.toList_eq, ← ByteArray.toList_eq, ht, decide_eq_true hk]
          simp
        have hkb : (k1 != k2) = false := by simp [hk]
        have htb : (t1.toList != t2.toList) = false := by simp [ht]
        have htb2 : (!(t1.toList == t2.toList)) = false := by simp [ht]
        clear hk ht
        go_enter Tryz.func101, Tryz.ntmps101
        go_upto_region 1 with (fail)
        rw [← hw1, ← hr, ← hp]
        clear hw1 hp hr
        go_wp2_with fail
        go_loopw [5] (fun i wr => ∃ k : Nat, k ≤ n ∧ i = .int .i64 k ∧ Hid (l1.take k = l2.take k) ∧ ∃ q, wr = w1.drewN q) (fun i _ => n - (intOf i).toNat)
        case atStart => exact ⟨0, Nat.zero_le _, rfl, rfl, 0, rfl⟩
        case round =>
          obtain ⟨k, hk, rfl, HT, q, rfl⟩ := hrel
          by_cases hlt : k < n
          · obtain ⟨b, o, hl, rfl, _, _, hc⟩ := HI.out.int hlt
            obtain ⟨b', o', hl', rfl, _, _, hc'⟩ := HJ.out.int hlt
            by_cases he : l1[k] = l2[k]
            · have HY := Lib.hid (eq_take hl hl' HT.out he)
              have hd3 : (l1[k] != l2[k]) = false := by simpa using he
              clear he
              go_wp2_with fail
              go_quiet (fail)
              go_wp2_with fail
              go_roundw
              case rel => exact ⟨k + 1, by omega, by go_num, HY.out, q + nq, by first | rfl | (simp [World.drewN, Nat.add_assoc]; done)⟩
              case measure => simp [intOf]; omega
            · have HY := Lib.hid (eq_not hl hl' he)
              have hd3 : (l1[k] != l2[k]) = true := by simpa using he
              clear he
              go_wp2_with fail
              go_quiet (fail)
              go_wp2_with fail
              go_ret
              exact ⟨ret_bool (by rw [HS.out]; exact HY.out.symm), below_drewN (below_drewN HB.out q) nq⟩
          · have hkn : k = n := by omega
            subst hkn
            have HY : Hid (decide (l1 = l2) = true) := by
              show _ = _
              have := HT.out
              rw [List.take_of_length_le (by rw [HL.out]; exact Nat.le_refl _), List.take_of_length_le (by rw [HM.out]; exact Nat.le_refl _)] at this
              exact decide_eq_true this
            go_wp2_with fail
            go_ret
            exact ⟨ret_bool (by rw [HS.out]; exact HY.out.symm), below_drewN HB.out q⟩
      · have HS : Hid (sameB ⟨k1, l1, t1⟩ ⟨k2, l2, t2⟩ = false) := Lib.hid (sameB_links (fun e => hnm (by rw [← HL.out, ← HM.out]; dsimp only at e; rw [e])))
        have hkb : (k1 != k2) = false := by simp [hk]
        have htb : (t1.toList != t2.toList) = false := by simp [ht]
        have htb2 : (!(t1.toList == t2.toList)) = false := by simp [ht]
        have hq2 : ((n : Int) != (m : Int)) = true := by simp; omega
        clear hk ht hnm
        go_enter Tryz.func101, Tryz.ntmps101
        go_upto_region 1 with (fail)
        rw [← hw1, ← hr, ← hp]
        clear hw1 hp hr
        go_wp2_with fail
        go_ret
        exact ⟨ret_bool HS.out.symm, HB.out⟩
    · have HS : Hid (sameB ⟨k1, l1, t1⟩ ⟨k2, l2, t2⟩ = false) := by
        show _ = _
        unfold sameB
        dsimp only
        rw [← ByteArray.toList_eq, ← ByteArray.toList_eq]
        simp [ht]
      have hkb : (k1 != k2) = false := by simp [hk]
      have htb : (t1.toList != t2.toList) = true := by simp [ht]
      have htb2 : (!(t1.toList == t2.toList)) = true := by simp [ht]
      clear hk ht
      go_enter Tryz.func101, Tryz.ntmps101
      go_upto_region 1 with (fail)
      rw [← hw1, ← hr, ← hp]
      clear hw1 hp hr
      go_wp2_with fail
      go_ret
      exact ⟨ret_bool HS.out.symm, HB.out⟩
  · have HS := Lib.hid (sameB_kind (a := ⟨k1, l1, t1⟩) (b := ⟨k2, l2, t2⟩) hk)
    have hkb : (k1 != k2) = true := by simp [hk]
    clear hk
    go_enter Tryz.func101, Tryz.ntmps101
    go_upto_region 1 with (fail)
    rw [← hw1, ← hr, ← hp]
    clear hw1 hp hr
    go_wp2_with fail
    go_ret
    exact ⟨ret_bool HS.out.symm, HB.out⟩

end Go.Proofs.YtnaeglfochnikaaGreat
