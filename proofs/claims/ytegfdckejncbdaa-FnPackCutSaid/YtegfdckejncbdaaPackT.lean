/-
  The walk of the reference's l3Objects and PackObjects: the objects of a pack. Condition: lengths are small.
-/
import Derived.Test.YtegfdckejncbdaaPackS
import Derived.Deep.RegionHeldLaw
namespace Go.Proofs.Ytegfdckejncbdaa
set_option linter.unusedVariables false
set_option linter.unusedSimpArgs false
open Go.RowKit

theorem own_nil_heap {W : World} {base g size : Nat} {e : TypeId} (h : W.heap[g]? = some (.cells #[] e (0, 0))) (hb : base ≤ g) : W.ownsRow base e size (.slice (some ⟨g, 0, none⟩) 0 0) 0 [] :=
  ⟨by simp, .inr ⟨g, 0, #[], rfl, hb, h, Nat.le_refl _, Nat.zero_le _, by simp, by simp⟩⟩
theorem OwnL.obj {w : World} {lo : Nat} {kind : Int} {links : List Int} {t : ByteArray} {v : Value} (ho : Own w lo (intsD links) v) (ht : t.size ≤ 9223372036854775807) : OwnL w lo (fObject ⟨kind, links, t⟩) [.int .i64 kind, v, .string t] := by
  obtain ⟨F, h1, h2, h3⟩ := ho
  refine ⟨F, h1, h2, ?_⟩
  have := D.ownL.cons (D.own.int w kind) (D.ownL.cons h3 (D.ownL.cons (D.own.str w ht) (D.ownL.nil w)))
  simpa [fObject] using this
theorem ObjBox.after {w w4 : World} {links : List Int} {nk d : Nat} {B : Option Addr} (kind : Int) (t : ByteArray) (ht : t.size ≤ 9223372036854775807) (hb : Below w.heap.size w w4) (ho : w4.ownsRow w.heap.size 3 1 (.slice B nk d) nk (links.flatMap ci)) :
    ObjBox kind links t nk w (.pointer (some ⟨w4.heap.size, 0, none⟩)) (w4.alloc (.cells #[.int .i64 kind, .slice B nk d, .string t] 39)) :=
  ⟨w4.heap.size, B, d, rfl, heap_alloc_new w4 _, hb.size, hb.alloc hb.size _, OwnL.obj (own_ints (ho.alloc _)) ht⟩
theorem ObjBox.before {w w4 : World} {links : List Int} {nk d p : Nat} {B : Option Addr} {z : Array Value} (kind : Int) (t : ByteArray) (ht : t.size ≤ 9223372036854775807) (hb : Below w.heap.size w w4) (ho : w4.ownsRow w.heap.size 3 1 (.slice B nk d) nk (links.flatMap ci)) (hne : (Value.slice B nk d).ownBlock ≠ some p) (hp : w.heap.size ≤ p)
    (hx : w4.heap[p]? = some (.cells z 39 (0, 0))) (hz : z = #[.int .i64 0, .slice none 0 0, .string ⟨#[]⟩] := by rfl) :
    ObjBox kind links t nk w (.pointer (some ⟨p, 0, none⟩)) (((w4.setCell ⟨p, 0, none⟩ (.int .i64 kind)).setCell ⟨p, 1, none⟩ (.slice B nk d)).setCell ⟨p, 2, none⟩ (.string t)) := by
  subst hz
  have h1 := ho.kept (set_grownL w4 p 0 (.int .i64 kind)) (.inr hne)
  have h2 := h1.kept (set_grownL _ p 1 (.slice B nk d)) (.inr hne)
  have h3 := h2.kept (set_grownL _ p 2 (.string t)) (.inr hne)
  refine ⟨p, B, d, rfl, ?_, hp, ((hb.setCell hp _).setCell hp _).setCell hp _, OwnL.obj (own_ints h3) ht⟩
  rw [heap_setCell_same _ _ 2 _ _ _ (heap_setCell_same _ _ 1 _ _ _ (heap_setCell_same _ _ 0 _ _ _ hx))]; rfl

theorem PackR.no' {ps : List PED} {w w' : World} (A : Option Addr) (c : Nat) (hc : c ≤ 9223372036854775807) (h : packB ps = false) (hb : Below w.heap.size w w') : PackR ps w (.returned (.tuple #[.slice A 0 c, .bool false])) w' :=
  ⟨hb, A, 0, c, by rw [packL_no h]; exact own_nilD _ _ _ _ _ hc, by rw [h]⟩
theorem Grow.drew1 {w : World} {base m n : Nat} {E : TypeId} {v : Value} {es : List D} (h : Grow w base E m v n es) : Grow w.drew base E m v n es := h.drewN 1

set_option maxHeartbeats 6400000 in
set_option maxRecDepth 100000 in
theorem l3Objects_any (ps : List PED) (A : Option Addr) (n c : Nat) (w : World) (lo hi : Nat) (hh : hi ≤ w.heap.size) (hs : D.sz (dPackEntrys ps) ≤ 1048576) (h : D.rd w lo hi (dPackEntrys ps) (.slice A n c)) (hd : headB ps = true) :
    Calls Try.prog 38 #[.slice A n c] w fun e w' => PackR ps w e w' := by
  have HI := Lib.hid h
  have HN := Lib.hid h.len.1
  have HSZ := Lib.hid hs
  have HDB := Lib.hid hd
  have hn16 : n ≤ 16 := by
    unfold headB at hd
    simp only [Bool.and_eq_true, decide_eq_true_eq] at hd
    have := h.len.1
    omega
  have HLB : Hid (linkB ps = true) := by
    unfold headB at hd
    simp only [Bool.and_eq_true, decide_eq_true_eq] at hd
    exact hd.1.2
  have HNIL := Lib.hid (own_nil_lit w 39 3)
  have hs0 : w.heap.size ≤ (w.alloc (.cells #[] 39)).heap.size := by simp
  clear h hs hd
  go_enter Try.func38, Try.ntmps38
  go_wp2_with fail
  go_loopw [4, 5] (fun v i wr => ∃ (k : Nat), k ≤ n ∧ i = .int .i64 k ∧ Hid (allTo (entOk ps) k = true) ∧ Grow wr w.heap.size 39 3 v k ((packTo ps k).flatMap fObject) ∧ Below w.heap.size w wr) (fun _ i _ => n - (intOf i).toNat)
  case atStart => exact ⟨0, Nat.zero_le _, rfl, rfl, Grow.nil HNIL.out, (Below.refl _ _).alloc (Nat.le_refl _) _⟩
  case round =>
    obtain ⟨k, hk, rfl, HE, hgr, hb⟩ := hrel
    obtain ⟨B6, d6, rfl, hd61, hd62, hrow⟩ := hgr.own.rd.arr_inv
    have HRW : Hid (D.rd wr w.heap.size wr.heap.size (dObjects (packTo ps k)) (.slice B6 k d6)) := by
      show D.rd _ _ _ _ _
      unfold dObjects
      rw [packTo_len]
      exact hrow
    have HGR := Lib.hid hgr
    have HB := Lib.hid hb
    have hwsz := hb.size
    clear hb hgr hrow
    by_cases hlt : k < n
    · obtain ⟨b, o, hp, A1, nk, c1, A3, mk, c3, rfl, _, hbh, hc0, hc1, hc2, hc3, ⟨-, -, hr1⟩, ⟨-, -, hr3⟩⟩ := rd_PackEntry (HI.out.below HB.out hh) hlt
      have HR1 := Lib.hid hr1
      have HR3 := Lib.hid hr3
      have hbo : Hid (baseOk ps k = true) := (allTo_iff _ _).1 HLB.out k hp
      have hbk : -1 ≤ ps[k].base ∧ ps[k].base ≤ (k : Int) - 1 := by have := hbo.out; rw [baseOk_iff, base_at hp] at this; exact this
      have hbk1 := hbk.1
      have hbk2 := hbk.2
      obtain ⟨bt, hbt⟩ : ∃ bt, bt = btxtP ps k := ⟨_, rfl⟩
      have hbt8 : bt.size ≤ 8 := by rw [hbt]; exact btxtP_size _ _
      obtain ⟨t, ht⟩ : ∃ t, t = txtP ps k := ⟨_, rfl⟩
      have ht8 : t.size ≤ 8 := by rw [ht]; exact txtP_size _ _
      obtain ⟨ok, hok⟩ : ∃ ok, ok = okD bt ps[k].ops := ⟨_, rfl⟩
      have HST : Hid (strD bt ps[k].ops = t) := by
        show _ = t
        rw [ht, txtP_eq hbo.out, ← hbt, ops_at hp]
      have HOK := Lib.hid hok
      have HTX := Lib.hid ht
      have HB0 := Lib.hid hbt
      have hsz1 := sz_PackEntry_get (xs := ps) (List.getElem_mem hp)
      rw [szL_fPackEntry, sz_ints] at hsz1
      have hnk : nk ≤ 1048576 := by have h1 := HR1.out.ints.1; have h2 := HSZ.out; omega
      have hmk : mk ≤ 9223372036854775807 := by have h1 := HR3.out.len; omega
      have hhr : hi ≤ wr.heap.size := Nat.le_trans hh hwsz
      have hbw : b < w.heap.size := by omega
      clear hr1 hr3 hbt ht hok hsz1 hbk
      go_upto_if 22 with (fail)
      go_cut [6] (fun v wx => v = .string bt ∧ wx = wr)
      case first =>
        by_cases h0 : 0 ≤ ps[k].base
        · obtain ⟨j, hj⟩ : ∃ j : Nat, ps[k].base = j := ⟨ps[k].base.toNat, by omega⟩
          have hjk : j < k := by omega
          have hv : Hid (btxtP ps k = txtP ps j) := by
            show _ = _
            unfold btxtP
            rw [base_at hp, if_pos h0, hj, Int.toNat_natCast]
          rw [hj] at hc2
          obtain ⟨b2, o2, hl2, A2, n2, c2, rfl, -, hb2h, -, -, ht2, -, -⟩ := rd_Object HRW.out hjk
          rw [packTo_get hjk] at ht2
          have ht3 : wr.cell? ⟨b2, o2 + j * 3 + 2, none⟩ = some (.string (txtP ps j)) := ht2
          clear ht2 hj
          go_wp2_with fail
          go_meet
          exact ⟨by rw [HB0.out, hv.out], rfl⟩
        · have hlt0 : ps[k].base < 0 := by omega
          have hv : Hid (btxtP ps k = ByteArray.empty) := by
            show _ = _
            unfold btxtP
            rw [base_at hp, if_neg h0]
          clear h0
          go_wp2_with fail
          go_meet
          exact ⟨by rw [HB0.out, hv.out]; rfl, rfl⟩
      case rest =>
        obtain ⟨rfl, hwc⟩ := hcut
        obtain ⟨wq, hwq⟩ : ∃ wq, wq = wc := ⟨_, rfl⟩
        subst hwc
        subst hwq
        have hbq : b < wq.heap.size := by omega
        go_wp2_with fail
        refine (specDelta_any bt A3 mk c3 ps[k].ops _ lo hi hhr (by omega) hmk HR3.out.ops).mono ?_
        rintro e w2 ⟨rfl, hb2⟩
        unfold DRes
        rw [HST.out, ← HOK.out]
        have HB2 := Lib.hid hb2
        have HB02 := Lib.hid (bel_tr HB.out (Nat.le_refl _) hb2)
        have HGR2 := Lib.hid (HGR.out.fresh hb2)
        have k0 := (hb2.cell (p := ⟨b, o + k * 4, none⟩) hbq).trans hc0
        have k1 := (hb2.cell (p := ⟨b, o + k * 4 + 1, none⟩) hbq).trans hc1
        have HR12 := Lib.hid (HR1.out.below hb2 hhr)
        have hbh2 : b < w2.heap.size := Nat.lt_of_lt_of_le hbq hb2.size
        have hs2 := hb2.size
        have hh2 : hi ≤ w2.heap.size := Nat.le_trans hhr hb2.size
        clear hb2 hc0 hc1 hc2 hc3
        have HLA : Hid ((w2.drew.alloc (.cells #[] 3)).ownsRow w2.heap.size 3 1 (.slice (some ⟨w2.heap.size, 0, none⟩) 0 0) 0 []) := Lib.hid (own_nil_lit w2.drew 3 1)
        have HRA : Hid (Ints (w2.drew.alloc (.cells #[] 3)) lo hi A1 nk ps[k].links) := Lib.hid (HR12.out.drew.ints.alloc hh2 _)
        have HEB : Hid (((w2.alloc (.cells #[] 3)).alloc (.cells #[.int .i64 0, .slice none 0 0, .string ⟨#[]⟩] 39)).drew.heap[w2.heap.size]? = some (.cells #[] 3 (0, 0))) := Lib.hid ((Below.heap_alloc (w2.alloc (.cells #[] 3)) _ _ (by simp)).trans (heap_alloc_new w2 _))
        have HXB : Hid (((w2.alloc (.cells #[] 3)).alloc (.cells #[.int .i64 0, .slice none 0 0, .string ⟨#[]⟩] 39)).drew.heap[w2.heap.size + 1]? = some (.cells #[.int .i64 0, .slice none 0 0, .string ⟨#[]⟩] 39 (0, 0))) := Lib.hid (show ((w2.alloc (.cells #[] 3)).alloc (.cells #[.int .i64 0, .slice none 0 0, .string ⟨#[]⟩] 39)).heap[w2.heap.size + 1]? = _ from heap_newn (by simp))
        have HRB : Hid (Ints ((w2.alloc (.cells #[] 3)).alloc (.cells #[.int .i64 0, .slice none 0 0, .string ⟨#[]⟩] 39)).drew lo hi A1 nk ps[k].links) := Lib.hid (((HR12.out.ints.alloc hh2 _).alloc (by simp; omega) _).drewN 1)
        have HEC : Hid (((w2.alloc (.cells #[.int .i64 0, .slice none 0 0, .string ⟨#[]⟩] 39)).alloc (.cells #[] 3)).drew.heap[w2.heap.size + 1]? = some (.cells #[] 3 (0, 0))) := Lib.hid (show ((w2.alloc (.cells #[.int .i64 0, .slice none 0 0, .string ⟨#[]⟩] 39)).alloc (.cells #[] 3)).heap[w2.heap.size + 1]? = _ from heap_newn (by simp))
        have HXC : Hid (((w2.alloc (.cells #[.int .i64 0, .slice none 0 0, .string ⟨#[]⟩] 39)).alloc (.cells #[] 3)).drew.heap[w2.heap.size]? = some (.cells #[.int .i64 0, .slice none 0 0, .string ⟨#[]⟩] 39 (0, 0))) := Lib.hid ((Below.heap_alloc (w2.alloc (.cells #[.int .i64 0, .slice none 0 0, .string ⟨#[]⟩] 39)) _ _ (by simp)).trans (heap_alloc_new w2 _))
        have HRC : Hid (Ints ((w2.alloc (.cells #[.int .i64 0, .slice none 0 0, .string ⟨#[]⟩] 39)).alloc (.cells #[] 3)).drew lo hi A1 nk ps[k].links) := Lib.hid (((HR12.out.ints.alloc hh2 _).alloc (by simp; omega) _).drewN 1)
        have hne1 : ¬ (b = w2.heap.size) := by omega
        have hne2 : ¬ (w2.heap.size = b) := by omega
        have hne3 : ¬ (b = w2.heap.size + 1) := by omega
        have hne4 : ¬ (w2.heap.size + 1 = b) := by omega
        have tok1 : True := trivial
        go_upto_region 9 with (fail)
        go_cut [9] (fun v wx => ObjBox ps[k].kind ps[k].links t nk w2 v wx)
        case first =>
          go_region_held_law (fun w' => w'.cell? ⟨b, o + k * 4, none⟩ = some (.int .i64 ps[k].kind) ∧ w'.cell? ⟨b, o + k * 4 + 1, none⟩ = some (.slice A1 nk c1)) (go_keep)
            (first
              | (have _t := tok1; refine step_app_at Try.elI HLA.out HRA.out.2 (by rw [flat_len ci 1 ci_len, HRA.out.1]) (by rw [flat_ci]; simp [Value.oneCell']) (by unfold maxLen; omega) (by omega) (by first | (simp; done) | (simp; omega)) rfl rfl rfl rfl ?_; intro v4 w4 hown4 hg4 hat4; rw [Nat.zero_add, List.nil_append] at hown4; obtain ⟨B4, d4, rfl, -, -, -⟩ := Rd.of_own hown4; have hb4 : Below w2.heap.size w2 w4 := (((Below.refl w2.heap.size w2).drew).alloc (Nat.le_refl _) (.cells #[] 3)).grown hg4 (by first | (simp; done) | (simp; omega)) (fun q hq => by have := (HLA.out.lt q hq).1; exact this); have q0 : w4.cell? ⟨b, o + k * 4, none⟩ = some (.int .i64 ps[k].kind) := (hb4.cell hbh2).trans k0; have q1 : w4.cell? ⟨b, o + k * 4 + 1, none⟩ = some (.slice A1 nk c1) := (hb4.cell hbh2).trans k1; have HBX := Lib.hid (ObjBox.after ps[k].kind t (by omega) hb4 hown4); have hl4 : b < w4.heap.size := Nat.lt_of_lt_of_le hbh2 hb4.size; clear tok1 hown4 hg4 hat4 hb4)
              | (have _t := tok1; refine step_app_at Try.elI (own_nil_heap (size := 1) HEB.out (base := w2.heap.size) (by omega)) HRB.out.2 (by rw [flat_len ci 1 ci_len, HRB.out.1]) (by rw [flat_ci]; simp [Value.oneCell']) (by unfold maxLen; omega) (by omega) (by first | (simp; done) | (simp; omega)) rfl rfl rfl rfl ?_; intro v4 w4 hown4 hg4 hat4; rw [Nat.zero_add, List.nil_append] at hown4; obtain ⟨B4, d4, rfl, -, -, -⟩ := Rd.of_own hown4; have hb4 : Below w2.heap.size w2 w4 := ((((Below.refl w2.heap.size w2).alloc (Nat.le_refl _) (.cells #[] 3)).alloc (by first | (simp; done) | (simp; omega)) (.cells #[.int .i64 0, .slice none 0 0, .string ⟨#[]⟩] 39)).drew).grown hg4 (by first | (simp; done) | (simp; omega)) (fun q hq => by have e' : w2.heap.size = q := Option.some.inj hq; omega); have q0 : w4.cell? ⟨b, o + k * 4, none⟩ = some (.int .i64 ps[k].kind) := (hb4.cell hbh2).trans k0; have q1 : w4.cell? ⟨b, o + k * 4 + 1, none⟩ = some (.slice A1 nk c1) := (hb4.cell hbh2).trans k1; have hx4 := (hg4.block (w2.heap.size + 1) (by first | (simp; done) | (simp; omega)) (fun e => by have e' : (w2.heap.size + 1) = w2.heap.size := Option.some.inj e; omega)).trans HXB.out; have hnb : (Value.slice B4 nk d4).ownBlock ≠ some (w2.heap.size + 1) := (fun e => by rw [e] at hat4; rcases hat4 with h | h <;> (have h' := Option.some.inj h; simp at h'; try omega)); have HBX := Lib.hid (ObjBox.before ps[k].kind t (by omega) hb4 hown4 hnb (by omega) hx4); have x0 := cell_of_row w4 (w2.heap.size + 1) 0 _ _ _ hx4; have x1 := cell_of_row w4 (w2.heap.size + 1) 1 _ _ _ hx4; have x2 := cell_of_row w4 (w2.heap.size + 1) 2 _ _ _ hx4; have y0 := frozen_of_row w4 (w2.heap.size + 1) 0 _ _ hx4; have y1 := frozen_of_row w4 (w2.heap.size + 1) 1 _ _ hx4; have y2 := frozen_of_row w4 (w2.heap.size + 1) 2 _ _ hx4; have hl4 : b < w4.heap.size := Nat.lt_of_lt_of_le hbh2 hb4.size; clear tok1 hown4 hg4 hat4 hb4 hx4 hnb)
              | (have _t := tok1; refine step_app_at Try.elI (own_nil_heap (size := 1) HEC.out (base := w2.heap.size) (by omega)) HRC.out.2 (by rw [flat_len ci 1 ci_len, HRC.out.1]) (by rw [flat_ci]; simp [Value.oneCell']) (by unfold maxLen; omega) (by omega) (by first | (simp; done) | (simp; omega)) rfl rfl rfl rfl ?_; intro v4 w4 hown4 hg4 hat4; rw [Nat.zero_add, List.nil_append] at hown4; obtain ⟨B4, d4, rfl, -, -, -⟩ := Rd.of_own hown4; have hb4 : Below w2.heap.size w2 w4 := ((((Below.refl w2.heap.size w2).alloc (Nat.le_refl _) (.cells #[.int .i64 0, .slice none 0 0, .string ⟨#[]⟩] 39)).alloc (by first | (simp; done) | (simp; omega)) (.cells #[] 3)).drew).grown hg4 (by first | (simp; done) | (simp; omega)) (fun q hq => by have e' : w2.heap.size + 1 = q := Option.some.inj hq; omega); have q0 : w4.cell? ⟨b, o + k * 4, none⟩ = some (.int .i64 ps[k].kind) := (hb4.cell hbh2).trans k0; have q1 : w4.cell? ⟨b, o + k * 4 + 1, none⟩ = some (.slice A1 nk c1) := (hb4.cell hbh2).trans k1; have hx4 := (hg4.block w2.heap.size (by first | (simp; done) | (simp; omega)) (fun e => by have e' : w2.heap.size = (w2.heap.size + 1) := Option.some.inj e; omega)).trans HXC.out; have hnb : (Value.slice B4 nk d4).ownBlock ≠ some w2.heap.size := (fun e => by rw [e] at hat4; rcases hat4 with h | h <;> (have h' := Option.some.inj h; simp at h'; try omega)); have HBX := Lib.hid (ObjBox.before ps[k].kind t (by omega) hb4 hown4 hnb (by omega) hx4); have x0 := cell_of_row w4 w2.heap.size 0 _ _ _ hx4; have x1 := cell_of_row w4 w2.heap.size 1 _ _ _ hx4; have x2 := cell_of_row w4 w2.heap.size 2 _ _ _ hx4; have y0 := frozen_of_row w4 w2.heap.size 0 _ _ hx4; have y1 := frozen_of_row w4 w2.heap.size 1 _ _ hx4; have y2 := frozen_of_row w4 w2.heap.size 2 _ _ hx4; have hl4 : b < w4.heap.size := Nat.lt_of_lt_of_le hbh2 hb4.size; clear tok1 hown4 hg4 hat4 hb4 hx4 hnb))
          all_goals (go_wp2_with fail; go_meet; exact HBX.out)
        case rest =>
          obtain ⟨p, B4, d4, rfl, hbx, hpw, hb24, hpart⟩ := hcut
          obtain ⟨w4, hw4⟩ : ∃ w4, w4 = wc := ⟨_, rfl⟩
          subst hw4
          have hbr4 := bel_tr HB2.out (Nat.le_refl _) hb24
          have hs4 := hb24.size
          have HB4 := Lib.hid (bel_tr HB02.out (Nat.le_refl _) hb24)
          have HGP := Lib.hid (GrowP.mk_ HGR2.out hb24 hpart (by omega))
          have hrB : Hid (D.rd w4 w2.heap.size w4.heap.size (intsD ps[k].links) (.slice B4 nk d4)) := by
            obtain ⟨F, -, k2, k3⟩ := hpart
            obtain ⟨u, hu, hr⟩ := (D.ownL.rd _ F _ k2 k3).get (j := 1) (d := intsD ps[k].links) rfl
            simp at hu
            subst hu
            exact hr
          have b0 := cell_of_row w4 p 0 _ _ _ hbx
          have b1 := cell_of_row w4 p 1 _ _ _ hbx
          have b2 := cell_of_row w4 p 2 _ _ _ hbx
          have hbl : p < w4.heap.size := World.block_lt_of_cell? _ _ b0
          have hws4 : w.heap.size ≤ w4.heap.size := by omega
          clear hb24 hbr4 hpart k0 k1
          rcases ok with _ | _
          · have hno := Lib.hid (packB_ent hp (entOk_no1 (by rw [ops_at hp, ← HB0.out]; exact HOK.out.symm)))
            go_wp2_with fail
            go_ret2
            exact PackR.no' _ _ (by omega) hno.out (HB4.out.alloc hws4 _)
          · go_wp2_with fail
            refine (objValid_any ps[k].kind ps[k].links t B4 nk d4 w4 w2.heap.size w4.heap.size (Nat.le_refl _) (by omega) hrB.out).mono ?_
            rintro e w6 ⟨rfl, hb6⟩
            have hs6 := hb6.size
            rcases hv : objB ⟨ps[k].kind, ps[k].links, t⟩ with _ | _
            · have hno := Lib.hid (packB_ent hp (entOk_no2 (by rw [obj_at hp, ← HTX.out]; exact hv)))
              have HB6 := Lib.hid (bel_tr HB4.out (Nat.le_refl _) hb6)
              clear hb6
              go_wp2_with fail
              go_ret2
              exact PackR.no' _ _ (by omega) hno.out (HB6.out.alloc (by omega) _)
            · have HEN : Hid (entOk ps k = true) := by
                show entOk ps k = true
                unfold entOk
                rw [ops_at hp, ← HB0.out, ← HOK.out, obj_at hp, ← HTX.out, hv]; rfl
              have HB6 := Lib.hid (bel_tr HB4.out (Nat.le_refl _) hb6)
              have HGP6 := Lib.hid (HGP.out.fresh hb6)
              have e0 := (hb6.cell (p := ⟨p, 0, none⟩) hbl).trans b0
              have e1 := (hb6.cell (p := ⟨p, 1, none⟩) hbl).trans b1
              have e2 := (hb6.cell (p := ⟨p, 2, none⟩) hbl).trans b2
              have hw6 : w.heap.size ≤ w6.heap.size := by omega
              have hp6 : p < w6.heap.size := by omega
              clear hb6 b0 b1 b2 hv
              obtain ⟨vs, hvs⟩ := HGP6.out
              obtain ⟨F, G, hov, hrest⟩ := hvs
              have HOV := Lib.hid hov
              have HFG : Hid (∃ F G, w6.ownsRow w.heap.size 39 3 (.slice B6 k d6) k vs ∧ D.ownL w6 ((packTo ps k).flatMap fObject) F vs ∧ D.ownL w6 (fObject ⟨ps[k].kind, ps[k].links, t⟩) G [.int .i64 ps[k].kind, .slice B4 nk d4, .string t] ∧ (F ++ G).Nodup ∧ (∀ g ∈ F ++ G, w.heap.size ≤ g ∧ g < w6.heap.size) ∧ ∀ g, (Value.slice B6 k d6).ownBlock = some g → g ∉ F ++ G) := ⟨F, G, hov, hrest⟩
              clear hov hrest
              go_wp2_with (at_builtin; go_must (refine wpList_app_at Try.elObj (m := 1) (news := [.int .i64 ps[k].kind, .slice B4 nk d4, .string t]) (HOV.out.alloc _) (rd_newn (by simp) [.int .i64 ps[k].kind, .slice B4 nk d4, .string t] 39) rfl (by simp [Value.oneCell']) (by unfold maxLen; omega) (by omega) (by simp; omega) rfl rfl rfl rfl ?_); intro v7 w7 hown7 hg7 hat7; go_must (have HGR7 := Lib.hid (GrowP.done HFG.out hown7 hg7 hat7)); go_must (have HB7 := Lib.hid (below_app (HB6.out.alloc hw6 _) (Nat.le_refl _) (by simp; omega) (HOV.out.alloc _) hg7)); clear hown7 hg7 hat7)
              go_roundw
              case rel => exact ⟨k + 1, by omega, by go_num, allTo_succ HE.out HEN.out, by rw [packTo_succ, List.flatMap_append, obj_at hp, ← HTX.out]; simpa using HGR7.out, HB7.out⟩
              case measure => simp [intOf]; omega
    · have hkn : k = n := by omega
      subst hkn
      have HY : Hid (packB ps = true) := by show packB ps = true; rw [packB_head, HDB.out, ← HN.out, HE.out]; rfl
      have HO2 := Lib.hid HGR.out.own
      go_wp2_with fail
      go_ret2
      exact ⟨HB.out, B6, k, d6, by rw [packL_yes HY.out, ← HN.out]; unfold dObjects; rw [packTo_len]; exact HO2.out, by rw [HY.out]; rfl⟩

set_option maxHeartbeats 1600000 in
set_option maxRecDepth 100000 in
theorem specPack_any (ps : List PED) (A : Option Addr) (n c : Nat) (w : World) (lo hi : Nat) (hh : hi ≤ w.heap.size) (hn : n ≤ 1048576) (hs : D.sz (dPackEntrys ps) ≤ 1048576) (h : D.rd w lo hi (dPackEntrys ps) (.slice A n c)) :
    Calls Try.prog 15 #[.slice A n c] w fun e w' => PackR ps w e w' := by
  have HI := Lib.hid h
  clear h
  rcases hv : headB ps with _ | _
  · have hno : Hid (packB ps = false) := by show packB ps = false; rw [packB_head, hv]; rfl
    go_enter Try.func15, Try.ntmps15
    go_wp2_with (go_at_call 37; refine (l3Bases_any ps _ n c _ lo hi hn HI.out).mono ?_; rintro e w' ⟨rfl, rfl⟩)
    go_ret2
    exact PackR.no' _ _ (by omega) hno.out ((Below.refl _ _).alloc (Nat.le_refl _) _)
  · have HV := Lib.hid hv
    go_enter Try.func15, Try.ntmps15
    go_wp2_with (go_at_call 37; refine (l3Bases_any ps _ n c _ lo hi hn HI.out).mono ?_; rintro e w' ⟨rfl, rfl⟩)
    refine (l3Objects_any ps A n c w lo hi hh hs HI.out HV.out).mono ?_
    rintro e w1 ⟨hb1, B, m, d, ho, rfl⟩
    have HB := Lib.hid hb1
    have HO := Lib.hid ho
    clear hb1 ho
    go_wp2_with fail
    go_ret2
    exact ⟨HB.out, B, m, d, HO.out, rfl⟩

end Go.Proofs.Ytegfdckejncbdaa
