/-
  The walks of the reference's l91Store, l91Spoilt and l92Some: drawn stores. Condition: the reader's place is small.
-/
import Derived.Test.YtnaeglfochnikaaGreatDrawP2
import Derived.Test.YtnaeglfochnikaaGreatSpecQ9
import Derived.Test.YtnaeglfochnikaaGreatStorU
namespace Go.Proofs.YtnaeglfochnikaaGreat
set_option linter.unusedVariables false
set_option linter.unusedSimpArgs false
open Go.RowKit

/-- a store whose parts lie in blocks from bo on and below to -/
def OutS (w : World) (bo tp : Nat) (v : Value) (os : List ObjD) : Prop :=
  ∃ vs F, w.ownsRow bo 52 3 v os.length vs ∧ D.ownL w (os.flatMap fObject) F vs ∧ F.Nodup ∧ (∀ g ∈ F, bo ≤ g ∧ g < tp) ∧ (∀ g, v.ownBlock = some g → g ∉ F ∧ g < tp)
section
variable {w w' : World} {bo tp : Nat} {v : Value} {os : List ObjD}
theorem OutS.kept {row : Option Nat} (h : OutS w bo tp v os) (hg : w.grownBy w' row) (ht : tp ≤ w.heap.size) (hr : ∀ g, row = some g → g < bo ∨ tp ≤ g) : OutS w' bo tp v os := by
  obtain ⟨vs, F, h1, h2, h3, h4, h5⟩ := h
  refine ⟨vs, F, h1.kept hg ?_, D.ownL.keep _ F vs (fun g hg' => hg.block g (by have := (h4 g hg').2; omega) (fun e => by have := hr g e.symm; have := h4 g hg'; omega)) h2, h3, h4, h5⟩
  rcases hv : v.ownBlock with _ | k
  · exact .inl rfl
  · refine .inr (fun e => ?_)
    have := hr k e.symm
    have := (h1.lt k hv).1
    have := (h5 k hv).2; omega
theorem OutS.of {n : Nat} (h : Grow w bo 52 3 v n (os.flatMap fObject)) (hn : n = os.length) : OutS w bo w.heap.size v os := by
  obtain ⟨vs, F, h1, h2, h3, h4, h5⟩ := h
  subst hn
  exact ⟨vs, F, h1, h2, h3, h4, fun g hg => ⟨h5 g hg, (h1.lt g hg).2⟩⟩
theorem OutS.grow (h : OutS w bo tp v os) (ht : tp ≤ w.heap.size) : Grow w bo 52 3 v os.length (os.flatMap fObject) := by
  obtain ⟨vs, F, h1, h2, h3, h4, h5⟩ := h
  exact ⟨vs, F, h1, h2, h3, fun g hg => ⟨(h4 g hg).1, Nat.lt_of_lt_of_le (h4 g hg).2 ht⟩, fun g hg => (h5 g hg).1⟩
end

/-- a store that is being drawn, the ids of its objects beside it, and the reader -/
def StB (w wr : World) (g K : Nat) (v u : Value) (os : List ObjD) (m : Nat) : Prop :=
  ∃ (bo tp : Nat) (xs : List Int), w.heap.size ≤ bo ∧ tp ≤ wr.heap.size ∧ OutS wr bo tp v os ∧ wr.ownsRow w.heap.size 3 1 u m (xs.flatMap ci) ∧ xs.length = m ∧ (∀ b, u.ownBlock = some b → b < bo ∨ tp ≤ b) ∧ DrawT w wr g K
section
variable {w wr w' : World} {g K K' m n : Nat} {v u : Value} {os : List ObjD}
theorem StB.more (h : StB w wr g K v u os m) (hK : K ≤ K') : StB w wr g K' v u os m := by
  obtain ⟨bo, tp, xs, h1, h2, h3, h4, h5, h6, h7⟩ := h
  exact ⟨bo, tp, xs, h1, h2, h3, h4, h5, h6, h7.more hK⟩
theorem StB.drw (h : StB w wr g K v u os m) : DrawT w wr g K := by
  obtain ⟨bo, tp, xs, h1, h2, h3, h4, h5, h6, h7⟩ := h
  exact h7
theorem StB.rdr (h : StB w wr g K v u os m) : Rdr wr g K := h.drw.2
theorem StB.draw (hg0 : g < w.heap.size) (h : StB w wr g K v u os m) (h' : DrawT wr w' g K') : StB w w' g K' v u os m := by
  obtain ⟨bo, tp, xs, h1, h2, h3, h4, h5, h6, h7⟩ := h
  exact ⟨bo, tp, xs, h1, Nat.le_trans h2 h'.1.size, h3.kept h'.1 h2 (fun q hq => by injection hq with hq; omega), own_kept_row h4 h'.1 hg0, h5, h6, h7.tr h'⟩
theorem StB.fresh (h : StB w wr g K v u os m) (hb : Below wr.heap.size wr w') : StB w w' g K v u os m := by
  obtain ⟨bo, tp, xs, h1, h2, h3, h4, h5, h6, h7⟩ := h
  exact ⟨bo, tp, xs, h1, Nat.le_trans h2 hb.size, h3.kept (grown_none hb none) h2 (fun q hq => by cases hq), own_below h4 hb, h5, h6, ⟨grown_tr h7.1 (grown_none hb _), h7.2.grown (grown_none hb none) (fun q hq => by cases hq)⟩⟩
theorem StB.alloc (h : StB w wr g K v u os m) (o : Obj) : StB w (wr.alloc o) g K v u os m := h.fresh ((Below.refl _ _).alloc (Nat.le_refl _) o)
theorem StB.out (h : StB w wr g K v u os m) : ∃ A c, v = .slice A os.length c ∧ D.rd wr w.heap.size wr.heap.size (dObjects os) (.slice A os.length c) := by
  obtain ⟨bo, tp, xs, h1, h2, h3, h4, h5, h6, h7⟩ := h
  obtain ⟨A, c, rfl, -, -, -⟩ := Rd.of_own (h3.choose_spec.choose_spec.1)
  exact ⟨A, c, rfl, ((h3.grow h2).own.rd).more h1 (Nat.le_refl _)⟩
theorem StB.ids (h : StB w wr g K v u os m) : ∃ A c xs, u = .slice A m c ∧ Ints wr w.heap.size wr.heap.size A m xs := by
  obtain ⟨bo, tp, xs, h1, h2, h3, h4, h5, h6, h7⟩ := h
  obtain ⟨A, c, rfl, -, -, hr⟩ := Rd.of_own h4
  exact ⟨A, c, xs, rfl, h5, hr⟩
theorem StB.grow (h : StB w wr g K v u os m) : Grow wr w.heap.size 52 3 v os.length (os.flatMap fObject) := by
  obtain ⟨bo, tp, xs, h1, h2, h3, h4, h5, h6, h7⟩ := h
  exact (h3.grow h2).low h1
/-- another store has been made -/
theorem StB.put {v' : Value} {ys : List ObjD} (h : StB w wr g K v u os m) (hb : Below wr.heap.size wr w') (hg : Grow w' wr.heap.size 52 3 v' n (ys.flatMap fObject)) (hn : n = ys.length) : StB w w' g K v' u ys m := by
  have hf := h.fresh hb
  obtain ⟨bo, tp, xs, h1, h2, h3, h4, h5, h6, h7⟩ := h
  obtain ⟨bo', tp', xs', k1, k2, k3, k4, k5, k6, k7⟩ := hf
  exact ⟨wr.heap.size, w'.heap.size, xs, h7.1.size, Nat.le_refl _, OutS.of hg hn, own_below h4 hb, h5, fun b hb' => .inl (h4.lt b hb').2, k7⟩
/-- an id is put behind the others -/
theorem StB.app (hg0 : g < w.heap.size) (h : StB w wr g K v u os m) : ∃ cs, wr.ownsRow w.heap.size 3 1 u m cs ∧ ∀ (ob : Obj) (x : Int) (u' : Value) (w3 : World), w3.ownsRow w.heap.size 3 1 u' (m + 1) (cs ++ [.int .i64 x]) → (wr.alloc ob).grownBy w3 u.ownBlock → (u'.ownBlock = u.ownBlock ∨ u'.ownBlock = some (wr.alloc ob).heap.size) → StB w w3 g K v u' os (m + 1) := by
  obtain ⟨bo, tp, xs, h1, h2, h3, h4, h5, h6, h7⟩ := h
  refine ⟨_, h4, fun ob x u' w3 hown hg hat => ?_⟩
  have hsz : (wr.alloc ob).heap.size = wr.heap.size + 1 := by simp
  have h3' := (h3.kept (World.grownBy_alloc wr ob none) h2 (fun q hq => by cases hq)).kept hg (by omega) h6
  have hrow : (wr.alloc ob).ownsRow w.heap.size 3 1 u m (xs.flatMap ci) := h4.alloc ob
  refine ⟨bo, tp, xs ++ [x], h1, by have := hg.size; omega, h3', by rw [List.flatMap_append]; exact hown, by simp [h5], fun b hb => ?_, (h7.alloc ob).own hg0 hrow hg⟩
  rcases hat with e | e
  · rw [e] at hb; exact h6 b hb
  · rw [e] at hb; injection hb with hb; right; omega
theorem StB.begin {e1 e2 : Nat} (h1 : wr.heap[e1]? = some (.cells #[] 52 (0, 0))) (h2 : wr.heap[e2]? = some (.cells #[] 3 (0, 0))) (hw1 : w.heap.size ≤ e1) (hw2 : w.heap.size ≤ e2) (hne : e1 ≠ e2) (hd : DrawT w wr g K) : StB w wr g K (.slice (some ⟨e1, 0, none⟩) 0 0) (.slice (some ⟨e2, 0, none⟩) 0 0) [] 0 := by
  have hl1 := hlt_of h1
  refine ⟨e1, e1 + 1, [], hw1, by omega, ⟨[], [], own_nil_heap h1 (Nat.le_refl _), D.ownL.nil _, List.nodup_nil, fun g hg => (by cases hg), fun g hg => ⟨fun h => (by cases h), ?_⟩⟩, own_nil_heap h2 hw2, rfl, fun b hb => ?_, hd⟩
  · injection hg with hg; dsimp only at hg; omega
  · injection hb with hb; dsimp only at hb; omega
end
/-- what reads as an object by value, in memory -/
def ObjAt (w : World) (p : Nat) (kind : Int) (B : Option Addr) (n d : Nat) (t : ByteArray) : Prop := w.heap[p]? = some (.cells #[.int .i64 kind, .slice B n d, .string t] 52 (0, 0))
theorem ObjAt.cells {w : World} {p n d : Nat} {kind : Int} {B : Option Addr} {t : ByteArray} (h : ObjAt w p kind B n d t) : w.cell? ⟨p, 0, none⟩ = some (.int .i64 kind) ∧ w.cell? ⟨p, 1, none⟩ = some (.slice B n d) ∧ w.cell? ⟨p, 2, none⟩ = some (.string t) ∧ p < w.heap.size :=
  ⟨cell_of_row w p 0 _ _ _ h, cell_of_row w p 1 _ _ _ h, cell_of_row w p 2 _ _ _ h, hlt_of h⟩
theorem ObjAt.fresh {w w' : World} {p n d : Nat} {kind : Int} {B : Option Addr} {t : ByteArray} (h : ObjAt w p kind B n d t) (hb : Below w.heap.size w w') : ObjAt w' p kind B n d t := (hb.block p (hlt_of h)).trans h
theorem OwnL.links {w : World} {lo n d : Nat} {kind : Int} {links : List Int} {t : ByteArray} {B : Option Addr} (h : OwnL w lo (fObject ⟨kind, links, t⟩) [.int .i64 kind, .slice B n d, .string t]) : D.rd w lo w.heap.size (intsD links) (.slice B n d) := by
  obtain ⟨F, h1, h2, h3⟩ := h
  have h4 := D.ownL.rd _ F _ h2 h3
  unfold fObject at h4
  obtain ⟨v, hv, hr⟩ := D.rdL.get h4 (j := 1) rfl
  simp at hv
  rw [hv]; exact hr

/-- what is left behind the draw of a store -/
def DrawnS (w w' : World) (g K q : Nat) (e : Ending) : Prop :=
  ∃ (os : List ObjD) (A : Option Addr) (c : Nat), Grow w' w.heap.size 52 3 (.slice A os.length c) os.length (os.flatMap fObject) ∧ os.length ≤ q ∧ (∀ o ∈ os, objB o = true) ∧ DrawT w w' g K ∧ e = .returned (.slice A os.length c)

set_option maxHeartbeats 6400000 in
set_option maxRecDepth 100000 in
theorem l91Store_any (g K : Nat) (w : World) (hK : K ≤ 900000) (h : Rdr w g K) :
    Calls Tryz.prog 69 #[.pointer (some ⟨g, 0, none⟩)] w fun e w' => DrawnS w w' g (K + 4500) 16 e := by
  have hg0 := h.lt
  obtain ⟨e1, he1⟩ : ∃ e1, e1 = w.heap.size := ⟨_, rfl⟩
  obtain ⟨e2, he2⟩ : ∃ e2, e2 = w.heap.size + 1 := ⟨_, rfl⟩
  obtain ⟨w1, hw1⟩ : ∃ w1, w1 = (w.alloc (.cells #[] 52)).alloc (.cells #[] 3) := ⟨_, rfl⟩
  have hx1 : w1.heap[e1]? = some (.cells #[] 52 (0, 0)) := by rw [hw1, he1]; exact (Below.heap_alloc _ _ _ (by simp)).trans (heap_alloc_new w _)
  have hx2 : w1.heap[e2]? = some (.cells #[] 3 (0, 0)) := by
    have := heap_alloc_new (w.alloc (.cells #[] 52)) (.cells #[] 3)
    rw [hw1, he2]; simpa using this
  have HB1 : Hid (StB w w1 g K (.slice (some ⟨e1, 0, none⟩) 0 0) (.slice (some ⟨e2, 0, none⟩) 0 0) [] 0) := Lib.hid (StB.begin hx1 hx2 (by omega) (by omega) (by omega) (by rw [hw1]; exact ((DrawT.refl h).alloc _).alloc _))
  clear h hx1 hx2
  go_enter Tryz.func69, Tryz.ntmps69
  go_upto_region 3 with (fail)
  rw [← hw1, ← he2, ← he1]
  clear hw1 he1 he2
  go_wp2_with fail
  refine (pick_any g K 10 _ (by omega) HB1.out.rdr).mono ?_
  rintro e w2 ⟨r2, hr2, hR2, hg2, -, rfl⟩
  have HB2 := Lib.hid (HB1.out.draw hg0 ⟨hg2, hR2⟩)
  obtain ⟨q2, rfl⟩ := Int.eq_ofNat_of_zero_le hr2.1
  have hq2 := hr2.2 (by omega)
  clear hR2 hg2 hr2
  go_upto_if 16 with (go_at_call 70; refine (pick_any g (K + 1) 12 _ (by omega) HB2.out.rdr).mono ?_; rintro e w3 ⟨r3, -, hR3, hg3, -, rfl⟩; have HB3 := Lib.hid (HB2.out.draw hg0 ⟨hg3, hR3⟩); clear hR3 hg3)
  go_cut [5] (fun v wx => ∃ q : Nat, q ≤ 20 ∧ v = .int .i64 q ∧ w3 = wx)
  case first =>
    by_cases h0 : r3 = 0
    · have hd : (r3 == 0) = true := by simp [h0]
      clear h0
      go_wp2_with fail
      go_meet
      exact ⟨20, by omega, rfl, rfl⟩
    · have hd : (r3 == 0) = false := by simp [h0]
      clear h0
      go_wp2_with fail
      go_meet
      exact ⟨q2, by omega, rfl, rfl⟩
  case rest =>
    obtain ⟨q, hq, rfl, rfl⟩ := hcut
    have HB0 := Lib.hid (HB3.out.more (show K + 1 + 1 ≤ K + 6 by omega))
    clear HB1 HB2 HB3
    go_wp2_with fail
    go_loopw [3, 4, 6] (fun v u i wr => ∃ (k m : Nat) (os : List ObjD), k ≤ q ∧ i = .int .i64 k ∧ m ≤ k ∧ os.length ≤ 16 ∧ Hid (∀ o ∈ os, objB o = true) ∧ StB w wr g (K + 6 + 200 * k) v u os m) (fun _ _ i _ => q - (intOf i).toNat)
    case atStart => exact ⟨0, 0, [], Nat.zero_le _, rfl, Nat.le_refl _, by simp, (fun _ h => (by cases h)), HB0.out⟩
    case round =>
      obtain ⟨k, m, os, hk, rfl, hmk, hos, HO, hst⟩ := hrel
      obtain ⟨A4, c4, xs, rfl, hxs⟩ := hst.ids
      have HXS := Lib.hid hxs
      have HB := Lib.hid hst
      have hwsr := hst.drw.1.size
      clear hst hxs HB0
      by_cases hlt : k < q
      · go_wp2_with fail
        refine (l91Object_any g (K + 6 + 200 * k) A4 m c4 xs wr w.heap.size wr.heap.size (by omega) (Nat.le_refl _) (by omega) hg0 HB.out.rdr HXS.out).mono ?_
        rintro e w4 ⟨kind, links, t, B, n, d, hown4, -, -, ht4, hD4, rfl⟩
        have HLK4 := Lib.hid (hown4.links)
        have HB4 := Lib.hid (HB.out.draw hg0 hD4)
        have ht63 : t.size ≤ 9223372036854775807 := by omega
        have hws4 := hD4.1.size
        obtain ⟨p, hp⟩ : ∃ p, p = w4.heap.size := ⟨_, rfl⟩
        obtain ⟨w5, hw5⟩ : ∃ w5, w5 = w4.alloc (.cells #[.int .i64 kind, .slice B n d, .string t] 52) := ⟨_, rfl⟩
        have hb5 : Below w4.heap.size w4 w5 := by rw [hw5]; exact (Below.refl _ _).alloc (Nat.le_refl _) _
        have HP5 : Hid (ObjAt w5 p kind B n d t) := by rw [hw5, hp]; exact Lib.hid (heap_alloc_new w4 _)
        have HB5 := Lib.hid (HB4.out.fresh hb5)
        have HLK5 := Lib.hid (HLK4.out.below hb5 (Nat.le_refl _))
        have hh5 : w4.heap.size ≤ w5.heap.size := hb5.size
        clear hown4 hD4 hb5
        obtain ⟨z0, z1, z2, zl⟩ := HP5.out.cells
        go_upto_region 10 with (fail)
        rw [← hw5, ← hp]
        clear hw5 hp
        go_wp2_with fail
        refine (objValid_any kind links t B n d w5 wr.heap.size w4.heap.size hh5 ht63 HLK5.out).mono ?_
        rintro e w6 ⟨rfl, hb6⟩
        have HB6 := Lib.hid (HB5.out.fresh hb6)
        have HP6 := Lib.hid (HP5.out.fresh hb6)
        have HLK6 := Lib.hid (HLK5.out.below hb6 hh5)
        have hh6 : w4.heap.size ≤ w6.heap.size := Nat.le_trans hh5 hb6.size
        clear hb6 z0 z1 z2 zl
        rcases ho : objB ⟨kind, links, t⟩ with _ | _
        · clear ho
          go_wp2_with fail
          go_roundw
          case rel => exact ⟨k + 1, m, os, by omega, by go_num, by omega, hos, HO, HB6.out.more (by omega)⟩
          case measure => simp [intOf]; omega
        have HOB := Lib.hid ho
        clear ho
        obtain ⟨A3, c3, rfl, hr3⟩ := HB6.out.out
        have HR3 := Lib.hid hr3
        clear hr3
        go_wp2_with fail
        refine (specStoreValid_any os A3 os.length c3 w6 w.heap.size w6.heap.size (Nat.le_refl _) HR3.out).mono ?_
        rintro e w7 ⟨rfl, hb7⟩
        have HB7 := Lib.hid (HB6.out.fresh hb7)
        have HP7 := Lib.hid (HP6.out.fresh hb7)
        have HLK7 := Lib.hid (HLK6.out.below hb7 hh6)
        have hh7 : w4.heap.size ≤ w7.heap.size := Nat.le_trans hh6 hb7.size
        have HR7 := Lib.hid (HR3.out.fresh hb7)
        clear hb7
        obtain ⟨z0, z1, z2, zl⟩ := HP7.out.cells
        rcases hs : storeB os with _ | _
        · clear hs
          go_wp2_with fail
          go_roundw
          case rel => exact ⟨k + 1, m, os, by omega, by go_num, by omega, hos, HO, HB7.out.more (by omega)⟩
          case measure => simp [intOf]; omega
        clear hs
        have HLN : Hid (os.length ≤ 16 → (putL os ⟨kind, links, t⟩).length ≤ 16) := Lib.hid putL_len.2.2
        have HLN2 := Lib.hid (putL_len (os := os) (o := ⟨kind, links, t⟩)).2.1
        have HO8 : Hid (∀ o ∈ putL os ⟨kind, links, t⟩, objB o = true) := Lib.hid (putL_objs HO.out HOB.out)
        have hos9 : os.length ≤ 900 := by omega
        go_wp2_with fail
        refine (l1Put_any os kind links t A3 os.length c3 B n d w7 w.heap.size w7.heap.size wr.heap.size w4.heap.size (Nat.le_refl _) hh7 hos9 HO.out HOB.out HR7.out HLK7.out).mono ?_
        rintro e w8 ⟨B8, m8, d8, hm8, hg8, hb8, rfl⟩
        have HB8 := Lib.hid (HB7.out.put hb8 hg8 hm8)
        have HB8' := Lib.hid (HB7.out.fresh hb8)
        have HP8 := Lib.hid (HP7.out.fresh hb8)
        have HLK8 := Lib.hid (HLK7.out.below hb8 hh7)
        have hh8 : w4.heap.size ≤ w8.heap.size := Nat.le_trans hh7 hb8.size
        have HM8 := Lib.hid hm8
        clear hb8 hg8 hm8 z0 z1 z2 zl
        obtain ⟨z0, z1, z2, zl⟩ := HP8.out.cells
        rcases hpb : putB os ⟨kind, links, t⟩ with _ | _
        · clear hpb
          go_wp2_with fail
          go_roundw
          case rel => exact ⟨k + 1, m, os, by omega, by go_num, by omega, hos, HO, HB8'.out.more (by omega)⟩
          case measure => simp [intOf]; omega
        clear hpb
        go_wp2_with fail
        refine (l1Of_any kind links t B n d w8 wr.heap.size w4.heap.size hh8 HOB.out HLK8.out).mono ?_
        rintro e w9 ⟨rfl, hb9⟩
        have HB9 := Lib.hid (HB8.out.fresh hb9)
        clear hb9 z0 z1 z2 zl
        obtain ⟨cs, hrow, happ⟩ := HB9.out.app hg0
        have HROW := Lib.hid hrow
        have HAPP := Lib.hid happ
        have hwb9 := HB9.out.drw.1.size
        clear hrow happ
        go_wp2_with (at_builtin; go_must (refine wpList_app_at Tryz.elI (m := 1) (HROW.out.alloc _) (rd_newn (n := w9.heap.size) rfl [.int .i64 (idB ⟨kind, links, t⟩)] 3) rfl (by simp [Value.oneCell']) (by unfold maxLen; omega) (by omega) (by simp; omega) rfl rfl rfl rfl ?_); intro v10 w10 hown10 hg10 hat10; go_must (have HB10 := Lib.hid (HAPP.out _ _ _ _ hown10 hg10 hat10)); clear hown10 hg10 hat10)
        go_roundw
        case rel => exact ⟨k + 1, m + 1, putL os ⟨kind, links, t⟩, by omega, by go_num, by omega, HLN.out hos, HO8, HB10.out.more (by omega)⟩
        case measure => simp [intOf]; omega
      · have hkq : k = q := by omega
        subst hkq
        obtain ⟨A3, c3, rfl, -⟩ := HB.out.out
        have HGR := Lib.hid HB.out.grow
        go_wp2_with fail
        go_ret
        exact ⟨os, A3, c3, HGR.out, hos, HO.out, HB.out.drw.more (by omega), rfl⟩

/-- one of the objects is put behind the others once more -/
theorem Grow.dup {w : World} {base n c k : Nat} {A : Option Addr} {os : List ObjD} (h : Grow w base 52 3 (.slice A n c) n (os.flatMap fObject)) (hn : n = os.length) (ht : ∀ o ∈ os, objB o = true) (hk : k < n) :
    ∃ (vs : List Value) (b : Nat) (hl : k < os.length) (A1 : Option Addr) (n1 c1 : Nat), A = some ⟨b, 0, none⟩ ∧ b < w.heap.size ∧ w.ownsRow base 52 3 (.slice A n c) n vs ∧ w.cell? ⟨b, k * 3, none⟩ = some (.int .i64 os[k].kind) ∧ w.cell? ⟨b, k * 3 + 1, none⟩ = some (.slice A1 n1 c1) ∧ w.cell? ⟨b, k * 3 + 2, none⟩ = some (.string os[k].text) ∧
      ∀ (ob : Obj) (v' : Value) (w' : World), w'.ownsRow base 52 3 v' (n + 1) (vs ++ [.int .i64 os[k].kind, .slice A1 n1 c1, .string os[k].text]) → (w.alloc ob).grownBy w' (Value.slice A n c).ownBlock → D.rd w' base w'.heap.size (dObjects (os ++ [os[k]])) v' := by
  have hrd : D.rd w base w.heap.size (dObjects os) (.slice A n c) := by unfold dObjects; rw [← hn]; exact h.own.rd
  obtain ⟨b, o, hl, A1, n1, c1, rfl, hb1, hb2, hc0, hc1, hc2, -, -⟩ := rd_Object hrd hk
  obtain ⟨vs, F, h1, h2, h3, h4, h5⟩ := h
  have ho : o = 0 := by
    obtain ⟨gb, e, -⟩ := own_row_at h1 (by omega)
    injection e with e; injection e
  subst ho
  simp only [Nat.zero_add] at hc0 hc1 hc2
  refine ⟨vs, b, hl, A1, n1, c1, rfl, hb2, h1, hc0, hc1, hc2, fun ob v' w' hown hg => ?_⟩
  have hvl : vs.length = n * 3 := by rw [D.ownL.length h2, flat_lenG fObject 3 fObject_len, hn]
  have hv1 : vs[k * 3 + 1]? = some (.slice A1 n1 c1) := by
    have := h1.cellAt (g := b) (k * 3 + 1) (by omega)
    rw [hc1] at this
    rw [List.getElem?_eq_getElem (by omega)]
    rw [List.getElem?_eq_getElem (by omega)] at this
    exact this.symm
  have hlt : ∀ g ∈ F, g < w.heap.size := fun g hg' => (h4 g hg').2
  have hk2 : ∀ g ∈ F, w'.heap[g]? = w.heap[g]? := fun g hg' => (hg.block g (by simp; have := hlt g hg'; omega) (fun e => h5 g e.symm hg')).trans (Below.heap_alloc _ _ _ (hlt g hg'))
  have hsz : w.heap.size ≤ w'.heap.size := by have := hg.size; simp at this; omega
  have hL : D.rdL w' base w'.heap.size (os.flatMap fObject) vs := D.ownL.rd _ F _ (fun g hg' => ⟨(h4 g hg').1, Nat.lt_of_lt_of_le (hlt g hg') hsz⟩) (D.ownL.keep _ F vs hk2 h2)
  obtain ⟨u, hu, hr⟩ := D.rdL.get hL (j := k * 3 + 1) (d := intsD os[k].links) (by rw [flat_getG fObject 3 fObject_len os k hl 1 (by omega)]; rfl)
  rw [hv1] at hu
  injection hu with hu
  subst hu
  obtain ⟨A', c', rfl, hc1', hc2', hrd'⟩ := Rd.of_own hown
  unfold maxLen at hc2'
  unfold dObjects D.rd
  have ht8 := (objB_and (ht _ (List.getElem_mem hl))).2.2.1
  refine ⟨A', c', _, by rw [List.length_append, ← hn]; rfl, by simp; omega, by omega, by rw [flat_lenG fObject 3 fObject_len], hrd'.more (Nat.le_refl _) (Nat.le_refl _), ?_⟩
  rw [List.flatMap_append]
  refine D.rdL.app hL ?_
  rw [List.flatMap_cons, List.flatMap_nil, List.append_nil]
  exact rdL_obj (kind := os[k].kind) (links := os[k].links) (text := os[k].text) hr (by omega)

/-- what is left behind the draw of a store that is only read -/
def DrawnR (w w' : World) (g K : Nat) (e : Ending) : Prop :=
  ∃ (os : List ObjD) (A : Option Addr) (n c : Nat), D.rd w' w.heap.size w'.heap.size (dObjects os) (.slice A n c) ∧ n ≤ 17 ∧ (∀ o ∈ os, objB o = true) ∧ DrawT w w' g K ∧ e = .returned (.slice A n c)
set_option maxHeartbeats 3200000 in
set_option maxRecDepth 100000 in
theorem l91Spoilt_any (g K : Nat) (w : World) (hK : K ≤ 900000) (h : Rdr w g K) :
    Calls Tryz.prog 39 #[.pointer (some ⟨g, 0, none⟩)] w fun e w' => DrawnR w w' g (K + 4510) e := by
  have hg0 := h.lt
  have HR := Lib.hid h
  clear h
  go_enter Tryz.func39, Tryz.ntmps39
  go_wp2_with fail
  refine (l91Store_any g K w hK HR.out).mono ?_
  rintro e w1 ⟨os, A, c, hgr1, hos, ho, hd1, rfl⟩
  obtain ⟨n, hn⟩ : ∃ n, n = os.length := ⟨_, rfl⟩
  rw [← hn] at hgr1 hos
  rw [← hn]
  have HN := Lib.hid hn
  have HG1 := Lib.hid hgr1
  have HO := Lib.hid ho
  have HD1 := Lib.hid hd1
  clear hgr1 ho hd1 hn
  by_cases h0 : n = 0
  · subst h0
    have HRD : Hid (D.rd w1 w.heap.size w1.heap.size (dObjects os) (.slice A 0 c)) := Lib.hid (by unfold dObjects; rw [← HN.out]; exact HG1.out.own.rd)
    go_wp2_with fail
    go_ret
    exact ⟨os, A, 0, c, HRD.out, by omega, HO.out, HD1.out.more (by omega), rfl⟩
  · have hd0 : ((n : Int) == 0) = false := by simp; omega
    have hd1 : (n == 0) = false := by simp; omega
    have hn1 : 1 ≤ n := by omega
    clear h0
    go_wp2_with fail
    refine (pick_any g (K + 4500) 20 _ (by omega) HD1.out.2).mono ?_
    rintro e w2 ⟨r2, hr2, hR2, hg2, -, rfl⟩
    have HD2 := Lib.hid (HD1.out.step hg2 hR2)
    have HG2 := Lib.hid (HG1.out.grown hg2 (fun q hq => by injection hq with hq; omega))
    have hr20 := hr2.1
    clear hR2 hg2 hr2 hd0 hd1
    by_cases h2 : 0 < r2
    · have HRD : Hid (D.rd w2 w.heap.size w2.heap.size (dObjects os) (.slice A n c)) := Lib.hid (by unfold dObjects; rw [← HN.out]; exact HG2.out.own.rd)
      go_wp2_with fail
      go_ret
      exact ⟨os, A, n, c, HRD.out, by omega, HO.out, HD2.out.more (by omega), rfl⟩
    · go_wp2_with fail
      refine (pick_any g (K + 4500 + 1) n _ (by omega) HD2.out.2).mono ?_
      rintro e w3 ⟨r3, hr3, hR3, hg3, -, rfl⟩
      have HD3 := Lib.hid (HD2.out.step hg3 hR3)
      have HG3 := HG2.out.grown hg3 (fun q hq => by injection hq with hq; omega)
      obtain ⟨k, rfl⟩ := Int.eq_ofNat_of_zero_le hr3.1
      have hkn : k < n := by have := hr3.2 (by omega); omega
      obtain ⟨vs, b, hl, A1, n1, c1, rfl, hbw, hown, hc0, hc1, hc2, hdone⟩ := HG3.dup HN.out HO.out hkn
      have HROW := Lib.hid hown
      have HDONE := Lib.hid hdone
      have HOK := Lib.hid (HO.out _ (List.getElem_mem hl))
      have hws3 := HD3.out.1.size
      obtain ⟨o1, ho1⟩ : ∃ o1, o1 = os[k] := ⟨_, rfl⟩
      have HO1 := Lib.hid ho1
      rw [← ho1] at hc0 hc2
      rw [← ho1] at HDONE HOK
      clear hR3 hg3 hr3 HG3 hown hdone ho1
      go_wp2_with (at_builtin; go_must (refine wpList_app_at Tryz.elObj (m := 1) (HROW.out.alloc _) (rd_newn (n := w3.heap.size) rfl [.int .i64 o1.kind, .slice A1 n1 c1, .string o1.text] 52) rfl (by simp [Value.oneCell']) (by unfold maxLen; omega) (by omega) (by simp; omega) rfl rfl rfl rfl ?_); intro v4 w4 hown4 hg4 hat4; have HRD := Lib.hid (HDONE.out _ _ _ hown4 hg4); obtain ⟨A4, c4, rfl, -, -, -⟩ := Rd.of_own hown4; have HD4 := Lib.hid ((HD3.out.alloc _).own hg0 (HROW.out.alloc _) hg4); clear hown4 hg4 hat4)
      go_ret
      refine ⟨os ++ [o1], A4, n + 1, c4, HRD.out, by omega, fun x hx => ?_, HD4.out.more (by omega), rfl⟩
      rcases List.mem_append.1 hx with hx | hx
      · exact HO.out x hx
      · rw [List.mem_singleton.1 hx]; exact HOK.out

end Go.Proofs.YtnaeglfochnikaaGreat
