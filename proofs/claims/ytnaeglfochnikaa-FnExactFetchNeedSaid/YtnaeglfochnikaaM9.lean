/-
  The walks of the reference's l91Store, l91Spoilt and l92Some: drawn stores. Condition: the reader's place is small.
  What is reached from ids over links, in plain Lean: a set that is closed and least; two ways to compute it. No program in sight.
-/
import Derived.Test.YtnaeglfochnikaaDrawP2
import Derived.Test.YtnaeglfochnikaaSpecQ9
import Derived.Test.YtnaeglfochnikaaStorU
import Derived.Test.YtnaeglfochnikaaM5
namespace Go.Proofs.Ytnaeglfochnikaa
set_option linter.unusedVariables false
set_option linter.unusedSimpArgs false
open Go.RowKit

/-- a store whose parts lie in blocks from bo on and below to -/
def OutS (w : World) (bo tp : Nat) (v : Value) (os : List ObjD) : Prop :=
  ∃ vs F, w.ownsRow bo 47 3 v os.length vs ∧ D.ownL w (os.flatMap fObject) F vs ∧ F.Nodup ∧ (∀ g ∈ F, bo ≤ g ∧ g < tp) ∧ (∀ g, v.ownBlock = some g → g ∉ F ∧ g < tp)
section
variable {w w' : World} {bo tp : Nat} {v : Value} {os : List ObjD}
theorem OutS.kept {row : Option Nat} (h : OutS w bo tp v os) (hg : w.grownBy w' row) (ht : tp ≤ w.heap.size) (hr : ∀ g, row = some g → g < bo ∨ tp ≤ g) : OutS w' bo tp v os := by
  obtain ⟨vs, F, h1, h2, h3, h4, h5⟩ := h
  refine ⟨vs, F, h1.kept hg ?_, D.ownL.keep _ F vs (fun g hg' => hg.block g (by have := (h4 g hg').2; omega) (fun e => by have := hr g e.symm; have := h4 g hg'; omega)) h2, h3, h4, h5⟩
  rcases hv : v.ownBlock with _ | k
  · exact .inl rfl
  · refine .inr (fun e => ?_)
    have := hr k e.symm
    have := (h1.lt k hv).1
    have := (h5 k hv).2; omega
theorem OutS.of {n : Nat} (h : Grow w bo 47 3 v n (os.flatMap fObject)) (hn : n = os.length) : OutS w bo w.heap.size v os := by
  obtain ⟨vs, F, h1, h2, h3, h4, h5⟩ := h
  subst hn
  exact ⟨vs, F, h1, h2, h3, h4, fun g hg => ⟨h5 g hg, (h1.lt g hg).2⟩⟩
theorem OutS.grow (h : OutS w bo tp v os) (ht : tp ≤ w.heap.size) : Grow w bo 47 3 v os.length (os.flatMap fObject) := by
  obtain ⟨vs, F, h1, h2, h3, h4, h5⟩ := h
  exact ⟨vs, F, h1, h2, h3, fun g hg => ⟨(h4 g hg).1, Nat.lt_of_lt_of_le (h4 g hg).2 ht⟩, fun g hg => (h5 g hg).1⟩
end

/-- a store that is being drawn, the ids of its objects beside it, and the reader -/
def StB (w wr : World) (g K : Nat) (v u : Value) (os : List ObjD) (m : Nat) : Prop :=
  ∃ (bo tp : Nat) (xs : List Int), w.heap.size ≤ bo ∧ tp ≤ wr.heap.size ∧ OutS wr bo tp v os ∧ wr.ownsRow w.heap.size 3 1 u m (xs.flatMap ci) ∧ xs.length = m ∧ (∀ b, u.ownBlock = some b → b < bo ∨ tp ≤ b) ∧ DrawT w wr g K
section
variable {w wr w' : World} {g K K' m n : Nat} {v u : Value} {os : List ObjD}
theorem StB.more (h : StB w wr g K v u os m) (hK : K ≤ K') : StB w wr g K' v u os m := by
  obtain ⟨bo, tp, xs, h1, h2, h3, h4, h5, h6, h7⟩ := h
  exact ⟨bo, tp, xs, h1, h2, h3, h4, h5, h6, h7.more hK⟩
theorem StB.drw (h : StB w wr g K v u os m) : DrawT w wr g K := by
  obtain ⟨bo, tp, xs, h1, h2, h3, h4, h5, h6, h7⟩ := h
  exact h7
theorem StB.rdr (h : StB w wr g K v u os m) : Rdr wr g K := h.drw.2
theorem StB.draw (hg0 : g < w.heap.size) (h : StB w wr g K v u os m) (h' : DrawT wr w' g K') : StB w w' g K' v u os m := by
  obtain ⟨bo, tp, xs, h1, h2, h3, h4, h5, h6, h7⟩ := h
  exact ⟨bo, tp, xs, h1, Nat.le_trans h2 h'.1.size, h3.kept h'.1 h2 (fun q hq => by injection hq with hq; omega), own_kept_row h4 h'.1 hg0, h5, h6, h7.tr h'⟩
theorem StB.fresh (h : StB w wr g K v u os m) (hb : Below wr.heap.size wr w') : StB w w' g K v u os m := by
  obtain ⟨bo, tp, xs, h1, h2, h3, h4, h5, h6, h7⟩ := h
  exact ⟨bo, tp, xs, h1, Nat.le_trans h2 hb.size, h3.kept (grown_none hb none) h2 (fun q hq => by cases hq), own_below h4 hb, h5, h6, ⟨grown_tr h7.1 (grown_none hb _), h7.2.grown (grown_none hb none) (fun q hq => by cases hq)⟩⟩
theorem StB.alloc (h : StB w wr g K v u os m) (o : Obj) : StB w (wr.alloc o) g K v u os m := h.fresh ((Below.refl _ _).alloc (Nat.le_refl _) o)
theorem StB.out (h : StB w wr g K v u os m) : ∃ A c, v = .slice A os.length c ∧ D.rd wr w.heap.size wr.heap.size (dObjects os) (.slice A os.length c) := by
  obtain ⟨bo, tp, xs, h1, h2, h3, h4, h5, h6, h7⟩ := h
  obtain ⟨A, c, rfl, -, -, -⟩ := Rd.of_own (h3.choose_spec.choose_spec.1)
  exact ⟨A, c, rfl, ((h3.grow h2).own.rd).more h1 (Nat.le_refl _)⟩
theorem StB.ids (h : StB w wr g K v u os m) : ∃ A c xs, u = .slice A m c ∧ Ints wr w.heap.size wr.heap.size A m xs := by
  obtain ⟨bo, tp, xs, h1, h2, h3, h4, h5, h6, h7⟩ := h
  obtain ⟨A, c, rfl, -, -, hr⟩ := Rd.of_own h4
  exact ⟨A, c, xs, rfl, h5, hr⟩
theorem StB.grow (h : StB w wr g K v u os m) : Grow wr w.heap.size 47 3 v os.length (os.flatMap fObject) := by
  obtain ⟨bo, tp, xs, h1, h2, h3, h4, h5, h6, h7⟩ := h
  exact (h3.grow h2).low h1
/-- another store has been made -/
theorem StB.put {v' : Value} {ys : List ObjD} (h : StB w wr g K v u os m) (hb : Below wr.heap.size wr w') (hg : Grow w' wr.heap.size 47 3 v' n (ys.flatMap fObject)) (hn : n = ys.length) : StB w w' g K v' u ys m := by
  have hf := h.fresh hb
  obtain ⟨bo, tp, xs, h1, h2, h3, h4, h5, h6, h7⟩ := h
  obtain ⟨bo', tp', xs', k1, k2, k3, k4, k5, k6, k7⟩ := hf
  exact ⟨wr.heap.size, w'.heap.size, xs, h7.1.size, Nat.le_refl _, OutS.of hg hn, own_below h4 hb, h5, fun b hb' => .inl (h4.lt b hb').2, k7⟩
/-- an id is put behind the others -/
theorem StB.app (hg0 : g < w.heap.size) (h : StB w wr g K v u os m) : ∃ cs, wr.ownsRow w.heap.size 3 1 u m cs ∧ ∀ (ob : Obj) (x : Int) (u' : Value) (w3 : World), w3.ownsRow w.heap.size 3 1 u' (m + 1) (cs ++ [.int .i64 x]) → (wr.alloc ob).grownBy w3 u.ownBlock → (u'.ownBlock = u.ownBlock ∨ u'.ownBlock = some (wr.alloc ob).heap.size) → StB w w3 g K v u' os (m + 1) := by
  obtain ⟨bo, tp, xs, h1, h2, h3, h4, h5, h6, h7⟩ := h
  refine ⟨_, h4, fun ob x u' w3 hown hg hat => ?_⟩
  have hsz : (wr.alloc ob).heap.size = wr.heap.size + 1 := by simp
  have h3' := (h3.kept (World.grownBy_alloc wr ob none) h2 (fun q hq => by cases hq)).kept hg (by omega) h6
  have hrow : (wr.alloc ob).ownsRow w.heap.size 3 1 u m (xs.flatMap ci) := h4.alloc ob
  refine ⟨bo, tp, xs ++ [x], h1, by have := hg.size; omega, h3', by rw [List.flatMap_append]; exact hown, by simp [h5], fun b hb => ?_, (h7.alloc ob).own hg0 hrow hg⟩
  rcases hat with e | e
  · rw [e] at hb; exact h6 b hb
  · rw [e] at hb; injection hb with hb; right; omega
theorem StB.begin {e1 e2 : Nat} (h1 : wr.heap[e1]? = some (.cells #[] 47 (0, 0))) (h2 : wr.heap[e2]? = some (.cells #[] 3 (0, 0))) (hw1 : w.heap.size ≤ e1) (hw2 : w.heap.size ≤ e2) (hne : e1 ≠ e2) (hd : DrawT w wr g K) : StB w wr g K (.slice (some ⟨e1, 0, none⟩) 0 0) (.slice (some ⟨e2, 0, none⟩) 0 0) [] 0 := by
  have hl1 := hlt_of h1
  refine ⟨e1, e1 + 1, [], hw1, by omega, ⟨[], [], own_nil_heap h1 (Nat.le_refl _), D.ownL.nil _, List.nodup_nil, fun g hg => (by cases hg), fun g hg => ⟨fun h => (by cases h), ?_⟩⟩, own_nil_heap h2 hw2, rfl, fun b hb => ?_, hd⟩
  · injection hg with hg; dsimp only at hg; omega
  · injection hb with hb; dsimp only at hb; omega
end
/-- what reads as an object by value, in memory -/
def ObjAt (w : World) (p : Nat) (kind : Int) (B : Option Addr) (n d : Nat) (t : ByteArray) : Prop := w.heap[p]? = some (.cells #[.int .i64 kind, .slice B n d, .string t] 47 (0, 0))
theorem ObjAt.cells {w : World} {p n d : Nat} {kind : Int} {B : Option Addr} {t : ByteArray} (h : ObjAt w p kind B n d t) : w.cell? ⟨p, 0, none⟩ = some (.int .i64 kind) ∧ w.cell? ⟨p, 1, none⟩ = some (.slice B n d) ∧ w.cell? ⟨p, 2, none⟩ = some (.string t) ∧ p < w.heap.size :=
  ⟨cell_of_row w p 0 _ _ _ h, cell_of_row w p 1 _ _ _ h, cell_of_row w p 2 _ _ _ h, hlt_of h⟩
theorem ObjAt.fresh {w w' : World} {p n d : Nat} {kind : Int} {B : Option Addr} {t : ByteArray} (h : ObjAt w p kind B n d t) (hb : Below w.heap.size w w') : ObjAt w' p kind B n d t := (hb.block p (hlt_of h)).trans h
theorem OwnL.links {w : World} {lo n d : Nat} {kind : Int} {links : List Int} {t : ByteArray} {B : Option Addr} (h : OwnL w lo (fObject ⟨kind, links, t⟩) [.int .i64 kind, .slice B n d, .string t]) : D.rd w lo w.heap.size (intsD links) (.slice B n d) := by
  obtain ⟨F, h1, h2, h3⟩ := h
  have h4 := D.ownL.rd _ F _ h2 h3
  unfold fObject at h4
  obtain ⟨v, hv, hr⟩ := D.rdL.get h4 (j := 1) rfl
  simp at hv
  rw [hv]; exact hr

/-- what is left behind the draw of a store -/
def DrawnS (w w' : World) (g K q : Nat) (e : Ending) : Prop :=
  ∃ (os : List ObjD) (A : Option Addr) (c : Nat), Grow w' w.heap.size 47 3 (.slice A os.length c) os.length (os.flatMap fObject) ∧ os.length ≤ q ∧ (∀ o ∈ os, objB o = true) ∧ DrawT w w' g K ∧ e = .returned (.slice A os.length c)

set_option maxHeartbeats 6400000 in
set_option maxRecDepth 100000 in
theorem l91Store_any (g K : Nat) (w : World) (hK : K ≤ 900000) (h : Rdr w g K) :
    Calls Try.prog 53 #[.pointer (some ⟨g, 0, none⟩)] w fun e w' => DrawnS w w' g (K + 4500) 16 e := by
  have hg0 := h.lt
  obtain ⟨e1, he1⟩ : ∃ e1, e1 = w.heap.size := ⟨_, rfl⟩
  obtain ⟨e2, he2⟩ : ∃ e2, e2 = w.heap.size + 1 := ⟨_, rfl⟩
  obtain ⟨w1, hw1⟩ : ∃ w1, w1 = (w.alloc (.cells #[] 47)).alloc (.cells #[] 3) := ⟨_, rfl⟩
  have hx1 : w1.heap[e1]? = some (.cells #[] 47 (0, 0)) := by rw [hw1, he1]; exact (Below.heap_alloc _ _ _ (by simp)).trans (heap_alloc_new w _)
  have hx2 : w1.heap[e2]? = some (.cells #[] 3 (0, 0)) := by
    have := heap_alloc_new (w.alloc (.cells #[] 47)) (.cells #[] 3)
    rw [hw1, he2]; simpa using this
  have HB1 : Hid (StB w w1 g K (.slice (some ⟨e1, 0, none⟩) 0 0) (.slice (some ⟨e2, 0, none⟩) 0 0) [] 0) := Lib.hid (StB.begin hx1 hx2 (by omega) (by omega) (by omega) (by rw [hw1]; exact ((DrawT.refl h).alloc _).alloc _))
  clear h hx1 hx2
  go_enter Try.func53, Try.ntmps53
  go_upto_region 3 with (fail)
  rw [← hw1, ← he2, ← he1]
  clear hw1 he1 he2
  go_wp2_with fail
  refine (pick_any g K 10 _ (by omega) HB1.out.rdr).mono ?_
  rintro e w2 ⟨r2, hr2, hR2, hg2, -, rfl⟩
  have HB2 := Lib.hid (HB1.out.draw hg0 ⟨hg2, hR2⟩)
  obtain ⟨q2, rfl⟩ := Int.eq_ofNat_of_zero_le hr2.1
  have hq2 := hr2.2 (by omega)
  clear hR2 hg2 hr2
  go_upto_if 16 with (go_at_call 54; refine (pick_any g (K + 1) 12 _ (by omega) HB2.out.rdr).mono ?_; rintro e w3 ⟨r3, -, hR3, hg3, -, rfl⟩; have HB3 := Lib.hid (HB2.out.draw hg0 ⟨hg3, hR3⟩); clear hR3 hg3)
  go_cut [5] (fun v wx => ∃ q : Nat, q ≤ 20 ∧ v = .int .i64 q ∧ w3 = wx)
  case first =>
    by_cases h0 : r3 = 0
    · have hd : (r3 == 0) = true := by simp [h0]
      clear h0
      go_wp2_with fail
      go_meet
      exact ⟨20, by omega, rfl, rfl⟩
    · have hd : (r3 == 0) = false := by simp [h0]
      clear h0
      go_wp2_with fail
      go_meet
      exact ⟨q2, by omega, rfl, rfl⟩
  case rest =>
    obtain ⟨q, hq, rfl, rfl⟩ := hcut
    have HB0 := Lib.hid (HB3.out.more (show K + 1 + 1 ≤ K + 6 by omega))
    clear HB1 HB2 HB3
    go_wp2_with fail
    go_loopw [3, 4, 6] (fun v u i wr => ∃ (k m : Nat) (os : List ObjD), k ≤ q ∧ i = .int .i64 k ∧ m ≤ k ∧ os.length ≤ 16 ∧ Hid (∀ o ∈ os, objB o = true) ∧ StB w wr g (K + 6 + 200 * k) v u os m) (fun _ _ i _ => q - (intOf i).toNat)
    case atStart => exact ⟨0, 0, [], Nat.zero_le _, rfl, Nat.le_refl _, by simp, (fun _ h => (by cases h)), HB0.out⟩
    case round =>
      obtain ⟨k, m, os, hk, rfl, hmk, hos, HO, hst⟩ := hrel
      obtain ⟨A4, c4, xs, rfl, hxs⟩ := hst.ids
      have HXS := Lib.hid hxs
      have HB := Lib.hid hst
      have hwsr := hst.drw.1.size
      clear hst hxs HB0
      by_cases hlt : k < q
      · go_wp2_with fail
        refine (l91Object_any g (K + 6 + 200 * k) A4 m c4 xs wr w.heap.size wr.heap.size (by omega) (Nat.le_refl _) (by omega) hg0 HB.out.rdr HXS.out).mono ?_
        rintro e w4 ⟨kind, links, t, B, n, d, hown4, -, -, ht4, hD4, rfl⟩
        have HLK4 := Lib.hid (hown4.links)
        have HB4 := Lib.hid (HB.out.draw hg0 hD4)
        have ht63 : t.size ≤ 9223372036854775807 := by omega
        have hws4 := hD4.1.size
        obtain ⟨p, hp⟩ : ∃ p, p = w4.heap.size := ⟨_, rfl⟩
        obtain ⟨w5, hw5⟩ : ∃ w5, w5 = w4.alloc (.cells #[.int .i64 kind, .slice B n d, .string t] 47) := ⟨_, rfl⟩
        have hb5 : Below w4.heap.size w4 w5 := by rw [hw5]; exact (Below.refl _ _).alloc (Nat.le_refl _) _
        have HP5 : Hid (ObjAt w5 p kind B n d t) := by rw [hw5, hp]; exact Lib.hid (heap_alloc_new w4 _)
        have HB5 := Lib.hid (HB4.out.fresh hb5)
        have HLK5 := Lib.hid (HLK4.out.below hb5 (Nat.le_refl _))
        have hh5 : w4.heap.size ≤ w5.heap.size := hb5.size
        clear hown4 hD4 hb5
        obtain ⟨z0, z1, z2, zl⟩ := HP5.out.cells
        go_upto_region 10 with (fail)
        rw [← hw5, ← hp]
        clear hw5 hp
        go_wp2_with fail
        refine (objValid_any kind links t B n d w5 wr.heap.size w4.heap.size hh5 ht63 HLK5.out).mono ?_
        rintro e w6 ⟨rfl, hb6⟩
        have HB6 := Lib.hid (HB5.out.fresh hb6)
        have HP6 := Lib.hid (HP5.out.fresh hb6)
        have HLK6 := Lib.hid (HLK5.out.below hb6 hh5)
        have hh6 : w4.heap.size ≤ w6.heap.size := Nat.le_trans hh5 hb6.size
        clear hb6 z0 z1 z2 zl
        rcases ho : objB ⟨kind, links, t⟩ with _ | _
        · clear ho
          go_wp2_with fail
          go_roundw
          case rel => exact ⟨k + 1, m, os, by omega, by go_num, by omega, hos, HO, HB6.out.more (by omega)⟩
          case measure => simp [intOf]; omega
        have HOB := Lib.hid ho
        clear ho
        obtain ⟨A3, c3, rfl, hr3⟩ := HB6.out.out
        have HR3 := Lib.hid hr3
        clear hr3
        go_wp2_with fail
        refine (specStoreValid_any os A3 os.length c3 w6 w.heap.size w6.heap.size (Nat.le_refl _) HR3.out).mono ?_
        rintro e w7 ⟨rfl, hb7⟩
        have HB7 := Lib.hid (HB6.out.fresh hb7)
        have HP7 := Lib.hid (HP6.out.fresh hb7)
        have HLK7 := Lib.hid (HLK6.out.below hb7 hh6)
        have hh7 : w4.heap.size ≤ w7.heap.size := Nat.le_trans hh6 hb7.size
        have HR7 := Lib.hid (HR3.out.fresh hb7)
        clear hb7
        obtain ⟨z0, z1, z2, zl⟩ := HP7.out.cells
        rcases hs : storeB os with _ | _
        · clear hs
          go_wp2_with fail
          go_roundw
          case rel => exact ⟨k + 1, m, os, by omega, by go_num, by omega, hos, HO, HB7.out.more (by omega)⟩
          case measure => simp [intOf]; omega
        clear hs
        have HLN : Hid (os.length ≤ 16 → (putL os ⟨kind, links, t⟩).length ≤ 16) := Lib.hid putL_len.2.2
        have HLN2 := Lib.hid (putL_len (os := os) (o := ⟨kind, links, t⟩)).2.1
        have HO8 : Hid (∀ o ∈ putL os ⟨kind, links, t⟩, objB o = true) := Lib.hid (putL_objs HO.out HOB.out)
        have hos9 : os.length ≤ 900 := by omega
        go_wp2_with fail
        refine (l1Put_any os kind links t A3 os.length c3 B n d w7 w.heap.size w7.heap.size wr.heap.size w4.heap.size (Nat.le_refl _) hh7 hos9 HO.out HOB.out HR7.out HLK7.out).mono ?_
        rintro e w8 ⟨B8, m8, d8, hm8, hg8, hb8, rfl⟩
        have HB8 := Lib.hid (HB7.out.put hb8 hg8 hm8)
        have HB8' := Lib.hid (HB7.out.fresh hb8)
        have HP8 := Lib.hid (HP7.out.fresh hb8)
        have HLK8 := Lib.hid (HLK7.out.below hb8 hh7)
        have hh8 : w4.heap.size ≤ w8.heap.size := Nat.le_trans hh7 hb8.size
        have HM8 := Lib.hid hm8
        clear hb8 hg8 hm8 z0 z1 z2 zl
        obtain ⟨z0, z1, z2, zl⟩ := HP8.out.cells
        rcases hpb : putB os ⟨kind, links, t⟩ with _ | _
        · clear hpb
          go_wp2_with fail
          go_roundw
          case rel => exact ⟨k + 1, m, os, by omega, by go_num, by omega, hos, HO, HB8'.out.more (by omega)⟩
          case measure => simp [intOf]; omega
        clear hpb
        go_wp2_with fail
        refine (l1Of_any kind links t B n d w8 wr.heap.size w4.heap.size hh8 HOB.out HLK8.out).mono ?_
        rintro e w9 ⟨rfl, hb9⟩
        have HB9 := Lib.hid (HB8.out.fresh hb9)
        clear hb9 z0 z1 z2 zl
        obtain ⟨cs, hrow, happ⟩ := HB9.out.app hg0
        have HROW := Lib.hid hrow
        have HAPP := Lib.hid happ
        have hwb9 := HB9.out.drw.1.size
        clear hrow happ
        go_wp2_with (at_builtin; go_must (refine wpList_app_at Try.elI (m := 1) (HROW.out.alloc _) (rd_newn (n := w9.heap.size) rfl [.int .i64 (idB ⟨kind, links, t⟩)] 3) rfl (by simp [Value.oneCell']) (by unfold maxLen; omega) (by omega) (by simp; omega) rfl rfl rfl rfl ?_); intro v10 w10 hown10 hg10 hat10; go_must (have HB10 := Lib.hid (HAPP.out _ _ _ _ hown10 hg10 hat10)); clear hown10 hg10 hat10)
        go_roundw
        case rel => exact ⟨k + 1, m + 1, putL os ⟨kind, links, t⟩, by omega, by go_num, by omega, HLN.out hos, HO8, HB10.out.more (by omega)⟩
        case measure => simp [intOf]; omega
      · have hkq : k = q := by omega
        subst hkq
        obtain ⟨A3, c3, rfl, -⟩ := HB.out.out
        have HGR := Lib.hid HB.out.grow
        go_wp2_with fail
        go_ret
        exact ⟨os, A3, c3, HGR.out, hos, HO.out, HB.out.drw.more (by omega), rfl⟩

/-- one of the objects is put behind the others once more -/
theorem Grow.dup {w : World} {base n c k : Nat} {A : Option Addr} {os : List ObjD} (h : Grow w base 47 3 (.slice A n c) n (os.flatMap fObject)) (hn : n = os.length) (ht : ∀ o ∈ os, objB o = true) (hk : k < n) :
    ∃ (vs : List Value) (b : Nat) (hl : k < os.length) (A1 : Option Addr) (n1 c1 : Nat), A = some ⟨b, 0, none⟩ ∧ b < w.heap.size ∧ w.ownsRow base 47 3 (.slice A n c) n vs ∧ w.cell? ⟨b, k * 3, none⟩ = some (.int .i64 os[k].kind) ∧ w.cell? ⟨b, k * 3 + 1, none⟩ = some (.slice A1 n1 c1) ∧ w.cell? ⟨b, k * 3 + 2, none⟩ = some (.string os[k].text) ∧
      ∀ (ob : Obj) (v' : Value) (w' : World), w'.ownsRow base 47 3 v' (n + 1) (vs ++ [.int .i64 os[k].kind, .slice A1 n1 c1, .string os[k].text]) → (w.alloc ob).grownBy w' (Value.slice A n c).ownBlock → D.rd w' base w'.heap.size (dObjects (os ++ [os[k]])) v' := by
  have hrd : D.rd w base w.heap.size (dObjects os) (.slice A n c) := by unfold dObjects; rw [← hn]; exact h.own.rd
  obtain ⟨b, o, hl, A1, n1, c1, rfl, hb1, hb2, hc0, hc1, hc2, -, -⟩ := rd_Object hrd hk
  obtain ⟨vs, F, h1, h2, h3, h4, h5⟩ := h
  have ho : o = 0 := by
    obtain ⟨gb, e, -⟩ := own_row_at h1 (by omega)
    injection e with e; injection e
  subst ho
  simp only [Nat.zero_add] at hc0 hc1 hc2
  refine ⟨vs, b, hl, A1, n1, c1, rfl, hb2, h1, hc0, hc1, hc2, fun ob v' w' hown hg => ?_⟩
  have hvl : vs.length = n * 3 := by rw [D.ownL.length h2, flat_lenG fObject 3 fObject_len, hn]
  have hv1 : vs[k * 3 + 1]? = some (.slice A1 n1 c1) := by
    have := h1.cellAt (g := b) (k * 3 + 1) (by omega)
    rw [hc1] at this
    rw [List.getElem?_eq_getElem (by omega)]
    rw [List.getElem?_eq_getElem (by omega)] at this
    exact this.symm
  have hlt : ∀ g ∈ F, g < w.heap.size := fun g hg' => (h4 g hg').2
  have hk2 : ∀ g ∈ F, w'.heap[g]? = w.heap[g]? := fun g hg' => (hg.block g (by simp; have := hlt g hg'; omega) (fun e => h5 g e.symm hg')).trans (Below.heap_alloc _ _ _ (hlt g hg'))
  have hsz : w.heap.size ≤ w'.heap.size := by have := hg.size; simp at this; omega
  have hL : D.rdL w' base w'.heap.size (os.flatMap fObject) vs := D.ownL.rd _ F _ (fun g hg' => ⟨(h4 g hg').1, Nat.lt_of_lt_of_le (hlt g hg') hsz⟩) (D.ownL.keep _ F vs hk2 h2)
  obtain ⟨u, hu, hr⟩ := D.rdL.get hL (j := k * 3 + 1) (d := intsD os[k].links) (by rw [flat_getG fObject 3 fObject_len os k hl 1 (by omega)]; rfl)
  rw [hv1] at hu
  injection hu with hu
  subst hu
  obtain ⟨A', c', rfl, hc1', hc2', hrd'⟩ := Rd.of_own hown
  unfold maxLen at hc2'
  unfold dObjects D.rd
  have ht8 := (objB_and (ht _ (List.getElem_mem hl))).2.2.1
  refine ⟨A', c', _, by rw [List.length_append, ← hn]; rfl, by simp; omega, by omega, by rw [flat_lenG fObject 3 fObject_len], hrd'.more (Nat.le_refl _) (Nat.le_refl _), ?_⟩
  rw [List.flatMap_append]
  refine D.rdL.app hL ?_
  rw [List.flatMap_cons, List.flatMap_nil, List.append_nil]
  exact rdL_obj (kind := os[k].kind) (links := os[k].links) (text := os[k].text) hr (by omega)

/-- what is left behind the draw of a store that is only read -/
def DrawnR (w w' : World) (g K : Nat) (e : Ending) : Prop :=
  ∃ (os : List ObjD) (A : Option Addr) (n c : Nat), D.rd w' w.heap.size w'.heap.size (dObjects os) (.slice A n c) ∧ n ≤ 17 ∧ (∀ o ∈ os, objB o = true) ∧ DrawT w w' g K ∧ e = .returned (.slice A n c)
set_option maxHeartbeats 3200000 in
set_option maxRecDepth 100000 in
theorem l91Spoilt_any (g K : Nat) (w : World) (hK : K ≤ 900000) (h : Rdr w g K) :
    Calls Try.prog 37 #[.pointer (some ⟨g, 0, none⟩)] w fun e w' => DrawnR w w' g (K + 4510) e := by
  have hg0 := h.lt
  have HR := Lib.hid h
  clear h
  go_enter Try.func37, Try.ntmps37
  go_wp2_with fail
  refine (l91Store_any g K w hK HR.out).mono ?_
  rintro e w1 ⟨os, A, c, hgr1, hos, ho, hd1, rfl⟩
  obtain ⟨n, hn⟩ : ∃ n, n = os.length := ⟨_, rfl⟩
  rw [← hn] at hgr1 hos
  rw [← hn]
  have HN := Lib.hid hn
  have HG1 := Lib.hid hgr1
  have HO := Lib.hid ho
  have HD1 := Lib.hid hd1
  clear hgr1 ho hd1 hn
  by_cases h0 : n = 0
  · subst h0
    have HRD : Hid (D.rd w1 w.heap.size w1.heap.size (dObjects os) (.slice A 0 c)) := Lib.hid (by unfold dObjects; rw [← HN.out]; exact HG1.out.own.rd)
    go_wp2_with fail
    go_ret
    exact ⟨os, A, 0, c, HRD.out, by omega, HO.out, HD1.out.more (by omega), rfl⟩
  · have hd0 : ((n : Int) == 0) = false := by simp; omega
    have hd1 : (n == 0) = false := by simp; omega
    have hn1 : 1 ≤ n := by omega
    clear h0
    go_wp2_with fail
    refine (pick_any g (K + 4500) 20 _ (by omega) HD1.out.2).mono ?_
    rintro e w2 ⟨r2, hr2, hR2, hg2, -, rfl⟩
    have HD2 := Lib.hid (HD1.out.step hg2 hR2)
    have HG2 := Lib.hid (HG1.out.grown hg2 (fun q hq => by injection hq with hq; omega))
    have hr20 := hr2.1
    clear hR2 hg2 hr2 hd0 hd1
    by_cases h2 : 0 < r2
    · have HRD : Hid (D.rd w2 w.heap.size w2.heap.size (dObjects os) (.slice A n c)) := Lib.hid (by unfold dObjects; rw [← HN.out]; exact HG2.out.own.rd)
      go_wp2_with fail
      go_ret
      exact ⟨os, A, n, c, HRD.out, by omega, HO.out, HD2.out.more (by omega), rfl⟩
    · go_wp2_with fail
      refine (pick_any g (K + 4500 + 1) n _ (by omega) HD2.out.2).mono ?_
      rintro e w3 ⟨r3, hr3, hR3, hg3, -, rfl⟩
      have HD3 := Lib.hid (HD2.out.step hg3 hR3)
      have HG3 := HG2.out.grown hg3 (fun q hq => by injection hq with hq; omega)
      obtain ⟨k, rfl⟩ := Int.eq_ofNat_of_zero_le hr3.1
      have hkn : k < n := by have := hr3.2 (by omega); omega
      obtain ⟨vs, b, hl, A1, n1, c1, rfl, hbw, hown, hc0, hc1, hc2, hdone⟩ := HG3.dup HN.out HO.out hkn
      have HROW := Lib.hid hown
      have HDONE := Lib.hid hdone
      have HOK := Lib.hid (HO.out _ (List.getElem_mem hl))
      have hws3 := HD3.out.1.size
      obtain ⟨o1, ho1⟩ : ∃ o1, o1 = os[k] := ⟨_, rfl⟩
      have HO1 := Lib.hid ho1
      rw [← ho1] at hc0 hc2
      rw [← ho1] at HDONE HOK
      clear hR3 hg3 hr3 HG3 hown hdone ho1
      go_wp2_with (at_builtin; go_must (refine wpList_app_at Try.elObj (m := 1) (HROW.out.alloc _) (rd_newn (n := w3.heap.size) rfl [.int .i64 o1.kind, .slice A1 n1 c1, .string o1.text] 47) rfl (by simp [Value.oneCell']) (by unfold maxLen; omega) (by omega) (by simp; omega) rfl rfl rfl rfl ?_); intro v4 w4 hown4 hg4 hat4; have HRD := Lib.hid (HDONE.out _ _ _ hown4 hg4); obtain ⟨A4, c4, rfl, -, -, -⟩ := Rd.of_own hown4; have HD4 := Lib.hid ((HD3.out.alloc _).own hg0 (HROW.out.alloc _) hg4); clear hown4 hg4 hat4)
      go_ret
      refine ⟨os ++ [o1], A4, n + 1, c4, HRD.out, by omega, fun x hx => ?_, HD4.out.more (by omega), rfl⟩
      rcases List.mem_append.1 hx with hx | hx
      · exact HO.out x hx
      · rw [List.mem_singleton.1 hx]; exact HOK.out

end Go.Proofs.Ytnaeglfochnikaa

namespace Go.Proofs.Ytnaeglfochnikaa
set_option linter.unusedVariables false
set_option linter.unusedSimpArgs false
open Go.RowKit

/-- S is what is reached from the ids: it has them, it is closed under links, and it is least -/
def IsReach (M : Int → Option ObjD) (frm S : List Int) : Prop :=
  (∀ n ∈ frm, n ∈ S) ∧ (∀ n ∈ S, ∀ o, M n = some o → ∀ l ∈ o.links, l ∈ S) ∧
  ∀ P : Int → Prop, (∀ n ∈ frm, P n) → (∀ n o, P n → M n = some o → ∀ l ∈ o.links, P l) → ∀ n ∈ S, P n
theorem IsReach.mem {M : Int → Option ObjD} {frm S T : List Int} (h : IsReach M frm S) (k : IsReach M frm T) (n : Int) : n ∈ S ↔ n ∈ T :=
  ⟨fun hn => h.2.2 (· ∈ T) k.1 (fun m o hm ho l hl => k.2.1 m hm o ho l hl) n hn, fun hn => k.2.2 (· ∈ S) h.1 (fun m o hm ho l hl => h.2.1 m hm o ho l hl) n hn⟩

/-- the ids below 991 that a list has, in order, each once -/
def srtR (xs : List Int) : List Int := ((List.range 991).map fun (i : Nat) => (i : Int)).filter fun i => decide (i ∈ xs)
theorem srtR_mem (xs : List Int) (n : Int) : n ∈ srtR xs ↔ (0 ≤ n ∧ n ≤ 990) ∧ n ∈ xs := by
  unfold srtR
  simp only [List.mem_filter, List.mem_map, List.mem_range, decide_eq_true_eq]
  constructor
  · rintro ⟨⟨i, hi, rfl⟩, h⟩; exact ⟨⟨by omega, by omega⟩, h⟩
  · rintro ⟨⟨h1, h2⟩, h⟩; exact ⟨⟨n.toNat, by omega, by omega⟩, h⟩
theorem srtR_asc (xs : List Int) : (srtR xs).Pairwise (· < ·) := by
  unfold srtR
  refine List.Pairwise.filter _ ?_
  rw [List.pairwise_map]
  exact List.Pairwise.imp (fun h => by omega) List.pairwise_lt_range
theorem asc_extI {a b : List Int} (ha : a.Pairwise (· < ·)) (hb : b.Pairwise (· < ·)) (h : ∀ n, n ∈ a ↔ n ∈ b) : a = b := by
  induction a generalizing b with
  | nil =>
    cases b with
    | nil => rfl
    | cons y b => exact absurd ((h y).2 List.mem_cons_self) (by simp)
  | cons x a ih =>
    cases b with
    | nil => exact absurd ((h x).1 List.mem_cons_self) (by simp)
    | cons y b =>
      obtain ⟨ha1, ha2⟩ := List.pairwise_cons.1 ha
      obtain ⟨hb1, hb2⟩ := List.pairwise_cons.1 hb
      have hxy : x = y := by
        rcases List.mem_cons.1 ((h x).1 List.mem_cons_self) with e | h1
        · exact e
        · rcases List.mem_cons.1 ((h y).2 List.mem_cons_self) with e | h2
          · exact e.symm
          · have := hb1 x h1; have := ha1 y h2; omega
      subst hxy
      rw [ih ha2 hb2 fun n => ?_]
      constructor
      · intro hn
        rcases List.mem_cons.1 ((h n).1 (List.mem_cons_of_mem _ hn)) with rfl | h1
        · have := ha1 n hn; omega
        · exact h1
      · intro hn
        rcases List.mem_cons.1 ((h n).2 (List.mem_cons_of_mem _ hn)) with rfl | h1
        · have := hb1 n hn; omega
        · exact h1
theorem srtR_congr {xs ys : List Int} (h : ∀ n, n ∈ xs ↔ n ∈ ys) : srtR xs = srtR ys :=
  asc_extI (srtR_asc _) (srtR_asc _) fun n => by rw [srtR_mem, srtR_mem, h]

open Classical in
/-- what is reached, in order (nothing, where no list holds it) -/
noncomputable def reaL (M : Int → Option ObjD) (frm : List Int) : List Int := if h : ∃ S, IsReach M frm S then srtR h.choose else []
theorem reaL_of {M : Int → Option ObjD} {frm S : List Int} (h : IsReach M frm S) : reaL M frm = srtR S := by
  have he : ∃ S, IsReach M frm S := ⟨S, h⟩
  unfold reaL
  rw [dif_pos he]
  exact srtR_congr fun n => he.choose_spec.mem h n
theorem reaL_asc (M : Int → Option ObjD) (frm : List Int) : (reaL M frm).Pairwise (· < ·) := by
  unfold reaL
  split
  · exact srtR_asc _
  · exact List.Pairwise.nil

/-- links that are not there yet are put behind -/
def addTo (out ls : List Int) (j : Nat) : List Int := (ls.take j).foldl (fun o l => if l ∈ o then o else o ++ [l]) out
theorem addTo_zero (out ls : List Int) : addTo out ls 0 = out := rfl
theorem addTo_succ {out ls : List Int} {j : Nat} (h : j < ls.length) : addTo out ls (j + 1) = if ls[j] ∈ addTo out ls j then addTo out ls j else addTo out ls j ++ [ls[j]] := by
  unfold addTo
  rw [List.take_succ_eq_append_getElem h, List.foldl_append]; rfl
/-- what a worklist holds while it is worked off: i of its ids are done -/
def WorkI (M : Int → Option ObjD) (frm out : List Int) (i : Nat) : Prop :=
  out.Nodup ∧ (∀ n ∈ out, 0 ≤ n ∧ n ≤ 990) ∧ (∀ n ∈ frm, n ∈ out) ∧
  (∀ P : Int → Prop, (∀ n ∈ frm, P n) → (∀ n o, P n → M n = some o → ∀ l ∈ o.links, P l) → ∀ n ∈ out, P n) ∧
  ∀ j (h : j < out.length), j < i → ∀ o, M out[j] = some o → ∀ l ∈ o.links, l ∈ out
theorem nodup_lt : ∀ (n : Nat) (l : List Nat), l.Nodup → (∀ x ∈ l, x < n) → l.length ≤ n
  | 0, l, _, h => by
    cases l with
    | nil => exact Nat.le_refl _
    | cons x l => exact absurd (h x List.mem_cons_self) (Nat.not_lt_zero _)
  | n + 1, l, hd, h => by
    by_cases hm : n ∈ l
    · have h1 := nodup_lt n (l.erase n) (hd.erase n) (fun x hx => by
        have h2 := (hd.mem_erase_iff).1 hx
        have := h x h2.2; omega)
      have := List.length_erase_of_mem hm
      have := List.length_pos_of_mem hm
      omega
    · have := nodup_lt n l hd (fun x hx => by
        have := h x hx
        rcases Nat.lt_or_ge x n with h1 | h1
        · exact h1
        · have e : x = n := by omega
          subst e; exact absurd hx hm)
      omega
theorem nodup_len {out : List Int} (h : out.Nodup) (hb : ∀ n ∈ out, 0 ≤ n ∧ n ≤ 990) : out.length ≤ 991 := by
  have h1 : (out.map Int.toNat).Nodup := by
    rw [List.nodup_iff_pairwise_ne, List.pairwise_map]
    exact List.Pairwise.imp_of_mem (fun {a b} ha hb' hne e => hne (by have := hb a ha; have := hb b hb'; omega)) (List.nodup_iff_pairwise_ne.1 h)
  have h2 := nodup_lt 991 _ h1 (fun x hx => by
    obtain ⟨n, hn, rfl⟩ := List.mem_map.1 hx
    have := hb n hn
    omega)
  simpa using h2
theorem WorkI.len {M : Int → Option ObjD} {frm out : List Int} {i : Nat} (h : WorkI M frm out i) : out.length ≤ 991 := nodup_len h.1 h.2.1
theorem WorkI.start {M : Int → Option ObjD} {frm : List Int} (hn : frm.Nodup) (hb : ∀ n ∈ frm, 0 ≤ n ∧ n ≤ 990) : WorkI M frm frm 0 :=
  ⟨hn, hb, fun n h => h, fun P h1 _ => h1, fun j _ h => by omega⟩
theorem WorkI.done {M : Int → Option ObjD} {frm out : List Int} {i : Nat} (h : WorkI M frm out i) (hi : out.length ≤ i) : IsReach M frm out :=
  ⟨h.2.2.1, fun n hn o ho l hl => by
    obtain ⟨j, hj, rfl⟩ := List.getElem_of_mem hn
    exact h.2.2.2.2 j hj (by omega) o ho l hl, h.2.2.2.1⟩
/-- an id without an object -/
theorem WorkI.skip {M : Int → Option ObjD} {frm out : List Int} {i : Nat} (h : WorkI M frm out i) (hi : i < out.length) (hm : M out[i] = none) : WorkI M frm out (i + 1) := by
  refine ⟨h.1, h.2.1, h.2.2.1, h.2.2.2.1, fun j hj hji o ho => ?_⟩
  rcases Nat.lt_or_ge j i with h1 | h1
  · exact h.2.2.2.2 j hj h1 o ho
  · have : j = i := by omega
    subst this
    rw [hm] at ho; cases ho
theorem addTo_mem {out ls : List Int} : ∀ {j : Nat}, j ≤ ls.length → ∀ n, n ∈ addTo out ls j ↔ n ∈ out ∨ n ∈ ls.take j
  | 0, _, n => by simp [addTo_zero]
  | j + 1, hj, n => by
    have ih := addTo_mem (out := out) (ls := ls) (j := j) (by omega) n
    have ih2 := addTo_mem (out := out) (ls := ls) (j := j) (by omega) ls[j]
    rw [addTo_succ (by omega), List.take_succ_eq_append_getElem (by omega), List.mem_append, List.mem_singleton]
    by_cases h : ls[j] ∈ addTo out ls j
    · rw [if_pos h, ih]
      constructor
      · rintro (h1 | h1)
        · exact .inl h1
        · exact .inr (.inl h1)
      · rintro (h1 | h1 | rfl)
        · exact .inl h1
        · exact .inr h1
        · exact ih2.1 h
    · rw [if_neg h, List.mem_append, List.mem_singleton, ih, or_assoc]
theorem addTo_nodup {out ls : List Int} (h : out.Nodup) : ∀ {j : Nat}, j ≤ ls.length → (addTo out ls j).Nodup
  | 0, _ => h
  | j + 1, hj => by
    have ih := addTo_nodup h (ls := ls) (j := j) (by omega)
    rw [addTo_succ (by omega)]
    split
    · exact ih
    · rename_i hn
      rw [List.nodup_append]
      exact ⟨ih, by simp, fun a ha b hb e => by rw [List.mem_singleton.1 hb] at e; subst e; exact hn ha⟩
theorem addTo_prefix {out ls : List Int} : ∀ {j : Nat}, j ≤ ls.length → ∃ r, addTo out ls j = out ++ r
  | 0, _ => ⟨[], by simp [addTo_zero]⟩
  | j + 1, hj => by
    obtain ⟨r, hr⟩ := addTo_prefix (out := out) (ls := ls) (j := j) (by omega)
    rw [addTo_succ (by omega)]
    split
    · exact ⟨r, hr⟩
    · exact ⟨r ++ [ls[j]], by rw [hr, List.append_assoc]⟩
/-- an id whose object's links have been put behind -/
theorem WorkI.step {M : Int → Option ObjD} {frm out : List Int} {i : Nat} {o : ObjD} (h : WorkI M frm out i) (hi : i < out.length) (hm : M out[i] = some o) (hl : ∀ l ∈ o.links, 0 ≤ l ∧ l ≤ 990) : WorkI M frm (addTo out o.links o.links.length) (i + 1) := by
  have hmem : ∀ n, n ∈ addTo out o.links o.links.length ↔ n ∈ out ∨ n ∈ o.links := fun n => by
    have := addTo_mem (out := out) (ls := o.links) (Nat.le_refl _) n
    rwa [List.take_of_length_le (Nat.le_refl _)] at this
  obtain ⟨r, hr⟩ := addTo_prefix (out := out) (ls := o.links) (Nat.le_refl _)
  refine ⟨addTo_nodup h.1 (Nat.le_refl _), fun n hn => ?_, fun n hn => (hmem n).2 (.inl (h.2.2.1 n hn)), fun P h1 h2 n hn => ?_, fun j hj hji p hp l hpl => ?_⟩
  · rcases (hmem n).1 hn with h1 | h1
    · exact h.2.1 n h1
    · exact hl n h1
  · rcases (hmem n).1 hn with h3 | h3
    · exact h.2.2.2.1 P h1 h2 n h3
    · exact h2 _ o (h.2.2.2.1 P h1 h2 _ (List.getElem_mem hi)) hm n h3
  · have hjo : j < out.length := by omega
    have he : (addTo out o.links o.links.length)[j] = out[j] := by simp only [hr]; rw [List.getElem_append_left hjo]
    rw [he] at hp
    rcases Nat.lt_or_ge j i with h1 | h1
    · exact (hmem l).2 (.inl (h.2.2.2.2 j hjo h1 p hp l hpl))
    · have : j = i := by omega
      subst this
      rw [hm] at hp
      injection hp with hp
      subst hp
      exact (hmem l).2 (.inr hpl)

/-- what a queue, the ids that are stored and those that are missing hold while the queue is worked off -/
def WorkQ (M : Int → Option ObjD) (frm queue st ms : List Int) : Prop :=
  (st ++ ms).Nodup ∧ (∀ n ∈ queue ++ st ++ ms, 0 ≤ n ∧ n ≤ 990) ∧ (∀ n ∈ frm, n ∈ queue ++ st ++ ms) ∧
  (∀ P : Int → Prop, (∀ n ∈ frm, P n) → (∀ n o, P n → M n = some o → ∀ l ∈ o.links, P l) → ∀ n ∈ queue ++ st ++ ms, P n) ∧
  (∀ n ∈ st, ∃ o, M n = some o ∧ ∀ l ∈ o.links, l ∈ queue ++ st ++ ms) ∧ (∀ n ∈ ms, M n = none)
theorem WorkQ.start {M : Int → Option ObjD} {frm : List Int} (hb : ∀ n ∈ frm, 0 ≤ n ∧ n ≤ 990) : WorkQ M frm frm [] [] :=
  ⟨List.nodup_nil, by simpa using hb, by simp, fun P h1 _ => by simpa using h1, (fun n h => by cases h), (fun n h => by cases h)⟩
theorem WorkQ.done {M : Int → Option ObjD} {frm st ms : List Int} (h : WorkQ M frm [] st ms) : IsReach M frm (st ++ ms) := by
  obtain ⟨h1, h2, h3, h4, h5, h6⟩ := h
  simp only [List.nil_append] at h2 h3 h4 h5
  refine ⟨h3, fun n hn o ho l hl => ?_, h4⟩
  rcases List.mem_append.1 hn with hn | hn
  · obtain ⟨o', ho', hl'⟩ := h5 n hn
    rw [ho] at ho'
    injection ho' with e
    subst e
    exact hl' l hl
  · rw [h6 n hn] at ho; cases ho
theorem WorkQ.len {M : Int → Option ObjD} {frm queue st ms : List Int} (h : WorkQ M frm queue st ms) : st.length + ms.length ≤ 991 := by
  have := nodup_len h.1 (fun n hn => h.2.1 n (by rw [List.append_assoc]; exact List.mem_append_right _ hn))
  rwa [List.length_append] at this
/-- the first of the queue has been seen -/
theorem WorkQ.seen {M : Int → Option ObjD} {frm queue st ms : List Int} {n : Int} (h : WorkQ M frm (n :: queue) st ms) (hs : n ∈ st ++ ms) : WorkQ M frm queue st ms := by
  obtain ⟨h1, h2, h3, h4, h5, h6⟩ := h
  have key : ∀ m, m ∈ (n :: queue) ++ st ++ ms ↔ m ∈ queue ++ st ++ ms := fun m => by
    simp only [List.append_assoc, List.mem_append, List.mem_cons] at hs ⊢
    constructor
    · rintro ((rfl | h) | h)
      · exact .inr hs
      · exact .inl h
      · exact .inr h
    · rintro (h | h)
      · exact .inl (.inr h)
      · exact .inr h
  exact ⟨h1, fun m hm => h2 m ((key m).2 hm), fun m hm => (key m).1 (h3 m hm), fun P a b m hm => h4 P a b m ((key m).2 hm), fun m hm => by
    obtain ⟨o, ho, hl⟩ := h5 m hm
    exact ⟨o, ho, fun l hl' => (key l).1 (hl l hl')⟩, h6⟩
/-- .. is new, and missing -/
theorem WorkQ.miss {M : Int → Option ObjD} {frm queue st ms : List Int} {n : Int} (h : WorkQ M frm (n :: queue) st ms) (hs : n ∉ st ++ ms) (hm : M n = none) : WorkQ M frm queue st (ms ++ [n]) := by
  obtain ⟨h1, h2, h3, h4, h5, h6⟩ := h
  have key : ∀ m, m ∈ (n :: queue) ++ st ++ ms ↔ m ∈ queue ++ st ++ (ms ++ [n]) := fun m => by
    simp only [List.append_assoc, List.mem_append, List.mem_cons, List.mem_singleton, List.not_mem_nil, or_false]
    constructor
    · rintro ((rfl | h) | h | h)
      · exact .inr (.inr (.inr rfl))
      · exact .inl h
      · exact .inr (.inl h)
      · exact .inr (.inr (.inl h))
    · rintro (h | h | h | rfl)
      · exact .inl (.inr h)
      · exact .inr (.inl h)
      · exact .inr (.inr h)
      · exact .inl (.inl rfl)
  refine ⟨?_, fun m hm => h2 m ((key m).2 hm), fun m hm => (key m).1 (h3 m hm), fun P a b m hm => h4 P a b m ((key m).2 hm), fun m hm => ?_, fun m hm' => ?_⟩
  · rw [← List.append_assoc, List.nodup_append]
    exact ⟨h1, by simp, fun a ha b hb e => by rw [List.mem_singleton.1 hb] at e; subst e; exact hs ha⟩
  · obtain ⟨o, ho, hl⟩ := h5 m hm
    exact ⟨o, ho, fun l hl' => (key l).1 (hl l hl')⟩
  · rcases List.mem_append.1 hm' with h | h
    · exact h6 m h
    · rw [List.mem_singleton.1 h]; exact hm
/-- .. is new, and stored -/
theorem WorkQ.have_ {M : Int → Option ObjD} {frm queue st ms : List Int} {n : Int} {o : ObjD} (h : WorkQ M frm (n :: queue) st ms) (hs : n ∉ st ++ ms) (hm : M n = some o) (hl : ∀ l ∈ o.links, 0 ≤ l ∧ l ≤ 990) : WorkQ M frm (queue ++ o.links) (st ++ [n]) ms := by
  obtain ⟨h1, h2, h3, h4, h5, h6⟩ := h
  have key : ∀ m, m ∈ queue ++ o.links ++ (st ++ [n]) ++ ms ↔ m ∈ (n :: queue) ++ st ++ ms ∨ m ∈ o.links := fun m => by
    simp only [List.append_assoc, List.mem_append, List.mem_cons, List.mem_singleton, List.not_mem_nil, or_false]
    constructor
    · rintro (h | h | h | rfl | h)
      · exact .inl (.inl (.inr h))
      · exact .inr h
      · exact .inl (.inr (.inl h))
      · exact .inl (.inl (.inl rfl))
      · exact .inl (.inr (.inr h))
    · rintro (((rfl | h) | h | h) | h)
      · exact .inr (.inr (.inr (.inl rfl)))
      · exact .inl h
      · exact .inr (.inr (.inl h))
      · exact .inr (.inr (.inr (.inr h)))
      · exact .inr (.inl h)
  refine ⟨?_, fun m hm' => ?_, fun m hm' => (key m).2 (.inl (h3 m hm')), fun P a b m hm' => ?_, fun m hm' => ?_, h6⟩
  · rw [List.append_assoc]
    have hp : (st ++ ([n] ++ ms)).Perm (n :: (st ++ ms)) := by simp
    exact hp.nodup_iff.2 (List.nodup_cons.2 ⟨hs, h1⟩)
  · rcases (key m).1 hm' with h | h
    · exact h2 m h
    · exact hl m h
  · rcases (key m).1 hm' with h | h
    · exact h4 P a b m h
    · exact b n o (h4 P a b n (by simp)) hm m h
  · rcases List.mem_append.1 hm' with h | h
    · obtain ⟨o', ho', hl'⟩ := h5 m h
      exact ⟨o', ho', fun l hl'' => (key l).2 (.inl (hl' l hl''))⟩
    · rw [List.mem_singleton.1 h]
      exact ⟨o, hm, fun l hl'' => (key l).2 (.inr hl'')⟩
/-- the sorted halves -/
theorem WorkQ.halves {M : Int → Option ObjD} {frm st ms : List Int} (h : WorkQ M frm [] st ms) {ss mm : List Int} (hs : ss.Perm st) (hsa : ss.Pairwise (· ≤ ·)) (hm : mm.Perm ms) (hma : mm.Pairwise (· ≤ ·)) :
    ss = (reaL M frm).filter (fun n => (M n).isSome) ∧ mm = (reaL M frm).filter (fun n => (M n).isNone) := by
  have hR := h.done
  rw [reaL_of hR]
  obtain ⟨h1, h2, h3, h4, h5, h6⟩ := h
  simp only [List.nil_append] at h2
  have hnd := List.nodup_append.1 h1
  have strict : ∀ {xs ys : List Int}, xs.Perm ys → ys.Nodup → xs.Pairwise (· ≤ ·) → xs.Pairwise (· < ·) := fun hp hn ha => by
    have hx := List.nodup_iff_pairwise_ne.1 (hp.nodup_iff.2 hn)
    exact List.Pairwise.imp₂ (fun _ _ a b => by omega) ha hx
  refine ⟨asc_extI (strict hs hnd.1 hsa) (List.Pairwise.filter _ (srtR_asc _)) fun n => ?_, asc_extI (strict hm hnd.2.1 hma) (List.Pairwise.filter _ (srtR_asc _)) fun n => ?_⟩
  · rw [hs.mem_iff, List.mem_filter, srtR_mem, List.mem_append]
    constructor
    · intro hn
      obtain ⟨o, ho, -⟩ := h5 n hn
      exact ⟨⟨h2 n (List.mem_append_left _ hn), .inl hn⟩, by rw [ho]; rfl⟩
    · rintro ⟨⟨_, hn | hn⟩, hi⟩
      · exact hn
      · rw [h6 n hn] at hi; cases hi
  · rw [hm.mem_iff, List.mem_filter, srtR_mem, List.mem_append]
    constructor
    · intro hn
      exact ⟨⟨h2 n (List.mem_append_right _ hn), .inr hn⟩, by rw [h6 n hn]; rfl⟩
    · rintro ⟨⟨_, hn | hn⟩, hi⟩
      · obtain ⟨o, ho, -⟩ := h5 n hn
        rw [ho] at hi; cases hi
      · exact hn

end Go.Proofs.Ytnaeglfochnikaa
